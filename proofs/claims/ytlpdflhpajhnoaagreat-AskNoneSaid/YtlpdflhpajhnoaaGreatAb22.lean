/- The abstract layer, part 22: reads have one outcome; what an operation looks at. -/
import Derived.Test.YtlpdflhpajhnoaaGreatAb21
namespace Go.Ab

/-- One outcome, and nothing else is asked of what comes behind. -/
def DM {α : Type} (φ : (α → Prop) → Prop) : Prop := ∀ k, φ k → ∃ a, k a ∧ ∀ k', k' a → φ k'
def DM2 {α β : Type} (φ : (α → β → Prop) → Prop) : Prop := ∀ k, φ k → ∃ a b, k a b ∧ ∀ k', k' a b → φ k'
section
variable {α β γ : Type}
theorem DM.pure (a : α) : DM (fun k => k a) := fun _ h => ⟨a, h, fun _ h => h⟩
theorem DM.bad {n : Nat} : DM (fun _ : α → Prop => bad n) := fun _ h => h.elim
theorem DM.bind {φ : (α → Prop) → Prop} {ψ : α → (β → Prop) → Prop} (h1 : DM φ) (h2 : ∀ a, DM (ψ a)) : DM (fun k => φ (fun a => ψ a k)) := by
  intro k h
  obtain ⟨a, ha, f⟩ := h1 _ h
  obtain ⟨b, hb, g⟩ := h2 a k ha
  exact ⟨b, hb, fun k' h' => f _ (g k' h')⟩
theorem DM.bind2 {φ : (α → γ → Prop) → Prop} {ψ : α → γ → (β → Prop) → Prop} (h1 : DM2 φ) (h2 : ∀ a c, DM (ψ a c)) : DM (fun k => φ (fun a c => ψ a c k)) := by
  intro k h
  obtain ⟨a, c, ha, f⟩ := h1 _ h
  obtain ⟨b, hb, g⟩ := h2 a c k ha
  exact ⟨b, hb, fun k' h' => f _ (g k' h')⟩
theorem DM.guard {b : Bool} {φ : (α → Prop) → Prop} (h1 : DM φ) : DM (fun k => guardP b (φ k)) := by
  intro k h
  obtain ⟨hb, h⟩ := guardP_iff.1 h
  obtain ⟨a, ha, f⟩ := h1 k h
  exact ⟨a, ha, fun k' h' => guardP_iff.2 ⟨hb, f k' h'⟩⟩
theorem DM.cond {b : Bool} {φ ψ : (α → Prop) → Prop} (h1 : DM φ) (h2 : DM ψ) : DM (fun k => condB b (φ k) (ψ k)) := by
  cases b
  · exact h2
  · exact h1
theorem nthK_dm {l : List α} {n : Nat} : DM (nthK l n) := by
  intro k h
  obtain ⟨a, h1, h2⟩ := nthK_iff.1 h
  exact ⟨a, h2, fun k' h' => nthK_iff.2 ⟨a, h1, h'⟩⟩
theorem dropK_dm {l : List α} {n : Nat} : DM (dropK l n) := fun k h => ⟨_, (dropK_iff.1 h).2, fun k' h' => dropK_iff.2 ⟨(dropK_iff.1 h).1, h'⟩⟩
theorem takeK_dm {l : List α} {n : Nat} : DM (takeK l n) := fun k h => ⟨_, (takeK_iff.1 h).2, fun k' h' => takeK_iff.2 ⟨(takeK_iff.1 h).1, h'⟩⟩
theorem mapK_dm {f : α → β} {l : List α} : DM (mapK f l) := fun k h => ⟨_, mapK_iff.1 h, fun k' h' => mapK_iff.2 h'⟩
theorem storeK_dm {l vs : List α} {n : Nat} : DM (storeK l n vs) := fun k h => ⟨_, (storeK_of h).2, fun k' h' => storeK_to (storeK_of h).1 h'⟩
end
theorem getK_dm {T : Tm} {n : Nat} : DM (getK T n) := fun k h => ⟨_, getK_iff.1 h, fun k' h' => getK_iff.2 h'⟩
theorem evK_dm {T : Tm} : ∀ {x : Operand}, DM (evK T x)
  | .tmp t => getK_dm
  | .const v => by
    intro k h
    cases v with
    | func f fs cs =>
      obtain ⟨fs⟩ := fs; obtain ⟨cs⟩ := cs
      cases fs <;> cases cs <;> exact ⟨_, h, fun k' h' => h'⟩
    | _ => exact ⟨_, h, fun k' h' => h'⟩
  | .func f => DM.pure _
  | .global g => fun k h => bad.elim h
theorem evsK_dm {T : Tm} : ∀ {l : List Operand}, DM (evsK T l)
  | [] => DM.pure _
  | x :: l => show DM (fun k => evK T x (fun v => evsK T l (fun vs => k (v :: vs)))) from DM.bind evK_dm fun _ => DM.bind (evsK_dm (l := l)) fun _ => DM.pure _
theorem evpK_dm {T : Tm} : ∀ {l : List (Nat × Operand)}, DM (evpK T l)
  | [] => DM.pure _
  | x :: l => show DM (fun k => evK T x.2 (fun v => evpK T l (fun vs => k ((x.1, v) :: vs)))) from DM.bind evK_dm fun _ => DM.bind (evpK_dm (l := l)) fun _ => DM.pure _
theorem optEvK_dm {T : Tm} : ∀ {x : Option Operand}, DM (optEvK T x)
  | none => DM.pure _
  | some x => show DM (fun k => evK T x (fun v => k (some v))) from DM.bind evK_dm fun _ => DM.pure _
section
variable {tt : TyT} {H : Heap}
theorem cellsK_dm {id : Nat} : DM2 (cellsK H id) := by
  intro k h
  obtain ⟨o, h1, h2⟩ := nthK_iff.1 h
  cases o with
  | cells T cs => exact ⟨T, cs, h2, fun k' h' => nthK_iff.2 ⟨_, h1, h'⟩⟩
  | _ => exact bad.elim h2
theorem loadK_dm {t : Nat} {a : AV} : DM (loadK tt H t a) := by
  unfold loadK
  cases a with
  | ptr id off =>
    refine DM.bind2 cellsK_dm fun _ cs => ?_
    cases hd : tt.find t with
    | none => exact DM.bad
    | some d =>
      dsimp only
      cases d.isAgg with
      | true => exact DM.bind dropK_dm fun _ => DM.bind takeK_dm fun _ => DM.pure _
      | false => exact nthK_dm
  | ro d =>
    cases d with
    | ptr cs =>
      dsimp only
      cases hd : tt.find t with
      | none => exact DM.bad
      | some d =>
        dsimp only
        cases d.isAgg with
        | true => exact DM.bind takeK_dm fun _ => DM.bind mapK_dm fun _ => DM.pure _
        | false => exact DM.bind nthK_dm fun _ => DM.pure _
    | _ => exact DM.bad
  | _ => exact DM.bad
theorem fieldK_dm {s f : Nat} {a : AV} : DM (fieldK tt s a f) := by
  unfold fieldK
  cases hd : tt.find s with
  | none => exact DM.bad
  | some d =>
    cases d with
    | st fs zs c ag =>
      refine DM.bind nthK_dm fun p => ?_
      cases a with
      | ptr => exact DM.pure _
      | ro d =>
        cases d with
        | ptr => exact DM.bind dropK_dm fun _ => DM.pure _
        | _ => exact DM.bad
      | _ => exact DM.bad
    | _ => exact DM.bad
theorem indexAddrK_dm {t : Nat} {x i : AV} : DM (indexAddrK tt t x i) := by
  unfold indexAddrK
  cases i with
  | ro d =>
    cases d with
    | int kd n =>
      dsimp only
      cases hd : tt.find t with
      | none => exact DM.bad
      | some d =>
        cases d with
        | sl =>
          dsimp only
          cases x with
          | sl => exact DM.guard (DM.pure _)
          | ro d =>
            cases d with
            | slice => exact DM.guard (DM.bind dropK_dm fun _ => DM.pure _)
            | _ => exact DM.bad
          | _ => exact DM.bad
        | arr =>
          refine DM.guard ?_
          cases x with
          | ptr => exact DM.pure _
          | ro d =>
            cases d with
            | ptr => exact DM.bind dropK_dm fun _ => DM.pure _
            | _ => exact DM.bad
          | _ => exact DM.bad
        | _ => exact DM.bad
    | _ => exact DM.bad
  | _ => exact DM.bad
theorem eqInts_dm : ∀ {z : List RD} {x y : List AV}, DM (eqInts z x y)
  | [], [], [] => DM.pure _
  | z, x, y => by
    intro k h
    unfold eqInts at h
    split at h
    · exact ⟨_, h, fun k' h' => by unfold eqInts; exact h'⟩
    · rename_i k1 n1 z ka a x kb b y
      have := DM.guard (b := kindEq ka kb) (DM.bind (eqInts_dm (z := z) (x := x) (y := y)) fun r => DM.pure (a == b && r)) k h
      obtain ⟨r, h1, h2⟩ := this
      exact ⟨r, h1, fun k' h' => by unfold eqInts; exact h2 k' h'⟩
    · rename_i b1 z a x b y
      have := (DM.bind (eqInts_dm (z := z) (x := x) (y := y)) fun r => DM.pure (a == b && r)) k h
      obtain ⟨r, h1, h2⟩ := this
      exact ⟨r, h1, fun k' h' => by unfold eqInts; exact h2 k' h'⟩
    · exact h.elim
theorem eqlK_dm {t : Nat} {c : Bool} {a b : AV} (hs : slTy tt t = false) : DM (eqlK tt t c a b) := by
  intro k h
  unfold eqlK at h
  split at h
  all_goals (try (rename_i hd))
  · split at h
    · exact ⟨_, h, fun k' h' => by unfold eqlK; simp only [hd]; exact h'⟩
    · exact h.elim
  · split at h
    all_goals first | exact h.elim | exact ⟨_, h, fun k' h' => by unfold eqlK; simp only [hd]; exact h'⟩
  · rename_i e esz eb ez
    simp [slTy, hd] at hs
  · split at h
    all_goals first | exact h.elim | exact ⟨_, h, fun k' h' => by unfold eqlK; simp only [hd]; exact h'⟩
  · split at h
    all_goals first | exact h.elim | exact ⟨_, h, fun k' h' => by unfold eqlK; simp only [hd]; exact h'⟩
  · split at h
    · obtain ⟨r, h1, h2⟩ := eqInts_dm _ h
      exact ⟨_, h1, fun k' h' => by unfold eqlK; simp only [hd]; exact h2 k' h'⟩
    · exact h.elim
  · exact h.elim
theorem binIntK_dm {op : BinOp} {ka : IntKind} {x y : Int} : DM (binIntK op ka x y) := by
  unfold binIntK
  cases op <;> first | exact DM.pure _ | exact DM.guard (DM.pure _) | exact DM.bad
theorem shiftK_dm {op : BinOp} {ka : IntKind} {x y : Int} : DM (shiftK op ka x y) := by
  unfold shiftK
  cases op <;> exact DM.guard (by first | exact DM.pure _ | exact DM.bad)
theorem binK_dm {op : BinOp} {t : Nat} {c : Bool} {a b : AV} (hs : slTy tt t = false) : DM (binK tt op t c a b) := by
  intro k h
  unfold binK at h
  split at h
  · split at h
    · obtain ⟨v, h1, h2⟩ := shiftK_dm _ h; exact ⟨v, h1, fun k' h' => by unfold binK; exact h2 k' h'⟩
    · obtain ⟨v, h1, h2⟩ := shiftK_dm _ h; exact ⟨v, h1, fun k' h' => by unfold binK; exact h2 k' h'⟩
    · rename_i ka x kb y op hn1 hn2
      obtain ⟨v, h1, h2⟩ := (DM.guard binIntK_dm) k h
      refine ⟨v, h1, fun k' h' => ?_⟩
      unfold binK
      dsimp only
      split
      · exact (hn1 rfl).elim
      · exact (hn2 rfl).elim
      · exact h2 k' h'
  · split at h
    · exact ⟨_, h, fun k' h' => by unfold binK; exact h'⟩
    · exact ⟨_, h, fun k' h' => by unfold binK; exact h'⟩
    · exact h.elim
  · rename_i a b hn1 hn2
    cases op with
    | eql =>
      obtain ⟨r, h1, h2⟩ := eqlK_dm hs _ h
      refine ⟨_, h1, fun k' h' => ?_⟩
      have h3 := h2 (fun r => k' (.ro (.bool r))) h'
      unfold binK
      split
      · exact (hn1 _ _ _ _ rfl rfl).elim
      · exact (hn2 _ _ rfl rfl).elim
      · exact h3
    | neq =>
      obtain ⟨r, h1, h2⟩ := eqlK_dm hs _ h
      refine ⟨_, h1, fun k' h' => ?_⟩
      have h3 := h2 (fun r => k' (.ro (.bool (!r)))) h'
      unfold binK
      split
      · exact (hn1 _ _ _ _ rfl rfl).elim
      · exact (hn2 _ _ rfl rfl).elim
      · exact h3
    | _ => exact h.elim
theorem unK_dm {op : UnOp} {a : AV} : DM (unK op a) := by
  intro k h
  unfold unK at h
  split at h
  all_goals first | exact h.elim | exact ⟨_, h, fun k' h' => by unfold unK; exact h'⟩
theorem cellsFromK_dm {esz : Nat} {x : AV} : DM2 (cellsFromK H esz x) := by
  intro k h
  unfold cellsFromK at h
  split at h
  · obtain ⟨hb, h⟩ := guardP_iff.1 h
    obtain ⟨T, cs, h, f⟩ := cellsK_dm _ h
    obtain ⟨cs1, h, g⟩ := dropK_dm _ h
    obtain ⟨cs2, h, g2⟩ := takeK_dm _ h
    exact ⟨_, _, h, fun k' h' => by unfold cellsFromK; exact guardP_iff.2 ⟨hb, f (fun _ cs => dropK cs _ (fun cs => takeK cs _ (fun cs => k' _ cs))) (g _ (g2 _ h'))⟩⟩
  · obtain ⟨hb, h⟩ := guardP_iff.1 h
    exact ⟨_, _, mapK_iff.1 h, fun k' h' => by unfold cellsFromK; exact guardP_iff.2 ⟨hb, mapK_iff.2 h'⟩⟩
  · obtain ⟨hb, h⟩ := guardP_iff.1 h
    exact ⟨_, _, h, fun k' h' => by unfold cellsFromK; exact guardP_iff.2 ⟨hb, h'⟩⟩
  · exact h.elim
theorem convB_dm {s : Nat} {x : AV} {n m : Nat} : DM (fun k => match tt.find s with
    | some (.sl e _ _ _) => (match tt.find e with
      | some (.int .u8) => cellsFromK H 1 x (fun _ cs => bytesK cs (fun bs => k (AV.ro (.str ⟨bs.toArray⟩))))
      | _ => bad n)
    | _ => bad m) := by
  intro k h
  split at h
  · rename_i hs
    split at h
    · rename_i he
      obtain ⟨n, cs, h, f⟩ := cellsFromK_dm _ h
      obtain ⟨bs, hbs, h⟩ := h
      refine ⟨_, h, fun k' h' => ?_⟩
      simp only [hs, he]
      exact f (fun _ cs => bytesK cs (fun bs => k' (.ro (.str ⟨bs.toArray⟩)))) ⟨bs, hbs, h'⟩
    · exact h.elim
  · exact h.elim
theorem convK_dm {s d : Nat} {x : AV} : DM (convK tt s d H x) := by
  unfold convK
  cases hd : tt.find d with
  | none => exact DM.bad
  | some d =>
    cases d with
    | int kd =>
      cases x with
      | ro d => cases d <;> first | exact DM.pure _ | exact DM.bad
      | _ => exact DM.bad
    | str =>
      cases x with
      | ro d => cases d <;> first | exact DM.pure _ | exact convB_dm
      | _ => exact convB_dm
    | _ => exact DM.bad
theorem fillK_dm : ∀ {r : List (Nat × AV)} {z : List AV} {fs : List (Nat × Nat)}, DM (fillK z fs r)
  | [], z, fs => fun k h => ⟨z, h, fun k' h' => h'⟩
  | (i, v) :: r, z, fs => fun k h => (DM.bind nthK_dm fun f => DM.guard (DM.bind storeK_dm fun _ => fillK_dm)) k h
theorem fillEK_dm {esz : Nat} : ∀ {r : List (Nat × AV)} {z : List AV}, DM (fillEK esz z r)
  | [], z => fun k h => ⟨z, h, fun k' h' => h'⟩
  | (i, v) :: r, z => fun k h => (DM.guard (DM.bind storeK_dm fun _ => fillEK_dm)) k h
theorem buildK_dm {t : Nat} {ps : List (Nat × AV)} : DM (buildK tt t ps) := by
  unfold buildK
  cases tt.find t with
  | none => exact DM.bad
  | some d =>
    cases d with
    | st => exact DM.bind mapK_dm fun _ => DM.bind fillK_dm fun _ => DM.pure _
    | arr => exact DM.bind mapK_dm fun _ => DM.bind fillEK_dm fun _ => DM.pure _
    | _ => exact DM.bad
def DM3 {α β γ : Type} (φ : (α → β → γ → Prop) → Prop) : Prop := ∀ k, φ k → ∃ a b c, k a b c ∧ ∀ k', k' a b c → φ k'
theorem DM.bind3 {α β γ δ : Type} {φ : (α → β → γ → Prop) → Prop} {ψ : α → β → γ → (δ → Prop) → Prop} (h1 : DM3 φ) (h2 : ∀ a b c, DM (ψ a b c)) : DM (fun k => φ (fun a b c => ψ a b c k)) := by
  intro k h
  obtain ⟨a, b, c, ha, f⟩ := h1 _ h
  obtain ⟨d, hd, g⟩ := h2 a b c k ha
  exact ⟨d, hd, fun k' h' => f _ (g k' h')⟩
theorem boundK_dm {x : Option AV} {d m : Nat} : DM (boundK x d m) := by
  intro k h
  unfold boundK at h
  split at h
  · exact ⟨_, h, fun k' h' => by unfold boundK; exact h'⟩
  · obtain ⟨hb, h⟩ := guardP_iff.1 h
    exact ⟨_, h, fun k' h' => by unfold boundK; exact guardP_iff.2 ⟨hb, h'⟩⟩
  · exact h.elim
theorem boundsK_dm {len cap most : Nat} {lo hi mx : Option AV} : DM3 (boundsK len cap most lo hi mx) := by
  intro k h
  unfold boundsK at h
  split at h
  · obtain ⟨h1, h, f⟩ := boundK_dm _ h
    obtain ⟨l, h, g⟩ := boundK_dm _ h
    exact ⟨l, h1, cap, h, fun k' h' => by unfold boundsK; exact f _ (g _ h')⟩
  · obtain ⟨m, h, e⟩ := boundK_dm _ h
    obtain ⟨h1, h, f⟩ := boundK_dm _ h
    obtain ⟨l, h, g⟩ := boundK_dm _ h
    exact ⟨l, h1, m, h, fun k' h' => by unfold boundsK; exact e _ (f _ (g _ h'))⟩
  · exact h.elim
theorem sliceK_dm {esz : Nat} {x : AV} {lo hi mx : Option AV} : DM (sliceK esz x lo hi mx) := by
  intro k h
  unfold sliceK at h
  split at h
  · obtain ⟨hb, h⟩ := guardP_iff.1 h
    obtain ⟨l, h1, m, h, f⟩ := boundsK_dm _ h
    cases hc : decide (m = l)
    all_goals
      rw [hc] at h
      refine ⟨_, h, fun k' h' => ?_⟩
      unfold sliceK
      refine guardP_iff.2 ⟨hb, f _ ?_⟩
      simp only [hc]
      exact h'
  · obtain ⟨hb, h⟩ := guardP_iff.1 h
    cases mx with
    | none =>
      obtain ⟨l, h1, m, h, f⟩ := boundsK_dm _ h
      cases hc : decide (l = 0)
      · cases hc2 : decide (l = h1)
        all_goals
          rw [hc] at h
          rw [hc2] at h
          refine ⟨_, h, fun k' h' => ?_⟩
          unfold sliceK
          refine guardP_iff.2 ⟨hb, f _ ?_⟩
          simp only [hc, hc2]
          exact h'
      · rw [hc] at h
        refine ⟨_, h, fun k' h' => ?_⟩
        unfold sliceK
        refine guardP_iff.2 ⟨hb, f _ ?_⟩
        simp only [hc]
        exact h'
    | some mx =>
      obtain ⟨l, h1, m, h, f⟩ := boundsK_dm _ h
      cases hc : decide (m = l)
      all_goals
        rw [hc] at h
        refine ⟨_, h, fun k' h' => ?_⟩
        unfold sliceK
        refine guardP_iff.2 ⟨hb, f _ ?_⟩
        simp only [hc]
        exact h'
  · obtain ⟨hb, h⟩ := guardP_iff.1 h
    obtain ⟨l, h1, m, h, f⟩ := boundsK_dm _ h
    refine ⟨_, h, fun k' h' => ?_⟩
    unfold sliceK
    exact guardP_iff.2 ⟨hb, f _ h'⟩
  · obtain ⟨hb, h⟩ := guardP_iff.1 h
    cases mx with
    | none =>
      obtain ⟨l, h1, m, h, f⟩ := boundsK_dm _ h
      refine ⟨_, h, fun k' h' => ?_⟩
      unfold sliceK
      exact guardP_iff.2 ⟨hb, f _ h'⟩
    | some mx =>
      obtain ⟨l, h1, m, h, f⟩ := boundsK_dm _ h
      refine ⟨_, h, fun k' h' => ?_⟩
      unfold sliceK
      exact guardP_iff.2 ⟨hb, f _ h'⟩
  · exact h.elim
theorem sliceOpK_dm {t : Nat} {x : AV} {lo hi mx : Option AV} : DM (sliceOpK tt H t x lo hi mx) := by
  unfold sliceOpK
  cases tt.find t with
  | none => exact DM.bad
  | some d =>
    cases d with
    | sl => exact sliceK_dm
    | str =>
      dsimp only
      cases x with
      | ro d =>
        cases d with
        | str s =>
          cases mx with
          | none => exact DM.bind boundK_dm fun _ => DM.bind boundK_dm fun _ => DM.pure _
          | some _ => exact DM.bad
        | _ => exact DM.bad
      | _ => exact DM.bad
    | arr =>
      dsimp only
      cases x with
      | ptr => exact DM.bind2 cellsK_dm fun _ cs => DM.guard (DM.bind3 boundsK_dm fun _ _ _ => DM.guard (DM.pure _))
      | _ => exact DM.bad
    | _ => exact DM.bad
theorem keyEqK_dm {kb : Bool} {a b : AV} : DM (keyEqK kb a b) := by
  intro k h
  unfold keyEqK at h
  split at h
  · obtain ⟨hb, h⟩ := guardP_iff.1 h
    exact ⟨_, h, fun k' h' => by unfold keyEqK; exact guardP_iff.2 ⟨hb, h'⟩⟩
  · exact ⟨_, h, fun k' h' => by unfold keyEqK; exact h'⟩
  · exact h.elim
theorem findK_dm {kb : Bool} {x : AV} : ∀ {l : List (AV × AV)}, DM (findK kb x l)
  | [] => DM.pure _
  | e :: l => show DM (fun k => keyEqK kb x e.1 (fun b => condB b (k (some e.2)) (findK kb x l k))) from DM.bind keyEqK_dm fun _ => DM.cond (DM.pure _) findK_dm
theorem foundK_dm {agg : Bool} {ez : List RD} {ok : Bool} {v : Option AV} : DM (foundK agg ez ok v) := by
  unfold foundK
  cases v with
  | some v => cases ok <;> exact DM.pure _
  | none =>
    cases agg with
    | true => cases ok <;> exact DM.bind mapK_dm fun _ => DM.pure _
    | false =>
      cases ez with
      | nil => cases ok <;> exact DM.bad
      | cons z r => cases r <;> cases ok <;> first | exact DM.pure _ | exact DM.bad
theorem lookupK_dm {t : Nat} {m x : AV} {ok : Bool} : DM (lookupK tt H t m x ok) := by
  unfold lookupK
  cases tt.find t with
  | none => exact DM.bad
  | some d =>
    cases d with
    | mp kt e kb agg ez =>
      refine DM.guard ?_
      cases m with
      | mp id =>
        refine DM.bind nthK_dm fun o => ?_
        cases o with
        | map es => exact DM.bind findK_dm fun _ => foundK_dm
        | _ => exact DM.bad
      | ro d =>
        cases d with
        | nilmap => exact foundK_dm
        | _ => exact DM.bad
      | _ => exact DM.bad
    | _ => exact DM.bad
theorem fieldVK_dm {t f : Nat} {v : AV} : DM (fieldVK tt t v f) := by
  unfold fieldVK
  cases v with
  | agg cs =>
    cases tt.find t with
    | none => exact DM.bad
    | some d =>
      cases d with
      | st => exact DM.bind nthK_dm fun p => DM.bind nthK_dm fun b => by cases b <;> first | exact nthK_dm | exact DM.bind dropK_dm fun _ => DM.bind takeK_dm fun _ => DM.pure _
      | _ => exact DM.bad
  | _ => exact DM.bad
theorem indexVK_dm {t : Nat} {x i : AV} : DM (indexVK tt t x i) := by
  intro k h
  unfold indexVK at h
  split at h
  · rename_i hd
    obtain ⟨hb, h⟩ := guardP_iff.1 h
    exact ⟨_, h, fun k' h' => by unfold indexVK; simp only [hd]; exact guardP_iff.2 ⟨hb, h'⟩⟩
  · rename_i hd
    split at h
    · rename_i he
      obtain ⟨a, h1, h2⟩ := (DM.guard nthK_dm) k h
      exact ⟨_, h1, fun k' h' => by unfold indexVK; simp only [hd, he]; exact h2 k' h'⟩
    · exact h.elim
  · exact h.elim
theorem lenK_dm {x : AV} : DM (lenK x) := by
  intro k h
  unfold lenK at h
  split at h
  · exact ⟨_, h, fun k' h' => by unfold lenK; exact h'⟩
  · obtain ⟨hb, h⟩ := guardP_iff.1 h
    exact ⟨_, h, fun k' h' => by unfold lenK; exact guardP_iff.2 ⟨hb, h'⟩⟩
  · exact h.elim
theorem builtinK_dm {b : Builtin} {ts : List Nat} {vs : List AV} (hb : isReadB b = true) : DM (fun k => builtinK tt H b ts vs (fun v _ => k v)) := by
  intro k h
  unfold builtinK at h
  split at h
  · split at h
    · split at h
      · rename_i hd
        obtain ⟨a, h1, h2⟩ := lenK_dm _ h
        exact ⟨a, h1, fun k' h' => by unfold builtinK; simp only [hd]; exact h2 _ h'⟩
      · rename_i hd
        unfold lenStrK at h
        split at h
        · exact ⟨_, h, fun k' h' => by unfold builtinK lenStrK; simp only [hd]; exact h'⟩
        · exact h.elim
      · rename_i hd
        exact ⟨_, h, fun k' h' => by unfold builtinK; simp only [hd]; exact h'⟩
      · exact h.elim
    · exact h.elim
  · simp [isReadB] at hb
  · simp [isReadB] at hb
  · split at h
    · unfold min2K at h
      split at h
      · exact ⟨_, h, fun k' h' => by unfold builtinK min2K; exact h'⟩
      · exact h.elim
    · exact h.elim
  · split at h
    · unfold max2K at h
      split at h
      · exact ⟨_, h, fun k' h' => by unfold builtinK max2K; exact h'⟩
      · exact h.elim
    · exact h.elim
  · split at h
    · split at h
      · rename_i hd; exact ⟨_, h, fun k' h' => by unfold builtinK; simp only [hd]; exact h'⟩
      · rename_i hd; exact ⟨_, h, fun k' h' => by unfold builtinK; simp only [hd]; exact h'⟩
      · exact h.elim
    · exact h.elim
  · exact h.elim
theorem opK_dm {o : Oper} {T : Tm} (hr : isRead o.op = true) (hd : detOp tt o.op = true) : DM (fun k => opK tt o T H (fun v _ => k v)) := by
  obtain ⟨dst, op, rt, pos, after, guard⟩ := o
  unfold opK
  cases op with
  | move x => exact evK_dm
  | assign x => exact evK_dm
  | pick c a b =>
    refine DM.bind evK_dm fun c => ?_
    cases c with
    | ro d =>
      cases d with
      | bool b => exact DM.cond evK_dm evK_dm
      | _ => exact DM.bad
    | _ => exact DM.bad
  | build t ps => exact DM.bind evpK_dm fun _ => buildK_dm
  | load t a => exact DM.bind evK_dm fun _ => loadK_dm
  | nilCheck x =>
    refine DM.bind evK_dm fun v => ?_
    cases v with
    | ptr => exact DM.pure _
    | fn f fs cs => cases f <;> first | exact DM.pure _ | exact DM.bad
    | ro d =>
      cases d with
      | ptr => exact DM.pure _
      | fn f => cases f <;> first | exact DM.pure _ | exact DM.bad
      | _ => exact DM.bad
    | _ => exact DM.bad
  | binOp op t x y t2 =>
    have hs : slTy tt t = false := by simpa [detOp] using hd
    refine DM.bind evK_dm fun a => DM.bind evK_dm fun b => ?_
    intro k h
    obtain ⟨v, h1, h2⟩ := binK_dm hs _ h
    exact ⟨v, splitV_iff.1 h1, fun k' h' => h2 _ (splitV_iff.2 h')⟩
  | unOp op t x => exact DM.bind evK_dm fun _ => unK_dm
  | convert s d x =>
    refine DM.bind evK_dm fun a => ?_
    cases tt.find s with
    | none => exact DM.bad
    | some _ => exact convK_dm
  | makeFunc fn a b => exact DM.bind evsK_dm fun _ => DM.bind evsK_dm fun _ => DM.pure _
  | slice t x l h m => exact DM.bind evK_dm fun _ => DM.bind optEvK_dm fun _ => DM.bind optEvK_dm fun _ => DM.bind optEvK_dm fun _ => sliceOpK_dm
  | fieldAddr s x f => exact DM.bind evK_dm fun _ => fieldK_dm
  | field t x f => exact DM.bind evK_dm fun _ => fieldVK_dm
  | indexAddr t x i => exact DM.bind evK_dm fun _ => DM.bind evK_dm fun _ => indexAddrK_dm
  | index t x i => exact DM.bind evK_dm fun _ => DM.bind evK_dm fun _ => indexVK_dm
  | lookup t m x ok => exact DM.bind evK_dm fun _ => DM.bind evK_dm fun _ => lookupK_dm
  | extract t i =>
    refine DM.bind evK_dm fun v => ?_
    cases v with
    | tup vs => exact nthK_dm
    | _ => exact DM.bad
  | makeInterface t x =>
    refine DM.bind evK_dm fun v => ?_
    cases v with
    | agg cs =>
      dsimp only
      cases tt.find t with
      | none => exact DM.bad
      | some d => cases d <;> first | exact DM.pure _ | exact DM.bad
    | _ => exact DM.bad
  | call c =>
    obtain ⟨callee, args, tys⟩ := c
    cases callee with
    | builtin b => exact DM.bind evsK_dm fun _ => builtinK_dm hr
    | _ => simp [isRead] at hr
  | _ => simp [isRead] at hr
end
end Go.Ab
