/- The abstract layer, part 23: an operation looks at its operands alone; what does not ask memory; one step of the evaluator that enters calls. -/
import Derived.Test.YtlpdflhpajhnoaaGreatAb22
namespace Go.Ab

/-! ### Operands alone -/
def agree (l : List Nat) (m T : Tm) : Prop := ∀ t ∈ l, m.get t = T.get t
theorem agree_sub {l l' : List Nat} {m T : Tm} (h : agree l m T) (hs : ∀ t ∈ l', t ∈ l) : agree l' m T := fun t ht => h t (hs t ht)
theorem tmpsOf_mem {t : Nat} : ∀ {l : List Operand}, Operand.tmp t ∈ l → t ∈ tmpsOf l
  | [], h => by cases h
  | x :: l, h => by
    rcases List.mem_cons.1 h with h | h
    · subst h; simp [tmpsOf]
    · have := tmpsOf_mem h
      cases x <;> simp [tmpsOf, this]
theorem evK_congr {m T : Tm} {x : Operand} (h : ∀ t, x = .tmp t → m.get t = T.get t) : evK m x = evK T x := by
  funext k
  cases x with
  | tmp t =>
    have e : ∀ S : Tm, evK S (.tmp t) k = getK S t k := fun _ => rfl
    rw [e, e]
    apply propext
    rw [getK_iff, getK_iff, h t rfl]
  | const v => cases v <;> rfl
  | func f => rfl
  | global g => rfl
theorem evsK_congr {m T : Tm} : ∀ {l : List Operand}, (∀ t, Operand.tmp t ∈ l → m.get t = T.get t) → evsK m l = evsK T l
  | [], _ => rfl
  | x :: l, h => by
    funext k
    have e : ∀ S : Tm, evsK S (x :: l) k = evK S x (fun v => evsK S l (fun vs => k (v :: vs))) := fun _ => rfl
    rw [e, e, evK_congr (T := T) (fun t ht => h t (by simp [ht])), evsK_congr (T := T) (fun t ht => h t (by simp [ht]))]
theorem evpK_congr {m T : Tm} : ∀ {l : List (Nat × Operand)}, (∀ t, Operand.tmp t ∈ l.map (·.2) → m.get t = T.get t) → evpK m l = evpK T l
  | [], _ => rfl
  | x :: l, h => by
    funext k
    have e : ∀ S : Tm, evpK S (x :: l) k = evK S x.2 (fun v => evpK S l (fun vs => k ((x.1, v) :: vs))) := fun _ => rfl
    rw [e, e, evK_congr (T := T) (fun t ht => h t (by simp [ht])), evpK_congr (T := T) (fun t ht => h t (by simp only [List.map_cons, List.mem_cons]; exact .inr ht))]
theorem optEvK_congr {m T : Tm} {x : Option Operand} (h : ∀ t, x = some (.tmp t) → m.get t = T.get t) : optEvK m x = optEvK T x := by
  funext k
  cases x with
  | none => rfl
  | some x =>
    have e : ∀ S : Tm, optEvK S (some x) k = evK S x (fun v => k (some v)) := fun _ => rfl
    rw [e, e, evK_congr (T := T) (fun t ht => h t (by rw [ht]))]
section
variable {tt : TyT} {H : Heap} {m T : Tm}
theorem ofOperands {o : Oper} (h : agree (tmpsOf o.op.operands.toList) m T) : ∀ t, Operand.tmp t ∈ o.op.operands.toList → m.get t = T.get t := fun t ht => h t (tmpsOf_mem ht)
theorem opK_congr {o : Oper} (h0 : agree (tmpsOf o.op.operands.toList) m T) : opK tt o m H = opK tt o T H := by
  have h := ofOperands h0
  clear h0
  obtain ⟨dst, op, rt, pos, after, guard⟩ := o
  funext k
  unfold opK
  cases op <;> dsimp only at h ⊢
  case move x => rw [evK_congr (T := T) (fun t ht => h t (by simp [Op.operands, ht]))]
  case assign x => rw [evK_congr (T := T) (fun t ht => h t (by simp [Op.operands, ht]))]
  case pick c a b => rw [evK_congr (x := c) (T := T) (fun t ht => h t (by simp [Op.operands, ht])), evK_congr (x := a) (T := T) (fun t ht => h t (by simp [Op.operands, ht])), evK_congr (x := b) (T := T) (fun t ht => h t (by simp [Op.operands, ht]))]
  case box e x => rw [evK_congr (T := T) (fun t ht => h t (by simp [Op.operands, ht]))]
  case build t ps => rw [evpK_congr (T := T) (fun t ht => h t (by simpa [Op.operands] using ht))]
  case buildSlice t n ps => rw [evpK_congr (T := T) (fun t ht => h t (by simpa [Op.operands] using ht))]
  case load t a => rw [evK_congr (T := T) (fun t ht => h t (by simp [Op.operands, ht]))]
  case store t a x => rw [evK_congr (x := a) (T := T) (fun t ht => h t (by simp [Op.operands, ht])), evK_congr (x := x) (T := T) (fun t ht => h t (by simp [Op.operands, ht]))]
  case nilCheck x => rw [evK_congr (T := T) (fun t ht => h t (by simp [Op.operands, ht]))]
  case binOp op t x y t2 => rw [evK_congr (x := x) (T := T) (fun t ht => h t (by simp [Op.operands, ht])), evK_congr (x := y) (T := T) (fun t ht => h t (by simp [Op.operands, ht]))]
  case unOp op t x => rw [evK_congr (T := T) (fun t ht => h t (by simp [Op.operands, ht]))]
  case convert s d x => rw [evK_congr (T := T) (fun t ht => h t (by simp [Op.operands, ht]))]
  case makeFunc f a b => rw [evsK_congr (l := a.toList) (T := T) (fun t ht => h t (by simp [Op.operands] at ht ⊢; exact .inl ht)), evsK_congr (l := b.toList) (T := T) (fun t ht => h t (by simp [Op.operands] at ht ⊢; exact .inr ht))]
  case makeSlice t l c => rw [evK_congr (x := l) (T := T) (fun t ht => h t (by simp [Op.operands, ht])), evK_congr (x := c) (T := T) (fun t ht => h t (by simp [Op.operands, ht]))]
  case slice t x l h' mx => rw [evK_congr (x := x) (T := T) (fun t ht => h t (by simp [Op.operands, ht])), optEvK_congr (x := l) (T := T) (fun t ht => h t (by simp [Op.operands, ht])), optEvK_congr (x := h') (T := T) (fun t ht => h t (by simp [Op.operands, ht])), optEvK_congr (x := mx) (T := T) (fun t ht => h t (by simp [Op.operands, ht]))]
  case fieldAddr s x f => rw [evK_congr (T := T) (fun t ht => h t (by simp [Op.operands, ht]))]
  case field t x f => rw [evK_congr (T := T) (fun t ht => h t (by simp [Op.operands, ht]))]
  case indexAddr t x i => rw [evK_congr (x := x) (T := T) (fun t ht => h t (by simp [Op.operands, ht])), evK_congr (x := i) (T := T) (fun t ht => h t (by simp [Op.operands, ht]))]
  case index t x i => rw [evK_congr (x := x) (T := T) (fun t ht => h t (by simp [Op.operands, ht])), evK_congr (x := i) (T := T) (fun t ht => h t (by simp [Op.operands, ht]))]
  case lookup t x i ok => rw [evK_congr (x := x) (T := T) (fun t ht => h t (by simp [Op.operands, ht])), evK_congr (x := i) (T := T) (fun t ht => h t (by simp [Op.operands, ht]))]
  case mapUpdate t x i v => rw [evK_congr (x := x) (T := T) (fun t ht => h t (by simp [Op.operands, ht])), evK_congr (x := i) (T := T) (fun t ht => h t (by simp [Op.operands, ht])), evK_congr (x := v) (T := T) (fun t ht => h t (by simp [Op.operands, ht]))]
  case insert t x i v => rw [evK_congr (x := x) (T := T) (fun t ht => h t (by simp [Op.operands, ht])), evK_congr (x := i) (T := T) (fun t ht => h t (by simp [Op.operands, ht])), evK_congr (x := v) (T := T) (fun t ht => h t (by simp [Op.operands, ht]))]
  case range t x => rw [evK_congr (T := T) (fun t ht => h t (by simp [Op.operands, ht]))]
  case next x s => rw [evK_congr (T := T) (fun t ht => h t (by simp [Op.operands, ht]))]
  case extract t i => rw [evK_congr (T := T) (fun t ht => h t (by simp [Op.operands, ht]))]
  case makeInterface t x => rw [evK_congr (T := T) (fun t ht => h t (by simp [Op.operands, ht]))]
  case call c =>
    obtain ⟨callee, args, tys⟩ := c
    cases callee with
    | builtin b => dsimp only; rw [evsK_congr (l := args.toList) (T := T) (fun t ht => h t (by simp [Op.operands, Call.operands] at ht ⊢; simp [ht]))]
    | _ => rfl
theorem wantedK_congr {L : List Oper} {o : Oper} {y n : Prop} (h : agree (looks L o) m T) : wantedK L o m y n ↔ wantedK L o T y n := by
  unfold wantedK
  unfold looks at h
  split
  · rfl
  · rename_i g want hg
    rw [hg] at h
    dsimp only at h
    rw [nthK_iff, nthK_iff]
    cases hL : L[g]? with
    | none => simp
    | some og =>
      rw [hL] at h
      dsimp only at h
      simp only [Option.some.injEq, exists_eq_left']
      cases hd : og.dst with
      | none => exact Iff.rfl
      | some d =>
        rw [hd] at h
        dsimp only at h ⊢
        rw [getK_iff, getK_iff, h d (by simp)]
theorem looks_ops {L : List Oper} {o : Oper} : ∀ t ∈ tmpsOf o.op.operands.toList, t ∈ looks L o := by
  intro t ht
  unfold looks
  split
  · exact ht
  · split
    · split
      · exact List.mem_cons_of_mem _ ht
      · exact ht
    · exact ht
theorem readK_congr {L : List Oper} {o : Oper} {k : AV → Prop} (h : agree (looks L o) m T) : readK L tt o m H k ↔ readK L tt o T H k := by
  unfold readK
  rw [wantedK_congr h, opK_congr (agree_sub h looks_ops)]
theorem wantedK_cases (L : List Oper) (o : Oper) (T : Tm) : (∀ y n, wantedK L o T y n ↔ y) ∨ (∀ y n, wantedK L o T y n ↔ n) ∨ (∀ y n, ¬ wantedK L o T y n) := by
  obtain ⟨dst, op, rt, pos, after, guard⟩ := o
  cases guard with
  | none => exact .inl fun y n => Iff.rfl
  | some gw =>
    obtain ⟨g, want⟩ := gw
    unfold wantedK
    dsimp only
    simp only [nthK_iff]
    cases hL : L[g]? with
    | none => exact .inr (.inr fun y n => by simp)
    | some og =>
      simp only [Option.some.injEq, exists_eq_left']
      cases hd : og.dst with
      | none => exact .inr (.inr fun y n h => h.elim)
      | some d =>
        simp only [getK_iff]
        cases hv : T.get d with
        | ro dv =>
          cases dv with
          | bool b => cases want <;> cases b <;> simp [condB]
          | _ => exact .inr (.inr fun y n h => h.elim)
        | tup vs =>
          cases vs with
          | nil => exact .inr (.inl fun y n => Iff.rfl)
          | cons => exact .inr (.inr fun y n h => h.elim)
        | _ => exact .inr (.inr fun y n h => h.elim)
theorem wantedK_dm {L : List Oper} {o : Oper} {φ ψ : (AV → Prop) → Prop} (h1 : DM φ) (h2 : DM ψ) : DM (fun k => wantedK L o T (φ k) (ψ k)) := by
  intro k h
  rcases wantedK_cases L o T with e | e | e
  · obtain ⟨a, ha, f⟩ := h1 k ((e _ _).1 h)
    exact ⟨a, ha, fun k' h' => (e _ _).2 (f k' h')⟩
  · obtain ⟨a, ha, f⟩ := h2 k ((e _ _).1 h)
    exact ⟨a, ha, fun k' h' => (e _ _).2 (f k' h')⟩
  · exact (e _ _ h).elim
theorem readK_dm {L : List Oper} {o : Oper} (hr : isRead o.op = true) (hd : detOp tt o.op = true) : DM (readK L tt o T H) := wantedK_dm (opK_dm hr hd) (DM.pure _)
/-- What asks memory nothing, answers the same in every heap. -/
theorem opK_pure {o : Oper} (hp : pureOp o.op = true) {H' : Heap} {k : AV → Prop} : opK tt o T H (fun v _ => k v) = opK tt o T H' (fun v _ => k v) := by
  obtain ⟨dst, op, rt, pos, after, guard⟩ := o
  cases op <;> first | rfl | (simp [pureOp] at hp; done) | skip
  case call c =>
    obtain ⟨callee, args, tys⟩ := c
    cases callee with
    | builtin b => cases b <;> first | rfl | (simp [pureOp, isReadB] at hp)
    | _ => simp [pureOp] at hp
theorem readK_pure {L : List Oper} {o : Oper} (hp : pureOp o.op = true) {H' : Heap} {k : AV → Prop} : readK L tt o T H k = readK L tt o T H' k := by
  unfold readK
  rw [opK_pure hp (H' := H')]
end
end Go.Ab
