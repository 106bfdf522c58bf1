/- The abstract layer, part 15: a region that draws its order of evaluation. Reads are taken as early as may be; of the others every order is walked; a read is asked again behind each other that may come before it. -/
import Derived.Test.YtlpdflhpajhnoaaGreatAb14
namespace Go.Ab

abbrev Pend := List (Nat × Oper × Tm × AV)
section
variable (L : List Oper) (B : List Nat)
/-- B's bit j at i: operation j comes before operation i in every order. -/
def bef (j i : Nat) : Bool := (B.getD i 0).testBit j
def ancOK (D i : Nat) : Bool := (B.getD i 0 &&& D) == B.getD i 0
def tmpsOf : List Operand → List Nat
  | [] => []
  | .tmp t :: r => t :: tmpsOf r
  | _ :: r => tmpsOf r
/-- The temporaries that an operation looks at. -/
def looks (o : Oper) : List Nat := match o.guard with
  | none => tmpsOf o.op.operands.toList
  | some (g, _) => (match L[g]? with
    | some og => (match og.dst with | some d => d :: tmpsOf o.op.operands.toList | none => tmpsOf o.op.operands.toList)
    | none => tmpsOf o.op.operands.toList)
def dstAt (i : Nat) : Option Nat := (L[i]?).bind (·.dst)
def maskK : List Nat → Tm → (Tm → Prop) → Prop
  | [], _, k => k .leaf
  | t :: r, T, k => maskK r T (fun m => getK T t (fun v => setK 40 m t v k))
/-- The first read that may be taken. -/
def nextRead (D : Nat) : List Oper → Nat → Option (Nat × Oper)
  | [], _ => none
  | o :: r, i => if !D.testBit i && isRead o.op && ancOK B D i then some (i, o) else nextRead D r (i + 1)
/-- All others that may be taken. -/
def nextEffs (D : Nat) : List Oper → Nat → List (Nat × Oper)
  | [], _ => []
  | o :: r, i => if !D.testBit i && !isRead o.op && ancOK B D i then (i, o) :: nextEffs D r (i + 1) else nextEffs D r (i + 1)
def allDone (D : Nat) : List Oper → Nat → Bool
  | [], _ => true
  | _ :: r, i => if D.testBit i then allDone D r (i + 1) else false
variable (P : Program) (nt : Nat) (tt : TyT)
def readK (o : Oper) (m : Tm) (H : Heap) (k : AV → Prop) : Prop := wantedK L o m (opK tt o m H (fun v _ => k v)) (k (.tup []))
def recheck (e : Nat) (H : Heap) : Pend → Prop
  | [] => True
  | (i, o, m, v) :: r => (match bef B i e with
    | true => recheck e H r
    | false => readK L tt o m H (fun v' => v' = v) ∧ recheck e H r)
def pendOf (e : Nat) : Pend → Pend
  | [] => []
  | x :: r => if bef B x.1 e then pendOf e r else x :: pendOf e r
def effK (rec : Nat → Tm → Heap → Pend → Prop) (D : Nat) (T : Tm) (H : Heap) (pend : Pend) (i : Nat) (o : Oper) : Prop :=
  maskK (looks L o) T (fun m => wantedK L o m
    (stepK P tt o m H (fun v H' => recheck L B tt i H' pend ∧ putK nt T o.dst v (fun T' => rec (D ||| 2 ^ i) T' H' (pendOf B i pend))))
    (putK nt T o.dst (.tup []) (fun T' => rec (D ||| 2 ^ i) T' H pend)))
def brK (rec : Nat → Tm → Heap → Pend → Prop) (D : Nat) (T : Tm) (H : Heap) (pend : Pend) : List (Nat × Oper) → Prop
  | [] => True
  | [x] => effK L B P nt tt rec D T H pend x.1 x.2
  | x :: r => effK L B P nt tt rec D T H pend x.1 x.2 ∧ brK rec D T H pend r
def drawK (k : Tm → Heap → Prop) : Nat → Nat → Tm → Heap → Pend → Prop
  | 0, _, _, _, _ => False
  | f + 1, D, T, H, pend => match nextRead B D L 0 with
    | some (i, o) => maskK (looks L o) T (fun m => readK L tt o m H (fun v => readK L tt o m H (fun v' => v' = v) ∧ putK nt T o.dst v (fun T' => drawK k f (D ||| 2 ^ i) T' H ((i, o, m, v) :: pend))))
    | none => (match allDone D L 0 with
      | true => k T H
      | false => brK L B P nt tt (drawK k f) D T H pend (nextEffs B D L 0))
/-- What is asked of the operations and of B. -/
def orderOK : Bool :=
  (List.range L.length).all fun i =>
    (match L[i]? with
     | some o => o.after.toList.all (fun e => !Region.binds .any e || (decide (e.on < i) && bef B e.on i)) &&
        (List.range L.length).all fun j =>
          (!bef B j i || (decide (j < i) && o.after.toList.any (fun e => Region.binds .any e && (e.on == j || bef B j e.on)))) &&
          (!bef B j i || (List.range L.length).all (fun k => !bef B k j || bef B k i)) &&
          (i == j || (match dstAt L j with
            | some t => (!((looks L o).contains t || dstAt L i == some t) || bef B i j || bef B j i)
            | none => true))
     | none => false)
end

section
variable {L : List Oper} {B : List Nat}
theorem bits_bef {i j : Nat} : bef B j i = (B.getD i 0).testBit j := rfl
theorem ancOK_iff {D i : Nat} : ancOK B D i = true ↔ ∀ j, bef B j i = true → D.testBit j = true := by
  unfold ancOK bef
  rw [beq_iff_eq]
  constructor
  · intro h j hj
    have := congrArg (fun n => n.testBit j) h
    simp only [Nat.testBit_and] at this
    rw [hj] at this
    simpa using this
  · intro h
    apply Nat.eq_of_testBit_eq
    intro j
    rw [Nat.testBit_and]
    cases hb : (B.getD i 0).testBit j with
    | false => rfl
    | true => simp [h j hb]
theorem testBit_add (D i j : Nat) : (D ||| 2 ^ i).testBit j = (D.testBit j || decide (i = j)) := by
  rw [Nat.testBit_or, Nat.testBit_two_pow]
theorem nextRead_none {D : Nat} : ∀ {l : List Oper} {s : Nat}, nextRead B D l s = none → ∀ (i : Nat) (o : Oper), l[i]? = some o → isRead o.op = true → D.testBit (s + i) = false → ancOK B D (s + i) = false
  | [], s, h, i, o, hi, _, _ => by simp at hi
  | p :: r, s, h, 0, o, hi, hr, hd => by
    simp only [List.getElem?_cons_zero, Option.some.injEq] at hi
    subst hi
    simp only [nextRead] at h
    split at h
    · cases h
    · rename_i hn
      rw [Nat.add_zero] at hd ⊢
      rw [hd, hr] at hn
      simpa using hn
  | p :: r, s, h, i + 1, o, hi, hr, hd => by
    simp only [nextRead] at h
    split at h
    · cases h
    · have e : s + (i + 1) = s + 1 + i := by omega
      rw [e] at hd ⊢
      exact nextRead_none h i o (by simpa using hi) hr hd
theorem nextRead_some {D : Nat} : ∀ {l : List Oper} {s i : Nat} {o : Oper}, nextRead B D l s = some (i, o) → s ≤ i ∧ l[i - s]? = some o ∧ isRead o.op = true ∧ D.testBit i = false ∧ ancOK B D i = true
  | [], s, i, o, h => by simp [nextRead] at h
  | p :: r, s, i, o, h => by
    simp only [nextRead] at h
    split at h
    · rename_i hc
      simp only [Option.some.injEq, Prod.mk.injEq] at h
      obtain ⟨rfl, rfl⟩ := h
      simp only [Bool.and_eq_true, Bool.not_eq_true'] at hc
      exact ⟨Nat.le_refl _, by simp, hc.1.2, hc.1.1, hc.2⟩
    · obtain ⟨h1, h2, h3⟩ := nextRead_some h
      refine ⟨by omega, ?_, h3⟩
      have e : i - s = (i - (s + 1)) + 1 := by omega
      rw [e, List.getElem?_cons_succ]
      exact h2
theorem nextEffs_mem {D : Nat} : ∀ {l : List Oper} {s i : Nat} {o : Oper}, l[i]? = some o → isRead o.op = false → D.testBit (s + i) = false → ancOK B D (s + i) = true → (s + i, o) ∈ nextEffs B D l s
  | [], s, i, o, h, _, _, _ => by simp at h
  | p :: r, s, 0, o, h, hr, hd, ha => by
    simp only [List.getElem?_cons_zero, Option.some.injEq] at h
    subst h
    rw [Nat.add_zero] at hd ha ⊢
    simp [nextEffs, hd, hr, ha]
  | p :: r, s, i + 1, o, h, hr, hd, ha => by
    have e : s + (i + 1) = s + 1 + i := by omega
    rw [e] at hd ha ⊢
    have := nextEffs_mem (l := r) (by simpa using h) hr hd ha
    simp only [nextEffs]
    split
    · exact List.mem_cons_of_mem _ this
    · exact this
theorem allDone_iff {D : Nat} : ∀ {l : List Oper} {s : Nat}, allDone D l s = true ↔ ∀ i, i < l.length → D.testBit (s + i) = true
  | [], s => by simp [allDone]
  | p :: r, s => by
    simp only [allDone]
    constructor
    · intro h i hi
      split at h
      · rename_i hd
        cases i with
        | zero => simpa using hd
        | succ i =>
          have e : s + (i + 1) = s + 1 + i := by omega
          rw [e]
          exact allDone_iff.1 h i (by simpa using hi)
      · cases h
    · intro h
      have h0 := h 0 (by simp)
      rw [Nat.add_zero] at h0
      rw [if_pos h0]
      refine allDone_iff.2 fun i hi => ?_
      have := h (i + 1) (by simpa using hi)
      have e : s + (i + 1) = s + 1 + i := by omega
      rw [e] at this
      exact this
theorem maskK_ok : ∀ {l : List Nat} {T : Tm} {k : Tm → Prop}, maskK l T k → ∃ m, k m ∧ ∀ t, m.get t = .any ∨ (t ∈ l ∧ m.get t = T.get t)
  | [], T, k, h => ⟨.leaf, h, fun t => .inl rfl⟩
  | t :: r, T, k, h => by
    obtain ⟨m, h, hm⟩ := maskK_ok (l := r) h
    have h := getK_iff.1 h
    obtain ⟨m', h1, h2⟩ := setK_iff.1 h
    refine ⟨m', h2, fun u => ?_⟩
    rw [Tm.get_set h1]
    by_cases e : u = t
    · subst e; rw [if_pos rfl]; exact .inr ⟨by simp, rfl⟩
    · rw [if_neg e]
      rcases hm u with h | ⟨h, h'⟩
      · exact .inl h
      · exact .inr ⟨by simp [h], h'⟩

/-- The value of a temporary behind some of the operations. -/
def valN (L : List Oper) (vs : Nat → AV) (S : Nat → Bool) (T₀ : Tm) (t : Nat) : Nat → AV
  | 0 => T₀.get t
  | i + 1 => if S i && (dstAt L i == some t) then vs i else valN L vs S T₀ t i
theorem valN_congr {vs vs' : Nat → AV} {S S' : Nat → Bool} {T₀ : Tm} {t : Nat} : ∀ {n : Nat}, (∀ j, j < n → dstAt L j = some t → S j = S' j ∧ (S j = true → vs j = vs' j)) → valN L vs S T₀ t n = valN L vs' S' T₀ t n
  | 0, _ => rfl
  | n + 1, h => by
    simp only [valN]
    rw [valN_congr (n := n) (fun j hj => h j (by omega))]
    by_cases hd : dstAt L n = some t
    · obtain ⟨h1, h2⟩ := h n (by omega) hd
      rw [← h1]
      cases hS : S n with
      | false => simp
      | true => simp [hd, h2 hS]
    · have : (dstAt L n == some t) = false := by simpa using hd
      simp [this]
theorem valN_last {vs : Nat → AV} {S : Nat → Bool} {T₀ : Tm} {t i : Nat} (hS : S i = true) (hd : dstAt L i = some t) : ∀ {n : Nat}, i < n → (∀ j, i < j → j < n → dstAt L j = some t → S j = false) → valN L vs S T₀ t n = vs i
  | 0, h, _ => by omega
  | n + 1, h, hno => by
    simp only [valN]
    by_cases e : i = n
    · subst e; simp [hS, hd]
    · have hc : (S n && (dstAt L n == some t)) = false := by
        by_cases hdn : dstAt L n = some t
        · simp [hno n (by omega) (by omega) hdn]
        · have : (dstAt L n == some t) = false := by simpa using hdn
          simp [this]
      rw [if_neg (by simp [hc])]
      exact valN_last hS hd (by omega) fun j h1 h2 => hno j h1 (by omega)
end
end Go.Ab
