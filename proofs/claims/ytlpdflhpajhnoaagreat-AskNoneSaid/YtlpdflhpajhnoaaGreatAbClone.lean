/- slices.Clone, at the types of elements of this seat: fresh memory, unless there is nothing. -/
import Derived.Test.YtlpdflhpajhnoaaGreatAbFt
import Derived.Test.YtlpdflhpajhnoaaGreatAb31
namespace Go.Proofs.YtlpdflhpajhnoaaGreat
open Go.Ab
set_option maxRecDepth 100000
theorem clone67_ro (sz : Nat) (cs : List RD) (cap : Option Nat) (H : Heap) (k : AV → Heap → Prop) (h : cloneS 3 1 8 [.ro (.slice sz cs cap)] H k) : CallP Tryz.prog 67 [.ro (.slice sz cs cap)] H k := by
  obtain ⟨hg, h⟩ := guardP_iff.1 (show guardP _ _ from h)
  simp only [Bool.and_eq_true, Nat.ble_eq] at hg
  obtain ⟨⟨hsz, hmod⟩, hb⟩ := hg
  have hmod := Nat.eq_of_beq_eq_true hmod
  have hmod : cs.length % 1 = 0 := hmod
  have key : CallP Tryz.prog 67 [.ro (.slice sz cs cap)] H (fun r H' => (cs = [] ∧ r = .ro nilSl ∧ H' = H) ∨ (cs = [] ∧ r = .sl 1 H.length 0 0 (some 0) ∧ H' = H ++ [.cells 3 []]) ∨
      (¬ cs = [] ∧ r = .sl 1 (H.length + 1) 0 (cs.length / 1) none ∧ H' = H ++ [.cells 3 []] ++ [.cells 3 (cs.map .ro)])) := by
    refine CallP.enter ttOK Tryz.func67 rfl rfl ?_
    conv => whnf
    refine condB_intro (fun e => ?_) (fun e => ?_)
    · have e : cs = [] := by simpa using e
      subst e
      refine ⟨?_, ?_⟩
      · conv => whnf
        exact .inl ⟨rfl, rfl, rfl⟩
      · conv => whnf
        refine newK_iff.2 ?_
        conv => whnf
        refine guardP_intro hsz ?_
        conv => whnf
        refine nthK_intro (.cells 3 []) (by simp) ?_
        conv => whnf
        refine setNthK_intro (by simp) ?_
        conv => whnf
        refine .inr (.inl ⟨rfl, rfl, ?_⟩)
        rw [List.set_append_right _ _ (Nat.le_refl _)]
        simp
    · have e : ¬ cs = [] := by simpa using e
      have hp : 0 < cs.length := List.length_pos_iff.2 e
      conv => whnf
      refine newK_iff.2 ?_
      conv => whnf
      refine guardP_intro hsz ?_
      conv => whnf
      refine mapK_intro ?_
      conv => whnf
      refine guardP_intro (by simp; omega) ?_
      conv => whnf
      refine condB_intro (b := decide (0 + cs.length / 1 ≤ 0)) (fun hz => ?_) (fun hz => ?_)
      · have hz : cs.length / 1 ≤ 0 := by simpa using hz
        omega
      conv => whnf
      refine nthK_intro (.cells 3 []) (by simp) ?_
      conv => whnf
      refine newK_iff.2 ?_
      conv => whnf
      refine .inr (.inr ⟨e, ?_, ?_⟩)
      · simp
      · simp
  refine key.cloned (fun e => ?_) (fun e => ?_)
  · exact newK_iff.1 ((condB_iff.1 h).1 (by simp [e]))
  · have h := (condB_iff.1 h).2 (by simpa using e)
    simp only [newK_iff, mapK_iff, fNat_iff] at h
    simpa using h
theorem clone67_sl (sz id off len : Nat) (cap : Option Nat) (H : Heap) (k : AV → Heap → Prop) (h : cloneS 3 1 8 [.sl sz id off len cap] H k) : CallP Tryz.prog 67 [.sl sz id off len cap] H k := by
  obtain ⟨hg, h⟩ := guardP_iff.1 (show guardP _ _ from h)
  simp only [Bool.and_eq_true, Nat.ble_eq] at hg
  obtain ⟨hsz, hb⟩ := hg
  have hsz := Nat.eq_of_beq_eq_true hsz
  subst hsz
  obtain ⟨_, h⟩ := guardP_iff.1 (show guardP (1 == 1) (cellsK H id (fun _ cs => dropK cs off (fun cs => takeK cs (len * 1) (fun l => condB (Nat.beq len 0) (newK H .dead (fun _ H' => k (.ro nilSl) H')) (newK H .dead (fun _ H1 => newK H1 (.cells 3 l) (fun i H' => fNat i fun i => k (.sl 1 i 0 len none) H'))))))) from h)
  obtain ⟨o, ho, h⟩ := nthK_iff.1 h
  cases o with
  | cells T cs =>
    obtain ⟨hd, h⟩ := dropK_iff.1 h
    obtain ⟨ht, h⟩ := takeK_iff.1 h
    have hlt : id < H.length := (List.getElem?_eq_some_iff.1 ho).1
    have ho' : (H ++ [AObj.cells 3 []])[id]? = some (.cells T cs) := by rw [List.getElem?_append_left hlt]; exact ho
    have key : CallP Tryz.prog 67 [.sl 1 id off len cap] H (fun r H' => (len = 0 ∧ r = .ro nilSl ∧ H' = H) ∨ (len = 0 ∧ r = .sl 1 H.length 0 0 (some 0) ∧ H' = H ++ [.cells 3 []]) ∨
        (¬ len = 0 ∧ r = .sl 1 (H.length + 1) 0 len none ∧ H' = H ++ [.cells 3 []] ++ [.cells 3 ((cs.drop off).take (len * 1))])) := by
      refine CallP.enter ttOK Tryz.func67 rfl rfl ?_
      conv => whnf
      refine newK_iff.2 ?_
      conv => whnf
      refine nthK_intro _ ho' ?_
      conv => whnf
      refine dropK_intro hd ?_
      refine takeK_intro ht ?_
      conv => whnf
      refine guardP_intro (by simp; omega) ?_
      conv => whnf
      refine condB_intro (b := decide (0 + len ≤ 0)) (fun hz => ?_) (fun hz => ?_)
      · have hz : len = 0 := by simpa using hz
        subst hz
        conv => whnf
        refine guardP_intro (by first | rfl | simp [allB]) ?_
        refine nthK_intro (.cells 3 []) (by simp) ?_
        conv => whnf
        refine setNthK_intro (by simp) ?_
        conv => whnf
        refine .inr (.inl ⟨rfl, rfl, ?_⟩)
        rw [List.set_append_right _ _ (Nat.le_refl _)]
        simp
      · have hz : ¬ len = 0 := by simpa using hz
        conv => whnf
        refine nthK_intro (.cells 3 []) (by simp) ?_
        conv => whnf
        refine newK_iff.2 ?_
        conv => whnf
        refine .inr (.inr ⟨hz, ?_, ?_⟩)
        · simp
        · simp
    refine key.cloned (fun e => ?_) (fun e => ?_)
    · exact newK_iff.1 ((condB_iff.1 h).1 (by simp [e]))
    · have h := (condB_iff.1 h).2 (Bool.eq_false_iff.2 (fun h => e (Nat.eq_of_beq_eq_true h)))
      simp only [newK_iff, fNat_iff] at h
      simpa using h
  | _ => exact bad.elim h
theorem clone67_ok (args : List AV) (H : Heap) (k : AV → Heap → Prop) (h : cloneS 3 1 8 args H k) : CallP Tryz.prog 67 args H k := by
  have h0 := h
  unfold cloneS at h
  split at h
  · exact clone67_ro _ _ _ _ _ h0
  · exact clone67_sl _ _ _ _ _ _ _ h0
  · exact h.elim
theorem clone97_ro (sz : Nat) (cs : List RD) (cap : Option Nat) (H : Heap) (k : AV → Heap → Prop) (h : cloneS 93 3 40 [.ro (.slice sz cs cap)] H k) : CallP Tryz.prog 97 [.ro (.slice sz cs cap)] H k := by
  obtain ⟨hg, h⟩ := guardP_iff.1 (show guardP _ _ from h)
  simp only [Bool.and_eq_true, Nat.ble_eq] at hg
  obtain ⟨⟨hsz, hmod⟩, hb⟩ := hg
  have hmod := Nat.eq_of_beq_eq_true hmod
  have hmod : cs.length % 3 = 0 := hmod
  have key : CallP Tryz.prog 97 [.ro (.slice sz cs cap)] H (fun r H' => (cs = [] ∧ r = .ro nilSl ∧ H' = H) ∨ (cs = [] ∧ r = .sl 3 H.length 0 0 (some 0) ∧ H' = H ++ [.cells 93 []]) ∨
      (¬ cs = [] ∧ r = .sl 3 (H.length + 1) 0 (cs.length / 3) none ∧ H' = H ++ [.cells 93 []] ++ [.cells 93 (cs.map .ro)])) := by
    refine CallP.enter ttOK Tryz.func97 rfl rfl ?_
    conv => whnf
    refine condB_intro (fun e => ?_) (fun e => ?_)
    · have e : cs = [] := by simpa using e
      subst e
      refine ⟨?_, ?_⟩
      · conv => whnf
        exact .inl ⟨rfl, rfl, rfl⟩
      · conv => whnf
        refine newK_iff.2 ?_
        conv => whnf
        refine guardP_intro hsz ?_
        conv => whnf
        refine nthK_intro (.cells 93 []) (by simp) ?_
        conv => whnf
        refine setNthK_intro (by simp) ?_
        conv => whnf
        refine .inr (.inl ⟨rfl, rfl, ?_⟩)
        rw [List.set_append_right _ _ (Nat.le_refl _)]
        simp
    · have e : ¬ cs = [] := by simpa using e
      have hp : 0 < cs.length := List.length_pos_iff.2 e
      conv => whnf
      refine newK_iff.2 ?_
      conv => whnf
      refine guardP_intro hsz ?_
      conv => whnf
      refine mapK_intro ?_
      conv => whnf
      refine guardP_intro (by simp; omega) ?_
      conv => whnf
      refine condB_intro (b := decide (0 + cs.length / 3 ≤ 0)) (fun hz => ?_) (fun hz => ?_)
      · have hz : cs.length / 3 ≤ 0 := by simpa using hz
        omega
      conv => whnf
      refine nthK_intro (.cells 93 []) (by simp) ?_
      conv => whnf
      refine newK_iff.2 ?_
      conv => whnf
      refine .inr (.inr ⟨e, ?_, ?_⟩)
      · simp
      · simp
  refine key.cloned (fun e => ?_) (fun e => ?_)
  · exact newK_iff.1 ((condB_iff.1 h).1 (by simp [e]))
  · have h := (condB_iff.1 h).2 (by simpa using e)
    simp only [newK_iff, mapK_iff, fNat_iff] at h
    simpa using h
theorem clone97_sl (sz id off len : Nat) (cap : Option Nat) (H : Heap) (k : AV → Heap → Prop) (h : cloneS 93 3 40 [.sl sz id off len cap] H k) : CallP Tryz.prog 97 [.sl sz id off len cap] H k := by
  obtain ⟨hg, h⟩ := guardP_iff.1 (show guardP _ _ from h)
  simp only [Bool.and_eq_true, Nat.ble_eq] at hg
  obtain ⟨hsz, hb⟩ := hg
  have hsz := Nat.eq_of_beq_eq_true hsz
  subst hsz
  obtain ⟨_, h⟩ := guardP_iff.1 (show guardP (3 == 3) (cellsK H id (fun _ cs => dropK cs off (fun cs => takeK cs (len * 3) (fun l => condB (Nat.beq len 0) (newK H .dead (fun _ H' => k (.ro nilSl) H')) (newK H .dead (fun _ H1 => newK H1 (.cells 93 l) (fun i H' => fNat i fun i => k (.sl 3 i 0 len none) H'))))))) from h)
  obtain ⟨o, ho, h⟩ := nthK_iff.1 h
  cases o with
  | cells T cs =>
    obtain ⟨hd, h⟩ := dropK_iff.1 h
    obtain ⟨ht, h⟩ := takeK_iff.1 h
    have hlt : id < H.length := (List.getElem?_eq_some_iff.1 ho).1
    have ho' : (H ++ [AObj.cells 93 []])[id]? = some (.cells T cs) := by rw [List.getElem?_append_left hlt]; exact ho
    have key : CallP Tryz.prog 97 [.sl 3 id off len cap] H (fun r H' => (len = 0 ∧ r = .ro nilSl ∧ H' = H) ∨ (len = 0 ∧ r = .sl 3 H.length 0 0 (some 0) ∧ H' = H ++ [.cells 93 []]) ∨
        (¬ len = 0 ∧ r = .sl 3 (H.length + 1) 0 len none ∧ H' = H ++ [.cells 93 []] ++ [.cells 93 ((cs.drop off).take (len * 3))])) := by
      refine CallP.enter ttOK Tryz.func97 rfl rfl ?_
      conv => whnf
      refine newK_iff.2 ?_
      conv => whnf
      refine nthK_intro _ ho' ?_
      conv => whnf
      refine dropK_intro hd ?_
      refine takeK_intro ht ?_
      conv => whnf
      refine guardP_intro (by simp; omega) ?_
      conv => whnf
      refine condB_intro (b := decide (0 + len ≤ 0)) (fun hz => ?_) (fun hz => ?_)
      · have hz : len = 0 := by simpa using hz
        subst hz
        conv => whnf
        refine guardP_intro (by first | rfl | simp [allB]) ?_
        refine nthK_intro (.cells 93 []) (by simp) ?_
        conv => whnf
        refine setNthK_intro (by simp) ?_
        conv => whnf
        refine .inr (.inl ⟨rfl, rfl, ?_⟩)
        rw [List.set_append_right _ _ (Nat.le_refl _)]
        simp
      · have hz : ¬ len = 0 := by simpa using hz
        conv => whnf
        refine nthK_intro (.cells 93 []) (by simp) ?_
        conv => whnf
        refine newK_iff.2 ?_
        conv => whnf
        refine .inr (.inr ⟨hz, ?_, ?_⟩)
        · simp
        · simp
    refine key.cloned (fun e => ?_) (fun e => ?_)
    · exact newK_iff.1 ((condB_iff.1 h).1 (by simp [e]))
    · have h := (condB_iff.1 h).2 (Bool.eq_false_iff.2 (fun h => e (Nat.eq_of_beq_eq_true h)))
      simp only [newK_iff, fNat_iff] at h
      simpa using h
  | _ => exact bad.elim h
theorem clone97_ok (args : List AV) (H : Heap) (k : AV → Heap → Prop) (h : cloneS 93 3 40 args H k) : CallP Tryz.prog 97 args H k := by
  have h0 := h
  unfold cloneS at h
  split at h
  · exact clone97_ro _ _ _ _ _ h0
  · exact clone97_sl _ _ _ _ _ _ _ h0
  · exact h.elim
theorem clone116_ro (sz : Nat) (cs : List RD) (cap : Option Nat) (H : Heap) (k : AV → Heap → Prop) (h : cloneS 153 11 152 [.ro (.slice sz cs cap)] H k) : CallP Tryz.prog 116 [.ro (.slice sz cs cap)] H k := by
  obtain ⟨hg, h⟩ := guardP_iff.1 (show guardP _ _ from h)
  simp only [Bool.and_eq_true, Nat.ble_eq] at hg
  obtain ⟨⟨hsz, hmod⟩, hb⟩ := hg
  have hmod := Nat.eq_of_beq_eq_true hmod
  have hmod : cs.length % 11 = 0 := hmod
  have key : CallP Tryz.prog 116 [.ro (.slice sz cs cap)] H (fun r H' => (cs = [] ∧ r = .ro nilSl ∧ H' = H) ∨ (cs = [] ∧ r = .sl 11 H.length 0 0 (some 0) ∧ H' = H ++ [.cells 153 []]) ∨
      (¬ cs = [] ∧ r = .sl 11 (H.length + 1) 0 (cs.length / 11) none ∧ H' = H ++ [.cells 153 []] ++ [.cells 153 (cs.map .ro)])) := by
    refine CallP.enter ttOK Tryz.func116 rfl rfl ?_
    conv => whnf
    refine condB_intro (fun e => ?_) (fun e => ?_)
    · have e : cs = [] := by simpa using e
      subst e
      refine ⟨?_, ?_⟩
      · conv => whnf
        exact .inl ⟨rfl, rfl, rfl⟩
      · conv => whnf
        refine newK_iff.2 ?_
        conv => whnf
        refine guardP_intro hsz ?_
        conv => whnf
        refine nthK_intro (.cells 153 []) (by simp) ?_
        conv => whnf
        refine setNthK_intro (by simp) ?_
        conv => whnf
        refine .inr (.inl ⟨rfl, rfl, ?_⟩)
        rw [List.set_append_right _ _ (Nat.le_refl _)]
        simp
    · have e : ¬ cs = [] := by simpa using e
      have hp : 0 < cs.length := List.length_pos_iff.2 e
      conv => whnf
      refine newK_iff.2 ?_
      conv => whnf
      refine guardP_intro hsz ?_
      conv => whnf
      refine mapK_intro ?_
      conv => whnf
      refine guardP_intro (by simp; omega) ?_
      conv => whnf
      refine condB_intro (b := decide (0 + cs.length / 11 ≤ 0)) (fun hz => ?_) (fun hz => ?_)
      · have hz : cs.length / 11 ≤ 0 := by simpa using hz
        omega
      conv => whnf
      refine nthK_intro (.cells 153 []) (by simp) ?_
      conv => whnf
      refine newK_iff.2 ?_
      conv => whnf
      refine .inr (.inr ⟨e, ?_, ?_⟩)
      · simp
      · simp
  refine key.cloned (fun e => ?_) (fun e => ?_)
  · exact newK_iff.1 ((condB_iff.1 h).1 (by simp [e]))
  · have h := (condB_iff.1 h).2 (by simpa using e)
    simp only [newK_iff, mapK_iff, fNat_iff] at h
    simpa using h
theorem clone116_sl (sz id off len : Nat) (cap : Option Nat) (H : Heap) (k : AV → Heap → Prop) (h : cloneS 153 11 152 [.sl sz id off len cap] H k) : CallP Tryz.prog 116 [.sl sz id off len cap] H k := by
  obtain ⟨hg, h⟩ := guardP_iff.1 (show guardP _ _ from h)
  simp only [Bool.and_eq_true, Nat.ble_eq] at hg
  obtain ⟨hsz, hb⟩ := hg
  have hsz := Nat.eq_of_beq_eq_true hsz
  subst hsz
  obtain ⟨_, h⟩ := guardP_iff.1 (show guardP (11 == 11) (cellsK H id (fun _ cs => dropK cs off (fun cs => takeK cs (len * 11) (fun l => condB (Nat.beq len 0) (newK H .dead (fun _ H' => k (.ro nilSl) H')) (newK H .dead (fun _ H1 => newK H1 (.cells 153 l) (fun i H' => fNat i fun i => k (.sl 11 i 0 len none) H'))))))) from h)
  obtain ⟨o, ho, h⟩ := nthK_iff.1 h
  cases o with
  | cells T cs =>
    obtain ⟨hd, h⟩ := dropK_iff.1 h
    obtain ⟨ht, h⟩ := takeK_iff.1 h
    have hlt : id < H.length := (List.getElem?_eq_some_iff.1 ho).1
    have ho' : (H ++ [AObj.cells 153 []])[id]? = some (.cells T cs) := by rw [List.getElem?_append_left hlt]; exact ho
    have key : CallP Tryz.prog 116 [.sl 11 id off len cap] H (fun r H' => (len = 0 ∧ r = .ro nilSl ∧ H' = H) ∨ (len = 0 ∧ r = .sl 11 H.length 0 0 (some 0) ∧ H' = H ++ [.cells 153 []]) ∨
        (¬ len = 0 ∧ r = .sl 11 (H.length + 1) 0 len none ∧ H' = H ++ [.cells 153 []] ++ [.cells 153 ((cs.drop off).take (len * 11))])) := by
      refine CallP.enter ttOK Tryz.func116 rfl rfl ?_
      conv => whnf
      refine newK_iff.2 ?_
      conv => whnf
      refine nthK_intro _ ho' ?_
      conv => whnf
      refine dropK_intro hd ?_
      refine takeK_intro ht ?_
      conv => whnf
      refine guardP_intro (by simp; omega) ?_
      conv => whnf
      refine condB_intro (b := decide (0 + len ≤ 0)) (fun hz => ?_) (fun hz => ?_)
      · have hz : len = 0 := by simpa using hz
        subst hz
        conv => whnf
        refine guardP_intro (by first | rfl | simp [allB]) ?_
        refine nthK_intro (.cells 153 []) (by simp) ?_
        conv => whnf
        refine setNthK_intro (by simp) ?_
        conv => whnf
        refine .inr (.inl ⟨rfl, rfl, ?_⟩)
        rw [List.set_append_right _ _ (Nat.le_refl _)]
        simp
      · have hz : ¬ len = 0 := by simpa using hz
        conv => whnf
        refine nthK_intro (.cells 153 []) (by simp) ?_
        conv => whnf
        refine newK_iff.2 ?_
        conv => whnf
        refine .inr (.inr ⟨hz, ?_, ?_⟩)
        · simp
        · simp
    refine key.cloned (fun e => ?_) (fun e => ?_)
    · exact newK_iff.1 ((condB_iff.1 h).1 (by simp [e]))
    · have h := (condB_iff.1 h).2 (Bool.eq_false_iff.2 (fun h => e (Nat.eq_of_beq_eq_true h)))
      simp only [newK_iff, fNat_iff] at h
      simpa using h
  | _ => exact bad.elim h
theorem clone116_ok (args : List AV) (H : Heap) (k : AV → Heap → Prop) (h : cloneS 153 11 152 args H k) : CallP Tryz.prog 116 args H k := by
  have h0 := h
  unfold cloneS at h
  split at h
  · exact clone116_ro _ _ _ _ _ h0
  · exact clone116_sl _ _ _ _ _ _ _ h0
  · exact h.elim
theorem clone198_ro (sz : Nat) (cs : List RD) (cap : Option Nat) (H : Heap) (k : AV → Heap → Prop) (h : cloneS 73 3 24 [.ro (.slice sz cs cap)] H k) : CallP Tryz.prog 198 [.ro (.slice sz cs cap)] H k := by
  obtain ⟨hg, h⟩ := guardP_iff.1 (show guardP _ _ from h)
  simp only [Bool.and_eq_true, Nat.ble_eq] at hg
  obtain ⟨⟨hsz, hmod⟩, hb⟩ := hg
  have hmod := Nat.eq_of_beq_eq_true hmod
  have hmod : cs.length % 3 = 0 := hmod
  have key : CallP Tryz.prog 198 [.ro (.slice sz cs cap)] H (fun r H' => (cs = [] ∧ r = .ro nilSl ∧ H' = H) ∨ (cs = [] ∧ r = .sl 3 H.length 0 0 (some 0) ∧ H' = H ++ [.cells 73 []]) ∨
      (¬ cs = [] ∧ r = .sl 3 (H.length + 1) 0 (cs.length / 3) none ∧ H' = H ++ [.cells 73 []] ++ [.cells 73 (cs.map .ro)])) := by
    refine CallP.enter ttOK Tryz.func198 rfl rfl ?_
    conv => whnf
    refine condB_intro (fun e => ?_) (fun e => ?_)
    · have e : cs = [] := by simpa using e
      subst e
      refine ⟨?_, ?_⟩
      · conv => whnf
        exact .inl ⟨rfl, rfl, rfl⟩
      · conv => whnf
        refine newK_iff.2 ?_
        conv => whnf
        refine guardP_intro hsz ?_
        conv => whnf
        refine nthK_intro (.cells 73 []) (by simp) ?_
        conv => whnf
        refine setNthK_intro (by simp) ?_
        conv => whnf
        refine .inr (.inl ⟨rfl, rfl, ?_⟩)
        rw [List.set_append_right _ _ (Nat.le_refl _)]
        simp
    · have e : ¬ cs = [] := by simpa using e
      have hp : 0 < cs.length := List.length_pos_iff.2 e
      conv => whnf
      refine newK_iff.2 ?_
      conv => whnf
      refine guardP_intro hsz ?_
      conv => whnf
      refine mapK_intro ?_
      conv => whnf
      refine guardP_intro (by simp; omega) ?_
      conv => whnf
      refine condB_intro (b := decide (0 + cs.length / 3 ≤ 0)) (fun hz => ?_) (fun hz => ?_)
      · have hz : cs.length / 3 ≤ 0 := by simpa using hz
        omega
      conv => whnf
      refine nthK_intro (.cells 73 []) (by simp) ?_
      conv => whnf
      refine newK_iff.2 ?_
      conv => whnf
      refine .inr (.inr ⟨e, ?_, ?_⟩)
      · simp
      · simp
  refine key.cloned (fun e => ?_) (fun e => ?_)
  · exact newK_iff.1 ((condB_iff.1 h).1 (by simp [e]))
  · have h := (condB_iff.1 h).2 (by simpa using e)
    simp only [newK_iff, mapK_iff, fNat_iff] at h
    simpa using h
theorem clone198_sl (sz id off len : Nat) (cap : Option Nat) (H : Heap) (k : AV → Heap → Prop) (h : cloneS 73 3 24 [.sl sz id off len cap] H k) : CallP Tryz.prog 198 [.sl sz id off len cap] H k := by
  obtain ⟨hg, h⟩ := guardP_iff.1 (show guardP _ _ from h)
  simp only [Bool.and_eq_true, Nat.ble_eq] at hg
  obtain ⟨hsz, hb⟩ := hg
  have hsz := Nat.eq_of_beq_eq_true hsz
  subst hsz
  obtain ⟨_, h⟩ := guardP_iff.1 (show guardP (3 == 3) (cellsK H id (fun _ cs => dropK cs off (fun cs => takeK cs (len * 3) (fun l => condB (Nat.beq len 0) (newK H .dead (fun _ H' => k (.ro nilSl) H')) (newK H .dead (fun _ H1 => newK H1 (.cells 73 l) (fun i H' => fNat i fun i => k (.sl 3 i 0 len none) H'))))))) from h)
  obtain ⟨o, ho, h⟩ := nthK_iff.1 h
  cases o with
  | cells T cs =>
    obtain ⟨hd, h⟩ := dropK_iff.1 h
    obtain ⟨ht, h⟩ := takeK_iff.1 h
    have hlt : id < H.length := (List.getElem?_eq_some_iff.1 ho).1
    have ho' : (H ++ [AObj.cells 73 []])[id]? = some (.cells T cs) := by rw [List.getElem?_append_left hlt]; exact ho
    have key : CallP Tryz.prog 198 [.sl 3 id off len cap] H (fun r H' => (len = 0 ∧ r = .ro nilSl ∧ H' = H) ∨ (len = 0 ∧ r = .sl 3 H.length 0 0 (some 0) ∧ H' = H ++ [.cells 73 []]) ∨
        (¬ len = 0 ∧ r = .sl 3 (H.length + 1) 0 len none ∧ H' = H ++ [.cells 73 []] ++ [.cells 73 ((cs.drop off).take (len * 3))])) := by
      refine CallP.enter ttOK Tryz.func198 rfl rfl ?_
      conv => whnf
      refine newK_iff.2 ?_
      conv => whnf
      refine nthK_intro _ ho' ?_
      conv => whnf
      refine dropK_intro hd ?_
      refine takeK_intro ht ?_
      conv => whnf
      refine guardP_intro (by simp; omega) ?_
      conv => whnf
      refine condB_intro (b := decide (0 + len ≤ 0)) (fun hz => ?_) (fun hz => ?_)
      · have hz : len = 0 := by simpa using hz
        subst hz
        conv => whnf
        refine guardP_intro (by first | rfl | simp [allB]) ?_
        refine nthK_intro (.cells 73 []) (by simp) ?_
        conv => whnf
        refine setNthK_intro (by simp) ?_
        conv => whnf
        refine .inr (.inl ⟨rfl, rfl, ?_⟩)
        rw [List.set_append_right _ _ (Nat.le_refl _)]
        simp
      · have hz : ¬ len = 0 := by simpa using hz
        conv => whnf
        refine nthK_intro (.cells 73 []) (by simp) ?_
        conv => whnf
        refine newK_iff.2 ?_
        conv => whnf
        refine .inr (.inr ⟨hz, ?_, ?_⟩)
        · simp
        · simp
    refine key.cloned (fun e => ?_) (fun e => ?_)
    · exact newK_iff.1 ((condB_iff.1 h).1 (by simp [e]))
    · have h := (condB_iff.1 h).2 (Bool.eq_false_iff.2 (fun h => e (Nat.eq_of_beq_eq_true h)))
      simp only [newK_iff, fNat_iff] at h
      simpa using h
  | _ => exact bad.elim h
theorem clone198_ok (args : List AV) (H : Heap) (k : AV → Heap → Prop) (h : cloneS 73 3 24 args H k) : CallP Tryz.prog 198 args H k := by
  have h0 := h
  unfold cloneS at h
  split at h
  · exact clone198_ro _ _ _ _ _ h0
  · exact clone198_sl _ _ _ _ _ _ _ h0
  · exact h.elim
end Go.Proofs.YtlpdflhpajhnoaaGreat
