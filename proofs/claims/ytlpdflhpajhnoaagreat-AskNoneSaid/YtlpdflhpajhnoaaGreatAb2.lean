/- The abstract layer, part 2: the evaluator of operations, in continuation-passing style into Prop, so that `whnf` runs it. -/
import Derived.Test.YtlpdflhpajhnoaaGreatAb1
namespace Go.Ab

/-- Where the evaluator stands still for good: no way on; the number tells the place. -/
inductive bad (n : Nat) : Prop
theorem bad.no {n : Nat} (h : bad n) : False := by cases h
theorem bad.elim {n : Nat} {α : Prop} (h : bad n) : α := h.no.elim
@[simp] theorem bad_iff {n : Nat} : bad n ↔ False := ⟨bad.no, False.elim⟩
/-- The same; k tells what would have come. -/
inductive badk (k : Prop) : Prop
theorem badk.no {k : Prop} (h : badk k) : False := by cases h
@[simp] theorem badk_iff {k : Prop} : badk k ↔ False := ⟨badk.no, False.elim⟩
/-! ### Steps over lists and trees -/
noncomputable def nthK {α : Type} (l : List α) : Nat → (α → Prop) → Prop :=
  @List.rec α (fun _ => Nat → (α → Prop) → Prop) (fun _ _ => bad 20071) (fun a _ ih n k => @Nat.rec (fun _ => Prop) (k a) (fun m _ => ih m k) n) l
theorem nthK_nil {α : Type} {n : Nat} {k : α → Prop} : nthK [] n k = False := eq_false (fun h => bad.no (show bad _ from h))
theorem nthK_zero {α : Type} {a : α} {l : List α} {k : α → Prop} : nthK (a :: l) 0 k = k a := rfl
theorem nthK_succ {α : Type} {a : α} {l : List α} {n : Nat} {k : α → Prop} : nthK (a :: l) (n + 1) k = nthK l n k := rfl
theorem nthK_iff {α : Type} {k : α → Prop} : ∀ {l : List α} {n : Nat}, nthK l n k ↔ ∃ a, l[n]? = some a ∧ k a
  | [], n => by simp [nthK_nil, nthK_zero]
  | a :: l, 0 => by simp [nthK_nil, nthK_zero]
  | a :: l, n + 1 => by simp [nthK_succ, nthK_iff (l := l) (n := n)]
noncomputable def setNthK {α : Type} (l : List α) : Nat → α → (List α → Prop) → Prop :=
  @List.rec α (fun _ => Nat → α → (List α → Prop) → Prop) (fun _ _ _ => bad 20161) (fun a l ih n u k => @Nat.rec (fun _ => Prop) (k (u :: l)) (fun m _ => ih m u (fun l' => k (a :: l'))) n) l
theorem setNthK_nil {α : Type} {n : Nat} {u : α} {k : List α → Prop} : setNthK [] n u k = False := eq_false (fun h => bad.no (show bad _ from h))
theorem setNthK_zero {α : Type} {a u : α} {l : List α} {k : List α → Prop} : setNthK (a :: l) 0 u k = k (u :: l) := rfl
theorem setNthK_succ {α : Type} {a u : α} {l : List α} {n : Nat} {k : List α → Prop} : setNthK (a :: l) (n + 1) u k = setNthK l n u (fun l' => k (a :: l')) := rfl
theorem setNthK_iff {α : Type} {u : α} : ∀ {l : List α} {n : Nat} {k : List α → Prop}, setNthK l n u k ↔ n < l.length ∧ k (l.set n u)
  | [], n, k => by simp [setNthK_nil, setNthK_zero]
  | a :: l, 0, k => by simp [setNthK_nil, setNthK_zero]
  | a :: l, n + 1, k => by simp [setNthK_succ, setNthK_iff (l := l) (n := n)]
noncomputable def dropK {α : Type} (l : List α) : Nat → (List α → Prop) → Prop :=
  @List.rec α (fun _ => Nat → (List α → Prop) → Prop) (fun n k => @Nat.rec (fun _ => Prop) (k []) (fun _ _ => bad 20251) n) (fun a l ih n k => @Nat.rec (fun _ => Prop) (k (a :: l)) (fun m _ => ih m k) n) l
theorem dropK_zero {α : Type} {l : List α} {k : List α → Prop} : dropK l 0 k = k l := by cases l <;> rfl
theorem dropK_nil {α : Type} {n : Nat} {k : List α → Prop} : dropK [] (n + 1) k = False := eq_false (fun h => bad.no (show bad _ from h))
theorem dropK_succ {α : Type} {a : α} {l : List α} {n : Nat} {k : List α → Prop} : dropK (a :: l) (n + 1) k = dropK l n k := rfl
theorem dropK_iff {α : Type} {k : List α → Prop} : ∀ {l : List α} {n : Nat}, dropK l n k ↔ n ≤ l.length ∧ k (l.drop n)
  | [], 0 => by simp [dropK_nil, dropK_zero]
  | a :: l, 0 => by simp [dropK_nil, dropK_zero]
  | [], n + 1 => by simp [dropK_nil, dropK_zero]
  | a :: l, n + 1 => by simp [dropK_succ, dropK_iff (l := l) (n := n)]
noncomputable def takeK {α : Type} (l : List α) : Nat → (List α → Prop) → Prop :=
  @List.rec α (fun _ => Nat → (List α → Prop) → Prop) (fun n k => @Nat.rec (fun _ => Prop) (k []) (fun _ _ => bad 20351) n) (fun a _ ih n k => @Nat.rec (fun _ => Prop) (k []) (fun m _ => ih m (fun l' => k (a :: l'))) n) l
theorem takeK_zero {α : Type} {l : List α} {k : List α → Prop} : takeK l 0 k = k [] := by cases l <;> rfl
theorem takeK_nil {α : Type} {n : Nat} {k : List α → Prop} : takeK [] (n + 1) k = False := eq_false (fun h => bad.no (show bad _ from h))
theorem takeK_succ {α : Type} {a : α} {l : List α} {n : Nat} {k : List α → Prop} : takeK (a :: l) (n + 1) k = takeK l n (fun l' => k (a :: l')) := rfl
theorem takeK_iff {α : Type} : ∀ {l : List α} {n : Nat} {k : List α → Prop}, takeK l n k ↔ n ≤ l.length ∧ k (l.take n)
  | [], 0, k => by simp [takeK_nil, takeK_zero]
  | a :: l, 0, k => by simp [takeK_nil, takeK_zero]
  | [], n + 1, k => by simp [takeK_nil, takeK_zero]
  | a :: l, n + 1, k => by simp [takeK_succ, takeK_iff (l := l) (n := n)]
noncomputable def appK {α : Type} (l : List α) : List α → (List α → Prop) → Prop :=
  @List.rec α (fun _ => List α → (List α → Prop) → Prop) (fun r k => k r) (fun a _ ih r k => ih r (fun l' => k (a :: l'))) l
theorem appK_nil {α : Type} {r : List α} {k : List α → Prop} : appK [] r k = k r := rfl
theorem appK_cons {α : Type} {a : α} {l r : List α} {k : List α → Prop} : appK (a :: l) r k = appK l r (fun l' => k (a :: l')) := rfl
theorem appK_iff {α : Type} {r : List α} : ∀ {l : List α} {k : List α → Prop}, appK l r k ↔ k (l ++ r)
  | [], k => by simp [appK_nil]
  | a :: l, k => by simp [appK_cons, appK_iff (l := l)]
/-- Cells are written over from a place on. -/
noncomputable def storeK {α : Type} (cs : List α) : Nat → List α → (List α → Prop) → Prop :=
  @List.rec α (fun _ => Nat → List α → (List α → Prop) → Prop)
    (fun n vs k => @Nat.rec (fun _ => Prop) (@List.rec α (fun _ => Prop) (k []) (fun _ _ _ => bad 20541) vs) (fun _ _ => bad 20542) n)
    (fun c cs ih n vs k => @Nat.rec (fun _ => Prop) (@List.rec α (fun _ => Prop) (k (c :: cs)) (fun v vs _ => ih 0 vs (fun cs' => k (v :: cs'))) vs) (fun m _ => ih m vs (fun cs' => k (c :: cs'))) n) cs
theorem storeK_done {α : Type} {cs : List α} {k : List α → Prop} : storeK cs 0 [] k = k cs := by cases cs <;> rfl
theorem storeK_put {α : Type} {c v : α} {cs vs : List α} {k : List α → Prop} : storeK (c :: cs) 0 (v :: vs) k = storeK cs 0 vs (fun cs' => k (v :: cs')) := rfl
theorem storeK_succ {α : Type} {c : α} {cs vs : List α} {n : Nat} {k : List α → Prop} : storeK (c :: cs) (n + 1) vs k = storeK cs n vs (fun cs' => k (c :: cs')) := rfl
theorem storeK_nil {α : Type} {v : α} {vs : List α} {k : List α → Prop} : storeK [] 0 (v :: vs) k = False := eq_false (fun h => bad.no (show bad _ from h))
theorem storeK_nil' {α : Type} {vs : List α} {n : Nat} {k : List α → Prop} : storeK [] (n + 1) vs k = False := eq_false (fun h => bad.no (show bad _ from h))
def put {α : Type} (cs : List α) (n : Nat) (vs : List α) : List α := cs.take n ++ vs ++ cs.drop (n + vs.length)
theorem storeK_of {α : Type} : ∀ {cs : List α} {n : Nat} {vs : List α} {k : List α → Prop}, storeK cs n vs k → n + vs.length ≤ cs.length ∧ k (put cs n vs)
  | [], 0, [], k, h => by simpa [storeK_done, put] using h
  | c :: cs, 0, [], k, h => by simpa [storeK_done, put] using h
  | [], 0, v :: vs, k, h => by simp [storeK_nil] at h
  | c :: cs, 0, v :: vs, k, h => by
    have := storeK_of (cs := cs) (n := 0) (vs := vs) (k := fun cs' => k (v :: cs')) (by simpa [storeK_put] using h)
    simpa [put] using this
  | [], n + 1, vs, k, h => by simp [storeK_nil'] at h
  | c :: cs, n + 1, vs, k, h => by
    have := storeK_of (cs := cs) (n := n) (vs := vs) (k := fun cs' => k (c :: cs')) (by simpa [storeK_succ] using h)
    refine ⟨by simpa [Nat.add_right_comm] using this.1, ?_⟩
    have e : n + 1 + vs.length = (n + vs.length) + 1 := by omega
    simpa [put, e] using this.2
theorem storeK_to {α : Type} : ∀ {cs : List α} {n : Nat} {vs : List α} {k : List α → Prop}, n + vs.length ≤ cs.length → k (put cs n vs) → storeK cs n vs k
  | [], 0, [], k, _, h => by simpa [storeK_done, put] using h
  | c :: cs, 0, [], k, _, h => by simpa [storeK_done, put] using h
  | [], 0, v :: vs, k, hl, h => by simp at hl
  | c :: cs, 0, v :: vs, k, hl, h => by
    simp only [storeK_put]
    exact storeK_to (by simpa using hl) (by simpa [put] using h)
  | [], n + 1, vs, k, hl, h => by simp at hl
  | c :: cs, n + 1, vs, k, hl, h => by
    have e : n + 1 + vs.length = (n + vs.length) + 1 := by omega
    have := storeK_to (cs := cs) (n := n) (vs := vs) (k := fun cs' => k (c :: cs')) (by simp at hl; omega) (by simpa [put, e] using h)
    simpa [storeK_succ] using this
/-- A new label behind all others. -/
noncomputable def newGo (o : AObj) (H : Heap) : Nat → (Nat → Heap → Prop) → Prop :=
  @List.rec AObj (fun _ => Nat → (Nat → Heap → Prop) → Prop) (fun n k => k n [o]) (fun a _ ih n k => ih (Nat.succ n) (fun i l' => k i (a :: l'))) H
noncomputable def newK (H : Heap) (o : AObj) (k : Nat → Heap → Prop) : Prop := newGo o H 0 k
theorem newK_go {o : AObj} : ∀ {H : Heap} {n : Nat} {k : Nat → Heap → Prop}, newGo o H n k ↔ k (n + H.length) (H ++ [o])
  | [], n, k => by rw [show newGo o [] n k = k n [o] from rfl]; simp
  | a :: H, n, k => by
    rw [show newGo o (a :: H) n k = newGo o H (n + 1) (fun i l' => k i (a :: l')) from rfl]
    rw [newK_go (H := H)]
    simp [Nat.add_assoc, Nat.add_comm 1]
theorem newK_iff {H : Heap} {o : AObj} {k : Nat → Heap → Prop} : newK H o k ↔ k H.length (H ++ [o]) := by
  unfold newK; rw [newK_go]; simp
noncomputable def mapK {α β : Type} (f : α → β) (l : List α) : (List β → Prop) → Prop :=
  @List.rec α (fun _ => (List β → Prop) → Prop) (fun k => k []) (fun a _ ih k => ih (fun l' => k (f a :: l'))) l
theorem mapK_nil {α β : Type} {f : α → β} {k : List β → Prop} : mapK f [] k = k [] := rfl
theorem mapK_cons {α β : Type} {f : α → β} {a : α} {l : List α} {k : List β → Prop} : mapK f (a :: l) k = mapK f l (fun l' => k (f a :: l')) := rfl
theorem mapK_iff {α β : Type} {f : α → β} : ∀ {l : List α} {k : List β → Prop}, mapK f l k ↔ k (l.map f)
  | [], k => by simp [mapK_nil]
  | a :: l, k => by simp [mapK_cons, mapK_iff (l := l)]

noncomputable def bK (b : Bool) (x y : Prop) : Prop := @Bool.rec (fun _ => Prop) y x b
theorem bK_iff {b : Bool} {x y : Prop} : bK b x y ↔ if b = true then x else y := by cases b <;> simp [bK]
noncomputable def getK (T : Tm) : Nat → (AV → Prop) → Prop :=
  @Tm.rec (fun _ => Nat → (AV → Prop) → Prop) (fun _ k => k .any) (fun _ v _ ihl ihr n k => bK (Nat.beq n 0) (k v) (bK (Nat.beq (Nat.mod n 2) 1) (ihl (Nat.div n 2) k) (ihr (Nat.div (Nat.pred n) 2) k))) T
theorem getK_leaf {n : Nat} {k : AV → Prop} : getK .leaf n k = k .any := rfl
theorem natbeq {a b : Nat} : (Nat.beq a b = true) = (a = b) := by simp
theorem getK_node {l r : Tm} {v : AV} {n : Nat} {k : AV → Prop} : getK (.node l v r) n k ↔ if n = 0 then k v else if n % 2 = 1 then getK l (n / 2) k else getK r ((n - 1) / 2) k := by
  rw [show getK (.node l v r) n k = bK (Nat.beq n 0) (k v) (bK (Nat.beq (Nat.mod n 2) 1) (getK l (Nat.div n 2) k) (getK r (Nat.div (Nat.pred n) 2) k)) from rfl]
  simp only [bK_iff, natbeq]
  rfl
theorem getK_iff {k : AV → Prop} : ∀ {T : Tm} {n : Nat}, getK T n k ↔ k (T.get n)
  | .leaf, n => by simp [getK_leaf, Tm.get]
  | .node l v r, n => by
    rw [getK_node]; simp only [Tm.get]
    split
    · rfl
    · split
      · exact getK_iff
      · exact getK_iff
noncomputable def setK (f : Nat) : Tm → Nat → AV → (Tm → Prop) → Prop :=
  @Nat.rec (fun _ => Tm → Nat → AV → (Tm → Prop) → Prop) (fun _ _ _ _ => bad 21271)
    (fun _ ih T n u k => @Tm.rec (fun _ => Prop)
      (bK (Nat.beq n 0) (k (.node .leaf u .leaf)) (bK (Nat.beq (Nat.mod n 2) 1) (ih .leaf (Nat.div n 2) u (fun l => k (.node l .any .leaf))) (ih .leaf (Nat.div (Nat.pred n) 2) u (fun r => k (.node .leaf .any r)))))
      (fun l v r _ _ => bK (Nat.beq n 0) (k (.node l u r)) (bK (Nat.beq (Nat.mod n 2) 1) (ih l (Nat.div n 2) u (fun l' => k (.node l' v r))) (ih r (Nat.div (Nat.pred n) 2) u (fun r' => k (.node l v r'))))) T) f
theorem setK_zero {T : Tm} {n : Nat} {u : AV} {k : Tm → Prop} : setK 0 T n u k = False := eq_false (fun h => bad.no (show bad _ from h))
theorem setK_leaf {f n : Nat} {u : AV} {k : Tm → Prop} : setK (f + 1) .leaf n u k ↔ if n = 0 then k (.node .leaf u .leaf) else if n % 2 = 1 then setK f .leaf (n / 2) u (fun l => k (.node l .any .leaf)) else setK f .leaf ((n - 1) / 2) u (fun r => k (.node .leaf .any r)) := by
  rw [show setK (f + 1) .leaf n u k = bK (Nat.beq n 0) (k (.node .leaf u .leaf)) (bK (Nat.beq (Nat.mod n 2) 1) (setK f .leaf (Nat.div n 2) u (fun l => k (.node l .any .leaf))) (setK f .leaf (Nat.div (Nat.pred n) 2) u (fun r => k (.node .leaf .any r)))) from rfl]
  simp only [bK_iff, natbeq]
  rfl
theorem setK_node {f n : Nat} {l r : Tm} {v u : AV} {k : Tm → Prop} : setK (f + 1) (.node l v r) n u k ↔ if n = 0 then k (.node l u r) else if n % 2 = 1 then setK f l (n / 2) u (fun l' => k (.node l' v r)) else setK f r ((n - 1) / 2) u (fun r' => k (.node l v r')) := by
  rw [show setK (f + 1) (.node l v r) n u k = bK (Nat.beq n 0) (k (.node l u r)) (bK (Nat.beq (Nat.mod n 2) 1) (setK f l (Nat.div n 2) u (fun l' => k (.node l' v r))) (setK f r (Nat.div (Nat.pred n) 2) u (fun r' => k (.node l v r')))) from rfl]
  simp only [bK_iff, natbeq]
  rfl
theorem exists_map {α β : Type} {o : Option α} {f : α → β} {k : β → Prop} : (∃ y, o.map f = some y ∧ k y) ↔ ∃ x, o = some x ∧ k (f x) := by
  cases o <;> simp
theorem setK_iff {u : AV} : ∀ {f : Nat} {T : Tm} {n : Nat} {k : Tm → Prop}, setK f T n u k ↔ ∃ T', Tm.set? f T n u = some T' ∧ k T'
  | 0, T, n, k => by simp [setK_zero, Tm.set?]
  | f + 1, .leaf, n, k => by
    rw [setK_leaf]; simp only [Tm.set?]
    split
    · simp
    · split <;> (rw [setK_iff (f := f)]; simp only [exists_map])
  | f + 1, .node l v r, n, k => by
    rw [setK_node]; simp only [Tm.set?]
    split
    · simp
    · split <;> (rw [setK_iff (f := f)]; simp only [exists_map])

/-! ### Nodes that may stand still -/
def condB (b : Bool) (t e : Prop) : Prop := match b with | true => t | false => e
def guardP (b : Bool) (k : Prop) : Prop := match b with | true => k | false => badk k
theorem guardP_iff {b : Bool} {k : Prop} : guardP b k ↔ b = true ∧ k := by cases b <;> simp [guardP]
theorem condB_iff {b : Bool} {t e : Prop} : condB b t e ↔ (b = true → t) ∧ (b = false → e) := by cases b <;> simp [condB]
theorem guardP_intro {b : Bool} {k : Prop} (h : b = true) (hk : k) : guardP b k := guardP_iff.2 ⟨h, hk⟩
theorem condB_true {b : Bool} {t e : Prop} (h : b = true) (hk : t) : condB b t e := by subst h; exact hk
theorem condB_false {b : Bool} {t e : Prop} (h : b = false) (hk : e) : condB b t e := by subst h; exact hk
theorem nthK_intro {α : Type} {l : List α} {n : Nat} {k : α → Prop} (a : α) (h : l[n]? = some a) (hk : k a) : nthK l n k := nthK_iff.2 ⟨a, h, hk⟩
theorem setNthK_intro {α : Type} {l : List α} {n : Nat} {u : α} {k : List α → Prop} (h : n < l.length) (hk : k (l.set n u)) : setNthK l n u k := setNthK_iff.2 ⟨h, hk⟩
theorem dropK_intro {α : Type} {l : List α} {n : Nat} {k : List α → Prop} (h : n ≤ l.length) (hk : k (l.drop n)) : dropK l n k := dropK_iff.2 ⟨h, hk⟩
theorem takeK_intro {α : Type} {l : List α} {n : Nat} {k : List α → Prop} (h : n ≤ l.length) (hk : k (l.take n)) : takeK l n k := takeK_iff.2 ⟨h, hk⟩
theorem appK_intro {α : Type} {l r : List α} {k : List α → Prop} (hk : k (l ++ r)) : appK l r k := appK_iff.2 hk
theorem mapK_intro {α β : Type} {f : α → β} {l : List α} {k : List β → Prop} (hk : k (l.map f)) : mapK f l k := mapK_iff.2 hk

/-! ### Types -/
inductive Ty where
  | int (k : IntKind)
  | str
  | sc (z : RD)
  | st (fs : List (Nat × Nat)) (zs : List RD) (cmp : Bool) (ag : List Bool)
  | arr (n e esz : Nat) (zs : List RD)
  | sl (e esz ebytes : Nat) (ez : List RD)
  | mp (kt e : Nat) (kb agg : Bool) (ez : List RD)

inductive TyT where
  | leaf
  | node (l : TyT) (k : Nat) (d : Ty) (r : TyT)
def TyT.find : TyT → Nat → Option Ty
  | .leaf, _ => none
  | .node l k d r, n => if n = k then some d else if n < k then l.find n else r.find n

def nilSl : RD := .slice 1 [] (some 0)
def Ty.size : Ty → Nat
  | .st _ zs _ _ => zs.length
  | .arr _ _ _ zs => zs.length
  | _ => 1
def Ty.isAgg : Ty → Bool
  | .st .. => true
  | .arr .. => true
  | _ => false
def Ty.zs : Ty → List RD
  | .int k => [.int k 0]
  | .str => [.str .empty]
  | .sc z => [z]
  | .st _ zs _ _ => zs
  | .arr _ _ _ zs => zs
  | .sl .. => [nilSl]
  | .mp .. => [.nilmap]

/-! ### Operands -/
def ofV0 : Value → AV
  | .int k n => .ro (.int k n)
  | .bool b => .ro (.bool b)
  | .string s => .ro (.str s)
  | .pointer none => .ro .nilp
  | .slice none 0 0 => .ro nilSl
  | .nilFunc => .ro .nilfn
  | .map none => .ro .nilmap
  | .nilIface => .ro .niface
  | _ => .any
def evK (T : Tm) : Operand → (AV → Prop) → Prop
  | .tmp t, k => getK T t k
  | .const (.int i n), k => k (.ro (.int i n))
  | .const (.bool b), k => k (.ro (.bool b))
  | .const (.string s), k => k (.ro (.str s))
  | .const (.func f fs cs), k => match fs, cs with | ⟨[]⟩, ⟨[]⟩ => k (.ro (.fn f)) | _, _ => k .any
  | .const v, k => k (ofV0 v)
  | .func f, k => k (.ro (.fn (.func f)))
  | .global _, _ => bad 22241
noncomputable def evsK (T : Tm) (l : List Operand) : (List AV → Prop) → Prop :=
  @List.rec Operand (fun _ => (List AV → Prop) → Prop) (fun k => k []) (fun x _ ih k => evK T x (fun v => ih (fun vs => k (v :: vs)))) l
noncomputable def evpK (T : Tm) (l : List (Nat × Operand)) : (List (Nat × AV) → Prop) → Prop :=
  @List.rec (Nat × Operand) (fun _ => (List (Nat × AV) → Prop) → Prop) (fun k => k []) (fun x _ ih k => evK T x.2 (fun v => ih (fun vs => k ((x.1, v) :: vs)))) l

/-- What of a value may lie in one cell. -/
def AV.scal : AV → Bool
  | .any | .agg _ | .tup _ => false
  | _ => true
def AV.known : AV → Bool
  | .any => false
  | _ => true
def AV.cellsOf : AV → List AV
  | .agg cs => cs
  | v => [v]

section
variable (tt : TyT)

def cellsK (H : Heap) (id : Nat) (k : Nat → List AV → Prop) : Prop :=
  nthK H id (fun o => match o with | .cells T cs => k T cs | _ => bad 22451)
def loadK (H : Heap) (t : Nat) (a : AV) (k : AV → Prop) : Prop :=
  match a with
  | .ptr id off => cellsK H id (fun _ cs => match tt.find t with
     | some d => (match d.isAgg with
       | true => dropK cs off (fun cs => takeK cs d.size (fun cs => k (.agg cs)))
       | false => nthK cs off k)
     | none => bad 22521)
  | .ro (.ptr cs) => (match tt.find t with
     | some d => (match d.isAgg with
       | true => takeK cs d.size (fun cs => mapK AV.ro cs (fun cs => k (.agg cs)))
       | false => nthK cs 0 (fun d => k (.ro d)))
     | none => bad 22571)
  | _ => bad 22581
def allB {α : Type} (p : α → Bool) : List α → Bool
  | [] => true
  | a :: l => match p a with | true => allB p l | false => false
def storeAtK (H : Heap) (t : Nat) (a v : AV) (k : Heap → Prop) : Prop :=
  match a with
  | .ptr id off => (match tt.find t with
     | some d => guardP (v.cellsOf.length == d.size && allB AV.scal v.cellsOf) (cellsK H id (fun T cs => storeK cs off v.cellsOf (fun cs' => setNthK H id (.cells T cs') k)))
     | none => bad 22661)
  | _ => bad 22671
def zerosK (t : Nat) (k : List AV → Prop) : Prop := match tt.find t with | some d => mapK AV.ro d.zs k | none => bad 22681
def zeroVK (t : Nat) (k : AV → Prop) : Prop := match tt.find t with
  | some d => (match d.isAgg with | true => mapK AV.ro d.zs (fun cs => k (.agg cs)) | false => match d.zs with | [z] => k (.ro z) | _ => bad 22701)
  | none => bad 22711

/-- The value of an index or a length. -/
def fieldK (s : Nat) (a : AV) (f : Nat) (k : AV → Prop) : Prop :=
  match tt.find s with
  | some (.st fs _ _ _) => nthK fs f (fun p => match a with
     | .ptr id off => k (.ptr id (off + p.1))
     | .ro (.ptr cs) => dropK cs p.1 (fun cs => k (.ro (.ptr cs)))
     | _ => bad 22791)
  | _ => bad 22801
def indexAddrK (t : Nat) (x i : AV) (k : AV → Prop) : Prop :=
  match i with
  | .ro (.int _ n) => (match tt.find t with
    | some (.sl _ esz _ _) => (match x with
      | .sl _ id off len _ => guardP (decide (0 ≤ n ∧ n < (len : Int))) (k (.ptr id (off + n.toNat * esz)))
      | .ro (.slice sz cs _) => guardP (sz == esz && decide (0 ≤ n ∧ (n.toNat + 1) * esz ≤ cs.length)) (dropK cs (n.toNat * esz) (fun cs => k (.ro (.ptr cs))))
      | _ => bad 22871)
    | some (.arr m _ esz _) => guardP (decide (0 ≤ n ∧ n < (m : Int))) (match x with
      | .ptr id off => k (.ptr id (off + n.toNat * esz))
      | .ro (.ptr cs) => dropK cs (n.toNat * esz) (fun cs => k (.ro (.ptr cs)))
      | _ => bad 22911)
    | _ => bad 22921)
  | _ => bad 22931

/-! ### Arithmetic -/
def binIntK (op : BinOp) (ka : IntKind) (x : Int) (y : Int) (k : AV → Prop) : Prop :=
  match op with
  | .add => k (.ro (.int ka (ka.wrap (x + y))))
  | .sub => k (.ro (.int ka (ka.wrap (x - y))))
  | .mul => k (.ro (.int ka (ka.wrap (x * y))))
  | .quo => guardP (y != 0) (k (.ro (.int ka (ka.wrap (x.tdiv y)))))
  | .rem => guardP (y != 0) (k (.ro (.int ka (x.tmod y))))
  | .and => k (.ro (.int ka (ka.wrap (BitVec.ofInt ka.bits x &&& BitVec.ofInt ka.bits y).toNat)))
  | .or => k (.ro (.int ka (ka.wrap (BitVec.ofInt ka.bits x ||| BitVec.ofInt ka.bits y).toNat)))
  | .xor => k (.ro (.int ka (ka.wrap (BitVec.ofInt ka.bits x ^^^ BitVec.ofInt ka.bits y).toNat)))
  | .lss => k (.ro (.bool (decide (x < y))))
  | .leq => k (.ro (.bool (decide (x ≤ y))))
  | .gtr => k (.ro (.bool (decide (x > y))))
  | .geq => k (.ro (.bool (decide (x ≥ y))))
  | .eql => k (.ro (.bool (x == y)))
  | .neq => k (.ro (.bool (x != y)))
  | _ => bad 23121
def kindEq : IntKind → IntKind → Bool
  | .i8, .i8 | .i16, .i16 | .i32, .i32 | .i64, .i64 | .u8, .u8 | .u16, .u16 | .u32, .u32 | .u64, .u64 => true
  | _, _ => false
def shiftK (op : BinOp) (ka : IntKind) (x : Int) (y : Int) (k : AV → Prop) : Prop :=
  guardP (decide (0 ≤ y)) (match op with
    | .shl => k (.ro (.int ka (ka.wrap (x * 2 ^ (min y.toNat ka.bits)))))
    | .shr => k (.ro (.int ka (x.fdiv (2 ^ (min y.toNat ka.bits)))))
    | _ => bad 23201)
/-- '==' on structs of plain data. -/
def eqInts : List RD → List AV → List AV → (Bool → Prop) → Prop
  | [], [], [], k => k true
  | .int _ _ :: z, .ro (.int ka a) :: x, .ro (.int kb b) :: y, k => guardP (kindEq ka kb) (eqInts z x y (fun r => k (a == b && r)))
  | .bool _ :: z, .ro (.bool a) :: x, .ro (.bool b) :: y, k => eqInts z x y (fun r => k (a == b && r))
  | _, _, _, _ => bad 23261
/-- Is a slice nil? Where it has nothing, nobody knows. -/
def nilK (cs : List RD) (k : Bool → Prop) : Prop := condB cs.isEmpty (k true ∧ k false) (k false)
theorem nilK_of {cs : List RD} {k : Bool → Prop} (h : nilK cs k) : ∀ b : Bool, (b = true → cs = []) → k b := by
  intro b hb
  cases cs with
  | nil => cases b <;> first | exact h.1 | exact h.2
  | cons c cs => cases b with
    | true => cases hb rfl
    | false => exact h
def eqlK (t : Nat) (cst : Bool) (a b : AV) (k : Bool → Prop) : Prop :=
  match tt.find t with
  | some (.sc (.bool _)) => (match a, b with
    | .ro (.bool x), .ro (.bool y) => k (x == y)
    | _, _ => bad 23461)
  | some (.sc .nilp) => (match a, b with
    | .ro .nilp, .ro .nilp => k true
    | .ptr .., .ro .nilp => k false
    | .ro (.ptr _), .ro .nilp => k false
    | .ro .nilp, .ptr .. => k false
    | _, _ => bad 23521)
  | some (.sl ..) => (match a, b, cst with
    | .sl .., .ro (.slice _ [] (some 0)), true => k false
    | .ro (.slice _ cs _), .ro (.slice _ [] (some 0)), true => nilK cs k
    | _, _, _ => bad 23561)
  | some (.mp ..) => (match a, b with
    | .ro .nilmap, .ro .nilmap => k true
    | .mp _, .ro .nilmap => k false
    | _, _ => bad 23601)
  | some (.sc .niface) => (match a, b, cst with
    | .ro .niface, .ro .niface, true => k true
    | .ro (.ifc ..), .ro .niface, true => k false
    | .ifc .., .ro .niface, true => k false
    | _, _, _ => bad 23651)
  | some (.st _ zs true _) => (match a, b with
    | .agg xs, .agg ys => eqInts zs xs ys k
    | _, _ => bad 23681)
  | _ => bad 23691
def binK (op : BinOp) (t : Nat) (cst : Bool) (a b : AV) (k : AV → Prop) : Prop :=
  match a, b with
  | .ro (.int ka x), .ro (.int kb y) => (match op with
    | .shl => shiftK .shl ka x y k
    | .shr => shiftK .shr ka x y k
    | op => guardP (kindEq ka kb) (binIntK op ka x y k))
  | .ro (.str x), .ro (.str y) => (match op with
    | .eql => k (.ro (.bool (x.data.toList == y.data.toList)))
    | .neq => k (.ro (.bool (!(x.data.toList == y.data.toList))))
    | _ => bad 23791)
  | a, b => (match op with
    | .eql => eqlK tt t cst a b (fun r => k (.ro (.bool r)))
    | .neq => eqlK tt t cst a b (fun r => k (.ro (.bool (!r))))
    | _ => bad 23831)
/-- The constant nil. -/
def isNilC : Operand → Bool
  | .const (.slice none 0 0) => true
  | .const .nilIface => true
  | _ => false
def unK (op : UnOp) (a : AV) (k : AV → Prop) : Prop :=
  match op, a with
  | .not, .ro (.bool b) => k (.ro (.bool (!b)))
  | .neg, .ro (.int ka n) => k (.ro (.int ka (ka.wrap (0 - n))))
  | .xor, .ro (.int ka n) => k (.ro (.int ka (ka.wrap (BitVec.ofInt ka.bits (if ka.signed then -1 else ka.max) ^^^ BitVec.ofInt ka.bits n).toNat)))
  | _, _ => bad 23941

/-! ### Building -/
def fillK : List AV → List (Nat × Nat) → List (Nat × AV) → (List AV → Prop) → Prop
  | z, _, [], k => k z
  | z, fs, (i, v) :: r, k => nthK fs i (fun f => guardP (v.known && v.cellsOf.length == f.2) (storeK z f.1 v.cellsOf (fun z' => fillK z' fs r k)))
def fillEK (esz : Nat) : List AV → List (Nat × AV) → (List AV → Prop) → Prop
  | z, [], k => k z
  | z, (i, v) :: r, k => guardP (v.known && v.cellsOf.length == esz) (storeK z (i * esz) v.cellsOf (fun z' => fillEK esz z' r k))
noncomputable def repK (zs : List RD) (n : Nat) : (List AV → Prop) → Prop :=
  @Nat.rec (fun _ => (List AV → Prop) → Prop) (fun k => k []) (fun _ ih k => ih (fun l => mapK AV.ro zs (fun z => appK z l k))) n
def buildK (t : Nat) (ps : List (Nat × AV)) (k : AV → Prop) : Prop :=
  match tt.find t with
  | some (.st fs zs _ _) => mapK AV.ro zs (fun z => fillK z fs ps (fun cs => k (.agg cs)))
  | some (.arr _ _ esz zs) => mapK AV.ro zs (fun z => fillEK esz z ps (fun cs => k (.agg cs)))
  | _ => bad 24091
def buildSliceK (H : Heap) (t n : Nat) (ps : List (Nat × AV)) (k : AV → Heap → Prop) : Prop :=
  match tt.find t with
  | some (.sl e esz _ ez) => guardP (decide (n * esz ≤ 2 ^ 24)) (repK ez n (fun z => fillEK esz z ps (fun cs => newK H (.cells e cs) (fun i H' => k (.sl esz i 0 n (some n)) H'))))
  | _ => bad 24131
def reps {α : Type} (zs : List α) : Nat → List α
  | 0 => []
  | n + 1 => zs ++ reps zs n
def makeSliceK (H : Heap) (t : Nat) (l c : AV) (k : AV → Heap → Prop) : Prop :=
  match tt.find t, l, c with
  | some (.sl e esz eb ez), .ro (.int _ ln), .ro (.int _ cn) => guardP (decide (0 ≤ ln ∧ ln ≤ cn ∧ cn * eb ≤ 2 ^ 48 ∧ cn < 2 ^ 63))
      (newK H (.cells e ((reps ez cn.toNat).map AV.ro)) (fun i H' => k (.sl esz i 0 ln.toNat (some cn.toNat)) H'))
  | _, _, _ => bad 24211

/-! ### Slices of slices -/
def boundK (x : Option AV) (dflt : Nat) (most : Nat) (k : Nat → Prop) : Prop :=
  match x with
  | none => k dflt
  | some (.ro (.int _ n)) => guardP (decide (0 ≤ n ∧ n ≤ (most : Int))) (k n.toNat)
  | _ => bad 24281
/-- The three bounds of a part, the last one first: where a last one is told, the one ahead of it must be told too. -/
def boundsK (len cap most : Nat) (lo hi mx : Option AV) (k : Nat → Nat → Nat → Prop) : Prop :=
  match mx, hi with
  | none, hi => boundK hi len most (fun h => boundK lo 0 h (fun l => k l h cap))
  | some mx, some hi => boundK (some mx) 0 cap (fun m => boundK (some hi) 0 (min m most) (fun h => boundK lo 0 h (fun l => k l h m)))
  | some _, none => bad 24341
/-- The size of a place of a slice; where there is none, any will do (nil is of any type). -/
def szOK (sz esz : Nat) (cs : List RD) : Bool := match Nat.beq sz esz with
  | true => true
  | false => (match cs with | [] => Nat.blt 0 sz | _ :: _ => false)
theorem szOK_self {sz : Nat} {cs : List RD} : szOK sz sz cs = true := by unfold szOK; simp
/-- A part of a slice. Where its room is not known, no part goes beyond its length. -/
def sliceK (esz : Nat) (x : AV) (lo hi mx : Option AV) (k : AV → Prop) : Prop :=
  match x with
  | .sl sz id off len (some c) => guardP (sz == esz) (boundsK len c c lo hi mx (fun l h m => match decide (m = l) with
      | true => k (.ro (.slice esz [] (some 0)))
      | false => k (.sl sz id (off + l * esz) (h - l) (some (m - l)))))
  | .sl sz id off len none => guardP (sz == esz) (match mx with
      | none => boundsK len len len lo hi none (fun l h _ => match decide (l = 0) with
        | true => k (.sl sz id off h none)
        | false => match decide (l = h) with
          | true => k (.ro (.slice esz [] none))
          | false => k (.sl sz id (off + l * esz) (h - l) none))
      | some mx => boundsK len len len lo hi (some mx) (fun l h m => match decide (m = l) with
        | true => k (.ro (.slice esz [] (some 0)))
        | false => k (.sl sz id (off + l * esz) (h - l) (some (m - l)))))
  | .ro (.slice sz cs (some c)) => guardP (szOK sz esz cs) (boundsK (cs.length / esz) c (cs.length / esz) lo hi mx (fun l h m => k (.ro (.slice esz ((cs.take (h * esz)).drop (l * esz)) (some (m - l))))))
  | .ro (.slice sz cs none) => guardP (szOK sz esz cs) (match mx with
      | none => boundsK (cs.length / esz) (cs.length / esz) (cs.length / esz) lo hi none (fun l h _ => k (.ro (.slice esz ((cs.take (h * esz)).drop (l * esz)) none)))
      | some mx => boundsK (cs.length / esz) (cs.length / esz) (cs.length / esz) lo hi (some mx) (fun l h m => k (.ro (.slice esz ((cs.take (h * esz)).drop (l * esz)) (some (m - l))))))
  | _ => bad 24541
def sliceOpK (H : Heap) (t : Nat) (x : AV) (lo hi mx : Option AV) (k : AV → Prop) : Prop :=
  match tt.find t with
  | some (.sl _ esz _ _) => sliceK esz x lo hi mx k
  | some .str => (match x, mx with
    | .ro (.str s), none => boundK hi s.size s.size (fun h => boundK lo 0 h (fun l => k (.ro (.str (s.extract l h)))))
    | _, _ => bad 24601)
  | some (.arr n _ esz _) => (match x with
    | .ptr id off => cellsK H id (fun _ cs => guardP (decide (off + n * esz ≤ cs.length)) (boundsK n n n lo hi mx (fun l h m => guardP (decide (l < m)) (k (.sl esz id (off + l * esz) (h - l) (some (m - l)))))))
    | _ => bad 24631)
  | _ => bad 24641
def optEvK (T : Tm) (x : Option Operand) (k : Option AV → Prop) : Prop := match x with | none => k none | some x => evK T x (fun v => k (some v))

/-! ### append, copy -/
/-- What is read of a slice: its cells. -/
def cellsFromK (H : Heap) (esz : Nat) (x : AV) (k : Nat → List AV → Prop) : Prop :=
  match x with
  | .sl sz id off len _ => guardP (sz == esz) (cellsK H id (fun _ cs => dropK cs off (fun cs => takeK cs (len * esz) (fun cs => k len cs))))
  | .ro (.slice sz cs _) => guardP (szOK sz esz cs) (mapK AV.ro cs (fun l => k (cs.length / esz) l))
  | .ro (.str s) => guardP (esz == 1) (k s.size (s.data.toList.map fun b => .ro (.int .u8 b.toNat)))
  | _ => bad 24741
/-- Behind an append the elder slice's memory is let go, where its room was not known to be used up. -/
def appendK (H : Heap) (t : Nat) (s x : AV) (k : AV → Heap → Prop) : Prop :=
  match tt.find t with
  | some (.sl e esz eb _) => cellsFromK H esz x (fun n new => match s with
    | .ro (.slice sz cs (some c)) => guardP (szOK sz esz cs && decide (c * esz = cs.length) && decide ((c + n) * eb ≤ 2 ^ 46)) (match decide (n = 0) with
       | true => k (.ro (.slice sz cs (some c))) H
       | false => mapK AV.ro cs (fun old => appK old new (fun all => newK H (.cells e all) (fun i H' => k (.sl esz i 0 (c + n) none) H'))))
    | .sl sz id off len (some c) => guardP (sz == esz && decide ((len + n) * eb ≤ 2 ^ 46)) (match decide (len + n ≤ c) with
       | true => guardP (allB AV.scal new) (cellsK H id (fun T cs => storeK cs (off + len * esz) new (fun cs' => setNthK H id (.cells T cs') (fun H' => k (.sl sz id off (len + n) (some c)) H'))))
       | false => cellsK H id (fun _ cs => dropK cs off (fun cs => takeK cs (len * esz) (fun old => appK old new (fun all => newK H (.cells e all) (fun i H' => k (.sl esz i 0 (len + n) none) H'))))))
    | .sl sz id off len none => guardP (sz == esz && off == 0 && decide ((len + n) * eb ≤ 2 ^ 46) && allB AV.scal new) (cellsK H id (fun T cs => guardP (T == e && decide (cs.length = len * esz))
        (setNthK H id .dead (fun H1 => appK cs new (fun all => newK H1 (.cells e all) (fun i H' => k (.sl esz i 0 (len + n) none) H'))))))
    | _ => bad 24871)
  | _ => bad 24881
def copyK (H : Heap) (t : Nat) (d x : AV) (k : AV → Heap → Prop) : Prop :=
  match tt.find t with
  | some (.sl _ esz _ _) => (match d with
    | .sl sz id off len _ => guardP (sz == esz) (cellsFromK H esz x (fun n new => guardP (allB AV.scal new) (takeK new (min n len * esz) (fun new => cellsK H id (fun T cs => storeK cs off new (fun cs' => setNthK H id (.cells T cs') (fun H' => k (.ro (.int .i64 (min n len : Nat))) H')))))))
    | _ => bad 24931)
  | _ => bad 24941
def lenK (x : AV) (k : AV → Prop) : Prop :=
  match x with
  | .sl _ _ _ len _ => k (.ro (.int .i64 len))
  | .ro (.slice sz cs _) => guardP (decide (0 < sz)) (k (.ro (.int .i64 (cs.length / sz : Nat))))
  | _ => bad 24991
def lenStrK (x : AV) (k : AV → Prop) : Prop := match x with | .ro (.str s) => k (.ro (.int .i64 s.size)) | _ => bad 25001
def min2K (a b : AV) (k : AV → Prop) : Prop := match a, b with | .ro (.int ka x), .ro (.int _ y) => k (.ro (.int ka (if y < x then y else x))) | _, _ => bad 25011
def max2K (a b : AV) (k : AV → Prop) : Prop := match a, b with | .ro (.int ka x), .ro (.int _ y) => k (.ro (.int ka (if y > x then y else x))) | _, _ => bad 25021
/-- Cells that are bytes: to be told which. -/
def bytesK (cs : List AV) (k : List UInt8 → Prop) : Prop := ∃ bs : List UInt8, cs = bs.map (fun b => .ro (.int .u8 b.toNat)) ∧ k bs
def convK (src dst : Nat) (H : Heap) (x : AV) (k : AV → Prop) : Prop :=
  match tt.find dst, x with
  | some (.int kd), .ro (.int _ n) => k (.ro (.int kd (kd.wrap n)))
  | some .str, .ro (.str s) => k (.ro (.str s))
  | some .str, x => (match tt.find src with
    | some (.sl e _ _ _) => (match tt.find e with
      | some (.int .u8) => cellsFromK H 1 x (fun _ cs => bytesK cs (fun bs => k (.ro (.str ⟨bs.toArray⟩))))
      | _ => bad 25121)
    | _ => bad 25131)
  | _, _ => bad 25141

/-! ### Maps, strings gone through -/
def keyEqK (kb : Bool) (a b : AV) (k : Bool → Prop) : Prop :=
  match kb, a, b with
  | false, .ro (.int ka x), .ro (.int kc y) => guardP (kindEq ka kc) (k (x == y))
  | true, .ro (.bool x), .ro (.bool y) => k (x == y)
  | _, _, _ => bad 25211
noncomputable def findK (kb : Bool) (x : AV) (l : List (AV × AV)) : (Option AV → Prop) → Prop :=
  @List.rec (AV × AV) (fun _ => (Option AV → Prop) → Prop) (fun k => k none) (fun e _ ih k => keyEqK kb x e.1 (fun b => condB b (k (some e.2)) (ih k))) l
/-- What a look-up answers. -/
def foundK (agg : Bool) (ez : List RD) (ok : Bool) (v : Option AV) (k : AV → Prop) : Prop :=
  match v, ok with
  | some v, true => k (.tup [v, .ro (.bool true)])
  | some v, false => k v
  | none, ok => (match agg, ez, ok with
    | true, ez, true => mapK AV.ro ez (fun cs => k (.tup [.agg cs, .ro (.bool false)]))
    | true, ez, false => mapK AV.ro ez (fun cs => k (.agg cs))
    | false, [z], true => k (.tup [.ro z, .ro (.bool false)])
    | false, [z], false => k (.ro z)
    | false, _, _ => bad 25341)
def isKey (kb : Bool) (a : AV) : Bool :=
  match kb, a with
  | false, .ro (.int ..) => true
  | true, .ro (.bool _) => true
  | _, _ => false
def lookupK (H : Heap) (t : Nat) (m x : AV) (ok : Bool) (k : AV → Prop) : Prop :=
  match tt.find t with
  | some (.mp _ _ kb agg ez) => guardP (isKey kb x) (match m with
    | .mp id => nthK H id (fun o => match o with | .map es => findK kb x es (fun v => foundK agg ez ok v k) | _ => bad 25431)
    | .ro .nilmap => foundK agg ez ok none k
    | _ => bad 25451)
  | _ => bad 25461
noncomputable def mapPutK (kb : Bool) (x v : AV) (l : List (AV × AV)) : (List (AV × AV) → Prop) → Prop :=
  @List.rec (AV × AV) (fun _ => (List (AV × AV) → Prop) → Prop) (fun k => k [(x, v)]) (fun e r ih k => keyEqK kb x e.1 (fun b => condB b (k ((x, v) :: r)) (ih (fun r' => k ((e.1, e.2) :: r'))))) l
def mapUpdateK (H : Heap) (t : Nat) (m x v : AV) (k : Heap → Prop) : Prop :=
  match tt.find t with
  | some (.mp _ _ kb _ _) => guardP (isKey kb x) (match m with
    | .mp id => nthK H id (fun o => match o with | .map es => mapPutK kb x v es (fun es' => setNthK H id (.map es') k) | _ => bad 25521)
    | _ => bad 25531)
  | _ => bad 25541
def nextK (H : Heap) (it : AV) (k : AV → Heap → Prop) : Prop :=
  match it with
  | .ptr id 0 => nthK H id (fun o => match o with
    | .siter s pos => (match decide (pos < s.size) with
      | true => setNthK H id (.siter s (pos + (Utf8.decode s pos).2)) (fun H' => k (.tup [.ro (.bool true), .ro (.int .i64 pos), .ro (.int .i32 (Utf8.decode s pos).1)]) H')
      | false => k (.tup [.ro (.bool false)]) H)
    | _ => bad 25611)
  | _ => bad 25621

/-! ### One operation that calls no Go function -/
def builtinK (H : Heap) (b : Builtin) (ts : List Nat) (vs : List AV) (k : AV → Heap → Prop) : Prop :=
  match b with
  | .len => (match vs, ts with
    | [x], [t] => (match tt.find t with
      | some (.sl ..) => lenK x (fun v => k v H)
      | some .str => lenStrK x (fun v => k v H)
      | some (.arr n _ _ _) => k (.ro (.int .i64 n)) H
      | _ => bad 25721)
    | _, _ => bad 25731)
  | .append => (match vs, ts with
    | [s, x], [t, t'] => (match tt.find t' with
      | some (.sl ..) => appendK tt H t s x k
      | some .str => appendK tt H t s x k
      | _ => bad 25781)
    | _, _ => bad 25791)
  | .copy => (match vs, ts with
    | [d, x], [t, _] => copyK tt H t d x k
    | _, _ => bad 25821)
  | .min => (match vs with | [a, b] => min2K a b (fun v => k v H) | _ => bad 25831)
  | .max => (match vs with | [a, b] => max2K a b (fun v => k v H) | _ => bad 25841)
  | .cap => (match vs, ts with
    | [x], [t] => (match x, tt.find t with
      | .sl _ _ _ _ (some c), some (.sl ..) => k (.ro (.int .i64 c)) H
      | .ro (.slice _ _ (some c)), some (.sl ..) => k (.ro (.int .i64 c)) H
      | _, _ => bad 25891)
    | _, _ => bad 25901)
  | _ => bad 25911

def fieldVK (t : Nat) (v : AV) (f : Nat) (k : AV → Prop) : Prop :=
  match v, tt.find t with
  | .agg cs, some (.st fs _ _ ag) => nthK fs f (fun p => nthK ag f (fun b => match b with
    | true => dropK cs p.1 (fun cs => takeK cs p.2 (fun cs => k (.agg cs)))
    | false => nthK cs p.1 k))
  | _, _ => bad 25981
def indexVK (t : Nat) (x i : AV) (k : AV → Prop) : Prop :=
  match tt.find t, x, i with
  | some .str, .ro (.str s), .ro (.int _ n) => guardP (decide (0 ≤ n ∧ n < (s.size : Int))) (k (.ro (.int .u8 ((s.data.toList.getD n.toNat 0).toNat : Int))))
  | some (.arr m e esz _), .agg cs, .ro (.int _ n) => (match tt.find e with
    | some d => guardP (esz == 1 && !d.isAgg && decide (0 ≤ n ∧ n < (m : Int))) (nthK cs n.toNat k)
    | none => bad 26041)
  | _, _, _ => bad 26051
/-- A truth that is not known yet is told apart at once. -/
def splitV (v : AV) (k : AV → Prop) : Prop := match v with
  | .ro (.bool b) => condB b (k (.ro (.bool true))) (k (.ro (.bool false)))
  | v => k v
theorem splitV_iff {v : AV} {k : AV → Prop} : splitV v k ↔ k v := by
  unfold splitV
  split
  · rename_i b; cases b <;> simp [condB]
  · rfl
def opK (o : Oper) (T : Tm) (H : Heap) (k : AV → Heap → Prop) : Prop :=
  match o.op with
  | .move x => evK T x (fun v => k v H)
  | .assign x => evK T x (fun v => k v H)
  | .pick c a b => evK T c (fun c => match c with
    | .ro (.bool c) => condB c (evK T a (fun v => k v H)) (evK T b (fun v => k v H))
    | _ => bad 26211)
  | .alloc e => zerosK tt e (fun cs => newK H (.cells e cs) (fun i H' => k (.ptr i 0) H'))
  | .box e x => evK T x (fun v => guardP v.known (newK H (.cells e v.cellsOf) (fun i H' => k (.ptr i 0) H')))
  | .build t ps => evpK T ps.toList (fun vs => buildK tt t vs (fun v => k v H))
  | .buildSlice t n ps => evpK T ps.toList (fun vs => buildSliceK tt H t n vs k)
  | .load t a => evK T a (fun a => loadK tt H t a (fun v => k v H))
  | .store t a x => evK T a (fun a => evK T x (fun v => storeAtK tt H t a v (fun H' => k .any H')))
  | .nilCheck x => evK T x (fun v => match v with
    | .ptr i o => k (.ptr i o) H
    | .ro (.ptr cs) => k (.ro (.ptr cs)) H
    | .fn (.func f) fs cs => k (.fn (.func f) fs cs) H
    | .ro (.fn (.func f)) => k (.ro (.fn (.func f))) H
    | _ => bad 26331)
  | .binOp op t x y _ => evK T x (fun a => evK T y (fun b => binK tt op t (isNilC y) a b (fun v => splitV v (fun v => k v H))))
  | .unOp op _ x => evK T x (fun a => unK op a (fun v => k v H))
  | .convert s d x => evK T x (fun a => match tt.find s with | some _ => convK tt s d H a (fun v => k v H) | none => bad 26361)
  | .makeFunc fn first cap => evsK T first.toList (fun fs => evsK T cap.toList (fun cs => k (.fn fn fs cs) H))
  | .makeMap _ r => (match r with | none => newK H (.map []) (fun i H' => k (.mp i) H') | some _ => bad 26381)
  | .makeSlice t l c => evK T l (fun l => evK T c (fun c => makeSliceK tt H t l c k))
  | .slice t x l h m => evK T x (fun x => optEvK T l (fun l => optEvK T h (fun h => optEvK T m (fun m => sliceOpK tt H t x l h m (fun v => k v H)))))
  | .fieldAddr s x f => evK T x (fun a => fieldK tt s a f (fun v => k v H))
  | .field t x f => evK T x (fun v => fieldVK tt t v f (fun v => k v H))
  | .indexAddr t x i => evK T x (fun x => evK T i (fun i => indexAddrK tt t x i (fun v => k v H)))
  | .index t x i => evK T x (fun x => evK T i (fun i => indexVK tt t x i (fun v => k v H)))
  | .lookup t m x ok => evK T m (fun m => evK T x (fun x => lookupK tt H t m x ok (fun v => k v H)))
  | .mapUpdate t m x v => evK T m (fun m => evK T x (fun x => evK T v (fun v => mapUpdateK tt H t m x v (fun H' => k .any H'))))
  | .insert t m x v => evK T m (fun m => evK T x (fun x => evK T v (fun v => mapUpdateK tt H t m x v (fun H' => k .any H'))))
  | .range t x => evK T x (fun x => match tt.find t, x with
    | some .str, .ro (.str s) => newK H (.siter s 0) (fun i H' => k (.ptr i 0) H')
    | _, _ => bad 26501)
  | .next it str => (match str with | true => evK T it (fun it => nextK H it k) | false => bad 26511)
  | .extract t i => evK T t (fun v => match v with | .tup vs => nthK vs i (fun v => k v H) | _ => bad 26521)
  | .makeInterface t x => evK T x (fun v => match v, tt.find t with | .agg cs, some (.st ..) => k (.ifc t (.agg cs)) H | _, _ => bad 26531)
  | .call c => (match c.callee with
    | .builtin b => evsK T c.args.toList (fun vs => builtinK tt H b c.argTypes.toList vs k)
    | _ => bad 26561)
  | _ => bad 26571
end
end Go.Ab
