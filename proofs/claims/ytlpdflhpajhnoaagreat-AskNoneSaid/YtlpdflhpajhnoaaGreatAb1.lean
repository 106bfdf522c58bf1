/- The abstract layer, part 1: abstract values and heaps, what they say of a world, and that this lasts. -/
import Derived.RangeFuncLeaves
import Derived.OrdersIn
import Derived.Laws.Sem
import Derived.Below
import Derived.RangeFuncRecord
namespace Go.Ab

/-- Data that nobody changes any more: whole trees. -/
inductive RD where
  | int (k : IntKind) (n : Int)
  | bool (b : Bool)
  | str (s : ByteArray)
  | nilp | nilfn | nilmap | niface
  | fn (f : Fn)
  | slice (sz : Nat) (cells : List RD) (cap : Option Nat)
  | ptr (cells : List RD)
  | ifc (t : TypeId) (cells : List RD)

mutual
def RelD (Pr : Nat → Prop) (w : World) : RD → Value → Prop
  | .int k n, v => v = .int k n
  | .bool b, v => v = .bool b
  | .str s, v => v = .string s
  | .nilp, v => v = .pointer none
  | .nilfn, v => v = .nilFunc
  | .nilmap, v => v = .map none
  | .niface, v => v = .nilIface
  | .fn f, v => v = .func f #[] #[]
  | .slice sz cs cap, v => ∃ A n c, v = .slice A n c ∧ n * sz = cs.length ∧ n ≤ c ∧ (∀ c0, cap = some c0 → c = c0) ∧
      (cs = [] ∨ ∃ b off, A = some ⟨b, off, none⟩ ∧ Pr b ∧ RelDs Pr w cs b off)
  | .ptr cs, v => ∃ b off, v = .pointer (some ⟨b, off, none⟩) ∧ Pr b ∧ RelDs Pr w cs b off
  | .ifc t cs, v => ∃ vs : List Value, (v = .iface t (.agg vs.toArray)) ∧ RelDl Pr w cs vs
def RelDs (Pr : Nat → Prop) (w : World) : List RD → Nat → Nat → Prop
  | [], _, _ => True
  | d :: ds, b, off => (∃ v, w.cell? ⟨b, off, none⟩ = some v ∧ RelD Pr w d v) ∧ RelDs Pr w ds b (off + 1)
def RelDl (Pr : Nat → Prop) (w : World) : List RD → List Value → Prop
  | [], vs => vs = []
  | d :: ds, vs => ∃ v vs', vs = v :: vs' ∧ RelD Pr w d v ∧ RelDl Pr w ds vs'
end

/-- Abstract values: data; what points into the memory that is owned (by labels). -/
inductive AV where
  | any
  | ro (d : RD)
  | ptr (id off : Nat)
  | sl (sz id off len : Nat) (cap : Option Nat)
  | fn (f : Fn) (first cap : List AV)
  | agg (cs : List AV)
  | tup (vs : List AV)
  | mp (id : Nat)
  | yld (id : Nat)
  | ifc (t : TypeId) (v : AV)

instance : Inhabited AV := ⟨.any⟩

/-- Which block a label is, and how many cells that has. -/
abbrev VL := List (Nat × Nat)

mutual
def RelV (Γ : VL) (Pr : Nat → Prop) (w : World) : AV → Value → Prop
  | .any, _ => True
  | .ro d, v => RelD Pr w d v
  | .ptr id off, v => ∃ b n, Γ[id]? = some (b, n) ∧ v = .pointer (some ⟨b, off, none⟩)
  | .sl sz id off len cap, v => ∃ b n c, Γ[id]? = some (b, n) ∧ v = .slice (some ⟨b, off, none⟩) len c ∧ len ≤ c ∧ off + c * sz ≤ n ∧ (∀ c0, cap = some c0 → c = c0)
  | .fn f first cap, v => ∃ fs cs : List Value, v = .func f fs.toArray cs.toArray ∧ RelVs Γ Pr w first fs ∧ RelVs Γ Pr w cap cs
  | .agg cs, v => ∃ vs : List Value, v = .agg vs.toArray ∧ RelVs Γ Pr w cs vs
  | .tup cs, v => ∃ vs : List Value, v = .tuple vs.toArray ∧ RelVs Γ Pr w cs vs
  | .mp id, v => ∃ b n, Γ[id]? = some (b, n) ∧ v = .map (some b)
  | .yld id, v => ∃ b n, Γ[id]? = some (b, n) ∧ v = .func (.yield b) #[] #[]
  | .ifc t a, v => ∃ u, v = .iface t u ∧ RelV Γ Pr w a u
def RelVs (Γ : VL) (Pr : Nat → Prop) (w : World) : List AV → List Value → Prop
  | [], vs => vs = []
  | a :: as, vs => ∃ v vs', vs = v :: vs' ∧ RelV Γ Pr w a v ∧ RelVs Γ Pr w as vs'
end

/-- Temporaries: a tree by their numbers. -/
inductive Tm where
  | leaf | node (l : Tm) (v : AV) (r : Tm)
def Tm.get : Tm → Nat → AV
  | .leaf, _ => .any
  | .node l v r, n => if n = 0 then v else if n % 2 = 1 then l.get (n / 2) else r.get ((n - 1) / 2)
def Tm.set? : Nat → Tm → Nat → AV → Option Tm
  | 0, _, _, _ => none
  | f + 1, .leaf, n, u => if n = 0 then some (.node .leaf u .leaf) else if n % 2 = 1 then (Tm.set? f .leaf (n / 2) u).map (.node · .any .leaf) else (Tm.set? f .leaf ((n - 1) / 2) u).map (.node .leaf .any ·)
  | f + 1, .node l v r, n, u => if n = 0 then some (.node l u r) else if n % 2 = 1 then (Tm.set? f l (n / 2) u).map (.node · v r) else (Tm.set? f r ((n - 1) / 2) u).map (.node l v ·)
theorem Tm.get_set {f : Nat} : ∀ {T T' : Tm} {n m : Nat} {u : AV}, Tm.set? f T n u = some T' → T'.get m = if m = n then u else T.get m := by
  induction f with
  | zero => intro T T' n m u h; simp [Tm.set?] at h
  | succ f ih =>
    intro T T' n m u h
    cases T with
    | leaf =>
      simp only [Tm.set?] at h
      split at h
      · rename_i hn; simp only [Option.some.injEq] at h; subst h hn; simp only [Tm.get]; split <;> simp
      · rename_i hn
        split at h
        · rename_i ho
          simp only [Option.map_eq_some_iff] at h
          obtain ⟨l, hl, rfl⟩ := h
          simp only [Tm.get]
          by_cases hm : m = 0
          · subst hm; rw [if_pos rfl, if_neg (by omega)]
          · rw [if_neg hm]
            by_cases hmo : m % 2 = 1
            · rw [if_pos hmo, ih hl]
              by_cases e : m = n
              · subst e; simp
              · rw [if_neg (by omega), if_neg e]; rfl
            · rw [if_neg hmo, if_neg (by omega)]
        · rename_i ho
          simp only [Option.map_eq_some_iff] at h
          obtain ⟨l, hl, rfl⟩ := h
          simp only [Tm.get]
          by_cases hm : m = 0
          · subst hm; rw [if_pos rfl, if_neg (by omega)]
          · rw [if_neg hm]
            by_cases hmo : m % 2 = 1
            · rw [if_pos hmo, if_neg (by omega)]
            · rw [if_neg hmo, ih hl]
              by_cases e : m = n
              · subst e; simp
              · rw [if_neg (by omega), if_neg e]; rfl
    | node l v r =>
      simp only [Tm.set?] at h
      split at h
      · rename_i hn; simp only [Option.some.injEq] at h; subst h hn; simp only [Tm.get]; split <;> simp_all
      · rename_i hn
        split at h
        · rename_i ho
          simp only [Option.map_eq_some_iff] at h
          obtain ⟨l', hl, rfl⟩ := h
          simp only [Tm.get]
          by_cases hm : m = 0
          · subst hm; rw [if_pos rfl, if_neg (by omega), if_pos rfl]
          · rw [if_neg hm]
            by_cases hmo : m % 2 = 1
            · rw [if_pos hmo, ih hl]
              by_cases e : m = n
              · subst e; simp
              · rw [if_neg (by omega), if_neg e, if_neg hm, if_pos hmo]
            · rw [if_neg hmo, if_neg (by omega), if_neg hm, if_neg hmo]
        · rename_i ho
          simp only [Option.map_eq_some_iff] at h
          obtain ⟨l', hl, rfl⟩ := h
          simp only [Tm.get]
          by_cases hm : m = 0
          · subst hm; rw [if_pos rfl, if_neg (by omega), if_pos rfl]
          · rw [if_neg hm]
            by_cases hmo : m % 2 = 1
            · rw [if_pos hmo, if_neg (by omega), if_neg hm, if_pos hmo]
            · rw [if_neg hmo, ih hl]
              by_cases e : m = n
              · subst e; simp
              · rw [if_neg (by omega), if_neg e, if_neg hm, if_neg hmo]

def RelT (Γ : VL) (Pr : Nat → Prop) (w : World) (nt : Nat) (T : Tm) (tmps : Array Value) : Prop :=
  tmps.size = nt ∧ ∀ i, RelV Γ Pr w (T.get i) (tmps.getD i undef)

/-- A loop over a function, as it is kept. -/
structure ALoop where
  state : LoopState
  pending : Option Code
  nt : Nat
  T : Tm
  params : Array Tmp
  assign : Code
  body : Code
  dl : Nat
  tag : Nat := 0

/-- What a label may hold. -/
inductive AObj where
  | cells (T : TypeId) (cs : List AV)
  | map (es : List (AV × AV))
  | siter (s : ByteArray) (pos : Nat)
  | loop (l : ALoop)
  | dfr
  | dead

def AObj.isDead : AObj → Bool
  | .dead => true
  | _ => false

abbrev Heap := List AObj

def RelEs (Γ : VL) (Pr : Nat → Prop) (w : World) : List (AV × AV) → List MapEntry → Prop
  | [], es => es = []
  | (k, v) :: r, es => ∃ e es', es = e :: es' ∧ RelV Γ Pr w k e.key ∧ RelV Γ Pr w v e.val ∧ RelEs Γ Pr w r es'

def RelObj (Γ : VL) (Pr : Nat → Prop) (w : World) (b n : Nat) : AObj → Prop
  | .cells T cs => ∃ c : Array Value, w.heap[b]? = some (.cells c T (0, 0)) ∧ c.size = n ∧ cs.length ≤ n ∧ ∀ (j : Nat) (a : AV), cs[j]? = some a → ∃ v, c[j]? = some v ∧ RelV Γ Pr w a v
  | .map es => ∃ ents clock, w.heap[b]? = some (.map ents clock) ∧ RelEs Γ Pr w es ents.toList
  | .siter s pos => w.heap[b]? = some (.stringIter s pos)
  | .loop l => ∃ fn tmps d m, Γ[l.dl]? = some (d, m) ∧ RelT Γ Pr w l.nt l.T tmps ∧
      w.heap[b]? = some (.loop { state := l.state, pending := l.pending, fn, tmps, params := l.params, assign := l.assign, body := l.body, defers := d })
  | .dfr => w.heap[b]? = some (.deferred (some []))
  | .dead => False

def live (H : Heap) (i : Nat) : Prop := ∃ o, H[i]? = some o ∧ o.isDead = false

structure Sim (Γ : VL) (Pr : Nat → Prop) (H : Heap) (w : World) : Prop where
  len : Γ.length = H.length
  obj : ∀ (i : Nat) (o : AObj), H[i]? = some o → o.isDead = false → ∃ b n, Γ[i]? = some (b, n) ∧ ¬ Pr b ∧ RelObj Γ Pr w b n o
  inj : ∀ (i j b n m : Nat), live H i → live H j → Γ[i]? = some (b, n) → Γ[j]? = some (b, m) → i = j
  prlt : ∀ b, Pr b → b < w.heap.size

structure Ext (Γ : VL) (Pr : Nat → Prop) (H : Heap) (w : World) (Γ' : VL) (Pr' : Nat → Prop) (H' : Heap) (w' : World) : Prop where
  os : w'.os = w.os
  tape : w'.tape = w.tape
  output : w'.output = w.output
  size : w.heap.size ≤ w'.heap.size
  vl : ∃ δ, Γ' = Γ ++ δ
  pr : ∀ b, Pr b → Pr' b
  prNew : ∀ b, Pr' b → Pr b ∨ w.heap.size ≤ b
  own : ∀ (j b n : Nat), live H' j → Γ'[j]? = some (b, n) → w.heap.size ≤ b ∨ ∃ i n', live H i ∧ Γ[i]? = some (b, n')
  frame : ∀ b, b < w.heap.size → (∀ i n, live H i → Γ[i]? ≠ some (b, n)) → w'.heap[b]? = w.heap[b]?

theorem Ext.refl (Γ : VL) (Pr : Nat → Prop) (H : Heap) (w : World) : Ext Γ Pr H w Γ Pr H w :=
  ⟨rfl, rfl, rfl, Nat.le_refl _, ⟨[], by simp⟩, fun _ h => h, fun _ h => .inl h, fun j b n hl hg => .inr ⟨j, n, hl, hg⟩, fun _ _ _ => rfl⟩

theorem Ext.trans {Γ₁ Γ₂ Γ₃ : VL} {Pr₁ Pr₂ Pr₃ : Nat → Prop} {H₁ H₂ H₃ : Heap} {w₁ w₂ w₃ : World}
    (h : Ext Γ₁ Pr₁ H₁ w₁ Γ₂ Pr₂ H₂ w₂) (k : Ext Γ₂ Pr₂ H₂ w₂ Γ₃ Pr₃ H₃ w₃) : Ext Γ₁ Pr₁ H₁ w₁ Γ₃ Pr₃ H₃ w₃ := by
  refine ⟨k.os.trans h.os, k.tape.trans h.tape, k.output.trans h.output, Nat.le_trans h.size k.size, ?_, fun b hb => k.pr b (h.pr b hb), ?_, ?_, ?_⟩
  · obtain ⟨a, rfl⟩ := h.vl
    obtain ⟨b, rfl⟩ := k.vl
    exact ⟨a ++ b, by simp⟩
  · intro b hb
    rcases k.prNew b hb with hb | hb
    · exact h.prNew b hb
    · exact .inr (Nat.le_trans h.size hb)
  · intro j b n hl hg
    rcases k.own j b n hl hg with hb | ⟨i, n', hi, hgi⟩
    · exact .inl (Nat.le_trans h.size hb)
    · exact h.own i b n' hi hgi
  · intro b hb hno
    rw [k.frame b (Nat.lt_of_lt_of_le hb h.size) ?_, h.frame b hb hno]
    intro i n hi hg
    rcases h.own i b n hi hg with hb' | ⟨i', n', hi', hg'⟩
    · omega
    · exact hno i' n' hi' hg'

theorem Sim.keeps {Γ : VL} {Pr : Nat → Prop} {H : Heap} {w : World} (hs : Sim Γ Pr H w) {Γ' : VL} {Pr' : Nat → Prop} {H' : Heap} {w' : World}
    (h : Ext Γ Pr H w Γ' Pr' H' w') : ∀ b, Pr b → w'.heap[b]? = w.heap[b]? := by
  intro b hb
  refine h.frame b (hs.prlt b hb) fun i n hl hg => ?_
  obtain ⟨o, ho, hd⟩ := hl
  obtain ⟨b', n', hg', hnp, _⟩ := hs.obj i o ho hd
  rw [hg] at hg'
  simp only [Option.some.injEq, Prod.mk.injEq] at hg'
  exact hnp (hg'.1 ▸ hb)

theorem vl_ext {Γ Γ' : VL} (h : ∃ δ, Γ' = Γ ++ δ) {i : Nat} {x : Nat × Nat} (hx : Γ[i]? = some x) : Γ'[i]? = some x := by
  obtain ⟨δ, rfl⟩ := h
  rw [List.getElem?_append_left (List.getElem?_eq_some_iff.1 hx).1]
  exact hx

mutual
theorem RelD.mono {Pr Pr' : Nat → Prop} {w w' : World} (hp : ∀ b, Pr b → Pr' b) (hk : ∀ b, Pr b → w'.heap[b]? = w.heap[b]?) : ∀ {d : RD} {v : Value}, RelD Pr w d v → RelD Pr' w' d v
  | .int .., _, h => h
  | .bool .., _, h => h
  | .str .., _, h => h
  | .nilp, _, h => h
  | .nilfn, _, h => h
  | .nilmap, _, h => h
  | .niface, _, h => h
  | .fn .., _, h => h
  | .slice .., _, ⟨A, n, c, h1, h2, h3, h4, h5⟩ => ⟨A, n, c, h1, h2, h3, h4, h5.imp id fun ⟨b, off, e, hb, hr⟩ => ⟨b, off, e, hp b hb, RelDs.mono hp hk hb hr⟩⟩
  | .ptr .., _, ⟨b, off, h1, hb, hr⟩ => ⟨b, off, h1, hp b hb, RelDs.mono hp hk hb hr⟩
  | .ifc .., _, ⟨vs, h1, h2⟩ => ⟨vs, h1, RelDl.mono hp hk h2⟩
theorem RelDs.mono {Pr Pr' : Nat → Prop} {w w' : World} (hp : ∀ b, Pr b → Pr' b) (hk : ∀ b, Pr b → w'.heap[b]? = w.heap[b]?) : ∀ {ds : List RD} {b off : Nat}, Pr b → RelDs Pr w ds b off → RelDs Pr' w' ds b off
  | [], _, _, _, _ => trivial
  | _ :: _, b, _, hb, ⟨⟨v, hc, hv⟩, hr⟩ => ⟨⟨v, by rw [World.cell?_of_block (w := w) (hk b hb)]; exact hc, RelD.mono hp hk hv⟩, RelDs.mono hp hk hb hr⟩
theorem RelDl.mono {Pr Pr' : Nat → Prop} {w w' : World} (hp : ∀ b, Pr b → Pr' b) (hk : ∀ b, Pr b → w'.heap[b]? = w.heap[b]?) : ∀ {ds : List RD} {vs : List Value}, RelDl Pr w ds vs → RelDl Pr' w' ds vs
  | [], _, h => h
  | _ :: _, _, ⟨v, vs', e, hv, hr⟩ => ⟨v, vs', e, RelD.mono hp hk hv, RelDl.mono hp hk hr⟩
end

mutual
theorem RelV.mono {Γ Γ' : VL} {Pr Pr' : Nat → Prop} {w w' : World} (hg : ∃ δ, Γ' = Γ ++ δ) (hp : ∀ b, Pr b → Pr' b) (hk : ∀ b, Pr b → w'.heap[b]? = w.heap[b]?) : ∀ {a : AV} {v : Value}, RelV Γ Pr w a v → RelV Γ' Pr' w' a v
  | .any, _, _ => trivial
  | .ro _, _, h => RelD.mono hp hk h
  | .ptr .., _, ⟨b, n, h1, h2⟩ => ⟨b, n, vl_ext hg h1, h2⟩
  | .sl .., _, ⟨b, n, c, h1, h2⟩ => ⟨b, n, c, vl_ext hg h1, h2⟩
  | .fn .., _, ⟨fs, cs, h1, h2, h3⟩ => ⟨fs, cs, h1, RelVs.mono hg hp hk h2, RelVs.mono hg hp hk h3⟩
  | .agg .., _, ⟨vs, h1, h2⟩ => ⟨vs, h1, RelVs.mono hg hp hk h2⟩
  | .tup .., _, ⟨vs, h1, h2⟩ => ⟨vs, h1, RelVs.mono hg hp hk h2⟩
  | .mp .., _, ⟨b, n, h1, h2⟩ => ⟨b, n, vl_ext hg h1, h2⟩
  | .yld .., _, ⟨b, n, h1, h2⟩ => ⟨b, n, vl_ext hg h1, h2⟩
  | .ifc .., _, ⟨u, h1, h2⟩ => ⟨u, h1, RelV.mono hg hp hk h2⟩
theorem RelVs.mono {Γ Γ' : VL} {Pr Pr' : Nat → Prop} {w w' : World} (hg : ∃ δ, Γ' = Γ ++ δ) (hp : ∀ b, Pr b → Pr' b) (hk : ∀ b, Pr b → w'.heap[b]? = w.heap[b]?) : ∀ {as : List AV} {vs : List Value}, RelVs Γ Pr w as vs → RelVs Γ' Pr' w' as vs
  | [], _, h => h
  | _ :: _, _, ⟨v, vs', e, hv, hr⟩ => ⟨v, vs', e, RelV.mono hg hp hk hv, RelVs.mono hg hp hk hr⟩
end

theorem RelT.mono {Γ Γ' : VL} {Pr Pr' : Nat → Prop} {w w' : World} (hg : ∃ δ, Γ' = Γ ++ δ) (hp : ∀ b, Pr b → Pr' b) (hk : ∀ b, Pr b → w'.heap[b]? = w.heap[b]?) {nt : Nat} {T : Tm} {tmps : Array Value}
    (h : RelT Γ Pr w nt T tmps) : RelT Γ' Pr' w' nt T tmps := ⟨h.1, fun i => (h.2 i).mono hg hp hk⟩
theorem RelEs.mono {Γ Γ' : VL} {Pr Pr' : Nat → Prop} {w w' : World} (hg : ∃ δ, Γ' = Γ ++ δ) (hp : ∀ b, Pr b → Pr' b) (hk : ∀ b, Pr b → w'.heap[b]? = w.heap[b]?) : ∀ {es : List (AV × AV)} {l : List MapEntry}, RelEs Γ Pr w es l → RelEs Γ' Pr' w' es l
  | [], _, h => h
  | (_, _) :: _, _, ⟨e, es', h1, h2, h3, h4⟩ => ⟨e, es', h1, h2.mono hg hp hk, h3.mono hg hp hk, RelEs.mono hg hp hk h4⟩

theorem RelObj.mono {Γ Γ' : VL} {Pr Pr' : Nat → Prop} {w w' : World} (hg : ∃ δ, Γ' = Γ ++ δ) (hp : ∀ b, Pr b → Pr' b) (hk : ∀ b, Pr b → w'.heap[b]? = w.heap[b]?) {b n : Nat} (hb : w'.heap[b]? = w.heap[b]?) :
    ∀ {o : AObj}, RelObj Γ Pr w b n o → RelObj Γ' Pr' w' b n o
  | .cells .., ⟨c, h1, h2, h3, h4⟩ => ⟨c, hb.trans h1, h2, h3, fun j a hj => let ⟨v, hv, hr⟩ := h4 j a hj; ⟨v, hv, hr.mono hg hp hk⟩⟩
  | .map .., ⟨es, cl, h1, h2⟩ => ⟨es, cl, hb.trans h1, h2.mono hg hp hk⟩
  | .siter .., h => hb.trans h
  | .loop .., ⟨fn, tmps, d, m, h1, h2, h3⟩ => ⟨fn, tmps, d, m, vl_ext hg h1, h2.mono hg hp hk, hb.trans h3⟩
  | .dfr, h => hb.trans h
  | .dead, h => h.elim

/-! ### Lists of values -/
theorem relVs_get {Γ : VL} {Pr : Nat → Prop} {w : World} : ∀ {as : List AV} {vs : List Value}, RelVs Γ Pr w as vs → ∀ (i : Nat) (a : AV), as[i]? = some a → ∃ v, vs[i]? = some v ∧ RelV Γ Pr w a v
  | [], _, _, i, a, h => by simp at h
  | a :: as, _, ⟨v, vs', e, hv, hr⟩, 0, a', h => by
    simp only [List.getElem?_cons_zero, Option.some.injEq] at h
    subst h e
    exact ⟨v, rfl, hv⟩
  | a :: as, _, ⟨v, vs', e, hv, hr⟩, i + 1, a', h => by
    subst e
    exact relVs_get hr i a' (by simpa using h)
theorem relVs_length {Γ : VL} {Pr : Nat → Prop} {w : World} : ∀ {as : List AV} {vs : List Value}, RelVs Γ Pr w as vs → vs.length = as.length
  | [], vs, h => by
    have e : vs = [] := h
    simp [e]
  | a :: as, _, ⟨v, vs', e, hv, hr⟩ => by subst e; simp [relVs_length hr]
theorem relVs_of_get {Γ : VL} {Pr : Nat → Prop} {w : World} : ∀ {as : List AV} {vs : List Value}, vs.length = as.length → (∀ (i : Nat) (a : AV), as[i]? = some a → ∃ v, vs[i]? = some v ∧ RelV Γ Pr w a v) → RelVs Γ Pr w as vs
  | [], vs, hl, _ => (by simpa using hl : vs = [])
  | a :: as, [], hl, _ => by simp at hl
  | a :: as, v :: vs, hl, h => by
    refine ⟨v, vs, rfl, ?_, relVs_of_get (by simpa using hl) fun i a' hi => ?_⟩
    · obtain ⟨v', hv', hr⟩ := h 0 a rfl
      simp only [List.getElem?_cons_zero, Option.some.injEq] at hv'
      exact hv' ▸ hr
    · obtain ⟨v', hv', hr⟩ := h (i + 1) a' (by simpa using hi)
      exact ⟨v', by simpa using hv', hr⟩
theorem relVs_append {Γ : VL} {Pr : Nat → Prop} {w : World} : ∀ {as bs : List AV} {vs us : List Value}, RelVs Γ Pr w as vs → RelVs Γ Pr w bs us → RelVs Γ Pr w (as ++ bs) (vs ++ us)
  | [], _, _, _, h, k => by rw [h]; exact k
  | a :: as, _, _, _, ⟨v, vs', e, hv, hr⟩, k => by subst e; exact ⟨v, _, rfl, hv, relVs_append hr k⟩
theorem relDs_get {Pr : Nat → Prop} {w : World} : ∀ {ds : List RD} {b off : Nat}, RelDs Pr w ds b off → ∀ (i : Nat) (d : RD), ds[i]? = some d → ∃ v, w.cell? ⟨b, off + i, none⟩ = some v ∧ RelD Pr w d v
  | [], _, _, _, i, d, h => by simp at h
  | d :: ds, b, off, ⟨⟨v, hc, hv⟩, hr⟩, 0, d', h => by
    simp only [List.getElem?_cons_zero, Option.some.injEq] at h
    subst h
    exact ⟨v, hc, hv⟩
  | d :: ds, b, off, ⟨_, hr⟩, i + 1, d', h => by
    obtain ⟨v, hc, hv⟩ := relDs_get hr i d' (by simpa using h)
    exact ⟨v, by rw [show off + (i + 1) = off + 1 + i from by omega]; exact hc, hv⟩
theorem relDs_of_get {Pr : Nat → Prop} {w : World} : ∀ {ds : List RD} {b off : Nat}, (∀ (i : Nat) (d : RD), ds[i]? = some d → ∃ v, w.cell? ⟨b, off + i, none⟩ = some v ∧ RelD Pr w d v) → RelDs Pr w ds b off
  | [], _, _, _ => trivial
  | d :: ds, b, off, h => ⟨h 0 d rfl, relDs_of_get fun i d' hi => by
      obtain ⟨v, hc, hv⟩ := h (i + 1) d' (by simpa using hi)
      exact ⟨v, by rw [show off + 1 + i = off + (i + 1) from by omega]; exact hc, hv⟩⟩
theorem relDs_drop {Pr : Nat → Prop} {w : World} {ds : List RD} {b off : Nat} (h : RelDs Pr w ds b off) (n : Nat) : RelDs Pr w (ds.drop n) b (off + n) :=
  relDs_of_get fun i d hi => by
    obtain ⟨v, hc, hv⟩ := relDs_get h (n + i) d (by simpa using hi)
    exact ⟨v, by rw [Nat.add_assoc]; exact hc, hv⟩
theorem relDs_take {Pr : Nat → Prop} {w : World} {ds : List RD} {b off : Nat} (h : RelDs Pr w ds b off) (n : Nat) : RelDs Pr w (ds.take n) b off :=
  relDs_of_get fun i d hi => relDs_get h i d (by rw [List.getElem?_take] at hi; split at hi <;> simp_all)
end Go.Ab
