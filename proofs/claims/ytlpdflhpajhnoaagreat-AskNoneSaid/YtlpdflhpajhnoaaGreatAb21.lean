/- The abstract layer, part 21: the evaluator that enters calls by itself. Definitions. -/
import Derived.Test.YtlpdflhpajhnoaaGreatAb20
namespace Go.Ab

/-! ### Numbers are made plain before they are kept -/
noncomputable def fNat (n : Nat) (k : Nat → Prop) : Prop := @Nat.rec (fun _ => Prop) (k 0) (fun m _ => k (Nat.succ m)) n
noncomputable def fInt (z : Int) (k : Int → Prop) : Prop := @Int.rec (fun _ => Prop) (fun n => fNat n (fun n => k (Int.ofNat n))) (fun n => fNat n (fun n => k (Int.negSucc n))) z
noncomputable def fBool (b : Bool) (k : Bool → Prop) : Prop := @Bool.rec (fun _ => Prop) (k false) (k true) b
noncomputable def fList {α : Type} (l : List α) : (List α → Prop) → Prop := @List.rec α (fun _ => (List α → Prop) → Prop) (fun k => k []) (fun a _ ih k => ih (fun l => k (a :: l))) l
noncomputable def fOpt (o : Option Nat) (k : Option Nat → Prop) : Prop := match o with | none => k none | some n => fNat n (fun n => k (some n))
noncomputable def fAV (v : AV) (k : AV → Prop) : Prop :=
  match v with
  | .ro (.int kd n) => fInt n (fun n => k (.ro (.int kd n)))
  | .ro (.bool b) => fBool b (fun b => k (.ro (.bool b)))
  | .ro (.slice sz cs cap) => fList cs (fun cs => fOpt cap (fun cap => k (.ro (.slice sz cs cap))))
  | .ptr id off => fNat id (fun id => fNat off (fun off => k (.ptr id off)))
  | .sl sz id off len cap => fNat id (fun id => fNat off (fun off => fNat len (fun len => fOpt cap (fun cap => k (.sl sz id off len cap)))))
  | v => k v
theorem fNat_iff {n : Nat} {k : Nat → Prop} : fNat n k ↔ k n := by cases n <;> exact Iff.rfl
theorem fInt_iff {z : Int} {k : Int → Prop} : fInt z k ↔ k z := by
  cases z with
  | ofNat n => exact fNat_iff (k := fun n => k (Int.ofNat n))
  | negSucc n => exact fNat_iff (k := fun n => k (Int.negSucc n))
theorem fBool_iff {b : Bool} {k : Bool → Prop} : fBool b k ↔ k b := by cases b <;> exact Iff.rfl
theorem fList_iff {α : Type} : ∀ {l : List α} {k : List α → Prop}, fList l k ↔ k l
  | [], _ => Iff.rfl
  | a :: l, k => fList_iff (l := l) (k := fun l => k (a :: l))
theorem fOpt_iff {o : Option Nat} {k : Option Nat → Prop} : fOpt o k ↔ k o := by
  cases o with
  | none => exact Iff.rfl
  | some n => exact fNat_iff (k := fun n => k (some n))
theorem fAV_iff {v : AV} {k : AV → Prop} : fAV v k ↔ k v := by
  unfold fAV
  split <;> simp only [fNat_iff, fInt_iff, fBool_iff, fList_iff, fOpt_iff]

/-! ### Equal values -/
def fnBeq (f g : Fn) : Bool := match f, g with | .func a, .func b => Nat.beq a b | _, _ => false
mutual
def RD.beq : RD → RD → Bool
  | .int k n, .int j m => kindEq k j && decide (n = m)
  | .bool a, .bool b => a == b
  | .str s, .str t => s.data.toList == t.data.toList
  | .nilp, .nilp => true
  | .nilfn, .nilfn => true
  | .nilmap, .nilmap => true
  | .niface, .niface => true
  | .fn f, .fn g => fnBeq f g
  | .slice sz cs cap, .slice sz' cs' cap' => Nat.beq sz sz' && RD.beqs cs cs' && (match cap, cap' with | none, none => true | some a, some b => Nat.beq a b | _, _ => false)
  | .ptr cs, .ptr cs' => RD.beqs cs cs'
  | .ifc t cs, .ifc t' cs' => Nat.beq t t' && RD.beqs cs cs'
  | _, _ => false
def RD.beqs : List RD → List RD → Bool
  | [], [] => true
  | a :: l, b :: r => RD.beq a b && RD.beqs l r
  | _, _ => false
end
mutual
def AV.beq : AV → AV → Bool
  | .any, .any => true
  | .ro d, .ro e => RD.beq d e
  | .ptr a b, .ptr c d => Nat.beq a c && Nat.beq b d
  | .sl sz id off len cap, .sl sz' id' off' len' cap' => Nat.beq sz sz' && Nat.beq id id' && Nat.beq off off' && Nat.beq len len' && (match cap, cap' with | none, none => true | some a, some b => Nat.beq a b | _, _ => false)
  | .fn f a b, .fn g c d => fnBeq f g && AV.beqs a c && AV.beqs b d
  | .agg a, .agg b => AV.beqs a b
  | .tup a, .tup b => AV.beqs a b
  | .mp a, .mp b => Nat.beq a b
  | .yld a, .yld b => Nat.beq a b
  | .ifc t a, .ifc u b => Nat.beq t u && AV.beq a b
  | _, _ => false
def AV.beqs : List AV → List AV → Bool
  | [], [] => true
  | a :: l, b :: r => AV.beq a b && AV.beqs l r
  | _, _ => false
end
/-! ### What is known of the program -/
inductive Pl where
  | done
  | rd (i : Nat) (next : Pl)
  | rp (i : Nat) (next : Pl)
  | al (i : Nat) (next : Pl)
  | ef (i : Nat) (rs : List Nat) (next : Pl)
  | br (a b : Pl)
inductive PlT where
  | nil
  | cons (id : Nat) (p : Pl) (r : PlT)
inductive FT where
  | leaf
  | node (l : FT) (k : Nat) (fn : Func) (pl : PlT) (r : FT)
abbrev Kr := List AV → Heap → (AV → Heap → Prop) → Prop
inductive ST where
  | leaf
  | node (l : ST) (k : Nat) (s : Kr) (r : ST)
noncomputable def FT.find (t : FT) : Nat → (Func → PlT → Prop) → Prop :=
  @FT.rec (fun _ => Nat → (Func → PlT → Prop) → Prop) (fun _ _ => bad 70931) (fun _ k fn pl _ ihl ihr n c => if n = k then c fn pl else if n < k then ihl n c else ihr n c) t
noncomputable def ST.find (t : ST) : Nat → (Kr → Prop) → Prop → Prop :=
  @ST.rec (fun _ => Nat → (Kr → Prop) → Prop → Prop) (fun _ _ d => d) (fun _ k s _ ihl ihr n c d => if n = k then c s else if n < k then ihl n c d else ihr n c d) t
noncomputable def PlT.find (t : PlT) : Nat → (Pl → Prop) → Prop :=
  @PlT.rec (fun _ => Nat → (Pl → Prop) → Prop) (fun _ _ => bad 70971) (fun id p _ ih n c => if n = id then c p else ih n c) t

/-! ### What nobody knows any more is let go at a call's end -/
noncomputable def labA (v : AV) : Nat → Nat :=
  @AV.rec (fun _ => Nat → Nat) (fun _ => Nat → Nat)
    (any := fun m => m) (ro := fun _ m => m) (ptr := fun id _ m => Nat.lor m (Nat.shiftLeft 1 id)) (sl := fun _ id _ _ _ m => Nat.lor m (Nat.shiftLeft 1 id))
    (fn := fun _ _ _ iha ihb m => ihb (iha m)) (agg := fun _ ih m => ih m) (tup := fun _ ih m => ih m) (mp := fun id m => Nat.lor m (Nat.shiftLeft 1 id)) (yld := fun id m => Nat.lor m (Nat.shiftLeft 1 id)) (ifc := fun _ _ ih m => ih m)
    (fun m => m) (fun _ _ iha ihl m => ihl (iha m)) v
noncomputable def labL (l : List AV) (m : Nat) : Nat := @List.rec AV (fun _ => Nat → Nat) (fun m => m) (fun a _ ih m => ih (labA a m)) l m
noncomputable def labT (T : Tm) : Nat → Nat := @Tm.rec (fun _ => Nat → Nat) (fun m => m) (fun _ v _ ihl ihr m => ihr (ihl (labA v m))) T
noncomputable def labO (o : AObj) (m : Nat) : Nat := match o with
  | .cells _ cs => labL cs m
  | .map es => @List.rec (AV × AV) (fun _ => Nat → Nat) (fun m => m) (fun e _ ih m => ih (labA e.2 (labA e.1 m))) es m
  | .loop L => labT L.T (Nat.lor m (Nat.shiftLeft 1 L.dl))
  | _ => m
def bitOf (m i : Nat) : Bool := Nat.beq (Nat.mod (Nat.shiftRight m i) 2) 1
/-- What is reached from the objects of a heap that are reached. -/
noncomputable def sweep (n : Nat) (H : Heap) (m : Nat) : Nat :=
  @List.rec AObj (fun _ => Nat → Nat → Nat) (fun _ m => m) (fun o _ ih i m => ih (Nat.succ i) (@Bool.rec (fun _ => Nat) m (labO o m) (match Nat.blt i n with | true => true | false => bitOf m i))) H 0 m
noncomputable def reach (n : Nat) (H : Heap) (f : Nat) (m : Nat) : Nat :=
  @Nat.rec (fun _ => Nat → Nat) (fun m => m) (fun _ ih m => @Bool.rec (fun _ => Nat) (ih (sweep n H m)) m (Nat.beq (sweep n H m) m)) f m
/-- The labels from n on that are kept. -/
noncomputable def keptL (n : Nat) (H : Heap) (m : Nat) (k : List Nat → Prop) : Prop :=
  @List.rec AObj (fun _ => Nat → (List Nat → Prop) → Prop) (fun _ k => k []) (fun _ _ ih i k => fNat i (fun i => match Nat.blt i n with
    | true => ih (Nat.succ i) k
    | false => (match bitOf m i with | true => ih (Nat.succ i) (fun l => k (i :: l)) | false => ih (Nat.succ i) k))) H 0 k
section
variable (n : Nat) (σ : List Nat)
noncomputable def newLab (i : Nat) (k : Nat → Prop) : Prop := match Nat.blt i n with
  | true => k i
  | false => @List.rec Nat (fun _ => Nat → Prop) (fun _ => bad 1) (fun s _ ih j => @Bool.rec (fun _ => Prop) (ih (Nat.succ j)) (fNat j k) (Nat.beq s i)) σ n
noncomputable def reK (v : AV) : (AV → Prop) → Prop :=
  @AV.rec (fun _ => (AV → Prop) → Prop) (fun _ => (List AV → Prop) → Prop)
    (any := fun k => k .any) (ro := fun d k => k (.ro d)) (ptr := fun id off k => newLab n σ id (fun id => k (.ptr id off))) (sl := fun sz id off len cap k => newLab n σ id (fun id => k (.sl sz id off len cap)))
    (fn := fun f _ _ iha ihb k => iha (fun a => ihb (fun b => k (.fn f a b)))) (agg := fun _ ih k => ih (fun l => k (.agg l))) (tup := fun _ ih k => ih (fun l => k (.tup l)))
    (mp := fun id k => newLab n σ id (fun id => k (.mp id))) (yld := fun id k => newLab n σ id (fun id => k (.yld id))) (ifc := fun t _ ih k => ih (fun a => k (.ifc t a)))
    (fun k => k []) (fun _ _ iha ihl k => iha (fun a => ihl (fun l => k (a :: l)))) v
noncomputable def reLK (l : List AV) : (List AV → Prop) → Prop :=
  @AV.rec_1 (fun _ => (AV → Prop) → Prop) (fun _ => (List AV → Prop) → Prop)
    (any := fun k => k .any) (ro := fun d k => k (.ro d)) (ptr := fun id off k => newLab n σ id (fun id => k (.ptr id off))) (sl := fun sz id off len cap k => newLab n σ id (fun id => k (.sl sz id off len cap)))
    (fn := fun f _ _ iha ihb k => iha (fun a => ihb (fun b => k (.fn f a b)))) (agg := fun _ ih k => ih (fun l => k (.agg l))) (tup := fun _ ih k => ih (fun l => k (.tup l)))
    (mp := fun id k => newLab n σ id (fun id => k (.mp id))) (yld := fun id k => newLab n σ id (fun id => k (.yld id))) (ifc := fun t _ ih k => ih (fun a => k (.ifc t a)))
    (fun k => k []) (fun _ _ iha ihl k => iha (fun a => ihl (fun l => k (a :: l)))) l
noncomputable def reTK (T : Tm) : (Tm → Prop) → Prop := @Tm.rec (fun _ => (Tm → Prop) → Prop) (fun k => k .leaf) (fun _ v _ ihl ihr k => ihl (fun l => reK n σ v (fun v => ihr (fun r => k (.node l v r))))) T
noncomputable def reEK (es : List (AV × AV)) : (List (AV × AV) → Prop) → Prop := @List.rec (AV × AV) (fun _ => (List (AV × AV) → Prop) → Prop) (fun k => k []) (fun e _ ih k => reK n σ e.1 (fun a => reK n σ e.2 (fun b => ih (fun l => k ((a, b) :: l))))) es
def reOK (o : AObj) (k : AObj → Prop) : Prop := match o with
  | .cells T cs => reLK n σ cs (fun cs => k (.cells T cs))
  | .map es => reEK n σ es (fun es => k (.map es))
  | .siter s p => k (.siter s p)
  | .loop L => reTK n σ L.T (fun T => newLab n σ L.dl (fun d => k (.loop { L with T := T, dl := d })))
  | .dfr => k .dfr
  | .dead => k .dead
noncomputable def pickK (H : Heap) : Nat → List Nat → (Heap → Prop) → Prop :=
  @List.rec AObj (fun _ => Nat → List Nat → (Heap → Prop) → Prop) (fun _ _ k => k [])
    (fun o _ ih i τ k => match Nat.blt i n with
      | true => reOK n σ o (fun o => ih (Nat.succ i) τ (fun h => k (o :: h)))
      | false => (match τ with
        | [] => k []
        | s :: τ' => (match Nat.beq s i with
          | true => reOK n σ o (fun o => ih (Nat.succ i) τ' (fun h => k (o :: h)))
          | false => ih (Nat.succ i) (s :: τ') k))) H
end
noncomputable def lenN (H : Heap) : Nat := @List.rec AObj (fun _ => Nat → Nat) (fun n => n) (fun _ _ ih n => ih (Nat.succ n)) H 0
noncomputable def lenAt (H : Heap) : Nat → Bool := @List.rec AObj (fun _ => Nat → Bool) (fun _ => false) (fun _ _ ih n => @Nat.rec (fun _ => Bool) true (fun m _ => ih m) n) H
/-- At a call's end: the labels behind the first n, of which there are many, are let go where nobody knows them. -/
noncomputable def gcK (n : Nat) (r : AV) (H : Heap) (k : AV → Heap → Prop) : Prop :=
  match lenAt H (Nat.add n 12) with
  | false => k r H
  | true => fNat (reach n H 50 (labA r 0)) (fun m => keptL n H m (fun σ => reK n σ r (fun r => pickK n σ H 0 σ (fun h => k r h))))

/-! ### Is a plan one of a region's orders? -/
def edgeS (B : List Nat) (s : Nat) (e : Edge) : Nat := match Region.binds .any e with | true => Nat.lor s (Nat.lor (2 ^ e.on) (B.getD e.on 0)) | false => s
def edgeM (B : List Nat) (o : Oper) : Nat := o.after.toList.foldl (edgeS B) 0
def ancsG : List Oper → List Nat → List Nat
  | [], acc => acc
  | o :: r, acc => ancsG r (acc ++ [edgeM acc o])
/-- Whom each operation waits for: a bit each. -/
def ancs (L : List Oper) : List Nat := ancsG L []
def subM (a b : Nat) : Bool := Nat.beq (Nat.land a b) a
def allI (p : Nat → Bool) : Nat → Bool
  | 0 => true
  | n + 1 => match p n with | true => allI p n | false => false
theorem allI_iff {p : Nat → Bool} : ∀ {n : Nat}, allI p n = true ↔ ∀ i, i < n → p i = true
  | 0 => by simp [allI]
  | n + 1 => by
    simp only [allI]
    cases h : p n with
    | true =>
      simp only
      rw [allI_iff]
      constructor
      · intro hh i hi
        by_cases e : i = n
        · exact e ▸ h
        · exact hh i (by omega)
      · intro hh i hi; exact hh i (by omega)
    | false =>
      simp only [Bool.false_eq_true, false_iff]
      intro hh
      have := hh n (by omega)
      rw [h] at this
      cases this
section
variable (tt : TyT) (L : List Oper) (B : List Nat) (lz n : Nat)
def ordI (i : Nat) : Bool := match L[i]? with
  | some o => Nat.beq (B.getD i 0) (edgeM B o) && o.after.toList.all (fun e => match Region.binds .any e with | true => Nat.blt e.on i && subM (Nat.lor (2 ^ e.on) (B.getD e.on 0)) (B.getD i 0) | false => true) &&
      allI (fun j => match Nat.beq i j with
        | true => true
        | false => (match dstAt L j with
          | none => true
          | some t => (match bef B i j with
            | true => true
            | false => (match bef B j i with
              | true => true
              | false => !((looks L o).contains t) && (match o.dst with | some u => !(Nat.beq u t) | none => true))))) n
  | none => false
def readAt (i : Nat) : Bool := match L[i]? with | some o => isRead o.op | none => false
/-- Reads that ask memory nothing. -/
def pureOp : Op → Bool
  | .move _ | .assign _ | .pick .. | .build .. | .nilCheck _ | .binOp .. | .unOp .. | .makeFunc .. | .fieldAddr .. | .field .. | .indexAddr .. | .index .. | .extract .. | .makeInterface .. => true
  | .call ⟨.builtin b, _, _⟩ => isReadB b
  | _ => false
def pureAt (i : Nat) : Bool := match L[i]? with | some o => pureOp o.op | none => false
def slTy (t : Nat) : Bool := match tt.find t with | some (.sl ..) => true | _ => false
/-- What has one outcome. -/
def detOp : Op → Bool
  | .binOp _ t _ _ _ => !slTy tt t
  | _ => true
def detAt (i : Nat) : Bool := match L[i]? with | some o => detOp tt o.op | none => false
def isAlloc : Op → Bool
  | .alloc e => (match tt.find e with | some _ => true | none => false)
  | _ => false
def lazyI (i : Nat) : Bool := match L[i]? with | some o => isAlloc tt o.op && o.guard.isNone && Nat.beq (B.getD i 0) 0 && (match o.dst with | some _ => true | none => false) | none => false
def lzOf : Pl → Nat
  | .done => 0
  | .rd _ p => lzOf p
  | .rp _ p => lzOf p
  | .al i p => Nat.lor (2 ^ i) (lzOf p)
  | .ef _ _ p => lzOf p
  | .br a _ => lzOf a
def opts : Pl → List Nat
  | .al _ p => opts p
  | .ef i _ _ => [i]
  | .br a b => opts a ++ opts b
  | _ => []
/-- What allocations are for: an operation, or the end. -/
def tgt : Pl → Option (Option Nat)
  | .done => some none
  | .al _ p => tgt p
  | .ef i _ _ => some (some i)
  | _ => none
def isWait : Pl → Bool
  | .rd .. => false
  | .rp .. => false
  | _ => true
def waitI (D : Nat) (os : List Nat) (j : Nat) : Bool := D.testBit j || os.contains j || lz.testBit j || !subM (B.getD j 0) (Nat.lor D lz)
def okPl : Pl → Nat → List Nat → List Nat → Bool
  | .done, D, _, _ => allI (fun j => D.testBit j) n
  | .rd i p, D, pend, _ => Nat.blt i n && !D.testBit i && !lz.testBit i && readAt L i && detAt tt L i && subM (B.getD i 0) D &&
      (pureAt L i || allI (fun e => D.testBit e || lz.testBit e || readAt L e || bef B i e) n) && okPl p (Nat.lor D (2 ^ i)) pend (opts p)
  | .rp i p, D, pend, _ => Nat.blt i n && !D.testBit i && !lz.testBit i && readAt L i && detAt tt L i && subM (B.getD i 0) D && okPl p (Nat.lor D (2 ^ i)) (i :: pend) (opts p)
  | .al i p, D, pend, os => Nat.blt i n && lz.testBit i && !D.testBit i && (match tgt p with | some (some j) => bef B i j | some none => true | none => false) && okPl p (Nat.lor D (2 ^ i)) pend os
  | .ef i rs p, D, pend, os => Nat.blt i n && !D.testBit i && !lz.testBit i && !readAt L i && subM (B.getD i 0) D && allI (waitI B lz D os) n && pend.all (fun r => bef B r i || rs.contains r) && rs.all (fun r => pend.contains r) &&
      okPl p (Nat.lor D (2 ^ i)) (pend.filter (fun r => !bef B r i)) (opts p)
  | .br a b, D, pend, os => isWait a && isWait b && okPl a D pend os && okPl b D pend os
end
def okPlan (tt : TyT) (L : List Oper) (p : Pl) : Bool :=
  allI (ordI L (ancs L) L.length) L.length && Nat.beq (ancs L).length L.length && allI (fun i => match (lzOf p).testBit i with | true => lazyI tt L (ancs L) i | false => true) L.length && subM (lzOf p) (2 ^ L.length - 1) && okPl tt L (ancs L) (lzOf p) L.length p 0 [] (opts p)

/-- What lies one step of the fuel below: calls, and code (of rounds). -/
structure Rec where
  bod : Nat → Prop → Prop
  call : Nat → List AV → Heap → (AV → Heap → Prop) → Prop
  code : Nat → Nat → Code → Tm → Heap → Kont → Prop

section
variable (tt : TyT) (conc : Bool)
noncomputable def frK (v : AV) (k : AV → Prop) : Prop := match conc with | true => fAV v k | false => k v
/-- Cells that are bytes, where they are plain numbers. -/
noncomputable def bytesC (cs : List AV) : (List UInt8 → Prop) → Prop :=
  @List.rec AV (fun _ => (List UInt8 → Prop) → Prop) (fun k => k []) (fun a _ ih k => match a with
    | .ro (.int .u8 n) => guardP (decide (0 ≤ n ∧ n < 256)) (ih (fun l => k (UInt8.ofNat n.toNat :: l)))
    | _ => bad 71111) cs
def convC (src dst : Nat) (H : Heap) (x : AV) (k : AV → Prop) : Prop :=
  match tt.find dst, x with
  | some .str, .ro (.str s) => k (.ro (.str s))
  | some .str, x => (match tt.find src with
    | some (.sl e _ _ _) => (match tt.find e with
      | some (.int .u8) => cellsFromK H 1 x (fun _ cs => bytesC cs (fun bs => k (.ro (.str ⟨bs.toArray⟩))))
      | _ => bad 71181)
    | _ => bad 71191)
  | _, _ => convK tt src dst H x k
def makeSliceC (H : Heap) (t : Nat) (l c : AV) (k : AV → Heap → Prop) : Prop :=
  match tt.find t, l, c with
  | some (.sl e esz eb ez), .ro (.int _ ln), .ro (.int _ cn) => guardP (decide (0 ≤ ln ∧ ln ≤ cn ∧ cn * eb ≤ 2 ^ 48 ∧ cn < 2 ^ 63))
      (fList ((reps ez cn.toNat).map AV.ro) (fun cs => newK H (.cells e cs) (fun i H' => k (.sl esz i 0 ln.toNat (some cn.toNat)) H')))
  | _, _, _ => bad 71251
/-- One operation that calls no Go function. -/
def opA (o : Oper) (T : Tm) (H : Heap) (k : AV → Heap → Prop) : Prop :=
  match conc with
  | false => opK tt o T H k
  | true => (match o.op with
    | .convert s d x => evK T x (fun a => match tt.find s with | some _ => convC tt s d H a (fun v => fAV v (fun v => k v H)) | none => bad 71311)
    | .makeSlice t l c => evK T l (fun l => evK T c (fun c => makeSliceC tt H t l c (fun v H => fAV v (fun v => k v H))))
    | _ => opK tt o T H (fun v H => fAV v (fun v => k v H)))
/-- Operations in turn, a step told. -/
noncomputable def opsG (S : Oper → Tm → Heap → (AV → Heap → Prop) → Prop) (nt : Nat) (all : List Oper) (l : List Oper) : Tm → Heap → (Tm → Heap → Prop) → Prop :=
  @List.rec Oper (fun _ => Tm → Heap → (Tm → Heap → Prop) → Prop) (fun T H k => k T H)
    (fun o _ ih T H k => wantedK all o T (S o T H (fun v H => putK nt T o.dst v (fun T => ih T H k))) (putK nt T o.dst (.tup []) (fun T => ih T H k))) l
/-- What is done ahead of a round: numbers and fresh memory. -/
noncomputable def asgA (nt : Nat) (c : Code) : Tm → Heap → (Tm → Heap → Prop) → Prop :=
  @Code.rec (fun _ => Tm → Heap → (Tm → Heap → Prop) → Prop)
    (skip := fun T H k => k T H)
    (region := fun _ ops draw T H k => match draw with | false => opsG (opA tt conc) nt ops.toList ops.toList T H k | true => bad 71411)
    (seq := fun _ _ ihx ihy T H k => ihx T H (fun T H => ihy T H k))
    (cond := fun _ _ _ _ _ _ _ _ => bad 71431)
    (block := fun _ _ _ _ _ _ => bad 71441)
    (loop := fun _ _ _ _ _ => bad 71451)
    (rangeFunc := fun _ _ _ _ _ _ _ _ _ => bad 71461)
    (exit := fun _ _ _ _ => bad 71471)
    (scope := fun _ _ _ _ _ => bad 71481)
    (label := fun _ _ _ _ => bad 71491)
    (goto := fun _ _ _ _ => bad 71501)
    (ret := fun _ _ _ => bad 71511)
    (refuse := fun _ _ _ _ => bad 71521) c
def yieldA (rec : Rec) (l : Nat) (args : List AV) (H : Heap) (k : AV → Heap → Prop) : Prop :=
  nthK H l (fun o => match o with
    | .loop L => (match isReady L.state with
      | true => paramsK L.params.toList args L.T L.nt (fun T => asgA tt conc L.nt L.assign T H (fun T H1 => nthK H1 l (fun o => match o with
        | .loop L1 => (match isReady L1.state with
          | true => setNthK H1 l (.loop { L1 with state := .busy, pending := L1.pending }) (fun H2 => rec.code L.nt L.tag L.body T H2 (roundK l k))
          | false => bad 71591)
        | _ => bad 71601)))
      | false => bad 71611)
    | _ => bad 71621)
def callVA (rec : Rec) (fv : AV) (args : List AV) (H : Heap) (k : AV → Heap → Prop) : Prop :=
  match fv with
  | .ro (.fn (.func g)) => rec.call g args H k
  | .fn (.func g) first cap => appK args cap (fun l => appK first l (fun l => rec.call g l H k))
  | .yld l => yieldA tt conc rec l args H k
  | _ => bad 71681
def stepA (rec : Rec) (o : Oper) (T : Tm) (H : Heap) (k : AV → Heap → Prop) : Prop :=
  match o.op with
  | .call ⟨.value f, args, _⟩ => evK T f (fun fv => evsK T args.toList (fun vs => callVA tt conc rec fv vs H k))
  | _ => opA tt conc o T H k
/-! ### Regions that draw, by a plan -/
abbrev PendA := List (Nat × Oper × Tm × AV)
def sameK (v v' : AV) (k : Prop) : Prop := match conc with | true => guardP (AV.beq v' v) k | false => v' = v ∧ k
noncomputable def recheckA (L : List Oper) (rs : List Nat) : PendA → Heap → Prop → Prop :=
  @List.rec Nat (fun _ => PendA → Heap → Prop → Prop) (fun _ _ k => k)
    (fun i _ ih pend H k => @List.rec (Nat × Oper × Tm × AV) (fun _ => Prop) False (fun x _ ih2 => if x.1 = i then wantedK L x.2.1 x.2.2.1 (opA tt conc x.2.1 x.2.2.1 H (fun v' _ => sameK conc x.2.2.2 v' (ih pend H k))) (ih pend H k) else ih2) pend) rs
noncomputable def planA (rec : Rec) (nt : Nat) (L : List Oper) (p : Pl) : Tm → Heap → PendA → (Tm → Heap → Prop) → Prop :=
  @Pl.rec (fun _ => Tm → Heap → PendA → (Tm → Heap → Prop) → Prop)
    (done := fun T H _ k => k T H)
    (rd := fun i _ ih T H pend k => nthK L i (fun o => wantedK L o T (opA tt conc o T H (fun v _ => putK nt T o.dst v (fun T => ih T H pend k))) (putK nt T o.dst (.tup []) (fun T => ih T H pend k))))
    (rp := fun i _ ih T H pend k => nthK L i (fun o => wantedK L o T (opA tt conc o T H (fun v _ => putK nt T o.dst v (fun T' => ih T' H ((i, o, T, v) :: pend) k))) (putK nt T o.dst (.tup []) (fun T' => ih T' H ((i, o, T, .tup []) :: pend) k))))
    (al := fun i _ ih T H pend k => nthK L i (fun o => match o.op with
      | .alloc e => zerosK tt e (fun cs => newK H (.cells e cs) (fun l H' => frK conc (.ptr l 0) (fun v => putK nt T o.dst v (fun T' => ih T' H' pend k))))
      | _ => bad 1))
    (ef := fun i rs _ ih T H pend k => nthK L i (fun o => wantedK L o T (stepA tt conc rec o T H (fun v H' => recheckA tt conc L rs pend H' (putK nt T o.dst v (fun T' => ih T' H' pend k)))) (recheckA tt conc L rs pend H (putK nt T o.dst (.tup []) (fun T' => ih T' H pend k)))))
    (br := fun _ _ iha ihb T H pend k => iha T H pend k ∧ ihb T H pend k) p

/-! ### Code -/
noncomputable def againA (body : Tm → Heap → List Nat → Kont → Prop) (K : Kont) (m : Nat) : Tm → Heap → List Nat → Prop :=
  @Nat.rec (fun _ => Tm → Heap → List Nat → Prop) (fun _ _ _ => bad 71961) (fun _ ih T H D => body T H D (seqK (fun T H D _ => ih T H D) K)) m
def rangeA (rec : Rec) (nt tag : Nat) (g : Operand) (ps : Array Tmp) (as bd : Code) (T : Tm) (H : Heap) (D : List Nat) (K : Kont) : Prop :=
  evK T g (fun gv => newK H .dfr (fun d H1 => newK H1 (.loop { state := .ready, pending := none, nt := nt, T := T, params := ps, assign := as, body := bd, dl := d, tag := tag }) (fun l H2 =>
    fNat l (fun l => fNat d (fun d =>
    match gv with
    | .ro (.fn (.func f)) => rec.bod f (rec.call f [.yld l] H2 (fun _ H' => afterK T (d :: D) l K H'))
    | .fn (.func f) first cap => rec.bod f (appK [.yld l] cap (fun a => appK first a (fun a => rec.call f a H2 (fun _ H' => afterK T (d :: D) l K H'))))
    | _ => bad 72031)))))
noncomputable def codeA (rec : Rec) (nt tag : Nat) (outer : Bool) (pl : PlT) (c : Code) : Tm → Heap → List Nat → Kont → Prop :=
  @Code.rec (fun _ => Tm → Heap → List Nat → Kont → Prop)
    (skip := fun T H D K => K .normal T H D)
    (region := fun id ops draw T H D K => match draw with
      | false => opsG (stepA tt conc rec) nt ops.toList ops.toList T H (fun T H => K .normal T H D)
      | true => pl.find id (fun p => guardP (okPlan tt ops.toList p) (planA tt conc rec nt ops.toList p T H [] (fun T H => K .normal T H D))))
    (seq := fun _ _ ihx ihy T H D K => ihx T H D (seqK ihy K))
    (cond := fun c _ _ ihx ihy T H D K => evK T c (fun v => ifK v (ihx T H D K) (ihy T H D K)))
    (block := fun id _ ih T H D K => ih T H D (blockK id K))
    (loop := fun _ ih T H D K => againA ih K 100000 T H D)
    (rangeFunc := fun g ps as bd _ _ T H D K => match outer with | true => rangeA rec nt tag g ps as bd T H D K | false => bad 72141)
    (exit := fun id T H D K => K (.exit id) T H D)
    (scope := fun _ _ _ _ _ _ => bad 72161)
    (label := fun _ T H D K => K .normal T H D)
    (goto := fun _ _ _ _ _ => bad 72181)
    (ret := fun T H D K => K .ret T H D)
    (refuse := fun _ _ _ _ _ => bad 72201) c
variable (ft : FT) (st : ST)
def callS (rec : Rec) (f : Nat) (args : List AV) (H : Heap) (k : AV → Heap → Prop) : Prop :=
  st.find f (fun s => s args H k) (ft.find f (fun fn pl => match fn.body with
    | some c => guardP (Nat.ble args.length fn.ntmps) (argsK args 0 .leaf (fun T => codeA tt conc rec fn.ntmps f true pl c T H [] (endK tt fn.results.toList (match conc with | true => (fun r H' => fNat (lenN H) (fun n => gcK n r H' k)) | false => k))))
    | none => bad 72251))
noncomputable def recA (n : Nat) : Rec :=
  @Nat.rec (fun _ => Rec) ⟨fun _ _ => bad 2, fun _ _ _ _ => bad 72271, fun _ _ _ _ _ _ => bad 72272⟩ (fun _ ih => ⟨fun f k => ft.find f (fun _ _ => k), callS tt conc ft st ih, fun nt tag c T H K => ft.find tag (fun _ pl => codeA tt conc ih nt tag false pl c T H [] K)⟩) n
end
end Go.Ab
