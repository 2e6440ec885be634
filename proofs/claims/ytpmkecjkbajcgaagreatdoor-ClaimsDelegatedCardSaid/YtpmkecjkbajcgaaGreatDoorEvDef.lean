/- The evaluator: a Lean function that runs the translated code over abstract values. Definitions alone. -/
import Derived.WalkKit
import Derived.Orders
import Derived.Laws.AppendOwn
namespace Go.Ev
open Go
set_option linter.unusedSimpArgs false
set_option linter.unusedVariables false

/-! ### 1. Data -/
inductive D where
  | i (n : Int) | s (l : List UInt8) | b (v : Bool) | n (xs : List D)
namespace D
def int : D → Int | .i x => x | _ => 0
def str : D → List UInt8 | .s x => x | _ => []
def bool : D → Bool | .b x => x | _ => false
def list : D → List D | .n x => x | _ => []
def nth : List D → Nat → D
  | [], _ => .n []
  | a :: _, 0 => a
  | _ :: l, j + 1 => nth l j
/-- The j-th part. -/
def at' (x : D) (j : Nat) : D := nth x.list j
instance : Inhabited D := ⟨.n []⟩
def setNth : List D → Nat → D → List D
  | [], 0, v => [v]
  | [], j + 1, v => .n [] :: setNth [] j v
  | _ :: l, 0, v => v :: l
  | a :: l, j + 1, v => a :: setNth l j v
end D

/-! ### 2. Kinds of types -/
inductive K where
  | int (k : IntKind) | bool | str | slice (e : TypeId) (k : K) | unit | pair (t : TypeId) (k r : K) | ptr | opq | map (kt vt : TypeId) | pd (e : TypeId) (k : K)   -- pd: nil, or the address of data
  deriving DecidableEq
namespace K
def size : K → Nat
  | unit => 0 | pair _ k r => k.size + r.size | _ => 1
def agg : K → Bool
  | unit | pair .. => true | _ => false
/-- An array: n parts of a kind. -/
def arrK (e : TypeId) (ke : K) : Nat → K
  | 0 => .unit
  | n + 1 => .pair e ke (arrK e ke n)
def cnt : K → Nat
  | pair _ _ r => r.cnt + 1
  | _ => 0
/-- The type and the kind of field j. -/
def fld : K → Nat → Option (TypeId × K)
  | pair t k _, 0 => some (t, k)
  | pair _ _ r, j + 1 => r.fld j
  | _, _ => none
/-- Where field j begins. -/
def off : K → Nat → Nat
  | pair _ k r, j + 1 => k.size + r.off j
  | _, _ => 0
def isInt : K → Bool | int _ => true | _ => false
/-- Nothing in memory belongs to a value of this kind. -/
def flat : K → Bool
  | slice .. | ptr | opq | map .. | pd .. => false | pair _ k r => k.flat && r.flat | _ => true
/-- Can values of this kind be told as data? -/
def data : K → Bool
  | slice _ k | pd _ k => k.data | pair _ k r => k.data && r.data | ptr | opq | map .. => false | _ => true
/-- Keys of maps. -/
def key : K → Bool
  | int _ | str | bool => true | _ => false
end K

/-! ### 3. Abstract values and objects -/
inductive AV where
  | undef
  | d (t : TypeId) (fr : Bool) (x : D)
  | nil (t : TypeId)
  | own (t : TypeId) (i : Nat)
  | cptr (t : TypeId) (fr : Bool) (x : D)
  | optr (t : TypeId) (i : Nat) (j : Int) (p : List Nat)
  | ptr (t : TypeId) (i : Nat) (p : List Nat)
  | nilp
  | agg (t : TypeId) (fs : List AV)
  | fn (g : FuncId) (caps : List AV)
  | tup (xs : List AV)
  | bx (t : TypeId) (fr : Bool) (v : AV)   -- the address of a variable that nothing writes any more
  | w (s : Nat) (b c : Bool) (v : AV)   -- what stands under a guard: v, if slot s holds b (which is so just if c)
inductive AO where
  | row (e : TypeId) (fr : Bool) (xs : List D)
  | box (t : TypeId) (v : AV)
  | map (t : TypeId) (fr : Bool) (xs : List D)
abbrev Slots := List (Nat × AV)
abbrev Heap := List (Nat × AO)
def lk {α : Type} : List (Nat × α) → Nat → Option α
  | [], _ => none
  | (s, v) :: l, t => match Nat.beq s t with | true => some v | false => lk l t
def upd1 (h : Heap) (i : Nat) (o : Option AO) : Heap :=
  match o with
  | some o => (i, o) :: h.filter (fun p => !Nat.beq p.1 i)
  | none => h.filter (fun p => !Nat.beq p.1 i)
abbrev Upd := List (Nat × Option AO)
def upds (h : Heap) : Upd → Heap
  | [] => h
  | (i, o) :: u => upds (upd1 h i o) u

/-! ### 4. Shapes -/
inductive SV where
  | d (t : TypeId) (fr : Bool) | nil (t : TypeId) | own (t : TypeId) (i : Nat) | ptr (t : TypeId) (i : Nat) (p : List Nat) | nilp
  | agg (t : TypeId) (fs : List SV) | fn (g : FuncId) (caps : List SV) | tup (xs : List SV)
  | bx (t : TypeId) (fr : Bool) (v : SV) | optr (t : TypeId) (i : Nat) (p : List Nat)
inductive SO where
  | row (e : TypeId) (fr : Bool) | box (t : TypeId) (v : SV) | map (t : TypeId) (fr : Bool)
structure Shape where
  sl : List (Nat × SV)
  ob : List (Nat × SO)

/-- A function: how many arguments, their shape, which objects stay what they were, the results' shapes (of several the head of the data tells which), what it computes. -/
structure Entry where
  n : Nat
  sh : Shape
  kept : List Nat
  rs : List Shape
  f : List D → Option (List D)
  tot : Option (List D → List D)
inductive Ex where
  | normal | exit (id : Nat) | ret
structure Cut where
  sh : Shape
  kept : List Nat
  outs : List (Ex × Shape)
  f : List D → Option (Nat × List D)
  solo : Bool := false   -- it holds a range over a function: never within a round of another
structure Tbl where
  kd : TypeId → Option K
  boolT : TypeId
  intT : TypeId
  byteT : TypeId
  frz : Nat → Bool   -- variables (by the slot of their address) that nothing writes any more
  ents : FuncId → List Entry
  cuts : Nat → Option Cut
  arr : TypeId → Bool := fun _ => false   -- the types of arrays

/-! ### 5. Filling a shape -/
mutual
def fillV (l : List D) : SV → Nat → AV × Nat
  | .d t fr, j => (.d t fr (D.nth l j), j + 1)
  | .nil t, j => (.nil t, j)
  | .own t i, j => (.own t i, j)
  | .ptr t i p, j => (.ptr t i p, j)
  | .nilp, j => (.nilp, j)
  | .agg t fs, j => match fillVs l fs j with | (vs, j) => (.agg t vs, j)
  | .fn g fs, j => match fillVs l fs j with | (vs, j) => (.fn g vs, j)
  | .tup fs, j => match fillVs l fs j with | (vs, j) => (.tup vs, j)
  | .bx t fr v, j => match fillV l v j with | (a, j) => (.bx t fr a, j)
  | .optr t i p, j => (.optr t i (D.nth l j).int p, j + 1)
def fillVs (l : List D) : List SV → Nat → List AV × Nat
  | [], j => ([], j)
  | v :: r, j => match fillV l v j with | (a, j) => match fillVs l r j with | (as, j) => (a :: as, j)
end
def fillSl (l : List D) : List (Nat × SV) → Nat → Slots × Nat
  | [], j => ([], j)
  | (s, v) :: r, j => match fillV l v j with | (a, j) => match fillSl l r j with | (as, j) => ((s, a) :: as, j)
def fillO (l : List D) : SO → Nat → AO × Nat
  | .row e fr, j => (.row e fr (D.nth l j).list, j + 1)
  | .box t v, j => match fillV l v j with | (a, j) => (.box t a, j)
  | .map t fr, j => (.map t fr (D.nth l j).list, j + 1)
def fillOb (l : List D) : List (Nat × SO) → Nat → Heap × Nat
  | [], j => ([], j)
  | (i, o) :: r, j => match fillO l o j with | (a, j) => match fillOb l r j with | (as, j) => ((i, a) :: as, j)
def fill (sh : Shape) (l : List D) : Slots × Heap :=
  match fillSl l sh.sl 0 with | (a, j) => match fillOb l sh.ob j with | (h, _) => (a, h)

/-! ### 6. From abstract values to data -/
section
variable (T : Tbl) (hp : Nat → Option AO)
mutual
/-- A value as data: is all of it made by this call; the data; the rows that become data. -/
def toD : AV → Option (Bool × D × List Nat)
  | .d _ fr x => some (fr, x, [])
  | .nil _ => some (true, .n [], [])
  | .own _ i => match hp i with
    | some (.row _ fr xs) => some (fr, .n xs, [i])
    | _ => none
  | .agg _ fs => match toDs fs with
    | some (fr, xs, l) => some (fr, .n xs, l)
    | none => none
  | _ => none
def toDs : List AV → Option (Bool × List D × List Nat)
  | [] => some (true, [], [])
  | a :: r => match toD a with
    | some (f, x, l) => match toDs r with
      | some (g, xs, m) => some (f && g, x :: xs, l ++ m)
      | none => none
    | none => none
end
end
def AV.ty : AV → Option TypeId
  | .d t _ _ | .nil t | .own t _ | .agg t _ => some t
  | _ => none

/-! ### 7. Fitting a state into a shape -/
/-- What is known so far: the data (the last first), which object stands for which (none: a nil row), the rows that are lent, the objects that were looked at. -/
structure Fit where
  ds : List D
  mp : List (Nat × Option Nat)
  lent : List Nat
  seen : List Nat
def memN : List Nat → Nat → Bool
  | [], _ => false
  | a :: l, x => match Nat.beq a x with | true => true | false => memN l x
def eqL : List Nat → List Nat → Bool
  | [], [] => true
  | a :: l, b :: m => Nat.beq a b && eqL l m
  | _, _ => false
def hasV : List (Nat × Option Nat) → Nat → Bool
  | [], _ => false
  | (_, some j) :: l, x => Nat.beq j x || hasV l x
  | (_, none) :: l, x => hasV l x
/-- Object i of the shape is object j. -/
def Fit.bindO (f : Fit) (i : Nat) (j : Option Nat) : Option Fit :=
  match lk f.mp i with
  | none => match j with
    | some j' => match hasV f.mp j' with | true => none | false => some { f with mp := (i, j) :: f.mp }
    | none => some { f with mp := (i, j) :: f.mp }
  | some (some a) => match j with
    | some b => match Nat.beq a b with | true => some f | false => none
    | none => none
  | some none => none
def flatT (kd : TypeId → Option K) (t : TypeId) : Bool := match kd t with | some k => k.flat | none => false
section
variable (kd : TypeId → Option K) (hp : Nat → Option AO) (ob : Nat → Option SO)
mutual
def fitV : SV → AV → Fit → Option Fit
  | .d t fr, a, f => match a.ty with
    | some t' => match Nat.beq t t' with
      | true => match toD hp a with
        | some (g, x, l) => match (!fr || g || flatT kd t) with
          | true => some { f with ds := x :: f.ds, lent := l ++ f.lent, seen := l ++ f.seen }
          | false => none
        | none => none
      | false => none
    | none => none
  | .nil t, .nil t', f => match Nat.beq t t' with | true => some f | false => none
  | .own t i, .own t' j, f => match Nat.beq t t' with | true => f.bindO i (some j) | false => none
  | .own t i, .nil t', f => match Nat.beq t t', ob i, kd t with
    | true, some (.row e _), some (.slice e' _) => match Nat.beq e e' with | true => f.bindO i none | false => none
    | _, _, _ => none
  | .ptr t i p, .ptr t' j q, f => match Nat.beq t t' && eqL p q with | true => f.bindO i (some j) | false => none
  | .nilp, .nilp, f => some f
  | .agg t fs, .agg t' as, f => match Nat.beq t t' with | true => fitVs fs as f | false => none
  | .fn g fs, .fn g' as, f => match Nat.beq g g' with | true => fitVs fs as f | false => none
  | .tup fs, .tup as, f => fitVs fs as f
  | .bx t fr v, .bx t' g a, f => match Nat.beq t t' && (!fr || g) with | true => fitV v a f | false => none
  | .optr t i p, .optr t' k j q, f => match Nat.beq t t' && eqL p q with
    | true => match f.bindO i (some k) with
      | some f => some { f with ds := .i j :: f.ds }
      | none => none
    | false => none
  | _, _, _ => none
def fitVs : List SV → List AV → Fit → Option Fit
  | [], [], f => some f
  | v :: r, a :: as, f => match fitV v a f with
    | some f => fitVs r as f
    | none => none
  | _, _, _ => none
end
def fitSl (lks : Nat → Option AV) : List (Nat × SV) → Fit → Option Fit
  | [], f => some f
  | (s, v) :: r, f => match lks s with
    | some a => match fitV kd hp ob v a f with
      | some f => fitSl lks r f
      | none => none
    | none => none
def fitOb : List (Nat × SO) → Fit → Option Fit
  | [], f => some f
  | (i, o) :: r, f => match lk f.mp i with
    | some (some j) => match hp j, o with
      | some (.row e g xs), .row e' fr => match Nat.beq e e' && (!fr || g || flatT kd e) with
        | true => fitOb r { f with ds := .n xs :: f.ds, seen := j :: f.seen }
        | false => none
      | some (.box t a), .box t' v => match Nat.beq t t' with
        | true => match fitV kd hp ob v a { f with seen := j :: f.seen } with
          | some f => fitOb r f
          | none => none
        | false => none
      | some (.map t g xs), .map t' fr => match Nat.beq t t' && (!fr || g) with
        | true => fitOb r { f with ds := .n xs :: f.ds, seen := j :: f.seen }
        | false => none
      | _, _ => none
    | some none => match o, ob i with
      | .row e _, some (.row e2 _) => match Nat.beq e e2, kd e with
        | true, some _ => fitOb r { f with ds := .n [] :: f.ds }
        | _, _ => none
      | _, _ => none
    | none => none
end
def revOnto : List D → List D → List D
  | [], m => m
  | a :: l, m => revOnto l (a :: m)
/-- A row that is lent is not handed over besides; each object of the shape is told. -/
def Fit.ok (f : Fit) : Bool := f.lent.all fun i => !hasV f.mp i
def idMap : List Nat → List (Nat × Option Nat)
  | [] => []
  | i :: l => (i, some i) :: idMap l
def fit (kd : TypeId → Option K) (hp : Nat → Option AO) (lks : Nat → Option AV) (mp0 : List (Nat × Option Nat)) (sh : Shape) : Option Fit :=
  match fitSl kd hp (lk sh.ob) lks sh.sl { ds := [], mp := mp0, lent := [], seen := [] } with
  | some f => match fitOb kd hp (lk sh.ob) sh.ob f with
    | some f => match f.ok with | true => some { f with ds := revOnto f.ds [] } | false => none
    | none => none
  | none => none
/- Does a shape tell only what is made by the call? -/
mutual
def SV.fresh : SV → Bool
  | .d _ fr => fr
  | .bx _ fr v => fr && v.fresh
  | .agg _ fs | .fn _ fs | .tup fs => SV.freshs fs
  | _ => true
def SV.freshs : List SV → Bool
  | [] => true
  | a :: l => a.fresh && SV.freshs l
end
def SO.fresh : SO → Bool
  | .row _ fr => fr
  | .box _ v => v.fresh
  | .map _ fr => fr
/- Does a shape ask for nothing that is made by the call? -/
mutual
def SV.loose : SV → Bool
  | .d _ fr => !fr
  | .bx _ fr v => !fr && v.loose
  | .agg _ fs | .fn _ fs | .tup fs => SV.looses fs
  | _ => true
def SV.looses : List SV → Bool
  | [] => true
  | a :: l => a.loose && SV.looses l
end
def SO.loose : SO → Bool
  | .row _ _ => true
  | .box _ v => v.loose
  | .map _ _ => true
def Shape.loose (s : Shape) : Bool := s.sl.all (fun p => p.2.loose) && s.ob.all (fun p => p.2.loose)
/- The names of objects in a shape. -/
mutual
def SV.small : SV → Bool
  | .own _ i | .ptr _ i _ | .optr _ i _ => Nat.blt i 16
  | .bx _ _ v => v.small
  | .agg _ fs | .fn _ fs | .tup fs => SV.smalls fs
  | _ => true
def SV.smalls : List SV → Bool
  | [] => true
  | a :: l => a.small && SV.smalls l
end
def SO.small : SO → Bool
  | .row _ _ => true
  | .box _ v => v.small
  | .map _ _ => true
def nodupK {α : Type} : List (Nat × α) → Bool
  | [] => true
  | (i, _) :: l => l.all (fun p => !Nat.beq p.1 i) && nodupK l
def Shape.small (s : Shape) : Bool := (s.sl.all (fun p => p.2.small) && nodupK s.sl) && (s.ob.all (fun p => Nat.blt p.1 16 && p.2.small) && nodupK s.ob)
def Shape.fresh (s : Shape) : Bool := s.sl.all (fun p => p.2.fresh) && s.ob.all (fun p => p.2.fresh)

/-! ### 8. Renaming objects -/
mutual
def AV.ren (r : Nat → Nat) : AV → AV
  | .own t i => .own t (r i)
  | .optr t i j p => .optr t (r i) j p
  | .ptr t i p => .ptr t (r i) p
  | .agg t fs => .agg t (AV.rens r fs)
  | .fn g fs => .fn g (AV.rens r fs)
  | .tup fs => .tup (AV.rens r fs)
  | .bx t fr v => .bx t fr (AV.ren r v)
  | .w s b c v => .w s b c (AV.ren r v)
  | v => v
def AV.rens (r : Nat → Nat) : List AV → List AV
  | [] => []
  | a :: l => AV.ren r a :: AV.rens r l
end
def AO.ren (r : Nat → Nat) : AO → AO
  | .box t v => .box t (v.ren r)
  | o => o
/-- The name outside of object i of an inner state: the object that it stands for, or a new one. -/
def outer (kept : List Nat) (mp : List (Nat × Option Nat)) (nid : Nat) (i : Nat) : Nat :=
  match memN kept i with
  | true => match lk mp i with
    | some (some j) => j
    | _ => Nat.add nid i
  | false => Nat.add nid i
/-- What becomes of the objects that were handed over. -/
def given : List (Nat × Option Nat) → Upd
  | [] => []
  | (_, some j) :: l => (j, none) :: given l
  | (_, none) :: l => given l
def back (r : Nat → Nat) : Heap → Upd
  | [] => []
  | (i, o) :: l => (r i, some (o.ren r)) :: back r l
end Go.Ev
