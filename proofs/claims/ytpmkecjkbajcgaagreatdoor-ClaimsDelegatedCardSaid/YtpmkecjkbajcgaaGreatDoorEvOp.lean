/- The evaluator: operations, regions, code. Definitions alone. -/
import Derived.Test.YtpmkecjkbajcgaaGreatDoorEvDef
namespace Go.Ev
open Go
set_option linter.unusedSimpArgs false
set_option linter.unusedVariables false

/-! ### 1. Arithmetic -/
/-- Small enough for memory. -/
def lim (n : Nat) : Bool := Nat.ble n 68719476736
def bitsI (op : BinOp) (k : IntKind) (x y : Int) : Int :=
  match op with
  | .and => k.wrap (BitVec.ofInt k.bits x &&& BitVec.ofInt k.bits y).toNat
  | .or => k.wrap (BitVec.ofInt k.bits x ||| BitVec.ofInt k.bits y).toNat
  | .xor => k.wrap (BitVec.ofInt k.bits x ^^^ BitVec.ofInt k.bits y).toNat
  | _ => k.wrap (BitVec.ofInt k.bits x &&& ~~~BitVec.ofInt k.bits y).toNat
def shl (k : IntKind) (x y : Int) : Int := k.wrap (x * 2 ^ (min y.toNat k.bits))
def shr (k : IntKind) (x y : Int) : Int := x.fdiv (2 ^ (min y.toNat k.bits))
def minI (x y : Int) : Int := if y < x then y else x
def maxI (x y : Int) : Int := if y > x then y else x
def byteAt : List UInt8 → Nat → Int
  | [], _ => 0
  | a :: _, 0 => a.toNat
  | _ :: l, j + 1 => byteAt l j
def toByte (x : D) : UInt8 := UInt8.ofNat x.int.toNat
def ofByte (x : UInt8) : D := .i x.toNat
mutual
/-- '==' of two data of a kind. -/
def eqK : K → D → D → Bool
  | .int _, x, y => x.int == y.int
  | .bool, x, y => x.bool == y.bool
  | .str, x, y => x.str == y.str
  | .pair _ k r, x, y => eqK k (x.at' 0) (y.at' 0) && eqF r 1 x y
  | _, _, _ => true
def eqF : K → Nat → D → D → Bool
  | .pair _ k r, j, x, y => eqK k (x.at' j) (y.at' j) && eqF r (j + 1) x y
  | _, _, _, _ => true
end
def K.depth : K → Nat
  | .pair _ k r => max (k.depth + 1) r.depth
  | _ => 0
/-- Kinds whose values can be compared so. -/
def K.cmp : K → Bool
  | .int _ | .bool | .str | .unit => true
  | .pair _ k r => k.cmp && r.cmp
  | _ => false

section
variable (T : Tbl)

/-! ### 2. Operands and places -/
def constAV (t : TypeId) : Value → Option AV
  | .int k n => match T.kd t with
    | some (.int k') => if k = k' then some (.d t true (.i n)) else none
    | _ => none
  | .bool b => match T.kd t with | some .bool => some (.d t true (.b b)) | _ => none
  | .string s => match T.kd t with | some .str => some (.d t true (.s s.data.toList)) | _ => none
  | .slice none 0 0 => match T.kd t with | some (.slice _ _) => some (.nil t) | _ => none
  | .pointer none => some .nilp
  | _ => none
def opd (lks : Nat → Option AV) (t : TypeId) : Operand → Option AV
  | .tmp s => match lks s with
    | some (.w ..) => none
    | r => r
  | .const v => constAV T t v
  | .func f => some (.fn f [])
  | .global _ => none
mutual
/-- A value that is data all through. -/
def plainD : AV → Option D
  | .d _ _ x => some x
  | .agg _ fs => match plainDs fs with
    | some xs => some (.n xs)
    | none => none
  | _ => none
def plainDs : List AV → Option (List D)
  | [] => some []
  | a :: r => match plainD a with
    | some x => match plainDs r with
      | some xs => some (x :: xs)
      | none => none
    | none => none
end
/-- What is compared: a struct or an array, part by part, told as data. -/
def eqArg (x : AV) : AV :=
  match x with
  | .agg t fs => match T.kd t with
    | some k => match k.cmp with
      | true => match plainD (.agg t fs) with
        | some y => .d t true y
        | none => x
      | false => x
    | none => x
  | x => x
/-- Does a value stand at a place of this type? -/
def fitsB (a : AV) (t : TypeId) : Bool :=
  match T.kd t with
  | some .ptr => match a with | .ptr .. | .nilp | .optr .. | .cptr .. | .bx .. => true | _ => false
  | some .opq => match a with | .fn .. => true | _ => false
  | some _ => match a.ty with | some u => Nat.beq u t | none => false
  | none => false
def nthA : List AV → Nat → Option AV
  | [], _ => none
  | a :: _, 0 => some a
  | _ :: l, j + 1 => nthA l j
def setA : List AV → Nat → AV → List AV
  | [], _, _ => []
  | _ :: l, 0, v => v :: l
  | a :: l, j + 1, v => a :: setA l j v
/-- A struct's fields, each as a value. -/
def fldsD (fr : Bool) (x : D) : K → Nat → List AV
  | .pair t _ r, j => .d t fr (x.at' j) :: fldsD fr x r (j + 1)
  | _, _ => []
def flds : AV → Option (List AV)
  | .agg _ fs => some fs
  | .d t fr x => match T.kd t with
    | some k => match k.agg with | true => some (fldsD fr x k 0) | false => none
    | none => none
  | _ => none
def getP : AV → List Nat → Option AV
  | v, [] => some v
  | v, j :: p => match flds T v with
    | some fs => match nthA fs j with
      | some a => getP a p
      | none => none
    | none => none
def setP : AV → List Nat → AV → Option AV
  | _, [], a => some a
  | v, j :: p, a => match v.ty with
    | some t => match flds T v with
      | some fs => match nthA fs j with
        | some b => match setP b p a with
          | some b' => some (.agg t (setA fs j b'))
          | none => none
        | none => none
      | none => none
    | none => none
def dget : D → List Nat → D
  | x, [] => x
  | x, j :: p => dget (x.at' j) p
def dset : D → List Nat → D → D
  | _, [], v => v
  | x, j :: p, v => .n (D.setNth x.list j (dset (x.at' j) p v))
mutual
/-- The zero value of a kind. -/
def zeroK (t : TypeId) : K → Option AV
  | .int _ => some (.d t true (.i 0))
  | .bool => some (.d t true (.b false))
  | .str => some (.d t true (.s []))
  | .slice _ _ => some (.nil t)
  | .unit => some (.agg t [])
  | .pair u k r => match zeroK u k with
    | some a => match zeroF r with
      | some l => some (.agg t (a :: l))
      | none => none
    | none => none
  | .ptr => some .nilp
  | .opq => none
  | .map .. => some (.d t true (.n []))
  | .pd .. => some (.d t true (.n []))
def zeroF : K → Option (List AV)
  | .unit => some []
  | .pair u k r => match zeroK u k with
    | some a => match zeroF r with
      | some l => some (a :: l)
      | none => none
    | none => none
  | _ => none
end
def zeroAV (t : TypeId) : Option AV := match T.kd t with | some k => zeroK t k | none => none
/-- The list of a slice: of data, nil, or a row of the call's own. -/
def listOf (hp : Nat → Option AO) : AV → Option (TypeId × Bool × List D × List Nat)
  | .d t fr x => match T.kd t with | some (.slice _ _) => some (t, fr, x.list, []) | _ => none
  | .nil t => some (t, true, [], [])
  | .own t i => match hp i with
    | some (.row _ fr xs) => some (t, fr, xs, [i])
    | _ => none
  | _ => none
def opEq : Operand → Operand → Bool
  | .tmp a, .tmp b => Nat.beq a b
  | .const (.int k a), .const (.int k' b) => decide (k = k') && a == b
  | _, _ => false
def drops : List Nat → Upd
  | [] => []
  | i :: l => (i, none) :: drops l

/-! ### 3. One operation -/
/-- What follows an operation: its value, what becomes of objects, the objects that were looked at. -/
abbrev OK (R : Type) := AV → Upd → List Nat → Option R
variable {R : Type}
/-- A check, where the operation is performed at all. -/
def chk (g : Option Bool) (c : Bool) (x : Option R) : Option R :=
  match g with
  | none => cond c x none
  | some p => cond (!p || c) x none
def evBin (g : Option Bool) (op : BinOp) (xT : TypeId) (x y : AV) (k : OK R) : Option R :=
  match x, y with
  | .d t _ a, .d t' _ b => match T.kd t, T.kd t' with
    | some (.int ka), some (.int kb) =>
      match op with
      | .shl => chk g (!decide (b.int < 0)) (k (.d t true (.i (shl ka a.int b.int))) [] [])
      | .shr => chk g (!decide (b.int < 0)) (k (.d t true (.i (shr ka a.int b.int))) [] [])
      | _ => if ka = kb then
          match op with
          | .add => k (.d t true (.i (ka.wrap (a.int + b.int)))) [] []
          | .sub => k (.d t true (.i (ka.wrap (a.int - b.int)))) [] []
          | .mul => k (.d t true (.i (ka.wrap (a.int * b.int)))) [] []
          | .quo => chk g (!decide (b.int = 0)) (k (.d t true (.i (ka.wrap (a.int.tdiv b.int)))) [] [])
          | .rem => chk g (!decide (b.int = 0)) (k (.d t true (.i (a.int.tmod b.int))) [] [])
          | .and | .or | .xor | .andNot => k (.d t true (.i (bitsI op ka a.int b.int))) [] []
          | .eql => k (.d T.boolT true (.b (a.int == b.int))) [] []
          | .neq => k (.d T.boolT true (.b (a.int != b.int))) [] []
          | .lss => k (.d T.boolT true (.b (decide (a.int < b.int)))) [] []
          | .leq => k (.d T.boolT true (.b (decide (a.int ≤ b.int)))) [] []
          | .gtr => k (.d T.boolT true (.b (decide (a.int > b.int)))) [] []
          | .geq => k (.d T.boolT true (.b (decide (a.int ≥ b.int)))) [] []
          | _ => none
        else none
    | some .str, some .str =>
      match op with
      | .add => chk g (lim (a.str.length + b.str.length)) (k (.d t true (.s (a.str ++ b.str))) [] [])
      | .eql => k (.d T.boolT true (.b (a.str == b.str))) [] []
      | .neq => k (.d T.boolT true (.b (!(a.str == b.str)))) [] []
      | .lss => k (.d T.boolT true (.b (Op.bytesLess a.str b.str))) [] []
      | .leq => k (.d T.boolT true (.b (Op.bytesLess a.str b.str || a.str == b.str))) [] []
      | .gtr => k (.d T.boolT true (.b (!(Op.bytesLess a.str b.str || a.str == b.str)))) [] []
      | .geq => k (.d T.boolT true (.b (!(Op.bytesLess a.str b.str)))) [] []
      | _ => none
    | some .bool, some .bool => match T.kd xT with
      | some .bool => match op with
        | .eql => k (.d T.boolT true (.b (a.bool == b.bool))) [] []
        | .neq => k (.d T.boolT true (.b (!(a.bool == b.bool)))) [] []
        | _ => none
      | _ => none
    | some (.pair u ka ra), some (.pair ..) => match Nat.beq t xT && Nat.beq t' xT && (K.pair u ka ra).cmp && Nat.blt (K.pair u ka ra).depth 100 with
      | true => match op with
        | .eql => k (.d T.boolT true (.b (eqK (.pair u ka ra) a b))) [] []
        | .neq => k (.d T.boolT true (.b (!eqK (.pair u ka ra) a b))) [] []
        | _ => none
      | false => none
    | _, _ => none
  | .ptr .., .nilp | .nilp, .ptr .. => match T.kd xT with
    | some .ptr => match op with
      | .eql => k (.d T.boolT true (.b false)) [] []
      | .neq => k (.d T.boolT true (.b true)) [] []
      | _ => none
    | _ => none
  | .nilp, .nilp => match T.kd xT with
    | some .ptr => match op with
      | .eql => k (.d T.boolT true (.b true)) [] []
      | .neq => k (.d T.boolT true (.b false)) [] []
      | _ => none
    | _ => none
  | .d t _ a, .nilp => match T.kd t, T.kd xT with
    | some (.pd ..), some (.pd ..) => match op with
      | .eql => k (.d T.boolT true (.b a.list.isEmpty)) [] []
      | .neq => k (.d T.boolT true (.b (!a.list.isEmpty))) [] []
      | _ => none
    | _, _ => none
  | _, _ => none
def evUn (op : UnOp) (x : AV) (k : OK R) : Option R :=
  match x with
  | .d t _ a => match T.kd t with
    | some (.int ka) => match op with
      | .neg => k (.d t true (.i (ka.wrap (0 - a.int)))) [] []
      | _ => none
    | some .bool => match op with
      | .not => k (.d t true (.b (!a.bool))) [] []
      | _ => none
    | _ => none
  | _ => none
/-- A number, told at another type of its kind. -/
def retag (src : TypeId) (x : AV) : AV :=
  match x with
  | .d t fr a => match T.kd t, T.kd src with
    | some (.int k), some (.int k') => match decide (k = k') with | true => .d src fr a | false => .d t fr a
    | _, _ => .d t fr a
  | x => x
def evConvert (src dst : TypeId) (hp : Nat → Option AO) (x : AV) (k : OK R) : Option R :=
  match x.ty with
  | some t => match Nat.beq src t with
    | true => match T.kd dst with
      | some (.int kb) => match x with
        | .d t _ a => match T.kd t with
          | some (.int _) => k (.d dst true (.i (kb.wrap a.int))) [] []
          | _ => none
        | _ => none
      | some .str => match x with
        | .d t _ a => match T.kd t with
          | some (.int _) => k (.d dst true (.s (Utf8.encode a.int).data.toList)) [] []
          | some .str => k (.d dst true a) [] []
          | some (.slice _ (.int .u8)) => k (.d dst true (.s (a.list.map toByte))) [] []
          | _ => none
        | .nil t => match T.kd t with
          | some (.slice _ (.int .u8)) => k (.d dst true (.s [])) [] []
          | _ => none
        | .own t i => match T.kd t with
          | some (.slice e (.int .u8)) => match hp i with
            | some (.row e' _ xs) => match Nat.beq e e' with
              | true => k (.d dst true (.s (xs.map toByte))) [] [i]
              | false => none
            | _ => none
          | _ => none
        | _ => none
      | some (.slice _ (.int .u8)) => match x with
        | .d t _ a => match T.kd t with
          | some .str => cond (lim a.str.length) (k (.d dst true (.n (a.str.map ofByte))) [] []) none
          | _ => none
        | _ => none
      | _ => none
    | false => none
  | none => none
def evLoad (t : TypeId) (hp : Nat → Option AO) (x : AV) (k : OK R) : Option R :=
  match x with
  | .cptr u fr a => match Nat.beq t u with | true => k (.d t fr a) [] [] | false => none
  | .bx u _ a => match Nat.beq t u with | true => k a [] [] | false => none
  | .optr u i j p => match Nat.beq t u with
    | true => match hp i with
      | some (.row _ fr xs) => k (.d t fr (dget (D.nth xs j.toNat) p)) [] [i]
      | _ => none
    | false => none
  | .ptr u i p => match Nat.beq t u with
    | true => match hp i with
      | some (.box _ v) => match getP T v p with
        | some a => k a [] [i]
        | none => none
      | _ => none
    | false => none
  | _ => none
def evStore (t : TypeId) (hp : Nat → Option AO) (x v : AV) (k : OK R) : Option R :=
  match x with
  | .optr u i j p => match Nat.beq t u with
    | true => match v.ty with
      | some tv => match Nat.beq t tv with
        | true => match hp i with
          | some (.row e fr xs) => match toD hp v with
            | some (g, y, l) => match memN l i with
              | false => k .undef ((i, some (.row e (fr && g) (D.setNth xs j.toNat (dset (D.nth xs j.toNat) p y)))) :: drops l) (i :: l)
              | true => none
            | none => none
          | _ => none
        | false => none
      | none => none
    | false => none
  | .ptr u i p => match Nat.beq t u && fitsB T v t with
    | true => match hp i with
      | some (.box bt b) => match setP T b p v with
        | some b' => k .undef [(i, some (.box bt b'))] [i]
        | none => none
      | _ => none
    | false => none
  | _ => none
def evFieldAddr (s : TypeId) (x : AV) (j : Nat) (k : OK R) : Option R :=
  match T.kd s with
  | some ks => match ks.fld j with
    | some (tj, kj) => match Nat.beq kj.size 0 with
      | false => match x with
        | .cptr u fr a => match Nat.beq s u with | true => k (.cptr tj fr (a.at' j)) [] [] | false => none
        | .bx u fr v => match Nat.beq s u with
          | true => match getP T v [j] with
            | some a => k (.bx tj fr a) [] []
            | none => none
          | false => none
        | .optr u i n p => match Nat.beq s u with | true => k (.optr tj i n (p ++ [j])) [] [] | false => none
        | .ptr u i p => match Nat.beq s u with | true => k (.ptr tj i (p ++ [j])) [] [] | false => none
        | _ => none
      | true => none
    | none => none
  | none => none
def evField (s : TypeId) (x : AV) (j : Nat) (k : OK R) : Option R :=
  match x.ty with
  | some u => match Nat.beq s u with
    | true => match flds T x with
      | some fs => match nthA fs j with
        | some a => k a [] []
        | none => none
      | none => none
    | false => none
  | none => none
/-- 0 ≤ i < n. -/
def inB (i : Int) (n : Nat) : Bool := decide (0 ≤ i) && decide (i < n)
def evIndexAddr (g : Option Bool) (t : TypeId) (hp : Nat → Option AO) (x ix : AV) (k : OK R) : Option R :=
  match ix with
  | .d ti _ i => match T.kd ti with
    | some (.int _) => match x with
      | .d u fr a => match Nat.beq t u with
        | true => match T.kd u with
          | some (.slice e _) => chk g (inB i.int a.list.length) (k (.cptr e fr (D.nth a.list i.int.toNat)) [] [])
          | _ => none
        | false => none
      | .own u n => match Nat.beq t u with
        | true => match hp n with
          | some (.row e _ xs) => chk g (inB i.int xs.length) (k (.optr e n i.int []) [] [n])
          | _ => none
        | false => none
      | _ => none
    | _ => none
  | _ => none
def evIndex (g : Option Bool) (t ty : TypeId) (x ix : AV) (k : OK R) : Option R :=
  match ix with
  | .d ti _ i => match T.kd ti with
    | some (.int _) => match x with
      | .d u fr a => match Nat.beq t u with
        | true => match T.kd u, T.kd ty with
          | some .str, some (.int .u8) => chk g (inB i.int a.str.length) (k (.d ty true (.i (byteAt a.str i.int.toNat))) [] [])
          | some (.pair e ke r), _ => match T.arr u with
            | true => chk g (inB i.int (K.pair e ke r).cnt) (k (.d e fr (D.nth a.list i.int.toNat)) [] [])
            | false => none
          | _, _ => none
        | false => none
      | _ => none
    | _ => none
  | _ => none
/-- lo ≤ hi ≤ n, both from 0 on. -/
def inS (lo hi : Int) (n : Nat) : Bool := decide (0 ≤ lo) && decide (lo ≤ hi) && decide (hi ≤ n)
def intAV : AV → Option Int
  | .d t _ x => match T.kd t with | some (.int _) => some x.int | _ => none
  | _ => none
def evSlice (g : Option Bool) (t : TypeId) (hp : Nat → Option AO) (nid : Nat) (x : AV) (lo hi : Option AV) (k : OK R) : Option R :=
  match x with
  | .d u fr a => match Nat.beq t u with
    | true => match T.kd t with
      | some .str => match lo, hi with
        | some l, some h => match intAV T l, intAV T h with
          | some i, some j => chk g (inS i j a.str.length) (k (.d t true (.s ((a.str.take j.toNat).drop i.toNat))) [] [])
          | _, _ => none
        | some l, none => match intAV T l with
          | some i => chk g (inB i (a.str.length + 1)) (k (.d t true (.s (a.str.drop i.toNat))) [] [])
          | none => none
        | none, some h => match intAV T h with
          | some j => chk g (inB j (a.str.length + 1)) (k (.d t true (.s (a.str.take j.toNat))) [] [])
          | none => none
        | none, none => k x [] []
      | some (.slice _ _) => match lo, hi with
        | some l, some h => match intAV T l, intAV T h with
          | some i, some j => chk g (inS i j a.list.length) (k (.d t fr (.n ((a.list.take j.toNat).drop i.toNat))) [] [])
          | _, _ => none
        | some l, none => match intAV T l with
          | some i => chk g (inB i (a.list.length + 1)) (k (.d t fr (.n (a.list.drop i.toNat))) [] [])
          | none => none
        | none, some h => match intAV T h with
          | some j => chk g (inB j (a.list.length + 1)) (k (.d t fr (.n (a.list.take j.toNat))) [] [])
          | none => none
        | none, none => k x [] []
      | _ => none
    | false => none
  | .own u i => match Nat.beq t u with
    | true => match hp i with
      | some (.row e fr xs) => match lo, hi with
        | some l, some h => match intAV T l, intAV T h with
          | some m, some j => cond (inS m j xs.length) (k (.d t fr (.n ((xs.take j.toNat).drop m.toNat))) [(i, none)] [i]) none
          | _, _ => none
        | some l, none => match intAV T l with
          | some m => cond (inB m (xs.length + 1)) (k (.d t fr (.n (xs.drop m.toNat))) [(i, none)] [i]) none
          | none => none
        | none, some h => match intAV T h with
          | some j => cond (inB j (xs.length + 1)) (k (.own t nid) [(i, none), (nid, some (.row e fr (xs.take j.toNat)))] [i]) none
          | none => none
        | none, none => k x [] [i]
      | _ => none
    | false => none
  | .nil u => match Nat.beq t u with
    | true => match lo, hi with
      | none, some h => match intAV T h with
        | some j => chk g (inB j 1) (k (.nil t) [] [])
        | none => none
      | some l, none => match intAV T l with
        | some j => chk g (inB j 1) (k (.nil t) [] [])
        | none => none
      | _, _ => none
    | false => none
  | _ => none
def evMake (t : TypeId) (nid : Nat) (n : AV) (k : OK R) : Option R :=
  match T.kd t, intAV T n with
  | some (.slice e ke), some i => match ke.data with
    | true => cond (decide (0 ≤ i) && lim i.toNat) (k (.own t nid) [(nid, some (.row e true (List.replicate i.toNat (.n []))))] []) none
    | false => none
  | _, _ => none
/-- What is appended to. -/
def rowOf (hp : Nat → Option AO) : AV → Option (TypeId × Bool × List D × List Nat)
  | .nil t => some (t, true, [], [])
  | .own t i => match hp i with
    | some (.row _ fr xs) => some (t, fr, xs, [i])
    | _ => none
  | _ => none
/-- What is appended. -/
def srcOf (hp : Nat → Option AO) (e : TypeId) (ke : K) (xt : TypeId) : AV → Option (Bool × List D × List Nat)
  | .d u fr a => match Nat.beq xt u with
    | true => match T.kd u with
      | some (.slice e' _) => match Nat.beq e e' with
        | true => some (fr, a.list, [])
        | false => none
      | some .str => match ke with
        | .int .u8 => some (true, a.str.map ofByte, [])
        | _ => none
      | _ => none
    | false => none
  | .nil u => match Nat.beq xt u with
    | true => match T.kd u with
      | some (.slice e' _) => match Nat.beq e e' with
        | true => some (true, [], [])
        | false => none
      | _ => none
    | false => none
  | .own u j => match Nat.beq xt u with
    | true => match T.kd u with
      | some (.slice e' _) => match Nat.beq e e' with
        | true => match hp j with
          | some (.row _ fr ys) => some (fr, ys, [j])
          | _ => none
        | false => none
      | _ => none
    | false => none
  | _ => none
def apartL : List Nat → List Nat → Bool
  | [], _ => true
  | a :: l, m => match memN m a with | true => false | false => apartL l m
def evAppend1 (nid : Nat) (st xt : TypeId) (hp : Nat → Option AO) (s x : AV) (k : OK R) : Option R :=
  match rowOf hp s with
  | some (t, fi, xs, gone) => match Nat.beq st t with
    | true => match T.kd t with
      | some (.slice e ke) => match srcOf T hp e ke xt x with
        | some (fr, ys, l) => match apartL gone l with
          | true => cond (lim (xs.length + ys.length)) (k (.own t nid) (drops gone ++ [(nid, some (.row e (fi && fr) (xs ++ ys)))]) (gone ++ l)) none
          | false => none
        | none => none
      | _ => none
    | false => none
  | none => none
/-- 'append(nil, make(.., n)..)'. -/
def evAppend (nid : Nat) (st xt : TypeId) (hp : Nat → Option AO) (s x : AV) (k : OK R) : Option R :=
  match s with
  | .nil t => match intAV T x with
    | some i => match Nat.beq st t, x with
      | true, .d u _ _ => match T.kd u, Nat.beq xt u with
        | some (.int .i64), true => match T.kd st with
          | some (.slice e ke) => match ke.data with
            | true => cond (decide (1 ≤ i) && lim i.toNat) (k (.own st nid) [(nid, some (.row e true (List.replicate i.toNat (.n []))))] []) none
            | false => none
          | _ => none
        | _, _ => none
      | _, _ => none
    | none => evAppend1 T nid st xt hp s x k
  | _ => evAppend1 T nid st xt hp s x k
/-! Maps: pairs of a key and a value, in the order in which the keys came. -/
def mapGet (kk : K) (key : D) : List D → D
  | [] => .n []
  | x :: l => cond (eqK kk key (x.at' 0)) (x.at' 1) (mapGet kk key l)
def mapHas (kk : K) (key : D) : List D → Bool
  | [] => false
  | x :: l => cond (eqK kk key (x.at' 0)) true (mapHas kk key l)
def mapSet (kk : K) (key v : D) : List D → List D
  | [] => [.n [key, v]]
  | x :: l => cond (eqK kk key (x.at' 0)) (.n [x.at' 0, v] :: l) (x :: mapSet kk key v l)
def evMakeMap (t : TypeId) (nid : Nat) (k : OK R) : Option R :=
  match T.kd t with
  | some (.map kt vt) => match T.kd kt, T.kd vt with
    | some kk, some _ => match kk.key with
      | true => k (.own t nid) [(nid, some (.map t true []))] []
      | false => none
    | _, _ => none
  | _ => none
def evLookup (t kt vt : TypeId) (hp : Nat → Option AO) (x ix : AV) (ok : Bool) (k : OK R) : Option R :=
  match x, ix, T.kd kt, T.kd vt with
  | .own u i, .d ku _ key, some kk, some kv => match Nat.beq t u && (Nat.beq kt ku && kv.data) with
    | true => match hp i with
      | some (.map mt fr xs) => match ok with
        | false => k (.d vt fr (mapGet kk key xs)) [] [i]
        | true => k (.tup [.d vt fr (mapGet kk key xs), .d T.boolT true (.b (mapHas kk key xs))]) [] [i]
      | _ => none
    | false => none
  | _, _, _, _ => none
def evMapUpdate (t kt vt : TypeId) (hp : Nat → Option AO) (x key v : AV) (k : OK R) : Option R :=
  match x, key, v with
  | .own u i, .d ku _ kx, .d vu fv vx => match T.kd kt, T.kd vt with
    | some kk, some kv => match Nat.beq t u && (Nat.beq kt ku && Nat.beq vt vu) with
      | true => match hp i with
        | some (.map mt fr xs) => k .undef [(i, some (.map mt (fr && (fv || kv.flat)) (mapSet kk kx vx xs)))] [i]
        | _ => none
      | false => none
    | _, _ => none
  | _, _, _ => none
def minAll (f : Int → Int → Int) : Int → List AV → Option Int
  | x, [] => some x
  | x, a :: l => match intAV T a with
    | some y => minAll f (f x y) l
    | none => none
def opds (lks : Nat → Option AV) : List TypeId → List Operand → Option (List AV)
  | [], [] => some []
  | t :: ts, x :: xs => match opd T lks t x with
    | some a => match opds lks ts xs with
      | some l => some (a :: l)
      | none => none
    | none => none
  | _, _ => none
def num : List AV → Nat → Slots
  | [], _ => []
  | a :: l, j => (j, a) :: num l (j + 1)
def small : Heap → Bool
  | [] => true
  | (i, _) :: l => Nat.blt i 16 && small l
/-- Which of the results' shapes it is: the last in any case. -/
def selS (out : List D) : List Shape → Nat → Option Shape
  | [], _ => none
  | [s], _ => some s
  | s :: r, j => cond ((D.nth out 0).int == (j : Int)) (some s) (selS out r (j + 1))
def evRes (out : List D) (use : Shape → Option R) : List Shape → Nat → Option R
  | [], _ => none
  | [s], _ => use s
  | s :: r, j => cond ((D.nth out 0).int == (j : Int)) (use s) (evRes out use r (j + 1))
/-- The data behind the head that tells the shape. -/
def datS (rs : List Shape) (out : List D) : List D := match rs with | [_] => out | _ => out.tail
def tagS (rs : List Shape) (j : Nat) (ds : List D) : List D := match rs with | [_] => ds | _ => .i j :: ds
def evCall (g : Option Bool) (hp : Nat → Option AO) (nid : Nat) (as : List AV) (k : OK R) : List Entry → Option R
  | [] => none
  | e :: es => match Nat.beq e.n as.length with
    | true => match fit T.kd hp (lk (num as 0)) [] e.sh with
      | some f => match f.lent.isEmpty || (e.rs.all Shape.fresh && e.sh.loose) with
        | true => match e.tot with
          | some p => evRes (p f.ds) (fun s => match fill s (datS e.rs (p f.ds)) with
            | (rsl, rob) => match lk rsl 0 with
              | some a => k (a.ren (outer e.kept f.mp nid)) (given f.mp ++ back (outer e.kept f.mp nid) rob) f.seen
              | none => none) e.rs 0
          | none => match g with
            | none => (e.f f.ds).bind fun out => evRes out (fun s => match fill s (datS e.rs out) with
              | (rsl, rob) => match lk rsl 0 with
                | some a => k (a.ren (outer e.kept f.mp nid)) (given f.mp ++ back (outer e.kept f.mp nid) rob) f.seen
                | none => none) e.rs 0
            | some _ => none
        | false => none
      | none => evCall g hp nid as k es
    | false => evCall g hp nid as k es
def optAV (lks : Nat → Option AV) (t : TypeId) : Option Operand → Option (Option AV)
  | none => some none
  | some x => match opd T lks t x with
    | some a => some (some a)
    | none => none
/-- A struct built out of its parts. -/
def putParts (lks : Nat → Option AV) (ks : K) : List (Nat × Operand) → List AV → Option (List AV)
  | [], fs => some fs
  | (j, x) :: r, fs => match ks.fld j with
    | some (tj, _) => match opd T lks tj x with
      | some a => match fitsB T a tj with
        | true => putParts lks ks r (setA fs j a)
        | false => none
      | none => none
    | none => none
def elems (lks : Nat → Option AV) (hp : Nat → Option AO) (e : TypeId) : Nat → List (Nat × Operand) → Option (Bool × List D × List Nat)
  | _, [] => some (true, [], [])
  | j, (i, x) :: r => match Nat.beq i j with
    | true => match opd T lks e x with
      | some a => match a.ty with
        | some ta => match Nat.beq ta e with
          | true => match toD hp a with
            | some (fr, y, l) => match elems lks hp e (j + 1) r with
              | some (g, ys, m) => some (fr && g, y :: ys, l ++ m)
              | none => none
            | none => none
          | false => none
        | none => none
      | none => none
    | false => none
/-- One of two data of a kind. -/
def pickD (k : Option K) (c : Bool) (y z : D) : D :=
  match k with
  | some (.int _) => .i (cond c y.int z.int)
  | some .bool => .b (cond c y.bool z.bool)
  | some .str => .s (cond c y.str z.str)
  | _ => cond c y z
/-- An operand that counts only where c holds b: what stands under that very guard serves, too. -/
def opdW (lks : Nat → Option AV) (t : TypeId) (c : Operand) (b : Bool) (x : Operand) : Option AV :=
  match x, c with
  | .tmp s, .tmp g => match lks s with
    | some (.w g' b' _ v) => match Nat.beq g g' && (b == b') with
      | true => some v
      | false => none
    | r => r
  | _, _ => opd T lks t x
/-- May a closure hold it? -/
def capOK : AV → Bool
  | .d t _ _ => match T.kd t with | some k => !k.agg | none => false
  | .nil _ | .own _ _ | .cptr .. | .optr .. | .ptr .. | .nilp | .fn _ _ | .bx .. => true
  | _ => false
/-- May it be looked at what an operation would give, if it were performed? -/
def spec (o : Oper) : Bool :=
  match o.op with
  | .move _ | .assign _ | .pick .. | .build .. | .load .. | .nilCheck _ | .binOp .. | .unOp .. | .fieldAddr .. | .field .. | .indexAddr .. | .index .. | .extract .. => true
  | .lookup .. => true
  | .slice t _ _ _ none => match T.kd t with | some .str => true | _ => false
  | .convert _ t _ => match T.kd t with | some (.slice _ _) => false | some _ => true | none => false
  | .call c => match c.callee with
    | .builtin .len | .builtin .min | .builtin .max => true
    | .value (.func f) => (T.ents f).all fun e => e.tot.isSome && e.sh.ob.isEmpty && e.rs.all (·.ob.isEmpty)
    | _ => false
  | _ => false
def evOp (g : Option Bool) (o : Oper) (lks : Nat → Option AV) (hp : Nat → Option AO) (nid : Nat) (k : OK R) : Option R :=
  match o.op with
  | .move x | .assign x => match opd T lks o.type x with
    | some a => k a [] []
    | none => none
  | .pick c a b => match opd T lks T.boolT c, opdW T lks o.type c true a, opdW T lks o.type c false b with
    | some (.d t _ x), some (.d u f y), some (.d v g' z) => match T.kd t with
      | some .bool => match Nat.beq u v with
        | true => k (.d u (f && g') (pickD (T.kd u) x.bool y z)) [] []
        | false => none
      | _ => none
    | some (.d t _ x), some y, some z => match T.kd t, g with
      | some .bool, none => cond x.bool (k y [] []) (k z [] [])
      | some .bool, some _ => match x with
        | .b c => match c with
          | true => k y [] []
          | false => k z [] []
        | _ => none
      | _, _ => none
    | _, _, _ => none
  | .alloc t => match zeroAV T t with
    | some a => k (.ptr t nid []) [(nid, some (.box t a))] []
    | none => none
  | .box t x => match opd T lks t x with
    | some a => match fitsB T a t with
      | true => match T.kd o.type with
        | some (.pd e _) => match Nat.beq e t, toD hp a with
          | true, some (fr, y, []) => k (.d o.type fr (.n [y])) [] []
          | _, _ => none
        | _ => match (match o.dst with | some s => T.frz s | none => false) with
          | true => k (.bx t true a) [] []
          | false => k (.ptr t nid []) [(nid, some (.box t a))] []
      | false => none
    | none => none
  | .build t parts => match T.kd t with
    | some ks => match zeroK t ks with
      | some (.agg _ fs) => match putParts T lks ks parts.toList fs with
        | some fs' => k (.agg t fs') [] []
        | none => none
      | _ => none
    | none => none
  | .buildSlice t n parts => match T.kd t with
    | some (.slice e ke) => match elems T lks hp e 0 parts.toList with
      | some (fr, xs, l) => match Nat.beq xs.length n && Nat.blt 0 ke.size && Nat.ble (n * ke.size) 16777216 with
        | true => k (.own t nid) ((nid, some (.row e fr xs)) :: drops l) l
        | false => none
      | none => none
    | _ => none
  | .load t x => match opd T lks t x with
    | some a => evLoad T t hp a k
    | none => none
  | .store t x y => match opd T lks t x, opd T lks t y with
    | some a, some v => evStore T t hp a v k
    | _, _ => none
  | .nilCheck x => match opd T lks o.type x with
    | some (.ptr t i p) => k (.ptr t i p) [] []
    | some (.optr t i j p) => k (.optr t i j p) [] []
    | some (.cptr t fr a) => k (.cptr t fr a) [] []
    | some (.bx t fr a) => k (.bx t fr a) [] []
    | some (.d t fr a) => match T.kd t with
      | some (.pd e _) => chk g (!a.list.isEmpty) (k (.cptr e fr (D.nth a.list 0)) [] [])
      | _ => none
    | _ => none
  | .binOp op xT x y yT => match opd T lks xT x, opd T lks yT y with
    | some a, some b => evBin T g op xT (eqArg T a) (eqArg T b) k
    | _, _ => none
  | .unOp op xT x => match opd T lks xT x with
    | some a => evUn T op a k
    | none => none
  | .convert src dst x => match opd T lks src x with
    | some a => evConvert T src dst hp (retag T src a) k
    | none => none
  | .makeFunc (.func g) first captured => match first.isEmpty with
    | true => match opds T lks (captured.toList.map fun _ => T.intT) captured.toList with
      | some cs => match cs.all (capOK T) with
        | true => k (.fn g cs) [] []
        | false => none
      | none => none
    | false => none
  | .makeSlice t l c => match opEq l c with
    | true => match opd T lks T.intT l with
      | some n => evMake T t nid n k
      | none => none
    | false => none
  | .slice t x lo hi none => match opd T lks t x, optAV T lks T.intT lo, optAV T lks T.intT hi with
    | some a, some l, some h => evSlice T g t hp nid a l h k
    | _, _, _ => none
  | .fieldAddr s x j => match opd T lks s x with
    | some a => match T.arr s with | false => evFieldAddr T s a j k | true => none
    | none => none
  | .field s x j => match opd T lks s x with
    | some a => match T.arr s with | false => evField T s a j k | true => none
    | none => none
  | .indexAddr t x ix => match opd T lks t x, opd T lks T.intT ix with
    | some a, some i => evIndexAddr T g t hp a i k
    | _, _ => none
  | .index t x ix => match opd T lks t x, opd T lks T.intT ix with
    | some a, some i => evIndex T g t o.type a i k
    | _, _ => none
  | .extract x j => match opd T lks o.type x with
    | some (.tup xs) => match nthA xs j with
      | some a => k a [] []
      | none => none
    | _ => none
  | .makeMap t none => evMakeMap T t nid k
  | .lookup t x ix ok => match T.kd t with
    | some (.map kt vt) => match opd T lks t x, opd T lks kt ix with
      | some a, some b => evLookup T t kt vt hp a b ok k
      | _, _ => none
    | _ => none
  | .mapUpdate t m key v => match T.kd t with
    | some (.map kt vt) => match opd T lks t m, opd T lks kt key, opd T lks vt v with
      | some a, some b, some c => evMapUpdate T t kt vt hp a b c k
      | _, _, _ => none
    | _ => none
  | .call c => match c.callee with
    | .builtin .len => match c.argTypes.toList, c.args.toList with
      | [st], [x] => match opd T lks st x with
        | some (.d t _ a) => match Nat.beq st t with
          | true => match T.kd t with
            | some .str => k (.d T.intT true (.i a.str.length)) [] []
            | some (.slice _ _) => k (.d T.intT true (.i a.list.length)) [] []
            | _ => none
          | false => none
        | some (.nil t) => match Nat.beq st t with
          | true => k (.d T.intT true (.i 0)) [] []
          | false => none
        | some (.own t i) => match Nat.beq st t with
          | true => match hp i with
            | some (.row _ _ xs) => k (.d T.intT true (.i xs.length)) [] [i]
            | _ => none
          | false => none
        | _ => none
      | _, _ => none
    | .builtin .cap => match c.argTypes.toList, c.args.toList with
      | [st], [x] => match opd T lks st x with
        | some (.nil t) => match Nat.beq st t with
          | true => k (.d T.intT true (.i 0)) [] []
          | false => none
        | _ => none
      | _, _ => none
    | .builtin .append => match c.argTypes.toList, c.args.toList with
      | [st, xt], [s, x] => match opd T lks st s, opd T lks xt x with
        | some a, some b => evAppend T nid st xt hp a b k
        | _, _ => none
      | _, _ => none
    | .builtin .min => match opds T lks c.argTypes.toList c.args.toList with
      | some (.d t _ a :: r) => match T.kd t with
        | some (.int _) => match minAll T minI a.int r with
          | some n => k (.d t true (.i n)) [] []
          | none => none
        | _ => none
      | _ => none
    | .builtin .max => match opds T lks c.argTypes.toList c.args.toList with
      | some (.d t _ a :: r) => match T.kd t with
        | some (.int _) => match minAll T maxI a.int r with
          | some n => k (.d t true (.i n)) [] []
          | none => none
        | _ => none
      | _ => none
    | .value f => match opd T lks o.type f with
      | some (.fn h caps) => match opds T lks c.argTypes.toList c.args.toList with
        | some as => evCall T g hp nid (as ++ caps) k (T.ents h)
        | none => none
      | _ => none
    | _ => none
  | _ => none

/-! ### 4. Regions -/
structure Log where
  seen : List Nat
  wrote : List Nat
def mentions (all : List Oper) (o : Oper) : List Nat :=
  (o.op.operands.toList.filterMap fun | .tmp t => some t | _ => none) ++
  (match o.guard with
   | some (g, _) => match all[g]? with | some x => x.dst.toList | none => []
   | none => [])
def meet (a b : List Nat) : Bool := a.any fun x => memN b x
def dstOf (all : List Oper) (j : Nat) : Option Nat := match all[j]? with | some o => o.dst | none => none
structure St where
  sl : Slots
  hp : Heap
  nx : Nat
def eqb (x b : Bool) : Bool := match b with | true => x | false => !x
/-- A slot has been decided: what stands under guards on it. -/
def resolve (s : Nat) (b : Bool) : Slots → Slots
  | [] => []
  | (t, a) :: l => match Nat.beq s t with
    | true => (t, .d T.boolT true (.b b)) :: resolve s b l
    | false => match a with
      | .w s' b' _ v => match Nat.beq s s' with
        | true => match b == b' with
          | true => (t, v) :: resolve s b l
          | false => (t, .undef) :: resolve s b l
        | false => (t, a) :: resolve s b l
      | _ => (t, a) :: resolve s b l
/-- A guard is asked: both ways. -/
def evGuard : Nat → Slots → Nat → Bool → (Slots → Option R) → (Slots → Option R) → Option R
  | n, sl, s, b, yes, no => match lk sl s with
    | some (.d t _ x) => match T.kd t with
      | some .bool => cond (eqb x.bool b) (yes (resolve T s b sl)) (no (resolve T s (!b) sl))
      | _ => none
    | some (.w s' b' _ _) => match n with
      | m + 1 => evGuard m sl s' b' (fun sl1 => evGuard m sl1 s b yes no) no
      | 0 => none
    | some .undef => no sl
    | _ => none
/-- Slots as an operation under guard (s, b) sees them. -/
def seenUnder (s : Nat) (b : Bool) (lks : Nat → Option AV) (t : Nat) : Option AV :=
  match lks t with
  | some (.w s' b' c v) => match Nat.beq s s' && (b == b') with
    | true => some v
    | false => some (.w s' b' c v)
  | a => a
/-- Whether an operation under guard (s, b) is performed, as a Bool; the guard itself may stand under a guard. -/
def pcOf (lks : Nat → Option AV) (s : Nat) (b : Bool) : Option Bool :=
  match lks s with
  | some (.d t _ x) => match T.kd t with | some .bool => some (eqb x.bool b) | _ => none
  | some (.w _ _ c (.d t _ x)) => match T.kd t with | some .bool => some (c && eqb x.bool b) | _ => none
  | _ => none
/-- A slot is written: what stood under guards on it is forgotten. -/
def forget (s : Nat) : Slots → Slots
  | [] => []
  | (t, a) :: l => match Nat.beq s t with
    | true => forget s l
    | false => match a with
      | .w s' _ _ _ => match Nat.beq s s' with
        | true => forget s l
        | false => (t, a) :: forget s l
      | _ => (t, a) :: forget s l
def isW : AV → Bool | .w .. => true | _ => false
def isTup : AV → Bool | .tup _ => true | _ => false
def putS (sl : Slots) (d : Option Nat) (a : AV) : Slots := match d with | some s => (s, a) :: forget s sl | none => sl
def dstOk (nt : Nat) (o : Oper) : Bool := match o.dst with | some s => Nat.blt s nt | none => true
/-- Does an operation look at what was not made (as its guard does not hold)? -/
def undefIn (lks : Nat → Option AV) (o : Oper) : Bool :=
  match o.op with
  | .pick (.tmp t) _ _ => match lks t with | some .undef => true | _ => false
  | .pick .. => false
  | op => op.operands.toList.any fun x => match x with
    | .tmp t => match lks t with | some .undef => true | _ => false
    | _ => false
def evOps (all : List Oper) (nt : Nat) (k : Slots → Heap → List Log → Option R) : List Oper → Nat → Slots → Heap → List Log → Option R
  | [], _, sl, hp, lg => k sl hp lg
  | o :: rest, nid, sl, hp, lg =>
    match dstOk nt o with
    | true =>
      match o.guard with
      | none => evOp T none o (lk sl) (lk hp) nid fun a u s => match isW a with
        | false => evOps all nt k rest (Nat.add nid 16) (putS sl o.dst a) (upds hp u) ({ seen := s, wrote := u.map (·.1) } :: lg)
        | true => none
      | some (j, b) => match dstOf all j with
        | some s => match spec T o with
          | true => match (match o.dst with | some d => (match Nat.beq d s with | true => none | false => pcOf T (lk sl) s b) | none => pcOf T (lk sl) s b) with
            | some c => match undefIn (seenUnder s b (lk sl)) o with
              | true => cond (!c) (evOps all nt k rest (Nat.add nid 16) (putS sl o.dst .undef) hp ({ seen := [], wrote := [] } :: lg)) none
              | false => evOp T (some c) o (seenUnder s b (lk sl)) (lk hp) nid fun a u q => match u, isW a with
                | [], false => evOps all nt k rest (Nat.add nid 16) (putS sl o.dst (.w s b c a)) hp ({ seen := q, wrote := [] } :: lg)
                | _, _ => none
            | none => match lk sl s with
              | some .undef => evOps all nt k rest (Nat.add nid 16) (putS sl o.dst .undef) hp ({ seen := [], wrote := [] } :: lg)
              | _ => none
          | false => evGuard T 4 sl s b
              (fun sl => evOp T none o (lk sl) (lk hp) nid fun a u q => match isW a with
                | false => evOps all nt k rest (Nat.add nid 16) (putS sl o.dst a) (upds hp u) ({ seen := q, wrote := u.map (·.1) } :: lg)
                | true => none)
              (fun sl => evOps all nt k rest (Nat.add nid 16) (putS sl o.dst .undef) hp ({ seen := [], wrote := [] } :: lg))
        | none => none
    | false => none
def bitOf (bs : List Nat) : Nat → Nat := fun j => bs.getD j 0
/-- Two operations (the first ahead of the other in the text) that the edges do not order: do they mind? -/
def apartOf (all : List Oper) (a b : Oper) (x y : Log) : Bool :=
  !meet x.wrote y.seen && !meet x.wrote y.wrote && !meet x.seen y.wrote &&
  !(match a.dst with | some s => memN (mentions all b) s || (match b.dst with | some t => Nat.beq s t | none => false) | none => false) &&
  !(match b.dst with | some s => memN (mentions all a) s | none => false)
def edgesOk : List Oper → Nat → Bool
  | [], _ => true
  | o :: l, i => (o.after.toList.all fun e => !Region.binds .any e || Nat.blt e.on i) && edgesOk l (i + 1)
def freeOf (all : List Oper) (bs : List Nat) (lg : List Log) : Bool :=
  edgesOk all 0 && (List.range all.length).all fun j => (List.range j).all fun i =>
    (bs.getD j 0).testBit i || match all[i]?, all[j]?, lg[i]?, lg[j]? with
      | some a, some b, some x, some y => apartOf all a b x y
      | _, _, _, _ => false
def evRegion (ops : Array Oper) (draw : Bool) (nt : Nat) (st : St) (k : St → Option R) : Option R :=
  evOps T ops.toList nt (fun sl hp lg => match (!draw || freeOf ops.toList (Region.before ops).toList lg.reverse) with
    | true => k { sl, hp, nx := st.nx + 16 * ops.size }
    | false => none) ops.toList st.nx st.sl st.hp []

/-! ### 5. Code -/
inductive H where
  | go | seq (a b : H) | cond (a b : H) | blk (h : H) | cut (j : Nat)
def renSl (r : Nat → Nat) : Slots → Slots
  | [] => []
  | (s, a) :: l => (s, a.ren r) :: renSl r l
/-- The slots that a piece of code may write. -/
def wr : Code → List Nat
  | .region _ ops _ => ops.toList.filterMap (·.dst)
  | .seq a b => wr a ++ wr b
  | .cond _ a b => wr a ++ wr b
  | .block _ b | .loop b | .scope b => wr b
  | _ => []
def freshAll : List (Ex × Shape) → Bool
  | [] => true
  | a :: l => a.2.fresh && freshAll l
/-- Which exit of a cut a number names; the last is it in any case. -/
def outSel (o : Nat) : List (Ex × Shape) → Nat → Option (Ex × Shape)
  | [], _ => none
  | [p], _ => some p
  | p :: r, j => cond (Nat.beq o j) (some p) (outSel o r (j + 1))
def evOuts (out : Nat × List D) (use : Ex → Slots → Heap → Option R) : List (Ex × Shape) → Nat → Option R
  | [], _ => none
  | [(ex, rs)], _ => match fill rs out.2 with | (sl, hp) => use ex sl hp
  | (ex, rs) :: r, j => cond (Nat.beq out.1 j) (match fill rs out.2 with | (sl, hp) => use ex sl hp) (evOuts out use r (j + 1))
def evCut (c : Code) (st : St) (k : Ex → St → Option R) (u : Cut) : Option R :=
  match fit T.kd (lk st.hp) (lk st.sl) [] u.sh with
  | some f => match f.lent.isEmpty || (freshAll u.outs && u.sh.loose) with
    | true => (u.f f.ds).bind fun out => evOuts out (fun ex rsl rob => k ex { sl := renSl (outer u.kept f.mp st.nx) rsl ++ st.sl.filter (fun p => !memN (wr c) p.1 && (!isW p.2 && !memN (rsl.map (·.1)) p.1)), hp := upds st.hp (given f.mp ++ back (outer u.kept f.mp st.nx) rob), nx := st.nx + 16 }) u.outs 0
    | false => none
  | none => none
def ev (nt : Nat) : Code → H → St → (Ex → St → Option R) → Option R
  | c, .cut j, st, k => match T.cuts j with
    | some u => evCut T c st k u
    | none => none
  | .skip, _, st, k => k .normal st
  | .region _ ops draw, _, st, k => evRegion T ops draw nt st (k .normal)
  | .seq a b, .seq x y, st, k => ev nt a x st fun ex st' => match ex with
    | .normal => ev nt b y st' k
    | e => k e st'
  | .seq a b, .go, st, k => ev nt a .go st fun ex st' => match ex with
    | .normal => ev nt b .go st' k
    | e => k e st'
  | .cond c a b, .cond x y, st, k => match opd T (lk st.sl) T.boolT c with
    | some (.d t _ v) => match T.kd t with
      | some .bool => cond v.bool (ev nt a x st k) (ev nt b y st k)
      | _ => none
    | _ => none
  | .cond c a b, .go, st, k => match opd T (lk st.sl) T.boolT c with
    | some (.d t _ v) => match T.kd t with
      | some .bool => cond v.bool (ev nt a .go st k) (ev nt b .go st k)
      | _ => none
    | _ => none
  | .block id b, .blk x, st, k => ev nt b x st fun ex st' => match ex with
    | .exit i => match Nat.beq i id with | true => k .normal st' | false => k (.exit i) st'
    | e => k e st'
  | .block id b, .go, st, k => ev nt b .go st fun ex st' => match ex with
    | .exit i => match Nat.beq i id with | true => k .normal st' | false => k (.exit i) st'
    | e => k e st'
  | .exit id, _, st, k => k (.exit id) st
  | .ret, _, st, k => k .ret st
  | _, _, _, _ => none

/-- Every loop is cut out: they are numbered as they stand in the text, those within a loop behind it. -/
def nLoops : Code → Nat
  | .loop b => nLoops b + 1
  | .seq a b => nLoops a + nLoops b
  | .cond _ a b => nLoops a + nLoops b
  | .block _ b | .scope b => nLoops b
  | _ => 0
def autoH : Code → Nat → H
  | .loop _, n => .cut n
  | .seq a b, n => .seq (autoH a n) (autoH b (n + nLoops a))
  | .cond _ a b, n => .cond (autoH a n) (autoH b (n + nLoops a))
  | .block _ b, n => .blk (autoH b n)
  | _, _ => .go
/-- The body of loop n. -/
def loopAt : Code → Nat → Code
  | .loop b, n => match n with | 0 => b | m + 1 => loopAt b m
  | .seq a b, n => match Nat.blt n (nLoops a) with | true => loopAt a n | false => loopAt b (n - nLoops a)
  | .cond _ a b, n => match Nat.blt n (nLoops a) with | true => loopAt a n | false => loopAt b (n - nLoops a)
  | .block _ b, n => loopAt b n
  | c, _ => c
def codeOf (f : Func) : Code := match f.body with | some c => c | none => .skip

/-! ### 6. Functions and loops -/
def resAV (st : St) : List ResultVar → Option (List AV)
  | [] => some []
  | .tmp t :: r => match lk st.sl t with
    | some a => match isW a || isTup a with
      | false => match resAV st r with
        | some l => some (a :: l)
        | none => none
      | true => none
    | none => none
  | .cell s t :: r => match lk st.sl s with
    | some (.ptr u i p) => match Nat.beq t u with
      | true => match lk st.hp i with
        | some (.box _ v) => match getP T v p with
          | some a => match isW a || isTup a with
            | false => match resAV st r with
              | some l => some (a :: l)
              | none => none
            | true => none
          | none => none
        | _ => none
      | false => none
    | _ => none
def retAV : List AV → AV
  | [a] => a
  | l => .tup l
/-- A function's end: its results, in the first shape that they fit into. -/
def finR (kept : List Nat) (a : AV) (st : St) : List Shape → Nat → Option (Nat × List D)
  | [], _ => none
  | rs :: r, j => match fit T.kd (lk st.hp) (lk [(0, a)]) (idMap kept) rs with
    | some f => some (j, f.ds)
    | none => finR kept a st r (j + 1)
def fin (res : List ResultVar) (kept : List Nat) (rs : List Shape) (st : St) : Option (List D) :=
  match resAV T st res with
  | some l => match finR T kept (retAV l) st rs 0 with
    | some (j, ds) => some (tagS rs j ds)
    | none => none
  | none => none
def evFn (fn : Func) (h : H) (e : Entry) (ds : List D) : Option (List D) :=
  match fn.body with
  | some c => match fill e.sh ds with
    | (sl, hp) => ev T fn.ntmps c h { sl, hp, nx := 16 } fun ex st => match ex with
      | .normal | .ret => fin T fn.results.toList e.kept e.rs st
      | _ => none
  | none => none
/-- An exit of a cut: which of its exits it is, and the data there. -/
def outOf (kept : List Nat) : List (Ex × Shape) → Nat → Ex → St → Option (Nat × List D)
  | [], _, _, _ => none
  | (e, rs) :: r, j, ex, st =>
    match (match e, ex with | .normal, .normal => true | .ret, .ret => true | .exit a, .exit b => Nat.beq a b | _, _ => false) with
    | true => match fit T.kd (lk st.hp) (lk st.sl) (idMap kept) rs with
      | some f => some (j, f.ds)
      | none => outOf kept r (j + 1) ex st
    | false => outOf kept r (j + 1) ex st
/-- A loop's body, once: 'rec' is what follows at the loop's head. -/
def evLoop (nt : Nat) (body : Code) (h : H) (u : Cut) (rec : List D → Option (Nat × List D)) (ds : List D) : Option (Nat × List D) :=
  match fill u.sh ds with
  | (sl, hp) => ev T nt body h { sl, hp, nx := 16 } fun ex st => match ex with
    | .normal => match fit T.kd (lk st.hp) (lk st.sl) (idMap u.kept) u.sh with
      | some f => rec f.ds
      | none => none
    | e => outOf T u.kept u.outs 0 e st
/-- A piece that is cut out, and is no loop. -/
def evPiece (nt : Nat) (c : Code) (h : H) (u : Cut) (ds : List D) : Option (Nat × List D) :=
  match fill u.sh ds with
  | (sl, hp) => ev T nt c h { sl, hp, nx := 16 } fun ex st => outOf T u.kept u.outs 0 ex st
end
end Go.Ev
