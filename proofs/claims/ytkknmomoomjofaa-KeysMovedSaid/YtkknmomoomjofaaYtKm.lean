/- Printed by gen.py. -/
import Derived.Test.YtkknmomoomjofaaProg
import Derived.Test.YtkknmomoomjofaaEvKit
import Derived.Test.YtkknmomoomjofaaEvClear
import Derived.Test.YtkknmomoomjofaaEvFlat
import Derived.Test.YtkknmomoomjofaaEvClone
import Derived.Test.YtkknmomoomjofaaEvJoin
namespace Go.Proofs.YtkknmomoomjofaaP
open Go Go.Ev Go.RowKit Go.Shelf
set_option linter.unusedVariables false
def tys : List (Nat × K) := [(3, .int .i64), (4, .bool), (5, .int .u8), (9, .str), (22, .slice 3 (.int .i64)), (23, .ptr), (25, .pair 22 (.slice 3 (.int .i64)) (.pair 3 (.int .i64) .unit)), (34, .int .i64), (52, .slice 79 (.pair 9 .str (.pair 3 (.int .i64) .unit))), (54, .slice 9 .str), (72, .slice 34 (.int .i64)), (79, .pair 9 .str (.pair 3 (.int .i64) .unit)), (80, .pair 52 (.slice 79 (.pair 9 .str (.pair 3 (.int .i64) .unit))) (.pair 52 (.slice 79 (.pair 9 .str (.pair 3 (.int .i64) .unit))) .unit)), (87, .int .u64), (93, .map 9 3), (94, .int .u64)]
def T0 : Tbl := { kd := lk tys, boolT := 4, intT := 3, byteT := 5, frz := fun _ => false, ents := fun _ => [], cuts := fun _ => none, arr := memN [80] }
theorem ty3 : TyOK Try.prog (lk tys) 3 (.int .i64) :=
  tyOK (z := .int .i64 0) (n := 1) (by kernel_rfl) rfl rfl rfl Try.underlying3 rfl (fun _ h => by cases h)
theorem ty4 : TyOK Try.prog (lk tys) 4 .bool :=
  tyOK (z := .bool false) (n := 1) (by kernel_rfl) rfl rfl rfl Try.underlying4 rfl (fun _ h => by cases h)
theorem ty5 : TyOK Try.prog (lk tys) 5 (.int .u8) :=
  tyOK (z := .int .u8 0) (n := 1) (by kernel_rfl) rfl rfl rfl Try.underlying5 rfl (fun _ h => by cases h)
theorem ty9 : TyOK Try.prog (lk tys) 9 .str :=
  tyOK (z := .string ⟨#[]⟩) (n := 1) (by kernel_rfl) rfl rfl rfl Try.underlying9 rfl (fun _ h => by cases h)
theorem ty22 : TyOK Try.prog (lk tys) 22 (.slice 3 (.int .i64)) :=
  tyOK (z := .slice none 0 0) (n := 1) (by kernel_rfl) rfl rfl rfl Try.underlying22 ⟨_, rfl, rfl⟩ (fun _ h => by cases h)
theorem ty23 : TyOK Try.prog (lk tys) 23 .ptr :=
  tyOK (z := .pointer none) (n := 1) (by kernel_rfl) rfl rfl rfl Try.underlying23 (.inl rfl) (fun _ h => by cases h)
theorem ty25 : TyOK Try.prog (lk tys) 25 (.pair 22 (.slice 3 (.int .i64)) (.pair 3 (.int .i64) .unit)) :=
  tyOK (z := .agg #[.slice none 0 0, .int .i64 0]) (n := 2) (by kernel_rfl) rfl ⟨[.slice none 0 0], [.int .i64 0], rfl, rfl, ⟨[.int .i64 0], [], rfl, rfl, rfl⟩⟩ rfl Try.underlying25 ⟨⟨rfl, rfl, rfl, by decide, ⟨rfl, rfl, rfl, by decide, rfl⟩⟩, rfl⟩ (fun h => by cases h)
theorem ty34 : TyOK Try.prog (lk tys) 34 (.int .i64) :=
  tyOK (z := .int .i64 0) (n := 1) (by kernel_rfl) rfl rfl rfl Try.underlying34 rfl (fun _ h => by cases h)
theorem ty52 : TyOK Try.prog (lk tys) 52 (.slice 79 (.pair 9 .str (.pair 3 (.int .i64) .unit))) :=
  tyOK (z := .slice none 0 0) (n := 1) (by kernel_rfl) rfl rfl rfl Try.underlying52 ⟨_, rfl, rfl⟩ (fun _ h => by cases h)
theorem ty54 : TyOK Try.prog (lk tys) 54 (.slice 9 .str) :=
  tyOK (z := .slice none 0 0) (n := 1) (by kernel_rfl) rfl rfl rfl Try.underlying54 ⟨_, rfl, rfl⟩ (fun _ h => by cases h)
theorem ty72 : TyOK Try.prog (lk tys) 72 (.slice 34 (.int .i64)) :=
  tyOK (z := .slice none 0 0) (n := 1) (by kernel_rfl) rfl rfl rfl Try.underlying72 ⟨_, rfl, rfl⟩ (fun _ h => by cases h)
theorem ty79 : TyOK Try.prog (lk tys) 79 (.pair 9 .str (.pair 3 (.int .i64) .unit)) :=
  tyOK (z := .agg #[.string ⟨#[]⟩, .int .i64 0]) (n := 2) (by kernel_rfl) rfl ⟨[.string ⟨#[]⟩], [.int .i64 0], rfl, rfl, ⟨[.int .i64 0], [], rfl, rfl, rfl⟩⟩ rfl Try.underlying79 ⟨⟨rfl, rfl, rfl, by decide, ⟨rfl, rfl, rfl, by decide, rfl⟩⟩, rfl⟩ (fun _ _ => ⟨by kernel_rfl, by kernel_rfl⟩)
theorem ty80 : TyOK Try.prog (lk tys) 80 (.pair 52 (.slice 79 (.pair 9 .str (.pair 3 (.int .i64) .unit))) (.pair 52 (.slice 79 (.pair 9 .str (.pair 3 (.int .i64) .unit))) .unit)) :=
  tyOK (z := .agg #[.slice none 0 0, .slice none 0 0]) (n := 2) (by kernel_rfl) rfl ⟨[.slice none 0 0], [.slice none 0 0], rfl, rfl, ⟨[.slice none 0 0], [], rfl, rfl, rfl⟩⟩ rfl Try.underlying80 ⟨_, rfl, rfl, rfl⟩ (fun h => by cases h)
theorem ty87 : TyOK Try.prog (lk tys) 87 (.int .u64) :=
  tyOK (z := .int .u64 0) (n := 1) (by kernel_rfl) rfl rfl rfl Try.underlying87 rfl (fun _ h => by cases h)
theorem ty93 : TyOK Try.prog (lk tys) 93 (.map 9 3) :=
  tyOK (z := .map none) (n := 1) (by kernel_rfl) rfl rfl rfl Try.underlying93 rfl (fun _ h => by cases h)
theorem ty94 : TyOK Try.prog (lk tys) 94 (.int .u64) :=
  tyOK (z := .int .u64 0) (n := 1) (by kernel_rfl) rfl rfl rfl Try.underlying94 rfl (fun _ h => by cases h)
theorem hT0 : TblOK Try.prog T0 :=
  ⟨AllTy.get (l := tys) ⟨ty3, ty4, ty5, ty9, ty22, ty23, ty25, ty34, ty52, ty54, ty72, ty79, ty80, ty87, ty93, ty94, trivial⟩, rfl, rfl, by kernel_rfl, arrs_ok (by kernel_rfl)⟩
/-! ### 53 gatewarden/gatemake.Below -/
def f_gatemake_Below (K : Nat) (x n : D) : Option (List D) :=
  bif (ltI n.int 1) then
    some [D.i 0]
  else
    bif (!(eqI n.int 0)) then
      bif (ltI (Int.tmod x.int n.int) 0) then
        some [D.i (IntKind.i64.wrap ((Int.tmod x.int n.int) + n.int))]
      else
        some [D.i (Int.tmod x.int n.int)]
    else
      none
def e_gatemake_Below (K : Nat) : Entry := { n := 2, sh := { sl := [(0, .d 3 false), (1, .d 3 false)], ob := [] }, kept := [], rs := [{ sl := [(0, .d 3 true)], ob := [] }], f := fun ds => f_gatemake_Below K (D.nth ds 0) (D.nth ds 1), tot := none }
def T_gatemake_Below (K : Nat) : Tbl := { T0 with ents := entsOf [], cuts := lk [] }
theorem q_gatemake_Below (K : Nat) (ds : List D) : evFn (T_gatemake_Below K) Try.f53 .go (e_gatemake_Below K) ds = (e_gatemake_Below K).f ds := by kernel_rfl
theorem ok_gatemake_Below (K : Nat) : FnOK Try.prog T0 53 (e_gatemake_Below K) :=
  fn_thm (T0 := T0) (T := T_gatemake_Below K) rfl (hT_of hT0 rfl rfl rfl) (hes_ok (T0 := T0) (T := T_gatemake_Below K) rfl rfl (trivial : FAll Try.prog T0 [])) Try.func53 (by decide) rfl (Nat.le_of_ble_eq_true rfl) rfl rfl rfl (tot_none rfl) (cutsOK_none (by rfl)) (q_gatemake_Below K)
/-! ### 31 (*gatewarden/gatemake.Stream).Next -/
def f_gatemake_Stream_Next (K : Nat) (n o0 : D) : Option (List D) :=
  bif ((((o0.at' 0).list).length : Int) == (0 : Int)) then
    (f_gatemake_Below K (D.i (IntKind.i64.wrap ((IntKind.i64.wrap (((o0.at' 1).int) + (1 : Int))) * (7919 : Int)))) n).bind fun t1 =>
    some [D.nth t1 0, D.n [o0.at' 0, D.i (IntKind.i64.wrap (((o0.at' 1).int) + (1 : Int)))]]
  else
    bif (!(eqI (((o0.at' 0).list).length : Int) 0)) then
      bif (!(eqI (((o0.at' 0).list).length : Int) 0)) then
        bif (inB (Int.tmod (IntKind.i64.wrap ((IntKind.i64.wrap (((o0.at' 1).int) + (1 : Int))) - (1 : Int))) (((o0.at' 0).list).length : Int)) (((o0.at' 0).list).length)) then
          (f_gatemake_Below K (D.nth ((o0.at' 0).list) ((Int.tmod (IntKind.i64.wrap ((IntKind.i64.wrap (((o0.at' 1).int) + (1 : Int))) - (1 : Int))) (((o0.at' 0).list).length : Int)).toNat)) (D.i 1073741824)).bind fun t2 =>
          (f_gatemake_Below K (D.i (IntKind.i64.wrap (((D.nth t2 0).int) + (IntKind.i64.wrap ((IntKind.i64.wrap (Int.tdiv (IntKind.i64.wrap ((IntKind.i64.wrap (((o0.at' 1).int) + (1 : Int))) - (1 : Int))) (((o0.at' 0).list).length : Int))) * (IntKind.i64.wrap ((7919 : Int) + (Int.tmod (IntKind.i64.wrap ((IntKind.i64.wrap (((o0.at' 1).int) + (1 : Int))) - (1 : Int))) (((o0.at' 0).list).length : Int))))))))) n).bind fun t3 =>
          some [D.nth t3 0, D.n [o0.at' 0, D.i (IntKind.i64.wrap (((o0.at' 1).int) + (1 : Int)))]]
        else
          none
      else
        none
    else
      none
def e_gatemake_Stream_Next (K : Nat) : Entry := { n := 2, sh := { sl := [(0, .ptr 25 0 []), (1, .d 3 false)], ob := [(0, .box 25 (.d 25 false))] }, kept := [0], rs := [{ sl := [(0, .d 3 true)], ob := [(0, .box 25 (.d 25 false))] }], f := fun ds => f_gatemake_Stream_Next K (D.nth ds 0) (D.nth ds 1), tot := none }
def T_gatemake_Stream_Next (K : Nat) : Tbl := { T0 with ents := entsOf [(53, e_gatemake_Below K)], cuts := lk [] }
theorem q_gatemake_Stream_Next (K : Nat) (ds : List D) : evFn (T_gatemake_Stream_Next K) Try.f31 .go (e_gatemake_Stream_Next K) ds = (e_gatemake_Stream_Next K).f ds := by kernel_rfl
theorem ok_gatemake_Stream_Next (K : Nat) : FnOK Try.prog T0 31 (e_gatemake_Stream_Next K) :=
  fn_thm (T0 := T0) (T := T_gatemake_Stream_Next K) rfl (hT_of hT0 rfl rfl rfl) (hes_ok (T0 := T0) (T := T_gatemake_Stream_Next K) rfl rfl (⟨ok_gatemake_Below K, trivial⟩ : FAll Try.prog T0 [(53, e_gatemake_Below K)])) Try.func31 (by decide) rfl (Nat.le_of_ble_eq_true rfl) rfl rfl rfl (tot_none rfl) (cutsOK_none (by rfl)) (q_gatemake_Stream_Next K)
/-! ### 8 (*gatewarden/gatemake.Stream).Flip -/
def f_gatemake_Stream_Flip (K : Nat) (n o0 : D) : Option (List D) :=
  (f_gatemake_Stream_Next K n o0).bind fun t1 =>
  some [D.b (((D.nth t1 0).int) == (0 : Int)), D.nth t1 1]
def e_gatemake_Stream_Flip (K : Nat) : Entry := { n := 2, sh := { sl := [(0, .ptr 25 0 []), (1, .d 3 false)], ob := [(0, .box 25 (.d 25 false))] }, kept := [0], rs := [{ sl := [(0, .d 4 true)], ob := [(0, .box 25 (.d 25 false))] }], f := fun ds => f_gatemake_Stream_Flip K (D.nth ds 0) (D.nth ds 1), tot := none }
def T_gatemake_Stream_Flip (K : Nat) : Tbl := { T0 with ents := entsOf [(31, e_gatemake_Stream_Next K)], cuts := lk [] }
theorem q_gatemake_Stream_Flip (K : Nat) (ds : List D) : evFn (T_gatemake_Stream_Flip K) Try.f8 .go (e_gatemake_Stream_Flip K) ds = (e_gatemake_Stream_Flip K).f ds := by kernel_rfl
theorem ok_gatemake_Stream_Flip (K : Nat) : FnOK Try.prog T0 8 (e_gatemake_Stream_Flip K) :=
  fn_thm (T0 := T0) (T := T_gatemake_Stream_Flip K) rfl (hT_of hT0 rfl rfl rfl) (hes_ok (T0 := T0) (T := T_gatemake_Stream_Flip K) rfl rfl (⟨ok_gatemake_Stream_Next K, trivial⟩ : FAll Try.prog T0 [(31, e_gatemake_Stream_Next K)])) Try.func8 (by decide) rfl (Nat.le_of_ble_eq_true rfl) rfl rfl rfl (tot_none rfl) (cutsOK_none (by rfl)) (q_gatemake_Stream_Flip K)
/-! ### 7 (*gatewarden/gatemake.Stream).Pick -/
def f_gatemake_Stream_Pick (K : Nat) (o0 r1 : D) : Option (List D) :=
  (f_gatemake_Stream_Next K (D.i (r1.list.length : Int)) o0).bind fun t1 =>
  bif (inB ((D.nth t1 0).int) r1.list.length) then
    some [D.nth r1.list (((D.nth t1 0).int).toNat), D.nth t1 1, D.n r1.list]
  else
    none
def e_gatemake_Stream_Pick (K : Nat) : Entry := { n := 2, sh := { sl := [(0, .ptr 25 0 []), (1, .own 22 1)], ob := [(0, .box 25 (.d 25 false)), (1, .row 3 true)] }, kept := [0, 1], rs := [{ sl := [(0, .d 3 true)], ob := [(0, .box 25 (.d 25 false)), (1, .row 3 true)] }], f := fun ds => f_gatemake_Stream_Pick K (D.nth ds 0) (D.nth ds 1), tot := none }
def T_gatemake_Stream_Pick (K : Nat) : Tbl := { T0 with ents := entsOf [(31, e_gatemake_Stream_Next K)], cuts := lk [] }
theorem q_gatemake_Stream_Pick (K : Nat) (ds : List D) : evFn (T_gatemake_Stream_Pick K) Try.f7 .go (e_gatemake_Stream_Pick K) ds = (e_gatemake_Stream_Pick K).f ds := by kernel_rfl
theorem ok_gatemake_Stream_Pick (K : Nat) : FnOK Try.prog T0 7 (e_gatemake_Stream_Pick K) :=
  fn_thm (T0 := T0) (T := T_gatemake_Stream_Pick K) rfl (hT_of hT0 rfl rfl rfl) (hes_ok (T0 := T0) (T := T_gatemake_Stream_Pick K) rfl rfl (⟨ok_gatemake_Stream_Next K, trivial⟩ : FAll Try.prog T0 [(31, e_gatemake_Stream_Next K)])) Try.func7 (by decide) rfl (Nat.le_of_ble_eq_true rfl) rfl rfl rfl (tot_none rfl) (cutsOK_none (by rfl)) (q_gatemake_Stream_Pick K)
/-! ### 47 (*gatewarden/gatemake.Stream).RightInstances -/
def b_gatemake_Stream_RightInstances_1 (K : Nat) (ds : List D) : Option (Nat × List D) :=
  let key := D.nth ds 0
  let o0 := D.nth ds 1
  let r1 := D.nth ds 2
  bif (!(bif ((r1.list.length : Int) == (0 : Int)) then (key.str == ([105, 100] : List UInt8)) else false)) then
    (f_gatemake_Stream_Flip K (D.i 4) o0).bind fun t1 =>
    some (0, [D.b (!((D.nth t1 0).bool)), D.nth t1 1, D.n r1.list])
  else
    some (0, [D.b true, o0, D.n r1.list])
def c_gatemake_Stream_RightInstances_1 (K : Nat) : Cut := { sh := { sl := [(0, .ptr 25 0 []), (3, .own 52 1), (5, .d 9 true)], ob := [(0, .box 25 (.d 25 false)), (1, .row 79 true)] }, kept := [0, 1], outs := [(.normal, { sl := [(23, .d 4 true)], ob := [(0, .box 25 (.d 25 false)), (1, .row 79 true)] })], f := b_gatemake_Stream_RightInstances_1 K }
def b_gatemake_Stream_RightInstances_0 (K : Nat) (rec : List D → Option (Nat × List D)) (ds : List D) : Option (Nat × List D) :=
  let s7 := D.nth ds 0
  let s8 := D.nth ds 1
  let o0 := D.nth ds 2
  let r1 := D.nth ds 3
  let r2 := D.nth ds 4
  bif (ltI s8.int s7.int) then
    bif (inB s8.int r1.list.length) then
      (b_gatemake_Stream_RightInstances_1 K [D.nth r1.list s8.int.toNat, o0, D.n r2.list]).bind fun t1 =>
      bif (D.nth t1.2 0).bool then
        (f_gatemake_Stream_Pick K (D.nth t1.2 1) (D.n [D.i 1, D.i 1, D.i 2, D.i 3, D.i 5])).bind fun t2 =>
        bif (lim (((D.nth t1.2 2).list).length + 1)) then
          rec [s7, D.i (IntKind.i64.wrap (s8.int + (1 : Int))), D.nth t2 1, D.n r1.list, D.n (((D.nth t1.2 2).list) ++ [D.n [D.nth r1.list s8.int.toNat, D.nth t2 0]])]
        else
          none
      else
        rec [s7, D.i (IntKind.i64.wrap (s8.int + (1 : Int))), D.nth t1.2 1, D.n r1.list, D.n ((D.nth t1.2 2).list)]
    else
      none
  else
    some (0, [o0, D.n r1.list, D.n r2.list])
def c_gatemake_Stream_RightInstances_0 (K : Nat) : Cut := { sh := { sl := [(0, .ptr 25 0 []), (3, .own 52 2), (6, .own 54 1), (7, .d 3 true), (8, .d 3 true)], ob := [(0, .box 25 (.d 25 false)), (1, .row 9 true), (2, .row 79 true)] }, kept := [0, 1], outs := [(.exit 0, { sl := [(3, .own 52 2)], ob := [(0, .box 25 (.d 25 false)), (1, .row 9 true), (2, .row 79 true)] })], f := fun ds => fixN (b_gatemake_Stream_RightInstances_0 K) K ds }
def f_gatemake_Stream_RightInstances (K : Nat) (o0 : D) : Option (List D) :=
  (fixN (b_gatemake_Stream_RightInstances_0 K) K [D.i 4, D.i 0, o0, D.n [D.s [105, 97], D.s [105, 98], D.s [105, 99], D.s [105, 100]], D.n []]).bind fun t1 =>
  some [D.nth t1.2 0, D.n ((D.nth t1.2 2).list)]
def e_gatemake_Stream_RightInstances (K : Nat) : Entry := { n := 1, sh := { sl := [(0, .ptr 25 0 [])], ob := [(0, .box 25 (.d 25 false))] }, kept := [0], rs := [{ sl := [(0, .own 52 1)], ob := [(0, .box 25 (.d 25 false)), (1, .row 79 true)] }], f := fun ds => f_gatemake_Stream_RightInstances K (D.nth ds 0), tot := none }
def T_gatemake_Stream_RightInstances (K : Nat) : Tbl := { T0 with ents := entsOf [(8, e_gatemake_Stream_Flip K), (7, e_gatemake_Stream_Pick K)], cuts := lk [(0, c_gatemake_Stream_RightInstances_0 K), (1, c_gatemake_Stream_RightInstances_1 K)] }
theorem q_gatemake_Stream_RightInstances_1 (K : Nat) (ds : List D) : evPiece (T_gatemake_Stream_RightInstances K) 34 (sub (codeOf Try.f47) [1, 1, 0, 1, 0, 0, 1, 1, 0, 0, 1, 0]) .go (c_gatemake_Stream_RightInstances_1 K) ds = b_gatemake_Stream_RightInstances_1 K ds := by kernel_rfl
theorem k_gatemake_Stream_RightInstances_1 (K : Nat) : CutOK Try.prog (T_gatemake_Stream_RightInstances K) 34 (sub (codeOf Try.f47) [1, 1, 0, 1, 0, 0, 1, 1, 0, 0, 1, 0]) (c_gatemake_Stream_RightInstances_1 K) :=
  piece_thm (T := T_gatemake_Stream_RightInstances K) (hT_of hT0 rfl rfl rfl) (hes_ok (T0 := T0) (T := T_gatemake_Stream_RightInstances K) rfl rfl (⟨ok_gatemake_Stream_Flip K, ok_gatemake_Stream_Pick K, trivial⟩ : FAll Try.prog T0 [(8, e_gatemake_Stream_Flip K), (7, e_gatemake_Stream_Pick K)])) rfl rfl rfl (cutsOK_none (by rfl)) (q_gatemake_Stream_RightInstances_1 K)
theorem q_gatemake_Stream_RightInstances_0 (K : Nat) (rec : List D → Option (Nat × List D)) (ds : List D) : evLoop (T_gatemake_Stream_RightInstances K) 34 (sub (codeOf Try.f47) [1, 1, 0, 1, 0, 0]) (.seq .go (.seq .go (.seq (.blk (.seq .go (.seq (.cut 1) .go))) .go))) (c_gatemake_Stream_RightInstances_0 K) rec ds = b_gatemake_Stream_RightInstances_0 K rec ds := by kernel_rfl
theorem k_gatemake_Stream_RightInstances_0 (K : Nat) : CutOK Try.prog (T_gatemake_Stream_RightInstances K) 34 (sub (codeOf Try.f47) [1, 1, 0, 1, 0]) (c_gatemake_Stream_RightInstances_0 K) :=
  loop_thm (T := T_gatemake_Stream_RightInstances K) (hT_of hT0 rfl rfl rfl) (hes_ok (T0 := T0) (T := T_gatemake_Stream_RightInstances K) rfl rfl (⟨ok_gatemake_Stream_Flip K, ok_gatemake_Stream_Pick K, trivial⟩ : FAll Try.prog T0 [(8, e_gatemake_Stream_Flip K), (7, e_gatemake_Stream_Pick K)])) (by kernel_rfl) rfl rfl rfl (cutsOK_list (l := [(1, sub (codeOf Try.f47) [1, 1, 0, 1, 0, 0, 1, 1, 0, 0, 1, 0])]) (by kernel_rfl) ⟨cut_one (u := c_gatemake_Stream_RightInstances_1 K) rfl (k_gatemake_Stream_RightInstances_1 K), trivial⟩) rfl (q_gatemake_Stream_RightInstances_0 K)
theorem q_gatemake_Stream_RightInstances (K : Nat) (ds : List D) : evFn (T_gatemake_Stream_RightInstances K) Try.f47 (.seq .go (.seq .go (.seq (.seq .go (.blk (.cut 0))) .go))) (e_gatemake_Stream_RightInstances K) ds = (e_gatemake_Stream_RightInstances K).f ds := by kernel_rfl
theorem ok_gatemake_Stream_RightInstances (K : Nat) : FnOK Try.prog T0 47 (e_gatemake_Stream_RightInstances K) :=
  fn_thm (T0 := T0) (T := T_gatemake_Stream_RightInstances K) rfl (hT_of hT0 rfl rfl rfl) (hes_ok (T0 := T0) (T := T_gatemake_Stream_RightInstances K) rfl rfl (⟨ok_gatemake_Stream_Flip K, ok_gatemake_Stream_Pick K, trivial⟩ : FAll Try.prog T0 [(8, e_gatemake_Stream_Flip K), (7, e_gatemake_Stream_Pick K)])) Try.func47 (by decide) rfl (Nat.le_of_ble_eq_true rfl) rfl rfl rfl (tot_none rfl) (cutsOK_list (l := [(0, sub (codeOf Try.f47) [1, 1, 0, 1, 0])]) (by kernel_rfl) ⟨cut_one (u := c_gatemake_Stream_RightInstances_0 K) rfl (k_gatemake_Stream_RightInstances_0 K), trivial⟩) (q_gatemake_Stream_RightInstances K)
/-! ### 23 (*gatewarden/gatemake.Stream).Some -/
def f_gatemake_Stream_Some (K : Nat) (o0 r1 : D) : Option (List D) :=
  (f_gatemake_Stream_Next K (D.i (r1.list.length : Int)) o0).bind fun t1 =>
  bif (inB ((D.nth t1 0).int) r1.list.length) then
    some [D.nth r1.list (((D.nth t1 0).int).toNat), D.nth t1 1, D.n r1.list]
  else
    none
def e_gatemake_Stream_Some (K : Nat) : Entry := { n := 2, sh := { sl := [(0, .ptr 25 0 []), (1, .own 54 1)], ob := [(0, .box 25 (.d 25 false)), (1, .row 9 true)] }, kept := [0, 1], rs := [{ sl := [(0, .d 9 true)], ob := [(0, .box 25 (.d 25 false)), (1, .row 9 true)] }], f := fun ds => f_gatemake_Stream_Some K (D.nth ds 0) (D.nth ds 1), tot := none }
def T_gatemake_Stream_Some (K : Nat) : Tbl := { T0 with ents := entsOf [(31, e_gatemake_Stream_Next K)], cuts := lk [] }
theorem q_gatemake_Stream_Some (K : Nat) (ds : List D) : evFn (T_gatemake_Stream_Some K) Try.f23 .go (e_gatemake_Stream_Some K) ds = (e_gatemake_Stream_Some K).f ds := by kernel_rfl
theorem ok_gatemake_Stream_Some (K : Nat) : FnOK Try.prog T0 23 (e_gatemake_Stream_Some K) :=
  fn_thm (T0 := T0) (T := T_gatemake_Stream_Some K) rfl (hT_of hT0 rfl rfl rfl) (hes_ok (T0 := T0) (T := T_gatemake_Stream_Some K) rfl rfl (⟨ok_gatemake_Stream_Next K, trivial⟩ : FAll Try.prog T0 [(31, e_gatemake_Stream_Next K)])) Try.func23 (by decide) rfl (Nat.le_of_ble_eq_true rfl) rfl rfl rfl (tot_none rfl) (cutsOK_none (by rfl)) (q_gatemake_Stream_Some K)
/-! ### 22 (*gatewarden/gatemake.Stream).Range -/
def f_gatemake_Stream_Range (K : Nat) (low high o0 : D) : Option (List D) :=
  bif (ltI high.int low.int) then
    some [low, o0]
  else
    (f_gatemake_Stream_Next K (D.i (IntKind.i64.wrap ((IntKind.i64.wrap (high.int - low.int)) + (1 : Int)))) o0).bind fun t1 =>
    some [D.i (IntKind.i64.wrap (low.int + ((D.nth t1 0).int))), D.nth t1 1]
def e_gatemake_Stream_Range (K : Nat) : Entry := { n := 3, sh := { sl := [(0, .ptr 25 0 []), (1, .d 3 false), (2, .d 3 false)], ob := [(0, .box 25 (.d 25 false))] }, kept := [0], rs := [{ sl := [(0, .d 3 true)], ob := [(0, .box 25 (.d 25 false))] }], f := fun ds => f_gatemake_Stream_Range K (D.nth ds 0) (D.nth ds 1) (D.nth ds 2), tot := none }
def T_gatemake_Stream_Range (K : Nat) : Tbl := { T0 with ents := entsOf [(31, e_gatemake_Stream_Next K)], cuts := lk [] }
theorem q_gatemake_Stream_Range (K : Nat) (ds : List D) : evFn (T_gatemake_Stream_Range K) Try.f22 .go (e_gatemake_Stream_Range K) ds = (e_gatemake_Stream_Range K).f ds := by kernel_rfl
theorem ok_gatemake_Stream_Range (K : Nat) : FnOK Try.prog T0 22 (e_gatemake_Stream_Range K) :=
  fn_thm (T0 := T0) (T := T_gatemake_Stream_Range K) rfl (hT_of hT0 rfl rfl rfl) (hes_ok (T0 := T0) (T := T_gatemake_Stream_Range K) rfl rfl (⟨ok_gatemake_Stream_Next K, trivial⟩ : FAll Try.prog T0 [(31, e_gatemake_Stream_Next K)])) Try.func22 (by decide) rfl (Nat.le_of_ble_eq_true rfl) rfl rfl rfl (tot_none rfl) (cutsOK_none (by rfl)) (q_gatemake_Stream_Range K)
/-! ### 9 (*gatewarden/gatemake.Stream).Odd -/
def f_gatemake_Stream_Odd (K : Nat) (low high o0 : D) : Option (List D) :=
  (f_gatemake_Stream_Flip K (D.i 12) o0).bind fun t1 =>
  bif (D.nth t1 0).bool then
    (f_gatemake_Stream_Pick K (D.nth t1 1) (D.n [D.i (IntKind.i64.wrap (low.int - (1 : Int))), D.i (IntKind.i64.wrap (high.int + (1 : Int))), low, high, D.i (-1099511627776), D.i 1099511627776])).bind fun t2 =>
    some [D.nth t2 0, D.nth t2 1]
  else
    (f_gatemake_Stream_Range K low high (D.nth t1 1)).bind fun t3 =>
    some [D.nth t3 0, D.nth t3 1]
def e_gatemake_Stream_Odd (K : Nat) : Entry := { n := 3, sh := { sl := [(0, .ptr 25 0 []), (1, .d 3 false), (2, .d 3 false)], ob := [(0, .box 25 (.d 25 false))] }, kept := [0], rs := [{ sl := [(0, .d 3 true)], ob := [(0, .box 25 (.d 25 false))] }], f := fun ds => f_gatemake_Stream_Odd K (D.nth ds 0) (D.nth ds 1) (D.nth ds 2), tot := none }
def T_gatemake_Stream_Odd (K : Nat) : Tbl := { T0 with ents := entsOf [(8, e_gatemake_Stream_Flip K), (7, e_gatemake_Stream_Pick K), (22, e_gatemake_Stream_Range K)], cuts := lk [] }
theorem q_gatemake_Stream_Odd (K : Nat) (ds : List D) : evFn (T_gatemake_Stream_Odd K) Try.f9 .go (e_gatemake_Stream_Odd K) ds = (e_gatemake_Stream_Odd K).f ds := by kernel_rfl
theorem ok_gatemake_Stream_Odd (K : Nat) : FnOK Try.prog T0 9 (e_gatemake_Stream_Odd K) :=
  fn_thm (T0 := T0) (T := T_gatemake_Stream_Odd K) rfl (hT_of hT0 rfl rfl rfl) (hes_ok (T0 := T0) (T := T_gatemake_Stream_Odd K) rfl rfl (⟨ok_gatemake_Stream_Flip K, ok_gatemake_Stream_Pick K, ok_gatemake_Stream_Range K, trivial⟩ : FAll Try.prog T0 [(8, e_gatemake_Stream_Flip K), (7, e_gatemake_Stream_Pick K), (22, e_gatemake_Stream_Range K)])) Try.func9 (by decide) rfl (Nat.le_of_ble_eq_true rfl) rfl rfl rfl (tot_none rfl) (cutsOK_none (by rfl)) (q_gatemake_Stream_Odd K)
/-! ### 21 (*gatewarden/gatemake.Stream).Instances -/
def f_gatemake_Stream_Instances (K : Nat) (o0 : D) : Option (List D) :=
  (f_gatemake_Stream_RightInstances K o0).bind fun t1 =>
  (f_gatemake_Stream_Flip K (D.i 15) (D.nth t1 0)).bind fun t2 =>
  bif (D.nth t2 0).bool then
    (f_gatemake_Stream_Next K (D.i (((D.nth t1 1).list).length : Int)) (D.nth t2 1)).bind fun t3 =>
    bif (inB ((D.nth t3 0).int) (((D.nth t1 1).list).length)) then
      (f_gatemake_Stream_Some K (D.nth t3 1) (D.n [(D.nth ((D.nth t1 1).list) (((D.nth t3 0).int).toNat)).at' 0, D.s [], D.s [65], D.s [105, 97]])).bind fun t4 =>
      (f_gatemake_Stream_Odd K (D.i 1) (D.i 100) (D.nth t4 1)).bind fun t5 =>
      (f_gatemake_Stream_Flip K (D.i 25) (D.nth t5 1)).bind fun t6 =>
      bif (D.nth t6 0).bool then
        some [D.nth t6 1, D.n []]
      else
        some [D.nth t6 1, D.n (D.setNth (D.setNth ((D.nth t1 1).list) (((D.nth t3 0).int).toNat) (D.n (D.setNth ((D.nth ((D.nth t1 1).list) (((D.nth t3 0).int).toNat)).list) 0 (D.nth t4 0)))) (((D.nth t3 0).int).toNat) (D.n (D.setNth ((D.nth (D.setNth ((D.nth t1 1).list) (((D.nth t3 0).int).toNat) (D.n (D.setNth ((D.nth ((D.nth t1 1).list) (((D.nth t3 0).int).toNat)).list) 0 (D.nth t4 0)))) (((D.nth t3 0).int).toNat)).list) 1 (D.nth t5 0))))]
    else
      none
  else
    (f_gatemake_Stream_Flip K (D.i 25) (D.nth t2 1)).bind fun t7 =>
    bif (D.nth t7 0).bool then
      some [D.nth t7 1, D.n []]
    else
      some [D.nth t7 1, D.n ((D.nth t1 1).list)]
def e_gatemake_Stream_Instances (K : Nat) : Entry := { n := 1, sh := { sl := [(0, .ptr 25 0 [])], ob := [(0, .box 25 (.d 25 false))] }, kept := [0], rs := [{ sl := [(0, .own 52 1)], ob := [(0, .box 25 (.d 25 false)), (1, .row 79 true)] }], f := fun ds => f_gatemake_Stream_Instances K (D.nth ds 0), tot := none }
def T_gatemake_Stream_Instances (K : Nat) : Tbl := { T0 with ents := entsOf [(47, e_gatemake_Stream_RightInstances K), (8, e_gatemake_Stream_Flip K), (31, e_gatemake_Stream_Next K), (23, e_gatemake_Stream_Some K), (9, e_gatemake_Stream_Odd K)], cuts := lk [] }
theorem q_gatemake_Stream_Instances (K : Nat) (ds : List D) : evFn (T_gatemake_Stream_Instances K) Try.f21 .go (e_gatemake_Stream_Instances K) ds = (e_gatemake_Stream_Instances K).f ds := by kernel_rfl
theorem ok_gatemake_Stream_Instances (K : Nat) : FnOK Try.prog T0 21 (e_gatemake_Stream_Instances K) :=
  fn_thm (T0 := T0) (T := T_gatemake_Stream_Instances K) rfl (hT_of hT0 rfl rfl rfl) (hes_ok (T0 := T0) (T := T_gatemake_Stream_Instances K) rfl rfl (⟨ok_gatemake_Stream_RightInstances K, ok_gatemake_Stream_Flip K, ok_gatemake_Stream_Next K, ok_gatemake_Stream_Some K, ok_gatemake_Stream_Odd K, trivial⟩ : FAll Try.prog T0 [(47, e_gatemake_Stream_RightInstances K), (8, e_gatemake_Stream_Flip K), (31, e_gatemake_Stream_Next K), (23, e_gatemake_Stream_Some K), (9, e_gatemake_Stream_Odd K)])) Try.func21 (by decide) rfl (Nat.le_of_ble_eq_true rfl) rfl rfl rfl (tot_none rfl) (cutsOK_none (by rfl)) (q_gatemake_Stream_Instances K)
/-! ### 61 gatewarden/kit.IsKey -/
def b_kit_IsKey_0 (K : Nat) (rec : List D → Option (Nat × List D)) (ds : List D) : Option (Nat × List D) :=
  let s := D.nth ds 0
  let i := D.nth ds 1
  bif (ltI i.int (s.str.length : Int)) then
    bif (inB i.int s.str.length) then
      bif (!(bif (bif (geI (byteAt s.str i.int.toNat) 97) then (leI (byteAt s.str i.int.toNat) 122) else false) then true else (bif (gtI i.int 0) then (bif (bif (bif (geI (byteAt s.str i.int.toNat) 48) then (leI (byteAt s.str i.int.toNat) 57) else false) then true else ((byteAt s.str i.int.toNat) == (45 : Int))) then true else ((byteAt s.str i.int.toNat) == (95 : Int))) else false))) then
        some (0, [D.b false])
      else
        rec [s, D.i (IntKind.i64.wrap (i.int + (1 : Int)))]
    else
      none
  else
    some (1, [])
def c_kit_IsKey_0 (K : Nat) : Cut := { sh := { sl := [(0, .d 9 true), (3, .d 3 true)], ob := [] }, kept := [], outs := [(.ret, { sl := [(2, .d 4 true)], ob := [] }), (.exit 0, { sl := [], ob := [] })], f := fun ds => fixN (b_kit_IsKey_0 K) K ds }
def f_kit_IsKey (K : Nat) (s : D) : Option (List D) :=
  (fixN (b_kit_IsKey_0 K) K [s, D.i 0]).bind fun t1 =>
  bif (t1.1.beq 0) then
    some [D.nth t1.2 0]
  else
    some [D.b (bif (!(s.str == ([] : List UInt8))) then (leI (s.str.length : Int) 40) else false)]
def e_kit_IsKey (K : Nat) : Entry := { n := 1, sh := { sl := [(0, .d 9 false)], ob := [] }, kept := [], rs := [{ sl := [(0, .d 4 true)], ob := [] }], f := fun ds => f_kit_IsKey K (D.nth ds 0), tot := none }
def T_kit_IsKey (K : Nat) : Tbl := { T0 with ents := entsOf [], cuts := lk [(0, c_kit_IsKey_0 K)] }
theorem q_kit_IsKey_0 (K : Nat) (rec : List D → Option (Nat × List D)) (ds : List D) : evLoop (T_kit_IsKey K) 48 (sub (codeOf Try.f61) [1, 0, 1, 0, 0]) .go (c_kit_IsKey_0 K) rec ds = b_kit_IsKey_0 K rec ds := by kernel_rfl
theorem k_kit_IsKey_0 (K : Nat) : CutOK Try.prog (T_kit_IsKey K) 48 (sub (codeOf Try.f61) [1, 0, 1, 0]) (c_kit_IsKey_0 K) :=
  loop_thm (T := T_kit_IsKey K) (hT_of hT0 rfl rfl rfl) (hes_ok (T0 := T0) (T := T_kit_IsKey K) rfl rfl (trivial : FAll Try.prog T0 [])) (by kernel_rfl) rfl rfl rfl (cutsOK_none (by rfl)) rfl (q_kit_IsKey_0 K)
theorem q_kit_IsKey (K : Nat) (ds : List D) : evFn (T_kit_IsKey K) Try.f61 (.seq .go (.seq (.seq .go (.blk (.cut 0))) .go)) (e_kit_IsKey K) ds = (e_kit_IsKey K).f ds := by kernel_rfl
theorem ok_kit_IsKey (K : Nat) : FnOK Try.prog T0 61 (e_kit_IsKey K) :=
  fn_thm (T0 := T0) (T := T_kit_IsKey K) rfl (hT_of hT0 rfl rfl rfl) (hes_ok (T0 := T0) (T := T_kit_IsKey K) rfl rfl (trivial : FAll Try.prog T0 [])) Try.func61 (by decide) rfl (Nat.le_of_ble_eq_true rfl) rfl rfl rfl (tot_none rfl) (cutsOK_list (l := [(0, sub (codeOf Try.f61) [1, 0, 1, 0])]) (by kernel_rfl) ⟨cut_one (u := c_kit_IsKey_0 K) rfl (k_kit_IsKey_0 K), trivial⟩) (q_kit_IsKey K)
/-! ### 35 gatewarden/kit.Outside -/
def p_kit_Outside (n low high : D) : List D := [D.b (bif (ltI n.int low.int) then true else (gtI n.int high.int))]
def e_kit_Outside (K : Nat) : Entry := { n := 3, sh := { sl := [(0, .d 3 false), (1, .d 3 false), (2, .d 3 false)], ob := [] }, kept := [], rs := [{ sl := [(0, .d 4 true)], ob := [] }], f := fun ds => some (p_kit_Outside (D.nth ds 0) (D.nth ds 1) (D.nth ds 2)), tot := some fun ds => p_kit_Outside (D.nth ds 0) (D.nth ds 1) (D.nth ds 2) }
def T_kit_Outside (K : Nat) : Tbl := { T0 with ents := entsOf [], cuts := lk [] }
theorem q_kit_Outside (K : Nat) (ds : List D) : evFn (T_kit_Outside K) Try.f35 .go (e_kit_Outside K) ds = (e_kit_Outside K).f ds := by kernel_rfl
theorem ok_kit_Outside (K : Nat) : FnOK Try.prog T0 35 (e_kit_Outside K) :=
  fn_thm (T0 := T0) (T := T_kit_Outside K) rfl (hT_of hT0 rfl rfl rfl) (hes_ok (T0 := T0) (T := T_kit_Outside K) rfl rfl (trivial : FAll Try.prog T0 [])) Try.func35 (by decide) rfl (Nat.le_of_ble_eq_true rfl) rfl rfl rfl (tot_some rfl fun _ => rfl) (cutsOK_none (by rfl)) (q_kit_Outside K)
/-! ### 48 gatewarden/upstream.CheckInstances -/
def b_upstream_CheckInstances_0 (K : Nat) (rec : List D → Option (Nat × List D)) (ds : List D) : Option (Nat × List D) :=
  let l := D.nth ds 0
  let s8 := D.nth ds 1
  let s9 := D.nth ds 2
  let s10 := D.nth ds 3
  bif (ltI s10.int s9.int) then
    bif (inB s10.int s8.list.length) then
      (f_kit_IsKey K ((D.nth s8.list s10.int.toNat).at' 0)).bind fun t1 =>
      bif (!((D.nth t1 0).bool)) then
        some (0, [D.i 5])
      else
        bif ((!(gtI s10.int 0)) || (inB (IntKind.i64.wrap (s10.int - (1 : Int))) l.list.length)) then
          bif (bif (gtI s10.int 0) then ((Op.bytesLess (((D.nth s8.list s10.int.toNat).at' 0).str) (((D.nth l.list ((IntKind.i64.wrap (s10.int - (1 : Int))).toNat)).at' 0).str)) || ((((D.nth s8.list s10.int.toNat).at' 0).str) == (((D.nth l.list ((IntKind.i64.wrap (s10.int - (1 : Int))).toNat)).at' 0).str))) else false) then
            some (0, [D.i 7])
          else
            bif (D.nth (p_kit_Outside ((D.nth s8.list s10.int.toNat).at' 1) (D.i 1) (D.i 100)) 0).bool then
              some (0, [D.i 1])
            else
              rec [l, s8, s9, D.i (IntKind.i64.wrap (s10.int + (1 : Int)))]
        else
          none
    else
      none
  else
    some (1, [])
def c_upstream_CheckInstances_0 (K : Nat) : Cut := { sh := { sl := [(0, .d 52 false), (8, .d 52 false), (9, .d 3 true), (10, .d 3 true)], ob := [] }, kept := [], outs := [(.ret, { sl := [(2, .d 34 true)], ob := [] }), (.exit 0, { sl := [], ob := [] })], f := fun ds => fixN (b_upstream_CheckInstances_0 K) K ds }
def f_upstream_CheckInstances (K : Nat) (l : D) : Option (List D) :=
  bif (gtI (l.list.length : Int) 50) then
    some [D.i 2]
  else
    (fixN (b_upstream_CheckInstances_0 K) K [l, l, D.i (l.list.length : Int), D.i 0]).bind fun t1 =>
    bif (t1.1.beq 0) then
      some [D.nth t1.2 0]
    else
      some [D.i 0]
def e_upstream_CheckInstances (K : Nat) : Entry := { n := 1, sh := { sl := [(0, .d 52 false)], ob := [] }, kept := [], rs := [{ sl := [(0, .d 34 true)], ob := [] }], f := fun ds => f_upstream_CheckInstances K (D.nth ds 0), tot := none }
def T_upstream_CheckInstances (K : Nat) : Tbl := { T0 with ents := entsOf [(61, e_kit_IsKey K), (35, e_kit_Outside K)], cuts := lk [(0, c_upstream_CheckInstances_0 K)] }
theorem q_upstream_CheckInstances_0 (K : Nat) (rec : List D → Option (Nat × List D)) (ds : List D) : evLoop (T_upstream_CheckInstances K) 39 (sub (codeOf Try.f48) [1, 1, 0, 1, 0, 0]) .go (c_upstream_CheckInstances_0 K) rec ds = b_upstream_CheckInstances_0 K rec ds := by kernel_rfl
theorem k_upstream_CheckInstances_0 (K : Nat) : CutOK Try.prog (T_upstream_CheckInstances K) 39 (sub (codeOf Try.f48) [1, 1, 0, 1, 0]) (c_upstream_CheckInstances_0 K) :=
  loop_thm (T := T_upstream_CheckInstances K) (hT_of hT0 rfl rfl rfl) (hes_ok (T0 := T0) (T := T_upstream_CheckInstances K) rfl rfl (⟨ok_kit_IsKey K, ok_kit_Outside K, trivial⟩ : FAll Try.prog T0 [(61, e_kit_IsKey K), (35, e_kit_Outside K)])) (by kernel_rfl) rfl rfl rfl (cutsOK_none (by rfl)) rfl (q_upstream_CheckInstances_0 K)
theorem q_upstream_CheckInstances (K : Nat) (ds : List D) : evFn (T_upstream_CheckInstances K) Try.f48 (.seq .go (.seq .go (.seq (.seq .go (.blk (.cut 0))) .go))) (e_upstream_CheckInstances K) ds = (e_upstream_CheckInstances K).f ds := by kernel_rfl
theorem ok_upstream_CheckInstances (K : Nat) : FnOK Try.prog T0 48 (e_upstream_CheckInstances K) :=
  fn_thm (T0 := T0) (T := T_upstream_CheckInstances K) rfl (hT_of hT0 rfl rfl rfl) (hes_ok (T0 := T0) (T := T_upstream_CheckInstances K) rfl rfl (⟨ok_kit_IsKey K, ok_kit_Outside K, trivial⟩ : FAll Try.prog T0 [(61, e_kit_IsKey K), (35, e_kit_Outside K)])) Try.func48 (by decide) rfl (Nat.le_of_ble_eq_true rfl) rfl rfl rfl (tot_none rfl) (cutsOK_list (l := [(0, sub (codeOf Try.f48) [1, 1, 0, 1, 0])]) (by kernel_rfl) ⟨cut_one (u := c_upstream_CheckInstances_0 K) rfl (k_upstream_CheckInstances_0 K), trivial⟩) (q_upstream_CheckInstances K)
/-! ### 49 gatewarden/upstream.keyFault -/
def f_upstream_keyFault (K : Nat) (key : D) : Option (List D) :=
  bif (bif (key.str == ([] : List UInt8)) then true else (gtI (key.str.length : Int) 40)) then
    some [D.i 5]
  else
    some [D.i 0]
def e_upstream_keyFault (K : Nat) : Entry := { n := 1, sh := { sl := [(0, .d 9 false)], ob := [] }, kept := [], rs := [{ sl := [(0, .d 34 true)], ob := [] }], f := fun ds => f_upstream_keyFault K (D.nth ds 0), tot := none }
def T_upstream_keyFault (K : Nat) : Tbl := { T0 with ents := entsOf [], cuts := lk [] }
theorem q_upstream_keyFault (K : Nat) (ds : List D) : evFn (T_upstream_keyFault K) Try.f49 .go (e_upstream_keyFault K) ds = (e_upstream_keyFault K).f ds := by kernel_rfl
theorem ok_upstream_keyFault (K : Nat) : FnOK Try.prog T0 49 (e_upstream_keyFault K) :=
  fn_thm (T0 := T0) (T := T_upstream_keyFault K) rfl (hT_of hT0 rfl rfl rfl) (hes_ok (T0 := T0) (T := T_upstream_keyFault K) rfl rfl (trivial : FAll Try.prog T0 [])) Try.func49 (by decide) rfl (Nat.le_of_ble_eq_true rfl) rfl rfl rfl (tot_none rfl) (cutsOK_none (by rfl)) (q_upstream_keyFault K)
/-! ### 65 gatewarden/upstream.Hash -/
def b_upstream_Hash_0 (K : Nat) (rec : List D → Option (Nat × List D)) (ds : List D) : Option (Nat × List D) :=
  let s := D.nth ds 0
  let h := D.nth ds 1
  let s6 := D.nth ds 2
  let s7 := D.nth ds 3
  bif (ltI s7.int s6.int) then
    bif (inB s7.int s.str.length) then
      rec [s, D.i (IntKind.u64.wrap ((bitsI .xor .u64 h.int (IntKind.u64.wrap (byteAt s.str s7.int.toNat))) * (1099511628211 : Int))), s6, D.i (IntKind.i64.wrap (s7.int + (1 : Int)))]
    else
      none
  else
    some (0, [h])
def c_upstream_Hash_0 (K : Nat) : Cut := { sh := { sl := [(0, .d 9 true), (3, .d 94 true), (6, .d 3 true), (7, .d 3 true)], ob := [] }, kept := [], outs := [(.exit 0, { sl := [(3, .d 94 true)], ob := [] })], f := fun ds => fixN (b_upstream_Hash_0 K) K ds }
def f_upstream_Hash (K : Nat) (s : D) : Option (List D) :=
  (fixN (b_upstream_Hash_0 K) K [s, D.i 14695981039346656037, D.i (s.str.length : Int), D.i 0]).bind fun t1 =>
  some [D.i (bitsI .xor .u64 ((D.nth t1.2 0).int) (shr .u64 ((D.nth t1.2 0).int) 32))]
def e_upstream_Hash (K : Nat) : Entry := { n := 1, sh := { sl := [(0, .d 9 false)], ob := [] }, kept := [], rs := [{ sl := [(0, .d 94 true)], ob := [] }], f := fun ds => f_upstream_Hash K (D.nth ds 0), tot := none }
def T_upstream_Hash (K : Nat) : Tbl := { T0 with ents := entsOf [], cuts := lk [(0, c_upstream_Hash_0 K)] }
theorem q_upstream_Hash_0 (K : Nat) (rec : List D → Option (Nat × List D)) (ds : List D) : evLoop (T_upstream_Hash K) 22 (sub (codeOf Try.f65) [1, 1, 0, 1, 0, 0]) .go (c_upstream_Hash_0 K) rec ds = b_upstream_Hash_0 K rec ds := by kernel_rfl
theorem k_upstream_Hash_0 (K : Nat) : CutOK Try.prog (T_upstream_Hash K) 22 (sub (codeOf Try.f65) [1, 1, 0, 1, 0]) (c_upstream_Hash_0 K) :=
  loop_thm (T := T_upstream_Hash K) (hT_of hT0 rfl rfl rfl) (hes_ok (T0 := T0) (T := T_upstream_Hash K) rfl rfl (trivial : FAll Try.prog T0 [])) (by kernel_rfl) rfl rfl rfl (cutsOK_none (by rfl)) rfl (q_upstream_Hash_0 K)
theorem q_upstream_Hash (K : Nat) (ds : List D) : evFn (T_upstream_Hash K) Try.f65 (.seq .go (.seq .go (.seq (.seq .go (.blk (.cut 0))) .go))) (e_upstream_Hash K) ds = (e_upstream_Hash K).f ds := by kernel_rfl
theorem ok_upstream_Hash (K : Nat) : FnOK Try.prog T0 65 (e_upstream_Hash K) :=
  fn_thm (T0 := T0) (T := T_upstream_Hash K) rfl (hT_of hT0 rfl rfl rfl) (hes_ok (T0 := T0) (T := T_upstream_Hash K) rfl rfl (trivial : FAll Try.prog T0 [])) Try.func65 (by decide) rfl (Nat.le_of_ble_eq_true rfl) rfl rfl rfl (tot_none rfl) (cutsOK_list (l := [(0, sub (codeOf Try.f65) [1, 1, 0, 1, 0])]) (by kernel_rfl) ⟨cut_one (u := c_upstream_Hash_0 K) rfl (k_upstream_Hash_0 K), trivial⟩) (q_upstream_Hash K)
/-! ### 66 slices.Clone[[]gatewarden/api.Instance,gatewarden/api.Instance] -/
def b_slices_Clone_api_Instance_0 (K : Nat) (ds : List D) : Option (Nat × List D) :=
  let s := D.nth ds 0
  bif (lim (0 + s.list.length)) then
    some (0, [D.n s.list])
  else
    none
def c_slices_Clone_api_Instance_0 (K : Nat) : Cut := { sh := { sl := [(0, .d 52 false)], ob := [] }, kept := [], outs := [(.ret, { sl := [(2, .own 52 0)], ob := [(0, .row 79 true)] })], f := b_slices_Clone_api_Instance_0 K }
def f_slices_Clone_api_Instance (K : Nat) (s : D) : Option (List D) :=
  (b_slices_Clone_api_Instance_0 K [s]).bind fun t1 =>
  some [D.n ((D.nth t1.2 0).list)]
def e_slices_Clone_api_Instance (K : Nat) : Entry := { n := 1, sh := { sl := [(0, .d 52 false)], ob := [] }, kept := [], rs := [{ sl := [(0, .own 52 0)], ob := [(0, .row 79 true)] }], f := fun ds => f_slices_Clone_api_Instance K (D.nth ds 0), tot := none }
def T_slices_Clone_api_Instance (K : Nat) : Tbl := { T0 with ents := entsOf [], cuts := lk [(0, c_slices_Clone_api_Instance_0 K)] }
theorem q_slices_Clone_api_Instance_0 (K : Nat) (ds : List D) : evPiece (T_slices_Clone_api_Instance K) 8 (sub (codeOf Try.f66) [1, 1]) .go (c_slices_Clone_api_Instance_0 K) ds = b_slices_Clone_api_Instance_0 K ds := by kernel_rfl
theorem k_slices_Clone_api_Instance_0 (K : Nat) : CutOK Try.prog (T_slices_Clone_api_Instance K) 8 (sub (codeOf Try.f66) [1]) (c_slices_Clone_api_Instance_0 K) :=
  clone_thm (T := T_slices_Clone_api_Instance K) (rest := sub (codeOf Try.f66) [1, 1]) (hT_of hT0 rfl rfl rfl) rfl (piece_thm (T := T_slices_Clone_api_Instance K) (hT_of hT0 rfl rfl rfl) (hes_ok (T0 := T0) (T := T_slices_Clone_api_Instance K) rfl rfl (trivial : FAll Try.prog T0 [])) rfl rfl rfl (cutsOK_none (by rfl)) (q_slices_Clone_api_Instance_0 K)) rfl rfl rfl (fun ds out h0 h => clone_f h0 h) rfl rfl
theorem q_slices_Clone_api_Instance (K : Nat) (ds : List D) : evFn (T_slices_Clone_api_Instance K) Try.f66 (.seq .go (.cut 0)) (e_slices_Clone_api_Instance K) ds = (e_slices_Clone_api_Instance K).f ds := by kernel_rfl
theorem ok_slices_Clone_api_Instance (K : Nat) : FnOK Try.prog T0 66 (e_slices_Clone_api_Instance K) :=
  fn_thm (T0 := T0) (T := T_slices_Clone_api_Instance K) rfl (hT_of hT0 rfl rfl rfl) (hes_ok (T0 := T0) (T := T_slices_Clone_api_Instance K) rfl rfl (trivial : FAll Try.prog T0 [])) Try.func66 (by decide) rfl (Nat.le_of_ble_eq_true rfl) rfl rfl rfl (tot_none rfl) (cutsOK_list (l := [(0, sub (codeOf Try.f66) [1])]) (by kernel_rfl) ⟨cut_one (u := c_slices_Clone_api_Instance_0 K) rfl (k_slices_Clone_api_Instance_0 K), trivial⟩) (q_slices_Clone_api_Instance K)
/-! ### 93 math/bits.Len64 -/
def b_bits_Len64_1 (K : Nat) (ds : List D) : Option (Nat × List D) :=
  let x := D.nth ds 0
  let n := D.nth ds 1
  let s8 := D.nth ds 2
  bif s8.bool then
    some (0, [D.i (shr .u64 x.int 16), D.i (IntKind.i64.wrap (n.int + (16 : Int)))])
  else
    some (0, [x, n])
def c_bits_Len64_1 (K : Nat) : Cut := { sh := { sl := [(0, .d 87 true), (2, .d 3 true), (8, .d 4 true)], ob := [] }, kept := [], outs := [(.normal, { sl := [(0, .d 87 true), (2, .d 3 true)], ob := [] })], f := b_bits_Len64_1 K }
def b_bits_Len64_0 (K : Nat) (ds : List D) : Option (Nat × List D) :=
  let x := D.nth ds 0
  let n := D.nth ds 1
  let s4 := D.nth ds 2
  bif s4.bool then
    some (0, [D.i (shr .u64 x.int 32), D.i 32])
  else
    some (0, [x, n])
def c_bits_Len64_0 (K : Nat) : Cut := { sh := { sl := [(0, .d 87 true), (2, .d 3 true), (4, .d 4 true)], ob := [] }, kept := [], outs := [(.normal, { sl := [(0, .d 87 true), (2, .d 3 true)], ob := [] })], f := b_bits_Len64_0 K }
def f_bits_Len64 (K : Nat) (x : D) : Option (List D) :=
  (b_bits_Len64_0 K [x, D.i 0, D.b (geI x.int 4294967296)]).bind fun t1 =>
  (b_bits_Len64_1 K [D.nth t1.2 0, D.nth t1.2 1, D.b (geI ((D.nth t1.2 0).int) 65536)]).bind fun t2 =>
  bif (geI ((D.nth t2.2 0).int) 256) then
    bif (inB (IntKind.u8.wrap (shr .u64 ((D.nth t2.2 0).int) 8)) ([0, 1, 2, 2, 3, 3, 3, 3, 4, 4, 4, 4, 4, 4, 4, 4, 5, 5, 5, 5, 5, 5, 5, 5, 5, 5, 5, 5, 5, 5, 5, 5, 6, 6, 6, 6, 6, 6, 6, 6, 6, 6, 6, 6, 6, 6, 6, 6, 6, 6, 6, 6, 6, 6, 6, 6, 6, 6, 6, 6, 6, 6, 6, 6, 7, 7, 7, 7, 7, 7, 7, 7, 7, 7, 7, 7, 7, 7, 7, 7, 7, 7, 7, 7, 7, 7, 7, 7, 7, 7, 7, 7, 7, 7, 7, 7, 7, 7, 7, 7, 7, 7, 7, 7, 7, 7, 7, 7, 7, 7, 7, 7, 7, 7, 7, 7, 7, 7, 7, 7, 7, 7, 7, 7, 7, 7, 7, 7, 8, 8, 8, 8, 8, 8, 8, 8, 8, 8, 8, 8, 8, 8, 8, 8, 8, 8, 8, 8, 8, 8, 8, 8, 8, 8, 8, 8, 8, 8, 8, 8, 8, 8, 8, 8, 8, 8, 8, 8, 8, 8, 8, 8, 8, 8, 8, 8, 8, 8, 8, 8, 8, 8, 8, 8, 8, 8, 8, 8, 8, 8, 8, 8, 8, 8, 8, 8, 8, 8, 8, 8, 8, 8, 8, 8, 8, 8, 8, 8, 8, 8, 8, 8, 8, 8, 8, 8, 8, 8, 8, 8, 8, 8, 8, 8, 8, 8, 8, 8, 8, 8, 8, 8, 8, 8, 8, 8, 8, 8, 8, 8, 8, 8, 8, 8, 8, 8, 8, 8, 8, 8, 8, 8, 8, 8, 8, 8].length)) then
      some [D.i (IntKind.i64.wrap ((IntKind.i64.wrap (((D.nth t2.2 1).int) + (8 : Int))) + (IntKind.i64.wrap (byteAt [0, 1, 2, 2, 3, 3, 3, 3, 4, 4, 4, 4, 4, 4, 4, 4, 5, 5, 5, 5, 5, 5, 5, 5, 5, 5, 5, 5, 5, 5, 5, 5, 6, 6, 6, 6, 6, 6, 6, 6, 6, 6, 6, 6, 6, 6, 6, 6, 6, 6, 6, 6, 6, 6, 6, 6, 6, 6, 6, 6, 6, 6, 6, 6, 7, 7, 7, 7, 7, 7, 7, 7, 7, 7, 7, 7, 7, 7, 7, 7, 7, 7, 7, 7, 7, 7, 7, 7, 7, 7, 7, 7, 7, 7, 7, 7, 7, 7, 7, 7, 7, 7, 7, 7, 7, 7, 7, 7, 7, 7, 7, 7, 7, 7, 7, 7, 7, 7, 7, 7, 7, 7, 7, 7, 7, 7, 7, 7, 8, 8, 8, 8, 8, 8, 8, 8, 8, 8, 8, 8, 8, 8, 8, 8, 8, 8, 8, 8, 8, 8, 8, 8, 8, 8, 8, 8, 8, 8, 8, 8, 8, 8, 8, 8, 8, 8, 8, 8, 8, 8, 8, 8, 8, 8, 8, 8, 8, 8, 8, 8, 8, 8, 8, 8, 8, 8, 8, 8, 8, 8, 8, 8, 8, 8, 8, 8, 8, 8, 8, 8, 8, 8, 8, 8, 8, 8, 8, 8, 8, 8, 8, 8, 8, 8, 8, 8, 8, 8, 8, 8, 8, 8, 8, 8, 8, 8, 8, 8, 8, 8, 8, 8, 8, 8, 8, 8, 8, 8, 8, 8, 8, 8, 8, 8, 8, 8, 8, 8, 8, 8, 8, 8, 8, 8, 8, 8] ((IntKind.u8.wrap (shr .u64 ((D.nth t2.2 0).int) 8)).toNat)))))]
    else
      none
  else
    bif (inB (IntKind.u8.wrap ((D.nth t2.2 0).int)) ([0, 1, 2, 2, 3, 3, 3, 3, 4, 4, 4, 4, 4, 4, 4, 4, 5, 5, 5, 5, 5, 5, 5, 5, 5, 5, 5, 5, 5, 5, 5, 5, 6, 6, 6, 6, 6, 6, 6, 6, 6, 6, 6, 6, 6, 6, 6, 6, 6, 6, 6, 6, 6, 6, 6, 6, 6, 6, 6, 6, 6, 6, 6, 6, 7, 7, 7, 7, 7, 7, 7, 7, 7, 7, 7, 7, 7, 7, 7, 7, 7, 7, 7, 7, 7, 7, 7, 7, 7, 7, 7, 7, 7, 7, 7, 7, 7, 7, 7, 7, 7, 7, 7, 7, 7, 7, 7, 7, 7, 7, 7, 7, 7, 7, 7, 7, 7, 7, 7, 7, 7, 7, 7, 7, 7, 7, 7, 7, 8, 8, 8, 8, 8, 8, 8, 8, 8, 8, 8, 8, 8, 8, 8, 8, 8, 8, 8, 8, 8, 8, 8, 8, 8, 8, 8, 8, 8, 8, 8, 8, 8, 8, 8, 8, 8, 8, 8, 8, 8, 8, 8, 8, 8, 8, 8, 8, 8, 8, 8, 8, 8, 8, 8, 8, 8, 8, 8, 8, 8, 8, 8, 8, 8, 8, 8, 8, 8, 8, 8, 8, 8, 8, 8, 8, 8, 8, 8, 8, 8, 8, 8, 8, 8, 8, 8, 8, 8, 8, 8, 8, 8, 8, 8, 8, 8, 8, 8, 8, 8, 8, 8, 8, 8, 8, 8, 8, 8, 8, 8, 8, 8, 8, 8, 8, 8, 8, 8, 8, 8, 8, 8, 8, 8, 8, 8, 8].length)) then
      some [D.i (IntKind.i64.wrap (((D.nth t2.2 1).int) + (IntKind.i64.wrap (byteAt [0, 1, 2, 2, 3, 3, 3, 3, 4, 4, 4, 4, 4, 4, 4, 4, 5, 5, 5, 5, 5, 5, 5, 5, 5, 5, 5, 5, 5, 5, 5, 5, 6, 6, 6, 6, 6, 6, 6, 6, 6, 6, 6, 6, 6, 6, 6, 6, 6, 6, 6, 6, 6, 6, 6, 6, 6, 6, 6, 6, 6, 6, 6, 6, 7, 7, 7, 7, 7, 7, 7, 7, 7, 7, 7, 7, 7, 7, 7, 7, 7, 7, 7, 7, 7, 7, 7, 7, 7, 7, 7, 7, 7, 7, 7, 7, 7, 7, 7, 7, 7, 7, 7, 7, 7, 7, 7, 7, 7, 7, 7, 7, 7, 7, 7, 7, 7, 7, 7, 7, 7, 7, 7, 7, 7, 7, 7, 7, 8, 8, 8, 8, 8, 8, 8, 8, 8, 8, 8, 8, 8, 8, 8, 8, 8, 8, 8, 8, 8, 8, 8, 8, 8, 8, 8, 8, 8, 8, 8, 8, 8, 8, 8, 8, 8, 8, 8, 8, 8, 8, 8, 8, 8, 8, 8, 8, 8, 8, 8, 8, 8, 8, 8, 8, 8, 8, 8, 8, 8, 8, 8, 8, 8, 8, 8, 8, 8, 8, 8, 8, 8, 8, 8, 8, 8, 8, 8, 8, 8, 8, 8, 8, 8, 8, 8, 8, 8, 8, 8, 8, 8, 8, 8, 8, 8, 8, 8, 8, 8, 8, 8, 8, 8, 8, 8, 8, 8, 8, 8, 8, 8, 8, 8, 8, 8, 8, 8, 8, 8, 8, 8, 8, 8, 8, 8, 8] ((IntKind.u8.wrap ((D.nth t2.2 0).int)).toNat)))))]
    else
      none
def e_bits_Len64 (K : Nat) : Entry := { n := 1, sh := { sl := [(0, .d 87 false)], ob := [] }, kept := [], rs := [{ sl := [(0, .d 3 true)], ob := [] }], f := fun ds => f_bits_Len64 K (D.nth ds 0), tot := none }
def T_bits_Len64 (K : Nat) : Tbl := { T0 with ents := entsOf [], cuts := lk [(0, c_bits_Len64_0 K), (1, c_bits_Len64_1 K)] }
theorem q_bits_Len64_1 (K : Nat) (ds : List D) : evPiece (T_bits_Len64 K) 25 (sub (codeOf Try.f93) [1, 1, 0, 1]) .go (c_bits_Len64_1 K) ds = b_bits_Len64_1 K ds := by kernel_rfl
theorem k_bits_Len64_1 (K : Nat) : CutOK Try.prog (T_bits_Len64 K) 25 (sub (codeOf Try.f93) [1, 1, 0, 1]) (c_bits_Len64_1 K) :=
  piece_thm (T := T_bits_Len64 K) (hT_of hT0 rfl rfl rfl) (hes_ok (T0 := T0) (T := T_bits_Len64 K) rfl rfl (trivial : FAll Try.prog T0 [])) rfl rfl rfl (cutsOK_none (by rfl)) (q_bits_Len64_1 K)
theorem q_bits_Len64_0 (K : Nat) (ds : List D) : evPiece (T_bits_Len64 K) 25 (sub (codeOf Try.f93) [1, 0, 1]) .go (c_bits_Len64_0 K) ds = b_bits_Len64_0 K ds := by kernel_rfl
theorem k_bits_Len64_0 (K : Nat) : CutOK Try.prog (T_bits_Len64 K) 25 (sub (codeOf Try.f93) [1, 0, 1]) (c_bits_Len64_0 K) :=
  piece_thm (T := T_bits_Len64 K) (hT_of hT0 rfl rfl rfl) (hes_ok (T0 := T0) (T := T_bits_Len64 K) rfl rfl (trivial : FAll Try.prog T0 [])) rfl rfl rfl (cutsOK_none (by rfl)) (q_bits_Len64_0 K)
theorem q_bits_Len64 (K : Nat) (ds : List D) : evFn (T_bits_Len64 K) Try.f93 (.seq .go (.seq (.seq .go (.cut 0)) (.seq (.seq .go (.cut 1)) .go))) (e_bits_Len64 K) ds = (e_bits_Len64 K).f ds := by kernel_rfl
theorem ok_bits_Len64 (K : Nat) : FnOK Try.prog T0 93 (e_bits_Len64 K) :=
  fn_thm (T0 := T0) (T := T_bits_Len64 K) rfl (hT_of hT0 rfl rfl rfl) (hes_ok (T0 := T0) (T := T_bits_Len64 K) rfl rfl (trivial : FAll Try.prog T0 [])) Try.func93 (by decide) rfl (Nat.le_of_ble_eq_true rfl) rfl rfl rfl (tot_none rfl) (cutsOK_list (l := [(0, sub (codeOf Try.f93) [1, 0, 1]), (1, sub (codeOf Try.f93) [1, 1, 0, 1])]) (by kernel_rfl) ⟨cut_one (u := c_bits_Len64_0 K) rfl (k_bits_Len64_0 K), cut_one (u := c_bits_Len64_1 K) rfl (k_bits_Len64_1 K), trivial⟩) (q_bits_Len64 K)
/-! ### 57 math/bits.Len -/
def f_bits_Len (K : Nat) (x : D) : Option (List D) :=
  (f_bits_Len64 K x).bind fun t1 =>
  some [D.nth t1 0]
def e_bits_Len (K : Nat) : Entry := { n := 1, sh := { sl := [(0, .d 87 false)], ob := [] }, kept := [], rs := [{ sl := [(0, .d 3 true)], ob := [] }], f := fun ds => f_bits_Len K (D.nth ds 0), tot := none }
def T_bits_Len (K : Nat) : Tbl := { T0 with ents := entsOf [(93, e_bits_Len64 K)], cuts := lk [] }
theorem q_bits_Len (K : Nat) (ds : List D) : evFn (T_bits_Len K) Try.f57 .go (e_bits_Len K) ds = (e_bits_Len K).f ds := by kernel_rfl
theorem ok_bits_Len (K : Nat) : FnOK Try.prog T0 57 (e_bits_Len K) :=
  fn_thm (T0 := T0) (T := T_bits_Len K) rfl (hT_of hT0 rfl rfl rfl) (hes_ok (T0 := T0) (T := T_bits_Len K) rfl rfl (⟨ok_bits_Len64 K, trivial⟩ : FAll Try.prog T0 [(93, e_bits_Len64 K)])) Try.func57 (by decide) rfl (Nat.le_of_ble_eq_true rfl) rfl rfl rfl (tot_none rfl) (cutsOK_none (by rfl)) (q_bits_Len K)
/-! ### 96 cmp.isNaN[int] -/
def p_cmp_isNaN_int (x : D) : List D := [D.b (x.int != x.int)]
def e_cmp_isNaN_int (K : Nat) : Entry := { n := 1, sh := { sl := [(0, .d 3 false)], ob := [] }, kept := [], rs := [{ sl := [(0, .d 4 true)], ob := [] }], f := fun ds => some (p_cmp_isNaN_int (D.nth ds 0)), tot := some fun ds => p_cmp_isNaN_int (D.nth ds 0) }
def T_cmp_isNaN_int (K : Nat) : Tbl := { T0 with ents := entsOf [], cuts := lk [] }
theorem q_cmp_isNaN_int (K : Nat) (ds : List D) : evFn (T_cmp_isNaN_int K) Try.f96 .go (e_cmp_isNaN_int K) ds = (e_cmp_isNaN_int K).f ds := by kernel_rfl
theorem ok_cmp_isNaN_int (K : Nat) : FnOK Try.prog T0 96 (e_cmp_isNaN_int K) :=
  fn_thm (T0 := T0) (T := T_cmp_isNaN_int K) rfl (hT_of hT0 rfl rfl rfl) (hes_ok (T0 := T0) (T := T_cmp_isNaN_int K) rfl rfl (trivial : FAll Try.prog T0 [])) Try.func96 (by decide) rfl (Nat.le_of_ble_eq_true rfl) rfl rfl rfl (tot_some rfl fun _ => rfl) (cutsOK_none (by rfl)) (q_cmp_isNaN_int K)
/-! ### 70 cmp.Compare[int] -/
def f_cmp_Compare_int (K : Nat) (x y : D) : Option (List D) :=
  bif (D.nth (p_cmp_isNaN_int x) 0).bool then
    bif (D.nth (p_cmp_isNaN_int y) 0).bool then
      some [D.i 0]
    else
      some [D.i (-1)]
  else
    bif (D.nth (p_cmp_isNaN_int y) 0).bool then
      some [D.i 1]
    else
      bif (ltI x.int y.int) then
        some [D.i (-1)]
      else
        bif (gtI x.int y.int) then
          some [D.i 1]
        else
          some [D.i 0]
def e_cmp_Compare_int (K : Nat) : Entry := { n := 2, sh := { sl := [(0, .d 3 false), (1, .d 3 false)], ob := [] }, kept := [], rs := [{ sl := [(0, .d 3 true)], ob := [] }], f := fun ds => f_cmp_Compare_int K (D.nth ds 0) (D.nth ds 1), tot := none }
def T_cmp_Compare_int (K : Nat) : Tbl := { T0 with ents := entsOf [(96, e_cmp_isNaN_int K)], cuts := lk [] }
theorem q_cmp_Compare_int (K : Nat) (ds : List D) : evFn (T_cmp_Compare_int K) Try.f70 .go (e_cmp_Compare_int K) ds = (e_cmp_Compare_int K).f ds := by kernel_rfl
theorem ok_cmp_Compare_int (K : Nat) : FnOK Try.prog T0 70 (e_cmp_Compare_int K) :=
  fn_thm (T0 := T0) (T := T_cmp_Compare_int K) rfl (hT_of hT0 rfl rfl rfl) (hes_ok (T0 := T0) (T := T_cmp_Compare_int K) rfl rfl (⟨ok_cmp_isNaN_int K, trivial⟩ : FAll Try.prog T0 [(96, e_cmp_isNaN_int K)])) Try.func70 (by decide) rfl (Nat.le_of_ble_eq_true rfl) rfl rfl rfl (tot_none rfl) (cutsOK_none (by rfl)) (q_cmp_Compare_int K)
/-! ### 119 internal/bytealg.abigen_runtime_cmpstring -/
def p_bytealg_abigen_runtime_cmpstring (x y : D) : List D := [D.i (Lib.compareBytes x.str y.str)]
def e_bytealg_abigen_runtime_cmpstring (K : Nat) : Entry := flat2 9 9 3 (fun ds => some (p_bytealg_abigen_runtime_cmpstring (D.nth ds 0) (D.nth ds 1))) (some fun ds => p_bytealg_abigen_runtime_cmpstring (D.nth ds 0) (D.nth ds 1))
theorem ok_bytealg_abigen_runtime_cmpstring (K : Nat) : FnOK Try.prog T0 119 (e_bytealg_abigen_runtime_cmpstring K) :=
  cmpStr_ok (T := T0) Try.func119 (by kernel_rfl) (by kernel_rfl) (by kernel_rfl) (by kernel_rfl) rfl rfl rfl
/-! ### 97 internal/bytealg.CompareString -/
def p_bytealg_CompareString (a b : D) : List D := [D.nth (p_bytealg_abigen_runtime_cmpstring a b) 0]
def e_bytealg_CompareString (K : Nat) : Entry := { n := 2, sh := { sl := [(0, .d 9 false), (1, .d 9 false)], ob := [] }, kept := [], rs := [{ sl := [(0, .d 3 true)], ob := [] }], f := fun ds => some (p_bytealg_CompareString (D.nth ds 0) (D.nth ds 1)), tot := some fun ds => p_bytealg_CompareString (D.nth ds 0) (D.nth ds 1) }
def T_bytealg_CompareString (K : Nat) : Tbl := { T0 with ents := entsOf [(119, e_bytealg_abigen_runtime_cmpstring K)], cuts := lk [] }
theorem q_bytealg_CompareString (K : Nat) (ds : List D) : evFn (T_bytealg_CompareString K) Try.f97 .go (e_bytealg_CompareString K) ds = (e_bytealg_CompareString K).f ds := by kernel_rfl
theorem ok_bytealg_CompareString (K : Nat) : FnOK Try.prog T0 97 (e_bytealg_CompareString K) :=
  fn_thm (T0 := T0) (T := T_bytealg_CompareString K) rfl (hT_of hT0 rfl rfl rfl) (hes_ok (T0 := T0) (T := T_bytealg_CompareString K) rfl rfl (⟨ok_bytealg_abigen_runtime_cmpstring K, trivial⟩ : FAll Try.prog T0 [(119, e_bytealg_abigen_runtime_cmpstring K)])) Try.func97 (by decide) rfl (Nat.le_of_ble_eq_true rfl) rfl rfl rfl (tot_some rfl fun _ => rfl) (cutsOK_none (by rfl)) (q_bytealg_CompareString K)
/-! ### 71 strings.Compare -/
def p_strings_Compare (a b : D) : List D := [D.nth (p_bytealg_CompareString a b) 0]
def e_strings_Compare (K : Nat) : Entry := { n := 2, sh := { sl := [(0, .d 9 false), (1, .d 9 false)], ob := [] }, kept := [], rs := [{ sl := [(0, .d 3 true)], ob := [] }], f := fun ds => some (p_strings_Compare (D.nth ds 0) (D.nth ds 1)), tot := some fun ds => p_strings_Compare (D.nth ds 0) (D.nth ds 1) }
def T_strings_Compare (K : Nat) : Tbl := { T0 with ents := entsOf [(97, e_bytealg_CompareString K)], cuts := lk [] }
theorem q_strings_Compare (K : Nat) (ds : List D) : evFn (T_strings_Compare K) Try.f71 .go (e_strings_Compare K) ds = (e_strings_Compare K).f ds := by kernel_rfl
theorem ok_strings_Compare (K : Nat) : FnOK Try.prog T0 71 (e_strings_Compare K) :=
  fn_thm (T0 := T0) (T := T_strings_Compare K) rfl (hT_of hT0 rfl rfl rfl) (hes_ok (T0 := T0) (T := T_strings_Compare K) rfl rfl (⟨ok_bytealg_CompareString K, trivial⟩ : FAll Try.prog T0 [(97, e_bytealg_CompareString K)])) Try.func71 (by decide) rfl (Nat.le_of_ble_eq_true rfl) rfl rfl rfl (tot_some rfl fun _ => rfl) (cutsOK_none (by rfl)) (q_strings_Compare K)
/-! ### 69 cmp.Or[int] -/
def b_cmp_Or_int_0 (K : Nat) (rec : List D → Option (Nat × List D)) (ds : List D) : Option (Nat × List D) :=
  let zero := D.nth ds 0
  let s6 := D.nth ds 1
  let s7 := D.nth ds 2
  let s8 := D.nth ds 3
  bif (ltI s8.int s7.int) then
    bif (inB s8.int s6.list.length) then
      bif (((D.nth s6.list s8.int.toNat).int) != zero.int) then
        some (0, [D.nth s6.list s8.int.toNat])
      else
        rec [zero, s6, s7, D.i (IntKind.i64.wrap (s8.int + (1 : Int)))]
    else
      none
  else
    some (1, [])
def c_cmp_Or_int_0 (K : Nat) : Cut := { sh := { sl := [(3, .d 3 true), (6, .d 22 false), (7, .d 3 true), (8, .d 3 true)], ob := [] }, kept := [], outs := [(.ret, { sl := [(2, .d 3 true)], ob := [] }), (.exit 0, { sl := [], ob := [] })], f := fun ds => fixN (b_cmp_Or_int_0 K) K ds }
def f_cmp_Or_int (K : Nat) (vals : D) : Option (List D) :=
  (fixN (b_cmp_Or_int_0 K) K [D.i 0, vals, D.i (vals.list.length : Int), D.i 0]).bind fun t1 =>
  bif (t1.1.beq 0) then
    some [D.nth t1.2 0]
  else
    some [D.i 0]
def e_cmp_Or_int (K : Nat) : Entry := { n := 1, sh := { sl := [(0, .d 22 false)], ob := [] }, kept := [], rs := [{ sl := [(0, .d 3 true)], ob := [] }], f := fun ds => f_cmp_Or_int K (D.nth ds 0), tot := none }
def T_cmp_Or_int (K : Nat) : Tbl := { T0 with ents := entsOf [], cuts := lk [(0, c_cmp_Or_int_0 K)] }
theorem q_cmp_Or_int_0 (K : Nat) (rec : List D → Option (Nat × List D)) (ds : List D) : evLoop (T_cmp_Or_int K) 18 (sub (codeOf Try.f69) [1, 1, 0, 1, 0, 0]) .go (c_cmp_Or_int_0 K) rec ds = b_cmp_Or_int_0 K rec ds := by kernel_rfl
theorem k_cmp_Or_int_0 (K : Nat) : CutOK Try.prog (T_cmp_Or_int K) 18 (sub (codeOf Try.f69) [1, 1, 0, 1, 0]) (c_cmp_Or_int_0 K) :=
  loop_thm (T := T_cmp_Or_int K) (hT_of hT0 rfl rfl rfl) (hes_ok (T0 := T0) (T := T_cmp_Or_int K) rfl rfl (trivial : FAll Try.prog T0 [])) (by kernel_rfl) rfl rfl rfl (cutsOK_none (by rfl)) rfl (q_cmp_Or_int_0 K)
theorem q_cmp_Or_int (K : Nat) (ds : List D) : evFn (T_cmp_Or_int K) Try.f69 (.seq .go (.seq .go (.seq (.seq .go (.blk (.cut 0))) .go))) (e_cmp_Or_int K) ds = (e_cmp_Or_int K).f ds := by kernel_rfl
theorem ok_cmp_Or_int (K : Nat) : FnOK Try.prog T0 69 (e_cmp_Or_int K) :=
  fn_thm (T0 := T0) (T := T_cmp_Or_int K) rfl (hT_of hT0 rfl rfl rfl) (hes_ok (T0 := T0) (T := T_cmp_Or_int K) rfl rfl (trivial : FAll Try.prog T0 [])) Try.func69 (by decide) rfl (Nat.le_of_ble_eq_true rfl) rfl rfl rfl (tot_none rfl) (cutsOK_list (l := [(0, sub (codeOf Try.f69) [1, 1, 0, 1, 0])]) (by kernel_rfl) ⟨cut_one (u := c_cmp_Or_int_0 K) rfl (k_cmp_Or_int_0 K), trivial⟩) (q_cmp_Or_int K)
/-! ### 68 gatewarden/upstream.ordered$1 -/
def f_upstream_ordered_1 (K : Nat) (a b r1 : D) : Option (List D) :=
  (f_cmp_Compare_int K (mapGet .str (b.at' 0) r1.list) (mapGet .str (a.at' 0) r1.list)).bind fun t1 =>
  (f_cmp_Or_int K (D.n [D.nth t1 0, D.nth (p_strings_Compare (a.at' 0) (b.at' 0)) 0])).bind fun t2 =>
  some [D.nth t2 0, D.n r1.list]
def e_upstream_ordered_1 (K : Nat) : Entry := { n := 3, sh := { sl := [(0, .d 79 false), (1, .d 79 false), (2, .ptr 93 0 [])], ob := [(0, .box 93 (.own 93 1)), (1, .map 93 true)] }, kept := [0, 1], rs := [{ sl := [(0, .d 3 true)], ob := [(0, .box 93 (.own 93 1)), (1, .map 93 true)] }], f := fun ds => f_upstream_ordered_1 K (D.nth ds 0) (D.nth ds 1) (D.nth ds 2), tot := none }
def T_upstream_ordered_1 (K : Nat) : Tbl := { T0 with frz := fun s => memN [3, 4] s, ents := entsOf [(70, e_cmp_Compare_int K), (71, e_strings_Compare K), (69, e_cmp_Or_int K)], cuts := lk [] }
theorem q_upstream_ordered_1 (K : Nat) (ds : List D) : evFn (T_upstream_ordered_1 K) Try.f68 .go (e_upstream_ordered_1 K) ds = (e_upstream_ordered_1 K).f ds := by kernel_rfl
theorem ok_upstream_ordered_1 (K : Nat) : FnOK Try.prog T0 68 (e_upstream_ordered_1 K) :=
  fn_thm (T0 := T0) (T := T_upstream_ordered_1 K) rfl (hT_of hT0 rfl rfl rfl) (hes_ok (T0 := T0) (T := T_upstream_ordered_1 K) rfl rfl (⟨ok_cmp_Compare_int K, ok_strings_Compare K, ok_cmp_Or_int K, trivial⟩ : FAll Try.prog T0 [(70, e_cmp_Compare_int K), (71, e_strings_Compare K), (69, e_cmp_Or_int K)])) Try.func68 (by decide) rfl (Nat.le_of_ble_eq_true rfl) rfl rfl rfl (tot_none rfl) (cutsOK_none (by rfl)) (q_upstream_ordered_1 K)
/-! ### 111 slices.insertionSortCmpFunc[gatewarden/api.Instance] -/
def b_slices_insertionSortCmpFunc_api_Instance_2 (K : Nat) (ds : List D) : Option (Nat × List D) :=
  let a := D.nth ds 0
  let j := D.nth ds 1
  let r0 := D.nth ds 2
  let r2 := D.nth ds 3
  bif ((!(gtI j.int a.int)) || (inB j.int r0.list.length)) then
    bif ((!(gtI j.int a.int)) || (inB (IntKind.i64.wrap (j.int - (1 : Int))) r0.list.length)) then
      bif (gtI j.int a.int) then
        (f_upstream_ordered_1 K (D.nth r0.list j.int.toNat) (D.nth r0.list ((IntKind.i64.wrap (j.int - (1 : Int))).toNat)) (D.n r2.list)).bind fun t1 =>
        some (0, [D.b (ltI ((D.nth t1 0).int) 0), D.n r0.list, D.n ((D.nth t1 1).list)])
      else
        some (0, [D.b false, D.n r0.list, D.n r2.list])
    else
      none
  else
    none
def c_slices_insertionSortCmpFunc_api_Instance_2 (K : Nat) : Cut := { sh := { sl := [(0, .own 52 0), (1, .d 3 true), (3, .fn 68 [.ptr 93 1 []]), (9, .d 3 true)], ob := [(0, .row 79 true), (1, .box 93 (.own 93 2)), (2, .map 93 true)] }, kept := [0, 1, 2], outs := [(.normal, { sl := [(34, .d 4 true)], ob := [(0, .row 79 true), (1, .box 93 (.own 93 2)), (2, .map 93 true)] })], f := b_slices_insertionSortCmpFunc_api_Instance_2 K }
def b_slices_insertionSortCmpFunc_api_Instance_1 (K : Nat) (rec : List D → Option (Nat × List D)) (ds : List D) : Option (Nat × List D) :=
  let a := D.nth ds 0
  let j := D.nth ds 1
  let r0 := D.nth ds 2
  let r2 := D.nth ds 3
  (b_slices_insertionSortCmpFunc_api_Instance_2 K [a, j, D.n r0.list, D.n r2.list]).bind fun t1 =>
  bif (D.nth t1.2 0).bool then
    bif (inB (IntKind.i64.wrap (j.int - (1 : Int))) (((D.nth t1.2 1).list).length)) then
      bif (inB j.int (((D.nth t1.2 1).list).length)) then
        bif (inB j.int (((D.nth t1.2 1).list).length)) then
          bif (inB (IntKind.i64.wrap (j.int - (1 : Int))) ((D.setNth ((D.nth t1.2 1).list) j.int.toNat (D.nth ((D.nth t1.2 1).list) ((IntKind.i64.wrap (j.int - (1 : Int))).toNat))).length)) then
            rec [a, D.i (IntKind.i64.wrap (j.int - (1 : Int))), D.n (D.setNth (D.setNth ((D.nth t1.2 1).list) j.int.toNat (D.nth ((D.nth t1.2 1).list) ((IntKind.i64.wrap (j.int - (1 : Int))).toNat))) ((IntKind.i64.wrap (j.int - (1 : Int))).toNat) (D.nth ((D.nth t1.2 1).list) j.int.toNat)), D.n ((D.nth t1.2 2).list)]
          else
            none
        else
          none
      else
        none
    else
      none
  else
    some (0, [D.n ((D.nth t1.2 1).list), D.n ((D.nth t1.2 2).list)])
def c_slices_insertionSortCmpFunc_api_Instance_1 (K : Nat) : Cut := { sh := { sl := [(0, .own 52 0), (1, .d 3 true), (3, .fn 68 [.ptr 93 1 []]), (9, .d 3 true)], ob := [(0, .row 79 true), (1, .box 93 (.own 93 2)), (2, .map 93 true)] }, kept := [0, 1, 2], outs := [(.exit 2, { sl := [], ob := [(0, .row 79 true), (1, .box 93 (.own 93 2)), (2, .map 93 true)] })], f := fun ds => fixN (b_slices_insertionSortCmpFunc_api_Instance_1 K) K ds }
def b_slices_insertionSortCmpFunc_api_Instance_0 (K : Nat) (rec : List D → Option (Nat × List D)) (ds : List D) : Option (Nat × List D) :=
  let a := D.nth ds 0
  let b := D.nth ds 1
  let i := D.nth ds 2
  let r0 := D.nth ds 3
  let r2 := D.nth ds 4
  bif (ltI i.int b.int) then
    (fixN (b_slices_insertionSortCmpFunc_api_Instance_1 K) K [a, i, D.n r0.list, D.n r2.list]).bind fun t1 =>
    rec [a, b, D.i (IntKind.i64.wrap (i.int + (1 : Int))), D.n ((D.nth t1.2 0).list), D.n ((D.nth t1.2 1).list)]
  else
    some (0, [D.n r0.list, D.n r2.list])
def c_slices_insertionSortCmpFunc_api_Instance_0 (K : Nat) : Cut := { sh := { sl := [(0, .own 52 0), (1, .d 3 true), (2, .d 3 true), (3, .fn 68 [.ptr 93 1 []]), (8, .d 3 true)], ob := [(0, .row 79 true), (1, .box 93 (.own 93 2)), (2, .map 93 true)] }, kept := [0, 1, 2], outs := [(.exit 0, { sl := [], ob := [(0, .row 79 true), (1, .box 93 (.own 93 2)), (2, .map 93 true)] })], f := fun ds => fixN (b_slices_insertionSortCmpFunc_api_Instance_0 K) K ds }
def f_slices_insertionSortCmpFunc_api_Instance (K : Nat) (a b r0 r2 : D) : Option (List D) :=
  (fixN (b_slices_insertionSortCmpFunc_api_Instance_0 K) K [a, b, D.i (IntKind.i64.wrap (a.int + (1 : Int))), D.n r0.list, D.n r2.list]).bind fun t1 =>
  some [D.n ((D.nth t1.2 0).list), D.n ((D.nth t1.2 1).list)]
def e_slices_insertionSortCmpFunc_api_Instance (K : Nat) : Entry := { n := 4, sh := { sl := [(0, .own 52 0), (1, .d 3 false), (2, .d 3 false), (3, .fn 68 [.ptr 93 1 []])], ob := [(0, .row 79 true), (1, .box 93 (.own 93 2)), (2, .map 93 true)] }, kept := [0, 1, 2], rs := [{ sl := [(0, .tup [])], ob := [(0, .row 79 true), (1, .box 93 (.own 93 2)), (2, .map 93 true)] }], f := fun ds => f_slices_insertionSortCmpFunc_api_Instance K (D.nth ds 0) (D.nth ds 1) (D.nth ds 2) (D.nth ds 3), tot := none }
def T_slices_insertionSortCmpFunc_api_Instance (K : Nat) : Tbl := { T0 with ents := entsOf [(68, e_upstream_ordered_1 K)], cuts := lk [(0, c_slices_insertionSortCmpFunc_api_Instance_0 K), (1, c_slices_insertionSortCmpFunc_api_Instance_1 K), (2, c_slices_insertionSortCmpFunc_api_Instance_2 K)] }
theorem q_slices_insertionSortCmpFunc_api_Instance_2 (K : Nat) (ds : List D) : evPiece (T_slices_insertionSortCmpFunc_api_Instance K) 53 (sub (codeOf Try.f111) [1, 0, 0, 1, 0, 0, 1, 0, 0, 0, 0]) .go (c_slices_insertionSortCmpFunc_api_Instance_2 K) ds = b_slices_insertionSortCmpFunc_api_Instance_2 K ds := by kernel_rfl
theorem k_slices_insertionSortCmpFunc_api_Instance_2 (K : Nat) : CutOK Try.prog (T_slices_insertionSortCmpFunc_api_Instance K) 53 (sub (codeOf Try.f111) [1, 0, 0, 1, 0, 0, 1, 0, 0, 0, 0]) (c_slices_insertionSortCmpFunc_api_Instance_2 K) :=
  piece_thm (T := T_slices_insertionSortCmpFunc_api_Instance K) (hT_of hT0 rfl rfl rfl) (hes_ok (T0 := T0) (T := T_slices_insertionSortCmpFunc_api_Instance K) rfl rfl (⟨ok_upstream_ordered_1 K, trivial⟩ : FAll Try.prog T0 [(68, e_upstream_ordered_1 K)])) rfl rfl rfl (cutsOK_none (by rfl)) (q_slices_insertionSortCmpFunc_api_Instance_2 K)
theorem q_slices_insertionSortCmpFunc_api_Instance_1 (K : Nat) (rec : List D → Option (Nat × List D)) (ds : List D) : evLoop (T_slices_insertionSortCmpFunc_api_Instance K) 53 (sub (codeOf Try.f111) [1, 0, 0, 1, 0, 0, 1, 0, 0]) (.seq (.seq (.cut 2) .go) .go) (c_slices_insertionSortCmpFunc_api_Instance_1 K) rec ds = b_slices_insertionSortCmpFunc_api_Instance_1 K rec ds := by kernel_rfl
theorem k_slices_insertionSortCmpFunc_api_Instance_1 (K : Nat) : CutOK Try.prog (T_slices_insertionSortCmpFunc_api_Instance K) 53 (sub (codeOf Try.f111) [1, 0, 0, 1, 0, 0, 1, 0]) (c_slices_insertionSortCmpFunc_api_Instance_1 K) :=
  loop_thm (T := T_slices_insertionSortCmpFunc_api_Instance K) (hT_of hT0 rfl rfl rfl) (hes_ok (T0 := T0) (T := T_slices_insertionSortCmpFunc_api_Instance K) rfl rfl (⟨ok_upstream_ordered_1 K, trivial⟩ : FAll Try.prog T0 [(68, e_upstream_ordered_1 K)])) (by kernel_rfl) rfl rfl rfl (cutsOK_list (l := [(2, sub (codeOf Try.f111) [1, 0, 0, 1, 0, 0, 1, 0, 0, 0, 0])]) (by kernel_rfl) ⟨cut_one (u := c_slices_insertionSortCmpFunc_api_Instance_2 K) rfl (k_slices_insertionSortCmpFunc_api_Instance_2 K), trivial⟩) rfl (q_slices_insertionSortCmpFunc_api_Instance_1 K)
theorem q_slices_insertionSortCmpFunc_api_Instance_0 (K : Nat) (rec : List D → Option (Nat × List D)) (ds : List D) : evLoop (T_slices_insertionSortCmpFunc_api_Instance K) 53 (sub (codeOf Try.f111) [1, 0, 0]) (.seq .go (.seq (.blk (.seq .go (.blk (.cut 1)))) .go)) (c_slices_insertionSortCmpFunc_api_Instance_0 K) rec ds = b_slices_insertionSortCmpFunc_api_Instance_0 K rec ds := by kernel_rfl
theorem k_slices_insertionSortCmpFunc_api_Instance_0 (K : Nat) : CutOK Try.prog (T_slices_insertionSortCmpFunc_api_Instance K) 53 (sub (codeOf Try.f111) [1, 0]) (c_slices_insertionSortCmpFunc_api_Instance_0 K) :=
  loop_thm (T := T_slices_insertionSortCmpFunc_api_Instance K) (hT_of hT0 rfl rfl rfl) (hes_ok (T0 := T0) (T := T_slices_insertionSortCmpFunc_api_Instance K) rfl rfl (⟨ok_upstream_ordered_1 K, trivial⟩ : FAll Try.prog T0 [(68, e_upstream_ordered_1 K)])) (by kernel_rfl) rfl rfl rfl (cutsOK_list (l := [(1, sub (codeOf Try.f111) [1, 0, 0, 1, 0, 0, 1, 0])]) (by kernel_rfl) ⟨cut_one (u := c_slices_insertionSortCmpFunc_api_Instance_1 K) rfl (k_slices_insertionSortCmpFunc_api_Instance_1 K), trivial⟩) rfl (q_slices_insertionSortCmpFunc_api_Instance_0 K)
theorem q_slices_insertionSortCmpFunc_api_Instance (K : Nat) (ds : List D) : evFn (T_slices_insertionSortCmpFunc_api_Instance K) Try.f111 (.seq .go (.blk (.cut 0))) (e_slices_insertionSortCmpFunc_api_Instance K) ds = (e_slices_insertionSortCmpFunc_api_Instance K).f ds := by kernel_rfl
theorem ok_slices_insertionSortCmpFunc_api_Instance (K : Nat) : FnOK Try.prog T0 111 (e_slices_insertionSortCmpFunc_api_Instance K) :=
  fn_thm (T0 := T0) (T := T_slices_insertionSortCmpFunc_api_Instance K) rfl (hT_of hT0 rfl rfl rfl) (hes_ok (T0 := T0) (T := T_slices_insertionSortCmpFunc_api_Instance K) rfl rfl (⟨ok_upstream_ordered_1 K, trivial⟩ : FAll Try.prog T0 [(68, e_upstream_ordered_1 K)])) Try.func111 (by decide) rfl (Nat.le_of_ble_eq_true rfl) rfl rfl rfl (tot_none rfl) (cutsOK_list (l := [(0, sub (codeOf Try.f111) [1, 0])]) (by kernel_rfl) ⟨cut_one (u := c_slices_insertionSortCmpFunc_api_Instance_0 K) rfl (k_slices_insertionSortCmpFunc_api_Instance_0 K), trivial⟩) (q_slices_insertionSortCmpFunc_api_Instance K)
/-! ### 95 slices.pdqsortCmpFunc[gatewarden/api.Instance] -/
def b_slices_pdqsortCmpFunc_api_Instance_1 (K : Nat) (ds : List D) : Option (Nat × List D) :=
  let limit := D.nth ds 2
  let s39 := D.nth ds 3
  let r0 := D.nth ds 4
  let r2 := D.nth ds 5
  bif s39.bool then
    none
  else
    some (0, [limit, D.n r0.list, D.n r2.list])
def c_slices_pdqsortCmpFunc_api_Instance_1 (K : Nat) : Cut := { sh := { sl := [(0, .own 52 0), (1, .d 3 true), (2, .d 3 true), (3, .d 3 true), (4, .fn 68 [.ptr 93 1 []]), (39, .d 4 true)], ob := [(0, .row 79 true), (1, .box 93 (.own 93 2)), (2, .map 93 true)] }, kept := [0, 1, 2], outs := [(.normal, { sl := [(3, .d 3 true)], ob := [(0, .row 79 true), (1, .box 93 (.own 93 2)), (2, .map 93 true)] })], f := b_slices_pdqsortCmpFunc_api_Instance_1 K }
def b_slices_pdqsortCmpFunc_api_Instance_0 (K : Nat) (rec : List D → Option (Nat × List D)) (ds : List D) : Option (Nat × List D) :=
  let a := D.nth ds 0
  let b := D.nth ds 1
  let limit := D.nth ds 2
  let wasBalanced := D.nth ds 3
  let r0 := D.nth ds 5
  let r2 := D.nth ds 6
  bif (leI (IntKind.i64.wrap (b.int - a.int)) 12) then
    (f_slices_insertionSortCmpFunc_api_Instance K a b (D.n r0.list) (D.n r2.list)).bind fun t1 =>
    some (0, [D.n ((D.nth t1 0).list), D.n ((D.nth t1 1).list)])
  else
    bif (limit.int == (0 : Int)) then
      none
    else
      (b_slices_pdqsortCmpFunc_api_Instance_1 K [a, b, limit, D.b (!wasBalanced.bool), D.n r0.list, D.n r2.list]).bind fun t2 =>
      none
def c_slices_pdqsortCmpFunc_api_Instance_0 (K : Nat) : Cut := { sh := { sl := [(0, .own 52 0), (1, .d 3 true), (2, .d 3 true), (3, .d 3 true), (4, .fn 68 [.ptr 93 1 []]), (10, .d 4 true), (11, .d 4 true)], ob := [(0, .row 79 true), (1, .box 93 (.own 93 2)), (2, .map 93 true)] }, kept := [0, 1, 2], outs := [(.ret, { sl := [], ob := [(0, .row 79 true), (1, .box 93 (.own 93 2)), (2, .map 93 true)] })], f := fun ds => fixN (b_slices_pdqsortCmpFunc_api_Instance_0 K) K ds }
def f_slices_pdqsortCmpFunc_api_Instance (K : Nat) (a b limit r0 r2 : D) : Option (List D) :=
  (fixN (b_slices_pdqsortCmpFunc_api_Instance_0 K) K [a, b, limit, D.b true, D.b true, D.n r0.list, D.n r2.list]).bind fun t1 =>
  some [D.n ((D.nth t1.2 0).list), D.n ((D.nth t1.2 1).list)]
def e_slices_pdqsortCmpFunc_api_Instance (K : Nat) : Entry := { n := 5, sh := { sl := [(0, .own 52 0), (1, .d 3 false), (2, .d 3 false), (3, .d 3 false), (4, .fn 68 [.ptr 93 1 []])], ob := [(0, .row 79 true), (1, .box 93 (.own 93 2)), (2, .map 93 true)] }, kept := [0, 1, 2], rs := [{ sl := [(0, .tup [])], ob := [(0, .row 79 true), (1, .box 93 (.own 93 2)), (2, .map 93 true)] }], f := fun ds => f_slices_pdqsortCmpFunc_api_Instance K (D.nth ds 0) (D.nth ds 1) (D.nth ds 2) (D.nth ds 3) (D.nth ds 4), tot := none }
def T_slices_pdqsortCmpFunc_api_Instance (K : Nat) : Tbl := { T0 with ents := entsOf [(111, e_slices_insertionSortCmpFunc_api_Instance K)], cuts := lk [(0, c_slices_pdqsortCmpFunc_api_Instance_0 K), (1, c_slices_pdqsortCmpFunc_api_Instance_1 K)] }
theorem q_slices_pdqsortCmpFunc_api_Instance_1 (K : Nat) (ds : List D) : evPiece (T_slices_pdqsortCmpFunc_api_Instance K) 148 (sub (codeOf Try.f95) [1, 1, 0, 0, 0, 1, 1, 1, 0, 1]) .go (c_slices_pdqsortCmpFunc_api_Instance_1 K) ds = b_slices_pdqsortCmpFunc_api_Instance_1 K ds := by kernel_rfl
theorem k_slices_pdqsortCmpFunc_api_Instance_1 (K : Nat) : CutOK Try.prog (T_slices_pdqsortCmpFunc_api_Instance K) 148 (sub (codeOf Try.f95) [1, 1, 0, 0, 0, 1, 1, 1, 0, 1]) (c_slices_pdqsortCmpFunc_api_Instance_1 K) :=
  piece_thm (T := T_slices_pdqsortCmpFunc_api_Instance K) (hT_of hT0 rfl rfl rfl) (hes_ok (T0 := T0) (T := T_slices_pdqsortCmpFunc_api_Instance K) rfl rfl (⟨ok_slices_insertionSortCmpFunc_api_Instance K, trivial⟩ : FAll Try.prog T0 [(111, e_slices_insertionSortCmpFunc_api_Instance K)])) rfl rfl rfl (cutsOK_none (by rfl)) (q_slices_pdqsortCmpFunc_api_Instance_1 K)
theorem q_slices_pdqsortCmpFunc_api_Instance_0 (K : Nat) (rec : List D → Option (Nat × List D)) (ds : List D) : evLoop (T_slices_pdqsortCmpFunc_api_Instance K) 148 (sub (codeOf Try.f95) [1, 1, 0, 0]) (.blk (.seq .go (.seq .go (.seq .go (.seq (.seq .go (.cut 1)) (.seq .go (.seq (.seq .go (.cut 2)) (.seq (.seq .go (.cut 3)) (.seq (.seq (.cut 4) .go) .go))))))))) (c_slices_pdqsortCmpFunc_api_Instance_0 K) rec ds = b_slices_pdqsortCmpFunc_api_Instance_0 K rec ds := by kernel_rfl
theorem k_slices_pdqsortCmpFunc_api_Instance_0 (K : Nat) : CutOK Try.prog (T_slices_pdqsortCmpFunc_api_Instance K) 148 (sub (codeOf Try.f95) [1, 1, 0]) (c_slices_pdqsortCmpFunc_api_Instance_0 K) :=
  loop_thm (T := T_slices_pdqsortCmpFunc_api_Instance K) (hT_of hT0 rfl rfl rfl) (hes_ok (T0 := T0) (T := T_slices_pdqsortCmpFunc_api_Instance K) rfl rfl (⟨ok_slices_insertionSortCmpFunc_api_Instance K, trivial⟩ : FAll Try.prog T0 [(111, e_slices_insertionSortCmpFunc_api_Instance K)])) (by kernel_rfl) rfl rfl rfl (cutsOK_list (l := [(1, sub (codeOf Try.f95) [1, 1, 0, 0, 0, 1, 1, 1, 0, 1]), (2, sub (codeOf Try.f95) [1, 1, 0, 0, 0, 1, 1, 1, 1, 1, 0, 1]), (3, sub (codeOf Try.f95) [1, 1, 0, 0, 0, 1, 1, 1, 1, 1, 1, 0, 1]), (4, sub (codeOf Try.f95) [1, 1, 0, 0, 0, 1, 1, 1, 1, 1, 1, 1, 0, 0])]) (by kernel_rfl) ⟨cut_one (u := c_slices_pdqsortCmpFunc_api_Instance_1 K) rfl (k_slices_pdqsortCmpFunc_api_Instance_1 K), cut_no rfl, cut_no rfl, cut_no rfl, trivial⟩) rfl (q_slices_pdqsortCmpFunc_api_Instance_0 K)
theorem q_slices_pdqsortCmpFunc_api_Instance (K : Nat) (ds : List D) : evFn (T_slices_pdqsortCmpFunc_api_Instance K) Try.f95 (.seq .go (.seq .go (.blk (.cut 0)))) (e_slices_pdqsortCmpFunc_api_Instance K) ds = (e_slices_pdqsortCmpFunc_api_Instance K).f ds := by kernel_rfl
theorem ok_slices_pdqsortCmpFunc_api_Instance (K : Nat) : FnOK Try.prog T0 95 (e_slices_pdqsortCmpFunc_api_Instance K) :=
  fn_thm (T0 := T0) (T := T_slices_pdqsortCmpFunc_api_Instance K) rfl (hT_of hT0 rfl rfl rfl) (hes_ok (T0 := T0) (T := T_slices_pdqsortCmpFunc_api_Instance K) rfl rfl (⟨ok_slices_insertionSortCmpFunc_api_Instance K, trivial⟩ : FAll Try.prog T0 [(111, e_slices_insertionSortCmpFunc_api_Instance K)])) Try.func95 (by decide) rfl (Nat.le_of_ble_eq_true rfl) rfl rfl rfl (tot_none rfl) (cutsOK_list (l := [(0, sub (codeOf Try.f95) [1, 1, 0])]) (by kernel_rfl) ⟨cut_one (u := c_slices_pdqsortCmpFunc_api_Instance_0 K) rfl (k_slices_pdqsortCmpFunc_api_Instance_0 K), trivial⟩) (q_slices_pdqsortCmpFunc_api_Instance K)
/-! ### 67 slices.SortFunc[[]gatewarden/api.Instance,gatewarden/api.Instance] -/
def f_slices_SortFunc_api_Instance (K : Nat) (r0 r2 : D) : Option (List D) :=
  (f_bits_Len K (D.i (IntKind.u64.wrap (r0.list.length : Int)))).bind fun t1 =>
  (f_slices_pdqsortCmpFunc_api_Instance K (D.i 0) (D.i (r0.list.length : Int)) (D.nth t1 0) (D.n r0.list) (D.n r2.list)).bind fun t2 =>
  some [D.n ((D.nth t2 0).list), D.n ((D.nth t2 1).list)]
def e_slices_SortFunc_api_Instance (K : Nat) : Entry := { n := 2, sh := { sl := [(0, .own 52 0), (1, .fn 68 [.ptr 93 1 []])], ob := [(0, .row 79 true), (1, .box 93 (.own 93 2)), (2, .map 93 true)] }, kept := [0, 1, 2], rs := [{ sl := [(0, .tup [])], ob := [(0, .row 79 true), (1, .box 93 (.own 93 2)), (2, .map 93 true)] }], f := fun ds => f_slices_SortFunc_api_Instance K (D.nth ds 0) (D.nth ds 1), tot := none }
def T_slices_SortFunc_api_Instance (K : Nat) : Tbl := { T0 with ents := entsOf [(57, e_bits_Len K), (95, e_slices_pdqsortCmpFunc_api_Instance K)], cuts := lk [] }
theorem q_slices_SortFunc_api_Instance (K : Nat) (ds : List D) : evFn (T_slices_SortFunc_api_Instance K) Try.f67 .go (e_slices_SortFunc_api_Instance K) ds = (e_slices_SortFunc_api_Instance K).f ds := by kernel_rfl
theorem ok_slices_SortFunc_api_Instance (K : Nat) : FnOK Try.prog T0 67 (e_slices_SortFunc_api_Instance K) :=
  fn_thm (T0 := T0) (T := T_slices_SortFunc_api_Instance K) rfl (hT_of hT0 rfl rfl rfl) (hes_ok (T0 := T0) (T := T_slices_SortFunc_api_Instance K) rfl rfl (⟨ok_bits_Len K, ok_slices_pdqsortCmpFunc_api_Instance K, trivial⟩ : FAll Try.prog T0 [(57, e_bits_Len K), (95, e_slices_pdqsortCmpFunc_api_Instance K)])) Try.func67 (by decide) rfl (Nat.le_of_ble_eq_true rfl) rfl rfl rfl (tot_none rfl) (cutsOK_none (by rfl)) (q_slices_SortFunc_api_Instance K)
/-! ### 50 gatewarden/upstream.ordered -/
def b_upstream_ordered_0 (K : Nat) (rec : List D → Option (Nat × List D)) (ds : List D) : Option (Nat × List D) :=
  let key := D.nth ds 0
  let s9 := D.nth ds 1
  let s10 := D.nth ds 2
  let s11 := D.nth ds 3
  let r1 := D.nth ds 4
  bif (ltI s11.int s10.int) then
    bif (inB s11.int s9.list.length) then
      bif (lim (key.str.length + [0].length)) then
        bif (lim ((key.str ++ [0]).length + (((D.nth s9.list s11.int.toNat).at' 0).str).length)) then
          (f_upstream_Hash K (D.s ((key.str ++ [0]) ++ (((D.nth s9.list s11.int.toNat).at' 0).str)))).bind fun t1 =>
          rec [key, s9, s10, D.i (IntKind.i64.wrap (s11.int + (1 : Int))), D.n (mapSet .str ((D.nth s9.list s11.int.toNat).at' 0) (D.i (IntKind.i64.wrap ((IntKind.i64.wrap (Int.tmod ((D.nth t1 0).int) (1000003 : Int))) * (((D.nth s9.list s11.int.toNat).at' 1).int)))) r1.list)]
        else
          none
      else
        none
    else
      none
  else
    some (0, [D.n r1.list])
def c_upstream_ordered_0 (K : Nat) : Cut := { sh := { sl := [(1, .d 9 true), (5, .ptr 93 0 []), (9, .d 52 false), (10, .d 3 true), (11, .d 3 true)], ob := [(0, .box 93 (.own 93 1)), (1, .map 93 true)] }, kept := [0, 1], outs := [(.exit 0, { sl := [], ob := [(0, .box 93 (.own 93 1)), (1, .map 93 true)] })], f := fun ds => fixN (b_upstream_ordered_0 K) K ds }
def f_upstream_ordered (K : Nat) (l key : D) : Option (List D) :=
  (fixN (b_upstream_ordered_0 K) K [key, l, D.i (l.list.length : Int), D.i 0, D.n []]).bind fun t1 =>
  (f_slices_Clone_api_Instance K l).bind fun t2 =>
  (f_slices_SortFunc_api_Instance K (D.n ((D.nth t2 0).list)) (D.n ((D.nth t1.2 0).list))).bind fun t3 =>
  some [D.n ((D.nth t3 0).list)]
def e_upstream_ordered (K : Nat) : Entry := { n := 2, sh := { sl := [(0, .d 52 false), (1, .d 9 false)], ob := [] }, kept := [], rs := [{ sl := [(0, .own 52 0)], ob := [(0, .row 79 true)] }], f := fun ds => f_upstream_ordered K (D.nth ds 0) (D.nth ds 1), tot := none }
def T_upstream_ordered (K : Nat) : Tbl := { T0 with ents := entsOf [(65, e_upstream_Hash K), (66, e_slices_Clone_api_Instance K), (67, e_slices_SortFunc_api_Instance K)], cuts := lk [(0, c_upstream_ordered_0 K)] }
theorem q_upstream_ordered_0 (K : Nat) (rec : List D → Option (Nat × List D)) (ds : List D) : evLoop (T_upstream_ordered K) 36 (sub (codeOf Try.f50) [1, 1, 0, 1, 0, 0]) .go (c_upstream_ordered_0 K) rec ds = b_upstream_ordered_0 K rec ds := by kernel_rfl
theorem k_upstream_ordered_0 (K : Nat) : CutOK Try.prog (T_upstream_ordered K) 36 (sub (codeOf Try.f50) [1, 1, 0, 1, 0]) (c_upstream_ordered_0 K) :=
  loop_thm (T := T_upstream_ordered K) (hT_of hT0 rfl rfl rfl) (hes_ok (T0 := T0) (T := T_upstream_ordered K) rfl rfl (⟨ok_upstream_Hash K, ok_slices_Clone_api_Instance K, ok_slices_SortFunc_api_Instance K, trivial⟩ : FAll Try.prog T0 [(65, e_upstream_Hash K), (66, e_slices_Clone_api_Instance K), (67, e_slices_SortFunc_api_Instance K)])) (by kernel_rfl) rfl rfl rfl (cutsOK_none (by rfl)) rfl (q_upstream_ordered_0 K)
theorem q_upstream_ordered (K : Nat) (ds : List D) : evFn (T_upstream_ordered K) Try.f50 (.seq .go (.seq .go (.seq (.seq .go (.blk (.cut 0))) .go))) (e_upstream_ordered K) ds = (e_upstream_ordered K).f ds := by kernel_rfl
theorem ok_upstream_ordered (K : Nat) : FnOK Try.prog T0 50 (e_upstream_ordered K) :=
  fn_thm (T0 := T0) (T := T_upstream_ordered K) rfl (hT_of hT0 rfl rfl rfl) (hes_ok (T0 := T0) (T := T_upstream_ordered K) rfl rfl (⟨ok_upstream_Hash K, ok_slices_Clone_api_Instance K, ok_slices_SortFunc_api_Instance K, trivial⟩ : FAll Try.prog T0 [(65, e_upstream_Hash K), (66, e_slices_Clone_api_Instance K), (67, e_slices_SortFunc_api_Instance K)])) Try.func50 (by decide) rfl (Nat.le_of_ble_eq_true rfl) rfl rfl rfl (tot_none rfl) (cutsOK_list (l := [(0, sub (codeOf Try.f50) [1, 1, 0, 1, 0])]) (by kernel_rfl) ⟨cut_one (u := c_upstream_ordered_0 K) rfl (k_upstream_ordered_0 K), trivial⟩) (q_upstream_ordered K)
/-! ### 24 gatewarden/upstream.Moved -/
def b_upstream_Moved_2 (K : Nat) (rec : List D → Option (Nat × List D)) (ds : List D) : Option (Nat × List D) :=
  let a := D.nth ds 0
  let b := D.nth ds 1
  let s52 := D.nth ds 2
  let s53 := D.nth ds 3
  let s54 := D.nth ds 4
  let r0 := D.nth ds 5
  bif (ltI s54.int s53.int) then
    bif (inB s54.int s52.list.length) then
      (f_upstream_ordered K a (D.nth s52.list s54.int.toNat)).bind fun t3 =>
      bif (inB 0 (((D.nth t3 0).list).length)) then
        (f_upstream_ordered K b (D.nth s52.list s54.int.toNat)).bind fun t4 =>
        bif (inB 0 (((D.nth t4 0).list).length)) then
          bif (!((((D.nth ((D.nth t3 0).list) 0).at' 0).str) == (((D.nth ((D.nth t4 0).list) 0).at' 0).str))) then
            bif (lim (r0.list.length + 1)) then
              rec [a, b, s52, s53, D.i (IntKind.i64.wrap (s54.int + (1 : Int))), D.n (r0.list ++ [D.nth s52.list s54.int.toNat])]
            else
              none
          else
            rec [a, b, s52, s53, D.i (IntKind.i64.wrap (s54.int + (1 : Int))), D.n r0.list]
        else
          none
      else
        none
    else
      none
  else
    some (0, [D.n r0.list])
def c_upstream_Moved_2 (K : Nat) : Cut := { sh := { sl := [(0, .d 52 false), (1, .d 52 false), (14, .own 54 0), (52, .d 54 false), (53, .d 3 true), (54, .d 3 true)], ob := [(0, .row 9 true)] }, kept := [], outs := [(.exit 4, { sl := [(14, .own 54 0)], ob := [(0, .row 9 true)] })], f := fun ds => fixN (b_upstream_Moved_2 K) K ds }
def b_upstream_Moved_1 (K : Nat) (rec : List D → Option (Nat × List D)) (ds : List D) : Option (Nat × List D) :=
  let s32 := D.nth ds 0
  let s33 := D.nth ds 1
  let s34 := D.nth ds 2
  bif (ltI s34.int s33.int) then
    bif (inB s34.int s32.list.length) then
      (f_upstream_keyFault K (D.nth s32.list s34.int.toNat)).bind fun t2 =>
      bif (((D.nth t2 0).int) != (0 : Int)) then
        some (0, [D.nth t2 0])
      else
        rec [s32, s33, D.i (IntKind.i64.wrap (s34.int + (1 : Int)))]
    else
      none
  else
    some (1, [])
def c_upstream_Moved_1 (K : Nat) : Cut := { sh := { sl := [(32, .d 54 false), (33, .d 3 true), (34, .d 3 true)], ob := [] }, kept := [], outs := [(.ret, { sl := [(6, .nil 54), (7, .d 34 true)], ob := [] }), (.exit 2, { sl := [], ob := [] })], f := fun ds => fixN (b_upstream_Moved_1 K) K ds }
def b_upstream_Moved_0 (K : Nat) (rec : List D → Option (Nat × List D)) (ds : List D) : Option (Nat × List D) :=
  let s19 := D.nth ds 0
  let s20 := D.nth ds 1
  bif (ltI s20.int 2) then
    bif (inB s20.int 2) then
      (f_upstream_CheckInstances K (D.nth s19.list s20.int.toNat)).bind fun t1 =>
      bif (((D.nth t1 0).int) != (0 : Int)) then
        some (0, [D.nth t1 0])
      else
        rec [s19, D.i (IntKind.i64.wrap (s20.int + (1 : Int)))]
    else
      none
  else
    some (1, [])
def c_upstream_Moved_0 (K : Nat) : Cut := { sh := { sl := [(19, .d 80 false), (20, .d 3 true)], ob := [] }, kept := [], outs := [(.ret, { sl := [(6, .nil 54), (7, .d 34 true)], ob := [] }), (.exit 0, { sl := [], ob := [] })], f := fun ds => fixN (b_upstream_Moved_0 K) K ds }
def f_upstream_Moved (K : Nat) (a b keys : D) : Option (List D) :=
  (fixN (b_upstream_Moved_0 K) K [D.n [a, b], D.i 0]).bind fun t1 =>
  bif (t1.1.beq 0) then
    some [D.nth t1.2 0, D.n []]
  else
    bif (gtI (keys.list.length : Int) 2000) then
      some [D.i 2, D.n []]
    else
      (fixN (b_upstream_Moved_1 K) K [keys, D.i (keys.list.length : Int), D.i 0]).bind fun t2 =>
      bif (t2.1.beq 0) then
        some [D.nth t2.2 0, D.n []]
      else
        bif (bif ((a.list.length : Int) == (0 : Int)) then true else ((b.list.length : Int) == (0 : Int))) then
          some [D.i 8, D.n []]
        else
          (fixN (b_upstream_Moved_2 K) K [a, b, keys, D.i (keys.list.length : Int), D.i 0, D.n []]).bind fun t3 =>
          some [D.i 0, D.n ((D.nth t3.2 0).list)]
def e_upstream_Moved (K : Nat) : Entry := { n := 3, sh := { sl := [(0, .d 52 false), (1, .d 52 false), (2, .d 54 false)], ob := [] }, kept := [], rs := [{ sl := [(0, .tup [.own 54 0, .d 34 true])], ob := [(0, .row 9 true)] }], f := fun ds => f_upstream_Moved K (D.nth ds 0) (D.nth ds 1) (D.nth ds 2), tot := none }
def T_upstream_Moved (K : Nat) : Tbl := { T0 with ents := entsOf [(48, e_upstream_CheckInstances K), (49, e_upstream_keyFault K), (50, e_upstream_ordered K)], cuts := lk [(0, c_upstream_Moved_0 K), (1, c_upstream_Moved_1 K), (2, c_upstream_Moved_2 K)] }
theorem q_upstream_Moved_2 (K : Nat) (rec : List D → Option (Nat × List D)) (ds : List D) : evLoop (T_upstream_Moved K) 77 (sub (codeOf Try.f24) [1, 1, 1, 1, 1, 1, 0, 1, 0, 0]) .go (c_upstream_Moved_2 K) rec ds = b_upstream_Moved_2 K rec ds := by kernel_rfl
theorem k_upstream_Moved_2 (K : Nat) : CutOK Try.prog (T_upstream_Moved K) 77 (sub (codeOf Try.f24) [1, 1, 1, 1, 1, 1, 0, 1, 0]) (c_upstream_Moved_2 K) :=
  loop_thm (T := T_upstream_Moved K) (hT_of hT0 rfl rfl rfl) (hes_ok (T0 := T0) (T := T_upstream_Moved K) rfl rfl (⟨ok_upstream_CheckInstances K, ok_upstream_keyFault K, ok_upstream_ordered K, trivial⟩ : FAll Try.prog T0 [(48, e_upstream_CheckInstances K), (49, e_upstream_keyFault K), (50, e_upstream_ordered K)])) (by kernel_rfl) rfl rfl rfl (cutsOK_none (by rfl)) rfl (q_upstream_Moved_2 K)
theorem q_upstream_Moved_1 (K : Nat) (rec : List D → Option (Nat × List D)) (ds : List D) : evLoop (T_upstream_Moved K) 77 (sub (codeOf Try.f24) [1, 1, 1, 0, 1, 0, 0]) .go (c_upstream_Moved_1 K) rec ds = b_upstream_Moved_1 K rec ds := by kernel_rfl
theorem k_upstream_Moved_1 (K : Nat) : CutOK Try.prog (T_upstream_Moved K) 77 (sub (codeOf Try.f24) [1, 1, 1, 0, 1, 0]) (c_upstream_Moved_1 K) :=
  loop_thm (T := T_upstream_Moved K) (hT_of hT0 rfl rfl rfl) (hes_ok (T0 := T0) (T := T_upstream_Moved K) rfl rfl (⟨ok_upstream_CheckInstances K, ok_upstream_keyFault K, ok_upstream_ordered K, trivial⟩ : FAll Try.prog T0 [(48, e_upstream_CheckInstances K), (49, e_upstream_keyFault K), (50, e_upstream_ordered K)])) (by kernel_rfl) rfl rfl rfl (cutsOK_none (by rfl)) rfl (q_upstream_Moved_1 K)
theorem q_upstream_Moved_0 (K : Nat) (rec : List D → Option (Nat × List D)) (ds : List D) : evLoop (T_upstream_Moved K) 77 (sub (codeOf Try.f24) [1, 0, 1, 0, 0]) .go (c_upstream_Moved_0 K) rec ds = b_upstream_Moved_0 K rec ds := by kernel_rfl
theorem k_upstream_Moved_0 (K : Nat) : CutOK Try.prog (T_upstream_Moved K) 77 (sub (codeOf Try.f24) [1, 0, 1, 0]) (c_upstream_Moved_0 K) :=
  loop_thm (T := T_upstream_Moved K) (hT_of hT0 rfl rfl rfl) (hes_ok (T0 := T0) (T := T_upstream_Moved K) rfl rfl (⟨ok_upstream_CheckInstances K, ok_upstream_keyFault K, ok_upstream_ordered K, trivial⟩ : FAll Try.prog T0 [(48, e_upstream_CheckInstances K), (49, e_upstream_keyFault K), (50, e_upstream_ordered K)])) (by kernel_rfl) rfl rfl rfl (cutsOK_none (by rfl)) rfl (q_upstream_Moved_0 K)
theorem q_upstream_Moved (K : Nat) (ds : List D) : evFn (T_upstream_Moved K) Try.f24 (.seq .go (.seq (.seq .go (.blk (.cut 0))) (.seq .go (.seq (.seq .go (.blk (.cut 1))) (.seq .go (.seq .go (.seq (.seq .go (.blk (.cut 2))) .go))))))) (e_upstream_Moved K) ds = (e_upstream_Moved K).f ds := by kernel_rfl
theorem ok_upstream_Moved (K : Nat) : FnOK Try.prog T0 24 (e_upstream_Moved K) :=
  fn_thm (T0 := T0) (T := T_upstream_Moved K) rfl (hT_of hT0 rfl rfl rfl) (hes_ok (T0 := T0) (T := T_upstream_Moved K) rfl rfl (⟨ok_upstream_CheckInstances K, ok_upstream_keyFault K, ok_upstream_ordered K, trivial⟩ : FAll Try.prog T0 [(48, e_upstream_CheckInstances K), (49, e_upstream_keyFault K), (50, e_upstream_ordered K)])) Try.func24 (by decide) rfl (Nat.le_of_ble_eq_true rfl) rfl rfl rfl (tot_none rfl) (cutsOK_list (l := [(0, sub (codeOf Try.f24) [1, 0, 1, 0]), (1, sub (codeOf Try.f24) [1, 1, 1, 0, 1, 0]), (2, sub (codeOf Try.f24) [1, 1, 1, 1, 1, 1, 0, 1, 0])]) (by kernel_rfl) ⟨cut_one (u := c_upstream_Moved_0 K) rfl (k_upstream_Moved_0 K), cut_one (u := c_upstream_Moved_1 K) rfl (k_upstream_Moved_1 K), cut_one (u := c_upstream_Moved_2 K) rfl (k_upstream_Moved_2 K), trivial⟩) (q_upstream_Moved K)
/-! ### 42 gatewarden/gateref2.in -/
def p_gateref2_in (n low high : D) : List D := [D.b (bif (leI low.int n.int) then (leI n.int high.int) else false)]
def e_gateref2_in (K : Nat) : Entry := { n := 3, sh := { sl := [(0, .d 3 false), (1, .d 3 false), (2, .d 3 false)], ob := [] }, kept := [], rs := [{ sl := [(0, .d 4 true)], ob := [] }], f := fun ds => some (p_gateref2_in (D.nth ds 0) (D.nth ds 1) (D.nth ds 2)), tot := some fun ds => p_gateref2_in (D.nth ds 0) (D.nth ds 1) (D.nth ds 2) }
def T_gateref2_in (K : Nat) : Tbl := { T0 with ents := entsOf [], cuts := lk [] }
theorem q_gateref2_in (K : Nat) (ds : List D) : evFn (T_gateref2_in K) Try.f42 .go (e_gateref2_in K) ds = (e_gateref2_in K).f ds := by kernel_rfl
theorem ok_gateref2_in (K : Nat) : FnOK Try.prog T0 42 (e_gateref2_in K) :=
  fn_thm (T0 := T0) (T := T_gateref2_in K) rfl (hT_of hT0 rfl rfl rfl) (hes_ok (T0 := T0) (T := T_gateref2_in K) rfl rfl (trivial : FAll Try.prog T0 [])) Try.func42 (by decide) rfl (Nat.le_of_ble_eq_true rfl) rfl rfl rfl (tot_some rfl fun _ => rfl) (cutsOK_none (by rfl)) (q_gateref2_in K)
/-! ### 125 internal/bytealg.IndexByteString -/
def p_bytealg_IndexByteString (x y : D) : List D := [D.i (Lib.indexByte x.str y.int.toNat.toUInt8)]
def e_bytealg_IndexByteString (K : Nat) : Entry := flat2 9 5 3 (fun ds => some (p_bytealg_IndexByteString (D.nth ds 0) (D.nth ds 1))) (some fun ds => p_bytealg_IndexByteString (D.nth ds 0) (D.nth ds 1))
theorem ok_bytealg_IndexByteString (K : Nat) : FnOK Try.prog T0 125 (e_bytealg_IndexByteString K) :=
  idxByte_ok (T := T0) Try.func125 (by kernel_rfl) (by kernel_rfl) (by kernel_rfl) (by kernel_rfl) rfl rfl rfl
/-! ### 110 internal/stringslite.IndexByte -/
def p_stringslite_IndexByte (s c : D) : List D := [D.nth (p_bytealg_IndexByteString s c) 0]
def e_stringslite_IndexByte (K : Nat) : Entry := { n := 2, sh := { sl := [(0, .d 9 false), (1, .d 5 false)], ob := [] }, kept := [], rs := [{ sl := [(0, .d 3 true)], ob := [] }], f := fun ds => some (p_stringslite_IndexByte (D.nth ds 0) (D.nth ds 1)), tot := some fun ds => p_stringslite_IndexByte (D.nth ds 0) (D.nth ds 1) }
def T_stringslite_IndexByte (K : Nat) : Tbl := { T0 with ents := entsOf [(125, e_bytealg_IndexByteString K)], cuts := lk [] }
theorem q_stringslite_IndexByte (K : Nat) (ds : List D) : evFn (T_stringslite_IndexByte K) Try.f110 .go (e_stringslite_IndexByte K) ds = (e_stringslite_IndexByte K).f ds := by kernel_rfl
theorem ok_stringslite_IndexByte (K : Nat) : FnOK Try.prog T0 110 (e_stringslite_IndexByte K) :=
  fn_thm (T0 := T0) (T := T_stringslite_IndexByte K) rfl (hT_of hT0 rfl rfl rfl) (hes_ok (T0 := T0) (T := T_stringslite_IndexByte K) rfl rfl (⟨ok_bytealg_IndexByteString K, trivial⟩ : FAll Try.prog T0 [(125, e_bytealg_IndexByteString K)])) Try.func110 (by decide) rfl (Nat.le_of_ble_eq_true rfl) rfl rfl rfl (tot_some rfl fun _ => rfl) (cutsOK_none (by rfl)) (q_stringslite_IndexByte K)
/-! ### 94 strings.IndexByte -/
def p_strings_IndexByte (s c : D) : List D := [D.nth (p_stringslite_IndexByte s c) 0]
def e_strings_IndexByte (K : Nat) : Entry := { n := 2, sh := { sl := [(0, .d 9 false), (1, .d 5 false)], ob := [] }, kept := [], rs := [{ sl := [(0, .d 3 true)], ob := [] }], f := fun ds => some (p_strings_IndexByte (D.nth ds 0) (D.nth ds 1)), tot := some fun ds => p_strings_IndexByte (D.nth ds 0) (D.nth ds 1) }
def T_strings_IndexByte (K : Nat) : Tbl := { T0 with ents := entsOf [(110, e_stringslite_IndexByte K)], cuts := lk [] }
theorem q_strings_IndexByte (K : Nat) (ds : List D) : evFn (T_strings_IndexByte K) Try.f94 .go (e_strings_IndexByte K) ds = (e_strings_IndexByte K).f ds := by kernel_rfl
theorem ok_strings_IndexByte (K : Nat) : FnOK Try.prog T0 94 (e_strings_IndexByte K) :=
  fn_thm (T0 := T0) (T := T_strings_IndexByte K) rfl (hT_of hT0 rfl rfl rfl) (hes_ok (T0 := T0) (T := T_strings_IndexByte K) rfl rfl (⟨ok_stringslite_IndexByte K, trivial⟩ : FAll Try.prog T0 [(110, e_stringslite_IndexByte K)])) Try.func94 (by decide) rfl (Nat.le_of_ble_eq_true rfl) rfl rfl rfl (tot_some rfl fun _ => rfl) (cutsOK_none (by rfl)) (q_strings_IndexByte K)
/-! ### 58 gatewarden/gateref2.only -/
def b_gateref2_only_0 (K : Nat) (rec : List D → Option (Nat × List D)) (ds : List D) : Option (Nat × List D) :=
  let s := D.nth ds 0
  let vsome := D.nth ds 1
  let s7 := D.nth ds 2
  let s8 := D.nth ds 3
  bif (ltI s8.int s7.int) then
    bif (inB s8.int s.str.length) then
      bif (ltI ((D.nth (p_strings_IndexByte vsome (D.i (byteAt s.str s8.int.toNat))) 0).int) 0) then
        some (0, [D.b false])
      else
        rec [s, vsome, s7, D.i (IntKind.i64.wrap (s8.int + (1 : Int)))]
    else
      none
  else
    some (1, [])
def c_gateref2_only_0 (K : Nat) : Cut := { sh := { sl := [(0, .d 9 true), (1, .d 9 true), (7, .d 3 true), (8, .d 3 true)], ob := [] }, kept := [], outs := [(.ret, { sl := [(4, .d 4 true)], ob := [] }), (.exit 0, { sl := [], ob := [] })], f := fun ds => fixN (b_gateref2_only_0 K) K ds }
def f_gateref2_only (K : Nat) (s vsome : D) : Option (List D) :=
  (fixN (b_gateref2_only_0 K) K [s, vsome, D.i (s.str.length : Int), D.i 0]).bind fun t1 =>
  bif (t1.1.beq 0) then
    some [D.nth t1.2 0]
  else
    some [D.b true]
def e_gateref2_only (K : Nat) : Entry := { n := 2, sh := { sl := [(0, .d 9 false), (1, .d 9 false)], ob := [] }, kept := [], rs := [{ sl := [(0, .d 4 true)], ob := [] }], f := fun ds => f_gateref2_only K (D.nth ds 0) (D.nth ds 1), tot := none }
def T_gateref2_only (K : Nat) : Tbl := { T0 with ents := entsOf [(94, e_strings_IndexByte K)], cuts := lk [(0, c_gateref2_only_0 K)] }
theorem q_gateref2_only_0 (K : Nat) (rec : List D → Option (Nat × List D)) (ds : List D) : evLoop (T_gateref2_only K) 18 (sub (codeOf Try.f58) [1, 0, 1, 0, 0]) .go (c_gateref2_only_0 K) rec ds = b_gateref2_only_0 K rec ds := by kernel_rfl
theorem k_gateref2_only_0 (K : Nat) : CutOK Try.prog (T_gateref2_only K) 18 (sub (codeOf Try.f58) [1, 0, 1, 0]) (c_gateref2_only_0 K) :=
  loop_thm (T := T_gateref2_only K) (hT_of hT0 rfl rfl rfl) (hes_ok (T0 := T0) (T := T_gateref2_only K) rfl rfl (⟨ok_strings_IndexByte K, trivial⟩ : FAll Try.prog T0 [(94, e_strings_IndexByte K)])) (by kernel_rfl) rfl rfl rfl (cutsOK_none (by rfl)) rfl (q_gateref2_only_0 K)
theorem q_gateref2_only (K : Nat) (ds : List D) : evFn (T_gateref2_only K) Try.f58 (.seq .go (.seq (.seq .go (.blk (.cut 0))) .go)) (e_gateref2_only K) ds = (e_gateref2_only K).f ds := by kernel_rfl
theorem ok_gateref2_only (K : Nat) : FnOK Try.prog T0 58 (e_gateref2_only K) :=
  fn_thm (T0 := T0) (T := T_gateref2_only K) rfl (hT_of hT0 rfl rfl rfl) (hes_ok (T0 := T0) (T := T_gateref2_only K) rfl rfl (⟨ok_strings_IndexByte K, trivial⟩ : FAll Try.prog T0 [(94, e_strings_IndexByte K)])) Try.func58 (by decide) rfl (Nat.le_of_ble_eq_true rfl) rfl rfl rfl (tot_none rfl) (cutsOK_list (l := [(0, sub (codeOf Try.f58) [1, 0, 1, 0])]) (by kernel_rfl) ⟨cut_one (u := c_gateref2_only_0 K) rfl (k_gateref2_only_0 K), trivial⟩) (q_gateref2_only K)
/-! ### 38 gatewarden/gateref2.Key -/
def f_gateref2_Key (K : Nat) (s : D) : Option (List D) :=
  bif ((!((D.nth (p_gateref2_in (D.i (s.str.length : Int)) (D.i 1) (D.i 40)) 0).bool)) || (inB 1 (s.str.length + 1))) then
    bif (D.nth (p_gateref2_in (D.i (s.str.length : Int)) (D.i 1) (D.i 40)) 0).bool then
      (f_gateref2_only K (D.s (s.str.take 1)) (D.s [97, 98, 99, 100, 101, 102, 103, 104, 105, 106, 107, 108, 109, 110, 111, 112, 113, 114, 115, 116, 117, 118, 119, 120, 121, 122])).bind fun t1 =>
      bif (D.nth t1 0).bool then
        (f_gateref2_only K s (D.s [97, 98, 99, 100, 101, 102, 103, 104, 105, 106, 107, 108, 109, 110, 111, 112, 113, 114, 115, 116, 117, 118, 119, 120, 121, 122, 48, 49, 50, 51, 52, 53, 54, 55, 56, 57, 45, 95])).bind fun t2 =>
        some [D.b ((D.nth t2 0).bool)]
      else
        some [D.b false]
    else
      some [D.b false]
  else
    none
def e_gateref2_Key (K : Nat) : Entry := { n := 1, sh := { sl := [(0, .d 9 false)], ob := [] }, kept := [], rs := [{ sl := [(0, .d 4 true)], ob := [] }], f := fun ds => f_gateref2_Key K (D.nth ds 0), tot := none }
def T_gateref2_Key (K : Nat) : Tbl := { T0 with ents := entsOf [(42, e_gateref2_in K), (58, e_gateref2_only K)], cuts := lk [] }
theorem q_gateref2_Key (K : Nat) (ds : List D) : evFn (T_gateref2_Key K) Try.f38 .go (e_gateref2_Key K) ds = (e_gateref2_Key K).f ds := by kernel_rfl
theorem ok_gateref2_Key (K : Nat) : FnOK Try.prog T0 38 (e_gateref2_Key K) :=
  fn_thm (T0 := T0) (T := T_gateref2_Key K) rfl (hT_of hT0 rfl rfl rfl) (hes_ok (T0 := T0) (T := T_gateref2_Key K) rfl rfl (⟨ok_gateref2_in K, ok_gateref2_only K, trivial⟩ : FAll Try.prog T0 [(42, e_gateref2_in K), (58, e_gateref2_only K)])) Try.func38 (by decide) rfl (Nat.le_of_ble_eq_true rfl) rfl rfl rfl (tot_none rfl) (cutsOK_none (by rfl)) (q_gateref2_Key K)
/-! ### 25 gatewarden/gateref2.InstancesFault -/
def b_gateref2_InstancesFault_0 (K : Nat) (rec : List D → Option (Nat × List D)) (ds : List D) : Option (Nat × List D) :=
  let last := D.nth ds 0
  let s9 := D.nth ds 1
  let s10 := D.nth ds 2
  let s11 := D.nth ds 3
  bif (ltI s11.int s10.int) then
    bif (inB s11.int s9.list.length) then
      (f_gateref2_Key K ((D.nth s9.list s11.int.toNat).at' 0)).bind fun t1 =>
      bif (!((D.nth t1 0).bool)) then
        some (0, [D.i 5])
      else
        bif ((Op.bytesLess (((D.nth s9.list s11.int.toNat).at' 0).str) last.str) || ((((D.nth s9.list s11.int.toNat).at' 0).str) == last.str)) then
          some (0, [D.i 7])
        else
          bif (!((D.nth (p_gateref2_in ((D.nth s9.list s11.int.toNat).at' 1) (D.i 1) (D.i 100)) 0).bool)) then
            some (0, [D.i 1])
          else
            rec [(D.nth s9.list s11.int.toNat).at' 0, s9, s10, D.i (IntKind.i64.wrap (s11.int + (1 : Int)))]
    else
      none
  else
    some (1, [])
def c_gateref2_InstancesFault_0 (K : Nat) : Cut := { sh := { sl := [(3, .d 9 true), (9, .d 52 false), (10, .d 3 true), (11, .d 3 true)], ob := [] }, kept := [], outs := [(.ret, { sl := [(2, .d 34 true)], ob := [] }), (.exit 0, { sl := [], ob := [] })], f := fun ds => fixN (b_gateref2_InstancesFault_0 K) K ds }
def f_gateref2_InstancesFault (K : Nat) (l : D) : Option (List D) :=
  bif (gtI (l.list.length : Int) 50) then
    some [D.i 2]
  else
    (fixN (b_gateref2_InstancesFault_0 K) K [D.s [], l, D.i (l.list.length : Int), D.i 0]).bind fun t1 =>
    bif (t1.1.beq 0) then
      some [D.nth t1.2 0]
    else
      some [D.i 0]
def e_gateref2_InstancesFault (K : Nat) : Entry := { n := 1, sh := { sl := [(0, .d 52 false)], ob := [] }, kept := [], rs := [{ sl := [(0, .d 34 true)], ob := [] }], f := fun ds => f_gateref2_InstancesFault K (D.nth ds 0), tot := none }
def T_gateref2_InstancesFault (K : Nat) : Tbl := { T0 with ents := entsOf [(38, e_gateref2_Key K), (42, e_gateref2_in K)], cuts := lk [(0, c_gateref2_InstancesFault_0 K)] }
theorem q_gateref2_InstancesFault_0 (K : Nat) (rec : List D → Option (Nat × List D)) (ds : List D) : evLoop (T_gateref2_InstancesFault K) 33 (sub (codeOf Try.f25) [1, 1, 1, 0, 1, 0, 0]) .go (c_gateref2_InstancesFault_0 K) rec ds = b_gateref2_InstancesFault_0 K rec ds := by kernel_rfl
theorem k_gateref2_InstancesFault_0 (K : Nat) : CutOK Try.prog (T_gateref2_InstancesFault K) 33 (sub (codeOf Try.f25) [1, 1, 1, 0, 1, 0]) (c_gateref2_InstancesFault_0 K) :=
  loop_thm (T := T_gateref2_InstancesFault K) (hT_of hT0 rfl rfl rfl) (hes_ok (T0 := T0) (T := T_gateref2_InstancesFault K) rfl rfl (⟨ok_gateref2_Key K, ok_gateref2_in K, trivial⟩ : FAll Try.prog T0 [(38, e_gateref2_Key K), (42, e_gateref2_in K)])) (by kernel_rfl) rfl rfl rfl (cutsOK_none (by rfl)) rfl (q_gateref2_InstancesFault_0 K)
theorem q_gateref2_InstancesFault (K : Nat) (ds : List D) : evFn (T_gateref2_InstancesFault K) Try.f25 (.seq .go (.seq .go (.seq .go (.seq (.seq .go (.blk (.cut 0))) .go)))) (e_gateref2_InstancesFault K) ds = (e_gateref2_InstancesFault K).f ds := by kernel_rfl
theorem ok_gateref2_InstancesFault (K : Nat) : FnOK Try.prog T0 25 (e_gateref2_InstancesFault K) :=
  fn_thm (T0 := T0) (T := T_gateref2_InstancesFault K) rfl (hT_of hT0 rfl rfl rfl) (hes_ok (T0 := T0) (T := T_gateref2_InstancesFault K) rfl rfl (⟨ok_gateref2_Key K, ok_gateref2_in K, trivial⟩ : FAll Try.prog T0 [(38, e_gateref2_Key K), (42, e_gateref2_in K)])) Try.func25 (by decide) rfl (Nat.le_of_ble_eq_true rfl) rfl rfl rfl (tot_none rfl) (cutsOK_list (l := [(0, sub (codeOf Try.f25) [1, 1, 1, 0, 1, 0])]) (by kernel_rfl) ⟨cut_one (u := c_gateref2_InstancesFault_0 K) rfl (k_gateref2_InstancesFault_0 K), trivial⟩) (q_gateref2_InstancesFault K)
/-! ### 14 gatewarden/gatelaw2.errs -/
def b_gatelaw2_errs_0 (K : Nat) (rec : List D → Option (Nat × List D)) (ds : List D) : Option (Nat × List D) :=
  let s5 := D.nth ds 0
  let s6 := D.nth ds 1
  let s7 := D.nth ds 2
  bif (ltI s7.int s6.int) then
    bif (inB s7.int s5.list.length) then
      bif (((D.nth s5.list s7.int.toNat).int) != (0 : Int)) then
        some (0, [D.nth s5.list s7.int.toNat])
      else
        rec [s5, s6, D.i (IntKind.i64.wrap (s7.int + (1 : Int)))]
    else
      none
  else
    some (1, [])
def c_gatelaw2_errs_0 (K : Nat) : Cut := { sh := { sl := [(5, .d 72 false), (6, .d 3 true), (7, .d 3 true)], ob := [] }, kept := [], outs := [(.ret, { sl := [(2, .d 34 true)], ob := [] }), (.exit 0, { sl := [], ob := [] })], f := fun ds => fixN (b_gatelaw2_errs_0 K) K ds }
def f_gatelaw2_errs (K : Nat) (l : D) : Option (List D) :=
  (fixN (b_gatelaw2_errs_0 K) K [l, D.i (l.list.length : Int), D.i 0]).bind fun t1 =>
  bif (t1.1.beq 0) then
    some [D.nth t1.2 0]
  else
    some [D.i 0]
def e_gatelaw2_errs (K : Nat) : Entry := { n := 1, sh := { sl := [(0, .d 72 false)], ob := [] }, kept := [], rs := [{ sl := [(0, .d 34 true)], ob := [] }], f := fun ds => f_gatelaw2_errs K (D.nth ds 0), tot := none }
def T_gatelaw2_errs (K : Nat) : Tbl := { T0 with ents := entsOf [], cuts := lk [(0, c_gatelaw2_errs_0 K)] }
theorem q_gatelaw2_errs_0 (K : Nat) (rec : List D → Option (Nat × List D)) (ds : List D) : evLoop (T_gatelaw2_errs K) 15 (sub (codeOf Try.f14) [1, 0, 1, 0, 0]) .go (c_gatelaw2_errs_0 K) rec ds = b_gatelaw2_errs_0 K rec ds := by kernel_rfl
theorem k_gatelaw2_errs_0 (K : Nat) : CutOK Try.prog (T_gatelaw2_errs K) 15 (sub (codeOf Try.f14) [1, 0, 1, 0]) (c_gatelaw2_errs_0 K) :=
  loop_thm (T := T_gatelaw2_errs K) (hT_of hT0 rfl rfl rfl) (hes_ok (T0 := T0) (T := T_gatelaw2_errs K) rfl rfl (trivial : FAll Try.prog T0 [])) (by kernel_rfl) rfl rfl rfl (cutsOK_none (by rfl)) rfl (q_gatelaw2_errs_0 K)
theorem q_gatelaw2_errs (K : Nat) (ds : List D) : evFn (T_gatelaw2_errs K) Try.f14 (.seq .go (.seq (.seq .go (.blk (.cut 0))) .go)) (e_gatelaw2_errs K) ds = (e_gatelaw2_errs K).f ds := by kernel_rfl
theorem ok_gatelaw2_errs (K : Nat) : FnOK Try.prog T0 14 (e_gatelaw2_errs K) :=
  fn_thm (T0 := T0) (T := T_gatelaw2_errs K) rfl (hT_of hT0 rfl rfl rfl) (hes_ok (T0 := T0) (T := T_gatelaw2_errs K) rfl rfl (trivial : FAll Try.prog T0 [])) Try.func14 (by decide) rfl (Nat.le_of_ble_eq_true rfl) rfl rfl rfl (tot_none rfl) (cutsOK_list (l := [(0, sub (codeOf Try.f14) [1, 0, 1, 0])]) (by kernel_rfl) ⟨cut_one (u := c_gatelaw2_errs_0 K) rfl (k_gatelaw2_errs_0 K), trivial⟩) (q_gatelaw2_errs K)
/-! ### 26 gatewarden/gateref2.OrderKey -/
def f_gateref2_OrderKey (K : Nat) (key : D) : Option (List D) :=
  bif (!((D.nth (p_gateref2_in (D.i (key.str.length : Int)) (D.i 1) (D.i 40)) 0).bool)) then
    some [D.i 5]
  else
    some [D.i 0]
def e_gateref2_OrderKey (K : Nat) : Entry := { n := 1, sh := { sl := [(0, .d 9 false)], ob := [] }, kept := [], rs := [{ sl := [(0, .d 34 true)], ob := [] }], f := fun ds => f_gateref2_OrderKey K (D.nth ds 0), tot := none }
def T_gateref2_OrderKey (K : Nat) : Tbl := { T0 with ents := entsOf [(42, e_gateref2_in K)], cuts := lk [] }
theorem q_gateref2_OrderKey (K : Nat) (ds : List D) : evFn (T_gateref2_OrderKey K) Try.f26 .go (e_gateref2_OrderKey K) ds = (e_gateref2_OrderKey K).f ds := by kernel_rfl
theorem ok_gateref2_OrderKey (K : Nat) : FnOK Try.prog T0 26 (e_gateref2_OrderKey K) :=
  fn_thm (T0 := T0) (T := T_gateref2_OrderKey K) rfl (hT_of hT0 rfl rfl rfl) (hes_ok (T0 := T0) (T := T_gateref2_OrderKey K) rfl rfl (⟨ok_gateref2_in K, trivial⟩ : FAll Try.prog T0 [(42, e_gateref2_in K)])) Try.func26 (by decide) rfl (Nat.le_of_ble_eq_true rfl) rfl rfl rfl (tot_none rfl) (cutsOK_none (by rfl)) (q_gateref2_OrderKey K)
/-! ### 17 gatewarden/gatelaw2.when -/
def f_gatelaw2_when (K : Nat) (is e : D) : Option (List D) :=
  bif is.bool then
    some [e]
  else
    some [D.i 0]
def e_gatelaw2_when (K : Nat) : Entry := { n := 2, sh := { sl := [(0, .d 4 false), (1, .d 34 false)], ob := [] }, kept := [], rs := [{ sl := [(0, .d 34 true)], ob := [] }], f := fun ds => f_gatelaw2_when K (D.nth ds 0) (D.nth ds 1), tot := none }
def T_gatelaw2_when (K : Nat) : Tbl := { T0 with ents := entsOf [], cuts := lk [] }
theorem q_gatelaw2_when (K : Nat) (ds : List D) : evFn (T_gatelaw2_when K) Try.f17 .go (e_gatelaw2_when K) ds = (e_gatelaw2_when K).f ds := by kernel_rfl
theorem ok_gatelaw2_when (K : Nat) : FnOK Try.prog T0 17 (e_gatelaw2_when K) :=
  fn_thm (T0 := T0) (T := T_gatelaw2_when K) rfl (hT_of hT0 rfl rfl rfl) (hes_ok (T0 := T0) (T := T_gatelaw2_when K) rfl rfl (trivial : FAll Try.prog T0 [])) Try.func17 (by decide) rfl (Nat.le_of_ble_eq_true rfl) rfl rfl rfl (tot_none rfl) (cutsOK_none (by rfl)) (q_gatelaw2_when K)
/-! ### 72 gatewarden/upstream.weights -/
def b_upstream_weights_0 (K : Nat) (rec : List D → Option (Nat × List D)) (ds : List D) : Option (Nat × List D) :=
  let sum := D.nth ds 0
  let s6 := D.nth ds 1
  let s7 := D.nth ds 2
  let s8 := D.nth ds 3
  bif (ltI s8.int s7.int) then
    bif (inB s8.int s6.list.length) then
      rec [D.i (IntKind.i64.wrap (sum.int + (((D.nth s6.list s8.int.toNat).at' 1).int))), s6, s7, D.i (IntKind.i64.wrap (s8.int + (1 : Int)))]
    else
      none
  else
    some (0, [sum])
def c_upstream_weights_0 (K : Nat) : Cut := { sh := { sl := [(3, .d 3 true), (6, .d 52 false), (7, .d 3 true), (8, .d 3 true)], ob := [] }, kept := [], outs := [(.exit 0, { sl := [(3, .d 3 true)], ob := [] })], f := fun ds => fixN (b_upstream_weights_0 K) K ds }
def f_upstream_weights (K : Nat) (l : D) : Option (List D) :=
  (fixN (b_upstream_weights_0 K) K [D.i 0, l, D.i (l.list.length : Int), D.i 0]).bind fun t1 =>
  some [D.nth t1.2 0]
def e_upstream_weights (K : Nat) : Entry := { n := 1, sh := { sl := [(0, .d 52 false)], ob := [] }, kept := [], rs := [{ sl := [(0, .d 3 true)], ob := [] }], f := fun ds => f_upstream_weights K (D.nth ds 0), tot := none }
def T_upstream_weights (K : Nat) : Tbl := { T0 with ents := entsOf [], cuts := lk [(0, c_upstream_weights_0 K)] }
theorem q_upstream_weights_0 (K : Nat) (rec : List D → Option (Nat × List D)) (ds : List D) : evLoop (T_upstream_weights K) 18 (sub (codeOf Try.f72) [1, 1, 0, 1, 0, 0]) .go (c_upstream_weights_0 K) rec ds = b_upstream_weights_0 K rec ds := by kernel_rfl
theorem k_upstream_weights_0 (K : Nat) : CutOK Try.prog (T_upstream_weights K) 18 (sub (codeOf Try.f72) [1, 1, 0, 1, 0]) (c_upstream_weights_0 K) :=
  loop_thm (T := T_upstream_weights K) (hT_of hT0 rfl rfl rfl) (hes_ok (T0 := T0) (T := T_upstream_weights K) rfl rfl (trivial : FAll Try.prog T0 [])) (by kernel_rfl) rfl rfl rfl (cutsOK_none (by rfl)) rfl (q_upstream_weights_0 K)
theorem q_upstream_weights (K : Nat) (ds : List D) : evFn (T_upstream_weights K) Try.f72 (.seq .go (.seq .go (.seq (.seq .go (.blk (.cut 0))) .go))) (e_upstream_weights K) ds = (e_upstream_weights K).f ds := by kernel_rfl
theorem ok_upstream_weights (K : Nat) : FnOK Try.prog T0 72 (e_upstream_weights K) :=
  fn_thm (T0 := T0) (T := T_upstream_weights K) rfl (hT_of hT0 rfl rfl rfl) (hes_ok (T0 := T0) (T := T_upstream_weights K) rfl rfl (trivial : FAll Try.prog T0 [])) Try.func72 (by decide) rfl (Nat.le_of_ble_eq_true rfl) rfl rfl rfl (tot_none rfl) (cutsOK_list (l := [(0, sub (codeOf Try.f72) [1, 1, 0, 1, 0])]) (by kernel_rfl) ⟨cut_one (u := c_upstream_weights_0 K) rfl (k_upstream_weights_0 K), trivial⟩) (q_upstream_weights K)
/-! ### 51 gatewarden/upstream.Round -/
def b_upstream_Round_1 (K : Nat) (rec : List D → Option (Nat × List D)) (ds : List D) : Option (Nat × List D) :=
  let best := D.nth ds 0
  let s31 := D.nth ds 1
  let s32 := D.nth ds 2
  let s33 := D.nth ds 3
  let r0 := D.nth ds 4
  bif (ltI s33.int s32.int) then
    bif (inB s33.int s31.list.length) then
      bif (inB s33.int r0.list.length) then
        bif (inB s33.int r0.list.length) then
          bif (inB s33.int ((D.setNth r0.list s33.int.toNat (D.i (IntKind.i64.wrap (((D.nth r0.list s33.int.toNat).int) + (((D.nth s31.list s33.int.toNat).at' 1).int))))).length)) then
            bif (inB best.int ((D.setNth r0.list s33.int.toNat (D.i (IntKind.i64.wrap (((D.nth r0.list s33.int.toNat).int) + (((D.nth s31.list s33.int.toNat).at' 1).int))))).length)) then
              bif (gtI ((D.nth (D.setNth r0.list s33.int.toNat (D.i (IntKind.i64.wrap (((D.nth r0.list s33.int.toNat).int) + (((D.nth s31.list s33.int.toNat).at' 1).int))))) s33.int.toNat).int) ((D.nth (D.setNth r0.list s33.int.toNat (D.i (IntKind.i64.wrap (((D.nth r0.list s33.int.toNat).int) + (((D.nth s31.list s33.int.toNat).at' 1).int))))) best.int.toNat).int)) then
                rec [s33, s31, s32, D.i (IntKind.i64.wrap (s33.int + (1 : Int))), D.n (D.setNth r0.list s33.int.toNat (D.i (IntKind.i64.wrap (((D.nth r0.list s33.int.toNat).int) + (((D.nth s31.list s33.int.toNat).at' 1).int)))))]
              else
                rec [best, s31, s32, D.i (IntKind.i64.wrap (s33.int + (1 : Int))), D.n (D.setNth r0.list s33.int.toNat (D.i (IntKind.i64.wrap (((D.nth r0.list s33.int.toNat).int) + (((D.nth s31.list s33.int.toNat).at' 1).int)))))]
            else
              none
          else
            none
        else
          none
      else
        none
    else
      none
  else
    some (0, [best, D.n r0.list])
def c_upstream_Round_1 (K : Nat) : Cut := { sh := { sl := [(7, .own 22 0), (10, .d 3 true), (31, .d 52 false), (32, .d 3 true), (33, .d 3 true)], ob := [(0, .row 3 true)] }, kept := [0], outs := [(.exit 2, { sl := [(10, .d 3 true)], ob := [(0, .row 3 true)] })], f := fun ds => fixN (b_upstream_Round_1 K) K ds }
def b_upstream_Round_0 (K : Nat) (rec : List D → Option (Nat × List D)) (ds : List D) : Option (Nat × List D) :=
  let l := D.nth ds 0
  let sum := D.nth ds 1
  let s28 := D.nth ds 2
  let s29 := D.nth ds 3
  let r0 := D.nth ds 4
  let r1 := D.nth ds 5
  bif (ltI s29.int s28.int) then
    (fixN (b_upstream_Round_1 K) K [D.i 0, l, D.i (l.list.length : Int), D.i 0, D.n r0.list]).bind fun t3 =>
    bif (inB ((D.nth t3.2 0).int) (((D.nth t3.2 1).list).length)) then
      bif (inB ((D.nth t3.2 0).int) (((D.nth t3.2 1).list).length)) then
        bif (inB ((D.nth t3.2 0).int) l.list.length) then
          bif (lim (r1.list.length + 1)) then
            rec [l, sum, s28, D.i (IntKind.i64.wrap (s29.int + (1 : Int))), D.n (D.setNth ((D.nth t3.2 1).list) (((D.nth t3.2 0).int).toNat) (D.i (IntKind.i64.wrap (((D.nth ((D.nth t3.2 1).list) (((D.nth t3.2 0).int).toNat)).int) - sum.int)))), D.n (r1.list ++ [(D.nth l.list (((D.nth t3.2 0).int).toNat)).at' 0])]
          else
            none
        else
          none
      else
        none
    else
      none
  else
    some (0, [D.n r0.list, D.n r1.list])
def c_upstream_Round_0 (K : Nat) : Cut := { sh := { sl := [(0, .d 52 false), (7, .own 22 0), (8, .d 3 true), (9, .own 54 1), (28, .d 3 true), (29, .d 3 true)], ob := [(0, .row 3 true), (1, .row 9 true)] }, kept := [0], outs := [(.exit 0, { sl := [(9, .own 54 1)], ob := [(0, .row 3 true), (1, .row 9 true)] })], f := fun ds => fixN (b_upstream_Round_0 K) K ds }
def f_upstream_Round (K : Nat) (l many : D) : Option (List D) :=
  (f_upstream_CheckInstances K l).bind fun t1 =>
  bif (((D.nth t1 0).int) != (0 : Int)) then
    some [D.nth t1 0, D.n []]
  else
    bif (D.nth (p_kit_Outside many (D.i 0) (D.i 2000)) 0).bool then
      some [D.i 1, D.n []]
    else
      bif ((l.list.length : Int) == (0 : Int)) then
        some [D.i 8, D.n []]
      else
        bif ((leI 0 (l.list.length : Int)) && (lim ((l.list.length : Int).toNat))) then
          (f_upstream_weights K l).bind fun t2 =>
          (fixN (b_upstream_Round_0 K) K [l, D.nth t2 0, many, D.i 0, D.n (List.replicate ((l.list.length : Int).toNat) (D.n [])), D.n []]).bind fun t3 =>
          some [D.i 0, D.n ((D.nth t3.2 1).list)]
        else
          none
def e_upstream_Round (K : Nat) : Entry := { n := 2, sh := { sl := [(0, .d 52 false), (1, .d 3 false)], ob := [] }, kept := [], rs := [{ sl := [(0, .tup [.own 54 0, .d 34 true])], ob := [(0, .row 9 true)] }], f := fun ds => f_upstream_Round K (D.nth ds 0) (D.nth ds 1), tot := none }
def T_upstream_Round (K : Nat) : Tbl := { T0 with ents := entsOf [(48, e_upstream_CheckInstances K), (35, e_kit_Outside K), (72, e_upstream_weights K)], cuts := lk [(0, c_upstream_Round_0 K), (1, c_upstream_Round_1 K)] }
theorem q_upstream_Round_1 (K : Nat) (rec : List D → Option (Nat × List D)) (ds : List D) : evLoop (T_upstream_Round K) 74 (sub (codeOf Try.f51) [1, 1, 1, 1, 1, 1, 1, 0, 1, 0, 0, 1, 1, 0, 0, 1, 0, 1, 0, 0]) .go (c_upstream_Round_1 K) rec ds = b_upstream_Round_1 K rec ds := by kernel_rfl
theorem k_upstream_Round_1 (K : Nat) : CutOK Try.prog (T_upstream_Round K) 74 (sub (codeOf Try.f51) [1, 1, 1, 1, 1, 1, 1, 0, 1, 0, 0, 1, 1, 0, 0, 1, 0, 1, 0]) (c_upstream_Round_1 K) :=
  loop_thm (T := T_upstream_Round K) (hT_of hT0 rfl rfl rfl) (hes_ok (T0 := T0) (T := T_upstream_Round K) rfl rfl (⟨ok_upstream_CheckInstances K, ok_kit_Outside K, ok_upstream_weights K, trivial⟩ : FAll Try.prog T0 [(48, e_upstream_CheckInstances K), (35, e_kit_Outside K), (72, e_upstream_weights K)])) (by kernel_rfl) rfl rfl rfl (cutsOK_none (by rfl)) rfl (q_upstream_Round_1 K)
theorem q_upstream_Round_0 (K : Nat) (rec : List D → Option (Nat × List D)) (ds : List D) : evLoop (T_upstream_Round K) 74 (sub (codeOf Try.f51) [1, 1, 1, 1, 1, 1, 1, 0, 1, 0, 0]) (.seq .go (.seq .go (.seq (.blk (.seq .go (.seq (.seq .go (.blk (.cut 1))) .go))) .go))) (c_upstream_Round_0 K) rec ds = b_upstream_Round_0 K rec ds := by kernel_rfl
theorem k_upstream_Round_0 (K : Nat) : CutOK Try.prog (T_upstream_Round K) 74 (sub (codeOf Try.f51) [1, 1, 1, 1, 1, 1, 1, 0, 1, 0]) (c_upstream_Round_0 K) :=
  loop_thm (T := T_upstream_Round K) (hT_of hT0 rfl rfl rfl) (hes_ok (T0 := T0) (T := T_upstream_Round K) rfl rfl (⟨ok_upstream_CheckInstances K, ok_kit_Outside K, ok_upstream_weights K, trivial⟩ : FAll Try.prog T0 [(48, e_upstream_CheckInstances K), (35, e_kit_Outside K), (72, e_upstream_weights K)])) (by kernel_rfl) rfl rfl rfl (cutsOK_list (l := [(1, sub (codeOf Try.f51) [1, 1, 1, 1, 1, 1, 1, 0, 1, 0, 0, 1, 1, 0, 0, 1, 0, 1, 0])]) (by kernel_rfl) ⟨cut_one (u := c_upstream_Round_1 K) rfl (k_upstream_Round_1 K), trivial⟩) rfl (q_upstream_Round_0 K)
theorem q_upstream_Round (K : Nat) (ds : List D) : evFn (T_upstream_Round K) Try.f51 (.seq .go (.seq .go (.seq .go (.seq .go (.seq .go (.seq .go (.seq .go (.seq (.seq .go (.blk (.cut 0))) .go)))))))) (e_upstream_Round K) ds = (e_upstream_Round K).f ds := by kernel_rfl
theorem ok_upstream_Round (K : Nat) : FnOK Try.prog T0 51 (e_upstream_Round K) :=
  fn_thm (T0 := T0) (T := T_upstream_Round K) rfl (hT_of hT0 rfl rfl rfl) (hes_ok (T0 := T0) (T := T_upstream_Round K) rfl rfl (⟨ok_upstream_CheckInstances K, ok_kit_Outside K, ok_upstream_weights K, trivial⟩ : FAll Try.prog T0 [(48, e_upstream_CheckInstances K), (35, e_kit_Outside K), (72, e_upstream_weights K)])) Try.func51 (by decide) rfl (Nat.le_of_ble_eq_true rfl) rfl rfl rfl (tot_none rfl) (cutsOK_list (l := [(0, sub (codeOf Try.f51) [1, 1, 1, 1, 1, 1, 1, 0, 1, 0])]) (by kernel_rfl) ⟨cut_one (u := c_upstream_Round_0 K) rfl (k_upstream_Round_0 K), trivial⟩) (q_upstream_Round K)
/-! ### 28 slices.Equal[[]string,string] -/
def b_slices_Equal_string_0 (K : Nat) (rec : List D → Option (Nat × List D)) (ds : List D) : Option (Nat × List D) :=
  let s1 := D.nth ds 0
  let s2 := D.nth ds 1
  let s12 := D.nth ds 2
  let s13 := D.nth ds 3
  bif (ltI s13.int s12.int) then
    bif (inB s13.int s1.list.length) then
      bif (inB s13.int s2.list.length) then
        bif (!(((D.nth s1.list s13.int.toNat).str) == ((D.nth s2.list s13.int.toNat).str))) then
          some (0, [D.b false])
        else
          rec [s1, s2, s12, D.i (IntKind.i64.wrap (s13.int + (1 : Int)))]
      else
        none
    else
      none
  else
    some (1, [])
def c_slices_Equal_string_0 (K : Nat) : Cut := { sh := { sl := [(0, .d 54 false), (1, .d 54 false), (12, .d 3 true), (13, .d 3 true)], ob := [] }, kept := [], outs := [(.ret, { sl := [(4, .d 4 true)], ob := [] }), (.exit 0, { sl := [], ob := [] })], f := fun ds => fixN (b_slices_Equal_string_0 K) K ds }
def f_slices_Equal_string (K : Nat) (s1 s2 : D) : Option (List D) :=
  bif ((s1.list.length : Int) != (s2.list.length : Int)) then
    some [D.b false]
  else
    (fixN (b_slices_Equal_string_0 K) K [s1, s2, D.i (s1.list.length : Int), D.i 0]).bind fun t1 =>
    bif (t1.1.beq 0) then
      some [D.nth t1.2 0]
    else
      some [D.b true]
def e_slices_Equal_string (K : Nat) : Entry := { n := 2, sh := { sl := [(0, .d 54 false), (1, .d 54 false)], ob := [] }, kept := [], rs := [{ sl := [(0, .d 4 true)], ob := [] }], f := fun ds => f_slices_Equal_string K (D.nth ds 0) (D.nth ds 1), tot := none }
def T_slices_Equal_string (K : Nat) : Tbl := { T0 with ents := entsOf [], cuts := lk [(0, c_slices_Equal_string_0 K)] }
theorem q_slices_Equal_string_0 (K : Nat) (rec : List D → Option (Nat × List D)) (ds : List D) : evLoop (T_slices_Equal_string K) 26 (sub (codeOf Try.f28) [1, 1, 0, 1, 0, 0]) .go (c_slices_Equal_string_0 K) rec ds = b_slices_Equal_string_0 K rec ds := by kernel_rfl
theorem k_slices_Equal_string_0 (K : Nat) : CutOK Try.prog (T_slices_Equal_string K) 26 (sub (codeOf Try.f28) [1, 1, 0, 1, 0]) (c_slices_Equal_string_0 K) :=
  loop_thm (T := T_slices_Equal_string K) (hT_of hT0 rfl rfl rfl) (hes_ok (T0 := T0) (T := T_slices_Equal_string K) rfl rfl (trivial : FAll Try.prog T0 [])) (by kernel_rfl) rfl rfl rfl (cutsOK_none (by rfl)) rfl (q_slices_Equal_string_0 K)
theorem q_slices_Equal_string (K : Nat) (ds : List D) : evFn (T_slices_Equal_string K) Try.f28 (.seq .go (.seq .go (.seq (.seq .go (.blk (.cut 0))) .go))) (e_slices_Equal_string K) ds = (e_slices_Equal_string K).f ds := by kernel_rfl
theorem ok_slices_Equal_string (K : Nat) : FnOK Try.prog T0 28 (e_slices_Equal_string K) :=
  fn_thm (T0 := T0) (T := T_slices_Equal_string K) rfl (hT_of hT0 rfl rfl rfl) (hes_ok (T0 := T0) (T := T_slices_Equal_string K) rfl rfl (trivial : FAll Try.prog T0 [])) Try.func28 (by decide) rfl (Nat.le_of_ble_eq_true rfl) rfl rfl rfl (tot_none rfl) (cutsOK_list (l := [(0, sub (codeOf Try.f28) [1, 1, 0, 1, 0])]) (by kernel_rfl) ⟨cut_one (u := c_slices_Equal_string_0 K) rfl (k_slices_Equal_string_0 K), trivial⟩) (q_slices_Equal_string K)
/-! ### 27 gatewarden/gatelaw2.balanced -/
def f_gatelaw2_balanced (K : Nat) : Option (List D) :=
  (f_upstream_Round K (D.n [D.n [D.s [97], D.i 1], D.n [D.s [98], D.i 2]]) (D.i 3)).bind fun t1 =>
  bif (((D.nth t1 0).int) == (0 : Int)) then
    (f_slices_Equal_string K (D.n ((D.nth t1 1).list)) (D.n [D.s [98], D.s [97], D.s [98]])).bind fun t2 =>
    some [D.b ((D.nth t2 0).bool)]
  else
    some [D.b false]
def e_gatelaw2_balanced (K : Nat) : Entry := { n := 0, sh := { sl := [], ob := [] }, kept := [], rs := [{ sl := [(0, .d 4 true)], ob := [] }], f := fun ds => f_gatelaw2_balanced K, tot := none }
def T_gatelaw2_balanced (K : Nat) : Tbl := { T0 with ents := entsOf [(51, e_upstream_Round K), (28, e_slices_Equal_string K)], cuts := lk [] }
theorem q_gatelaw2_balanced (K : Nat) (ds : List D) : evFn (T_gatelaw2_balanced K) Try.f27 .go (e_gatelaw2_balanced K) ds = (e_gatelaw2_balanced K).f ds := by kernel_rfl
theorem ok_gatelaw2_balanced (K : Nat) : FnOK Try.prog T0 27 (e_gatelaw2_balanced K) :=
  fn_thm (T0 := T0) (T := T_gatelaw2_balanced K) rfl (hT_of hT0 rfl rfl rfl) (hes_ok (T0 := T0) (T := T_gatelaw2_balanced K) rfl rfl (⟨ok_upstream_Round K, ok_slices_Equal_string K, trivial⟩ : FAll Try.prog T0 [(51, e_upstream_Round K), (28, e_slices_Equal_string K)])) Try.func27 (by decide) rfl (Nat.le_of_ble_eq_true rfl) rfl rfl rfl (tot_none rfl) (cutsOK_none (by rfl)) (q_gatelaw2_balanced K)
/-! ### 98 strings.Join -/
def lays_strings_Join_ren : Go.Shelf.Ren := ⟨fun | 156 => 98 | 165 => 79 | 166 => 80 | 169 => 82 | 240 => 103 | 241 => 104 | 276 => 122 | 277 => 123 | n => n, fun | 31 => 54 | 9 => 9 | 3 => 3 | 4 => 4 | 0 => 0 | 20 => 20 | 72 => 107 | 76 => 111 | 70 => 105 | 37 => 92 | 75 => 110 | 127 => 133 | 164 => 147 | 5 => 5 | 80 => 64 | n => n, fun | n => n⟩
theorem lays_strings_Join : Go.Proofs.Lays.n156 Try.prog lays_strings_Join_ren where
  mixed := by kernel_rfl
  f156 := Try.func98.trans (congrArg some (by kernel_rfl))
  f165 := Try.func79.trans (congrArg some (by kernel_rfl))
  f166 := Try.func80.trans (congrArg some (by kernel_rfl))
  f169 := Try.func82.trans (congrArg some (by kernel_rfl))
  f240 := Try.func103.trans (congrArg some (by kernel_rfl))
  f241 := Try.func104.trans (congrArg some (by kernel_rfl))
  f276 := Try.func122.trans (congrArg some (by kernel_rfl))
  f277 := Try.func123.trans (congrArg some (by kernel_rfl))
  t0 := Try.underlying0
  a0 := Try.isAgg0
  z0 := Try.sizeOf0
  v0 := Try.zeroValue0
  t3 := Try.underlying3
  a3 := Try.isAgg3
  z3 := Try.sizeOf3
  v3 := Try.zeroValue3
  t4 := Try.underlying4
  a4 := Try.isAgg4
  z4 := Try.sizeOf4
  v4 := Try.zeroValue4
  t9 := Try.underlying9
  a9 := Try.isAgg9
  z9 := Try.sizeOf9
  v9 := Try.zeroValue9
  t20 := Try.underlying20
  a20 := Try.isAgg20
  z20 := Try.sizeOf20
  v20 := Try.zeroValue20
  t31 := Try.underlying54
  a31 := Try.isAgg54
  z31 := Try.sizeOf54
  v31 := Try.zeroValue54
  t37 := Try.underlying92
  a37 := Try.isAgg92
  z37 := Try.sizeOf92
  v37 := Try.zeroValue92
  t70 := Try.underlying105
  a70 := Try.isAgg105
  z70 := Try.sizeOf105
  v70 := Try.zeroValue105
  t72 := Try.underlying107
  a72 := Try.isAgg107
  z72 := Try.sizeOf107
  v72 := Try.zeroValue107
  t75 := Try.underlying110
  a75 := Try.isAgg110
  z75 := Try.sizeOf110
  v75 := Try.zeroValue110
  t76 := Try.underlying111
  a76 := Try.isAgg111
  z76 := Try.sizeOf111
  v76 := Try.zeroValue111
  t127 := Try.underlying133
  a127 := Try.isAgg133
  z127 := Try.sizeOf133
  v127 := Try.zeroValue133
  t164 := Try.underlying147
  a164 := Try.isAgg147
  z164 := Try.sizeOf147
  v164 := Try.zeroValue147
theorem lays_strings_Join_x : Builder.Extra Try.prog lays_strings_Join_ren where
  sizeBuilder := by kernel_rfl
  liesBuilder := by kernel_rfl
  t5 := Try.underlying5
  a5 := Try.isAgg5
  z5 := Try.sizeOf5
  v5 := Try.zeroValue5
  infoByte := by kernel_rfl
  cellsByte := by kernel_rfl
  sizeByte := by kernel_rfl
  neB5 := by decide
def f_strings_Join (x y : D) : Option (List D) := joinF x y
def e_strings_Join (K : Nat) : Entry := flat2 54 9 9 (fun ds => f_strings_Join (D.nth ds 0) (D.nth ds 1)) none
theorem ok_strings_Join (K : Nat) : FnOK Try.prog T0 98 (e_strings_Join K) :=
  join_ok (T := T0) Try.func98 rfl (by decide) rfl rfl rfl (fun bk o c xs sep w h1 h2 h3 h4 h5 h6 => Any.strings_Join_many lays_strings_Join lays_strings_Join_x bk o c xs sep w h1 h2 h3 h4 h5 h6)
/-! ### 73 gatewarden/gateref2.hashed -/
def b_gateref2_hashed_0 (K : Nat) (rec : List D → Option (Nat × List D)) (ds : List D) : Option (Nat × List D) :=
  let h := D.nth ds 0
  let s := D.nth ds 1
  let s9 := D.nth ds 2
  let s10 := D.nth ds 3
  bif (ltI s10.int s9.int) then
    bif (inB s10.int s.str.length) then
      rec [D.i (IntKind.u64.wrap ((bitsI .xor .u64 h.int (IntKind.u64.wrap (byteAt s.str s10.int.toNat))) * (1099511628211 : Int))), s, s9, D.i (IntKind.i64.wrap (s10.int + (1 : Int)))]
    else
      none
  else
    some (0, [h])
def c_gateref2_hashed_0 (K : Nat) : Cut := { sh := { sl := [(3, .d 94 true), (4, .d 9 true), (9, .d 3 true), (10, .d 3 true)], ob := [] }, kept := [], outs := [(.exit 0, { sl := [(3, .d 94 true)], ob := [] })], f := fun ds => fixN (b_gateref2_hashed_0 K) K ds }
def f_gateref2_hashed (K : Nat) (l : D) : Option (List D) :=
  (f_strings_Join l (D.s [0])).bind fun t1 =>
  (fixN (b_gateref2_hashed_0 K) K [D.i 14695981039346656037, D.nth t1 0, D.i (((D.nth t1 0).str).length : Int), D.i 0]).bind fun t2 =>
  some [D.nth t2.2 0]
def e_gateref2_hashed (K : Nat) : Entry := { n := 1, sh := { sl := [(0, .d 54 false)], ob := [] }, kept := [], rs := [{ sl := [(0, .d 94 true)], ob := [] }], f := fun ds => f_gateref2_hashed K (D.nth ds 0), tot := none }
def T_gateref2_hashed (K : Nat) : Tbl := { T0 with ents := entsOf [(98, e_strings_Join K)], cuts := lk [(0, c_gateref2_hashed_0 K)] }
theorem q_gateref2_hashed_0 (K : Nat) (rec : List D → Option (Nat × List D)) (ds : List D) : evLoop (T_gateref2_hashed K) 22 (sub (codeOf Try.f73) [1, 1, 1, 0, 1, 0, 0]) .go (c_gateref2_hashed_0 K) rec ds = b_gateref2_hashed_0 K rec ds := by kernel_rfl
theorem k_gateref2_hashed_0 (K : Nat) : CutOK Try.prog (T_gateref2_hashed K) 22 (sub (codeOf Try.f73) [1, 1, 1, 0, 1, 0]) (c_gateref2_hashed_0 K) :=
  loop_thm (T := T_gateref2_hashed K) (hT_of hT0 rfl rfl rfl) (hes_ok (T0 := T0) (T := T_gateref2_hashed K) rfl rfl (⟨ok_strings_Join K, trivial⟩ : FAll Try.prog T0 [(98, e_strings_Join K)])) (by kernel_rfl) rfl rfl rfl (cutsOK_none (by rfl)) rfl (q_gateref2_hashed_0 K)
theorem q_gateref2_hashed (K : Nat) (ds : List D) : evFn (T_gateref2_hashed K) Try.f73 (.seq .go (.seq .go (.seq .go (.seq (.seq .go (.blk (.cut 0))) .go)))) (e_gateref2_hashed K) ds = (e_gateref2_hashed K).f ds := by kernel_rfl
theorem ok_gateref2_hashed (K : Nat) : FnOK Try.prog T0 73 (e_gateref2_hashed K) :=
  fn_thm (T0 := T0) (T := T_gateref2_hashed K) rfl (hT_of hT0 rfl rfl rfl) (hes_ok (T0 := T0) (T := T_gateref2_hashed K) rfl rfl (⟨ok_strings_Join K, trivial⟩ : FAll Try.prog T0 [(98, e_strings_Join K)])) Try.func73 (by decide) rfl (Nat.le_of_ble_eq_true rfl) rfl rfl rfl (tot_none rfl) (cutsOK_list (l := [(0, sub (codeOf Try.f73) [1, 1, 1, 0, 1, 0])]) (by kernel_rfl) ⟨cut_one (u := c_gateref2_hashed_0 K) rfl (k_gateref2_hashed_0 K), trivial⟩) (q_gateref2_hashed K)
/-! ### 76 gatewarden/gateref2.sign -/
def f_gateref2_sign (K : Nat) (n : D) : Option (List D) :=
  bif (ltI n.int 0) then
    some [D.i (-1)]
  else
    bif (gtI n.int 0) then
      some [D.i 1]
    else
      some [D.i 0]
def e_gateref2_sign (K : Nat) : Entry := { n := 1, sh := { sl := [(0, .d 3 false)], ob := [] }, kept := [], rs := [{ sl := [(0, .d 3 true)], ob := [] }], f := fun ds => f_gateref2_sign K (D.nth ds 0), tot := none }
def T_gateref2_sign (K : Nat) : Tbl := { T0 with ents := entsOf [], cuts := lk [] }
theorem q_gateref2_sign (K : Nat) (ds : List D) : evFn (T_gateref2_sign K) Try.f76 .go (e_gateref2_sign K) ds = (e_gateref2_sign K).f ds := by kernel_rfl
theorem ok_gateref2_sign (K : Nat) : FnOK Try.prog T0 76 (e_gateref2_sign K) :=
  fn_thm (T0 := T0) (T := T_gateref2_sign K) rfl (hT_of hT0 rfl rfl rfl) (hes_ok (T0 := T0) (T := T_gateref2_sign K) rfl rfl (trivial : FAll Try.prog T0 [])) Try.func76 (by decide) rfl (Nat.le_of_ble_eq_true rfl) rfl rfl rfl (tot_none rfl) (cutsOK_none (by rfl)) (q_gateref2_sign K)
/-! ### 75 gatewarden/gateref2.OrderOf$1 -/
def f_gateref2_OrderOf_1 (K : Nat) (a b r1 : D) : Option (List D) :=
  (f_gateref2_sign K (D.i (IntKind.i64.wrap (((mapGet .str b r1.list).int) - ((mapGet .str a r1.list).int))))).bind fun t1 =>
  some [D.nth t1 0, D.n r1.list]
def e_gateref2_OrderOf_1 (K : Nat) : Entry := { n := 3, sh := { sl := [(0, .d 9 false), (1, .d 9 false), (2, .ptr 93 0 [])], ob := [(0, .box 93 (.own 93 1)), (1, .map 93 true)] }, kept := [0, 1], rs := [{ sl := [(0, .d 3 true)], ob := [(0, .box 93 (.own 93 1)), (1, .map 93 true)] }], f := fun ds => f_gateref2_OrderOf_1 K (D.nth ds 0) (D.nth ds 1) (D.nth ds 2), tot := none }
def T_gateref2_OrderOf_1 (K : Nat) : Tbl := { T0 with ents := entsOf [(76, e_gateref2_sign K)], cuts := lk [] }
theorem q_gateref2_OrderOf_1 (K : Nat) (ds : List D) : evFn (T_gateref2_OrderOf_1 K) Try.f75 .go (e_gateref2_OrderOf_1 K) ds = (e_gateref2_OrderOf_1 K).f ds := by kernel_rfl
theorem ok_gateref2_OrderOf_1 (K : Nat) : FnOK Try.prog T0 75 (e_gateref2_OrderOf_1 K) :=
  fn_thm (T0 := T0) (T := T_gateref2_OrderOf_1 K) rfl (hT_of hT0 rfl rfl rfl) (hes_ok (T0 := T0) (T := T_gateref2_OrderOf_1 K) rfl rfl (⟨ok_gateref2_sign K, trivial⟩ : FAll Try.prog T0 [(76, e_gateref2_sign K)])) Try.func75 (by decide) rfl (Nat.le_of_ble_eq_true rfl) rfl rfl rfl (tot_none rfl) (cutsOK_none (by rfl)) (q_gateref2_OrderOf_1 K)
/-! ### 120 slices.insertionSortCmpFunc[string] -/
def b_slices_insertionSortCmpFunc_string_2 (K : Nat) (ds : List D) : Option (Nat × List D) :=
  let a := D.nth ds 0
  let j := D.nth ds 1
  let r0 := D.nth ds 2
  let r2 := D.nth ds 3
  bif ((!(gtI j.int a.int)) || (inB j.int r0.list.length)) then
    bif ((!(gtI j.int a.int)) || (inB (IntKind.i64.wrap (j.int - (1 : Int))) r0.list.length)) then
      bif (gtI j.int a.int) then
        (f_gateref2_OrderOf_1 K (D.nth r0.list j.int.toNat) (D.nth r0.list ((IntKind.i64.wrap (j.int - (1 : Int))).toNat)) (D.n r2.list)).bind fun t1 =>
        some (0, [D.b (ltI ((D.nth t1 0).int) 0), D.n r0.list, D.n ((D.nth t1 1).list)])
      else
        some (0, [D.b false, D.n r0.list, D.n r2.list])
    else
      none
  else
    none
def c_slices_insertionSortCmpFunc_string_2 (K : Nat) : Cut := { sh := { sl := [(0, .own 54 0), (1, .d 3 true), (3, .fn 75 [.ptr 93 1 []]), (9, .d 3 true)], ob := [(0, .row 9 true), (1, .box 93 (.own 93 2)), (2, .map 93 true)] }, kept := [0, 1, 2], outs := [(.normal, { sl := [(34, .d 4 true)], ob := [(0, .row 9 true), (1, .box 93 (.own 93 2)), (2, .map 93 true)] })], f := b_slices_insertionSortCmpFunc_string_2 K }
def b_slices_insertionSortCmpFunc_string_1 (K : Nat) (rec : List D → Option (Nat × List D)) (ds : List D) : Option (Nat × List D) :=
  let a := D.nth ds 0
  let j := D.nth ds 1
  let r0 := D.nth ds 2
  let r2 := D.nth ds 3
  (b_slices_insertionSortCmpFunc_string_2 K [a, j, D.n r0.list, D.n r2.list]).bind fun t1 =>
  bif (D.nth t1.2 0).bool then
    bif (inB (IntKind.i64.wrap (j.int - (1 : Int))) (((D.nth t1.2 1).list).length)) then
      bif (inB j.int (((D.nth t1.2 1).list).length)) then
        bif (inB j.int (((D.nth t1.2 1).list).length)) then
          bif (inB (IntKind.i64.wrap (j.int - (1 : Int))) ((D.setNth ((D.nth t1.2 1).list) j.int.toNat (D.nth ((D.nth t1.2 1).list) ((IntKind.i64.wrap (j.int - (1 : Int))).toNat))).length)) then
            rec [a, D.i (IntKind.i64.wrap (j.int - (1 : Int))), D.n (D.setNth (D.setNth ((D.nth t1.2 1).list) j.int.toNat (D.nth ((D.nth t1.2 1).list) ((IntKind.i64.wrap (j.int - (1 : Int))).toNat))) ((IntKind.i64.wrap (j.int - (1 : Int))).toNat) (D.nth ((D.nth t1.2 1).list) j.int.toNat)), D.n ((D.nth t1.2 2).list)]
          else
            none
        else
          none
      else
        none
    else
      none
  else
    some (0, [D.n ((D.nth t1.2 1).list), D.n ((D.nth t1.2 2).list)])
def c_slices_insertionSortCmpFunc_string_1 (K : Nat) : Cut := { sh := { sl := [(0, .own 54 0), (1, .d 3 true), (3, .fn 75 [.ptr 93 1 []]), (9, .d 3 true)], ob := [(0, .row 9 true), (1, .box 93 (.own 93 2)), (2, .map 93 true)] }, kept := [0, 1, 2], outs := [(.exit 2, { sl := [], ob := [(0, .row 9 true), (1, .box 93 (.own 93 2)), (2, .map 93 true)] })], f := fun ds => fixN (b_slices_insertionSortCmpFunc_string_1 K) K ds }
def b_slices_insertionSortCmpFunc_string_0 (K : Nat) (rec : List D → Option (Nat × List D)) (ds : List D) : Option (Nat × List D) :=
  let a := D.nth ds 0
  let b := D.nth ds 1
  let i := D.nth ds 2
  let r0 := D.nth ds 3
  let r2 := D.nth ds 4
  bif (ltI i.int b.int) then
    (fixN (b_slices_insertionSortCmpFunc_string_1 K) K [a, i, D.n r0.list, D.n r2.list]).bind fun t1 =>
    rec [a, b, D.i (IntKind.i64.wrap (i.int + (1 : Int))), D.n ((D.nth t1.2 0).list), D.n ((D.nth t1.2 1).list)]
  else
    some (0, [D.n r0.list, D.n r2.list])
def c_slices_insertionSortCmpFunc_string_0 (K : Nat) : Cut := { sh := { sl := [(0, .own 54 0), (1, .d 3 true), (2, .d 3 true), (3, .fn 75 [.ptr 93 1 []]), (8, .d 3 true)], ob := [(0, .row 9 true), (1, .box 93 (.own 93 2)), (2, .map 93 true)] }, kept := [0, 1, 2], outs := [(.exit 0, { sl := [], ob := [(0, .row 9 true), (1, .box 93 (.own 93 2)), (2, .map 93 true)] })], f := fun ds => fixN (b_slices_insertionSortCmpFunc_string_0 K) K ds }
def f_slices_insertionSortCmpFunc_string (K : Nat) (a b r0 r2 : D) : Option (List D) :=
  (fixN (b_slices_insertionSortCmpFunc_string_0 K) K [a, b, D.i (IntKind.i64.wrap (a.int + (1 : Int))), D.n r0.list, D.n r2.list]).bind fun t1 =>
  some [D.n ((D.nth t1.2 0).list), D.n ((D.nth t1.2 1).list)]
def e_slices_insertionSortCmpFunc_string (K : Nat) : Entry := { n := 4, sh := { sl := [(0, .own 54 0), (1, .d 3 false), (2, .d 3 false), (3, .fn 75 [.ptr 93 1 []])], ob := [(0, .row 9 true), (1, .box 93 (.own 93 2)), (2, .map 93 true)] }, kept := [0, 1, 2], rs := [{ sl := [(0, .tup [])], ob := [(0, .row 9 true), (1, .box 93 (.own 93 2)), (2, .map 93 true)] }], f := fun ds => f_slices_insertionSortCmpFunc_string K (D.nth ds 0) (D.nth ds 1) (D.nth ds 2) (D.nth ds 3), tot := none }
def T_slices_insertionSortCmpFunc_string (K : Nat) : Tbl := { T0 with ents := entsOf [(75, e_gateref2_OrderOf_1 K)], cuts := lk [(0, c_slices_insertionSortCmpFunc_string_0 K), (1, c_slices_insertionSortCmpFunc_string_1 K), (2, c_slices_insertionSortCmpFunc_string_2 K)] }
theorem q_slices_insertionSortCmpFunc_string_2 (K : Nat) (ds : List D) : evPiece (T_slices_insertionSortCmpFunc_string K) 53 (sub (codeOf Try.f120) [1, 0, 0, 1, 0, 0, 1, 0, 0, 0, 0]) .go (c_slices_insertionSortCmpFunc_string_2 K) ds = b_slices_insertionSortCmpFunc_string_2 K ds := by kernel_rfl
theorem k_slices_insertionSortCmpFunc_string_2 (K : Nat) : CutOK Try.prog (T_slices_insertionSortCmpFunc_string K) 53 (sub (codeOf Try.f120) [1, 0, 0, 1, 0, 0, 1, 0, 0, 0, 0]) (c_slices_insertionSortCmpFunc_string_2 K) :=
  piece_thm (T := T_slices_insertionSortCmpFunc_string K) (hT_of hT0 rfl rfl rfl) (hes_ok (T0 := T0) (T := T_slices_insertionSortCmpFunc_string K) rfl rfl (⟨ok_gateref2_OrderOf_1 K, trivial⟩ : FAll Try.prog T0 [(75, e_gateref2_OrderOf_1 K)])) rfl rfl rfl (cutsOK_none (by rfl)) (q_slices_insertionSortCmpFunc_string_2 K)
theorem q_slices_insertionSortCmpFunc_string_1 (K : Nat) (rec : List D → Option (Nat × List D)) (ds : List D) : evLoop (T_slices_insertionSortCmpFunc_string K) 53 (sub (codeOf Try.f120) [1, 0, 0, 1, 0, 0, 1, 0, 0]) (.seq (.seq (.cut 2) .go) .go) (c_slices_insertionSortCmpFunc_string_1 K) rec ds = b_slices_insertionSortCmpFunc_string_1 K rec ds := by kernel_rfl
theorem k_slices_insertionSortCmpFunc_string_1 (K : Nat) : CutOK Try.prog (T_slices_insertionSortCmpFunc_string K) 53 (sub (codeOf Try.f120) [1, 0, 0, 1, 0, 0, 1, 0]) (c_slices_insertionSortCmpFunc_string_1 K) :=
  loop_thm (T := T_slices_insertionSortCmpFunc_string K) (hT_of hT0 rfl rfl rfl) (hes_ok (T0 := T0) (T := T_slices_insertionSortCmpFunc_string K) rfl rfl (⟨ok_gateref2_OrderOf_1 K, trivial⟩ : FAll Try.prog T0 [(75, e_gateref2_OrderOf_1 K)])) (by kernel_rfl) rfl rfl rfl (cutsOK_list (l := [(2, sub (codeOf Try.f120) [1, 0, 0, 1, 0, 0, 1, 0, 0, 0, 0])]) (by kernel_rfl) ⟨cut_one (u := c_slices_insertionSortCmpFunc_string_2 K) rfl (k_slices_insertionSortCmpFunc_string_2 K), trivial⟩) rfl (q_slices_insertionSortCmpFunc_string_1 K)
theorem q_slices_insertionSortCmpFunc_string_0 (K : Nat) (rec : List D → Option (Nat × List D)) (ds : List D) : evLoop (T_slices_insertionSortCmpFunc_string K) 53 (sub (codeOf Try.f120) [1, 0, 0]) (.seq .go (.seq (.blk (.seq .go (.blk (.cut 1)))) .go)) (c_slices_insertionSortCmpFunc_string_0 K) rec ds = b_slices_insertionSortCmpFunc_string_0 K rec ds := by kernel_rfl
theorem k_slices_insertionSortCmpFunc_string_0 (K : Nat) : CutOK Try.prog (T_slices_insertionSortCmpFunc_string K) 53 (sub (codeOf Try.f120) [1, 0]) (c_slices_insertionSortCmpFunc_string_0 K) :=
  loop_thm (T := T_slices_insertionSortCmpFunc_string K) (hT_of hT0 rfl rfl rfl) (hes_ok (T0 := T0) (T := T_slices_insertionSortCmpFunc_string K) rfl rfl (⟨ok_gateref2_OrderOf_1 K, trivial⟩ : FAll Try.prog T0 [(75, e_gateref2_OrderOf_1 K)])) (by kernel_rfl) rfl rfl rfl (cutsOK_list (l := [(1, sub (codeOf Try.f120) [1, 0, 0, 1, 0, 0, 1, 0])]) (by kernel_rfl) ⟨cut_one (u := c_slices_insertionSortCmpFunc_string_1 K) rfl (k_slices_insertionSortCmpFunc_string_1 K), trivial⟩) rfl (q_slices_insertionSortCmpFunc_string_0 K)
theorem q_slices_insertionSortCmpFunc_string (K : Nat) (ds : List D) : evFn (T_slices_insertionSortCmpFunc_string K) Try.f120 (.seq .go (.blk (.cut 0))) (e_slices_insertionSortCmpFunc_string K) ds = (e_slices_insertionSortCmpFunc_string K).f ds := by kernel_rfl
theorem ok_slices_insertionSortCmpFunc_string (K : Nat) : FnOK Try.prog T0 120 (e_slices_insertionSortCmpFunc_string K) :=
  fn_thm (T0 := T0) (T := T_slices_insertionSortCmpFunc_string K) rfl (hT_of hT0 rfl rfl rfl) (hes_ok (T0 := T0) (T := T_slices_insertionSortCmpFunc_string K) rfl rfl (⟨ok_gateref2_OrderOf_1 K, trivial⟩ : FAll Try.prog T0 [(75, e_gateref2_OrderOf_1 K)])) Try.func120 (by decide) rfl (Nat.le_of_ble_eq_true rfl) rfl rfl rfl (tot_none rfl) (cutsOK_list (l := [(0, sub (codeOf Try.f120) [1, 0])]) (by kernel_rfl) ⟨cut_one (u := c_slices_insertionSortCmpFunc_string_0 K) rfl (k_slices_insertionSortCmpFunc_string_0 K), trivial⟩) (q_slices_insertionSortCmpFunc_string K)
/-! ### 99 slices.stableCmpFunc[string] -/
def b_slices_stableCmpFunc_string_2 (K : Nat) (rec : List D → Option (Nat × List D)) (ds : List D) : Option (Nat × List D) :=
  let n := D.nth ds 0
  let a := D.nth ds 2
  let b := D.nth ds 3
  let r0 := D.nth ds 4
  let r2 := D.nth ds 5
  bif (leI b.int n.int) then
    none
  else
    some (0, [a, D.n r0.list, D.n r2.list])
def c_slices_stableCmpFunc_string_2 (K : Nat) : Cut := { sh := { sl := [(0, .own 54 0), (1, .d 3 true), (2, .fn 75 [.ptr 93 1 []]), (6, .d 3 true), (7, .d 3 true), (8, .d 3 true)], ob := [(0, .row 9 true), (1, .box 93 (.own 93 2)), (2, .map 93 true)] }, kept := [0, 1, 2], outs := [(.exit 4, { sl := [(7, .d 3 true)], ob := [(0, .row 9 true), (1, .box 93 (.own 93 2)), (2, .map 93 true)] })], f := fun ds => fixN (b_slices_stableCmpFunc_string_2 K) K ds }
def b_slices_stableCmpFunc_string_1 (K : Nat) (rec : List D → Option (Nat × List D)) (ds : List D) : Option (Nat × List D) :=
  let n := D.nth ds 0
  let blockSize := D.nth ds 1
  let r0 := D.nth ds 2
  let r2 := D.nth ds 3
  bif (ltI blockSize.int n.int) then
    (fixN (b_slices_stableCmpFunc_string_2 K) K [n, blockSize, D.i 0, D.i (IntKind.i64.wrap ((2 : Int) * blockSize.int)), D.n r0.list, D.n r2.list]).bind fun t3 =>
    bif (ltI (IntKind.i64.wrap (((D.nth t3.2 0).int) + blockSize.int)) n.int) then
      none
    else
      rec [n, D.i (IntKind.i64.wrap (blockSize.int * (2 : Int))), D.n ((D.nth t3.2 1).list), D.n ((D.nth t3.2 2).list)]
  else
    some (0, [D.n r0.list, D.n r2.list])
def c_slices_stableCmpFunc_string_1 (K : Nat) : Cut := { sh := { sl := [(0, .own 54 0), (1, .d 3 true), (2, .fn 75 [.ptr 93 1 []]), (6, .d 3 true)], ob := [(0, .row 9 true), (1, .box 93 (.own 93 2)), (2, .map 93 true)] }, kept := [0, 1, 2], outs := [(.exit 2, { sl := [], ob := [(0, .row 9 true), (1, .box 93 (.own 93 2)), (2, .map 93 true)] })], f := fun ds => fixN (b_slices_stableCmpFunc_string_1 K) K ds }
def b_slices_stableCmpFunc_string_0 (K : Nat) (rec : List D → Option (Nat × List D)) (ds : List D) : Option (Nat × List D) :=
  let n := D.nth ds 0
  let blockSize := D.nth ds 1
  let a := D.nth ds 2
  let b := D.nth ds 3
  let r0 := D.nth ds 4
  let r2 := D.nth ds 5
  bif (leI b.int n.int) then
    (f_slices_insertionSortCmpFunc_string K a b (D.n r0.list) (D.n r2.list)).bind fun t1 =>
    rec [n, blockSize, b, D.i (IntKind.i64.wrap (b.int + blockSize.int)), D.n ((D.nth t1 0).list), D.n ((D.nth t1 1).list)]
  else
    some (0, [a, D.n r0.list, D.n r2.list])
def c_slices_stableCmpFunc_string_0 (K : Nat) : Cut := { sh := { sl := [(0, .own 54 0), (1, .d 3 true), (2, .fn 75 [.ptr 93 1 []]), (6, .d 3 true), (7, .d 3 true), (8, .d 3 true)], ob := [(0, .row 9 true), (1, .box 93 (.own 93 2)), (2, .map 93 true)] }, kept := [0, 1, 2], outs := [(.exit 0, { sl := [(7, .d 3 true)], ob := [(0, .row 9 true), (1, .box 93 (.own 93 2)), (2, .map 93 true)] })], f := fun ds => fixN (b_slices_stableCmpFunc_string_0 K) K ds }
def f_slices_stableCmpFunc_string (K : Nat) (n r0 r2 : D) : Option (List D) :=
  (fixN (b_slices_stableCmpFunc_string_0 K) K [n, D.i 20, D.i 0, D.i 20, D.n r0.list, D.n r2.list]).bind fun t1 =>
  (f_slices_insertionSortCmpFunc_string K (D.nth t1.2 0) n (D.n ((D.nth t1.2 1).list)) (D.n ((D.nth t1.2 2).list))).bind fun t2 =>
  (fixN (b_slices_stableCmpFunc_string_1 K) K [n, D.i 20, D.n ((D.nth t2 0).list), D.n ((D.nth t2 1).list)]).bind fun t3 =>
  some [D.n ((D.nth t3.2 0).list), D.n ((D.nth t3.2 1).list)]
def e_slices_stableCmpFunc_string (K : Nat) : Entry := { n := 3, sh := { sl := [(0, .own 54 0), (1, .d 3 false), (2, .fn 75 [.ptr 93 1 []])], ob := [(0, .row 9 true), (1, .box 93 (.own 93 2)), (2, .map 93 true)] }, kept := [0, 1, 2], rs := [{ sl := [(0, .tup [])], ob := [(0, .row 9 true), (1, .box 93 (.own 93 2)), (2, .map 93 true)] }], f := fun ds => f_slices_stableCmpFunc_string K (D.nth ds 0) (D.nth ds 1) (D.nth ds 2), tot := none }
def T_slices_stableCmpFunc_string (K : Nat) : Tbl := { T0 with ents := entsOf [(120, e_slices_insertionSortCmpFunc_string K)], cuts := lk [(0, c_slices_stableCmpFunc_string_0 K), (1, c_slices_stableCmpFunc_string_1 K), (2, c_slices_stableCmpFunc_string_2 K)] }
theorem q_slices_stableCmpFunc_string_2 (K : Nat) (rec : List D → Option (Nat × List D)) (ds : List D) : evLoop (T_slices_stableCmpFunc_string K) 63 (sub (codeOf Try.f99) [1, 1, 1, 1, 0, 0, 1, 0, 1, 0, 0, 0]) .go (c_slices_stableCmpFunc_string_2 K) rec ds = b_slices_stableCmpFunc_string_2 K rec ds := by kernel_rfl
theorem k_slices_stableCmpFunc_string_2 (K : Nat) : CutOK Try.prog (T_slices_stableCmpFunc_string K) 63 (sub (codeOf Try.f99) [1, 1, 1, 1, 0, 0, 1, 0, 1, 0, 0]) (c_slices_stableCmpFunc_string_2 K) :=
  loop_thm (T := T_slices_stableCmpFunc_string K) (hT_of hT0 rfl rfl rfl) (hes_ok (T0 := T0) (T := T_slices_stableCmpFunc_string K) rfl rfl (⟨ok_slices_insertionSortCmpFunc_string K, trivial⟩ : FAll Try.prog T0 [(120, e_slices_insertionSortCmpFunc_string K)])) (by kernel_rfl) rfl rfl rfl (cutsOK_none (by rfl)) rfl (q_slices_stableCmpFunc_string_2 K)
theorem q_slices_stableCmpFunc_string_1 (K : Nat) (rec : List D → Option (Nat × List D)) (ds : List D) : evLoop (T_slices_stableCmpFunc_string K) 63 (sub (codeOf Try.f99) [1, 1, 1, 1, 0, 0]) (.seq .go (.blk (.seq .go (.seq (.blk (.cut 2)) .go)))) (c_slices_stableCmpFunc_string_1 K) rec ds = b_slices_stableCmpFunc_string_1 K rec ds := by kernel_rfl
theorem k_slices_stableCmpFunc_string_1 (K : Nat) : CutOK Try.prog (T_slices_stableCmpFunc_string K) 63 (sub (codeOf Try.f99) [1, 1, 1, 1, 0]) (c_slices_stableCmpFunc_string_1 K) :=
  loop_thm (T := T_slices_stableCmpFunc_string K) (hT_of hT0 rfl rfl rfl) (hes_ok (T0 := T0) (T := T_slices_stableCmpFunc_string K) rfl rfl (⟨ok_slices_insertionSortCmpFunc_string K, trivial⟩ : FAll Try.prog T0 [(120, e_slices_insertionSortCmpFunc_string K)])) (by kernel_rfl) rfl rfl rfl (cutsOK_list (l := [(2, sub (codeOf Try.f99) [1, 1, 1, 1, 0, 0, 1, 0, 1, 0, 0])]) (by kernel_rfl) ⟨cut_one (u := c_slices_stableCmpFunc_string_2 K) rfl (k_slices_stableCmpFunc_string_2 K), trivial⟩) rfl (q_slices_stableCmpFunc_string_1 K)
theorem q_slices_stableCmpFunc_string_0 (K : Nat) (rec : List D → Option (Nat × List D)) (ds : List D) : evLoop (T_slices_stableCmpFunc_string K) 63 (sub (codeOf Try.f99) [1, 1, 0, 0, 0]) .go (c_slices_stableCmpFunc_string_0 K) rec ds = b_slices_stableCmpFunc_string_0 K rec ds := by kernel_rfl
theorem k_slices_stableCmpFunc_string_0 (K : Nat) : CutOK Try.prog (T_slices_stableCmpFunc_string K) 63 (sub (codeOf Try.f99) [1, 1, 0, 0]) (c_slices_stableCmpFunc_string_0 K) :=
  loop_thm (T := T_slices_stableCmpFunc_string K) (hT_of hT0 rfl rfl rfl) (hes_ok (T0 := T0) (T := T_slices_stableCmpFunc_string K) rfl rfl (⟨ok_slices_insertionSortCmpFunc_string K, trivial⟩ : FAll Try.prog T0 [(120, e_slices_insertionSortCmpFunc_string K)])) (by kernel_rfl) rfl rfl rfl (cutsOK_none (by rfl)) rfl (q_slices_stableCmpFunc_string_0 K)
theorem q_slices_stableCmpFunc_string (K : Nat) (ds : List D) : evFn (T_slices_stableCmpFunc_string K) Try.f99 (.seq .go (.seq .go (.seq (.blk (.cut 0)) (.seq .go (.blk (.cut 1)))))) (e_slices_stableCmpFunc_string K) ds = (e_slices_stableCmpFunc_string K).f ds := by kernel_rfl
theorem ok_slices_stableCmpFunc_string (K : Nat) : FnOK Try.prog T0 99 (e_slices_stableCmpFunc_string K) :=
  fn_thm (T0 := T0) (T := T_slices_stableCmpFunc_string K) rfl (hT_of hT0 rfl rfl rfl) (hes_ok (T0 := T0) (T := T_slices_stableCmpFunc_string K) rfl rfl (⟨ok_slices_insertionSortCmpFunc_string K, trivial⟩ : FAll Try.prog T0 [(120, e_slices_insertionSortCmpFunc_string K)])) Try.func99 (by decide) rfl (Nat.le_of_ble_eq_true rfl) rfl rfl rfl (tot_none rfl) (cutsOK_list (l := [(0, sub (codeOf Try.f99) [1, 1, 0, 0]), (1, sub (codeOf Try.f99) [1, 1, 1, 1, 0])]) (by kernel_rfl) ⟨cut_one (u := c_slices_stableCmpFunc_string_0 K) rfl (k_slices_stableCmpFunc_string_0 K), cut_one (u := c_slices_stableCmpFunc_string_1 K) rfl (k_slices_stableCmpFunc_string_1 K), trivial⟩) (q_slices_stableCmpFunc_string K)
/-! ### 74 slices.SortStableFunc[[]string,string] -/
def f_slices_SortStableFunc_string (K : Nat) (r0 r2 : D) : Option (List D) :=
  (f_slices_stableCmpFunc_string K (D.i (r0.list.length : Int)) (D.n r0.list) (D.n r2.list)).bind fun t1 =>
  some [D.n ((D.nth t1 0).list), D.n ((D.nth t1 1).list)]
def e_slices_SortStableFunc_string (K : Nat) : Entry := { n := 2, sh := { sl := [(0, .own 54 0), (1, .fn 75 [.ptr 93 1 []])], ob := [(0, .row 9 true), (1, .box 93 (.own 93 2)), (2, .map 93 true)] }, kept := [0, 1, 2], rs := [{ sl := [(0, .tup [])], ob := [(0, .row 9 true), (1, .box 93 (.own 93 2)), (2, .map 93 true)] }], f := fun ds => f_slices_SortStableFunc_string K (D.nth ds 0) (D.nth ds 1), tot := none }
def T_slices_SortStableFunc_string (K : Nat) : Tbl := { T0 with ents := entsOf [(99, e_slices_stableCmpFunc_string K)], cuts := lk [] }
theorem q_slices_SortStableFunc_string (K : Nat) (ds : List D) : evFn (T_slices_SortStableFunc_string K) Try.f74 .go (e_slices_SortStableFunc_string K) ds = (e_slices_SortStableFunc_string K).f ds := by kernel_rfl
theorem ok_slices_SortStableFunc_string (K : Nat) : FnOK Try.prog T0 74 (e_slices_SortStableFunc_string K) :=
  fn_thm (T0 := T0) (T := T_slices_SortStableFunc_string K) rfl (hT_of hT0 rfl rfl rfl) (hes_ok (T0 := T0) (T := T_slices_SortStableFunc_string K) rfl rfl (⟨ok_slices_stableCmpFunc_string K, trivial⟩ : FAll Try.prog T0 [(99, e_slices_stableCmpFunc_string K)])) Try.func74 (by decide) rfl (Nat.le_of_ble_eq_true rfl) rfl rfl rfl (tot_none rfl) (cutsOK_none (by rfl)) (q_slices_SortStableFunc_string K)
/-! ### 52 gatewarden/gateref2.OrderOf -/
def b_gateref2_OrderOf_0 (K : Nat) (rec : List D → Option (Nat × List D)) (ds : List D) : Option (Nat × List D) :=
  let key := D.nth ds 0
  let s11 := D.nth ds 1
  let s12 := D.nth ds 2
  let s13 := D.nth ds 3
  let r1 := D.nth ds 4
  let r2 := D.nth ds 5
  bif (ltI s13.int s12.int) then
    bif (inB s13.int s11.list.length) then
      (f_gateref2_hashed K (D.n [key, (D.nth s11.list s13.int.toNat).at' 0])).bind fun t1 =>
      bif (lim (r2.list.length + 1)) then
        rec [key, s11, s12, D.i (IntKind.i64.wrap (s13.int + (1 : Int))), D.n (mapSet .str ((D.nth s11.list s13.int.toNat).at' 0) (D.i (IntKind.i64.wrap ((IntKind.i64.wrap (Int.tmod (bitsI .xor .u64 ((D.nth t1 0).int) (shr .u64 ((D.nth t1 0).int) 32)) (1000003 : Int))) * (((D.nth s11.list s13.int.toNat).at' 1).int)))) r1.list), D.n (r2.list ++ [(D.nth s11.list s13.int.toNat).at' 0])]
      else
        none
    else
      none
  else
    some (0, [D.n r1.list, D.n r2.list])
def c_gateref2_OrderOf_0 (K : Nat) : Cut := { sh := { sl := [(1, .d 9 true), (5, .ptr 93 0 []), (6, .own 54 2), (11, .d 52 false), (12, .d 3 true), (13, .d 3 true)], ob := [(0, .box 93 (.own 93 1)), (1, .map 93 true), (2, .row 9 true)] }, kept := [0, 1], outs := [(.exit 0, { sl := [(6, .own 54 2)], ob := [(0, .box 93 (.own 93 1)), (1, .map 93 true), (2, .row 9 true)] })], f := fun ds => fixN (b_gateref2_OrderOf_0 K) K ds }
def f_gateref2_OrderOf (K : Nat) (l key : D) : Option (List D) :=
  (fixN (b_gateref2_OrderOf_0 K) K [key, l, D.i (l.list.length : Int), D.i 0, D.n [], D.n []]).bind fun t1 =>
  (f_slices_SortStableFunc_string K (D.n ((D.nth t1.2 1).list)) (D.n ((D.nth t1.2 0).list))).bind fun t2 =>
  some [D.n ((D.nth t2 0).list)]
def e_gateref2_OrderOf (K : Nat) : Entry := { n := 2, sh := { sl := [(0, .d 52 false), (1, .d 9 false)], ob := [] }, kept := [], rs := [{ sl := [(0, .own 54 0)], ob := [(0, .row 9 true)] }], f := fun ds => f_gateref2_OrderOf K (D.nth ds 0) (D.nth ds 1), tot := none }
def T_gateref2_OrderOf (K : Nat) : Tbl := { T0 with ents := entsOf [(73, e_gateref2_hashed K), (74, e_slices_SortStableFunc_string K)], cuts := lk [(0, c_gateref2_OrderOf_0 K)] }
theorem q_gateref2_OrderOf_0 (K : Nat) (rec : List D → Option (Nat × List D)) (ds : List D) : evLoop (T_gateref2_OrderOf K) 45 (sub (codeOf Try.f52) [1, 1, 1, 0, 1, 0, 0]) .go (c_gateref2_OrderOf_0 K) rec ds = b_gateref2_OrderOf_0 K rec ds := by kernel_rfl
theorem k_gateref2_OrderOf_0 (K : Nat) : CutOK Try.prog (T_gateref2_OrderOf K) 45 (sub (codeOf Try.f52) [1, 1, 1, 0, 1, 0]) (c_gateref2_OrderOf_0 K) :=
  loop_thm (T := T_gateref2_OrderOf K) (hT_of hT0 rfl rfl rfl) (hes_ok (T0 := T0) (T := T_gateref2_OrderOf K) rfl rfl (⟨ok_gateref2_hashed K, ok_slices_SortStableFunc_string K, trivial⟩ : FAll Try.prog T0 [(73, e_gateref2_hashed K), (74, e_slices_SortStableFunc_string K)])) (by kernel_rfl) rfl rfl rfl (cutsOK_none (by rfl)) rfl (q_gateref2_OrderOf_0 K)
theorem q_gateref2_OrderOf (K : Nat) (ds : List D) : evFn (T_gateref2_OrderOf K) Try.f52 (.seq .go (.seq .go (.seq .go (.seq (.seq .go (.blk (.cut 0))) .go)))) (e_gateref2_OrderOf K) ds = (e_gateref2_OrderOf K).f ds := by kernel_rfl
theorem ok_gateref2_OrderOf (K : Nat) : FnOK Try.prog T0 52 (e_gateref2_OrderOf K) :=
  fn_thm (T0 := T0) (T := T_gateref2_OrderOf K) rfl (hT_of hT0 rfl rfl rfl) (hes_ok (T0 := T0) (T := T_gateref2_OrderOf K) rfl rfl (⟨ok_gateref2_hashed K, ok_slices_SortStableFunc_string K, trivial⟩ : FAll Try.prog T0 [(73, e_gateref2_hashed K), (74, e_slices_SortStableFunc_string K)])) Try.func52 (by decide) rfl (Nat.le_of_ble_eq_true rfl) rfl rfl rfl (tot_none rfl) (cutsOK_list (l := [(0, sub (codeOf Try.f52) [1, 1, 1, 0, 1, 0])]) (by kernel_rfl) ⟨cut_one (u := c_gateref2_OrderOf_0 K) rfl (k_gateref2_OrderOf_0 K), trivial⟩) (q_gateref2_OrderOf K)
/-! ### 29 gatewarden/gateref2.MovedOf -/
def b_gateref2_MovedOf_0 (K : Nat) (rec : List D → Option (Nat × List D)) (ds : List D) : Option (Nat × List D) :=
  let a := D.nth ds 0
  let b := D.nth ds 1
  let s10 := D.nth ds 2
  let s11 := D.nth ds 3
  let s12 := D.nth ds 4
  let r0 := D.nth ds 5
  bif (ltI s12.int s11.int) then
    bif (inB s12.int s10.list.length) then
      (f_gateref2_OrderOf K a (D.nth s10.list s12.int.toNat)).bind fun t1 =>
      bif (inB 0 (((D.nth t1 0).list).length)) then
        (f_gateref2_OrderOf K b (D.nth s10.list s12.int.toNat)).bind fun t2 =>
        bif (inB 0 (((D.nth t2 0).list).length)) then
          bif (!(((D.nth ((D.nth t1 0).list) 0).str) == ((D.nth ((D.nth t2 0).list) 0).str))) then
            bif (lim (r0.list.length + 1)) then
              rec [a, b, s10, s11, D.i (IntKind.i64.wrap (s12.int + (1 : Int))), D.n (r0.list ++ [D.nth s10.list s12.int.toNat])]
            else
              none
          else
            rec [a, b, s10, s11, D.i (IntKind.i64.wrap (s12.int + (1 : Int))), D.n r0.list]
        else
          none
      else
        none
    else
      none
  else
    some (0, [D.n r0.list])
def c_gateref2_MovedOf_0 (K : Nat) : Cut := { sh := { sl := [(0, .d 52 false), (1, .d 52 false), (7, .own 54 0), (10, .d 54 false), (11, .d 3 true), (12, .d 3 true)], ob := [(0, .row 9 true)] }, kept := [], outs := [(.exit 0, { sl := [(7, .own 54 0)], ob := [(0, .row 9 true)] })], f := fun ds => fixN (b_gateref2_MovedOf_0 K) K ds }
def f_gateref2_MovedOf (K : Nat) (a b keys : D) : Option (List D) :=
  (fixN (b_gateref2_MovedOf_0 K) K [a, b, keys, D.i (keys.list.length : Int), D.i 0, D.n []]).bind fun t1 =>
  some [D.n ((D.nth t1.2 0).list)]
def e_gateref2_MovedOf (K : Nat) : Entry := { n := 3, sh := { sl := [(0, .d 52 false), (1, .d 52 false), (2, .d 54 false)], ob := [] }, kept := [], rs := [{ sl := [(0, .own 54 0)], ob := [(0, .row 9 true)] }], f := fun ds => f_gateref2_MovedOf K (D.nth ds 0) (D.nth ds 1) (D.nth ds 2), tot := none }
def T_gateref2_MovedOf (K : Nat) : Tbl := { T0 with ents := entsOf [(52, e_gateref2_OrderOf K)], cuts := lk [(0, c_gateref2_MovedOf_0 K)] }
theorem q_gateref2_MovedOf_0 (K : Nat) (rec : List D → Option (Nat × List D)) (ds : List D) : evLoop (T_gateref2_MovedOf K) 33 (sub (codeOf Try.f29) [1, 1, 0, 1, 0, 0]) .go (c_gateref2_MovedOf_0 K) rec ds = b_gateref2_MovedOf_0 K rec ds := by kernel_rfl
theorem k_gateref2_MovedOf_0 (K : Nat) : CutOK Try.prog (T_gateref2_MovedOf K) 33 (sub (codeOf Try.f29) [1, 1, 0, 1, 0]) (c_gateref2_MovedOf_0 K) :=
  loop_thm (T := T_gateref2_MovedOf K) (hT_of hT0 rfl rfl rfl) (hes_ok (T0 := T0) (T := T_gateref2_MovedOf K) rfl rfl (⟨ok_gateref2_OrderOf K, trivial⟩ : FAll Try.prog T0 [(52, e_gateref2_OrderOf K)])) (by kernel_rfl) rfl rfl rfl (cutsOK_none (by rfl)) rfl (q_gateref2_MovedOf_0 K)
theorem q_gateref2_MovedOf (K : Nat) (ds : List D) : evFn (T_gateref2_MovedOf K) Try.f29 (.seq .go (.seq .go (.seq (.seq .go (.blk (.cut 0))) .go))) (e_gateref2_MovedOf K) ds = (e_gateref2_MovedOf K).f ds := by kernel_rfl
theorem ok_gateref2_MovedOf (K : Nat) : FnOK Try.prog T0 29 (e_gateref2_MovedOf K) :=
  fn_thm (T0 := T0) (T := T_gateref2_MovedOf K) rfl (hT_of hT0 rfl rfl rfl) (hes_ok (T0 := T0) (T := T_gateref2_MovedOf K) rfl rfl (⟨ok_gateref2_OrderOf K, trivial⟩ : FAll Try.prog T0 [(52, e_gateref2_OrderOf K)])) Try.func29 (by decide) rfl (Nat.le_of_ble_eq_true rfl) rfl rfl rfl (tot_none rfl) (cutsOK_list (l := [(0, sub (codeOf Try.f29) [1, 1, 0, 1, 0])]) (by kernel_rfl) ⟨cut_one (u := c_gateref2_MovedOf_0 K) rfl (k_gateref2_MovedOf_0 K), trivial⟩) (q_gateref2_MovedOf K)
/-! ### 4 gatewarden/gatelaw2.KeysMoved -/
def b_gatelaw2_KeysMoved_3 (K : Nat) (ds : List D) : Option (Nat × List D) :=
  let e := D.nth ds 0
  let fault := D.nth ds 1
  let r0 := D.nth ds 2
  bif (bif (e.int == fault.int) then ((r0.list.length : Int) == (0 : Int)) else false) then
    (f_gatelaw2_balanced K).bind fun t14 =>
    some (0, [D.b ((D.nth t14 0).bool), D.n r0.list])
  else
    some (0, [D.b false, D.n r0.list])
def c_gatelaw2_KeysMoved_3 (K : Nat) : Cut := { sh := { sl := [(7, .own 54 0), (8, .d 34 true), (9, .d 34 true)], ob := [(0, .row 9 true)] }, kept := [0], outs := [(.normal, { sl := [(2, .d 4 true)], ob := [(0, .row 9 true)] })], f := b_gatelaw2_KeysMoved_3 K }
def b_gatelaw2_KeysMoved_2 (K : Nat) (rec : List D → Option (Nat × List D)) (ds : List D) : Option (Nat × List D) :=
  let fault := D.nth ds 0
  let s49 := D.nth ds 1
  let s50 := D.nth ds 2
  let r0 := D.nth ds 3
  bif (ltI s50.int s49.int) then
    bif (inB s50.int r0.list.length) then
      (f_gateref2_OrderKey K (D.nth r0.list s50.int.toNat)).bind fun t11 =>
      (f_gatelaw2_errs K (D.n [fault, D.nth t11 0])).bind fun t12 =>
      rec [D.nth t12 0, s49, D.i (IntKind.i64.wrap (s50.int + (1 : Int))), D.n r0.list]
    else
      none
  else
    some (0, [fault, D.n r0.list])
def c_gatelaw2_KeysMoved_2 (K : Nat) : Cut := { sh := { sl := [(9, .d 34 true), (48, .own 54 0), (49, .d 3 true), (50, .d 3 true)], ob := [(0, .row 9 true)] }, kept := [0], outs := [(.exit 2, { sl := [(9, .d 34 true)], ob := [(0, .row 9 true)] })], f := fun ds => fixN (b_gatelaw2_KeysMoved_2 K) K ds }
def b_gatelaw2_KeysMoved_0 (K : Nat) (rec : List D → Option (Nat × List D)) (ds : List D) : Option (Nat × List D) :=
  let s20 := D.nth ds 0
  let s21 := D.nth ds 1
  let o0 := D.nth ds 2
  let r1 := D.nth ds 3
  bif (ltI s21.int s20.int) then
    (f_gatemake_Stream_Some K o0 (D.n [D.s [107, 49], D.s [107, 50], D.s [107, 51], D.s [117, 115, 101, 114, 45, 55], D.s [122]])).bind fun t4 =>
    bif (lim (r1.list.length + 1)) then
      rec [s20, D.i (IntKind.i64.wrap (s21.int + (1 : Int))), D.nth t4 1, D.n (r1.list ++ [D.nth t4 0])]
    else
      none
  else
    some (0, [o0, D.n r1.list])
def c_gatelaw2_KeysMoved_0 (K : Nat) : Cut := { sh := { sl := [(3, .ptr 25 0 []), (6, .own 54 1), (20, .d 3 true), (21, .d 3 true)], ob := [(0, .box 25 (.d 25 false)), (1, .row 9 true)] }, kept := [0], outs := [(.exit 0, { sl := [(6, .own 54 1)], ob := [(0, .box 25 (.d 25 false)), (1, .row 9 true)] })], f := fun ds => fixN (b_gatelaw2_KeysMoved_0 K) K ds }
def b_gatelaw2_KeysMoved_1 (K : Nat) (ds : List D) : Option (Nat × List D) :=
  let s31 := D.nth ds 0
  let r0 := D.nth ds 1
  bif s31.bool then
    bif (lim (r0.list.length + 1)) then
      some (0, [D.n (r0.list ++ [D.s []])])
    else
      none
  else
    some (0, [D.n r0.list])
def c_gatelaw2_KeysMoved_1 (K : Nat) : Cut := { sh := { sl := [(6, .own 54 0), (31, .d 4 true)], ob := [(0, .row 9 true)] }, kept := [], outs := [(.normal, { sl := [(6, .own 54 0)], ob := [(0, .row 9 true)] })], f := b_gatelaw2_KeysMoved_1 K }
def f_gatelaw2_KeysMoved (K : Nat) (l : D) : Option (List D) :=
  (f_gatemake_Stream_Instances K (D.n [l, D.i 0])).bind fun t1 =>
  (f_gatemake_Stream_Instances K (D.nth t1 0)).bind fun t2 =>
  (f_gatemake_Stream_Range K (D.i 0) (D.i 6) (D.nth t2 0)).bind fun t3 =>
  (fixN (b_gatelaw2_KeysMoved_0 K) K [D.nth t3 0, D.i 0, D.nth t3 1, D.n []]).bind fun t4 =>
  (f_gatemake_Stream_Flip K (D.i 20) (D.nth t4.2 0)).bind fun t5 =>
  (b_gatelaw2_KeysMoved_1 K [D.nth t5 0, D.n ((D.nth t4.2 1).list)]).bind fun t6 =>
  (f_upstream_Moved K (D.n ((D.nth t1 1).list)) (D.n ((D.nth t2 1).list)) (D.n ((D.nth t6.2 0).list))).bind fun t7 =>
  (f_gateref2_InstancesFault K (D.n ((D.nth t1 1).list))).bind fun t8 =>
  (f_gateref2_InstancesFault K (D.n ((D.nth t2 1).list))).bind fun t9 =>
  (f_gatelaw2_errs K (D.n [D.nth t8 0, D.nth t9 0])).bind fun t10 =>
  (fixN (b_gatelaw2_KeysMoved_2 K) K [D.nth t10 0, D.i (((D.nth t6.2 0).list).length : Int), D.i 0, D.n ((D.nth t6.2 0).list)]).bind fun t11 =>
  (f_gatelaw2_when K (D.b (bif ((((D.nth t1 1).list).length : Int) == (0 : Int)) then true else ((((D.nth t2 1).list).length : Int) == (0 : Int)))) (D.i 8)).bind fun t12 =>
  (f_gatelaw2_errs K (D.n [D.nth t11.2 0, D.nth t12 0])).bind fun t13 =>
  bif (((D.nth t13 0).int) != (0 : Int)) then
    (b_gatelaw2_KeysMoved_3 K [D.nth t7 0, D.nth t13 0, D.n ((D.nth t7 1).list)]).bind fun t14 =>
    some [D.nth t14.2 0]
  else
    bif (((D.nth t7 0).int) == (0 : Int)) then
      (f_gateref2_MovedOf K (D.n ((D.nth t1 1).list)) (D.n ((D.nth t2 1).list)) (D.n ((D.nth t11.2 1).list))).bind fun t15 =>
      (f_slices_Equal_string K (D.n ((D.nth t7 1).list)) (D.n ((D.nth t15 0).list))).bind fun t16 =>
      bif (D.nth t16 0).bool then
        (f_gatelaw2_balanced K).bind fun t17 =>
        some [D.b ((D.nth t17 0).bool)]
      else
        some [D.b false]
    else
      some [D.b false]
def e_gatelaw2_KeysMoved (K : Nat) : Entry := { n := 1, sh := { sl := [(0, .d 22 false)], ob := [] }, kept := [], rs := [{ sl := [(0, .d 4 true)], ob := [] }], f := fun ds => f_gatelaw2_KeysMoved K (D.nth ds 0), tot := none }
def T_gatelaw2_KeysMoved (K : Nat) : Tbl := { T0 with ents := entsOf [(21, e_gatemake_Stream_Instances K), (22, e_gatemake_Stream_Range K), (23, e_gatemake_Stream_Some K), (8, e_gatemake_Stream_Flip K), (24, e_upstream_Moved K), (25, e_gateref2_InstancesFault K), (14, e_gatelaw2_errs K), (26, e_gateref2_OrderKey K), (17, e_gatelaw2_when K), (27, e_gatelaw2_balanced K), (29, e_gateref2_MovedOf K), (28, e_slices_Equal_string K)], cuts := lk [(0, c_gatelaw2_KeysMoved_0 K), (1, c_gatelaw2_KeysMoved_1 K), (2, c_gatelaw2_KeysMoved_2 K), (3, c_gatelaw2_KeysMoved_3 K)] }
theorem q_gatelaw2_KeysMoved_3 (K : Nat) (ds : List D) : evPiece (T_gatelaw2_KeysMoved K) 98 (sub (codeOf Try.f4) [1, 1, 1, 1, 1, 1, 1, 1, 1, 0, 1, 1, 0, 0]) .go (c_gatelaw2_KeysMoved_3 K) ds = b_gatelaw2_KeysMoved_3 K ds := by kernel_rfl
theorem k_gatelaw2_KeysMoved_3 (K : Nat) : CutOK Try.prog (T_gatelaw2_KeysMoved K) 98 (sub (codeOf Try.f4) [1, 1, 1, 1, 1, 1, 1, 1, 1, 0, 1, 1, 0, 0]) (c_gatelaw2_KeysMoved_3 K) :=
  piece_thm (T := T_gatelaw2_KeysMoved K) (hT_of hT0 rfl rfl rfl) (hes_ok (T0 := T0) (T := T_gatelaw2_KeysMoved K) rfl rfl (⟨ok_gatemake_Stream_Instances K, ok_gatemake_Stream_Range K, ok_gatemake_Stream_Some K, ok_gatemake_Stream_Flip K, ok_upstream_Moved K, ok_gateref2_InstancesFault K, ok_gatelaw2_errs K, ok_gateref2_OrderKey K, ok_gatelaw2_when K, ok_gatelaw2_balanced K, ok_gateref2_MovedOf K, ok_slices_Equal_string K, trivial⟩ : FAll Try.prog T0 [(21, e_gatemake_Stream_Instances K), (22, e_gatemake_Stream_Range K), (23, e_gatemake_Stream_Some K), (8, e_gatemake_Stream_Flip K), (24, e_upstream_Moved K), (25, e_gateref2_InstancesFault K), (14, e_gatelaw2_errs K), (26, e_gateref2_OrderKey K), (17, e_gatelaw2_when K), (27, e_gatelaw2_balanced K), (29, e_gateref2_MovedOf K), (28, e_slices_Equal_string K)])) rfl rfl rfl (cutsOK_none (by rfl)) (q_gatelaw2_KeysMoved_3 K)
theorem q_gatelaw2_KeysMoved_2 (K : Nat) (rec : List D → Option (Nat × List D)) (ds : List D) : evLoop (T_gatelaw2_KeysMoved K) 98 (sub (codeOf Try.f4) [1, 1, 1, 1, 1, 1, 1, 1, 0, 1, 0, 0]) .go (c_gatelaw2_KeysMoved_2 K) rec ds = b_gatelaw2_KeysMoved_2 K rec ds := by kernel_rfl
theorem k_gatelaw2_KeysMoved_2 (K : Nat) : CutOK Try.prog (T_gatelaw2_KeysMoved K) 98 (sub (codeOf Try.f4) [1, 1, 1, 1, 1, 1, 1, 1, 0, 1, 0]) (c_gatelaw2_KeysMoved_2 K) :=
  loop_thm (T := T_gatelaw2_KeysMoved K) (hT_of hT0 rfl rfl rfl) (hes_ok (T0 := T0) (T := T_gatelaw2_KeysMoved K) rfl rfl (⟨ok_gatemake_Stream_Instances K, ok_gatemake_Stream_Range K, ok_gatemake_Stream_Some K, ok_gatemake_Stream_Flip K, ok_upstream_Moved K, ok_gateref2_InstancesFault K, ok_gatelaw2_errs K, ok_gateref2_OrderKey K, ok_gatelaw2_when K, ok_gatelaw2_balanced K, ok_gateref2_MovedOf K, ok_slices_Equal_string K, trivial⟩ : FAll Try.prog T0 [(21, e_gatemake_Stream_Instances K), (22, e_gatemake_Stream_Range K), (23, e_gatemake_Stream_Some K), (8, e_gatemake_Stream_Flip K), (24, e_upstream_Moved K), (25, e_gateref2_InstancesFault K), (14, e_gatelaw2_errs K), (26, e_gateref2_OrderKey K), (17, e_gatelaw2_when K), (27, e_gatelaw2_balanced K), (29, e_gateref2_MovedOf K), (28, e_slices_Equal_string K)])) (by kernel_rfl) rfl rfl rfl (cutsOK_none (by rfl)) rfl (q_gatelaw2_KeysMoved_2 K)
theorem q_gatelaw2_KeysMoved_0 (K : Nat) (rec : List D → Option (Nat × List D)) (ds : List D) : evLoop (T_gatelaw2_KeysMoved K) 98 (sub (codeOf Try.f4) [1, 1, 1, 1, 0, 1, 0, 0]) .go (c_gatelaw2_KeysMoved_0 K) rec ds = b_gatelaw2_KeysMoved_0 K rec ds := by kernel_rfl
theorem k_gatelaw2_KeysMoved_0 (K : Nat) : CutOK Try.prog (T_gatelaw2_KeysMoved K) 98 (sub (codeOf Try.f4) [1, 1, 1, 1, 0, 1, 0]) (c_gatelaw2_KeysMoved_0 K) :=
  loop_thm (T := T_gatelaw2_KeysMoved K) (hT_of hT0 rfl rfl rfl) (hes_ok (T0 := T0) (T := T_gatelaw2_KeysMoved K) rfl rfl (⟨ok_gatemake_Stream_Instances K, ok_gatemake_Stream_Range K, ok_gatemake_Stream_Some K, ok_gatemake_Stream_Flip K, ok_upstream_Moved K, ok_gateref2_InstancesFault K, ok_gatelaw2_errs K, ok_gateref2_OrderKey K, ok_gatelaw2_when K, ok_gatelaw2_balanced K, ok_gateref2_MovedOf K, ok_slices_Equal_string K, trivial⟩ : FAll Try.prog T0 [(21, e_gatemake_Stream_Instances K), (22, e_gatemake_Stream_Range K), (23, e_gatemake_Stream_Some K), (8, e_gatemake_Stream_Flip K), (24, e_upstream_Moved K), (25, e_gateref2_InstancesFault K), (14, e_gatelaw2_errs K), (26, e_gateref2_OrderKey K), (17, e_gatelaw2_when K), (27, e_gatelaw2_balanced K), (29, e_gateref2_MovedOf K), (28, e_slices_Equal_string K)])) (by kernel_rfl) rfl rfl rfl (cutsOK_none (by rfl)) rfl (q_gatelaw2_KeysMoved_0 K)
theorem q_gatelaw2_KeysMoved_1 (K : Nat) (ds : List D) : evPiece (T_gatelaw2_KeysMoved K) 98 (sub (codeOf Try.f4) [1, 1, 1, 1, 1, 0, 1]) .go (c_gatelaw2_KeysMoved_1 K) ds = b_gatelaw2_KeysMoved_1 K ds := by kernel_rfl
theorem k_gatelaw2_KeysMoved_1 (K : Nat) : CutOK Try.prog (T_gatelaw2_KeysMoved K) 98 (sub (codeOf Try.f4) [1, 1, 1, 1, 1, 0, 1]) (c_gatelaw2_KeysMoved_1 K) :=
  piece_thm (T := T_gatelaw2_KeysMoved K) (hT_of hT0 rfl rfl rfl) (hes_ok (T0 := T0) (T := T_gatelaw2_KeysMoved K) rfl rfl (⟨ok_gatemake_Stream_Instances K, ok_gatemake_Stream_Range K, ok_gatemake_Stream_Some K, ok_gatemake_Stream_Flip K, ok_upstream_Moved K, ok_gateref2_InstancesFault K, ok_gatelaw2_errs K, ok_gateref2_OrderKey K, ok_gatelaw2_when K, ok_gatelaw2_balanced K, ok_gateref2_MovedOf K, ok_slices_Equal_string K, trivial⟩ : FAll Try.prog T0 [(21, e_gatemake_Stream_Instances K), (22, e_gatemake_Stream_Range K), (23, e_gatemake_Stream_Some K), (8, e_gatemake_Stream_Flip K), (24, e_upstream_Moved K), (25, e_gateref2_InstancesFault K), (14, e_gatelaw2_errs K), (26, e_gateref2_OrderKey K), (17, e_gatelaw2_when K), (27, e_gatelaw2_balanced K), (29, e_gateref2_MovedOf K), (28, e_slices_Equal_string K)])) rfl rfl rfl (cutsOK_none (by rfl)) (q_gatelaw2_KeysMoved_1 K)
theorem q_gatelaw2_KeysMoved (K : Nat) (ds : List D) : evFn (T_gatelaw2_KeysMoved K) Try.f4 (.seq .go (.seq .go (.seq .go (.seq .go (.seq (.seq .go (.blk (.cut 0))) (.seq (.seq .go (.cut 1)) (.seq .go (.seq .go (.seq (.seq .go (.blk (.cut 2))) (.seq (.seq .go (.seq .go (.cond (.seq (.cut 3) .go) .go))) .go)))))))))) (e_gatelaw2_KeysMoved K) ds = (e_gatelaw2_KeysMoved K).f ds := by kernel_rfl
theorem ok_gatelaw2_KeysMoved (K : Nat) : FnOK Try.prog T0 4 (e_gatelaw2_KeysMoved K) :=
  fn_thm (T0 := T0) (T := T_gatelaw2_KeysMoved K) rfl (hT_of hT0 rfl rfl rfl) (hes_ok (T0 := T0) (T := T_gatelaw2_KeysMoved K) rfl rfl (⟨ok_gatemake_Stream_Instances K, ok_gatemake_Stream_Range K, ok_gatemake_Stream_Some K, ok_gatemake_Stream_Flip K, ok_upstream_Moved K, ok_gateref2_InstancesFault K, ok_gatelaw2_errs K, ok_gateref2_OrderKey K, ok_gatelaw2_when K, ok_gatelaw2_balanced K, ok_gateref2_MovedOf K, ok_slices_Equal_string K, trivial⟩ : FAll Try.prog T0 [(21, e_gatemake_Stream_Instances K), (22, e_gatemake_Stream_Range K), (23, e_gatemake_Stream_Some K), (8, e_gatemake_Stream_Flip K), (24, e_upstream_Moved K), (25, e_gateref2_InstancesFault K), (14, e_gatelaw2_errs K), (26, e_gateref2_OrderKey K), (17, e_gatelaw2_when K), (27, e_gatelaw2_balanced K), (29, e_gateref2_MovedOf K), (28, e_slices_Equal_string K)])) Try.func4 (by decide) rfl (Nat.le_of_ble_eq_true rfl) rfl rfl rfl (tot_none rfl) (cutsOK_list (l := [(0, sub (codeOf Try.f4) [1, 1, 1, 1, 0, 1, 0]), (1, sub (codeOf Try.f4) [1, 1, 1, 1, 1, 0, 1]), (2, sub (codeOf Try.f4) [1, 1, 1, 1, 1, 1, 1, 1, 0, 1, 0]), (3, sub (codeOf Try.f4) [1, 1, 1, 1, 1, 1, 1, 1, 1, 0, 1, 1, 0, 0])]) (by kernel_rfl) ⟨cut_one (u := c_gatelaw2_KeysMoved_0 K) rfl (k_gatelaw2_KeysMoved_0 K), cut_one (u := c_gatelaw2_KeysMoved_1 K) rfl (k_gatelaw2_KeysMoved_1 K), cut_one (u := c_gatelaw2_KeysMoved_2 K) rfl (k_gatelaw2_KeysMoved_2 K), cut_one (u := c_gatelaw2_KeysMoved_3 K) rfl (k_gatelaw2_KeysMoved_3 K), trivial⟩) (q_gatelaw2_KeysMoved K)
end Go.Proofs.YtkknmomoomjofaaP
