/- Printed by gen.py. -/
import Derived.Test.YtkknmomoomjofaaProg
import Derived.Test.YtkknmomoomjofaaEvKit
import Derived.Test.YtkknmomoomjofaaEvClear
import Derived.Test.YtkknmomoomjofaaEvFlat
import Derived.Test.YtkknmomoomjofaaEvClone
import Derived.Shelf.Slices.Cells
import Derived.Shelf.Strings.Repeat
import Derived.Test.YtkknmomoomjofaaEvComp
import Derived.Test.YtkknmomoomjofaaEvRange
namespace Go.Proofs.YtkknmomoomjofaaP
open Go Go.Ev Go.RowKit Go.Shelf
set_option linter.unusedVariables false
def tys : List (Nat × K) := [(3, .int .i64), (4, .bool), (5, .int .u8), (9, .str), (22, .slice 3 (.int .i64)), (25, .pair 22 (.slice 3 (.int .i64)) (.pair 3 (.int .i64) .unit)), (26, .slice 44 (.pair 9 .str (.pair 9 .str (.pair 3 (.int .i64) (.pair 3 (.int .i64) (.pair 3 (.int .i64) .unit)))))), (31, .pair 3 (.int .i64) (.pair 3 (.int .i64) .unit)), (34, .int .i64), (37, .slice 31 (.pair 3 (.int .i64) (.pair 3 (.int .i64) .unit))), (44, .pair 9 .str (.pair 9 .str (.pair 3 (.int .i64) (.pair 3 (.int .i64) (.pair 3 (.int .i64) .unit))))), (54, .slice 9 .str), (72, .slice 34 (.int .i64)), (87, .int .u64), (92, .slice 5 (.int .u8)), (94, .int .u64), (114, .int .i64), (134, .int .u64)]
def T0 : Tbl := { kd := lk tys, boolT := 4, intT := 3, byteT := 5, frz := fun _ => false, ents := fun _ => [], cuts := fun _ => none }
theorem ty3 : TyOK Try.prog (lk tys) 3 (.int .i64) :=
  tyOK (z := .int .i64 0) (n := 1) (by kernel_rfl) rfl rfl rfl Try.underlying3 rfl (fun _ h => by cases h)
theorem ty4 : TyOK Try.prog (lk tys) 4 .bool :=
  tyOK (z := .bool false) (n := 1) (by kernel_rfl) rfl rfl rfl Try.underlying4 rfl (fun _ h => by cases h)
theorem ty5 : TyOK Try.prog (lk tys) 5 (.int .u8) :=
  tyOK (z := .int .u8 0) (n := 1) (by kernel_rfl) rfl rfl rfl Try.underlying5 rfl (fun _ h => by cases h)
theorem ty9 : TyOK Try.prog (lk tys) 9 .str :=
  tyOK (z := .string ⟨#[]⟩) (n := 1) (by kernel_rfl) rfl rfl rfl Try.underlying9 rfl (fun _ h => by cases h)
theorem ty22 : TyOK Try.prog (lk tys) 22 (.slice 3 (.int .i64)) :=
  tyOK (z := .slice none 0 0) (n := 1) (by kernel_rfl) rfl rfl rfl Try.underlying22 ⟨_, rfl, rfl⟩ (fun _ h => by cases h)
theorem ty25 : TyOK Try.prog (lk tys) 25 (.pair 22 (.slice 3 (.int .i64)) (.pair 3 (.int .i64) .unit)) :=
  tyOK (z := .agg #[.slice none 0 0, .int .i64 0]) (n := 2) (by kernel_rfl) rfl ⟨[.slice none 0 0], [.int .i64 0], rfl, rfl, ⟨[.int .i64 0], [], rfl, rfl, rfl⟩⟩ rfl Try.underlying25 ⟨⟨rfl, rfl, rfl, by decide, ⟨rfl, rfl, rfl, by decide, rfl⟩⟩, rfl⟩ (fun h => by cases h)
theorem ty26 : TyOK Try.prog (lk tys) 26 (.slice 44 (.pair 9 .str (.pair 9 .str (.pair 3 (.int .i64) (.pair 3 (.int .i64) (.pair 3 (.int .i64) .unit)))))) :=
  tyOK (z := .slice none 0 0) (n := 1) (by kernel_rfl) rfl rfl rfl Try.underlying26 ⟨_, rfl, rfl⟩ (fun _ h => by cases h)
theorem ty31 : TyOK Try.prog (lk tys) 31 (.pair 3 (.int .i64) (.pair 3 (.int .i64) .unit)) :=
  tyOK (z := .agg #[.int .i64 0, .int .i64 0]) (n := 2) (by kernel_rfl) rfl ⟨[.int .i64 0], [.int .i64 0], rfl, rfl, ⟨[.int .i64 0], [], rfl, rfl, rfl⟩⟩ rfl Try.underlying31 ⟨⟨rfl, rfl, rfl, by decide, ⟨rfl, rfl, rfl, by decide, rfl⟩⟩, rfl⟩ (fun _ _ => ⟨by kernel_rfl, by kernel_rfl⟩)
theorem ty34 : TyOK Try.prog (lk tys) 34 (.int .i64) :=
  tyOK (z := .int .i64 0) (n := 1) (by kernel_rfl) rfl rfl rfl Try.underlying34 rfl (fun _ h => by cases h)
theorem ty37 : TyOK Try.prog (lk tys) 37 (.slice 31 (.pair 3 (.int .i64) (.pair 3 (.int .i64) .unit))) :=
  tyOK (z := .slice none 0 0) (n := 1) (by kernel_rfl) rfl rfl rfl Try.underlying37 ⟨_, rfl, rfl⟩ (fun _ h => by cases h)
theorem ty44 : TyOK Try.prog (lk tys) 44 (.pair 9 .str (.pair 9 .str (.pair 3 (.int .i64) (.pair 3 (.int .i64) (.pair 3 (.int .i64) .unit))))) :=
  tyOK (z := .agg #[.string ⟨#[]⟩, .string ⟨#[]⟩, .int .i64 0, .int .i64 0, .int .i64 0]) (n := 5) (by kernel_rfl) rfl ⟨[.string ⟨#[]⟩], [.string ⟨#[]⟩, .int .i64 0, .int .i64 0, .int .i64 0], rfl, rfl, ⟨[.string ⟨#[]⟩], [.int .i64 0, .int .i64 0, .int .i64 0], rfl, rfl, ⟨[.int .i64 0], [.int .i64 0, .int .i64 0], rfl, rfl, ⟨[.int .i64 0], [.int .i64 0], rfl, rfl, ⟨[.int .i64 0], [], rfl, rfl, rfl⟩⟩⟩⟩⟩ rfl Try.underlying44 ⟨⟨rfl, rfl, rfl, by decide, ⟨rfl, rfl, rfl, by decide, ⟨rfl, rfl, rfl, by decide, ⟨rfl, rfl, rfl, by decide, ⟨rfl, rfl, rfl, by decide, rfl⟩⟩⟩⟩⟩, rfl⟩ (fun _ _ => ⟨by kernel_rfl, by kernel_rfl⟩)
theorem ty54 : TyOK Try.prog (lk tys) 54 (.slice 9 .str) :=
  tyOK (z := .slice none 0 0) (n := 1) (by kernel_rfl) rfl rfl rfl Try.underlying54 ⟨_, rfl, rfl⟩ (fun _ h => by cases h)
theorem ty72 : TyOK Try.prog (lk tys) 72 (.slice 34 (.int .i64)) :=
  tyOK (z := .slice none 0 0) (n := 1) (by kernel_rfl) rfl rfl rfl Try.underlying72 ⟨_, rfl, rfl⟩ (fun _ h => by cases h)
theorem ty87 : TyOK Try.prog (lk tys) 87 (.int .u64) :=
  tyOK (z := .int .u64 0) (n := 1) (by kernel_rfl) rfl rfl rfl Try.underlying87 rfl (fun _ h => by cases h)
theorem ty92 : TyOK Try.prog (lk tys) 92 (.slice 5 (.int .u8)) :=
  tyOK (z := .slice none 0 0) (n := 1) (by kernel_rfl) rfl rfl rfl Try.underlying92 ⟨_, rfl, rfl⟩ (fun _ h => by cases h)
theorem ty94 : TyOK Try.prog (lk tys) 94 (.int .u64) :=
  tyOK (z := .int .u64 0) (n := 1) (by kernel_rfl) rfl rfl rfl Try.underlying94 rfl (fun _ h => by cases h)
theorem ty114 : TyOK Try.prog (lk tys) 114 (.int .i64) :=
  tyOK (z := .int .i64 0) (n := 1) (by kernel_rfl) rfl rfl rfl Try.underlying114 rfl (fun _ h => by cases h)
theorem ty134 : TyOK Try.prog (lk tys) 134 (.int .u64) :=
  tyOK (z := .int .u64 0) (n := 1) (by kernel_rfl) rfl rfl rfl Try.underlying134 rfl (fun _ h => by cases h)
theorem hT0 : TblOK Try.prog T0 :=
  ⟨AllTy.get (l := tys) ⟨ty3, ty4, ty5, ty9, ty22, ty25, ty26, ty31, ty34, ty37, ty44, ty54, ty72, ty87, ty92, ty94, ty114, ty134, trivial⟩, rfl, rfl, by kernel_rfl⟩
theorem it64 : IterOK Try.prog 64 (.pair 9 .str (.pair 9 .str (.pair 3 (.int .i64) (.pair 3 (.int .i64) (.pair 3 (.int .i64) .unit))))) :=
  back_ok (T := T0) hT0 Try.func64 (ct := 26) (e := 44) rfl rfl rfl rfl
/-! ### 53 gatewarden/gatemake.Below -/
def f_gatemake_Below (K : Nat) (x n : D) : Option (List D) :=
  bif (ltI n.int 1) then
    some [D.i 0]
  else
    bif (!(eqI n.int 0)) then
      bif (ltI (Int.tmod x.int n.int) 0) then
        some [D.i (IntKind.i64.wrap ((Int.tmod x.int n.int) + n.int))]
      else
        some [D.i (Int.tmod x.int n.int)]
    else
      none
def e_gatemake_Below (K : Nat) : Entry := { n := 2, sh := { sl := [(0, .d 3 false), (1, .d 3 false)], ob := [] }, kept := [], rs := [{ sl := [(0, .d 3 true)], ob := [] }], f := fun ds => f_gatemake_Below K (D.nth ds 0) (D.nth ds 1), tot := none }
def T_gatemake_Below (K : Nat) : Tbl := { T0 with ents := entsOf [], cuts := lk [] }
theorem q_gatemake_Below (K : Nat) (ds : List D) : evFn (T_gatemake_Below K) Try.f53 .go (e_gatemake_Below K) ds = (e_gatemake_Below K).f ds := by kernel_rfl
theorem ok_gatemake_Below (K : Nat) : FnOK Try.prog T0 53 (e_gatemake_Below K) :=
  fn_thm (T0 := T0) (T := T_gatemake_Below K) rfl (hT_of hT0 rfl rfl rfl) (hes_ok (T0 := T0) (T := T_gatemake_Below K) rfl rfl (trivial : FAll Try.prog T0 [])) Try.func53 (by decide) rfl (Nat.le_of_ble_eq_true rfl) rfl rfl rfl (tot_none rfl) (cutsOK_none (by rfl)) (q_gatemake_Below K)
/-! ### 31 (*gatewarden/gatemake.Stream).Next -/
def f_gatemake_Stream_Next (K : Nat) (n o0 : D) : Option (List D) :=
  bif ((((o0.at' 0).list).length : Int) == (0 : Int)) then
    (f_gatemake_Below K (D.i (IntKind.i64.wrap ((IntKind.i64.wrap (((o0.at' 1).int) + (1 : Int))) * (7919 : Int)))) n).bind fun t1 =>
    some [D.nth t1 0, D.n [o0.at' 0, D.i (IntKind.i64.wrap (((o0.at' 1).int) + (1 : Int)))]]
  else
    bif (!(eqI (((o0.at' 0).list).length : Int) 0)) then
      bif (!(eqI (((o0.at' 0).list).length : Int) 0)) then
        bif (inB (Int.tmod (IntKind.i64.wrap ((IntKind.i64.wrap (((o0.at' 1).int) + (1 : Int))) - (1 : Int))) (((o0.at' 0).list).length : Int)) (((o0.at' 0).list).length)) then
          (f_gatemake_Below K (D.nth ((o0.at' 0).list) ((Int.tmod (IntKind.i64.wrap ((IntKind.i64.wrap (((o0.at' 1).int) + (1 : Int))) - (1 : Int))) (((o0.at' 0).list).length : Int)).toNat)) (D.i 1073741824)).bind fun t2 =>
          (f_gatemake_Below K (D.i (IntKind.i64.wrap (((D.nth t2 0).int) + (IntKind.i64.wrap ((IntKind.i64.wrap (Int.tdiv (IntKind.i64.wrap ((IntKind.i64.wrap (((o0.at' 1).int) + (1 : Int))) - (1 : Int))) (((o0.at' 0).list).length : Int))) * (IntKind.i64.wrap ((7919 : Int) + (Int.tmod (IntKind.i64.wrap ((IntKind.i64.wrap (((o0.at' 1).int) + (1 : Int))) - (1 : Int))) (((o0.at' 0).list).length : Int))))))))) n).bind fun t3 =>
          some [D.nth t3 0, D.n [o0.at' 0, D.i (IntKind.i64.wrap (((o0.at' 1).int) + (1 : Int)))]]
        else
          none
      else
        none
    else
      none
def e_gatemake_Stream_Next (K : Nat) : Entry := { n := 2, sh := { sl := [(0, .ptr 25 0 []), (1, .d 3 false)], ob := [(0, .box 25 (.d 25 false))] }, kept := [0], rs := [{ sl := [(0, .d 3 true)], ob := [(0, .box 25 (.d 25 false))] }], f := fun ds => f_gatemake_Stream_Next K (D.nth ds 0) (D.nth ds 1), tot := none }
def T_gatemake_Stream_Next (K : Nat) : Tbl := { T0 with ents := entsOf [(53, e_gatemake_Below K)], cuts := lk [] }
theorem q_gatemake_Stream_Next (K : Nat) (ds : List D) : evFn (T_gatemake_Stream_Next K) Try.f31 .go (e_gatemake_Stream_Next K) ds = (e_gatemake_Stream_Next K).f ds := by kernel_rfl
theorem ok_gatemake_Stream_Next (K : Nat) : FnOK Try.prog T0 31 (e_gatemake_Stream_Next K) :=
  fn_thm (T0 := T0) (T := T_gatemake_Stream_Next K) rfl (hT_of hT0 rfl rfl rfl) (hes_ok (T0 := T0) (T := T_gatemake_Stream_Next K) rfl rfl (⟨ok_gatemake_Below K, trivial⟩ : FAll Try.prog T0 [(53, e_gatemake_Below K)])) Try.func31 (by decide) rfl (Nat.le_of_ble_eq_true rfl) rfl rfl rfl (tot_none rfl) (cutsOK_none (by rfl)) (q_gatemake_Stream_Next K)
/-! ### 22 (*gatewarden/gatemake.Stream).Range -/
def f_gatemake_Stream_Range (K : Nat) (low high o0 : D) : Option (List D) :=
  bif (ltI high.int low.int) then
    some [low, o0]
  else
    (f_gatemake_Stream_Next K (D.i (IntKind.i64.wrap ((IntKind.i64.wrap (high.int - low.int)) + (1 : Int)))) o0).bind fun t1 =>
    some [D.i (IntKind.i64.wrap (low.int + ((D.nth t1 0).int))), D.nth t1 1]
def e_gatemake_Stream_Range (K : Nat) : Entry := { n := 3, sh := { sl := [(0, .ptr 25 0 []), (1, .d 3 false), (2, .d 3 false)], ob := [(0, .box 25 (.d 25 false))] }, kept := [0], rs := [{ sl := [(0, .d 3 true)], ob := [(0, .box 25 (.d 25 false))] }], f := fun ds => f_gatemake_Stream_Range K (D.nth ds 0) (D.nth ds 1) (D.nth ds 2), tot := none }
def T_gatemake_Stream_Range (K : Nat) : Tbl := { T0 with ents := entsOf [(31, e_gatemake_Stream_Next K)], cuts := lk [] }
theorem q_gatemake_Stream_Range (K : Nat) (ds : List D) : evFn (T_gatemake_Stream_Range K) Try.f22 .go (e_gatemake_Stream_Range K) ds = (e_gatemake_Stream_Range K).f ds := by kernel_rfl
theorem ok_gatemake_Stream_Range (K : Nat) : FnOK Try.prog T0 22 (e_gatemake_Stream_Range K) :=
  fn_thm (T0 := T0) (T := T_gatemake_Stream_Range K) rfl (hT_of hT0 rfl rfl rfl) (hes_ok (T0 := T0) (T := T_gatemake_Stream_Range K) rfl rfl (⟨ok_gatemake_Stream_Next K, trivial⟩ : FAll Try.prog T0 [(31, e_gatemake_Stream_Next K)])) Try.func22 (by decide) rfl (Nat.le_of_ble_eq_true rfl) rfl rfl rfl (tot_none rfl) (cutsOK_none (by rfl)) (q_gatemake_Stream_Range K)
/-! ### 7 (*gatewarden/gatemake.Stream).Pick -/
def f_gatemake_Stream_Pick (K : Nat) (o0 r1 : D) : Option (List D) :=
  (f_gatemake_Stream_Next K (D.i (r1.list.length : Int)) o0).bind fun t1 =>
  bif (inB ((D.nth t1 0).int) r1.list.length) then
    some [D.nth r1.list (((D.nth t1 0).int).toNat), D.nth t1 1, D.n r1.list]
  else
    none
def e_gatemake_Stream_Pick (K : Nat) : Entry := { n := 2, sh := { sl := [(0, .ptr 25 0 []), (1, .own 22 1)], ob := [(0, .box 25 (.d 25 false)), (1, .row 3 true)] }, kept := [0, 1], rs := [{ sl := [(0, .d 3 true)], ob := [(0, .box 25 (.d 25 false)), (1, .row 3 true)] }], f := fun ds => f_gatemake_Stream_Pick K (D.nth ds 0) (D.nth ds 1), tot := none }
def T_gatemake_Stream_Pick (K : Nat) : Tbl := { T0 with ents := entsOf [(31, e_gatemake_Stream_Next K)], cuts := lk [] }
theorem q_gatemake_Stream_Pick (K : Nat) (ds : List D) : evFn (T_gatemake_Stream_Pick K) Try.f7 .go (e_gatemake_Stream_Pick K) ds = (e_gatemake_Stream_Pick K).f ds := by kernel_rfl
theorem ok_gatemake_Stream_Pick (K : Nat) : FnOK Try.prog T0 7 (e_gatemake_Stream_Pick K) :=
  fn_thm (T0 := T0) (T := T_gatemake_Stream_Pick K) rfl (hT_of hT0 rfl rfl rfl) (hes_ok (T0 := T0) (T := T_gatemake_Stream_Pick K) rfl rfl (⟨ok_gatemake_Stream_Next K, trivial⟩ : FAll Try.prog T0 [(31, e_gatemake_Stream_Next K)])) Try.func7 (by decide) rfl (Nat.le_of_ble_eq_true rfl) rfl rfl rfl (tot_none rfl) (cutsOK_none (by rfl)) (q_gatemake_Stream_Pick K)
/-! ### 23 (*gatewarden/gatemake.Stream).Some -/
def f_gatemake_Stream_Some (K : Nat) (o0 r1 : D) : Option (List D) :=
  (f_gatemake_Stream_Next K (D.i (r1.list.length : Int)) o0).bind fun t1 =>
  bif (inB ((D.nth t1 0).int) r1.list.length) then
    some [D.nth r1.list (((D.nth t1 0).int).toNat), D.nth t1 1, D.n r1.list]
  else
    none
def e_gatemake_Stream_Some (K : Nat) : Entry := { n := 2, sh := { sl := [(0, .ptr 25 0 []), (1, .own 54 1)], ob := [(0, .box 25 (.d 25 false)), (1, .row 9 true)] }, kept := [0, 1], rs := [{ sl := [(0, .d 9 true)], ob := [(0, .box 25 (.d 25 false)), (1, .row 9 true)] }], f := fun ds => f_gatemake_Stream_Some K (D.nth ds 0) (D.nth ds 1), tot := none }
def T_gatemake_Stream_Some (K : Nat) : Tbl := { T0 with ents := entsOf [(31, e_gatemake_Stream_Next K)], cuts := lk [] }
theorem q_gatemake_Stream_Some (K : Nat) (ds : List D) : evFn (T_gatemake_Stream_Some K) Try.f23 .go (e_gatemake_Stream_Some K) ds = (e_gatemake_Stream_Some K).f ds := by kernel_rfl
theorem ok_gatemake_Stream_Some (K : Nat) : FnOK Try.prog T0 23 (e_gatemake_Stream_Some K) :=
  fn_thm (T0 := T0) (T := T_gatemake_Stream_Some K) rfl (hT_of hT0 rfl rfl rfl) (hes_ok (T0 := T0) (T := T_gatemake_Stream_Some K) rfl rfl (⟨ok_gatemake_Stream_Next K, trivial⟩ : FAll Try.prog T0 [(31, e_gatemake_Stream_Next K)])) Try.func23 (by decide) rfl (Nat.le_of_ble_eq_true rfl) rfl rfl rfl (tot_none rfl) (cutsOK_none (by rfl)) (q_gatemake_Stream_Some K)
/-! ### 30 (*gatewarden/gatemake.Stream).RightSigners -/
def b_gatemake_Stream_RightSigners_0 (K : Nat) (rec : List D → Option (Nat × List D)) (ds : List D) : Option (Nat × List D) :=
  let vfrom := D.nth ds 0
  let s12 := D.nth ds 1
  let s13 := D.nth ds 2
  let o0 := D.nth ds 3
  let r1 := D.nth ds 4
  let r2 := D.nth ds 5
  bif (ltI s13.int s12.int) then
    bif (inB s13.int r1.list.length) then
      (f_gatemake_Stream_Pick K o0 (D.n [D.i 0, D.i 10, D.i 50, D.i 100])).bind fun t2 =>
      (f_gatemake_Stream_Some K (D.nth t2 1) (D.n [D.s [111, 110, 101], D.s [116, 119, 111], D.s [107, 33]])).bind fun t3 =>
      (f_gatemake_Stream_Pick K (D.nth t3 1) (D.n [D.i 0, D.i 10, D.i 100, D.i 200])).bind fun t4 =>
      (f_gatemake_Stream_Pick K (D.nth t4 1) (D.n [D.i 0, D.i 5, D.i 100, D.i 1000])).bind fun t5 =>
      bif (lim (r2.list.length + 1)) then
        rec [D.i (IntKind.i64.wrap (vfrom.int + ((D.nth t2 0).int))), s12, D.i (IntKind.i64.wrap (s13.int + (1 : Int))), D.nth t5 1, D.n r1.list, D.n (r2.list ++ [D.n [D.nth r1.list s13.int.toNat, D.nth t3 0, D.i (IntKind.i64.wrap (vfrom.int + ((D.nth t2 0).int))), D.i (IntKind.i64.wrap ((IntKind.i64.wrap (vfrom.int + ((D.nth t2 0).int))) + ((D.nth t4 0).int))), D.i (IntKind.i64.wrap ((IntKind.i64.wrap ((IntKind.i64.wrap (vfrom.int + ((D.nth t2 0).int))) + ((D.nth t4 0).int))) + ((D.nth t5 0).int)))]])]
      else
        none
    else
      none
  else
    some (0, [o0, D.n r1.list, D.n r2.list])
def c_gatemake_Stream_RightSigners_0 (K : Nat) : Cut := { sh := { sl := [(0, .ptr 25 0 []), (3, .own 26 2), (4, .d 3 true), (11, .own 54 1), (12, .d 3 true), (13, .d 3 true)], ob := [(0, .box 25 (.d 25 false)), (1, .row 9 true), (2, .row 44 true)] }, kept := [0, 1], outs := [(.exit 0, { sl := [(3, .own 26 2)], ob := [(0, .box 25 (.d 25 false)), (1, .row 9 true), (2, .row 44 true)] })], f := fun ds => fixN (b_gatemake_Stream_RightSigners_0 K) K ds }
def f_gatemake_Stream_RightSigners (K : Nat) (o0 : D) : Option (List D) :=
  (f_gatemake_Stream_Range K (D.i 0) (D.i 3) o0).bind fun t1 =>
  bif (inB ((D.nth t1 0).int) (3 + 1)) then
    (fixN (b_gatemake_Stream_RightSigners_0 K) K [D.i 0, D.i (([D.s [115, 49], D.s [115, 50], D.s [115, 51]].take (((D.nth t1 0).int).toNat)).length : Int), D.i 0, D.nth t1 1, D.n ([D.s [115, 49], D.s [115, 50], D.s [115, 51]].take (((D.nth t1 0).int).toNat)), D.n []]).bind fun t2 =>
    some [D.nth t2.2 0, D.n ((D.nth t2.2 2).list)]
  else
    none
def e_gatemake_Stream_RightSigners (K : Nat) : Entry := { n := 1, sh := { sl := [(0, .ptr 25 0 [])], ob := [(0, .box 25 (.d 25 false))] }, kept := [0], rs := [{ sl := [(0, .own 26 1)], ob := [(0, .box 25 (.d 25 false)), (1, .row 44 true)] }], f := fun ds => f_gatemake_Stream_RightSigners K (D.nth ds 0), tot := none }
def T_gatemake_Stream_RightSigners (K : Nat) : Tbl := { T0 with ents := entsOf [(22, e_gatemake_Stream_Range K), (7, e_gatemake_Stream_Pick K), (23, e_gatemake_Stream_Some K)], cuts := lk [(0, c_gatemake_Stream_RightSigners_0 K)] }
theorem q_gatemake_Stream_RightSigners_0 (K : Nat) (rec : List D → Option (Nat × List D)) (ds : List D) : evLoop (T_gatemake_Stream_RightSigners K) 47 (sub (codeOf Try.f30) [1, 1, 1, 0, 1, 0, 0]) .go (c_gatemake_Stream_RightSigners_0 K) rec ds = b_gatemake_Stream_RightSigners_0 K rec ds := by kernel_rfl
theorem k_gatemake_Stream_RightSigners_0 (K : Nat) : CutOK Try.prog (T_gatemake_Stream_RightSigners K) 47 (sub (codeOf Try.f30) [1, 1, 1, 0, 1, 0]) (c_gatemake_Stream_RightSigners_0 K) :=
  loop_thm (T := T_gatemake_Stream_RightSigners K) (hT_of hT0 rfl rfl rfl) (hes_ok (T0 := T0) (T := T_gatemake_Stream_RightSigners K) rfl rfl (⟨ok_gatemake_Stream_Range K, ok_gatemake_Stream_Pick K, ok_gatemake_Stream_Some K, trivial⟩ : FAll Try.prog T0 [(22, e_gatemake_Stream_Range K), (7, e_gatemake_Stream_Pick K), (23, e_gatemake_Stream_Some K)])) (by kernel_rfl) rfl rfl rfl (cutsOK_none (by rfl)) rfl (q_gatemake_Stream_RightSigners_0 K)
theorem q_gatemake_Stream_RightSigners (K : Nat) (ds : List D) : evFn (T_gatemake_Stream_RightSigners K) Try.f30 (.seq .go (.seq .go (.seq .go (.seq (.seq .go (.blk (.cut 0))) .go)))) (e_gatemake_Stream_RightSigners K) ds = (e_gatemake_Stream_RightSigners K).f ds := by kernel_rfl
theorem ok_gatemake_Stream_RightSigners (K : Nat) : FnOK Try.prog T0 30 (e_gatemake_Stream_RightSigners K) :=
  fn_thm (T0 := T0) (T := T_gatemake_Stream_RightSigners K) rfl (hT_of hT0 rfl rfl rfl) (hes_ok (T0 := T0) (T := T_gatemake_Stream_RightSigners K) rfl rfl (⟨ok_gatemake_Stream_Range K, ok_gatemake_Stream_Pick K, ok_gatemake_Stream_Some K, trivial⟩ : FAll Try.prog T0 [(22, e_gatemake_Stream_Range K), (7, e_gatemake_Stream_Pick K), (23, e_gatemake_Stream_Some K)])) Try.func30 (by decide) rfl (Nat.le_of_ble_eq_true rfl) rfl rfl rfl (tot_none rfl) (cutsOK_list (l := [(0, sub (codeOf Try.f30) [1, 1, 1, 0, 1, 0])]) (by kernel_rfl) ⟨cut_one (u := c_gatemake_Stream_RightSigners_0 K) rfl (k_gatemake_Stream_RightSigners_0 K), trivial⟩) (q_gatemake_Stream_RightSigners K)
/-! ### 8 (*gatewarden/gatemake.Stream).Flip -/
def f_gatemake_Stream_Flip (K : Nat) (n o0 : D) : Option (List D) :=
  (f_gatemake_Stream_Next K n o0).bind fun t1 =>
  some [D.b (((D.nth t1 0).int) == (0 : Int)), D.nth t1 1]
def e_gatemake_Stream_Flip (K : Nat) : Entry := { n := 2, sh := { sl := [(0, .ptr 25 0 []), (1, .d 3 false)], ob := [(0, .box 25 (.d 25 false))] }, kept := [0], rs := [{ sl := [(0, .d 4 true)], ob := [(0, .box 25 (.d 25 false))] }], f := fun ds => f_gatemake_Stream_Flip K (D.nth ds 0) (D.nth ds 1), tot := none }
def T_gatemake_Stream_Flip (K : Nat) : Tbl := { T0 with ents := entsOf [(31, e_gatemake_Stream_Next K)], cuts := lk [] }
theorem q_gatemake_Stream_Flip (K : Nat) (ds : List D) : evFn (T_gatemake_Stream_Flip K) Try.f8 .go (e_gatemake_Stream_Flip K) ds = (e_gatemake_Stream_Flip K).f ds := by kernel_rfl
theorem ok_gatemake_Stream_Flip (K : Nat) : FnOK Try.prog T0 8 (e_gatemake_Stream_Flip K) :=
  fn_thm (T0 := T0) (T := T_gatemake_Stream_Flip K) rfl (hT_of hT0 rfl rfl rfl) (hes_ok (T0 := T0) (T := T_gatemake_Stream_Flip K) rfl rfl (⟨ok_gatemake_Stream_Next K, trivial⟩ : FAll Try.prog T0 [(31, e_gatemake_Stream_Next K)])) Try.func8 (by decide) rfl (Nat.le_of_ble_eq_true rfl) rfl rfl rfl (tot_none rfl) (cutsOK_none (by rfl)) (q_gatemake_Stream_Flip K)
/-! ### 54 strings.Repeat -/
def lays_strings_Repeat_ren : Go.Shelf.Ren := ⟨fun | 105 => 54 | 212 => 77 | 99 => 78 | 165 => 79 | 166 => 80 | 170 => 81 | 169 => 82 | 263 => 100 | 264 => 101 | 206 => 102 | 240 => 103 | 241 => 104 | 276 => 122 | 277 => 123 | n => n, fun | 9 => 9 | 3 => 3 | 4 => 4 | 20 => 20 | 0 => 0 | 46 => 87 | 109 => 103 | 5 => 5 | 72 => 107 | 76 => 111 | 51 => 123 | 146 => 129 | 53 => 94 | 148 => 131 | 70 => 105 | 37 => 92 | 75 => 110 | 127 => 133 | 164 => 147 | 80 => 64 | n => n, fun | n => n⟩
theorem lays_strings_Repeat : Go.Proofs.Lays.n105 Try.prog lays_strings_Repeat_ren where
  mixed := by kernel_rfl
  f99 := Try.func78.trans (congrArg some (by kernel_rfl))
  f105 := Try.func54.trans (congrArg some (by kernel_rfl))
  f165 := Try.func79.trans (congrArg some (by kernel_rfl))
  f166 := Try.func80.trans (congrArg some (by kernel_rfl))
  f169 := Try.func82.trans (congrArg some (by kernel_rfl))
  f170 := Try.func81.trans (congrArg some (by kernel_rfl))
  f206 := Try.func102.trans (congrArg some (by kernel_rfl))
  f212 := Try.func77.trans (congrArg some (by kernel_rfl))
  f240 := Try.func103.trans (congrArg some (by kernel_rfl))
  f241 := Try.func104.trans (congrArg some (by kernel_rfl))
  f263 := Try.func100.trans (congrArg some (by kernel_rfl))
  f264 := Try.func101.trans (congrArg some (by kernel_rfl))
  f276 := Try.func122.trans (congrArg some (by kernel_rfl))
  f277 := Try.func123.trans (congrArg some (by kernel_rfl))
  t0 := Try.underlying0
  a0 := Try.isAgg0
  z0 := Try.sizeOf0
  v0 := Try.zeroValue0
  t3 := Try.underlying3
  a3 := Try.isAgg3
  z3 := Try.sizeOf3
  v3 := Try.zeroValue3
  t4 := Try.underlying4
  a4 := Try.isAgg4
  z4 := Try.sizeOf4
  v4 := Try.zeroValue4
  t5 := Try.underlying5
  a5 := Try.isAgg5
  z5 := Try.sizeOf5
  v5 := Try.zeroValue5
  t9 := Try.underlying9
  a9 := Try.isAgg9
  z9 := Try.sizeOf9
  v9 := Try.zeroValue9
  t20 := Try.underlying20
  a20 := Try.isAgg20
  z20 := Try.sizeOf20
  v20 := Try.zeroValue20
  t37 := Try.underlying92
  a37 := Try.isAgg92
  z37 := Try.sizeOf92
  v37 := Try.zeroValue92
  t46 := Try.underlying87
  a46 := Try.isAgg87
  z46 := Try.sizeOf87
  v46 := Try.zeroValue87
  t51 := Try.underlying123
  a51 := Try.isAgg123
  z51 := Try.sizeOf123
  v51 := Try.zeroValue123
  t53 := Try.underlying94
  a53 := Try.isAgg94
  z53 := Try.sizeOf94
  v53 := Try.zeroValue94
  t70 := Try.underlying105
  a70 := Try.isAgg105
  z70 := Try.sizeOf105
  v70 := Try.zeroValue105
  t72 := Try.underlying107
  a72 := Try.isAgg107
  z72 := Try.sizeOf107
  v72 := Try.zeroValue107
  t75 := Try.underlying110
  a75 := Try.isAgg110
  z75 := Try.sizeOf110
  v75 := Try.zeroValue110
  t76 := Try.underlying111
  a76 := Try.isAgg111
  z76 := Try.sizeOf111
  v76 := Try.zeroValue111
  t109 := Try.underlying103
  a109 := Try.isAgg103
  z109 := Try.sizeOf103
  v109 := Try.zeroValue103
  t127 := Try.underlying133
  a127 := Try.isAgg133
  z127 := Try.sizeOf133
  v127 := Try.zeroValue133
  t146 := Try.underlying129
  a146 := Try.isAgg129
  z146 := Try.sizeOf129
  v146 := Try.zeroValue129
  t148 := Try.underlying131
  a148 := Try.isAgg131
  z148 := Try.sizeOf131
  v148 := Try.zeroValue131
  t164 := Try.underlying147
  a164 := Try.isAgg147
  z164 := Try.sizeOf147
  v164 := Try.zeroValue147
theorem lays_strings_Repeat_x : Builder.Extra Try.prog lays_strings_Repeat_ren where
  sizeBuilder := by kernel_rfl
  liesBuilder := by kernel_rfl
  t5 := lays_strings_Repeat.t5
  a5 := lays_strings_Repeat.a5
  z5 := lays_strings_Repeat.z5
  v5 := lays_strings_Repeat.v5
  infoByte := by kernel_rfl
  cellsByte := by kernel_rfl
  sizeByte := by kernel_rfl
  neB5 := by decide
def f_strings_Repeat (x y : D) : Option (List D) := repF x y
def e_strings_Repeat (K : Nat) : Entry := flat2 9 3 9 (fun ds => f_strings_Repeat (D.nth ds 0) (D.nth ds 1)) none
theorem ok_strings_Repeat (K : Nat) : FnOK Try.prog T0 54 (e_strings_Repeat K) :=
  repeat_ok (T := T0) Try.func54 rfl (by decide) rfl rfl rfl (fun s n w hn hl => Any.strings_Repeat lays_strings_Repeat lays_strings_Repeat_x s n w hn hl)
/-! ### 32 (*gatewarden/gatemake.Stream).Secret -/
def f_gatemake_Stream_Secret (K : Nat) (o0 : D) : Option (List D) :=
  (f_strings_Repeat (D.s [115]) (D.i 101)).bind fun t1 =>
  (f_gatemake_Stream_Some K o0 (D.n [D.s [111, 110, 101], D.s [116, 119, 111], D.s [116, 104, 114, 101, 101], D.s [107, 33], D.s [111, 110, 101], D.s [], D.s [97, 32, 98], D.s [127], D.nth t1 0])).bind fun t2 =>
  some [D.nth t2 0, D.nth t2 1]
def e_gatemake_Stream_Secret (K : Nat) : Entry := { n := 1, sh := { sl := [(0, .ptr 25 0 [])], ob := [(0, .box 25 (.d 25 false))] }, kept := [0], rs := [{ sl := [(0, .d 9 true)], ob := [(0, .box 25 (.d 25 false))] }], f := fun ds => f_gatemake_Stream_Secret K (D.nth ds 0), tot := none }
def T_gatemake_Stream_Secret (K : Nat) : Tbl := { T0 with ents := entsOf [(54, e_strings_Repeat K), (23, e_gatemake_Stream_Some K)], cuts := lk [] }
theorem q_gatemake_Stream_Secret (K : Nat) (ds : List D) : evFn (T_gatemake_Stream_Secret K) Try.f32 .go (e_gatemake_Stream_Secret K) ds = (e_gatemake_Stream_Secret K).f ds := by kernel_rfl
theorem ok_gatemake_Stream_Secret (K : Nat) : FnOK Try.prog T0 32 (e_gatemake_Stream_Secret K) :=
  fn_thm (T0 := T0) (T := T_gatemake_Stream_Secret K) rfl (hT_of hT0 rfl rfl rfl) (hes_ok (T0 := T0) (T := T_gatemake_Stream_Secret K) rfl rfl (⟨ok_strings_Repeat K, ok_gatemake_Stream_Some K, trivial⟩ : FAll Try.prog T0 [(54, e_strings_Repeat K), (23, e_gatemake_Stream_Some K)])) Try.func32 (by decide) rfl (Nat.le_of_ble_eq_true rfl) rfl rfl rfl (tot_none rfl) (cutsOK_none (by rfl)) (q_gatemake_Stream_Secret K)
/-! ### 9 (*gatewarden/gatemake.Stream).Odd -/
def f_gatemake_Stream_Odd (K : Nat) (low high o0 : D) : Option (List D) :=
  (f_gatemake_Stream_Flip K (D.i 12) o0).bind fun t1 =>
  bif (D.nth t1 0).bool then
    (f_gatemake_Stream_Pick K (D.nth t1 1) (D.n [D.i (IntKind.i64.wrap (low.int - (1 : Int))), D.i (IntKind.i64.wrap (high.int + (1 : Int))), low, high, D.i (-1099511627776), D.i 1099511627776])).bind fun t2 =>
    some [D.nth t2 0, D.nth t2 1]
  else
    (f_gatemake_Stream_Range K low high (D.nth t1 1)).bind fun t3 =>
    some [D.nth t3 0, D.nth t3 1]
def e_gatemake_Stream_Odd (K : Nat) : Entry := { n := 3, sh := { sl := [(0, .ptr 25 0 []), (1, .d 3 false), (2, .d 3 false)], ob := [(0, .box 25 (.d 25 false))] }, kept := [0], rs := [{ sl := [(0, .d 3 true)], ob := [(0, .box 25 (.d 25 false))] }], f := fun ds => f_gatemake_Stream_Odd K (D.nth ds 0) (D.nth ds 1) (D.nth ds 2), tot := none }
def T_gatemake_Stream_Odd (K : Nat) : Tbl := { T0 with ents := entsOf [(8, e_gatemake_Stream_Flip K), (7, e_gatemake_Stream_Pick K), (22, e_gatemake_Stream_Range K)], cuts := lk [] }
theorem q_gatemake_Stream_Odd (K : Nat) (ds : List D) : evFn (T_gatemake_Stream_Odd K) Try.f9 .go (e_gatemake_Stream_Odd K) ds = (e_gatemake_Stream_Odd K).f ds := by kernel_rfl
theorem ok_gatemake_Stream_Odd (K : Nat) : FnOK Try.prog T0 9 (e_gatemake_Stream_Odd K) :=
  fn_thm (T0 := T0) (T := T_gatemake_Stream_Odd K) rfl (hT_of hT0 rfl rfl rfl) (hes_ok (T0 := T0) (T := T_gatemake_Stream_Odd K) rfl rfl (⟨ok_gatemake_Stream_Flip K, ok_gatemake_Stream_Pick K, ok_gatemake_Stream_Range K, trivial⟩ : FAll Try.prog T0 [(8, e_gatemake_Stream_Flip K), (7, e_gatemake_Stream_Pick K), (22, e_gatemake_Stream_Range K)])) Try.func9 (by decide) rfl (Nat.le_of_ble_eq_true rfl) rfl rfl rfl (tot_none rfl) (cutsOK_none (by rfl)) (q_gatemake_Stream_Odd K)
/-! ### 5 (*gatewarden/gatemake.Stream).Signers -/
def b_gatemake_Stream_Signers_0 (K : Nat) (ds : List D) : Option (Nat × List D) :=
  let o0 := D.nth ds 0
  let r1 := D.nth ds 1
  bif (gtI (r1.list.length : Int) 0) then
    (f_gatemake_Stream_Flip K (D.i 12) o0).bind fun t2 =>
    some (0, [D.b ((D.nth t2 0).bool), D.nth t2 1, D.n r1.list])
  else
    some (0, [D.b false, o0, D.n r1.list])
def c_gatemake_Stream_Signers_0 (K : Nat) : Cut := { sh := { sl := [(0, .ptr 25 0 []), (3, .own 26 1)], ob := [(0, .box 25 (.d 25 false)), (1, .row 44 true)] }, kept := [0, 1], outs := [(.normal, { sl := [(13, .d 4 true)], ob := [(0, .box 25 (.d 25 false)), (1, .row 44 true)] })], f := b_gatemake_Stream_Signers_0 K }
def f_gatemake_Stream_Signers (K : Nat) (o0 : D) : Option (List D) :=
  (f_gatemake_Stream_RightSigners K o0).bind fun t1 =>
  (b_gatemake_Stream_Signers_0 K [D.nth t1 0, D.n ((D.nth t1 1).list)]).bind fun t2 =>
  bif (D.nth t2.2 0).bool then
    (f_gatemake_Stream_Next K (D.i (((D.nth t2.2 2).list).length : Int)) (D.nth t2.2 1)).bind fun t3 =>
    bif (inB ((D.nth t3 0).int) (((D.nth t2.2 2).list).length)) then
      (f_gatemake_Stream_Next K (D.i 3) (D.nth t3 1)).bind fun t4 =>
      bif (((D.nth t4 0).int) == (0 : Int)) then
        (f_gatemake_Stream_Some K (D.nth t4 1) (D.n [D.s [], D.s [65], D.s [115, 49]])).bind fun t5 =>
        some [D.nth t5 1, D.n (D.setNth ((D.nth t2.2 2).list) (((D.nth t3 0).int).toNat) (D.n (D.setNth ((D.nth ((D.nth t2.2 2).list) (((D.nth t3 0).int).toNat)).list) 0 (D.nth t5 0))))]
      else
        bif (((D.nth t4 0).int) == (1 : Int)) then
          (f_gatemake_Stream_Secret K (D.nth t4 1)).bind fun t6 =>
          some [D.nth t6 1, D.n (D.setNth ((D.nth t2.2 2).list) (((D.nth t3 0).int).toNat) (D.n (D.setNth ((D.nth ((D.nth t2.2 2).list) (((D.nth t3 0).int).toNat)).list) 1 (D.nth t6 0))))]
        else
          (f_gatemake_Stream_Odd K (D.i 0) (D.i 300) (D.nth t4 1)).bind fun t7 =>
          (f_gatemake_Stream_Odd K (D.i 0) (D.i 300) (D.nth t7 1)).bind fun t8 =>
          some [D.nth t8 1, D.n (D.setNth (D.setNth ((D.nth t2.2 2).list) (((D.nth t3 0).int).toNat) (D.n (D.setNth ((D.nth ((D.nth t2.2 2).list) (((D.nth t3 0).int).toNat)).list) 2 (D.nth t7 0)))) (((D.nth t3 0).int).toNat) (D.n (D.setNth ((D.nth (D.setNth ((D.nth t2.2 2).list) (((D.nth t3 0).int).toNat) (D.n (D.setNth ((D.nth ((D.nth t2.2 2).list) (((D.nth t3 0).int).toNat)).list) 2 (D.nth t7 0)))) (((D.nth t3 0).int).toNat)).list) 3 (D.nth t8 0))))]
    else
      none
  else
    some [D.nth t2.2 1, D.n ((D.nth t2.2 2).list)]
def e_gatemake_Stream_Signers (K : Nat) : Entry := { n := 1, sh := { sl := [(0, .ptr 25 0 [])], ob := [(0, .box 25 (.d 25 false))] }, kept := [0], rs := [{ sl := [(0, .own 26 1)], ob := [(0, .box 25 (.d 25 false)), (1, .row 44 true)] }], f := fun ds => f_gatemake_Stream_Signers K (D.nth ds 0), tot := none }
def T_gatemake_Stream_Signers (K : Nat) : Tbl := { T0 with ents := entsOf [(30, e_gatemake_Stream_RightSigners K), (8, e_gatemake_Stream_Flip K), (31, e_gatemake_Stream_Next K), (23, e_gatemake_Stream_Some K), (32, e_gatemake_Stream_Secret K), (9, e_gatemake_Stream_Odd K)], cuts := lk [(0, c_gatemake_Stream_Signers_0 K)] }
theorem q_gatemake_Stream_Signers_0 (K : Nat) (ds : List D) : evPiece (T_gatemake_Stream_Signers K) 48 (sub (codeOf Try.f5) [1, 1, 0, 0]) .go (c_gatemake_Stream_Signers_0 K) ds = b_gatemake_Stream_Signers_0 K ds := by kernel_rfl
theorem k_gatemake_Stream_Signers_0 (K : Nat) : CutOK Try.prog (T_gatemake_Stream_Signers K) 48 (sub (codeOf Try.f5) [1, 1, 0, 0]) (c_gatemake_Stream_Signers_0 K) :=
  piece_thm (T := T_gatemake_Stream_Signers K) (hT_of hT0 rfl rfl rfl) (hes_ok (T0 := T0) (T := T_gatemake_Stream_Signers K) rfl rfl (⟨ok_gatemake_Stream_RightSigners K, ok_gatemake_Stream_Flip K, ok_gatemake_Stream_Next K, ok_gatemake_Stream_Some K, ok_gatemake_Stream_Secret K, ok_gatemake_Stream_Odd K, trivial⟩ : FAll Try.prog T0 [(30, e_gatemake_Stream_RightSigners K), (8, e_gatemake_Stream_Flip K), (31, e_gatemake_Stream_Next K), (23, e_gatemake_Stream_Some K), (32, e_gatemake_Stream_Secret K), (9, e_gatemake_Stream_Odd K)])) rfl rfl rfl (cutsOK_none (by rfl)) (q_gatemake_Stream_Signers_0 K)
theorem q_gatemake_Stream_Signers (K : Nat) (ds : List D) : evFn (T_gatemake_Stream_Signers K) Try.f5 (.seq .go (.seq .go (.seq (.seq (.cut 0) .go) .go))) (e_gatemake_Stream_Signers K) ds = (e_gatemake_Stream_Signers K).f ds := by kernel_rfl
theorem ok_gatemake_Stream_Signers (K : Nat) : FnOK Try.prog T0 5 (e_gatemake_Stream_Signers K) :=
  fn_thm (T0 := T0) (T := T_gatemake_Stream_Signers K) rfl (hT_of hT0 rfl rfl rfl) (hes_ok (T0 := T0) (T := T_gatemake_Stream_Signers K) rfl rfl (⟨ok_gatemake_Stream_RightSigners K, ok_gatemake_Stream_Flip K, ok_gatemake_Stream_Next K, ok_gatemake_Stream_Some K, ok_gatemake_Stream_Secret K, ok_gatemake_Stream_Odd K, trivial⟩ : FAll Try.prog T0 [(30, e_gatemake_Stream_RightSigners K), (8, e_gatemake_Stream_Flip K), (31, e_gatemake_Stream_Next K), (23, e_gatemake_Stream_Some K), (32, e_gatemake_Stream_Secret K), (9, e_gatemake_Stream_Odd K)])) Try.func5 (by decide) rfl (Nat.le_of_ble_eq_true rfl) rfl rfl rfl (tot_none rfl) (cutsOK_list (l := [(0, sub (codeOf Try.f5) [1, 1, 0, 0])]) (by kernel_rfl) ⟨cut_one (u := c_gatemake_Stream_Signers_0 K) rfl (k_gatemake_Stream_Signers_0 K), trivial⟩) (q_gatemake_Stream_Signers K)
/-! ### 6 (*gatewarden/gatemake.Stream).Moment -/
def f_gatemake_Stream_Moment (K : Nat) (o0 : D) : Option (List D) :=
  (f_gatemake_Stream_Pick K o0 (D.n [D.i 0, D.i 10, D.i 49, D.i 50, D.i 60, D.i 99, D.i 100, D.i 101, D.i 149, D.i 150, D.i 200, D.i 300, D.i 1000, D.i (-1), D.i 345686400000])).bind fun t1 =>
  some [D.nth t1 0, D.nth t1 1]
def e_gatemake_Stream_Moment (K : Nat) : Entry := { n := 1, sh := { sl := [(0, .ptr 25 0 [])], ob := [(0, .box 25 (.d 25 false))] }, kept := [0], rs := [{ sl := [(0, .d 3 true)], ob := [(0, .box 25 (.d 25 false))] }], f := fun ds => f_gatemake_Stream_Moment K (D.nth ds 0), tot := none }
def T_gatemake_Stream_Moment (K : Nat) : Tbl := { T0 with ents := entsOf [(7, e_gatemake_Stream_Pick K)], cuts := lk [] }
theorem q_gatemake_Stream_Moment (K : Nat) (ds : List D) : evFn (T_gatemake_Stream_Moment K) Try.f6 .go (e_gatemake_Stream_Moment K) ds = (e_gatemake_Stream_Moment K).f ds := by kernel_rfl
theorem ok_gatemake_Stream_Moment (K : Nat) : FnOK Try.prog T0 6 (e_gatemake_Stream_Moment K) :=
  fn_thm (T0 := T0) (T := T_gatemake_Stream_Moment K) rfl (hT_of hT0 rfl rfl rfl) (hes_ok (T0 := T0) (T := T_gatemake_Stream_Moment K) rfl rfl (⟨ok_gatemake_Stream_Pick K, trivial⟩ : FAll Try.prog T0 [(7, e_gatemake_Stream_Pick K)])) Try.func6 (by decide) rfl (Nat.le_of_ble_eq_true rfl) rfl rfl rfl (tot_none rfl) (cutsOK_none (by rfl)) (q_gatemake_Stream_Moment K)
/-! ### 61 gatewarden/kit.IsKey -/
def b_kit_IsKey_0 (K : Nat) (rec : List D → Option (Nat × List D)) (ds : List D) : Option (Nat × List D) :=
  let s := D.nth ds 0
  let i := D.nth ds 1
  bif (ltI i.int (s.str.length : Int)) then
    bif (inB i.int s.str.length) then
      bif (!(bif (bif (geI (byteAt s.str i.int.toNat) 97) then (leI (byteAt s.str i.int.toNat) 122) else false) then true else (bif (gtI i.int 0) then (bif (bif (bif (geI (byteAt s.str i.int.toNat) 48) then (leI (byteAt s.str i.int.toNat) 57) else false) then true else ((byteAt s.str i.int.toNat) == (45 : Int))) then true else ((byteAt s.str i.int.toNat) == (95 : Int))) else false))) then
        some (0, [D.b false])
      else
        rec [s, D.i (IntKind.i64.wrap (i.int + (1 : Int)))]
    else
      none
  else
    some (1, [])
def c_kit_IsKey_0 (K : Nat) : Cut := { sh := { sl := [(0, .d 9 true), (3, .d 3 true)], ob := [] }, kept := [], outs := [(.ret, { sl := [(2, .d 4 true)], ob := [] }), (.exit 0, { sl := [], ob := [] })], f := fun ds => fixN (b_kit_IsKey_0 K) K ds }
def f_kit_IsKey (K : Nat) (s : D) : Option (List D) :=
  (fixN (b_kit_IsKey_0 K) K [s, D.i 0]).bind fun t1 =>
  bif (t1.1.beq 0) then
    some [D.nth t1.2 0]
  else
    some [D.b (bif (!(s.str == ([] : List UInt8))) then (leI (s.str.length : Int) 40) else false)]
def e_kit_IsKey (K : Nat) : Entry := { n := 1, sh := { sl := [(0, .d 9 false)], ob := [] }, kept := [], rs := [{ sl := [(0, .d 4 true)], ob := [] }], f := fun ds => f_kit_IsKey K (D.nth ds 0), tot := none }
def T_kit_IsKey (K : Nat) : Tbl := { T0 with ents := entsOf [], cuts := lk [(0, c_kit_IsKey_0 K)] }
theorem q_kit_IsKey_0 (K : Nat) (rec : List D → Option (Nat × List D)) (ds : List D) : evLoop (T_kit_IsKey K) 48 (sub (codeOf Try.f61) [1, 0, 1, 0, 0]) .go (c_kit_IsKey_0 K) rec ds = b_kit_IsKey_0 K rec ds := by kernel_rfl
theorem k_kit_IsKey_0 (K : Nat) : CutOK Try.prog (T_kit_IsKey K) 48 (sub (codeOf Try.f61) [1, 0, 1, 0]) (c_kit_IsKey_0 K) :=
  loop_thm (T := T_kit_IsKey K) (hT_of hT0 rfl rfl rfl) (hes_ok (T0 := T0) (T := T_kit_IsKey K) rfl rfl (trivial : FAll Try.prog T0 [])) (by kernel_rfl) rfl rfl rfl (cutsOK_none (by rfl)) rfl (q_kit_IsKey_0 K)
theorem q_kit_IsKey (K : Nat) (ds : List D) : evFn (T_kit_IsKey K) Try.f61 (.seq .go (.seq (.seq .go (.blk (.cut 0))) .go)) (e_kit_IsKey K) ds = (e_kit_IsKey K).f ds := by kernel_rfl
theorem ok_kit_IsKey (K : Nat) : FnOK Try.prog T0 61 (e_kit_IsKey K) :=
  fn_thm (T0 := T0) (T := T_kit_IsKey K) rfl (hT_of hT0 rfl rfl rfl) (hes_ok (T0 := T0) (T := T_kit_IsKey K) rfl rfl (trivial : FAll Try.prog T0 [])) Try.func61 (by decide) rfl (Nat.le_of_ble_eq_true rfl) rfl rfl rfl (tot_none rfl) (cutsOK_list (l := [(0, sub (codeOf Try.f61) [1, 0, 1, 0])]) (by kernel_rfl) ⟨cut_one (u := c_kit_IsKey_0 K) rfl (k_kit_IsKey_0 K), trivial⟩) (q_kit_IsKey K)
/-! ### 62 gatewarden/token.signerFault$1 -/
def p_token_signerFault_1 (o o0 : D) : List D := [D.b (((o.at' 0).str) == ((o0.at' 0).str)), o0]
def e_token_signerFault_1 (K : Nat) : Entry := { n := 2, sh := { sl := [(0, .d 44 false), (1, .ptr 44 0 [])], ob := [(0, .box 44 (.d 44 false))] }, kept := [0], rs := [{ sl := [(0, .d 4 true)], ob := [(0, .box 44 (.d 44 true))] }], f := fun ds => some (p_token_signerFault_1 (D.nth ds 0) (D.nth ds 1)), tot := some fun ds => p_token_signerFault_1 (D.nth ds 0) (D.nth ds 1) }
def T_token_signerFault_1 (K : Nat) : Tbl := { T0 with frz := fun s => memN [2] s, ents := entsOf [], cuts := lk [] }
theorem q_token_signerFault_1 (K : Nat) (ds : List D) : evFn (T_token_signerFault_1 K) Try.f62 .go (e_token_signerFault_1 K) ds = (e_token_signerFault_1 K).f ds := by kernel_rfl
theorem ok_token_signerFault_1 (K : Nat) : FnOK Try.prog T0 62 (e_token_signerFault_1 K) :=
  fn_thm (T0 := T0) (T := T_token_signerFault_1 K) rfl (hT_of hT0 rfl rfl rfl) (hes_ok (T0 := T0) (T := T_token_signerFault_1 K) rfl rfl (trivial : FAll Try.prog T0 [])) Try.func62 (by decide) rfl (Nat.le_of_ble_eq_true rfl) rfl rfl rfl (tot_some rfl fun _ => rfl) (cutsOK_none (by rfl)) (q_token_signerFault_1 K)
/-! ### 59 slices.IndexFunc[[]gatewarden/api.Signer,gatewarden/api.Signer] -/
def b_slices_IndexFunc_api_Signer_0 (K : Nat) (rec : List D → Option (Nat × List D)) (ds : List D) : Option (Nat × List D) :=
  let s := D.nth ds 0
  let s7 := D.nth ds 1
  let s8 := D.nth ds 2
  let o0 := D.nth ds 3
  bif (ltI s8.int s7.int) then
    bif (inB s8.int s.list.length) then
      bif (D.nth (p_token_signerFault_1 (D.nth s.list s8.int.toNat) o0) 0).bool then
        some (0, [s8, o0])
      else
        rec [s, s7, D.i (IntKind.i64.wrap (s8.int + (1 : Int))), o0]
    else
      none
  else
    some (1, [o0])
def c_slices_IndexFunc_api_Signer_0 (K : Nat) : Cut := { sh := { sl := [(0, .d 26 false), (1, .fn 62 [.ptr 44 0 []]), (7, .d 3 true), (8, .d 3 true)], ob := [(0, .box 44 (.d 44 true))] }, kept := [0], outs := [(.ret, { sl := [(4, .d 3 true)], ob := [(0, .box 44 (.d 44 true))] }), (.exit 0, { sl := [], ob := [(0, .box 44 (.d 44 true))] })], f := fun ds => fixN (b_slices_IndexFunc_api_Signer_0 K) K ds }
def f_slices_IndexFunc_api_Signer (K : Nat) (s o0 : D) : Option (List D) :=
  (fixN (b_slices_IndexFunc_api_Signer_0 K) K [s, D.i (s.list.length : Int), D.i 0, o0]).bind fun t1 =>
  bif (t1.1.beq 0) then
    some [D.nth t1.2 0, D.nth t1.2 1]
  else
    some [D.i (-1), D.nth t1.2 0]
def e_slices_IndexFunc_api_Signer (K : Nat) : Entry := { n := 2, sh := { sl := [(0, .d 26 false), (1, .fn 62 [.ptr 44 0 []])], ob := [(0, .box 44 (.d 44 false))] }, kept := [0], rs := [{ sl := [(0, .d 3 true)], ob := [(0, .box 44 (.d 44 true))] }], f := fun ds => f_slices_IndexFunc_api_Signer K (D.nth ds 0) (D.nth ds 1), tot := none }
def T_slices_IndexFunc_api_Signer (K : Nat) : Tbl := { T0 with ents := entsOf [(62, e_token_signerFault_1 K)], cuts := lk [(0, c_slices_IndexFunc_api_Signer_0 K)] }
theorem q_slices_IndexFunc_api_Signer_0 (K : Nat) (rec : List D → Option (Nat × List D)) (ds : List D) : evLoop (T_slices_IndexFunc_api_Signer K) 19 (sub (codeOf Try.f59) [1, 0, 1, 0, 0]) .go (c_slices_IndexFunc_api_Signer_0 K) rec ds = b_slices_IndexFunc_api_Signer_0 K rec ds := by kernel_rfl
theorem k_slices_IndexFunc_api_Signer_0 (K : Nat) : CutOK Try.prog (T_slices_IndexFunc_api_Signer K) 19 (sub (codeOf Try.f59) [1, 0, 1, 0]) (c_slices_IndexFunc_api_Signer_0 K) :=
  loop_thm (T := T_slices_IndexFunc_api_Signer K) (hT_of hT0 rfl rfl rfl) (hes_ok (T0 := T0) (T := T_slices_IndexFunc_api_Signer K) rfl rfl (⟨ok_token_signerFault_1 K, trivial⟩ : FAll Try.prog T0 [(62, e_token_signerFault_1 K)])) (by kernel_rfl) rfl rfl rfl (cutsOK_none (by rfl)) rfl (q_slices_IndexFunc_api_Signer_0 K)
theorem q_slices_IndexFunc_api_Signer (K : Nat) (ds : List D) : evFn (T_slices_IndexFunc_api_Signer K) Try.f59 (.seq .go (.seq (.seq .go (.blk (.cut 0))) .go)) (e_slices_IndexFunc_api_Signer K) ds = (e_slices_IndexFunc_api_Signer K).f ds := by kernel_rfl
theorem ok_slices_IndexFunc_api_Signer (K : Nat) : FnOK Try.prog T0 59 (e_slices_IndexFunc_api_Signer K) :=
  fn_thm (T0 := T0) (T := T_slices_IndexFunc_api_Signer K) rfl (hT_of hT0 rfl rfl rfl) (hes_ok (T0 := T0) (T := T_slices_IndexFunc_api_Signer K) rfl rfl (⟨ok_token_signerFault_1 K, trivial⟩ : FAll Try.prog T0 [(62, e_token_signerFault_1 K)])) Try.func59 (by decide) rfl (Nat.le_of_ble_eq_true rfl) rfl rfl rfl (tot_none rfl) (cutsOK_list (l := [(0, sub (codeOf Try.f59) [1, 0, 1, 0])]) (by kernel_rfl) ⟨cut_one (u := c_slices_IndexFunc_api_Signer_0 K) rfl (k_slices_IndexFunc_api_Signer_0 K), trivial⟩) (q_slices_IndexFunc_api_Signer K)
/-! ### 39 slices.ContainsFunc[[]gatewarden/api.Signer,gatewarden/api.Signer] -/
def f_slices_ContainsFunc_api_Signer (K : Nat) (s o0 : D) : Option (List D) :=
  (f_slices_IndexFunc_api_Signer K s o0).bind fun t1 =>
  some [D.b (geI ((D.nth t1 0).int) 0), D.nth t1 1]
def e_slices_ContainsFunc_api_Signer (K : Nat) : Entry := { n := 2, sh := { sl := [(0, .d 26 false), (1, .fn 62 [.ptr 44 0 []])], ob := [(0, .box 44 (.d 44 false))] }, kept := [0], rs := [{ sl := [(0, .d 4 true)], ob := [(0, .box 44 (.d 44 true))] }], f := fun ds => f_slices_ContainsFunc_api_Signer K (D.nth ds 0) (D.nth ds 1), tot := none }
def T_slices_ContainsFunc_api_Signer (K : Nat) : Tbl := { T0 with ents := entsOf [(59, e_slices_IndexFunc_api_Signer K)], cuts := lk [] }
theorem q_slices_ContainsFunc_api_Signer (K : Nat) (ds : List D) : evFn (T_slices_ContainsFunc_api_Signer K) Try.f39 .go (e_slices_ContainsFunc_api_Signer K) ds = (e_slices_ContainsFunc_api_Signer K).f ds := by kernel_rfl
theorem ok_slices_ContainsFunc_api_Signer (K : Nat) : FnOK Try.prog T0 39 (e_slices_ContainsFunc_api_Signer K) :=
  fn_thm (T0 := T0) (T := T_slices_ContainsFunc_api_Signer K) rfl (hT_of hT0 rfl rfl rfl) (hes_ok (T0 := T0) (T := T_slices_ContainsFunc_api_Signer K) rfl rfl (⟨ok_slices_IndexFunc_api_Signer K, trivial⟩ : FAll Try.prog T0 [(59, e_slices_IndexFunc_api_Signer K)])) Try.func39 (by decide) rfl (Nat.le_of_ble_eq_true rfl) rfl rfl rfl (tot_none rfl) (cutsOK_none (by rfl)) (q_slices_ContainsFunc_api_Signer K)
/-! ### 63 gatewarden/token.secretFault -/
def b_token_secretFault_0 (K : Nat) (rec : List D → Option (Nat × List D)) (ds : List D) : Option (Nat × List D) :=
  let s := D.nth ds 0
  let s5 := D.nth ds 1
  let s6 := D.nth ds 2
  bif (ltI s6.int s5.int) then
    bif (inB s6.int s.str.length) then
      bif ((!(!(ltI (byteAt s.str s6.int.toNat) 33))) || (inB s6.int s.str.length)) then
        bif (bif (ltI (byteAt s.str s6.int.toNat) 33) then true else (gtI (byteAt s.str s6.int.toNat) 126)) then
          some (0, [D.i 3])
        else
          rec [s, s5, D.i (IntKind.i64.wrap (s6.int + (1 : Int)))]
      else
        none
    else
      none
  else
    some (1, [])
def c_token_secretFault_0 (K : Nat) : Cut := { sh := { sl := [(0, .d 9 true), (5, .d 3 true), (6, .d 3 true)], ob := [] }, kept := [], outs := [(.ret, { sl := [(2, .d 34 true)], ob := [] }), (.exit 0, { sl := [], ob := [] })], f := fun ds => fixN (b_token_secretFault_0 K) K ds }
def f_token_secretFault (K : Nat) (s : D) : Option (List D) :=
  (fixN (b_token_secretFault_0 K) K [s, D.i (s.str.length : Int), D.i 0]).bind fun t1 =>
  bif (t1.1.beq 0) then
    some [D.nth t1.2 0]
  else
    bif (s.str == ([] : List UInt8)) then
      some [D.i 3]
    else
      bif (gtI (s.str.length : Int) 100) then
        some [D.i 2]
      else
        some [D.i 0]
def e_token_secretFault (K : Nat) : Entry := { n := 1, sh := { sl := [(0, .d 9 false)], ob := [] }, kept := [], rs := [{ sl := [(0, .d 34 true)], ob := [] }], f := fun ds => f_token_secretFault K (D.nth ds 0), tot := none }
def T_token_secretFault (K : Nat) : Tbl := { T0 with ents := entsOf [], cuts := lk [(0, c_token_secretFault_0 K)] }
theorem q_token_secretFault_0 (K : Nat) (rec : List D → Option (Nat × List D)) (ds : List D) : evLoop (T_token_secretFault K) 25 (sub (codeOf Try.f63) [1, 0, 1, 0, 0]) .go (c_token_secretFault_0 K) rec ds = b_token_secretFault_0 K rec ds := by kernel_rfl
theorem k_token_secretFault_0 (K : Nat) : CutOK Try.prog (T_token_secretFault K) 25 (sub (codeOf Try.f63) [1, 0, 1, 0]) (c_token_secretFault_0 K) :=
  loop_thm (T := T_token_secretFault K) (hT_of hT0 rfl rfl rfl) (hes_ok (T0 := T0) (T := T_token_secretFault K) rfl rfl (trivial : FAll Try.prog T0 [])) (by kernel_rfl) rfl rfl rfl (cutsOK_none (by rfl)) rfl (q_token_secretFault_0 K)
theorem q_token_secretFault (K : Nat) (ds : List D) : evFn (T_token_secretFault K) Try.f63 (.seq .go (.seq (.seq .go (.blk (.cut 0))) .go)) (e_token_secretFault K) ds = (e_token_secretFault K).f ds := by kernel_rfl
theorem ok_token_secretFault (K : Nat) : FnOK Try.prog T0 63 (e_token_secretFault K) :=
  fn_thm (T0 := T0) (T := T_token_secretFault K) rfl (hT_of hT0 rfl rfl rfl) (hes_ok (T0 := T0) (T := T_token_secretFault K) rfl rfl (trivial : FAll Try.prog T0 [])) Try.func63 (by decide) rfl (Nat.le_of_ble_eq_true rfl) rfl rfl rfl (tot_none rfl) (cutsOK_list (l := [(0, sub (codeOf Try.f63) [1, 0, 1, 0])]) (by kernel_rfl) ⟨cut_one (u := c_token_secretFault_0 K) rfl (k_token_secretFault_0 K), trivial⟩) (q_token_secretFault K)
/-! ### 35 gatewarden/kit.Outside -/
def p_kit_Outside (n low high : D) : List D := [D.b (bif (ltI n.int low.int) then true else (gtI n.int high.int))]
def e_kit_Outside (K : Nat) : Entry := { n := 3, sh := { sl := [(0, .d 3 false), (1, .d 3 false), (2, .d 3 false)], ob := [] }, kept := [], rs := [{ sl := [(0, .d 4 true)], ob := [] }], f := fun ds => some (p_kit_Outside (D.nth ds 0) (D.nth ds 1) (D.nth ds 2)), tot := some fun ds => p_kit_Outside (D.nth ds 0) (D.nth ds 1) (D.nth ds 2) }
def T_kit_Outside (K : Nat) : Tbl := { T0 with ents := entsOf [], cuts := lk [] }
theorem q_kit_Outside (K : Nat) (ds : List D) : evFn (T_kit_Outside K) Try.f35 .go (e_kit_Outside K) ds = (e_kit_Outside K).f ds := by kernel_rfl
theorem ok_kit_Outside (K : Nat) : FnOK Try.prog T0 35 (e_kit_Outside K) :=
  fn_thm (T0 := T0) (T := T_kit_Outside K) rfl (hT_of hT0 rfl rfl rfl) (hes_ok (T0 := T0) (T := T_kit_Outside K) rfl rfl (trivial : FAll Try.prog T0 [])) Try.func35 (by decide) rfl (Nat.le_of_ble_eq_true rfl) rfl rfl rfl (tot_some rfl fun _ => rfl) (cutsOK_none (by rfl)) (q_kit_Outside K)
/-! ### 43 gatewarden/token.signerFault -/
def f_token_signerFault (K : Nat) (l i : D) : Option (List D) :=
  bif (inB i.int l.list.length) then
    (f_kit_IsKey K ((D.nth l.list i.int.toNat).at' 0)).bind fun t1 =>
    bif (!((D.nth t1 0).bool)) then
      some [D.i 5]
    else
      bif (inB i.int (l.list.length + 1)) then
        (f_slices_ContainsFunc_api_Signer K (D.n (l.list.take i.int.toNat)) (D.nth l.list i.int.toNat)).bind fun t2 =>
        bif (D.nth t2 0).bool then
          some [D.i 6]
        else
          (f_token_secretFault K ((D.nth t2 1).at' 1)).bind fun t3 =>
          bif (((D.nth t3 0).int) != (0 : Int)) then
            some [D.nth t3 0]
          else
            bif (bif (bif (D.nth (p_kit_Outside ((D.nth t2 1).at' 2) (D.i 0) ((D.nth t2 1).at' 3)) 0).bool then true else (gtI (((D.nth t2 1).at' 3).int) (((D.nth t2 1).at' 4).int))) then true else (gtI (((D.nth t2 1).at' 4).int) 345686400000)) then
              some [D.i 1]
            else
              bif ((!(gtI i.int 0)) || (inB (IntKind.i64.wrap (i.int - (1 : Int))) l.list.length)) then
                bif (bif (gtI i.int 0) then (ltI (((D.nth t2 1).at' 2).int) (((D.nth l.list ((IntKind.i64.wrap (i.int - (1 : Int))).toNat)).at' 2).int)) else false) then
                  some [D.i 7]
                else
                  some [D.i 0]
              else
                none
      else
        none
  else
    none
def e_token_signerFault (K : Nat) : Entry := { n := 2, sh := { sl := [(0, .d 26 false), (1, .d 3 false)], ob := [] }, kept := [], rs := [{ sl := [(0, .d 34 true)], ob := [] }], f := fun ds => f_token_signerFault K (D.nth ds 0) (D.nth ds 1), tot := none }
def T_token_signerFault (K : Nat) : Tbl := { T0 with ents := entsOf [(61, e_kit_IsKey K), (39, e_slices_ContainsFunc_api_Signer K), (63, e_token_secretFault K), (35, e_kit_Outside K)], cuts := lk [] }
theorem q_token_signerFault (K : Nat) (ds : List D) : evFn (T_token_signerFault K) Try.f43 .go (e_token_signerFault K) ds = (e_token_signerFault K).f ds := by kernel_rfl
theorem ok_token_signerFault (K : Nat) : FnOK Try.prog T0 43 (e_token_signerFault K) :=
  fn_thm (T0 := T0) (T := T_token_signerFault K) rfl (hT_of hT0 rfl rfl rfl) (hes_ok (T0 := T0) (T := T_token_signerFault K) rfl rfl (⟨ok_kit_IsKey K, ok_slices_ContainsFunc_api_Signer K, ok_token_secretFault K, ok_kit_Outside K, trivial⟩ : FAll Try.prog T0 [(61, e_kit_IsKey K), (39, e_slices_ContainsFunc_api_Signer K), (63, e_token_secretFault K), (35, e_kit_Outside K)])) Try.func43 (by decide) rfl (Nat.le_of_ble_eq_true rfl) rfl rfl rfl (tot_none rfl) (cutsOK_none (by rfl)) (q_token_signerFault K)
/-! ### 13 gatewarden/token.CheckSigners -/
def b_token_CheckSigners_0 (K : Nat) (rec : List D → Option (Nat × List D)) (ds : List D) : Option (Nat × List D) :=
  let l := D.nth ds 0
  let s9 := D.nth ds 1
  let s10 := D.nth ds 2
  bif (ltI s10.int s9.int) then
    (f_token_signerFault K l s10).bind fun t1 =>
    bif (((D.nth t1 0).int) != (0 : Int)) then
      some (0, [D.nth t1 0])
    else
      rec [l, s9, D.i (IntKind.i64.wrap (s10.int + (1 : Int)))]
  else
    some (1, [])
def c_token_CheckSigners_0 (K : Nat) : Cut := { sh := { sl := [(0, .d 26 false), (9, .d 3 true), (10, .d 3 true)], ob := [] }, kept := [], outs := [(.ret, { sl := [(2, .d 34 true)], ob := [] }), (.exit 0, { sl := [], ob := [] })], f := fun ds => fixN (b_token_CheckSigners_0 K) K ds }
def f_token_CheckSigners (K : Nat) (l : D) : Option (List D) :=
  bif (gtI (l.list.length : Int) 50) then
    some [D.i 2]
  else
    (fixN (b_token_CheckSigners_0 K) K [l, D.i (l.list.length : Int), D.i 0]).bind fun t1 =>
    bif (t1.1.beq 0) then
      some [D.nth t1.2 0]
    else
      some [D.i 0]
def e_token_CheckSigners (K : Nat) : Entry := { n := 1, sh := { sl := [(0, .d 26 false)], ob := [] }, kept := [], rs := [{ sl := [(0, .d 34 true)], ob := [] }], f := fun ds => f_token_CheckSigners K (D.nth ds 0), tot := none }
def T_token_CheckSigners (K : Nat) : Tbl := { T0 with ents := entsOf [(43, e_token_signerFault K)], cuts := lk [(0, c_token_CheckSigners_0 K)] }
theorem q_token_CheckSigners_0 (K : Nat) (rec : List D → Option (Nat × List D)) (ds : List D) : evLoop (T_token_CheckSigners K) 20 (sub (codeOf Try.f13) [1, 1, 0, 1, 0, 0]) .go (c_token_CheckSigners_0 K) rec ds = b_token_CheckSigners_0 K rec ds := by kernel_rfl
theorem k_token_CheckSigners_0 (K : Nat) : CutOK Try.prog (T_token_CheckSigners K) 20 (sub (codeOf Try.f13) [1, 1, 0, 1, 0]) (c_token_CheckSigners_0 K) :=
  loop_thm (T := T_token_CheckSigners K) (hT_of hT0 rfl rfl rfl) (hes_ok (T0 := T0) (T := T_token_CheckSigners K) rfl rfl (⟨ok_token_signerFault K, trivial⟩ : FAll Try.prog T0 [(43, e_token_signerFault K)])) (by kernel_rfl) rfl rfl rfl (cutsOK_none (by rfl)) rfl (q_token_CheckSigners_0 K)
theorem q_token_CheckSigners (K : Nat) (ds : List D) : evFn (T_token_CheckSigners K) Try.f13 (.seq .go (.seq .go (.seq (.seq .go (.blk (.cut 0))) .go))) (e_token_CheckSigners K) ds = (e_token_CheckSigners K).f ds := by kernel_rfl
theorem ok_token_CheckSigners (K : Nat) : FnOK Try.prog T0 13 (e_token_CheckSigners K) :=
  fn_thm (T0 := T0) (T := T_token_CheckSigners K) rfl (hT_of hT0 rfl rfl rfl) (hes_ok (T0 := T0) (T := T_token_CheckSigners K) rfl rfl (⟨ok_token_signerFault K, trivial⟩ : FAll Try.prog T0 [(43, e_token_signerFault K)])) Try.func13 (by decide) rfl (Nat.le_of_ble_eq_true rfl) rfl rfl rfl (tot_none rfl) (cutsOK_list (l := [(0, sub (codeOf Try.f13) [1, 1, 0, 1, 0])]) (by kernel_rfl) ⟨cut_one (u := c_token_CheckSigners_0 K) rfl (k_token_CheckSigners_0 K), trivial⟩) (q_token_CheckSigners K)
/-! ### 55 gatewarden/kit.IsMoment -/
def p_kit_IsMoment (n : D) : List D := [D.b (bif (geI n.int 0) then (ltI n.int 345686400000) else false)]
def e_kit_IsMoment (K : Nat) : Entry := { n := 1, sh := { sl := [(0, .d 3 false)], ob := [] }, kept := [], rs := [{ sl := [(0, .d 4 true)], ob := [] }], f := fun ds => some (p_kit_IsMoment (D.nth ds 0)), tot := some fun ds => p_kit_IsMoment (D.nth ds 0) }
def T_kit_IsMoment (K : Nat) : Tbl := { T0 with ents := entsOf [], cuts := lk [] }
theorem q_kit_IsMoment (K : Nat) (ds : List D) : evFn (T_kit_IsMoment K) Try.f55 .go (e_kit_IsMoment K) ds = (e_kit_IsMoment K).f ds := by kernel_rfl
theorem ok_kit_IsMoment (K : Nat) : FnOK Try.prog T0 55 (e_kit_IsMoment K) :=
  fn_thm (T0 := T0) (T := T_kit_IsMoment K) rfl (hT_of hT0 rfl rfl rfl) (hes_ok (T0 := T0) (T := T_kit_IsMoment K) rfl rfl (trivial : FAll Try.prog T0 [])) Try.func55 (by decide) rfl (Nat.le_of_ble_eq_true rfl) rfl rfl rfl (tot_some rfl fun _ => rfl) (cutsOK_none (by rfl)) (q_kit_IsMoment K)
/-! ### 33 gatewarden/token.momentFault -/
def f_token_momentFault (K : Nat) (vat : D) : Option (List D) :=
  bif (!((D.nth (p_kit_IsMoment vat) 0).bool)) then
    some [D.i 1]
  else
    some [D.i 0]
def e_token_momentFault (K : Nat) : Entry := { n := 1, sh := { sl := [(0, .d 3 false)], ob := [] }, kept := [], rs := [{ sl := [(0, .d 34 true)], ob := [] }], f := fun ds => f_token_momentFault K (D.nth ds 0), tot := none }
def T_token_momentFault (K : Nat) : Tbl := { T0 with ents := entsOf [(55, e_kit_IsMoment K)], cuts := lk [] }
theorem q_token_momentFault (K : Nat) (ds : List D) : evFn (T_token_momentFault K) Try.f33 .go (e_token_momentFault K) ds = (e_token_momentFault K).f ds := by kernel_rfl
theorem ok_token_momentFault (K : Nat) : FnOK Try.prog T0 33 (e_token_momentFault K) :=
  fn_thm (T0 := T0) (T := T_token_momentFault K) rfl (hT_of hT0 rfl rfl rfl) (hes_ok (T0 := T0) (T := T_token_momentFault K) rfl rfl (⟨ok_kit_IsMoment K, trivial⟩ : FAll Try.prog T0 [(55, e_kit_IsMoment K)])) Try.func33 (by decide) rfl (Nat.le_of_ble_eq_true rfl) rfl rfl rfl (tot_none rfl) (cutsOK_none (by rfl)) (q_token_momentFault K)
/-! ### 45 slices.Backward[[]gatewarden/api.Signer,gatewarden/api.Signer] -/
def p_slices_Backward_api_Signer (x : D) : List D := [x]
def e_slices_Backward_api_Signer (K : Nat) : Entry := backEnt 26 64
theorem ok_slices_Backward_api_Signer (K : Nat) : FnOK Try.prog T0 45 (e_slices_Backward_api_Signer K) :=
  backfn_ok (T := T0) hT0 Try.func45 (by decide) (ct := 26) (e := 44) rfl rfl rfl rfl
/-! ### 34 gatewarden/token.signerAt -/
def b_token_signerAt_0 (K : Nat) (rec : List D → Option (Nat × List D)) (ri rx : D) (ds : List D) : Option (Nat × List D) :=
  let vat := D.nth ds 0
  let s9_0 := D.nth ds 1
  let o0 := D.nth ds 2
  let o1 := D.nth ds 3
  bif (bif (leI ((rx.at' 2).int) vat.int) then (ltI vat.int ((rx.at' 3).int)) else false) then
    some (0, [rx, D.b true])
  else
    rec [vat, s9_0, o0, o1]
def z_token_signerAt_0 (K : Nat) (ds : List D) : Option (Nat × List D) :=
  let o0 := D.nth ds 2
  let o1 := D.nth ds 3
  some (1, [o0, o1])
def c_token_signerAt_0 (K : Nat) : Cut := { sh := { sl := [(3, .bx 3 true (.d 3 true)), (4, .ptr 44 0 []), (5, .ptr 4 1 []), (9, .fn 64 [.bx 26 true (.d 26 false)])], ob := [(0, .box 44 (.d 44 true)), (1, .box 4 (.d 4 true))] }, kept := [0, 1], outs := [(.ret, { sl := [], ob := [(0, .box 44 (.d 44 true)), (1, .box 4 (.d 4 true))] }), (.normal, { sl := [], ob := [(0, .box 44 (.d 44 true)), (1, .box 4 (.d 4 true))] })], f := fun ds => rangeN 1 (b_token_signerAt_0 K) (z_token_signerAt_0 K) (D.nth ds 1).list.length ds, solo := true }
def f_token_signerAt (K : Nat) (l vat : D) : Option (List D) :=
  (rangeN 1 (b_token_signerAt_0 K) (z_token_signerAt_0 K) l.list.length [vat, l, D.n [D.s [], D.s [], D.i 0, D.i 0, D.i 0], D.b false]).bind fun t1 =>
  bif (t1.1.beq 0) then
    some [D.nth t1.2 0, D.nth t1.2 1]
  else
    some [D.n [D.s [], D.s [], D.i 0, D.i 0, D.i 0], D.b false]
def e_token_signerAt (K : Nat) : Entry := { n := 2, sh := { sl := [(0, .d 26 false), (1, .d 3 false)], ob := [] }, kept := [], rs := [{ sl := [(0, .tup [.d 44 true, .d 4 true])], ob := [] }], f := fun ds => f_token_signerAt K (D.nth ds 0) (D.nth ds 1), tot := none }
def T_token_signerAt (K : Nat) : Tbl := { T0 with frz := fun s => memN [3] s, ents := entsOf [(45, e_slices_Backward_api_Signer K)], cuts := lk [(0, c_token_signerAt_0 K)] }
theorem q_token_signerAt_0 (K : Nat) (rec : List D → Option (Nat × List D)) (i x : D) (ds : List D) : evRound (T_token_signerAt K) 24 (sub (codeOf Try.f34) [1, 0, 1, 0, 0]) (sub (codeOf Try.f34) [1, 0, 1, 0, 1]) .go (c_token_signerAt_0 K) 10 11 44 false rec i x ds = b_token_signerAt_0 K rec i x ds := by kernel_rfl
theorem y_token_signerAt_0 (K : Nat) (ds : List D) : evRest (T_token_signerAt K) (c_token_signerAt_0 K) ds = z_token_signerAt_0 K ds := by kernel_rfl
theorem k_token_signerAt_0 (K : Nat) : CutOK Try.prog (T_token_signerAt K) 24 (sub (codeOf Try.f34) [1, 0, 1, 0]) (c_token_signerAt_0 K) :=
  range_thm (T := T_token_signerAt K) (ct := 26) (e := 44) (hT_of hT0 rfl rfl rfl) (hes_ok (T0 := T0) (T := T_token_signerAt K) rfl rfl (⟨ok_slices_Backward_api_Signer K, trivial⟩ : FAll Try.prog T0 [(45, e_slices_Backward_api_Signer K)])) rfl rfl rfl rfl rfl rfl (cutsOK_none (by rfl)) rfl (by kernel_rfl) (it64) Try.func64 (by decide) rfl (fun _ => rfl) (q_token_signerAt_0 K) (y_token_signerAt_0 K) (fun _ => rfl)
theorem q_token_signerAt (K : Nat) (ds : List D) : evFn (T_token_signerAt K) Try.f34 (.seq .go (.seq (.seq .go (.blk (.cut 0))) .go)) (e_token_signerAt K) ds = (e_token_signerAt K).f ds := by kernel_rfl
theorem ok_token_signerAt (K : Nat) : FnOK Try.prog T0 34 (e_token_signerAt K) :=
  fn_thm (T0 := T0) (T := T_token_signerAt K) rfl (hT_of hT0 rfl rfl rfl) (hes_ok (T0 := T0) (T := T_token_signerAt K) rfl rfl (⟨ok_slices_Backward_api_Signer K, trivial⟩ : FAll Try.prog T0 [(45, e_slices_Backward_api_Signer K)])) Try.func34 (by decide) rfl (Nat.le_of_ble_eq_true rfl) rfl rfl rfl (tot_none rfl) (cutsOK_list (l := [(0, sub (codeOf Try.f34) [1, 0, 1, 0])]) (by kernel_rfl) ⟨cut_one (u := c_token_signerAt_0 K) rfl (k_token_signerAt_0 K), trivial⟩) (q_token_signerAt K)
/-! ### 10 gatewarden/token.SignerAt -/
def f_token_SignerAt (K : Nat) (l vat : D) : Option (List D) :=
  (f_token_CheckSigners K l).bind fun t1 =>
  bif (((D.nth t1 0).int) != (0 : Int)) then
    some [D.s [], D.nth t1 0]
  else
    (f_token_momentFault K vat).bind fun t2 =>
    bif (((D.nth t2 0).int) != (0 : Int)) then
      some [D.s [], D.nth t2 0]
    else
      (f_token_signerAt K l vat).bind fun t3 =>
      bif (!((D.nth t3 1).bool)) then
        some [D.s [], D.i 8]
      else
        some [(D.nth t3 0).at' 0, D.i 0]
def e_token_SignerAt (K : Nat) : Entry := { n := 2, sh := { sl := [(0, .d 26 false), (1, .d 3 false)], ob := [] }, kept := [], rs := [{ sl := [(0, .tup [.d 9 true, .d 34 true])], ob := [] }], f := fun ds => f_token_SignerAt K (D.nth ds 0) (D.nth ds 1), tot := none }
def T_token_SignerAt (K : Nat) : Tbl := { T0 with ents := entsOf [(13, e_token_CheckSigners K), (33, e_token_momentFault K), (34, e_token_signerAt K)], cuts := lk [] }
theorem q_token_SignerAt (K : Nat) (ds : List D) : evFn (T_token_SignerAt K) Try.f10 .go (e_token_SignerAt K) ds = (e_token_SignerAt K).f ds := by kernel_rfl
theorem ok_token_SignerAt (K : Nat) : FnOK Try.prog T0 10 (e_token_SignerAt K) :=
  fn_thm (T0 := T0) (T := T_token_SignerAt K) rfl (hT_of hT0 rfl rfl rfl) (hes_ok (T0 := T0) (T := T_token_SignerAt K) rfl rfl (⟨ok_token_CheckSigners K, ok_token_momentFault K, ok_token_signerAt K, trivial⟩ : FAll Try.prog T0 [(13, e_token_CheckSigners K), (33, e_token_momentFault K), (34, e_token_signerAt K)])) Try.func10 (by decide) rfl (Nat.le_of_ble_eq_true rfl) rfl rfl rfl (tot_none rfl) (cutsOK_none (by rfl)) (q_token_SignerAt K)
/-! ### 93 math/bits.Len64 -/
def b_bits_Len64_1 (K : Nat) (ds : List D) : Option (Nat × List D) :=
  let x := D.nth ds 0
  let n := D.nth ds 1
  let s8 := D.nth ds 2
  bif s8.bool then
    some (0, [D.i (shr .u64 x.int 16), D.i (IntKind.i64.wrap (n.int + (16 : Int)))])
  else
    some (0, [x, n])
def c_bits_Len64_1 (K : Nat) : Cut := { sh := { sl := [(0, .d 87 true), (2, .d 3 true), (8, .d 4 true)], ob := [] }, kept := [], outs := [(.normal, { sl := [(0, .d 87 true), (2, .d 3 true)], ob := [] })], f := b_bits_Len64_1 K }
def b_bits_Len64_0 (K : Nat) (ds : List D) : Option (Nat × List D) :=
  let x := D.nth ds 0
  let n := D.nth ds 1
  let s4 := D.nth ds 2
  bif s4.bool then
    some (0, [D.i (shr .u64 x.int 32), D.i 32])
  else
    some (0, [x, n])
def c_bits_Len64_0 (K : Nat) : Cut := { sh := { sl := [(0, .d 87 true), (2, .d 3 true), (4, .d 4 true)], ob := [] }, kept := [], outs := [(.normal, { sl := [(0, .d 87 true), (2, .d 3 true)], ob := [] })], f := b_bits_Len64_0 K }
def f_bits_Len64 (K : Nat) (x : D) : Option (List D) :=
  (b_bits_Len64_0 K [x, D.i 0, D.b (geI x.int 4294967296)]).bind fun t1 =>
  (b_bits_Len64_1 K [D.nth t1.2 0, D.nth t1.2 1, D.b (geI ((D.nth t1.2 0).int) 65536)]).bind fun t2 =>
  bif (geI ((D.nth t2.2 0).int) 256) then
    bif (inB (IntKind.u8.wrap (shr .u64 ((D.nth t2.2 0).int) 8)) ([0, 1, 2, 2, 3, 3, 3, 3, 4, 4, 4, 4, 4, 4, 4, 4, 5, 5, 5, 5, 5, 5, 5, 5, 5, 5, 5, 5, 5, 5, 5, 5, 6, 6, 6, 6, 6, 6, 6, 6, 6, 6, 6, 6, 6, 6, 6, 6, 6, 6, 6, 6, 6, 6, 6, 6, 6, 6, 6, 6, 6, 6, 6, 6, 7, 7, 7, 7, 7, 7, 7, 7, 7, 7, 7, 7, 7, 7, 7, 7, 7, 7, 7, 7, 7, 7, 7, 7, 7, 7, 7, 7, 7, 7, 7, 7, 7, 7, 7, 7, 7, 7, 7, 7, 7, 7, 7, 7, 7, 7, 7, 7, 7, 7, 7, 7, 7, 7, 7, 7, 7, 7, 7, 7, 7, 7, 7, 7, 8, 8, 8, 8, 8, 8, 8, 8, 8, 8, 8, 8, 8, 8, 8, 8, 8, 8, 8, 8, 8, 8, 8, 8, 8, 8, 8, 8, 8, 8, 8, 8, 8, 8, 8, 8, 8, 8, 8, 8, 8, 8, 8, 8, 8, 8, 8, 8, 8, 8, 8, 8, 8, 8, 8, 8, 8, 8, 8, 8, 8, 8, 8, 8, 8, 8, 8, 8, 8, 8, 8, 8, 8, 8, 8, 8, 8, 8, 8, 8, 8, 8, 8, 8, 8, 8, 8, 8, 8, 8, 8, 8, 8, 8, 8, 8, 8, 8, 8, 8, 8, 8, 8, 8, 8, 8, 8, 8, 8, 8, 8, 8, 8, 8, 8, 8, 8, 8, 8, 8, 8, 8, 8, 8, 8, 8, 8, 8].length)) then
      some [D.i (IntKind.i64.wrap ((IntKind.i64.wrap (((D.nth t2.2 1).int) + (8 : Int))) + (IntKind.i64.wrap (byteAt [0, 1, 2, 2, 3, 3, 3, 3, 4, 4, 4, 4, 4, 4, 4, 4, 5, 5, 5, 5, 5, 5, 5, 5, 5, 5, 5, 5, 5, 5, 5, 5, 6, 6, 6, 6, 6, 6, 6, 6, 6, 6, 6, 6, 6, 6, 6, 6, 6, 6, 6, 6, 6, 6, 6, 6, 6, 6, 6, 6, 6, 6, 6, 6, 7, 7, 7, 7, 7, 7, 7, 7, 7, 7, 7, 7, 7, 7, 7, 7, 7, 7, 7, 7, 7, 7, 7, 7, 7, 7, 7, 7, 7, 7, 7, 7, 7, 7, 7, 7, 7, 7, 7, 7, 7, 7, 7, 7, 7, 7, 7, 7, 7, 7, 7, 7, 7, 7, 7, 7, 7, 7, 7, 7, 7, 7, 7, 7, 8, 8, 8, 8, 8, 8, 8, 8, 8, 8, 8, 8, 8, 8, 8, 8, 8, 8, 8, 8, 8, 8, 8, 8, 8, 8, 8, 8, 8, 8, 8, 8, 8, 8, 8, 8, 8, 8, 8, 8, 8, 8, 8, 8, 8, 8, 8, 8, 8, 8, 8, 8, 8, 8, 8, 8, 8, 8, 8, 8, 8, 8, 8, 8, 8, 8, 8, 8, 8, 8, 8, 8, 8, 8, 8, 8, 8, 8, 8, 8, 8, 8, 8, 8, 8, 8, 8, 8, 8, 8, 8, 8, 8, 8, 8, 8, 8, 8, 8, 8, 8, 8, 8, 8, 8, 8, 8, 8, 8, 8, 8, 8, 8, 8, 8, 8, 8, 8, 8, 8, 8, 8, 8, 8, 8, 8, 8, 8] ((IntKind.u8.wrap (shr .u64 ((D.nth t2.2 0).int) 8)).toNat)))))]
    else
      none
  else
    bif (inB (IntKind.u8.wrap ((D.nth t2.2 0).int)) ([0, 1, 2, 2, 3, 3, 3, 3, 4, 4, 4, 4, 4, 4, 4, 4, 5, 5, 5, 5, 5, 5, 5, 5, 5, 5, 5, 5, 5, 5, 5, 5, 6, 6, 6, 6, 6, 6, 6, 6, 6, 6, 6, 6, 6, 6, 6, 6, 6, 6, 6, 6, 6, 6, 6, 6, 6, 6, 6, 6, 6, 6, 6, 6, 7, 7, 7, 7, 7, 7, 7, 7, 7, 7, 7, 7, 7, 7, 7, 7, 7, 7, 7, 7, 7, 7, 7, 7, 7, 7, 7, 7, 7, 7, 7, 7, 7, 7, 7, 7, 7, 7, 7, 7, 7, 7, 7, 7, 7, 7, 7, 7, 7, 7, 7, 7, 7, 7, 7, 7, 7, 7, 7, 7, 7, 7, 7, 7, 8, 8, 8, 8, 8, 8, 8, 8, 8, 8, 8, 8, 8, 8, 8, 8, 8, 8, 8, 8, 8, 8, 8, 8, 8, 8, 8, 8, 8, 8, 8, 8, 8, 8, 8, 8, 8, 8, 8, 8, 8, 8, 8, 8, 8, 8, 8, 8, 8, 8, 8, 8, 8, 8, 8, 8, 8, 8, 8, 8, 8, 8, 8, 8, 8, 8, 8, 8, 8, 8, 8, 8, 8, 8, 8, 8, 8, 8, 8, 8, 8, 8, 8, 8, 8, 8, 8, 8, 8, 8, 8, 8, 8, 8, 8, 8, 8, 8, 8, 8, 8, 8, 8, 8, 8, 8, 8, 8, 8, 8, 8, 8, 8, 8, 8, 8, 8, 8, 8, 8, 8, 8, 8, 8, 8, 8, 8, 8].length)) then
      some [D.i (IntKind.i64.wrap (((D.nth t2.2 1).int) + (IntKind.i64.wrap (byteAt [0, 1, 2, 2, 3, 3, 3, 3, 4, 4, 4, 4, 4, 4, 4, 4, 5, 5, 5, 5, 5, 5, 5, 5, 5, 5, 5, 5, 5, 5, 5, 5, 6, 6, 6, 6, 6, 6, 6, 6, 6, 6, 6, 6, 6, 6, 6, 6, 6, 6, 6, 6, 6, 6, 6, 6, 6, 6, 6, 6, 6, 6, 6, 6, 7, 7, 7, 7, 7, 7, 7, 7, 7, 7, 7, 7, 7, 7, 7, 7, 7, 7, 7, 7, 7, 7, 7, 7, 7, 7, 7, 7, 7, 7, 7, 7, 7, 7, 7, 7, 7, 7, 7, 7, 7, 7, 7, 7, 7, 7, 7, 7, 7, 7, 7, 7, 7, 7, 7, 7, 7, 7, 7, 7, 7, 7, 7, 7, 8, 8, 8, 8, 8, 8, 8, 8, 8, 8, 8, 8, 8, 8, 8, 8, 8, 8, 8, 8, 8, 8, 8, 8, 8, 8, 8, 8, 8, 8, 8, 8, 8, 8, 8, 8, 8, 8, 8, 8, 8, 8, 8, 8, 8, 8, 8, 8, 8, 8, 8, 8, 8, 8, 8, 8, 8, 8, 8, 8, 8, 8, 8, 8, 8, 8, 8, 8, 8, 8, 8, 8, 8, 8, 8, 8, 8, 8, 8, 8, 8, 8, 8, 8, 8, 8, 8, 8, 8, 8, 8, 8, 8, 8, 8, 8, 8, 8, 8, 8, 8, 8, 8, 8, 8, 8, 8, 8, 8, 8, 8, 8, 8, 8, 8, 8, 8, 8, 8, 8, 8, 8, 8, 8, 8, 8, 8, 8] ((IntKind.u8.wrap ((D.nth t2.2 0).int)).toNat)))))]
    else
      none
def e_bits_Len64 (K : Nat) : Entry := { n := 1, sh := { sl := [(0, .d 87 false)], ob := [] }, kept := [], rs := [{ sl := [(0, .d 3 true)], ob := [] }], f := fun ds => f_bits_Len64 K (D.nth ds 0), tot := none }
def T_bits_Len64 (K : Nat) : Tbl := { T0 with ents := entsOf [], cuts := lk [(0, c_bits_Len64_0 K), (1, c_bits_Len64_1 K)] }
theorem q_bits_Len64_1 (K : Nat) (ds : List D) : evPiece (T_bits_Len64 K) 25 (sub (codeOf Try.f93) [1, 1, 0, 1]) .go (c_bits_Len64_1 K) ds = b_bits_Len64_1 K ds := by kernel_rfl
theorem k_bits_Len64_1 (K : Nat) : CutOK Try.prog (T_bits_Len64 K) 25 (sub (codeOf Try.f93) [1, 1, 0, 1]) (c_bits_Len64_1 K) :=
  piece_thm (T := T_bits_Len64 K) (hT_of hT0 rfl rfl rfl) (hes_ok (T0 := T0) (T := T_bits_Len64 K) rfl rfl (trivial : FAll Try.prog T0 [])) rfl rfl rfl (cutsOK_none (by rfl)) (q_bits_Len64_1 K)
theorem q_bits_Len64_0 (K : Nat) (ds : List D) : evPiece (T_bits_Len64 K) 25 (sub (codeOf Try.f93) [1, 0, 1]) .go (c_bits_Len64_0 K) ds = b_bits_Len64_0 K ds := by kernel_rfl
theorem k_bits_Len64_0 (K : Nat) : CutOK Try.prog (T_bits_Len64 K) 25 (sub (codeOf Try.f93) [1, 0, 1]) (c_bits_Len64_0 K) :=
  piece_thm (T := T_bits_Len64 K) (hT_of hT0 rfl rfl rfl) (hes_ok (T0 := T0) (T := T_bits_Len64 K) rfl rfl (trivial : FAll Try.prog T0 [])) rfl rfl rfl (cutsOK_none (by rfl)) (q_bits_Len64_0 K)
theorem q_bits_Len64 (K : Nat) (ds : List D) : evFn (T_bits_Len64 K) Try.f93 (.seq .go (.seq (.seq .go (.cut 0)) (.seq (.seq .go (.cut 1)) .go))) (e_bits_Len64 K) ds = (e_bits_Len64 K).f ds := by kernel_rfl
theorem ok_bits_Len64 (K : Nat) : FnOK Try.prog T0 93 (e_bits_Len64 K) :=
  fn_thm (T0 := T0) (T := T_bits_Len64 K) rfl (hT_of hT0 rfl rfl rfl) (hes_ok (T0 := T0) (T := T_bits_Len64 K) rfl rfl (trivial : FAll Try.prog T0 [])) Try.func93 (by decide) rfl (Nat.le_of_ble_eq_true rfl) rfl rfl rfl (tot_none rfl) (cutsOK_list (l := [(0, sub (codeOf Try.f93) [1, 0, 1]), (1, sub (codeOf Try.f93) [1, 1, 0, 1])]) (by kernel_rfl) ⟨cut_one (u := c_bits_Len64_0 K) rfl (k_bits_Len64_0 K), cut_one (u := c_bits_Len64_1 K) rfl (k_bits_Len64_1 K), trivial⟩) (q_bits_Len64 K)
/-! ### 57 math/bits.Len -/
def f_bits_Len (K : Nat) (x : D) : Option (List D) :=
  (f_bits_Len64 K x).bind fun t1 =>
  some [D.nth t1 0]
def e_bits_Len (K : Nat) : Entry := { n := 1, sh := { sl := [(0, .d 87 false)], ob := [] }, kept := [], rs := [{ sl := [(0, .d 3 true)], ob := [] }], f := fun ds => f_bits_Len K (D.nth ds 0), tot := none }
def T_bits_Len (K : Nat) : Tbl := { T0 with ents := entsOf [(93, e_bits_Len64 K)], cuts := lk [] }
theorem q_bits_Len (K : Nat) (ds : List D) : evFn (T_bits_Len K) Try.f57 .go (e_bits_Len K) ds = (e_bits_Len K).f ds := by kernel_rfl
theorem ok_bits_Len (K : Nat) : FnOK Try.prog T0 57 (e_bits_Len K) :=
  fn_thm (T0 := T0) (T := T_bits_Len K) rfl (hT_of hT0 rfl rfl rfl) (hes_ok (T0 := T0) (T := T_bits_Len K) rfl rfl (⟨ok_bits_Len64 K, trivial⟩ : FAll Try.prog T0 [(93, e_bits_Len64 K)])) Try.func57 (by decide) rfl (Nat.le_of_ble_eq_true rfl) rfl rfl rfl (tot_none rfl) (cutsOK_none (by rfl)) (q_bits_Len K)
/-! ### 96 cmp.isNaN[int] -/
def p_cmp_isNaN_int (x : D) : List D := [D.b (x.int != x.int)]
def e_cmp_isNaN_int (K : Nat) : Entry := { n := 1, sh := { sl := [(0, .d 3 false)], ob := [] }, kept := [], rs := [{ sl := [(0, .d 4 true)], ob := [] }], f := fun ds => some (p_cmp_isNaN_int (D.nth ds 0)), tot := some fun ds => p_cmp_isNaN_int (D.nth ds 0) }
def T_cmp_isNaN_int (K : Nat) : Tbl := { T0 with ents := entsOf [], cuts := lk [] }
theorem q_cmp_isNaN_int (K : Nat) (ds : List D) : evFn (T_cmp_isNaN_int K) Try.f96 .go (e_cmp_isNaN_int K) ds = (e_cmp_isNaN_int K).f ds := by kernel_rfl
theorem ok_cmp_isNaN_int (K : Nat) : FnOK Try.prog T0 96 (e_cmp_isNaN_int K) :=
  fn_thm (T0 := T0) (T := T_cmp_isNaN_int K) rfl (hT_of hT0 rfl rfl rfl) (hes_ok (T0 := T0) (T := T_cmp_isNaN_int K) rfl rfl (trivial : FAll Try.prog T0 [])) Try.func96 (by decide) rfl (Nat.le_of_ble_eq_true rfl) rfl rfl rfl (tot_some rfl fun _ => rfl) (cutsOK_none (by rfl)) (q_cmp_isNaN_int K)
/-! ### 89 cmp.Less[int] -/
def p_cmp_Less_int (x y : D) : List D := [D.b (bif (bif (D.nth (p_cmp_isNaN_int x) 0).bool then (!((D.nth (p_cmp_isNaN_int y) 0).bool)) else false) then true else (ltI x.int y.int))]
def e_cmp_Less_int (K : Nat) : Entry := { n := 2, sh := { sl := [(0, .d 3 false), (1, .d 3 false)], ob := [] }, kept := [], rs := [{ sl := [(0, .d 4 true)], ob := [] }], f := fun ds => some (p_cmp_Less_int (D.nth ds 0) (D.nth ds 1)), tot := some fun ds => p_cmp_Less_int (D.nth ds 0) (D.nth ds 1) }
def T_cmp_Less_int (K : Nat) : Tbl := { T0 with ents := entsOf [(96, e_cmp_isNaN_int K)], cuts := lk [] }
theorem q_cmp_Less_int (K : Nat) (ds : List D) : evFn (T_cmp_Less_int K) Try.f89 .go (e_cmp_Less_int K) ds = (e_cmp_Less_int K).f ds := by kernel_rfl
theorem ok_cmp_Less_int (K : Nat) : FnOK Try.prog T0 89 (e_cmp_Less_int K) :=
  fn_thm (T0 := T0) (T := T_cmp_Less_int K) rfl (hT_of hT0 rfl rfl rfl) (hes_ok (T0 := T0) (T := T_cmp_Less_int K) rfl rfl (⟨ok_cmp_isNaN_int K, trivial⟩ : FAll Try.prog T0 [(96, e_cmp_isNaN_int K)])) Try.func89 (by decide) rfl (Nat.le_of_ble_eq_true rfl) rfl rfl rfl (tot_some rfl fun _ => rfl) (cutsOK_none (by rfl)) (q_cmp_Less_int K)
/-! ### 83 slices.insertionSortOrdered[int] -/
def b_slices_insertionSortOrdered_int_1 (K : Nat) (rec : List D → Option (Nat × List D)) (ds : List D) : Option (Nat × List D) :=
  let a := D.nth ds 0
  let j := D.nth ds 1
  let r0 := D.nth ds 2
  bif ((!(gtI j.int a.int)) || (inB j.int r0.list.length)) then
    bif ((!(gtI j.int a.int)) || (inB (IntKind.i64.wrap (j.int - (1 : Int))) r0.list.length)) then
      bif (bif (gtI j.int a.int) then (D.nth (p_cmp_Less_int (D.nth r0.list j.int.toNat) (D.nth r0.list ((IntKind.i64.wrap (j.int - (1 : Int))).toNat))) 0).bool else false) then
        bif (inB (IntKind.i64.wrap (j.int - (1 : Int))) r0.list.length) then
          bif (inB j.int r0.list.length) then
            bif (inB j.int r0.list.length) then
              bif (inB (IntKind.i64.wrap (j.int - (1 : Int))) ((D.setNth r0.list j.int.toNat (D.nth r0.list ((IntKind.i64.wrap (j.int - (1 : Int))).toNat))).length)) then
                rec [a, D.i (IntKind.i64.wrap (j.int - (1 : Int))), D.n (D.setNth (D.setNth r0.list j.int.toNat (D.nth r0.list ((IntKind.i64.wrap (j.int - (1 : Int))).toNat))) ((IntKind.i64.wrap (j.int - (1 : Int))).toNat) (D.nth r0.list j.int.toNat))]
              else
                none
            else
              none
          else
            none
        else
          none
      else
        some (0, [D.n r0.list])
    else
      none
  else
    none
def c_slices_insertionSortOrdered_int_1 (K : Nat) : Cut := { sh := { sl := [(0, .own 22 0), (1, .d 3 true), (7, .d 3 true)], ob := [(0, .row 3 true)] }, kept := [0], outs := [(.exit 2, { sl := [], ob := [(0, .row 3 true)] })], f := fun ds => fixN (b_slices_insertionSortOrdered_int_1 K) K ds }
def b_slices_insertionSortOrdered_int_0 (K : Nat) (rec : List D → Option (Nat × List D)) (ds : List D) : Option (Nat × List D) :=
  let a := D.nth ds 0
  let b := D.nth ds 1
  let i := D.nth ds 2
  let r0 := D.nth ds 3
  bif (ltI i.int b.int) then
    (fixN (b_slices_insertionSortOrdered_int_1 K) K [a, i, D.n r0.list]).bind fun t1 =>
    rec [a, b, D.i (IntKind.i64.wrap (i.int + (1 : Int))), D.n ((D.nth t1.2 0).list)]
  else
    some (0, [D.n r0.list])
def c_slices_insertionSortOrdered_int_0 (K : Nat) : Cut := { sh := { sl := [(0, .own 22 0), (1, .d 3 true), (2, .d 3 true), (6, .d 3 true)], ob := [(0, .row 3 true)] }, kept := [0], outs := [(.exit 0, { sl := [], ob := [(0, .row 3 true)] })], f := fun ds => fixN (b_slices_insertionSortOrdered_int_0 K) K ds }
def f_slices_insertionSortOrdered_int (K : Nat) (a b r0 : D) : Option (List D) :=
  (fixN (b_slices_insertionSortOrdered_int_0 K) K [a, b, D.i (IntKind.i64.wrap (a.int + (1 : Int))), D.n r0.list]).bind fun t1 =>
  some [D.n ((D.nth t1.2 0).list)]
def e_slices_insertionSortOrdered_int (K : Nat) : Entry := { n := 3, sh := { sl := [(0, .own 22 0), (1, .d 3 false), (2, .d 3 false)], ob := [(0, .row 3 true)] }, kept := [0], rs := [{ sl := [(0, .tup [])], ob := [(0, .row 3 true)] }], f := fun ds => f_slices_insertionSortOrdered_int K (D.nth ds 0) (D.nth ds 1) (D.nth ds 2), tot := none }
def T_slices_insertionSortOrdered_int (K : Nat) : Tbl := { T0 with ents := entsOf [(89, e_cmp_Less_int K)], cuts := lk [(0, c_slices_insertionSortOrdered_int_0 K), (1, c_slices_insertionSortOrdered_int_1 K)] }
theorem q_slices_insertionSortOrdered_int_1 (K : Nat) (rec : List D → Option (Nat × List D)) (ds : List D) : evLoop (T_slices_insertionSortOrdered_int K) 49 (sub (codeOf Try.f83) [1, 0, 0, 1, 0, 0, 1, 0, 0]) .go (c_slices_insertionSortOrdered_int_1 K) rec ds = b_slices_insertionSortOrdered_int_1 K rec ds := by kernel_rfl
theorem k_slices_insertionSortOrdered_int_1 (K : Nat) : CutOK Try.prog (T_slices_insertionSortOrdered_int K) 49 (sub (codeOf Try.f83) [1, 0, 0, 1, 0, 0, 1, 0]) (c_slices_insertionSortOrdered_int_1 K) :=
  loop_thm (T := T_slices_insertionSortOrdered_int K) (hT_of hT0 rfl rfl rfl) (hes_ok (T0 := T0) (T := T_slices_insertionSortOrdered_int K) rfl rfl (⟨ok_cmp_Less_int K, trivial⟩ : FAll Try.prog T0 [(89, e_cmp_Less_int K)])) (by kernel_rfl) rfl rfl rfl (cutsOK_none (by rfl)) rfl (q_slices_insertionSortOrdered_int_1 K)
theorem q_slices_insertionSortOrdered_int_0 (K : Nat) (rec : List D → Option (Nat × List D)) (ds : List D) : evLoop (T_slices_insertionSortOrdered_int K) 49 (sub (codeOf Try.f83) [1, 0, 0]) (.seq .go (.seq (.blk (.seq .go (.blk (.cut 1)))) .go)) (c_slices_insertionSortOrdered_int_0 K) rec ds = b_slices_insertionSortOrdered_int_0 K rec ds := by kernel_rfl
theorem k_slices_insertionSortOrdered_int_0 (K : Nat) : CutOK Try.prog (T_slices_insertionSortOrdered_int K) 49 (sub (codeOf Try.f83) [1, 0]) (c_slices_insertionSortOrdered_int_0 K) :=
  loop_thm (T := T_slices_insertionSortOrdered_int K) (hT_of hT0 rfl rfl rfl) (hes_ok (T0 := T0) (T := T_slices_insertionSortOrdered_int K) rfl rfl (⟨ok_cmp_Less_int K, trivial⟩ : FAll Try.prog T0 [(89, e_cmp_Less_int K)])) (by kernel_rfl) rfl rfl rfl (cutsOK_list (l := [(1, sub (codeOf Try.f83) [1, 0, 0, 1, 0, 0, 1, 0])]) (by kernel_rfl) ⟨cut_one (u := c_slices_insertionSortOrdered_int_1 K) rfl (k_slices_insertionSortOrdered_int_1 K), trivial⟩) rfl (q_slices_insertionSortOrdered_int_0 K)
theorem q_slices_insertionSortOrdered_int (K : Nat) (ds : List D) : evFn (T_slices_insertionSortOrdered_int K) Try.f83 (.seq .go (.blk (.cut 0))) (e_slices_insertionSortOrdered_int K) ds = (e_slices_insertionSortOrdered_int K).f ds := by kernel_rfl
theorem ok_slices_insertionSortOrdered_int (K : Nat) : FnOK Try.prog T0 83 (e_slices_insertionSortOrdered_int K) :=
  fn_thm (T0 := T0) (T := T_slices_insertionSortOrdered_int K) rfl (hT_of hT0 rfl rfl rfl) (hes_ok (T0 := T0) (T := T_slices_insertionSortOrdered_int K) rfl rfl (⟨ok_cmp_Less_int K, trivial⟩ : FAll Try.prog T0 [(89, e_cmp_Less_int K)])) Try.func83 (by decide) rfl (Nat.le_of_ble_eq_true rfl) rfl rfl rfl (tot_none rfl) (cutsOK_list (l := [(0, sub (codeOf Try.f83) [1, 0])]) (by kernel_rfl) ⟨cut_one (u := c_slices_insertionSortOrdered_int_0 K) rfl (k_slices_insertionSortOrdered_int_0 K), trivial⟩) (q_slices_insertionSortOrdered_int K)
/-! ### 105 slices.siftDownOrdered[int] -/
def b_slices_siftDownOrdered_int_1 (K : Nat) (ds : List D) : Option (Nat × List D) :=
  let child := D.nth ds 0
  let s36 := D.nth ds 1
  bif s36.bool then
    some (0, [D.i (IntKind.i64.wrap (child.int + (1 : Int)))])
  else
    some (0, [child])
def c_slices_siftDownOrdered_int_1 (K : Nat) : Cut := { sh := { sl := [(9, .d 3 true), (36, .d 4 true)], ob := [] }, kept := [], outs := [(.normal, { sl := [(9, .d 3 true)], ob := [] })], f := b_slices_siftDownOrdered_int_1 K }
def b_slices_siftDownOrdered_int_0 (K : Nat) (rec : List D → Option (Nat × List D)) (ds : List D) : Option (Nat × List D) :=
  let hi := D.nth ds 0
  let first := D.nth ds 1
  let root := D.nth ds 2
  let r0 := D.nth ds 3
  bif (geI (IntKind.i64.wrap ((IntKind.i64.wrap ((2 : Int) * root.int)) + (1 : Int))) hi.int) then
    some (0, [D.n r0.list])
  else
    bif ((!(ltI (IntKind.i64.wrap ((IntKind.i64.wrap ((IntKind.i64.wrap ((2 : Int) * root.int)) + (1 : Int))) + (1 : Int))) hi.int)) || (inB (IntKind.i64.wrap (first.int + (IntKind.i64.wrap ((IntKind.i64.wrap ((2 : Int) * root.int)) + (1 : Int))))) r0.list.length)) then
      bif ((!(ltI (IntKind.i64.wrap ((IntKind.i64.wrap ((IntKind.i64.wrap ((2 : Int) * root.int)) + (1 : Int))) + (1 : Int))) hi.int)) || (inB (IntKind.i64.wrap ((IntKind.i64.wrap (first.int + (IntKind.i64.wrap ((IntKind.i64.wrap ((2 : Int) * root.int)) + (1 : Int))))) + (1 : Int))) r0.list.length)) then
        (b_slices_siftDownOrdered_int_1 K [D.i (IntKind.i64.wrap ((IntKind.i64.wrap ((2 : Int) * root.int)) + (1 : Int))), D.b (bif (ltI (IntKind.i64.wrap ((IntKind.i64.wrap ((IntKind.i64.wrap ((2 : Int) * root.int)) + (1 : Int))) + (1 : Int))) hi.int) then (D.nth (p_cmp_Less_int (D.nth r0.list ((IntKind.i64.wrap (first.int + (IntKind.i64.wrap ((IntKind.i64.wrap ((2 : Int) * root.int)) + (1 : Int))))).toNat)) (D.nth r0.list ((IntKind.i64.wrap ((IntKind.i64.wrap (first.int + (IntKind.i64.wrap ((IntKind.i64.wrap ((2 : Int) * root.int)) + (1 : Int))))) + (1 : Int))).toNat))) 0).bool else false)]).bind fun t1 =>
        bif (inB (IntKind.i64.wrap (first.int + root.int)) r0.list.length) then
          bif (inB (IntKind.i64.wrap (first.int + ((D.nth t1.2 0).int))) r0.list.length) then
            bif (!((D.nth (p_cmp_Less_int (D.nth r0.list ((IntKind.i64.wrap (first.int + root.int)).toNat)) (D.nth r0.list ((IntKind.i64.wrap (first.int + ((D.nth t1.2 0).int))).toNat))) 0).bool)) then
              some (1, [D.n r0.list])
            else
              bif (inB (IntKind.i64.wrap (first.int + ((D.nth t1.2 0).int))) r0.list.length) then
                bif (inB (IntKind.i64.wrap (first.int + root.int)) r0.list.length) then
                  bif (inB (IntKind.i64.wrap (first.int + root.int)) r0.list.length) then
                    bif (inB (IntKind.i64.wrap (first.int + ((D.nth t1.2 0).int))) ((D.setNth r0.list ((IntKind.i64.wrap (first.int + root.int)).toNat) (D.nth r0.list ((IntKind.i64.wrap (first.int + ((D.nth t1.2 0).int))).toNat))).length)) then
                      rec [hi, first, D.nth t1.2 0, D.n (D.setNth (D.setNth r0.list ((IntKind.i64.wrap (first.int + root.int)).toNat) (D.nth r0.list ((IntKind.i64.wrap (first.int + ((D.nth t1.2 0).int))).toNat))) ((IntKind.i64.wrap (first.int + ((D.nth t1.2 0).int))).toNat) (D.nth r0.list ((IntKind.i64.wrap (first.int + root.int)).toNat)))]
                    else
                      none
                  else
                    none
                else
                  none
              else
                none
          else
            none
        else
          none
      else
        none
    else
      none
def c_slices_siftDownOrdered_int_0 (K : Nat) : Cut := { sh := { sl := [(0, .own 22 0), (2, .d 3 true), (3, .d 3 true), (8, .d 3 true)], ob := [(0, .row 3 true)] }, kept := [0], outs := [(.exit 0, { sl := [], ob := [(0, .row 3 true)] }), (.ret, { sl := [], ob := [(0, .row 3 true)] })], f := fun ds => fixN (b_slices_siftDownOrdered_int_0 K) K ds }
def f_slices_siftDownOrdered_int (K : Nat) (lo hi first r0 : D) : Option (List D) :=
  (fixN (b_slices_siftDownOrdered_int_0 K) K [hi, first, lo, D.n r0.list]).bind fun t1 =>
  bif (t1.1.beq 0) then
    some [D.n ((D.nth t1.2 0).list)]
  else
    some [D.n ((D.nth t1.2 0).list)]
def e_slices_siftDownOrdered_int (K : Nat) : Entry := { n := 4, sh := { sl := [(0, .own 22 0), (1, .d 3 false), (2, .d 3 false), (3, .d 3 false)], ob := [(0, .row 3 true)] }, kept := [0], rs := [{ sl := [(0, .tup [])], ob := [(0, .row 3 true)] }], f := fun ds => f_slices_siftDownOrdered_int K (D.nth ds 0) (D.nth ds 1) (D.nth ds 2) (D.nth ds 3), tot := none }
def T_slices_siftDownOrdered_int (K : Nat) : Tbl := { T0 with ents := entsOf [(89, e_cmp_Less_int K)], cuts := lk [(0, c_slices_siftDownOrdered_int_0 K), (1, c_slices_siftDownOrdered_int_1 K)] }
theorem q_slices_siftDownOrdered_int_1 (K : Nat) (ds : List D) : evPiece (T_slices_siftDownOrdered_int K) 76 (sub (codeOf Try.f105) [1, 0, 0, 0, 1, 1, 0, 1]) .go (c_slices_siftDownOrdered_int_1 K) ds = b_slices_siftDownOrdered_int_1 K ds := by kernel_rfl
theorem k_slices_siftDownOrdered_int_1 (K : Nat) : CutOK Try.prog (T_slices_siftDownOrdered_int K) 76 (sub (codeOf Try.f105) [1, 0, 0, 0, 1, 1, 0, 1]) (c_slices_siftDownOrdered_int_1 K) :=
  piece_thm (T := T_slices_siftDownOrdered_int K) (hT_of hT0 rfl rfl rfl) (hes_ok (T0 := T0) (T := T_slices_siftDownOrdered_int K) rfl rfl (⟨ok_cmp_Less_int K, trivial⟩ : FAll Try.prog T0 [(89, e_cmp_Less_int K)])) rfl rfl rfl (cutsOK_none (by rfl)) (q_slices_siftDownOrdered_int_1 K)
theorem q_slices_siftDownOrdered_int_0 (K : Nat) (rec : List D → Option (Nat × List D)) (ds : List D) : evLoop (T_slices_siftDownOrdered_int K) 76 (sub (codeOf Try.f105) [1, 0, 0]) (.blk (.seq .go (.seq .go (.seq (.seq .go (.cut 1)) .go)))) (c_slices_siftDownOrdered_int_0 K) rec ds = b_slices_siftDownOrdered_int_0 K rec ds := by kernel_rfl
theorem k_slices_siftDownOrdered_int_0 (K : Nat) : CutOK Try.prog (T_slices_siftDownOrdered_int K) 76 (sub (codeOf Try.f105) [1, 0]) (c_slices_siftDownOrdered_int_0 K) :=
  loop_thm (T := T_slices_siftDownOrdered_int K) (hT_of hT0 rfl rfl rfl) (hes_ok (T0 := T0) (T := T_slices_siftDownOrdered_int K) rfl rfl (⟨ok_cmp_Less_int K, trivial⟩ : FAll Try.prog T0 [(89, e_cmp_Less_int K)])) (by kernel_rfl) rfl rfl rfl (cutsOK_list (l := [(1, sub (codeOf Try.f105) [1, 0, 0, 0, 1, 1, 0, 1])]) (by kernel_rfl) ⟨cut_one (u := c_slices_siftDownOrdered_int_1 K) rfl (k_slices_siftDownOrdered_int_1 K), trivial⟩) rfl (q_slices_siftDownOrdered_int_0 K)
theorem q_slices_siftDownOrdered_int (K : Nat) (ds : List D) : evFn (T_slices_siftDownOrdered_int K) Try.f105 (.seq .go (.blk (.cut 0))) (e_slices_siftDownOrdered_int K) ds = (e_slices_siftDownOrdered_int K).f ds := by kernel_rfl
theorem ok_slices_siftDownOrdered_int (K : Nat) : FnOK Try.prog T0 105 (e_slices_siftDownOrdered_int K) :=
  fn_thm (T0 := T0) (T := T_slices_siftDownOrdered_int K) rfl (hT_of hT0 rfl rfl rfl) (hes_ok (T0 := T0) (T := T_slices_siftDownOrdered_int K) rfl rfl (⟨ok_cmp_Less_int K, trivial⟩ : FAll Try.prog T0 [(89, e_cmp_Less_int K)])) Try.func105 (by decide) rfl (Nat.le_of_ble_eq_true rfl) rfl rfl rfl (tot_none rfl) (cutsOK_list (l := [(0, sub (codeOf Try.f105) [1, 0])]) (by kernel_rfl) ⟨cut_one (u := c_slices_siftDownOrdered_int_0 K) rfl (k_slices_siftDownOrdered_int_0 K), trivial⟩) (q_slices_siftDownOrdered_int K)
/-! ### 84 slices.heapSortOrdered[int] -/
def b_slices_heapSortOrdered_int_0 (K : Nat) (rec : List D → Option (Nat × List D)) (ds : List D) : Option (Nat × List D) :=
  let first := D.nth ds 0
  let hi := D.nth ds 1
  let i := D.nth ds 2
  let r0 := D.nth ds 3
  bif (geI i.int 0) then
    (f_slices_siftDownOrdered_int K i hi first (D.n r0.list)).bind fun t1 =>
    rec [first, hi, D.i (IntKind.i64.wrap (i.int - (1 : Int))), D.n ((D.nth t1 0).list)]
  else
    some (0, [D.n r0.list])
def c_slices_heapSortOrdered_int_0 (K : Nat) : Cut := { sh := { sl := [(0, .own 22 0), (6, .d 3 true), (8, .d 3 true), (9, .d 3 true)], ob := [(0, .row 3 true)] }, kept := [0], outs := [(.exit 0, { sl := [], ob := [(0, .row 3 true)] })], f := fun ds => fixN (b_slices_heapSortOrdered_int_0 K) K ds }
def b_slices_heapSortOrdered_int_1 (K : Nat) (rec : List D → Option (Nat × List D)) (ds : List D) : Option (Nat × List D) :=
  let first := D.nth ds 0
  let lo := D.nth ds 1
  let i := D.nth ds 2
  let r0 := D.nth ds 3
  bif (geI i.int 0) then
    bif (inB (IntKind.i64.wrap (first.int + i.int)) r0.list.length) then
      bif (inB first.int r0.list.length) then
        bif (inB first.int r0.list.length) then
          bif (inB (IntKind.i64.wrap (first.int + i.int)) ((D.setNth r0.list first.int.toNat (D.nth r0.list ((IntKind.i64.wrap (first.int + i.int)).toNat))).length)) then
            (f_slices_siftDownOrdered_int K lo i first (D.n (D.setNth (D.setNth r0.list first.int.toNat (D.nth r0.list ((IntKind.i64.wrap (first.int + i.int)).toNat))) ((IntKind.i64.wrap (first.int + i.int)).toNat) (D.nth r0.list first.int.toNat)))).bind fun t2 =>
            rec [first, lo, D.i (IntKind.i64.wrap (i.int - (1 : Int))), D.n ((D.nth t2 0).list)]
          else
            none
        else
          none
      else
        none
    else
      none
  else
    some (0, [D.n r0.list])
def c_slices_heapSortOrdered_int_1 (K : Nat) : Cut := { sh := { sl := [(0, .own 22 0), (6, .d 3 true), (7, .d 3 true), (10, .d 3 true)], ob := [(0, .row 3 true)] }, kept := [0], outs := [(.exit 2, { sl := [], ob := [(0, .row 3 true)] })], f := fun ds => fixN (b_slices_heapSortOrdered_int_1 K) K ds }
def f_slices_heapSortOrdered_int (K : Nat) (a b r0 : D) : Option (List D) :=
  (fixN (b_slices_heapSortOrdered_int_0 K) K [a, D.i (IntKind.i64.wrap (b.int - a.int)), D.i (IntKind.i64.wrap (Int.tdiv (IntKind.i64.wrap ((IntKind.i64.wrap (b.int - a.int)) - (1 : Int))) (2 : Int))), D.n r0.list]).bind fun t1 =>
  (fixN (b_slices_heapSortOrdered_int_1 K) K [a, D.i 0, D.i (IntKind.i64.wrap ((IntKind.i64.wrap (b.int - a.int)) - (1 : Int))), D.n ((D.nth t1.2 0).list)]).bind fun t2 =>
  some [D.n ((D.nth t2.2 0).list)]
def e_slices_heapSortOrdered_int (K : Nat) : Entry := { n := 3, sh := { sl := [(0, .own 22 0), (1, .d 3 false), (2, .d 3 false)], ob := [(0, .row 3 true)] }, kept := [0], rs := [{ sl := [(0, .tup [])], ob := [(0, .row 3 true)] }], f := fun ds => f_slices_heapSortOrdered_int K (D.nth ds 0) (D.nth ds 1) (D.nth ds 2), tot := none }
def T_slices_heapSortOrdered_int (K : Nat) : Tbl := { T0 with ents := entsOf [(105, e_slices_siftDownOrdered_int K)], cuts := lk [(0, c_slices_heapSortOrdered_int_0 K), (1, c_slices_heapSortOrdered_int_1 K)] }
theorem q_slices_heapSortOrdered_int_0 (K : Nat) (rec : List D → Option (Nat × List D)) (ds : List D) : evLoop (T_slices_heapSortOrdered_int K) 56 (sub (codeOf Try.f84) [1, 1, 1, 0, 1, 0, 0]) .go (c_slices_heapSortOrdered_int_0 K) rec ds = b_slices_heapSortOrdered_int_0 K rec ds := by kernel_rfl
theorem k_slices_heapSortOrdered_int_0 (K : Nat) : CutOK Try.prog (T_slices_heapSortOrdered_int K) 56 (sub (codeOf Try.f84) [1, 1, 1, 0, 1, 0]) (c_slices_heapSortOrdered_int_0 K) :=
  loop_thm (T := T_slices_heapSortOrdered_int K) (hT_of hT0 rfl rfl rfl) (hes_ok (T0 := T0) (T := T_slices_heapSortOrdered_int K) rfl rfl (⟨ok_slices_siftDownOrdered_int K, trivial⟩ : FAll Try.prog T0 [(105, e_slices_siftDownOrdered_int K)])) (by kernel_rfl) rfl rfl rfl (cutsOK_none (by rfl)) rfl (q_slices_heapSortOrdered_int_0 K)
theorem q_slices_heapSortOrdered_int_1 (K : Nat) (rec : List D → Option (Nat × List D)) (ds : List D) : evLoop (T_slices_heapSortOrdered_int K) 56 (sub (codeOf Try.f84) [1, 1, 1, 1, 1, 0, 0]) .go (c_slices_heapSortOrdered_int_1 K) rec ds = b_slices_heapSortOrdered_int_1 K rec ds := by kernel_rfl
theorem k_slices_heapSortOrdered_int_1 (K : Nat) : CutOK Try.prog (T_slices_heapSortOrdered_int K) 56 (sub (codeOf Try.f84) [1, 1, 1, 1, 1, 0]) (c_slices_heapSortOrdered_int_1 K) :=
  loop_thm (T := T_slices_heapSortOrdered_int K) (hT_of hT0 rfl rfl rfl) (hes_ok (T0 := T0) (T := T_slices_heapSortOrdered_int K) rfl rfl (⟨ok_slices_siftDownOrdered_int K, trivial⟩ : FAll Try.prog T0 [(105, e_slices_siftDownOrdered_int K)])) (by kernel_rfl) rfl rfl rfl (cutsOK_none (by rfl)) rfl (q_slices_heapSortOrdered_int_1 K)
theorem q_slices_heapSortOrdered_int (K : Nat) (ds : List D) : evFn (T_slices_heapSortOrdered_int K) Try.f84 (.seq .go (.seq .go (.seq .go (.seq (.seq .go (.blk (.cut 0))) (.seq .go (.blk (.cut 1))))))) (e_slices_heapSortOrdered_int K) ds = (e_slices_heapSortOrdered_int K).f ds := by kernel_rfl
theorem ok_slices_heapSortOrdered_int (K : Nat) : FnOK Try.prog T0 84 (e_slices_heapSortOrdered_int K) :=
  fn_thm (T0 := T0) (T := T_slices_heapSortOrdered_int K) rfl (hT_of hT0 rfl rfl rfl) (hes_ok (T0 := T0) (T := T_slices_heapSortOrdered_int K) rfl rfl (⟨ok_slices_siftDownOrdered_int K, trivial⟩ : FAll Try.prog T0 [(105, e_slices_siftDownOrdered_int K)])) Try.func84 (by decide) rfl (Nat.le_of_ble_eq_true rfl) rfl rfl rfl (tot_none rfl) (cutsOK_list (l := [(0, sub (codeOf Try.f84) [1, 1, 1, 0, 1, 0]), (1, sub (codeOf Try.f84) [1, 1, 1, 1, 1, 0])]) (by kernel_rfl) ⟨cut_one (u := c_slices_heapSortOrdered_int_0 K) rfl (k_slices_heapSortOrdered_int_0 K), cut_one (u := c_slices_heapSortOrdered_int_1 K) rfl (k_slices_heapSortOrdered_int_1 K), trivial⟩) (q_slices_heapSortOrdered_int K)
/-! ### 106 slices.nextPowerOfTwo -/
def f_slices_nextPowerOfTwo (K : Nat) (length : D) : Option (List D) :=
  (f_bits_Len K (D.i (IntKind.u64.wrap length.int))).bind fun t1 =>
  bif (!(ltI ((D.nth t1 0).int) 0)) then
    some [D.i (shl .u64 1 ((D.nth t1 0).int))]
  else
    none
def e_slices_nextPowerOfTwo (K : Nat) : Entry := { n := 1, sh := { sl := [(0, .d 3 false)], ob := [] }, kept := [], rs := [{ sl := [(0, .d 87 true)], ob := [] }], f := fun ds => f_slices_nextPowerOfTwo K (D.nth ds 0), tot := none }
def T_slices_nextPowerOfTwo (K : Nat) : Tbl := { T0 with ents := entsOf [(57, e_bits_Len K)], cuts := lk [] }
theorem q_slices_nextPowerOfTwo (K : Nat) (ds : List D) : evFn (T_slices_nextPowerOfTwo K) Try.f106 .go (e_slices_nextPowerOfTwo K) ds = (e_slices_nextPowerOfTwo K).f ds := by kernel_rfl
theorem ok_slices_nextPowerOfTwo (K : Nat) : FnOK Try.prog T0 106 (e_slices_nextPowerOfTwo K) :=
  fn_thm (T0 := T0) (T := T_slices_nextPowerOfTwo K) rfl (hT_of hT0 rfl rfl rfl) (hes_ok (T0 := T0) (T := T_slices_nextPowerOfTwo K) rfl rfl (⟨ok_bits_Len K, trivial⟩ : FAll Try.prog T0 [(57, e_bits_Len K)])) Try.func106 (by decide) rfl (Nat.le_of_ble_eq_true rfl) rfl rfl rfl (tot_none rfl) (cutsOK_none (by rfl)) (q_slices_nextPowerOfTwo K)
/-! ### 107 (*slices.xorshift).Next -/
def p_slices_xorshift_Next (o0 : D) : List D := [D.i (bitsI .xor .u64 (bitsI .xor .u64 (bitsI .xor .u64 o0.int (shl .u64 o0.int 13)) (shr .u64 (bitsI .xor .u64 o0.int (shl .u64 o0.int 13)) 7)) (shl .u64 (bitsI .xor .u64 (bitsI .xor .u64 o0.int (shl .u64 o0.int 13)) (shr .u64 (bitsI .xor .u64 o0.int (shl .u64 o0.int 13)) 7)) 17)), D.i (bitsI .xor .u64 (bitsI .xor .u64 (bitsI .xor .u64 o0.int (shl .u64 o0.int 13)) (shr .u64 (bitsI .xor .u64 o0.int (shl .u64 o0.int 13)) 7)) (shl .u64 (bitsI .xor .u64 (bitsI .xor .u64 o0.int (shl .u64 o0.int 13)) (shr .u64 (bitsI .xor .u64 o0.int (shl .u64 o0.int 13)) 7)) 17))]
def e_slices_xorshift_Next (K : Nat) : Entry := { n := 1, sh := { sl := [(0, .ptr 134 0 [])], ob := [(0, .box 134 (.d 134 false))] }, kept := [0], rs := [{ sl := [(0, .d 134 true)], ob := [(0, .box 134 (.d 134 true))] }], f := fun ds => some (p_slices_xorshift_Next (D.nth ds 0)), tot := some fun ds => p_slices_xorshift_Next (D.nth ds 0) }
def T_slices_xorshift_Next (K : Nat) : Tbl := { T0 with ents := entsOf [], cuts := lk [] }
theorem q_slices_xorshift_Next (K : Nat) (ds : List D) : evFn (T_slices_xorshift_Next K) Try.f107 .go (e_slices_xorshift_Next K) ds = (e_slices_xorshift_Next K).f ds := by kernel_rfl
theorem ok_slices_xorshift_Next (K : Nat) : FnOK Try.prog T0 107 (e_slices_xorshift_Next K) :=
  fn_thm (T0 := T0) (T := T_slices_xorshift_Next K) rfl (hT_of hT0 rfl rfl rfl) (hes_ok (T0 := T0) (T := T_slices_xorshift_Next K) rfl rfl (trivial : FAll Try.prog T0 [])) Try.func107 (by decide) rfl (Nat.le_of_ble_eq_true rfl) rfl rfl rfl (tot_some rfl fun _ => rfl) (cutsOK_none (by rfl)) (q_slices_xorshift_Next K)
/-! ### 85 slices.breakPatternsOrdered[int] -/
def b_slices_breakPatternsOrdered_int_1 (K : Nat) (ds : List D) : Option (Nat × List D) :=
  let length := D.nth ds 0
  let other := D.nth ds 1
  let s43 := D.nth ds 2
  bif s43.bool then
    some (0, [D.i (IntKind.i64.wrap (other.int - length.int))])
  else
    some (0, [other])
def c_slices_breakPatternsOrdered_int_1 (K : Nat) : Cut := { sh := { sl := [(6, .d 3 true), (10, .d 3 true), (43, .d 4 true)], ob := [] }, kept := [], outs := [(.normal, { sl := [(10, .d 3 true)], ob := [] })], f := b_slices_breakPatternsOrdered_int_1 K }
def b_slices_breakPatternsOrdered_int_0 (K : Nat) (rec : List D → Option (Nat × List D)) (ds : List D) : Option (Nat × List D) :=
  let a := D.nth ds 0
  let length := D.nth ds 1
  let modulus := D.nth ds 2
  let idx := D.nth ds 3
  let r0 := D.nth ds 4
  let o1 := D.nth ds 5
  bif (leI idx.int (IntKind.i64.wrap ((IntKind.i64.wrap (a.int + (IntKind.i64.wrap ((IntKind.i64.wrap (Int.tdiv length.int (4 : Int))) * (2 : Int))))) + (1 : Int)))) then
    (b_slices_breakPatternsOrdered_int_1 K [length, D.i (IntKind.i64.wrap (bitsI .and .u64 ((D.nth (p_slices_xorshift_Next o1) 0).int) (IntKind.u64.wrap (modulus.int - (1 : Int))))), D.b (geI (IntKind.i64.wrap (bitsI .and .u64 ((D.nth (p_slices_xorshift_Next o1) 0).int) (IntKind.u64.wrap (modulus.int - (1 : Int))))) length.int)]).bind fun t2 =>
    bif (inB (IntKind.i64.wrap (a.int + ((D.nth t2.2 0).int))) r0.list.length) then
      bif (inB idx.int r0.list.length) then
        bif (inB idx.int r0.list.length) then
          bif (inB (IntKind.i64.wrap (a.int + ((D.nth t2.2 0).int))) ((D.setNth r0.list idx.int.toNat (D.nth r0.list ((IntKind.i64.wrap (a.int + ((D.nth t2.2 0).int))).toNat))).length)) then
            rec [a, length, modulus, D.i (IntKind.i64.wrap (idx.int + (1 : Int))), D.n (D.setNth (D.setNth r0.list idx.int.toNat (D.nth r0.list ((IntKind.i64.wrap (a.int + ((D.nth t2.2 0).int))).toNat))) ((IntKind.i64.wrap (a.int + ((D.nth t2.2 0).int))).toNat) (D.nth r0.list idx.int.toNat)), D.nth (p_slices_xorshift_Next o1) 1]
          else
            none
        else
          none
      else
        none
    else
      none
  else
    some (0, [D.n r0.list, o1])
def c_slices_breakPatternsOrdered_int_0 (K : Nat) : Cut := { sh := { sl := [(0, .own 22 0), (1, .d 3 true), (6, .d 3 true), (7, .ptr 134 1 []), (8, .d 87 true), (9, .d 3 true)], ob := [(0, .row 3 true), (1, .box 134 (.d 134 true))] }, kept := [0, 1], outs := [(.exit 0, { sl := [], ob := [(0, .row 3 true), (1, .box 134 (.d 134 true))] })], f := fun ds => fixN (b_slices_breakPatternsOrdered_int_0 K) K ds }
def f_slices_breakPatternsOrdered_int (K : Nat) (a b r0 : D) : Option (List D) :=
  bif (geI (IntKind.i64.wrap (b.int - a.int)) 8) then
    (f_slices_nextPowerOfTwo K (D.i (IntKind.i64.wrap (b.int - a.int)))).bind fun t1 =>
    (fixN (b_slices_breakPatternsOrdered_int_0 K) K [a, D.i (IntKind.i64.wrap (b.int - a.int)), D.nth t1 0, D.i (IntKind.i64.wrap ((IntKind.i64.wrap (a.int + (IntKind.i64.wrap ((IntKind.i64.wrap (Int.tdiv (IntKind.i64.wrap (b.int - a.int)) (4 : Int))) * (2 : Int))))) - (1 : Int))), D.n r0.list, D.i (IntKind.u64.wrap (IntKind.i64.wrap (b.int - a.int)))]).bind fun t2 =>
    some [D.n ((D.nth t2.2 0).list)]
  else
    some [D.n r0.list]
def e_slices_breakPatternsOrdered_int (K : Nat) : Entry := { n := 3, sh := { sl := [(0, .own 22 0), (1, .d 3 false), (2, .d 3 false)], ob := [(0, .row 3 true)] }, kept := [0], rs := [{ sl := [(0, .tup [])], ob := [(0, .row 3 true)] }], f := fun ds => f_slices_breakPatternsOrdered_int K (D.nth ds 0) (D.nth ds 1) (D.nth ds 2), tot := none }
def T_slices_breakPatternsOrdered_int (K : Nat) : Tbl := { T0 with ents := entsOf [(106, e_slices_nextPowerOfTwo K), (107, e_slices_xorshift_Next K)], cuts := lk [(0, c_slices_breakPatternsOrdered_int_0 K), (1, c_slices_breakPatternsOrdered_int_1 K)] }
theorem q_slices_breakPatternsOrdered_int_1 (K : Nat) (ds : List D) : evPiece (T_slices_breakPatternsOrdered_int K) 65 (sub (codeOf Try.f85) [1, 1, 0, 1, 1, 1, 0, 0, 1, 0, 0, 1, 0, 1]) .go (c_slices_breakPatternsOrdered_int_1 K) ds = b_slices_breakPatternsOrdered_int_1 K ds := by kernel_rfl
theorem k_slices_breakPatternsOrdered_int_1 (K : Nat) : CutOK Try.prog (T_slices_breakPatternsOrdered_int K) 65 (sub (codeOf Try.f85) [1, 1, 0, 1, 1, 1, 0, 0, 1, 0, 0, 1, 0, 1]) (c_slices_breakPatternsOrdered_int_1 K) :=
  piece_thm (T := T_slices_breakPatternsOrdered_int K) (hT_of hT0 rfl rfl rfl) (hes_ok (T0 := T0) (T := T_slices_breakPatternsOrdered_int K) rfl rfl (⟨ok_slices_nextPowerOfTwo K, ok_slices_xorshift_Next K, trivial⟩ : FAll Try.prog T0 [(106, e_slices_nextPowerOfTwo K), (107, e_slices_xorshift_Next K)])) rfl rfl rfl (cutsOK_none (by rfl)) (q_slices_breakPatternsOrdered_int_1 K)
theorem q_slices_breakPatternsOrdered_int_0 (K : Nat) (rec : List D → Option (Nat × List D)) (ds : List D) : evLoop (T_slices_breakPatternsOrdered_int K) 65 (sub (codeOf Try.f85) [1, 1, 0, 1, 1, 1, 0, 0]) (.seq .go (.seq (.blk (.seq .go (.seq (.seq .go (.cut 1)) .go))) .go)) (c_slices_breakPatternsOrdered_int_0 K) rec ds = b_slices_breakPatternsOrdered_int_0 K rec ds := by kernel_rfl
theorem k_slices_breakPatternsOrdered_int_0 (K : Nat) : CutOK Try.prog (T_slices_breakPatternsOrdered_int K) 65 (sub (codeOf Try.f85) [1, 1, 0, 1, 1, 1, 0]) (c_slices_breakPatternsOrdered_int_0 K) :=
  loop_thm (T := T_slices_breakPatternsOrdered_int K) (hT_of hT0 rfl rfl rfl) (hes_ok (T0 := T0) (T := T_slices_breakPatternsOrdered_int K) rfl rfl (⟨ok_slices_nextPowerOfTwo K, ok_slices_xorshift_Next K, trivial⟩ : FAll Try.prog T0 [(106, e_slices_nextPowerOfTwo K), (107, e_slices_xorshift_Next K)])) (by kernel_rfl) rfl rfl rfl (cutsOK_list (l := [(1, sub (codeOf Try.f85) [1, 1, 0, 1, 1, 1, 0, 0, 1, 0, 0, 1, 0, 1])]) (by kernel_rfl) ⟨cut_one (u := c_slices_breakPatternsOrdered_int_1 K) rfl (k_slices_breakPatternsOrdered_int_1 K), trivial⟩) rfl (q_slices_breakPatternsOrdered_int_0 K)
theorem q_slices_breakPatternsOrdered_int (K : Nat) (ds : List D) : evFn (T_slices_breakPatternsOrdered_int K) Try.f85 (.seq .go (.seq .go (.cond (.seq .go (.seq .go (.seq .go (.blk (.cut 0))))) .go))) (e_slices_breakPatternsOrdered_int K) ds = (e_slices_breakPatternsOrdered_int K).f ds := by kernel_rfl
theorem ok_slices_breakPatternsOrdered_int (K : Nat) : FnOK Try.prog T0 85 (e_slices_breakPatternsOrdered_int K) :=
  fn_thm (T0 := T0) (T := T_slices_breakPatternsOrdered_int K) rfl (hT_of hT0 rfl rfl rfl) (hes_ok (T0 := T0) (T := T_slices_breakPatternsOrdered_int K) rfl rfl (⟨ok_slices_nextPowerOfTwo K, ok_slices_xorshift_Next K, trivial⟩ : FAll Try.prog T0 [(106, e_slices_nextPowerOfTwo K), (107, e_slices_xorshift_Next K)])) Try.func85 (by decide) rfl (Nat.le_of_ble_eq_true rfl) rfl rfl rfl (tot_none rfl) (cutsOK_list (l := [(0, sub (codeOf Try.f85) [1, 1, 0, 1, 1, 1, 0])]) (by kernel_rfl) ⟨cut_one (u := c_slices_breakPatternsOrdered_int_0 K) rfl (k_slices_breakPatternsOrdered_int_0 K), trivial⟩) (q_slices_breakPatternsOrdered_int K)
/-! ### 124 slices.order2Ordered[int] -/
def f_slices_order2Ordered_int (K : Nat) (data a b o0 : D) : Option (List D) :=
  bif (inB b.int data.list.length) then
    bif (inB a.int data.list.length) then
      bif (D.nth (p_cmp_Less_int (D.nth data.list b.int.toNat) (D.nth data.list a.int.toNat)) 0).bool then
        some [b, a, D.i (IntKind.i64.wrap (o0.int + (1 : Int)))]
      else
        some [a, b, o0]
    else
      none
  else
    none
def e_slices_order2Ordered_int (K : Nat) : Entry := { n := 4, sh := { sl := [(0, .d 22 false), (1, .d 3 false), (2, .d 3 false), (3, .ptr 3 0 [])], ob := [(0, .box 3 (.d 3 false))] }, kept := [0], rs := [{ sl := [(0, .tup [.d 3 true, .d 3 true])], ob := [(0, .box 3 (.d 3 true))] }], f := fun ds => f_slices_order2Ordered_int K (D.nth ds 0) (D.nth ds 1) (D.nth ds 2) (D.nth ds 3), tot := none }
def T_slices_order2Ordered_int (K : Nat) : Tbl := { T0 with ents := entsOf [(89, e_cmp_Less_int K)], cuts := lk [] }
theorem q_slices_order2Ordered_int (K : Nat) (ds : List D) : evFn (T_slices_order2Ordered_int K) Try.f124 .go (e_slices_order2Ordered_int K) ds = (e_slices_order2Ordered_int K).f ds := by kernel_rfl
theorem ok_slices_order2Ordered_int (K : Nat) : FnOK Try.prog T0 124 (e_slices_order2Ordered_int K) :=
  fn_thm (T0 := T0) (T := T_slices_order2Ordered_int K) rfl (hT_of hT0 rfl rfl rfl) (hes_ok (T0 := T0) (T := T_slices_order2Ordered_int K) rfl rfl (⟨ok_cmp_Less_int K, trivial⟩ : FAll Try.prog T0 [(89, e_cmp_Less_int K)])) Try.func124 (by decide) rfl (Nat.le_of_ble_eq_true rfl) rfl rfl rfl (tot_none rfl) (cutsOK_none (by rfl)) (q_slices_order2Ordered_int K)
/-! ### 109 slices.medianOrdered[int] -/
def f_slices_medianOrdered_int (K : Nat) (data a b c o0 : D) : Option (List D) :=
  (f_slices_order2Ordered_int K data a b o0).bind fun t1 =>
  (f_slices_order2Ordered_int K data (D.nth t1 1) c (D.nth t1 2)).bind fun t2 =>
  (f_slices_order2Ordered_int K data (D.nth t1 0) (D.nth t2 0) (D.nth t2 2)).bind fun t3 =>
  some [D.nth t3 1, D.nth t3 2]
def e_slices_medianOrdered_int (K : Nat) : Entry := { n := 5, sh := { sl := [(0, .d 22 false), (1, .d 3 false), (2, .d 3 false), (3, .d 3 false), (4, .ptr 3 0 [])], ob := [(0, .box 3 (.d 3 false))] }, kept := [0], rs := [{ sl := [(0, .d 3 true)], ob := [(0, .box 3 (.d 3 true))] }], f := fun ds => f_slices_medianOrdered_int K (D.nth ds 0) (D.nth ds 1) (D.nth ds 2) (D.nth ds 3) (D.nth ds 4), tot := none }
def T_slices_medianOrdered_int (K : Nat) : Tbl := { T0 with ents := entsOf [(124, e_slices_order2Ordered_int K)], cuts := lk [] }
theorem q_slices_medianOrdered_int (K : Nat) (ds : List D) : evFn (T_slices_medianOrdered_int K) Try.f109 .go (e_slices_medianOrdered_int K) ds = (e_slices_medianOrdered_int K).f ds := by kernel_rfl
theorem ok_slices_medianOrdered_int (K : Nat) : FnOK Try.prog T0 109 (e_slices_medianOrdered_int K) :=
  fn_thm (T0 := T0) (T := T_slices_medianOrdered_int K) rfl (hT_of hT0 rfl rfl rfl) (hes_ok (T0 := T0) (T := T_slices_medianOrdered_int K) rfl rfl (⟨ok_slices_order2Ordered_int K, trivial⟩ : FAll Try.prog T0 [(124, e_slices_order2Ordered_int K)])) Try.func109 (by decide) rfl (Nat.le_of_ble_eq_true rfl) rfl rfl rfl (tot_none rfl) (cutsOK_none (by rfl)) (q_slices_medianOrdered_int K)
/-! ### 108 slices.medianAdjacentOrdered[int] -/
def f_slices_medianAdjacentOrdered_int (K : Nat) (data a o0 : D) : Option (List D) :=
  (f_slices_medianOrdered_int K data (D.i (IntKind.i64.wrap (a.int - (1 : Int)))) a (D.i (IntKind.i64.wrap (a.int + (1 : Int)))) o0).bind fun t1 =>
  some [D.nth t1 0, D.nth t1 1]
def e_slices_medianAdjacentOrdered_int (K : Nat) : Entry := { n := 3, sh := { sl := [(0, .d 22 false), (1, .d 3 false), (2, .ptr 3 0 [])], ob := [(0, .box 3 (.d 3 false))] }, kept := [0], rs := [{ sl := [(0, .d 3 true)], ob := [(0, .box 3 (.d 3 true))] }], f := fun ds => f_slices_medianAdjacentOrdered_int K (D.nth ds 0) (D.nth ds 1) (D.nth ds 2), tot := none }
def T_slices_medianAdjacentOrdered_int (K : Nat) : Tbl := { T0 with ents := entsOf [(109, e_slices_medianOrdered_int K)], cuts := lk [] }
theorem q_slices_medianAdjacentOrdered_int (K : Nat) (ds : List D) : evFn (T_slices_medianAdjacentOrdered_int K) Try.f108 .go (e_slices_medianAdjacentOrdered_int K) ds = (e_slices_medianAdjacentOrdered_int K).f ds := by kernel_rfl
theorem ok_slices_medianAdjacentOrdered_int (K : Nat) : FnOK Try.prog T0 108 (e_slices_medianAdjacentOrdered_int K) :=
  fn_thm (T0 := T0) (T := T_slices_medianAdjacentOrdered_int K) rfl (hT_of hT0 rfl rfl rfl) (hes_ok (T0 := T0) (T := T_slices_medianAdjacentOrdered_int K) rfl rfl (⟨ok_slices_medianOrdered_int K, trivial⟩ : FAll Try.prog T0 [(109, e_slices_medianOrdered_int K)])) Try.func108 (by decide) rfl (Nat.le_of_ble_eq_true rfl) rfl rfl rfl (tot_none rfl) (cutsOK_none (by rfl)) (q_slices_medianAdjacentOrdered_int K)
/-! ### 86 slices.choosePivotOrdered[int] -/
def b_slices_choosePivotOrdered_int_0 (K : Nat) (ds : List D) : Option (Nat × List D) :=
  let data := D.nth ds 0
  let l := D.nth ds 1
  let i := D.nth ds 2
  let j := D.nth ds 3
  let k := D.nth ds 4
  let s32 := D.nth ds 5
  let o0 := D.nth ds 6
  bif s32.bool then
    bif (geI l.int 50) then
      (f_slices_medianAdjacentOrdered_int K data i o0).bind fun t1 =>
      (f_slices_medianAdjacentOrdered_int K data j (D.nth t1 1)).bind fun t2 =>
      (f_slices_medianAdjacentOrdered_int K data k (D.nth t2 1)).bind fun t3 =>
      (f_slices_medianOrdered_int K data (D.nth t1 0) (D.nth t2 0) (D.nth t3 0) (D.nth t3 1)).bind fun t4 =>
      some (0, [D.nth t4 0, D.nth t4 1])
    else
      (f_slices_medianOrdered_int K data i j k o0).bind fun t5 =>
      some (0, [D.nth t5 0, D.nth t5 1])
  else
    some (0, [j, o0])
def c_slices_choosePivotOrdered_int_0 (K : Nat) : Cut := { sh := { sl := [(0, .d 22 false), (8, .d 3 true), (9, .ptr 3 0 []), (10, .d 3 true), (11, .d 3 true), (12, .d 3 true), (32, .d 4 true)], ob := [(0, .box 3 (.d 3 true))] }, kept := [0], outs := [(.normal, { sl := [(11, .d 3 true)], ob := [(0, .box 3 (.d 3 true))] })], f := b_slices_choosePivotOrdered_int_0 K }
def f_slices_choosePivotOrdered_int (K : Nat) (data a b : D) : Option (List D) :=
  (b_slices_choosePivotOrdered_int_0 K [data, D.i (IntKind.i64.wrap (b.int - a.int)), D.i (IntKind.i64.wrap (a.int + (IntKind.i64.wrap ((IntKind.i64.wrap (Int.tdiv (IntKind.i64.wrap (b.int - a.int)) (4 : Int))) * (1 : Int))))), D.i (IntKind.i64.wrap (a.int + (IntKind.i64.wrap ((IntKind.i64.wrap (Int.tdiv (IntKind.i64.wrap (b.int - a.int)) (4 : Int))) * (2 : Int))))), D.i (IntKind.i64.wrap (a.int + (IntKind.i64.wrap ((IntKind.i64.wrap (Int.tdiv (IntKind.i64.wrap (b.int - a.int)) (4 : Int))) * (3 : Int))))), D.b (geI (IntKind.i64.wrap (b.int - a.int)) 8), D.i 0]).bind fun t1 =>
  bif (((D.nth t1.2 1).int) == (0 : Int)) then
    some [D.nth t1.2 0, D.i 1]
  else
    bif (((D.nth t1.2 1).int) == (12 : Int)) then
      some [D.nth t1.2 0, D.i 2]
    else
      some [D.nth t1.2 0, D.i 0]
def e_slices_choosePivotOrdered_int (K : Nat) : Entry := { n := 3, sh := { sl := [(0, .d 22 false), (1, .d 3 false), (2, .d 3 false)], ob := [] }, kept := [], rs := [{ sl := [(0, .tup [.d 3 true, .d 114 true])], ob := [] }], f := fun ds => f_slices_choosePivotOrdered_int K (D.nth ds 0) (D.nth ds 1) (D.nth ds 2), tot := none }
def T_slices_choosePivotOrdered_int (K : Nat) : Tbl := { T0 with ents := entsOf [(108, e_slices_medianAdjacentOrdered_int K), (109, e_slices_medianOrdered_int K)], cuts := lk [(0, c_slices_choosePivotOrdered_int_0 K)] }
theorem q_slices_choosePivotOrdered_int_0 (K : Nat) (ds : List D) : evPiece (T_slices_choosePivotOrdered_int K) 57 (sub (codeOf Try.f86) [1, 1, 1, 1, 1, 1, 0, 1]) .go (c_slices_choosePivotOrdered_int_0 K) ds = b_slices_choosePivotOrdered_int_0 K ds := by kernel_rfl
theorem k_slices_choosePivotOrdered_int_0 (K : Nat) : CutOK Try.prog (T_slices_choosePivotOrdered_int K) 57 (sub (codeOf Try.f86) [1, 1, 1, 1, 1, 1, 0, 1]) (c_slices_choosePivotOrdered_int_0 K) :=
  piece_thm (T := T_slices_choosePivotOrdered_int K) (hT_of hT0 rfl rfl rfl) (hes_ok (T0 := T0) (T := T_slices_choosePivotOrdered_int K) rfl rfl (⟨ok_slices_medianAdjacentOrdered_int K, ok_slices_medianOrdered_int K, trivial⟩ : FAll Try.prog T0 [(108, e_slices_medianAdjacentOrdered_int K), (109, e_slices_medianOrdered_int K)])) rfl rfl rfl (cutsOK_none (by rfl)) (q_slices_choosePivotOrdered_int_0 K)
theorem q_slices_choosePivotOrdered_int (K : Nat) (ds : List D) : evFn (T_slices_choosePivotOrdered_int K) Try.f86 (.seq .go (.seq .go (.seq .go (.seq .go (.seq .go (.seq .go (.seq (.seq .go (.cut 0)) .go))))))) (e_slices_choosePivotOrdered_int K) ds = (e_slices_choosePivotOrdered_int K).f ds := by kernel_rfl
theorem ok_slices_choosePivotOrdered_int (K : Nat) : FnOK Try.prog T0 86 (e_slices_choosePivotOrdered_int K) :=
  fn_thm (T0 := T0) (T := T_slices_choosePivotOrdered_int K) rfl (hT_of hT0 rfl rfl rfl) (hes_ok (T0 := T0) (T := T_slices_choosePivotOrdered_int K) rfl rfl (⟨ok_slices_medianAdjacentOrdered_int K, ok_slices_medianOrdered_int K, trivial⟩ : FAll Try.prog T0 [(108, e_slices_medianAdjacentOrdered_int K), (109, e_slices_medianOrdered_int K)])) Try.func86 (by decide) rfl (Nat.le_of_ble_eq_true rfl) rfl rfl rfl (tot_none rfl) (cutsOK_list (l := [(0, sub (codeOf Try.f86) [1, 1, 1, 1, 1, 1, 0, 1])]) (by kernel_rfl) ⟨cut_one (u := c_slices_choosePivotOrdered_int_0 K) rfl (k_slices_choosePivotOrdered_int_0 K), trivial⟩) (q_slices_choosePivotOrdered_int K)
/-! ### 87 slices.reverseRangeOrdered[int] -/
def b_slices_reverseRangeOrdered_int_0 (K : Nat) (rec : List D → Option (Nat × List D)) (ds : List D) : Option (Nat × List D) :=
  let i := D.nth ds 0
  let j := D.nth ds 1
  let r0 := D.nth ds 2
  bif (ltI i.int j.int) then
    bif (inB j.int r0.list.length) then
      bif (inB i.int r0.list.length) then
        bif (inB i.int r0.list.length) then
          bif (inB j.int ((D.setNth r0.list i.int.toNat (D.nth r0.list j.int.toNat)).length)) then
            rec [D.i (IntKind.i64.wrap (i.int + (1 : Int))), D.i (IntKind.i64.wrap (j.int - (1 : Int))), D.n (D.setNth (D.setNth r0.list i.int.toNat (D.nth r0.list j.int.toNat)) j.int.toNat (D.nth r0.list i.int.toNat))]
          else
            none
        else
          none
      else
        none
    else
      none
  else
    some (0, [D.n r0.list])
def c_slices_reverseRangeOrdered_int_0 (K : Nat) : Cut := { sh := { sl := [(0, .own 22 0), (6, .d 3 true), (7, .d 3 true)], ob := [(0, .row 3 true)] }, kept := [0], outs := [(.exit 0, { sl := [], ob := [(0, .row 3 true)] })], f := fun ds => fixN (b_slices_reverseRangeOrdered_int_0 K) K ds }
def f_slices_reverseRangeOrdered_int (K : Nat) (a b r0 : D) : Option (List D) :=
  (fixN (b_slices_reverseRangeOrdered_int_0 K) K [a, D.i (IntKind.i64.wrap (b.int - (1 : Int))), D.n r0.list]).bind fun t1 =>
  some [D.n ((D.nth t1.2 0).list)]
def e_slices_reverseRangeOrdered_int (K : Nat) : Entry := { n := 3, sh := { sl := [(0, .own 22 0), (1, .d 3 false), (2, .d 3 false)], ob := [(0, .row 3 true)] }, kept := [0], rs := [{ sl := [(0, .tup [])], ob := [(0, .row 3 true)] }], f := fun ds => f_slices_reverseRangeOrdered_int K (D.nth ds 0) (D.nth ds 1) (D.nth ds 2), tot := none }
def T_slices_reverseRangeOrdered_int (K : Nat) : Tbl := { T0 with ents := entsOf [], cuts := lk [(0, c_slices_reverseRangeOrdered_int_0 K)] }
theorem q_slices_reverseRangeOrdered_int_0 (K : Nat) (rec : List D → Option (Nat × List D)) (ds : List D) : evLoop (T_slices_reverseRangeOrdered_int K) 32 (sub (codeOf Try.f87) [1, 1, 0, 0]) .go (c_slices_reverseRangeOrdered_int_0 K) rec ds = b_slices_reverseRangeOrdered_int_0 K rec ds := by kernel_rfl
theorem k_slices_reverseRangeOrdered_int_0 (K : Nat) : CutOK Try.prog (T_slices_reverseRangeOrdered_int K) 32 (sub (codeOf Try.f87) [1, 1, 0]) (c_slices_reverseRangeOrdered_int_0 K) :=
  loop_thm (T := T_slices_reverseRangeOrdered_int K) (hT_of hT0 rfl rfl rfl) (hes_ok (T0 := T0) (T := T_slices_reverseRangeOrdered_int K) rfl rfl (trivial : FAll Try.prog T0 [])) (by kernel_rfl) rfl rfl rfl (cutsOK_none (by rfl)) rfl (q_slices_reverseRangeOrdered_int_0 K)
theorem q_slices_reverseRangeOrdered_int (K : Nat) (ds : List D) : evFn (T_slices_reverseRangeOrdered_int K) Try.f87 (.seq .go (.seq .go (.blk (.cut 0)))) (e_slices_reverseRangeOrdered_int K) ds = (e_slices_reverseRangeOrdered_int K).f ds := by kernel_rfl
theorem ok_slices_reverseRangeOrdered_int (K : Nat) : FnOK Try.prog T0 87 (e_slices_reverseRangeOrdered_int K) :=
  fn_thm (T0 := T0) (T := T_slices_reverseRangeOrdered_int K) rfl (hT_of hT0 rfl rfl rfl) (hes_ok (T0 := T0) (T := T_slices_reverseRangeOrdered_int K) rfl rfl (trivial : FAll Try.prog T0 [])) Try.func87 (by decide) rfl (Nat.le_of_ble_eq_true rfl) rfl rfl rfl (tot_none rfl) (cutsOK_list (l := [(0, sub (codeOf Try.f87) [1, 1, 0])]) (by kernel_rfl) ⟨cut_one (u := c_slices_reverseRangeOrdered_int_0 K) rfl (k_slices_reverseRangeOrdered_int_0 K), trivial⟩) (q_slices_reverseRangeOrdered_int K)
/-! ### 88 slices.partialInsertionSortOrdered[int] -/
def b_slices_partialInsertionSortOrdered_int_3 (K : Nat) (rec : List D → Option (Nat × List D)) (ds : List D) : Option (Nat × List D) :=
  let j := D.nth ds 0
  let r0 := D.nth ds 1
  bif (geI j.int 1) then
    bif (inB j.int r0.list.length) then
      bif (inB (IntKind.i64.wrap (j.int - (1 : Int))) r0.list.length) then
        bif (!((D.nth (p_cmp_Less_int (D.nth r0.list j.int.toNat) (D.nth r0.list ((IntKind.i64.wrap (j.int - (1 : Int))).toNat))) 0).bool)) then
          some (0, [D.n r0.list])
        else
          bif (inB (IntKind.i64.wrap (j.int - (1 : Int))) r0.list.length) then
            bif (inB j.int r0.list.length) then
              bif (inB j.int r0.list.length) then
                bif (inB (IntKind.i64.wrap (j.int - (1 : Int))) ((D.setNth r0.list j.int.toNat (D.nth r0.list ((IntKind.i64.wrap (j.int - (1 : Int))).toNat))).length)) then
                  rec [D.i (IntKind.i64.wrap (j.int - (1 : Int))), D.n (D.setNth (D.setNth r0.list j.int.toNat (D.nth r0.list ((IntKind.i64.wrap (j.int - (1 : Int))).toNat))) ((IntKind.i64.wrap (j.int - (1 : Int))).toNat) (D.nth r0.list j.int.toNat))]
                else
                  none
              else
                none
            else
              none
          else
            none
      else
        none
    else
      none
  else
    some (0, [D.n r0.list])
def c_slices_partialInsertionSortOrdered_int_3 (K : Nat) : Cut := { sh := { sl := [(0, .own 22 0), (9, .d 3 true)], ob := [(0, .row 3 true)] }, kept := [0], outs := [(.exit 4, { sl := [], ob := [(0, .row 3 true)] })], f := fun ds => fixN (b_slices_partialInsertionSortOrdered_int_3 K) K ds }
def b_slices_partialInsertionSortOrdered_int_4 (K : Nat) (rec : List D → Option (Nat × List D)) (ds : List D) : Option (Nat × List D) :=
  let b := D.nth ds 0
  let j := D.nth ds 1
  let r0 := D.nth ds 2
  bif (ltI j.int b.int) then
    bif (inB j.int r0.list.length) then
      bif (inB (IntKind.i64.wrap (j.int - (1 : Int))) r0.list.length) then
        bif (!((D.nth (p_cmp_Less_int (D.nth r0.list j.int.toNat) (D.nth r0.list ((IntKind.i64.wrap (j.int - (1 : Int))).toNat))) 0).bool)) then
          some (0, [D.n r0.list])
        else
          bif (inB (IntKind.i64.wrap (j.int - (1 : Int))) r0.list.length) then
            bif (inB j.int r0.list.length) then
              bif (inB j.int r0.list.length) then
                bif (inB (IntKind.i64.wrap (j.int - (1 : Int))) ((D.setNth r0.list j.int.toNat (D.nth r0.list ((IntKind.i64.wrap (j.int - (1 : Int))).toNat))).length)) then
                  rec [b, D.i (IntKind.i64.wrap (j.int + (1 : Int))), D.n (D.setNth (D.setNth r0.list j.int.toNat (D.nth r0.list ((IntKind.i64.wrap (j.int - (1 : Int))).toNat))) ((IntKind.i64.wrap (j.int - (1 : Int))).toNat) (D.nth r0.list j.int.toNat))]
                else
                  none
              else
                none
            else
              none
          else
            none
      else
        none
    else
      none
  else
    some (0, [D.n r0.list])
def c_slices_partialInsertionSortOrdered_int_4 (K : Nat) : Cut := { sh := { sl := [(0, .own 22 0), (2, .d 3 true), (10, .d 3 true)], ob := [(0, .row 3 true)] }, kept := [0], outs := [(.exit 6, { sl := [], ob := [(0, .row 3 true)] })], f := fun ds => fixN (b_slices_partialInsertionSortOrdered_int_4 K) K ds }
def b_slices_partialInsertionSortOrdered_int_2 (K : Nat) (ds : List D) : Option (Nat × List D) :=
  let i := D.nth ds 0
  let s61 := D.nth ds 1
  let r0 := D.nth ds 2
  bif s61.bool then
    (fixN (b_slices_partialInsertionSortOrdered_int_3 K) K [D.i (IntKind.i64.wrap (i.int - (1 : Int))), D.n r0.list]).bind fun t2 =>
    some (0, [D.n ((D.nth t2.2 0).list)])
  else
    some (0, [D.n r0.list])
def c_slices_partialInsertionSortOrdered_int_2 (K : Nat) : Cut := { sh := { sl := [(0, .own 22 0), (7, .d 3 true), (61, .d 4 true)], ob := [(0, .row 3 true)] }, kept := [0], outs := [(.normal, { sl := [], ob := [(0, .row 3 true)] })], f := b_slices_partialInsertionSortOrdered_int_2 K }
def b_slices_partialInsertionSortOrdered_int_1 (K : Nat) (rec : List D → Option (Nat × List D)) (ds : List D) : Option (Nat × List D) :=
  let b := D.nth ds 0
  let i := D.nth ds 1
  let r0 := D.nth ds 2
  bif ((!(ltI i.int b.int)) || (inB i.int r0.list.length)) then
    bif ((!(ltI i.int b.int)) || (inB (IntKind.i64.wrap (i.int - (1 : Int))) r0.list.length)) then
      bif (bif (ltI i.int b.int) then (!((D.nth (p_cmp_Less_int (D.nth r0.list i.int.toNat) (D.nth r0.list ((IntKind.i64.wrap (i.int - (1 : Int))).toNat))) 0).bool)) else false) then
        rec [b, D.i (IntKind.i64.wrap (i.int + (1 : Int))), D.n r0.list]
      else
        some (0, [i, D.n r0.list])
    else
      none
  else
    none
def c_slices_partialInsertionSortOrdered_int_1 (K : Nat) : Cut := { sh := { sl := [(0, .own 22 0), (2, .d 3 true), (7, .d 3 true)], ob := [(0, .row 3 true)] }, kept := [0], outs := [(.exit 2, { sl := [(7, .d 3 true)], ob := [(0, .row 3 true)] })], f := fun ds => fixN (b_slices_partialInsertionSortOrdered_int_1 K) K ds }
def b_slices_partialInsertionSortOrdered_int_0 (K : Nat) (rec : List D → Option (Nat × List D)) (ds : List D) : Option (Nat × List D) :=
  let a := D.nth ds 0
  let b := D.nth ds 1
  let i := D.nth ds 2
  let j := D.nth ds 3
  let r0 := D.nth ds 4
  bif (ltI j.int 5) then
    (fixN (b_slices_partialInsertionSortOrdered_int_1 K) K [b, i, D.n r0.list]).bind fun t1 =>
    bif (((D.nth t1.2 0).int) == b.int) then
      some (0, [D.b true, D.n ((D.nth t1.2 1).list)])
    else
      bif (ltI (IntKind.i64.wrap (b.int - a.int)) 50) then
        some (0, [D.b false, D.n ((D.nth t1.2 1).list)])
      else
        bif (inB (IntKind.i64.wrap (((D.nth t1.2 0).int) - (1 : Int))) (((D.nth t1.2 1).list).length)) then
          bif (inB ((D.nth t1.2 0).int) (((D.nth t1.2 1).list).length)) then
            bif (inB ((D.nth t1.2 0).int) (((D.nth t1.2 1).list).length)) then
              bif (inB (IntKind.i64.wrap (((D.nth t1.2 0).int) - (1 : Int))) ((D.setNth ((D.nth t1.2 1).list) (((D.nth t1.2 0).int).toNat) (D.nth ((D.nth t1.2 1).list) ((IntKind.i64.wrap (((D.nth t1.2 0).int) - (1 : Int))).toNat))).length)) then
                (b_slices_partialInsertionSortOrdered_int_2 K [D.nth t1.2 0, D.b (geI (IntKind.i64.wrap (((D.nth t1.2 0).int) - a.int)) 2), D.n (D.setNth (D.setNth ((D.nth t1.2 1).list) (((D.nth t1.2 0).int).toNat) (D.nth ((D.nth t1.2 1).list) ((IntKind.i64.wrap (((D.nth t1.2 0).int) - (1 : Int))).toNat))) ((IntKind.i64.wrap (((D.nth t1.2 0).int) - (1 : Int))).toNat) (D.nth ((D.nth t1.2 1).list) (((D.nth t1.2 0).int).toNat)))]).bind fun t2 =>
                bif (geI (IntKind.i64.wrap (b.int - ((D.nth t1.2 0).int))) 2) then
                  (fixN (b_slices_partialInsertionSortOrdered_int_4 K) K [b, D.i (IntKind.i64.wrap (((D.nth t1.2 0).int) + (1 : Int))), D.n ((D.nth t2.2 0).list)]).bind fun t3 =>
                  rec [a, b, D.nth t1.2 0, D.i (IntKind.i64.wrap (j.int + (1 : Int))), D.n ((D.nth t3.2 0).list)]
                else
                  rec [a, b, D.nth t1.2 0, D.i (IntKind.i64.wrap (j.int + (1 : Int))), D.n ((D.nth t2.2 0).list)]
              else
                none
            else
              none
          else
            none
        else
          none
  else
    some (1, [D.n r0.list])
def c_slices_partialInsertionSortOrdered_int_0 (K : Nat) : Cut := { sh := { sl := [(0, .own 22 0), (1, .d 3 true), (2, .d 3 true), (7, .d 3 true), (8, .d 3 true)], ob := [(0, .row 3 true)] }, kept := [0], outs := [(.ret, { sl := [(6, .d 4 true)], ob := [(0, .row 3 true)] }), (.exit 0, { sl := [], ob := [(0, .row 3 true)] })], f := fun ds => fixN (b_slices_partialInsertionSortOrdered_int_0 K) K ds }
def f_slices_partialInsertionSortOrdered_int (K : Nat) (a b r0 : D) : Option (List D) :=
  (fixN (b_slices_partialInsertionSortOrdered_int_0 K) K [a, b, D.i (IntKind.i64.wrap (a.int + (1 : Int))), D.i 0, D.n r0.list]).bind fun t1 =>
  bif (t1.1.beq 0) then
    some [D.nth t1.2 0, D.n ((D.nth t1.2 1).list)]
  else
    some [D.b false, D.n ((D.nth t1.2 0).list)]
def e_slices_partialInsertionSortOrdered_int (K : Nat) : Entry := { n := 3, sh := { sl := [(0, .own 22 0), (1, .d 3 false), (2, .d 3 false)], ob := [(0, .row 3 true)] }, kept := [0], rs := [{ sl := [(0, .d 4 true)], ob := [(0, .row 3 true)] }], f := fun ds => f_slices_partialInsertionSortOrdered_int K (D.nth ds 0) (D.nth ds 1) (D.nth ds 2), tot := none }
def T_slices_partialInsertionSortOrdered_int (K : Nat) : Tbl := { T0 with ents := entsOf [(89, e_cmp_Less_int K)], cuts := lk [(0, c_slices_partialInsertionSortOrdered_int_0 K), (1, c_slices_partialInsertionSortOrdered_int_1 K), (2, c_slices_partialInsertionSortOrdered_int_2 K), (3, c_slices_partialInsertionSortOrdered_int_3 K), (4, c_slices_partialInsertionSortOrdered_int_4 K)] }
theorem q_slices_partialInsertionSortOrdered_int_3 (K : Nat) (rec : List D → Option (Nat × List D)) (ds : List D) : evLoop (T_slices_partialInsertionSortOrdered_int K) 133 (sub (codeOf Try.f88) [1, 1, 0, 1, 0, 0, 1, 0, 0, 1, 1, 1, 1, 0, 1, 0, 1, 0, 0]) .go (c_slices_partialInsertionSortOrdered_int_3 K) rec ds = b_slices_partialInsertionSortOrdered_int_3 K rec ds := by kernel_rfl
theorem k_slices_partialInsertionSortOrdered_int_3 (K : Nat) : CutOK Try.prog (T_slices_partialInsertionSortOrdered_int K) 133 (sub (codeOf Try.f88) [1, 1, 0, 1, 0, 0, 1, 0, 0, 1, 1, 1, 1, 0, 1, 0, 1, 0]) (c_slices_partialInsertionSortOrdered_int_3 K) :=
  loop_thm (T := T_slices_partialInsertionSortOrdered_int K) (hT_of hT0 rfl rfl rfl) (hes_ok (T0 := T0) (T := T_slices_partialInsertionSortOrdered_int K) rfl rfl (⟨ok_cmp_Less_int K, trivial⟩ : FAll Try.prog T0 [(89, e_cmp_Less_int K)])) (by kernel_rfl) rfl rfl rfl (cutsOK_none (by rfl)) rfl (q_slices_partialInsertionSortOrdered_int_3 K)
theorem q_slices_partialInsertionSortOrdered_int_4 (K : Nat) (rec : List D → Option (Nat × List D)) (ds : List D) : evLoop (T_slices_partialInsertionSortOrdered_int K) 133 (sub (codeOf Try.f88) [1, 1, 0, 1, 0, 0, 1, 0, 0, 1, 1, 1, 1, 1, 1, 0, 1, 0, 0]) .go (c_slices_partialInsertionSortOrdered_int_4 K) rec ds = b_slices_partialInsertionSortOrdered_int_4 K rec ds := by kernel_rfl
theorem k_slices_partialInsertionSortOrdered_int_4 (K : Nat) : CutOK Try.prog (T_slices_partialInsertionSortOrdered_int K) 133 (sub (codeOf Try.f88) [1, 1, 0, 1, 0, 0, 1, 0, 0, 1, 1, 1, 1, 1, 1, 0, 1, 0]) (c_slices_partialInsertionSortOrdered_int_4 K) :=
  loop_thm (T := T_slices_partialInsertionSortOrdered_int K) (hT_of hT0 rfl rfl rfl) (hes_ok (T0 := T0) (T := T_slices_partialInsertionSortOrdered_int K) rfl rfl (⟨ok_cmp_Less_int K, trivial⟩ : FAll Try.prog T0 [(89, e_cmp_Less_int K)])) (by kernel_rfl) rfl rfl rfl (cutsOK_none (by rfl)) rfl (q_slices_partialInsertionSortOrdered_int_4 K)
theorem q_slices_partialInsertionSortOrdered_int_2 (K : Nat) (ds : List D) : evPiece (T_slices_partialInsertionSortOrdered_int K) 133 (sub (codeOf Try.f88) [1, 1, 0, 1, 0, 0, 1, 0, 0, 1, 1, 1, 1, 0, 1]) (.cond (.seq .go (.blk (.cut 3))) .go) (c_slices_partialInsertionSortOrdered_int_2 K) ds = b_slices_partialInsertionSortOrdered_int_2 K ds := by kernel_rfl
theorem k_slices_partialInsertionSortOrdered_int_2 (K : Nat) : CutOK Try.prog (T_slices_partialInsertionSortOrdered_int K) 133 (sub (codeOf Try.f88) [1, 1, 0, 1, 0, 0, 1, 0, 0, 1, 1, 1, 1, 0, 1]) (c_slices_partialInsertionSortOrdered_int_2 K) :=
  piece_thm (T := T_slices_partialInsertionSortOrdered_int K) (hT_of hT0 rfl rfl rfl) (hes_ok (T0 := T0) (T := T_slices_partialInsertionSortOrdered_int K) rfl rfl (⟨ok_cmp_Less_int K, trivial⟩ : FAll Try.prog T0 [(89, e_cmp_Less_int K)])) rfl rfl rfl (cutsOK_list (l := [(3, sub (codeOf Try.f88) [1, 1, 0, 1, 0, 0, 1, 0, 0, 1, 1, 1, 1, 0, 1, 0, 1, 0])]) (by kernel_rfl) ⟨cut_one (u := c_slices_partialInsertionSortOrdered_int_3 K) rfl (k_slices_partialInsertionSortOrdered_int_3 K), trivial⟩) (q_slices_partialInsertionSortOrdered_int_2 K)
theorem q_slices_partialInsertionSortOrdered_int_1 (K : Nat) (rec : List D → Option (Nat × List D)) (ds : List D) : evLoop (T_slices_partialInsertionSortOrdered_int K) 133 (sub (codeOf Try.f88) [1, 1, 0, 1, 0, 0, 1, 0, 0, 0, 0, 0]) .go (c_slices_partialInsertionSortOrdered_int_1 K) rec ds = b_slices_partialInsertionSortOrdered_int_1 K rec ds := by kernel_rfl
theorem k_slices_partialInsertionSortOrdered_int_1 (K : Nat) : CutOK Try.prog (T_slices_partialInsertionSortOrdered_int K) 133 (sub (codeOf Try.f88) [1, 1, 0, 1, 0, 0, 1, 0, 0, 0, 0]) (c_slices_partialInsertionSortOrdered_int_1 K) :=
  loop_thm (T := T_slices_partialInsertionSortOrdered_int K) (hT_of hT0 rfl rfl rfl) (hes_ok (T0 := T0) (T := T_slices_partialInsertionSortOrdered_int K) rfl rfl (⟨ok_cmp_Less_int K, trivial⟩ : FAll Try.prog T0 [(89, e_cmp_Less_int K)])) (by kernel_rfl) rfl rfl rfl (cutsOK_none (by rfl)) rfl (q_slices_partialInsertionSortOrdered_int_1 K)
theorem q_slices_partialInsertionSortOrdered_int_0 (K : Nat) (rec : List D → Option (Nat × List D)) (ds : List D) : evLoop (T_slices_partialInsertionSortOrdered_int K) 133 (sub (codeOf Try.f88) [1, 1, 0, 1, 0, 0]) (.seq .go (.seq (.blk (.seq (.blk (.cut 1)) (.seq .go (.seq .go (.seq .go (.seq (.seq .go (.cut 2)) (.seq .go (.cond (.seq .go (.blk (.cut 4))) .go)))))))) .go)) (c_slices_partialInsertionSortOrdered_int_0 K) rec ds = b_slices_partialInsertionSortOrdered_int_0 K rec ds := by kernel_rfl
theorem k_slices_partialInsertionSortOrdered_int_0 (K : Nat) : CutOK Try.prog (T_slices_partialInsertionSortOrdered_int K) 133 (sub (codeOf Try.f88) [1, 1, 0, 1, 0]) (c_slices_partialInsertionSortOrdered_int_0 K) :=
  loop_thm (T := T_slices_partialInsertionSortOrdered_int K) (hT_of hT0 rfl rfl rfl) (hes_ok (T0 := T0) (T := T_slices_partialInsertionSortOrdered_int K) rfl rfl (⟨ok_cmp_Less_int K, trivial⟩ : FAll Try.prog T0 [(89, e_cmp_Less_int K)])) (by kernel_rfl) rfl rfl rfl (cutsOK_list (l := [(1, sub (codeOf Try.f88) [1, 1, 0, 1, 0, 0, 1, 0, 0, 0, 0]), (2, sub (codeOf Try.f88) [1, 1, 0, 1, 0, 0, 1, 0, 0, 1, 1, 1, 1, 0, 1]), (4, sub (codeOf Try.f88) [1, 1, 0, 1, 0, 0, 1, 0, 0, 1, 1, 1, 1, 1, 1, 0, 1, 0])]) (by kernel_rfl) ⟨cut_one (u := c_slices_partialInsertionSortOrdered_int_1 K) rfl (k_slices_partialInsertionSortOrdered_int_1 K), cut_one (u := c_slices_partialInsertionSortOrdered_int_2 K) rfl (k_slices_partialInsertionSortOrdered_int_2 K), cut_one (u := c_slices_partialInsertionSortOrdered_int_4 K) rfl (k_slices_partialInsertionSortOrdered_int_4 K), trivial⟩) rfl (q_slices_partialInsertionSortOrdered_int_0 K)
theorem q_slices_partialInsertionSortOrdered_int (K : Nat) (ds : List D) : evFn (T_slices_partialInsertionSortOrdered_int K) Try.f88 (.seq .go (.seq .go (.seq (.seq .go (.blk (.cut 0))) .go))) (e_slices_partialInsertionSortOrdered_int K) ds = (e_slices_partialInsertionSortOrdered_int K).f ds := by kernel_rfl
theorem ok_slices_partialInsertionSortOrdered_int (K : Nat) : FnOK Try.prog T0 88 (e_slices_partialInsertionSortOrdered_int K) :=
  fn_thm (T0 := T0) (T := T_slices_partialInsertionSortOrdered_int K) rfl (hT_of hT0 rfl rfl rfl) (hes_ok (T0 := T0) (T := T_slices_partialInsertionSortOrdered_int K) rfl rfl (⟨ok_cmp_Less_int K, trivial⟩ : FAll Try.prog T0 [(89, e_cmp_Less_int K)])) Try.func88 (by decide) rfl (Nat.le_of_ble_eq_true rfl) rfl rfl rfl (tot_none rfl) (cutsOK_list (l := [(0, sub (codeOf Try.f88) [1, 1, 0, 1, 0])]) (by kernel_rfl) ⟨cut_one (u := c_slices_partialInsertionSortOrdered_int_0 K) rfl (k_slices_partialInsertionSortOrdered_int_0 K), trivial⟩) (q_slices_partialInsertionSortOrdered_int K)
/-! ### 90 slices.partitionEqualOrdered[int] -/
def b_slices_partitionEqualOrdered_int_2 (K : Nat) (rec : List D → Option (Nat × List D)) (ds : List D) : Option (Nat × List D) :=
  let a := D.nth ds 0
  let i := D.nth ds 1
  let j := D.nth ds 2
  let r0 := D.nth ds 3
  bif ((!(leI i.int j.int)) || (inB a.int r0.list.length)) then
    bif ((!(leI i.int j.int)) || (inB j.int r0.list.length)) then
      bif (bif (leI i.int j.int) then (D.nth (p_cmp_Less_int (D.nth r0.list a.int.toNat) (D.nth r0.list j.int.toNat)) 0).bool else false) then
        rec [a, i, D.i (IntKind.i64.wrap (j.int - (1 : Int))), D.n r0.list]
      else
        some (0, [j, D.n r0.list])
    else
      none
  else
    none
def c_slices_partitionEqualOrdered_int_2 (K : Nat) : Cut := { sh := { sl := [(0, .own 22 0), (1, .d 3 true), (9, .d 3 true), (10, .d 3 true)], ob := [(0, .row 3 true)] }, kept := [0], outs := [(.exit 4, { sl := [(10, .d 3 true)], ob := [(0, .row 3 true)] })], f := fun ds => fixN (b_slices_partitionEqualOrdered_int_2 K) K ds }
def b_slices_partitionEqualOrdered_int_1 (K : Nat) (rec : List D → Option (Nat × List D)) (ds : List D) : Option (Nat × List D) :=
  let a := D.nth ds 0
  let i := D.nth ds 1
  let j := D.nth ds 2
  let r0 := D.nth ds 3
  bif ((!(leI i.int j.int)) || (inB a.int r0.list.length)) then
    bif ((!(leI i.int j.int)) || (inB i.int r0.list.length)) then
      bif (bif (leI i.int j.int) then (!((D.nth (p_cmp_Less_int (D.nth r0.list a.int.toNat) (D.nth r0.list i.int.toNat)) 0).bool)) else false) then
        rec [a, D.i (IntKind.i64.wrap (i.int + (1 : Int))), j, D.n r0.list]
      else
        some (0, [i, D.n r0.list])
    else
      none
  else
    none
def c_slices_partitionEqualOrdered_int_1 (K : Nat) : Cut := { sh := { sl := [(0, .own 22 0), (1, .d 3 true), (9, .d 3 true), (10, .d 3 true)], ob := [(0, .row 3 true)] }, kept := [0], outs := [(.exit 2, { sl := [(9, .d 3 true)], ob := [(0, .row 3 true)] })], f := fun ds => fixN (b_slices_partitionEqualOrdered_int_1 K) K ds }
def b_slices_partitionEqualOrdered_int_0 (K : Nat) (rec : List D → Option (Nat × List D)) (ds : List D) : Option (Nat × List D) :=
  let a := D.nth ds 0
  let i := D.nth ds 1
  let j := D.nth ds 2
  let r0 := D.nth ds 3
  (fixN (b_slices_partitionEqualOrdered_int_1 K) K [a, i, j, D.n r0.list]).bind fun t1 =>
  (fixN (b_slices_partitionEqualOrdered_int_2 K) K [a, D.nth t1.2 0, j, D.n ((D.nth t1.2 1).list)]).bind fun t2 =>
  bif (gtI ((D.nth t1.2 0).int) ((D.nth t2.2 0).int)) then
    some (0, [D.nth t1.2 0, D.n ((D.nth t2.2 1).list)])
  else
    bif (inB ((D.nth t2.2 0).int) (((D.nth t2.2 1).list).length)) then
      bif (inB ((D.nth t1.2 0).int) (((D.nth t2.2 1).list).length)) then
        bif (inB ((D.nth t1.2 0).int) (((D.nth t2.2 1).list).length)) then
          bif (inB ((D.nth t2.2 0).int) ((D.setNth ((D.nth t2.2 1).list) (((D.nth t1.2 0).int).toNat) (D.nth ((D.nth t2.2 1).list) (((D.nth t2.2 0).int).toNat))).length)) then
            rec [a, D.i (IntKind.i64.wrap (((D.nth t1.2 0).int) + (1 : Int))), D.i (IntKind.i64.wrap (((D.nth t2.2 0).int) - (1 : Int))), D.n (D.setNth (D.setNth ((D.nth t2.2 1).list) (((D.nth t1.2 0).int).toNat) (D.nth ((D.nth t2.2 1).list) (((D.nth t2.2 0).int).toNat))) (((D.nth t2.2 0).int).toNat) (D.nth ((D.nth t2.2 1).list) (((D.nth t1.2 0).int).toNat)))]
          else
            none
        else
          none
      else
        none
    else
      none
def c_slices_partitionEqualOrdered_int_0 (K : Nat) : Cut := { sh := { sl := [(0, .own 22 0), (1, .d 3 true), (9, .d 3 true), (10, .d 3 true)], ob := [(0, .row 3 true)] }, kept := [0], outs := [(.exit 0, { sl := [(9, .d 3 true)], ob := [(0, .row 3 true)] })], f := fun ds => fixN (b_slices_partitionEqualOrdered_int_0 K) K ds }
def f_slices_partitionEqualOrdered_int (K : Nat) (a b pivot r0 : D) : Option (List D) :=
  bif (inB pivot.int r0.list.length) then
    bif (inB a.int r0.list.length) then
      bif (inB a.int r0.list.length) then
        bif (inB pivot.int ((D.setNth r0.list a.int.toNat (D.nth r0.list pivot.int.toNat)).length)) then
          (fixN (b_slices_partitionEqualOrdered_int_0 K) K [a, D.i (IntKind.i64.wrap (a.int + (1 : Int))), D.i (IntKind.i64.wrap (b.int - (1 : Int))), D.n (D.setNth (D.setNth r0.list a.int.toNat (D.nth r0.list pivot.int.toNat)) pivot.int.toNat (D.nth r0.list a.int.toNat))]).bind fun t1 =>
          some [D.nth t1.2 0, D.n ((D.nth t1.2 1).list)]
        else
          none
      else
        none
    else
      none
  else
    none
def e_slices_partitionEqualOrdered_int (K : Nat) : Entry := { n := 4, sh := { sl := [(0, .own 22 0), (1, .d 3 false), (2, .d 3 false), (3, .d 3 false)], ob := [(0, .row 3 true)] }, kept := [0], rs := [{ sl := [(0, .d 3 true)], ob := [(0, .row 3 true)] }], f := fun ds => f_slices_partitionEqualOrdered_int K (D.nth ds 0) (D.nth ds 1) (D.nth ds 2) (D.nth ds 3), tot := none }
def T_slices_partitionEqualOrdered_int (K : Nat) : Tbl := { T0 with ents := entsOf [(89, e_cmp_Less_int K)], cuts := lk [(0, c_slices_partitionEqualOrdered_int_0 K), (1, c_slices_partitionEqualOrdered_int_1 K), (2, c_slices_partitionEqualOrdered_int_2 K)] }
theorem q_slices_partitionEqualOrdered_int_2 (K : Nat) (rec : List D → Option (Nat × List D)) (ds : List D) : evLoop (T_slices_partitionEqualOrdered_int K) 84 (sub (codeOf Try.f90) [1, 1, 1, 0, 0, 0, 0, 1, 0, 0, 0]) .go (c_slices_partitionEqualOrdered_int_2 K) rec ds = b_slices_partitionEqualOrdered_int_2 K rec ds := by kernel_rfl
theorem k_slices_partitionEqualOrdered_int_2 (K : Nat) : CutOK Try.prog (T_slices_partitionEqualOrdered_int K) 84 (sub (codeOf Try.f90) [1, 1, 1, 0, 0, 0, 0, 1, 0, 0]) (c_slices_partitionEqualOrdered_int_2 K) :=
  loop_thm (T := T_slices_partitionEqualOrdered_int K) (hT_of hT0 rfl rfl rfl) (hes_ok (T0 := T0) (T := T_slices_partitionEqualOrdered_int K) rfl rfl (⟨ok_cmp_Less_int K, trivial⟩ : FAll Try.prog T0 [(89, e_cmp_Less_int K)])) (by kernel_rfl) rfl rfl rfl (cutsOK_none (by rfl)) rfl (q_slices_partitionEqualOrdered_int_2 K)
theorem q_slices_partitionEqualOrdered_int_1 (K : Nat) (rec : List D → Option (Nat × List D)) (ds : List D) : evLoop (T_slices_partitionEqualOrdered_int K) 84 (sub (codeOf Try.f90) [1, 1, 1, 0, 0, 0, 0, 0, 0, 0]) .go (c_slices_partitionEqualOrdered_int_1 K) rec ds = b_slices_partitionEqualOrdered_int_1 K rec ds := by kernel_rfl
theorem k_slices_partitionEqualOrdered_int_1 (K : Nat) : CutOK Try.prog (T_slices_partitionEqualOrdered_int K) 84 (sub (codeOf Try.f90) [1, 1, 1, 0, 0, 0, 0, 0, 0]) (c_slices_partitionEqualOrdered_int_1 K) :=
  loop_thm (T := T_slices_partitionEqualOrdered_int K) (hT_of hT0 rfl rfl rfl) (hes_ok (T0 := T0) (T := T_slices_partitionEqualOrdered_int K) rfl rfl (⟨ok_cmp_Less_int K, trivial⟩ : FAll Try.prog T0 [(89, e_cmp_Less_int K)])) (by kernel_rfl) rfl rfl rfl (cutsOK_none (by rfl)) rfl (q_slices_partitionEqualOrdered_int_1 K)
theorem q_slices_partitionEqualOrdered_int_0 (K : Nat) (rec : List D → Option (Nat × List D)) (ds : List D) : evLoop (T_slices_partitionEqualOrdered_int K) 84 (sub (codeOf Try.f90) [1, 1, 1, 0, 0, 0]) (.blk (.seq (.blk (.cut 1)) (.seq (.blk (.cut 2)) .go))) (c_slices_partitionEqualOrdered_int_0 K) rec ds = b_slices_partitionEqualOrdered_int_0 K rec ds := by kernel_rfl
theorem k_slices_partitionEqualOrdered_int_0 (K : Nat) : CutOK Try.prog (T_slices_partitionEqualOrdered_int K) 84 (sub (codeOf Try.f90) [1, 1, 1, 0, 0]) (c_slices_partitionEqualOrdered_int_0 K) :=
  loop_thm (T := T_slices_partitionEqualOrdered_int K) (hT_of hT0 rfl rfl rfl) (hes_ok (T0 := T0) (T := T_slices_partitionEqualOrdered_int K) rfl rfl (⟨ok_cmp_Less_int K, trivial⟩ : FAll Try.prog T0 [(89, e_cmp_Less_int K)])) (by kernel_rfl) rfl rfl rfl (cutsOK_list (l := [(1, sub (codeOf Try.f90) [1, 1, 1, 0, 0, 0, 0, 0, 0]), (2, sub (codeOf Try.f90) [1, 1, 1, 0, 0, 0, 0, 1, 0, 0])]) (by kernel_rfl) ⟨cut_one (u := c_slices_partitionEqualOrdered_int_1 K) rfl (k_slices_partitionEqualOrdered_int_1 K), cut_one (u := c_slices_partitionEqualOrdered_int_2 K) rfl (k_slices_partitionEqualOrdered_int_2 K), trivial⟩) rfl (q_slices_partitionEqualOrdered_int_0 K)
theorem q_slices_partitionEqualOrdered_int (K : Nat) (ds : List D) : evFn (T_slices_partitionEqualOrdered_int K) Try.f90 (.seq .go (.seq .go (.seq .go (.seq (.blk (.cut 0)) .go)))) (e_slices_partitionEqualOrdered_int K) ds = (e_slices_partitionEqualOrdered_int K).f ds := by kernel_rfl
theorem ok_slices_partitionEqualOrdered_int (K : Nat) : FnOK Try.prog T0 90 (e_slices_partitionEqualOrdered_int K) :=
  fn_thm (T0 := T0) (T := T_slices_partitionEqualOrdered_int K) rfl (hT_of hT0 rfl rfl rfl) (hes_ok (T0 := T0) (T := T_slices_partitionEqualOrdered_int K) rfl rfl (⟨ok_cmp_Less_int K, trivial⟩ : FAll Try.prog T0 [(89, e_cmp_Less_int K)])) Try.func90 (by decide) rfl (Nat.le_of_ble_eq_true rfl) rfl rfl rfl (tot_none rfl) (cutsOK_list (l := [(0, sub (codeOf Try.f90) [1, 1, 1, 0, 0])]) (by kernel_rfl) ⟨cut_one (u := c_slices_partitionEqualOrdered_int_0 K) rfl (k_slices_partitionEqualOrdered_int_0 K), trivial⟩) (q_slices_partitionEqualOrdered_int K)
/-! ### 91 slices.partitionOrdered[int] -/
def b_slices_partitionOrdered_int_4 (K : Nat) (rec : List D → Option (Nat × List D)) (ds : List D) : Option (Nat × List D) :=
  let a := D.nth ds 0
  let i := D.nth ds 1
  let j := D.nth ds 2
  let r0 := D.nth ds 3
  bif ((!(leI i.int j.int)) || (inB j.int r0.list.length)) then
    bif ((!(leI i.int j.int)) || (inB a.int r0.list.length)) then
      bif (bif (leI i.int j.int) then (!((D.nth (p_cmp_Less_int (D.nth r0.list j.int.toNat) (D.nth r0.list a.int.toNat)) 0).bool)) else false) then
        rec [a, i, D.i (IntKind.i64.wrap (j.int - (1 : Int))), D.n r0.list]
      else
        some (0, [j, D.n r0.list])
    else
      none
  else
    none
def c_slices_partitionOrdered_int_4 (K : Nat) : Cut := { sh := { sl := [(0, .own 22 0), (1, .d 3 true), (10, .d 3 true), (11, .d 3 true)], ob := [(0, .row 3 true)] }, kept := [0], outs := [(.exit 8, { sl := [(11, .d 3 true)], ob := [(0, .row 3 true)] })], f := fun ds => fixN (b_slices_partitionOrdered_int_4 K) K ds }
def b_slices_partitionOrdered_int_3 (K : Nat) (rec : List D → Option (Nat × List D)) (ds : List D) : Option (Nat × List D) :=
  let a := D.nth ds 0
  let i := D.nth ds 1
  let j := D.nth ds 2
  let r0 := D.nth ds 3
  bif ((!(leI i.int j.int)) || (inB i.int r0.list.length)) then
    bif ((!(leI i.int j.int)) || (inB a.int r0.list.length)) then
      bif (bif (leI i.int j.int) then (D.nth (p_cmp_Less_int (D.nth r0.list i.int.toNat) (D.nth r0.list a.int.toNat)) 0).bool else false) then
        rec [a, D.i (IntKind.i64.wrap (i.int + (1 : Int))), j, D.n r0.list]
      else
        some (0, [i, D.n r0.list])
    else
      none
  else
    none
def c_slices_partitionOrdered_int_3 (K : Nat) : Cut := { sh := { sl := [(0, .own 22 0), (1, .d 3 true), (10, .d 3 true), (11, .d 3 true)], ob := [(0, .row 3 true)] }, kept := [0], outs := [(.exit 6, { sl := [(10, .d 3 true)], ob := [(0, .row 3 true)] })], f := fun ds => fixN (b_slices_partitionOrdered_int_3 K) K ds }
def b_slices_partitionOrdered_int_2 (K : Nat) (rec : List D → Option (Nat × List D)) (ds : List D) : Option (Nat × List D) :=
  let a := D.nth ds 0
  let i := D.nth ds 1
  let j := D.nth ds 2
  let r0 := D.nth ds 3
  (fixN (b_slices_partitionOrdered_int_3 K) K [a, i, j, D.n r0.list]).bind fun t3 =>
  (fixN (b_slices_partitionOrdered_int_4 K) K [a, D.nth t3.2 0, j, D.n ((D.nth t3.2 1).list)]).bind fun t4 =>
  bif (gtI ((D.nth t3.2 0).int) ((D.nth t4.2 0).int)) then
    some (0, [D.nth t4.2 0, D.n ((D.nth t4.2 1).list)])
  else
    bif (inB ((D.nth t4.2 0).int) (((D.nth t4.2 1).list).length)) then
      bif (inB ((D.nth t3.2 0).int) (((D.nth t4.2 1).list).length)) then
        bif (inB ((D.nth t3.2 0).int) (((D.nth t4.2 1).list).length)) then
          bif (inB ((D.nth t4.2 0).int) ((D.setNth ((D.nth t4.2 1).list) (((D.nth t3.2 0).int).toNat) (D.nth ((D.nth t4.2 1).list) (((D.nth t4.2 0).int).toNat))).length)) then
            rec [a, D.i (IntKind.i64.wrap (((D.nth t3.2 0).int) + (1 : Int))), D.i (IntKind.i64.wrap (((D.nth t4.2 0).int) - (1 : Int))), D.n (D.setNth (D.setNth ((D.nth t4.2 1).list) (((D.nth t3.2 0).int).toNat) (D.nth ((D.nth t4.2 1).list) (((D.nth t4.2 0).int).toNat))) (((D.nth t4.2 0).int).toNat) (D.nth ((D.nth t4.2 1).list) (((D.nth t3.2 0).int).toNat)))]
          else
            none
        else
          none
      else
        none
    else
      none
def c_slices_partitionOrdered_int_2 (K : Nat) : Cut := { sh := { sl := [(0, .own 22 0), (1, .d 3 true), (10, .d 3 true), (11, .d 3 true)], ob := [(0, .row 3 true)] }, kept := [0], outs := [(.exit 4, { sl := [(11, .d 3 true)], ob := [(0, .row 3 true)] })], f := fun ds => fixN (b_slices_partitionOrdered_int_2 K) K ds }
def b_slices_partitionOrdered_int_1 (K : Nat) (rec : List D → Option (Nat × List D)) (ds : List D) : Option (Nat × List D) :=
  let a := D.nth ds 0
  let i := D.nth ds 1
  let j := D.nth ds 2
  let r0 := D.nth ds 3
  bif ((!(leI i.int j.int)) || (inB j.int r0.list.length)) then
    bif ((!(leI i.int j.int)) || (inB a.int r0.list.length)) then
      bif (bif (leI i.int j.int) then (!((D.nth (p_cmp_Less_int (D.nth r0.list j.int.toNat) (D.nth r0.list a.int.toNat)) 0).bool)) else false) then
        rec [a, i, D.i (IntKind.i64.wrap (j.int - (1 : Int))), D.n r0.list]
      else
        some (0, [j, D.n r0.list])
    else
      none
  else
    none
def c_slices_partitionOrdered_int_1 (K : Nat) : Cut := { sh := { sl := [(0, .own 22 0), (1, .d 3 true), (10, .d 3 true), (11, .d 3 true)], ob := [(0, .row 3 true)] }, kept := [0], outs := [(.exit 2, { sl := [(11, .d 3 true)], ob := [(0, .row 3 true)] })], f := fun ds => fixN (b_slices_partitionOrdered_int_1 K) K ds }
def b_slices_partitionOrdered_int_0 (K : Nat) (rec : List D → Option (Nat × List D)) (ds : List D) : Option (Nat × List D) :=
  let a := D.nth ds 0
  let i := D.nth ds 1
  let j := D.nth ds 2
  let r0 := D.nth ds 3
  bif ((!(leI i.int j.int)) || (inB i.int r0.list.length)) then
    bif ((!(leI i.int j.int)) || (inB a.int r0.list.length)) then
      bif (bif (leI i.int j.int) then (D.nth (p_cmp_Less_int (D.nth r0.list i.int.toNat) (D.nth r0.list a.int.toNat)) 0).bool else false) then
        rec [a, D.i (IntKind.i64.wrap (i.int + (1 : Int))), j, D.n r0.list]
      else
        some (0, [i, D.n r0.list])
    else
      none
  else
    none
def c_slices_partitionOrdered_int_0 (K : Nat) : Cut := { sh := { sl := [(0, .own 22 0), (1, .d 3 true), (10, .d 3 true), (11, .d 3 true)], ob := [(0, .row 3 true)] }, kept := [0], outs := [(.exit 0, { sl := [(10, .d 3 true)], ob := [(0, .row 3 true)] })], f := fun ds => fixN (b_slices_partitionOrdered_int_0 K) K ds }
def f_slices_partitionOrdered_int (K : Nat) (a b pivot r0 : D) : Option (List D) :=
  bif (inB pivot.int r0.list.length) then
    bif (inB a.int r0.list.length) then
      bif (inB a.int r0.list.length) then
        bif (inB pivot.int ((D.setNth r0.list a.int.toNat (D.nth r0.list pivot.int.toNat)).length)) then
          (fixN (b_slices_partitionOrdered_int_0 K) K [a, D.i (IntKind.i64.wrap (a.int + (1 : Int))), D.i (IntKind.i64.wrap (b.int - (1 : Int))), D.n (D.setNth (D.setNth r0.list a.int.toNat (D.nth r0.list pivot.int.toNat)) pivot.int.toNat (D.nth r0.list a.int.toNat))]).bind fun t1 =>
          (fixN (b_slices_partitionOrdered_int_1 K) K [a, D.nth t1.2 0, D.i (IntKind.i64.wrap (b.int - (1 : Int))), D.n ((D.nth t1.2 1).list)]).bind fun t2 =>
          bif (gtI ((D.nth t1.2 0).int) ((D.nth t2.2 0).int)) then
            bif (inB a.int (((D.nth t2.2 1).list).length)) then
              bif (inB ((D.nth t2.2 0).int) (((D.nth t2.2 1).list).length)) then
                bif (inB ((D.nth t2.2 0).int) (((D.nth t2.2 1).list).length)) then
                  bif (inB a.int ((D.setNth ((D.nth t2.2 1).list) (((D.nth t2.2 0).int).toNat) (D.nth ((D.nth t2.2 1).list) a.int.toNat)).length)) then
                    some [D.nth t2.2 0, D.b true, D.n (D.setNth (D.setNth ((D.nth t2.2 1).list) (((D.nth t2.2 0).int).toNat) (D.nth ((D.nth t2.2 1).list) a.int.toNat)) a.int.toNat (D.nth ((D.nth t2.2 1).list) (((D.nth t2.2 0).int).toNat)))]
                  else
                    none
                else
                  none
              else
                none
            else
              none
          else
            bif (inB ((D.nth t2.2 0).int) (((D.nth t2.2 1).list).length)) then
              bif (inB ((D.nth t1.2 0).int) (((D.nth t2.2 1).list).length)) then
                bif (inB ((D.nth t1.2 0).int) (((D.nth t2.2 1).list).length)) then
                  bif (inB ((D.nth t2.2 0).int) ((D.setNth ((D.nth t2.2 1).list) (((D.nth t1.2 0).int).toNat) (D.nth ((D.nth t2.2 1).list) (((D.nth t2.2 0).int).toNat))).length)) then
                    (fixN (b_slices_partitionOrdered_int_2 K) K [a, D.i (IntKind.i64.wrap (((D.nth t1.2 0).int) + (1 : Int))), D.i (IntKind.i64.wrap (((D.nth t2.2 0).int) - (1 : Int))), D.n (D.setNth (D.setNth ((D.nth t2.2 1).list) (((D.nth t1.2 0).int).toNat) (D.nth ((D.nth t2.2 1).list) (((D.nth t2.2 0).int).toNat))) (((D.nth t2.2 0).int).toNat) (D.nth ((D.nth t2.2 1).list) (((D.nth t1.2 0).int).toNat)))]).bind fun t3 =>
                    bif (inB a.int (((D.nth t3.2 1).list).length)) then
                      bif (inB ((D.nth t3.2 0).int) (((D.nth t3.2 1).list).length)) then
                        bif (inB ((D.nth t3.2 0).int) (((D.nth t3.2 1).list).length)) then
                          bif (inB a.int ((D.setNth ((D.nth t3.2 1).list) (((D.nth t3.2 0).int).toNat) (D.nth ((D.nth t3.2 1).list) a.int.toNat)).length)) then
                            some [D.nth t3.2 0, D.b false, D.n (D.setNth (D.setNth ((D.nth t3.2 1).list) (((D.nth t3.2 0).int).toNat) (D.nth ((D.nth t3.2 1).list) a.int.toNat)) a.int.toNat (D.nth ((D.nth t3.2 1).list) (((D.nth t3.2 0).int).toNat)))]
                          else
                            none
                        else
                          none
                      else
                        none
                    else
                      none
                  else
                    none
                else
                  none
              else
                none
            else
              none
        else
          none
      else
        none
    else
      none
  else
    none
def e_slices_partitionOrdered_int (K : Nat) : Entry := { n := 4, sh := { sl := [(0, .own 22 0), (1, .d 3 false), (2, .d 3 false), (3, .d 3 false)], ob := [(0, .row 3 true)] }, kept := [0], rs := [{ sl := [(0, .tup [.d 3 true, .d 4 true])], ob := [(0, .row 3 true)] }], f := fun ds => f_slices_partitionOrdered_int K (D.nth ds 0) (D.nth ds 1) (D.nth ds 2) (D.nth ds 3), tot := none }
def T_slices_partitionOrdered_int (K : Nat) : Tbl := { T0 with ents := entsOf [(89, e_cmp_Less_int K)], cuts := lk [(0, c_slices_partitionOrdered_int_0 K), (1, c_slices_partitionOrdered_int_1 K), (2, c_slices_partitionOrdered_int_2 K), (3, c_slices_partitionOrdered_int_3 K), (4, c_slices_partitionOrdered_int_4 K)] }
theorem q_slices_partitionOrdered_int_4 (K : Nat) (rec : List D → Option (Nat × List D)) (ds : List D) : evLoop (T_slices_partitionOrdered_int K) 168 (sub (codeOf Try.f91) [1, 1, 1, 1, 1, 1, 1, 1, 1, 0, 0, 0, 0, 1, 0, 0, 0]) .go (c_slices_partitionOrdered_int_4 K) rec ds = b_slices_partitionOrdered_int_4 K rec ds := by kernel_rfl
theorem k_slices_partitionOrdered_int_4 (K : Nat) : CutOK Try.prog (T_slices_partitionOrdered_int K) 168 (sub (codeOf Try.f91) [1, 1, 1, 1, 1, 1, 1, 1, 1, 0, 0, 0, 0, 1, 0, 0]) (c_slices_partitionOrdered_int_4 K) :=
  loop_thm (T := T_slices_partitionOrdered_int K) (hT_of hT0 rfl rfl rfl) (hes_ok (T0 := T0) (T := T_slices_partitionOrdered_int K) rfl rfl (⟨ok_cmp_Less_int K, trivial⟩ : FAll Try.prog T0 [(89, e_cmp_Less_int K)])) (by kernel_rfl) rfl rfl rfl (cutsOK_none (by rfl)) rfl (q_slices_partitionOrdered_int_4 K)
theorem q_slices_partitionOrdered_int_3 (K : Nat) (rec : List D → Option (Nat × List D)) (ds : List D) : evLoop (T_slices_partitionOrdered_int K) 168 (sub (codeOf Try.f91) [1, 1, 1, 1, 1, 1, 1, 1, 1, 0, 0, 0, 0, 0, 0, 0]) .go (c_slices_partitionOrdered_int_3 K) rec ds = b_slices_partitionOrdered_int_3 K rec ds := by kernel_rfl
theorem k_slices_partitionOrdered_int_3 (K : Nat) : CutOK Try.prog (T_slices_partitionOrdered_int K) 168 (sub (codeOf Try.f91) [1, 1, 1, 1, 1, 1, 1, 1, 1, 0, 0, 0, 0, 0, 0]) (c_slices_partitionOrdered_int_3 K) :=
  loop_thm (T := T_slices_partitionOrdered_int K) (hT_of hT0 rfl rfl rfl) (hes_ok (T0 := T0) (T := T_slices_partitionOrdered_int K) rfl rfl (⟨ok_cmp_Less_int K, trivial⟩ : FAll Try.prog T0 [(89, e_cmp_Less_int K)])) (by kernel_rfl) rfl rfl rfl (cutsOK_none (by rfl)) rfl (q_slices_partitionOrdered_int_3 K)
theorem q_slices_partitionOrdered_int_2 (K : Nat) (rec : List D → Option (Nat × List D)) (ds : List D) : evLoop (T_slices_partitionOrdered_int K) 168 (sub (codeOf Try.f91) [1, 1, 1, 1, 1, 1, 1, 1, 1, 0, 0, 0]) (.blk (.seq (.blk (.cut 3)) (.seq (.blk (.cut 4)) .go))) (c_slices_partitionOrdered_int_2 K) rec ds = b_slices_partitionOrdered_int_2 K rec ds := by kernel_rfl
theorem k_slices_partitionOrdered_int_2 (K : Nat) : CutOK Try.prog (T_slices_partitionOrdered_int K) 168 (sub (codeOf Try.f91) [1, 1, 1, 1, 1, 1, 1, 1, 1, 0, 0]) (c_slices_partitionOrdered_int_2 K) :=
  loop_thm (T := T_slices_partitionOrdered_int K) (hT_of hT0 rfl rfl rfl) (hes_ok (T0 := T0) (T := T_slices_partitionOrdered_int K) rfl rfl (⟨ok_cmp_Less_int K, trivial⟩ : FAll Try.prog T0 [(89, e_cmp_Less_int K)])) (by kernel_rfl) rfl rfl rfl (cutsOK_list (l := [(3, sub (codeOf Try.f91) [1, 1, 1, 1, 1, 1, 1, 1, 1, 0, 0, 0, 0, 0, 0]), (4, sub (codeOf Try.f91) [1, 1, 1, 1, 1, 1, 1, 1, 1, 0, 0, 0, 0, 1, 0, 0])]) (by kernel_rfl) ⟨cut_one (u := c_slices_partitionOrdered_int_3 K) rfl (k_slices_partitionOrdered_int_3 K), cut_one (u := c_slices_partitionOrdered_int_4 K) rfl (k_slices_partitionOrdered_int_4 K), trivial⟩) rfl (q_slices_partitionOrdered_int_2 K)
theorem q_slices_partitionOrdered_int_1 (K : Nat) (rec : List D → Option (Nat × List D)) (ds : List D) : evLoop (T_slices_partitionOrdered_int K) 168 (sub (codeOf Try.f91) [1, 1, 1, 1, 0, 0, 0]) .go (c_slices_partitionOrdered_int_1 K) rec ds = b_slices_partitionOrdered_int_1 K rec ds := by kernel_rfl
theorem k_slices_partitionOrdered_int_1 (K : Nat) : CutOK Try.prog (T_slices_partitionOrdered_int K) 168 (sub (codeOf Try.f91) [1, 1, 1, 1, 0, 0]) (c_slices_partitionOrdered_int_1 K) :=
  loop_thm (T := T_slices_partitionOrdered_int K) (hT_of hT0 rfl rfl rfl) (hes_ok (T0 := T0) (T := T_slices_partitionOrdered_int K) rfl rfl (⟨ok_cmp_Less_int K, trivial⟩ : FAll Try.prog T0 [(89, e_cmp_Less_int K)])) (by kernel_rfl) rfl rfl rfl (cutsOK_none (by rfl)) rfl (q_slices_partitionOrdered_int_1 K)
theorem q_slices_partitionOrdered_int_0 (K : Nat) (rec : List D → Option (Nat × List D)) (ds : List D) : evLoop (T_slices_partitionOrdered_int K) 168 (sub (codeOf Try.f91) [1, 1, 1, 0, 0, 0]) .go (c_slices_partitionOrdered_int_0 K) rec ds = b_slices_partitionOrdered_int_0 K rec ds := by kernel_rfl
theorem k_slices_partitionOrdered_int_0 (K : Nat) : CutOK Try.prog (T_slices_partitionOrdered_int K) 168 (sub (codeOf Try.f91) [1, 1, 1, 0, 0]) (c_slices_partitionOrdered_int_0 K) :=
  loop_thm (T := T_slices_partitionOrdered_int K) (hT_of hT0 rfl rfl rfl) (hes_ok (T0 := T0) (T := T_slices_partitionOrdered_int K) rfl rfl (⟨ok_cmp_Less_int K, trivial⟩ : FAll Try.prog T0 [(89, e_cmp_Less_int K)])) (by kernel_rfl) rfl rfl rfl (cutsOK_none (by rfl)) rfl (q_slices_partitionOrdered_int_0 K)
theorem q_slices_partitionOrdered_int (K : Nat) (ds : List D) : evFn (T_slices_partitionOrdered_int K) Try.f91 (.seq .go (.seq .go (.seq .go (.seq (.blk (.cut 0)) (.seq (.blk (.cut 1)) (.seq .go (.seq .go (.seq .go (.seq .go (.seq (.blk (.cut 2)) .go)))))))))) (e_slices_partitionOrdered_int K) ds = (e_slices_partitionOrdered_int K).f ds := by kernel_rfl
theorem ok_slices_partitionOrdered_int (K : Nat) : FnOK Try.prog T0 91 (e_slices_partitionOrdered_int K) :=
  fn_thm (T0 := T0) (T := T_slices_partitionOrdered_int K) rfl (hT_of hT0 rfl rfl rfl) (hes_ok (T0 := T0) (T := T_slices_partitionOrdered_int K) rfl rfl (⟨ok_cmp_Less_int K, trivial⟩ : FAll Try.prog T0 [(89, e_cmp_Less_int K)])) Try.func91 (by decide) rfl (Nat.le_of_ble_eq_true rfl) rfl rfl rfl (tot_none rfl) (cutsOK_list (l := [(0, sub (codeOf Try.f91) [1, 1, 1, 0, 0]), (1, sub (codeOf Try.f91) [1, 1, 1, 1, 0, 0]), (2, sub (codeOf Try.f91) [1, 1, 1, 1, 1, 1, 1, 1, 1, 0, 0])]) (by kernel_rfl) ⟨cut_one (u := c_slices_partitionOrdered_int_0 K) rfl (k_slices_partitionOrdered_int_0 K), cut_one (u := c_slices_partitionOrdered_int_1 K) rfl (k_slices_partitionOrdered_int_1 K), cut_one (u := c_slices_partitionOrdered_int_2 K) rfl (k_slices_partitionOrdered_int_2 K), trivial⟩) (q_slices_partitionOrdered_int K)
/-! ### 56 slices.pdqsortOrdered[int] -/
def b_slices_pdqsortOrdered_int_3 (K : Nat) (rc : List D → Option (List D)) (ds : List D) : Option (Nat × List D) :=
  let a := D.nth ds 0
  let b := D.nth ds 1
  let s68 := D.nth ds 2
  let r0 := D.nth ds 3
  bif s68.bool then
    (f_slices_partialInsertionSortOrdered_int K a b (D.n r0.list)).bind fun t6 =>
    bif (D.nth t6 0).bool then
      some (0, [D.n ((D.nth t6 1).list)])
    else
      some (1, [D.n ((D.nth t6 1).list)])
  else
    some (1, [D.n r0.list])
def b_slices_pdqsortOrdered_int_2 (K : Nat) (rc : List D → Option (List D)) (ds : List D) : Option (Nat × List D) :=
  let a := D.nth ds 0
  let b := D.nth ds 1
  let pivot := D.nth ds 2
  let hint := D.nth ds 3
  let s50 := D.nth ds 4
  let r0 := D.nth ds 5
  bif s50.bool then
    (f_slices_reverseRangeOrdered_int K a b (D.n r0.list)).bind fun t5 =>
    some (0, [D.i (IntKind.i64.wrap ((IntKind.i64.wrap (b.int - (1 : Int))) - (IntKind.i64.wrap (pivot.int - a.int)))), D.i 1, D.n ((D.nth t5 0).list)])
  else
    some (0, [pivot, hint, D.n r0.list])
def b_slices_pdqsortOrdered_int_1 (K : Nat) (rc : List D → Option (List D)) (ds : List D) : Option (Nat × List D) :=
  let a := D.nth ds 0
  let b := D.nth ds 1
  let limit := D.nth ds 2
  let s35 := D.nth ds 3
  let r0 := D.nth ds 4
  bif s35.bool then
    (f_slices_breakPatternsOrdered_int K a b (D.n r0.list)).bind fun t3 =>
    some (0, [D.i (IntKind.i64.wrap (limit.int - (1 : Int))), D.n ((D.nth t3 0).list)])
  else
    some (0, [limit, D.n r0.list])
def b_slices_pdqsortOrdered_int_0 (K : Nat) (rc : List D → Option (List D)) (rec : List D → Option (Nat × List D)) (ds : List D) : Option (Nat × List D) :=
  let a := D.nth ds 0
  let b := D.nth ds 1
  let limit := D.nth ds 2
  let wasBalanced := D.nth ds 3
  let wasPartitioned := D.nth ds 4
  let r0 := D.nth ds 5
  bif (leI (IntKind.i64.wrap (b.int - a.int)) 12) then
    (f_slices_insertionSortOrdered_int K a b (D.n r0.list)).bind fun t1 =>
    some (0, [D.n ((D.nth t1 0).list)])
  else
    bif (limit.int == (0 : Int)) then
      (f_slices_heapSortOrdered_int K a b (D.n r0.list)).bind fun t2 =>
      some (0, [D.n ((D.nth t2 0).list)])
    else
      (b_slices_pdqsortOrdered_int_1 K rc [a, b, limit, D.b (!wasBalanced.bool), D.n r0.list]).bind fun t3 =>
      (f_slices_choosePivotOrdered_int K (D.n ((D.nth t3.2 1).list)) a b).bind fun t4 =>
      (b_slices_pdqsortOrdered_int_2 K rc [a, b, D.nth t4 0, D.nth t4 1, D.b (((D.nth t4 1).int) == (2 : Int)), D.n ((D.nth t3.2 1).list)]).bind fun t5 =>
      (b_slices_pdqsortOrdered_int_3 K rc [a, b, D.b (bif (bif wasBalanced.bool then wasPartitioned.bool else false) then (((D.nth t5.2 1).int) == (1 : Int)) else false), D.n ((D.nth t5.2 2).list)]).bind fun t6 =>
      bif (t6.1.beq 0) then
        some (0, [D.n ((D.nth t6.2 0).list)])
      else
        bif ((!(gtI a.int 0)) || (inB (IntKind.i64.wrap (a.int - (1 : Int))) (((D.nth t6.2 0).list).length))) then
          bif ((!(gtI a.int 0)) || (inB ((D.nth t5.2 0).int) (((D.nth t6.2 0).list).length))) then
            bif (bif (gtI a.int 0) then (!((D.nth (p_cmp_Less_int (D.nth ((D.nth t6.2 0).list) ((IntKind.i64.wrap (a.int - (1 : Int))).toNat)) (D.nth ((D.nth t6.2 0).list) (((D.nth t5.2 0).int).toNat))) 0).bool)) else false) then
              (f_slices_partitionEqualOrdered_int K a b (D.nth t5.2 0) (D.n ((D.nth t6.2 0).list))).bind fun t7 =>
              rec [D.nth t7 0, b, D.nth t3.2 0, wasBalanced, wasPartitioned, D.n ((D.nth t7 1).list)]
            else
              (f_slices_partitionOrdered_int K a b (D.nth t5.2 0) (D.n ((D.nth t6.2 0).list))).bind fun t8 =>
              bif (ltI (IntKind.i64.wrap (((D.nth t8 0).int) - a.int)) (IntKind.i64.wrap (b.int - ((D.nth t8 0).int)))) then
                (rc [a, D.nth t8 0, D.nth t3.2 0, D.n ((D.nth t8 2).list)]).bind fun t9 =>
                rec [D.i (IntKind.i64.wrap (((D.nth t8 0).int) + (1 : Int))), b, D.nth t3.2 0, D.b (geI (IntKind.i64.wrap (((D.nth t8 0).int) - a.int)) (IntKind.i64.wrap (Int.tdiv (IntKind.i64.wrap (b.int - a.int)) (8 : Int)))), D.nth t8 1, D.n ((D.nth t9 0).list)]
              else
                (rc [D.i (IntKind.i64.wrap (((D.nth t8 0).int) + (1 : Int))), b, D.nth t3.2 0, D.n ((D.nth t8 2).list)]).bind fun t10 =>
                rec [a, D.nth t8 0, D.nth t3.2 0, D.b (geI (IntKind.i64.wrap (b.int - ((D.nth t8 0).int))) (IntKind.i64.wrap (Int.tdiv (IntKind.i64.wrap (b.int - a.int)) (8 : Int)))), D.nth t8 1, D.n ((D.nth t10 0).list)]
          else
            none
        else
          none
def f_slices_pdqsortOrdered_int (K : Nat) (rc : List D → Option (List D)) (a b limit r0 : D) : Option (List D) :=
  (fixN (b_slices_pdqsortOrdered_int_0 K rc) K [a, b, limit, D.b true, D.b true, D.n r0.list]).bind fun t1 =>
  some [D.n ((D.nth t1.2 0).list)]
def F_slices_pdqsortOrdered_int (K : Nat) (rc : List D → Option (List D)) (ds : List D) : Option (List D) := f_slices_pdqsortOrdered_int K rc (D.nth ds 0) (D.nth ds 1) (D.nth ds 2) (D.nth ds 3)
def c_slices_pdqsortOrdered_int_3 (K n : Nat) : Cut := { sh := { sl := [(0, .own 22 0), (1, .d 3 true), (2, .d 3 true), (68, .d 4 true)], ob := [(0, .row 3 true)] }, kept := [0], outs := [(.ret, { sl := [], ob := [(0, .row 3 true)] }), (.normal, { sl := [], ob := [(0, .row 3 true)] })], f := b_slices_pdqsortOrdered_int_3 K (fixF (F_slices_pdqsortOrdered_int K) n) }
def c_slices_pdqsortOrdered_int_2 (K n : Nat) : Cut := { sh := { sl := [(0, .own 22 0), (1, .d 3 true), (2, .d 3 true), (11, .d 3 true), (12, .d 114 true), (50, .d 4 true)], ob := [(0, .row 3 true)] }, kept := [0], outs := [(.normal, { sl := [(11, .d 3 true), (12, .d 114 true)], ob := [(0, .row 3 true)] })], f := b_slices_pdqsortOrdered_int_2 K (fixF (F_slices_pdqsortOrdered_int K) n) }
def c_slices_pdqsortOrdered_int_1 (K n : Nat) : Cut := { sh := { sl := [(0, .own 22 0), (1, .d 3 true), (2, .d 3 true), (3, .d 3 true), (35, .d 4 true)], ob := [(0, .row 3 true)] }, kept := [0], outs := [(.normal, { sl := [(3, .d 3 true)], ob := [(0, .row 3 true)] })], f := b_slices_pdqsortOrdered_int_1 K (fixF (F_slices_pdqsortOrdered_int K) n) }
def c_slices_pdqsortOrdered_int_0 (K n : Nat) : Cut := { sh := { sl := [(0, .own 22 0), (1, .d 3 true), (2, .d 3 true), (3, .d 3 true), (8, .d 4 true), (9, .d 4 true)], ob := [(0, .row 3 true)] }, kept := [0], outs := [(.ret, { sl := [], ob := [(0, .row 3 true)] })], f := fun ds => fixN (b_slices_pdqsortOrdered_int_0 K (fixF (F_slices_pdqsortOrdered_int K) n)) K ds }
def eR_slices_pdqsortOrdered_int (K n : Nat) : Entry := { n := 4, sh := { sl := [(0, .own 22 0), (1, .d 3 false), (2, .d 3 false), (3, .d 3 false)], ob := [(0, .row 3 true)] }, kept := [0], rs := [{ sl := [(0, .tup [])], ob := [(0, .row 3 true)] }], f := fixF (F_slices_pdqsortOrdered_int K) n, tot := none }
def e_slices_pdqsortOrdered_int (K : Nat) : Entry := eR_slices_pdqsortOrdered_int K K
def T_slices_pdqsortOrdered_int (K n : Nat) : Tbl := { T0 with ents := entsOf [(83, e_slices_insertionSortOrdered_int K), (84, e_slices_heapSortOrdered_int K), (85, e_slices_breakPatternsOrdered_int K), (86, e_slices_choosePivotOrdered_int K), (87, e_slices_reverseRangeOrdered_int K), (88, e_slices_partialInsertionSortOrdered_int K), (89, e_cmp_Less_int K), (90, e_slices_partitionEqualOrdered_int K), (91, e_slices_partitionOrdered_int K), (56, eR_slices_pdqsortOrdered_int K n)], cuts := lk [(0, c_slices_pdqsortOrdered_int_0 K n), (1, c_slices_pdqsortOrdered_int_1 K n), (2, c_slices_pdqsortOrdered_int_2 K n), (3, c_slices_pdqsortOrdered_int_3 K n)] }
theorem q_slices_pdqsortOrdered_int_3 (K n : Nat) (ds : List D) : evPiece (T_slices_pdqsortOrdered_int K n) 134 (sub (codeOf Try.f56) [1, 1, 0, 0, 0, 1, 1, 1, 1, 1, 1, 0, 1]) .go (c_slices_pdqsortOrdered_int_3 K n) ds = b_slices_pdqsortOrdered_int_3 K (fixF (F_slices_pdqsortOrdered_int K) n) ds := by kernel_rfl
theorem k_slices_pdqsortOrdered_int_3 (K n : Nat) (hr : FnOK Try.prog T0 56 (eR_slices_pdqsortOrdered_int K n)) : CutOK Try.prog (T_slices_pdqsortOrdered_int K n) 134 (sub (codeOf Try.f56) [1, 1, 0, 0, 0, 1, 1, 1, 1, 1, 1, 0, 1]) (c_slices_pdqsortOrdered_int_3 K n) :=
  piece_thm (T := T_slices_pdqsortOrdered_int K n) (hT_of hT0 rfl rfl rfl) (hes_ok (T0 := T0) (T := T_slices_pdqsortOrdered_int K n) rfl rfl (⟨ok_slices_insertionSortOrdered_int K, ok_slices_heapSortOrdered_int K, ok_slices_breakPatternsOrdered_int K, ok_slices_choosePivotOrdered_int K, ok_slices_reverseRangeOrdered_int K, ok_slices_partialInsertionSortOrdered_int K, ok_cmp_Less_int K, ok_slices_partitionEqualOrdered_int K, ok_slices_partitionOrdered_int K, hr, trivial⟩ : FAll Try.prog T0 [(83, e_slices_insertionSortOrdered_int K), (84, e_slices_heapSortOrdered_int K), (85, e_slices_breakPatternsOrdered_int K), (86, e_slices_choosePivotOrdered_int K), (87, e_slices_reverseRangeOrdered_int K), (88, e_slices_partialInsertionSortOrdered_int K), (89, e_cmp_Less_int K), (90, e_slices_partitionEqualOrdered_int K), (91, e_slices_partitionOrdered_int K), (56, eR_slices_pdqsortOrdered_int K n)])) rfl rfl rfl (cutsOK_none (by rfl)) (q_slices_pdqsortOrdered_int_3 K n)
theorem q_slices_pdqsortOrdered_int_2 (K n : Nat) (ds : List D) : evPiece (T_slices_pdqsortOrdered_int K n) 134 (sub (codeOf Try.f56) [1, 1, 0, 0, 0, 1, 1, 1, 1, 1, 0, 1]) .go (c_slices_pdqsortOrdered_int_2 K n) ds = b_slices_pdqsortOrdered_int_2 K (fixF (F_slices_pdqsortOrdered_int K) n) ds := by kernel_rfl
theorem k_slices_pdqsortOrdered_int_2 (K n : Nat) (hr : FnOK Try.prog T0 56 (eR_slices_pdqsortOrdered_int K n)) : CutOK Try.prog (T_slices_pdqsortOrdered_int K n) 134 (sub (codeOf Try.f56) [1, 1, 0, 0, 0, 1, 1, 1, 1, 1, 0, 1]) (c_slices_pdqsortOrdered_int_2 K n) :=
  piece_thm (T := T_slices_pdqsortOrdered_int K n) (hT_of hT0 rfl rfl rfl) (hes_ok (T0 := T0) (T := T_slices_pdqsortOrdered_int K n) rfl rfl (⟨ok_slices_insertionSortOrdered_int K, ok_slices_heapSortOrdered_int K, ok_slices_breakPatternsOrdered_int K, ok_slices_choosePivotOrdered_int K, ok_slices_reverseRangeOrdered_int K, ok_slices_partialInsertionSortOrdered_int K, ok_cmp_Less_int K, ok_slices_partitionEqualOrdered_int K, ok_slices_partitionOrdered_int K, hr, trivial⟩ : FAll Try.prog T0 [(83, e_slices_insertionSortOrdered_int K), (84, e_slices_heapSortOrdered_int K), (85, e_slices_breakPatternsOrdered_int K), (86, e_slices_choosePivotOrdered_int K), (87, e_slices_reverseRangeOrdered_int K), (88, e_slices_partialInsertionSortOrdered_int K), (89, e_cmp_Less_int K), (90, e_slices_partitionEqualOrdered_int K), (91, e_slices_partitionOrdered_int K), (56, eR_slices_pdqsortOrdered_int K n)])) rfl rfl rfl (cutsOK_none (by rfl)) (q_slices_pdqsortOrdered_int_2 K n)
theorem q_slices_pdqsortOrdered_int_1 (K n : Nat) (ds : List D) : evPiece (T_slices_pdqsortOrdered_int K n) 134 (sub (codeOf Try.f56) [1, 1, 0, 0, 0, 1, 1, 1, 0, 1]) .go (c_slices_pdqsortOrdered_int_1 K n) ds = b_slices_pdqsortOrdered_int_1 K (fixF (F_slices_pdqsortOrdered_int K) n) ds := by kernel_rfl
theorem k_slices_pdqsortOrdered_int_1 (K n : Nat) (hr : FnOK Try.prog T0 56 (eR_slices_pdqsortOrdered_int K n)) : CutOK Try.prog (T_slices_pdqsortOrdered_int K n) 134 (sub (codeOf Try.f56) [1, 1, 0, 0, 0, 1, 1, 1, 0, 1]) (c_slices_pdqsortOrdered_int_1 K n) :=
  piece_thm (T := T_slices_pdqsortOrdered_int K n) (hT_of hT0 rfl rfl rfl) (hes_ok (T0 := T0) (T := T_slices_pdqsortOrdered_int K n) rfl rfl (⟨ok_slices_insertionSortOrdered_int K, ok_slices_heapSortOrdered_int K, ok_slices_breakPatternsOrdered_int K, ok_slices_choosePivotOrdered_int K, ok_slices_reverseRangeOrdered_int K, ok_slices_partialInsertionSortOrdered_int K, ok_cmp_Less_int K, ok_slices_partitionEqualOrdered_int K, ok_slices_partitionOrdered_int K, hr, trivial⟩ : FAll Try.prog T0 [(83, e_slices_insertionSortOrdered_int K), (84, e_slices_heapSortOrdered_int K), (85, e_slices_breakPatternsOrdered_int K), (86, e_slices_choosePivotOrdered_int K), (87, e_slices_reverseRangeOrdered_int K), (88, e_slices_partialInsertionSortOrdered_int K), (89, e_cmp_Less_int K), (90, e_slices_partitionEqualOrdered_int K), (91, e_slices_partitionOrdered_int K), (56, eR_slices_pdqsortOrdered_int K n)])) rfl rfl rfl (cutsOK_none (by rfl)) (q_slices_pdqsortOrdered_int_1 K n)
theorem q_slices_pdqsortOrdered_int_0 (K n : Nat) (rec : List D → Option (Nat × List D)) (ds : List D) : evLoop (T_slices_pdqsortOrdered_int K n) 134 (sub (codeOf Try.f56) [1, 1, 0, 0]) (.blk (.seq .go (.seq .go (.seq .go (.seq (.seq .go (.cut 1)) (.seq .go (.seq (.seq .go (.cut 2)) (.seq (.seq .go (.cut 3)) .go)))))))) (c_slices_pdqsortOrdered_int_0 K n) rec ds = b_slices_pdqsortOrdered_int_0 K (fixF (F_slices_pdqsortOrdered_int K) n) rec ds := by kernel_rfl
theorem k_slices_pdqsortOrdered_int_0 (K n : Nat) (hr : FnOK Try.prog T0 56 (eR_slices_pdqsortOrdered_int K n)) : CutOK Try.prog (T_slices_pdqsortOrdered_int K n) 134 (sub (codeOf Try.f56) [1, 1, 0]) (c_slices_pdqsortOrdered_int_0 K n) :=
  loop_thm (T := T_slices_pdqsortOrdered_int K n) (hT_of hT0 rfl rfl rfl) (hes_ok (T0 := T0) (T := T_slices_pdqsortOrdered_int K n) rfl rfl (⟨ok_slices_insertionSortOrdered_int K, ok_slices_heapSortOrdered_int K, ok_slices_breakPatternsOrdered_int K, ok_slices_choosePivotOrdered_int K, ok_slices_reverseRangeOrdered_int K, ok_slices_partialInsertionSortOrdered_int K, ok_cmp_Less_int K, ok_slices_partitionEqualOrdered_int K, ok_slices_partitionOrdered_int K, hr, trivial⟩ : FAll Try.prog T0 [(83, e_slices_insertionSortOrdered_int K), (84, e_slices_heapSortOrdered_int K), (85, e_slices_breakPatternsOrdered_int K), (86, e_slices_choosePivotOrdered_int K), (87, e_slices_reverseRangeOrdered_int K), (88, e_slices_partialInsertionSortOrdered_int K), (89, e_cmp_Less_int K), (90, e_slices_partitionEqualOrdered_int K), (91, e_slices_partitionOrdered_int K), (56, eR_slices_pdqsortOrdered_int K n)])) (by kernel_rfl) rfl rfl rfl (cutsOK_list (l := [(1, sub (codeOf Try.f56) [1, 1, 0, 0, 0, 1, 1, 1, 0, 1]), (2, sub (codeOf Try.f56) [1, 1, 0, 0, 0, 1, 1, 1, 1, 1, 0, 1]), (3, sub (codeOf Try.f56) [1, 1, 0, 0, 0, 1, 1, 1, 1, 1, 1, 0, 1])]) (by kernel_rfl) ⟨cut_one (u := c_slices_pdqsortOrdered_int_1 K n) rfl (k_slices_pdqsortOrdered_int_1 K n hr), cut_one (u := c_slices_pdqsortOrdered_int_2 K n) rfl (k_slices_pdqsortOrdered_int_2 K n hr), cut_one (u := c_slices_pdqsortOrdered_int_3 K n) rfl (k_slices_pdqsortOrdered_int_3 K n hr), trivial⟩) rfl (q_slices_pdqsortOrdered_int_0 K n)
theorem q_slices_pdqsortOrdered_int (K n : Nat) (ds : List D) : evFn (T_slices_pdqsortOrdered_int K n) Try.f56 (.seq .go (.seq .go (.blk (.cut 0)))) (eR_slices_pdqsortOrdered_int K (n + 1)) ds = F_slices_pdqsortOrdered_int K (fixF (F_slices_pdqsortOrdered_int K) n) ds := by kernel_rfl
theorem okR_slices_pdqsortOrdered_int (K : Nat) : ∀ n, FnOK Try.prog T0 56 (eR_slices_pdqsortOrdered_int K n)
  | 0 => rec0 rfl rfl rfl fun _ => rfl
  | n + 1 => by
    have hr := okR_slices_pdqsortOrdered_int K n
    exact fn_thm (T0 := T0) (T := T_slices_pdqsortOrdered_int K n) (e := eR_slices_pdqsortOrdered_int K (n + 1)) rfl (hT_of hT0 rfl rfl rfl) (hes_ok (T0 := T0) (T := T_slices_pdqsortOrdered_int K n) rfl rfl (⟨ok_slices_insertionSortOrdered_int K, ok_slices_heapSortOrdered_int K, ok_slices_breakPatternsOrdered_int K, ok_slices_choosePivotOrdered_int K, ok_slices_reverseRangeOrdered_int K, ok_slices_partialInsertionSortOrdered_int K, ok_cmp_Less_int K, ok_slices_partitionEqualOrdered_int K, ok_slices_partitionOrdered_int K, hr, trivial⟩ : FAll Try.prog T0 [(83, e_slices_insertionSortOrdered_int K), (84, e_slices_heapSortOrdered_int K), (85, e_slices_breakPatternsOrdered_int K), (86, e_slices_choosePivotOrdered_int K), (87, e_slices_reverseRangeOrdered_int K), (88, e_slices_partialInsertionSortOrdered_int K), (89, e_cmp_Less_int K), (90, e_slices_partitionEqualOrdered_int K), (91, e_slices_partitionOrdered_int K), (56, eR_slices_pdqsortOrdered_int K n)])) Try.func56 (by decide) rfl (Nat.le_of_ble_eq_true rfl) rfl rfl rfl (tot_none rfl) (cutsOK_list (l := [(0, sub (codeOf Try.f56) [1, 1, 0])]) (by kernel_rfl) ⟨cut_one (u := c_slices_pdqsortOrdered_int_0 K n) rfl (k_slices_pdqsortOrdered_int_0 K n hr), trivial⟩) (q_slices_pdqsortOrdered_int K n)
theorem ok_slices_pdqsortOrdered_int (K : Nat) : FnOK Try.prog T0 56 (e_slices_pdqsortOrdered_int K) := okR_slices_pdqsortOrdered_int K K
/-! ### 36 slices.Sort[[]int,int] -/
def f_slices_Sort_int (K : Nat) (r0 : D) : Option (List D) :=
  (f_bits_Len K (D.i (IntKind.u64.wrap (r0.list.length : Int)))).bind fun t1 =>
  (fixF (F_slices_pdqsortOrdered_int K) K [D.i 0, D.i (r0.list.length : Int), D.nth t1 0, D.n r0.list]).bind fun t2 =>
  some [D.n ((D.nth t2 0).list)]
def e_slices_Sort_int (K : Nat) : Entry := { n := 1, sh := { sl := [(0, .own 22 0)], ob := [(0, .row 3 true)] }, kept := [0], rs := [{ sl := [(0, .tup [])], ob := [(0, .row 3 true)] }], f := fun ds => f_slices_Sort_int K (D.nth ds 0), tot := none }
def T_slices_Sort_int (K : Nat) : Tbl := { T0 with ents := entsOf [(57, e_bits_Len K), (56, e_slices_pdqsortOrdered_int K)], cuts := lk [] }
theorem q_slices_Sort_int (K : Nat) (ds : List D) : evFn (T_slices_Sort_int K) Try.f36 .go (e_slices_Sort_int K) ds = (e_slices_Sort_int K).f ds := by kernel_rfl
theorem ok_slices_Sort_int (K : Nat) : FnOK Try.prog T0 36 (e_slices_Sort_int K) :=
  fn_thm (T0 := T0) (T := T_slices_Sort_int K) rfl (hT_of hT0 rfl rfl rfl) (hes_ok (T0 := T0) (T := T_slices_Sort_int K) rfl rfl (⟨ok_bits_Len K, ok_slices_pdqsortOrdered_int K, trivial⟩ : FAll Try.prog T0 [(57, e_bits_Len K), (56, e_slices_pdqsortOrdered_int K)])) Try.func36 (by decide) rfl (Nat.le_of_ble_eq_true rfl) rfl rfl rfl (tot_none rfl) (cutsOK_none (by rfl)) (q_slices_Sort_int K)
/-! ### 37 slices.Compact[[]int,int] -/
def lays_slices_Compact_int_ren : Go.Shelf.Ren := ⟨fun | 20 => 37 | n => n, fun | 22 => 22 | 3 => 3 | 4 => 4 | 0 => 0 | n => n, fun | n => n⟩
theorem lays_slices_Compact_int : Go.Proofs.Lays2.n20 Try.prog lays_slices_Compact_int_ren where
  mixed := by kernel_rfl
  f20 := Try.func37.trans (congrArg some (by kernel_rfl))
  t0 := Try.underlying0
  a0 := Try.isAgg0
  z0 := Try.sizeOf0
  v0 := Try.zeroValue0
  t3 := Try.underlying3
  a3 := Try.isAgg3
  z3 := Try.sizeOf3
  v3 := Try.zeroValue3
  t4 := Try.underlying4
  a4 := Try.isAgg4
  z4 := Try.sizeOf4
  v4 := Try.zeroValue4
  t22 := Try.underlying22
  a22 := Try.isAgg22
  z22 := Try.sizeOf22
  v22 := Try.zeroValue22
  i3 := by kernel_rfl
def p_slices_Compact_int (x : D) : List D := [D.n (compI x.list)]
def e_slices_Compact_int (K : Nat) : Entry := compEnt 22 3
theorem ok_slices_Compact_int (K : Nat) : FnOK Try.prog T0 37 (e_slices_Compact_int K) :=
  comp_ok (T := T0) hT0 Try.func37 rfl (by decide) rfl (fun b off n c zs w => Any.slices_Compact_int_cells lays_slices_Compact_int b off n c zs w) (fun a cap w => Any.slices_Compact_int_empty lays_slices_Compact_int a cap w)
/-! ### 11 gatewarden/token.Uncovered -/
def b_token_Uncovered_1 (K : Nat) (rec : List D → Option (Nat × List D)) (ds : List D) : Option (Nat × List D) :=
  let w := D.nth ds 0
  let s59 := D.nth ds 1
  let s60 := D.nth ds 2
  let r0 := D.nth ds 3
  let r1 := D.nth ds 4
  bif (ltI s60.int s59.int) then
    bif (inB s60.int r1.list.length) then
      bif (bif (gtI ((D.nth r1.list s60.int.toNat).int) ((w.at' 0).int)) then (ltI ((D.nth r1.list s60.int.toNat).int) ((w.at' 1).int)) else false) then
        bif (lim (r0.list.length + 1)) then
          rec [w, s59, D.i (IntKind.i64.wrap (s60.int + (1 : Int))), D.n (r0.list ++ [D.nth r1.list s60.int.toNat]), D.n r1.list]
        else
          none
      else
        rec [w, s59, D.i (IntKind.i64.wrap (s60.int + (1 : Int))), D.n r0.list, D.n r1.list]
    else
      none
  else
    some (0, [D.n r1.list, D.n r0.list])
def c_token_Uncovered_1 (K : Nat) : Cut := { sh := { sl := [(4, .bx 31 true (.d 31 true)), (9, .own 22 0), (58, .own 22 1), (59, .d 3 true), (60, .d 3 true)], ob := [(0, .row 3 true), (1, .row 3 true)] }, kept := [1], outs := [(.exit 2, { sl := [(9, .own 22 0)], ob := [(1, .row 3 true), (0, .row 3 true)] })], f := fun ds => fixN (b_token_Uncovered_1 K) K ds }
def b_token_Uncovered_2 (K : Nat) (rec : List D → Option (Nat × List D)) (ds : List D) : Option (Nat × List D) :=
  let l := D.nth ds 0
  let life := D.nth ds 1
  let i := D.nth ds 2
  let r0 := D.nth ds 3
  let r1 := D.nth ds 4
  bif (ltI (IntKind.i64.wrap (i.int + (1 : Int))) (r0.list.length : Int)) then
    bif (inB i.int r0.list.length) then
      (f_token_signerAt K l (D.nth r0.list i.int.toNat)).bind fun t4 =>
      bif ((!((D.nth t4 1).bool)) || (inB i.int r0.list.length)) then
        bif (bif (D.nth t4 1).bool then (geI (((D.nth t4 0).at' 4).int) (IntKind.i64.wrap (((D.nth r0.list i.int.toNat).int) + life.int))) else false) then
          rec [l, life, D.i (IntKind.i64.wrap (i.int + (1 : Int))), D.n r0.list, D.n r1.list]
        else
          bif ((!(geI (IntKind.i64.wrap ((r1.list.length : Int) - (1 : Int))) 0)) || (inB (IntKind.i64.wrap ((r1.list.length : Int) - (1 : Int))) r1.list.length)) then
            bif ((!(geI (IntKind.i64.wrap ((r1.list.length : Int) - (1 : Int))) 0)) || (inB i.int r0.list.length)) then
              bif (bif (geI (IntKind.i64.wrap ((r1.list.length : Int) - (1 : Int))) 0) then ((((D.nth r1.list ((IntKind.i64.wrap ((r1.list.length : Int) - (1 : Int))).toNat)).at' 1).int) == ((D.nth r0.list i.int.toNat).int)) else false) then
                bif (inB (IntKind.i64.wrap (i.int + (1 : Int))) r0.list.length) then
                  bif (inB (IntKind.i64.wrap ((r1.list.length : Int) - (1 : Int))) r1.list.length) then
                    rec [l, life, D.i (IntKind.i64.wrap (i.int + (1 : Int))), D.n r0.list, D.n (D.setNth r1.list ((IntKind.i64.wrap ((r1.list.length : Int) - (1 : Int))).toNat) (D.n (D.setNth ((D.nth r1.list ((IntKind.i64.wrap ((r1.list.length : Int) - (1 : Int))).toNat)).list) 1 (D.nth r0.list ((IntKind.i64.wrap (i.int + (1 : Int))).toNat)))))]
                  else
                    none
                else
                  none
              else
                bif (inB i.int r0.list.length) then
                  bif (inB (IntKind.i64.wrap (i.int + (1 : Int))) r0.list.length) then
                    bif (lim (r1.list.length + 1)) then
                      rec [l, life, D.i (IntKind.i64.wrap (i.int + (1 : Int))), D.n r0.list, D.n (r1.list ++ [D.n [D.nth r0.list i.int.toNat, D.nth r0.list ((IntKind.i64.wrap (i.int + (1 : Int))).toNat)]])]
                    else
                      none
                  else
                    none
                else
                  none
            else
              none
          else
            none
      else
        none
    else
      none
  else
    some (0, [D.n r0.list, D.n r1.list])
def c_token_Uncovered_2 (K : Nat) : Cut := { sh := { sl := [(0, .d 26 false), (2, .d 3 true), (9, .own 22 0), (14, .own 37 1), (15, .d 3 true)], ob := [(0, .row 3 true), (1, .row 31 true)] }, kept := [0], outs := [(.exit 4, { sl := [(14, .own 37 1)], ob := [(0, .row 3 true), (1, .row 31 true)] })], f := fun ds => fixN (b_token_Uncovered_2 K) K ds }
def b_token_Uncovered_0 (K : Nat) (rec : List D → Option (Nat × List D)) (ds : List D) : Option (Nat × List D) :=
  let life := D.nth ds 0
  let w := D.nth ds 1
  let s43 := D.nth ds 2
  let s44 := D.nth ds 3
  let s45 := D.nth ds 4
  let r0 := D.nth ds 5
  bif (ltI s45.int s44.int) then
    bif (inB s45.int s43.list.length) then
      (fixN (b_token_Uncovered_1 K) K [w, D.i 3, D.i 0, D.n r0.list, D.n [(D.nth s43.list s45.int.toNat).at' 2, (D.nth s43.list s45.int.toNat).at' 3, D.i (IntKind.i64.wrap ((IntKind.i64.wrap ((((D.nth s43.list s45.int.toNat).at' 4).int) - life.int)) + (1 : Int)))]]).bind fun t2 =>
      rec [life, w, s43, s44, D.i (IntKind.i64.wrap (s45.int + (1 : Int))), D.n ((D.nth t2.2 1).list)]
    else
      none
  else
    some (0, [D.n r0.list])
def c_token_Uncovered_0 (K : Nat) : Cut := { sh := { sl := [(2, .d 3 true), (4, .bx 31 true (.d 31 true)), (9, .own 22 0), (43, .d 26 false), (44, .d 3 true), (45, .d 3 true)], ob := [(0, .row 3 true)] }, kept := [], outs := [(.exit 0, { sl := [(9, .own 22 0)], ob := [(0, .row 3 true)] })], f := fun ds => fixN (b_token_Uncovered_0 K) K ds }
def f_token_Uncovered (K : Nat) (l w life : D) : Option (List D) :=
  (f_token_CheckSigners K l).bind fun t1 =>
  bif (((D.nth t1 0).int) != (0 : Int)) then
    some [D.nth t1 0, D.n []]
  else
    bif (bif (bif (D.nth (p_kit_Outside (w.at' 0) (D.i 0) (w.at' 1)) 0).bool then true else (gtI ((w.at' 1).int) 345686400000)) then true else (D.nth (p_kit_Outside life (D.i 0) (D.i 345686400000)) 0).bool) then
      some [D.i 1, D.n []]
    else
      (fixN (b_token_Uncovered_0 K) K [life, w, l, D.i (l.list.length : Int), D.i 0, D.n [w.at' 0, w.at' 1]]).bind fun t2 =>
      (f_slices_Sort_int K (D.n ((D.nth t2.2 0).list))).bind fun t3 =>
      (fixN (b_token_Uncovered_2 K) K [l, life, D.i 0, D.n ((D.nth (p_slices_Compact_int (D.n ((D.nth t3 0).list))) 0).list), D.n []]).bind fun t4 =>
      some [D.i 0, D.n ((D.nth t4.2 1).list)]
def e_token_Uncovered (K : Nat) : Entry := { n := 3, sh := { sl := [(0, .d 26 false), (1, .d 31 false), (2, .d 3 false)], ob := [] }, kept := [], rs := [{ sl := [(0, .tup [.own 37 0, .d 34 true])], ob := [(0, .row 31 true)] }], f := fun ds => f_token_Uncovered K (D.nth ds 0) (D.nth ds 1) (D.nth ds 2), tot := none }
def T_token_Uncovered (K : Nat) : Tbl := { T0 with frz := fun s => memN [4] s, ents := entsOf [(13, e_token_CheckSigners K), (35, e_kit_Outside K), (36, e_slices_Sort_int K), (37, e_slices_Compact_int K), (34, e_token_signerAt K)], cuts := lk [(0, c_token_Uncovered_0 K), (1, c_token_Uncovered_1 K), (2, c_token_Uncovered_2 K)] }
theorem q_token_Uncovered_1 (K : Nat) (rec : List D → Option (Nat × List D)) (ds : List D) : evLoop (T_token_Uncovered K) 152 (sub (codeOf Try.f11) [1, 1, 1, 1, 0, 1, 0, 0, 1, 1, 0, 0, 1, 1, 0, 0]) .go (c_token_Uncovered_1 K) rec ds = b_token_Uncovered_1 K rec ds := by kernel_rfl
theorem k_token_Uncovered_1 (K : Nat) : CutOK Try.prog (T_token_Uncovered K) 152 (sub (codeOf Try.f11) [1, 1, 1, 1, 0, 1, 0, 0, 1, 1, 0, 0, 1, 1, 0]) (c_token_Uncovered_1 K) :=
  loop_thm (T := T_token_Uncovered K) (hT_of hT0 rfl rfl rfl) (hes_ok (T0 := T0) (T := T_token_Uncovered K) rfl rfl (⟨ok_token_CheckSigners K, ok_kit_Outside K, ok_slices_Sort_int K, ok_slices_Compact_int K, ok_token_signerAt K, trivial⟩ : FAll Try.prog T0 [(13, e_token_CheckSigners K), (35, e_kit_Outside K), (36, e_slices_Sort_int K), (37, e_slices_Compact_int K), (34, e_token_signerAt K)])) (by kernel_rfl) rfl rfl rfl (cutsOK_none (by rfl)) rfl (q_token_Uncovered_1 K)
theorem q_token_Uncovered_2 (K : Nat) (rec : List D → Option (Nat × List D)) (ds : List D) : evLoop (T_token_Uncovered K) 152 (sub (codeOf Try.f11) [1, 1, 1, 1, 1, 1, 1, 1, 0, 1, 0, 0]) .go (c_token_Uncovered_2 K) rec ds = b_token_Uncovered_2 K rec ds := by kernel_rfl
theorem k_token_Uncovered_2 (K : Nat) : CutOK Try.prog (T_token_Uncovered K) 152 (sub (codeOf Try.f11) [1, 1, 1, 1, 1, 1, 1, 1, 0, 1, 0]) (c_token_Uncovered_2 K) :=
  loop_thm (T := T_token_Uncovered K) (hT_of hT0 rfl rfl rfl) (hes_ok (T0 := T0) (T := T_token_Uncovered K) rfl rfl (⟨ok_token_CheckSigners K, ok_kit_Outside K, ok_slices_Sort_int K, ok_slices_Compact_int K, ok_token_signerAt K, trivial⟩ : FAll Try.prog T0 [(13, e_token_CheckSigners K), (35, e_kit_Outside K), (36, e_slices_Sort_int K), (37, e_slices_Compact_int K), (34, e_token_signerAt K)])) (by kernel_rfl) rfl rfl rfl (cutsOK_none (by rfl)) rfl (q_token_Uncovered_2 K)
theorem q_token_Uncovered_0 (K : Nat) (rec : List D → Option (Nat × List D)) (ds : List D) : evLoop (T_token_Uncovered K) 152 (sub (codeOf Try.f11) [1, 1, 1, 1, 0, 1, 0, 0]) (.seq .go (.seq .go (.seq (.blk (.seq .go (.seq .go (.blk (.cut 1))))) .go))) (c_token_Uncovered_0 K) rec ds = b_token_Uncovered_0 K rec ds := by kernel_rfl
theorem k_token_Uncovered_0 (K : Nat) : CutOK Try.prog (T_token_Uncovered K) 152 (sub (codeOf Try.f11) [1, 1, 1, 1, 0, 1, 0]) (c_token_Uncovered_0 K) :=
  loop_thm (T := T_token_Uncovered K) (hT_of hT0 rfl rfl rfl) (hes_ok (T0 := T0) (T := T_token_Uncovered K) rfl rfl (⟨ok_token_CheckSigners K, ok_kit_Outside K, ok_slices_Sort_int K, ok_slices_Compact_int K, ok_token_signerAt K, trivial⟩ : FAll Try.prog T0 [(13, e_token_CheckSigners K), (35, e_kit_Outside K), (36, e_slices_Sort_int K), (37, e_slices_Compact_int K), (34, e_token_signerAt K)])) (by kernel_rfl) rfl rfl rfl (cutsOK_list (l := [(1, sub (codeOf Try.f11) [1, 1, 1, 1, 0, 1, 0, 0, 1, 1, 0, 0, 1, 1, 0])]) (by kernel_rfl) ⟨cut_one (u := c_token_Uncovered_1 K) rfl (k_token_Uncovered_1 K), trivial⟩) rfl (q_token_Uncovered_0 K)
theorem q_token_Uncovered (K : Nat) (ds : List D) : evFn (T_token_Uncovered K) Try.f11 (.seq .go (.seq .go (.seq .go (.seq .go (.seq (.seq .go (.blk (.cut 0))) (.seq .go (.seq .go (.seq .go (.seq (.seq .go (.blk (.cut 2))) .go))))))))) (e_token_Uncovered K) ds = (e_token_Uncovered K).f ds := by kernel_rfl
theorem ok_token_Uncovered (K : Nat) : FnOK Try.prog T0 11 (e_token_Uncovered K) :=
  fn_thm (T0 := T0) (T := T_token_Uncovered K) rfl (hT_of hT0 rfl rfl rfl) (hes_ok (T0 := T0) (T := T_token_Uncovered K) rfl rfl (⟨ok_token_CheckSigners K, ok_kit_Outside K, ok_slices_Sort_int K, ok_slices_Compact_int K, ok_token_signerAt K, trivial⟩ : FAll Try.prog T0 [(13, e_token_CheckSigners K), (35, e_kit_Outside K), (36, e_slices_Sort_int K), (37, e_slices_Compact_int K), (34, e_token_signerAt K)])) Try.func11 (by decide) rfl (Nat.le_of_ble_eq_true rfl) rfl rfl rfl (tot_none rfl) (cutsOK_list (l := [(0, sub (codeOf Try.f11) [1, 1, 1, 1, 0, 1, 0]), (2, sub (codeOf Try.f11) [1, 1, 1, 1, 1, 1, 1, 1, 0, 1, 0])]) (by kernel_rfl) ⟨cut_one (u := c_token_Uncovered_0 K) rfl (k_token_Uncovered_0 K), cut_one (u := c_token_Uncovered_2 K) rfl (k_token_Uncovered_2 K), trivial⟩) (q_token_Uncovered K)
/-! ### 42 gatewarden/gateref2.in -/
def p_gateref2_in (n low high : D) : List D := [D.b (bif (leI low.int n.int) then (leI n.int high.int) else false)]
def e_gateref2_in (K : Nat) : Entry := { n := 3, sh := { sl := [(0, .d 3 false), (1, .d 3 false), (2, .d 3 false)], ob := [] }, kept := [], rs := [{ sl := [(0, .d 4 true)], ob := [] }], f := fun ds => some (p_gateref2_in (D.nth ds 0) (D.nth ds 1) (D.nth ds 2)), tot := some fun ds => p_gateref2_in (D.nth ds 0) (D.nth ds 1) (D.nth ds 2) }
def T_gateref2_in (K : Nat) : Tbl := { T0 with ents := entsOf [], cuts := lk [] }
theorem q_gateref2_in (K : Nat) (ds : List D) : evFn (T_gateref2_in K) Try.f42 .go (e_gateref2_in K) ds = (e_gateref2_in K).f ds := by kernel_rfl
theorem ok_gateref2_in (K : Nat) : FnOK Try.prog T0 42 (e_gateref2_in K) :=
  fn_thm (T0 := T0) (T := T_gateref2_in K) rfl (hT_of hT0 rfl rfl rfl) (hes_ok (T0 := T0) (T := T_gateref2_in K) rfl rfl (trivial : FAll Try.prog T0 [])) Try.func42 (by decide) rfl (Nat.le_of_ble_eq_true rfl) rfl rfl rfl (tot_some rfl fun _ => rfl) (cutsOK_none (by rfl)) (q_gateref2_in K)
/-! ### 125 internal/bytealg.IndexByteString -/
def p_bytealg_IndexByteString (x y : D) : List D := [D.i (Lib.indexByte x.str y.int.toNat.toUInt8)]
def e_bytealg_IndexByteString (K : Nat) : Entry := flat2 9 5 3 (fun ds => some (p_bytealg_IndexByteString (D.nth ds 0) (D.nth ds 1))) (some fun ds => p_bytealg_IndexByteString (D.nth ds 0) (D.nth ds 1))
theorem ok_bytealg_IndexByteString (K : Nat) : FnOK Try.prog T0 125 (e_bytealg_IndexByteString K) :=
  idxByte_ok (T := T0) Try.func125 (by kernel_rfl) (by kernel_rfl) (by kernel_rfl) (by kernel_rfl) rfl rfl rfl
/-! ### 110 internal/stringslite.IndexByte -/
def p_stringslite_IndexByte (s c : D) : List D := [D.nth (p_bytealg_IndexByteString s c) 0]
def e_stringslite_IndexByte (K : Nat) : Entry := { n := 2, sh := { sl := [(0, .d 9 false), (1, .d 5 false)], ob := [] }, kept := [], rs := [{ sl := [(0, .d 3 true)], ob := [] }], f := fun ds => some (p_stringslite_IndexByte (D.nth ds 0) (D.nth ds 1)), tot := some fun ds => p_stringslite_IndexByte (D.nth ds 0) (D.nth ds 1) }
def T_stringslite_IndexByte (K : Nat) : Tbl := { T0 with ents := entsOf [(125, e_bytealg_IndexByteString K)], cuts := lk [] }
theorem q_stringslite_IndexByte (K : Nat) (ds : List D) : evFn (T_stringslite_IndexByte K) Try.f110 .go (e_stringslite_IndexByte K) ds = (e_stringslite_IndexByte K).f ds := by kernel_rfl
theorem ok_stringslite_IndexByte (K : Nat) : FnOK Try.prog T0 110 (e_stringslite_IndexByte K) :=
  fn_thm (T0 := T0) (T := T_stringslite_IndexByte K) rfl (hT_of hT0 rfl rfl rfl) (hes_ok (T0 := T0) (T := T_stringslite_IndexByte K) rfl rfl (⟨ok_bytealg_IndexByteString K, trivial⟩ : FAll Try.prog T0 [(125, e_bytealg_IndexByteString K)])) Try.func110 (by decide) rfl (Nat.le_of_ble_eq_true rfl) rfl rfl rfl (tot_some rfl fun _ => rfl) (cutsOK_none (by rfl)) (q_stringslite_IndexByte K)
/-! ### 94 strings.IndexByte -/
def p_strings_IndexByte (s c : D) : List D := [D.nth (p_stringslite_IndexByte s c) 0]
def e_strings_IndexByte (K : Nat) : Entry := { n := 2, sh := { sl := [(0, .d 9 false), (1, .d 5 false)], ob := [] }, kept := [], rs := [{ sl := [(0, .d 3 true)], ob := [] }], f := fun ds => some (p_strings_IndexByte (D.nth ds 0) (D.nth ds 1)), tot := some fun ds => p_strings_IndexByte (D.nth ds 0) (D.nth ds 1) }
def T_strings_IndexByte (K : Nat) : Tbl := { T0 with ents := entsOf [(110, e_stringslite_IndexByte K)], cuts := lk [] }
theorem q_strings_IndexByte (K : Nat) (ds : List D) : evFn (T_strings_IndexByte K) Try.f94 .go (e_strings_IndexByte K) ds = (e_strings_IndexByte K).f ds := by kernel_rfl
theorem ok_strings_IndexByte (K : Nat) : FnOK Try.prog T0 94 (e_strings_IndexByte K) :=
  fn_thm (T0 := T0) (T := T_strings_IndexByte K) rfl (hT_of hT0 rfl rfl rfl) (hes_ok (T0 := T0) (T := T_strings_IndexByte K) rfl rfl (⟨ok_stringslite_IndexByte K, trivial⟩ : FAll Try.prog T0 [(110, e_stringslite_IndexByte K)])) Try.func94 (by decide) rfl (Nat.le_of_ble_eq_true rfl) rfl rfl rfl (tot_some rfl fun _ => rfl) (cutsOK_none (by rfl)) (q_strings_IndexByte K)
/-! ### 58 gatewarden/gateref2.only -/
def b_gateref2_only_0 (K : Nat) (rec : List D → Option (Nat × List D)) (ds : List D) : Option (Nat × List D) :=
  let s := D.nth ds 0
  let vsome := D.nth ds 1
  let s7 := D.nth ds 2
  let s8 := D.nth ds 3
  bif (ltI s8.int s7.int) then
    bif (inB s8.int s.str.length) then
      bif (ltI ((D.nth (p_strings_IndexByte vsome (D.i (byteAt s.str s8.int.toNat))) 0).int) 0) then
        some (0, [D.b false])
      else
        rec [s, vsome, s7, D.i (IntKind.i64.wrap (s8.int + (1 : Int)))]
    else
      none
  else
    some (1, [])
def c_gateref2_only_0 (K : Nat) : Cut := { sh := { sl := [(0, .d 9 true), (1, .d 9 true), (7, .d 3 true), (8, .d 3 true)], ob := [] }, kept := [], outs := [(.ret, { sl := [(4, .d 4 true)], ob := [] }), (.exit 0, { sl := [], ob := [] })], f := fun ds => fixN (b_gateref2_only_0 K) K ds }
def f_gateref2_only (K : Nat) (s vsome : D) : Option (List D) :=
  (fixN (b_gateref2_only_0 K) K [s, vsome, D.i (s.str.length : Int), D.i 0]).bind fun t1 =>
  bif (t1.1.beq 0) then
    some [D.nth t1.2 0]
  else
    some [D.b true]
def e_gateref2_only (K : Nat) : Entry := { n := 2, sh := { sl := [(0, .d 9 false), (1, .d 9 false)], ob := [] }, kept := [], rs := [{ sl := [(0, .d 4 true)], ob := [] }], f := fun ds => f_gateref2_only K (D.nth ds 0) (D.nth ds 1), tot := none }
def T_gateref2_only (K : Nat) : Tbl := { T0 with ents := entsOf [(94, e_strings_IndexByte K)], cuts := lk [(0, c_gateref2_only_0 K)] }
theorem q_gateref2_only_0 (K : Nat) (rec : List D → Option (Nat × List D)) (ds : List D) : evLoop (T_gateref2_only K) 18 (sub (codeOf Try.f58) [1, 0, 1, 0, 0]) .go (c_gateref2_only_0 K) rec ds = b_gateref2_only_0 K rec ds := by kernel_rfl
theorem k_gateref2_only_0 (K : Nat) : CutOK Try.prog (T_gateref2_only K) 18 (sub (codeOf Try.f58) [1, 0, 1, 0]) (c_gateref2_only_0 K) :=
  loop_thm (T := T_gateref2_only K) (hT_of hT0 rfl rfl rfl) (hes_ok (T0 := T0) (T := T_gateref2_only K) rfl rfl (⟨ok_strings_IndexByte K, trivial⟩ : FAll Try.prog T0 [(94, e_strings_IndexByte K)])) (by kernel_rfl) rfl rfl rfl (cutsOK_none (by rfl)) rfl (q_gateref2_only_0 K)
theorem q_gateref2_only (K : Nat) (ds : List D) : evFn (T_gateref2_only K) Try.f58 (.seq .go (.seq (.seq .go (.blk (.cut 0))) .go)) (e_gateref2_only K) ds = (e_gateref2_only K).f ds := by kernel_rfl
theorem ok_gateref2_only (K : Nat) : FnOK Try.prog T0 58 (e_gateref2_only K) :=
  fn_thm (T0 := T0) (T := T_gateref2_only K) rfl (hT_of hT0 rfl rfl rfl) (hes_ok (T0 := T0) (T := T_gateref2_only K) rfl rfl (⟨ok_strings_IndexByte K, trivial⟩ : FAll Try.prog T0 [(94, e_strings_IndexByte K)])) Try.func58 (by decide) rfl (Nat.le_of_ble_eq_true rfl) rfl rfl rfl (tot_none rfl) (cutsOK_list (l := [(0, sub (codeOf Try.f58) [1, 0, 1, 0])]) (by kernel_rfl) ⟨cut_one (u := c_gateref2_only_0 K) rfl (k_gateref2_only_0 K), trivial⟩) (q_gateref2_only K)
/-! ### 38 gatewarden/gateref2.Key -/
def f_gateref2_Key (K : Nat) (s : D) : Option (List D) :=
  bif ((!((D.nth (p_gateref2_in (D.i (s.str.length : Int)) (D.i 1) (D.i 40)) 0).bool)) || (inB 1 (s.str.length + 1))) then
    bif (D.nth (p_gateref2_in (D.i (s.str.length : Int)) (D.i 1) (D.i 40)) 0).bool then
      (f_gateref2_only K (D.s (s.str.take 1)) (D.s [97, 98, 99, 100, 101, 102, 103, 104, 105, 106, 107, 108, 109, 110, 111, 112, 113, 114, 115, 116, 117, 118, 119, 120, 121, 122])).bind fun t1 =>
      bif (D.nth t1 0).bool then
        (f_gateref2_only K s (D.s [97, 98, 99, 100, 101, 102, 103, 104, 105, 106, 107, 108, 109, 110, 111, 112, 113, 114, 115, 116, 117, 118, 119, 120, 121, 122, 48, 49, 50, 51, 52, 53, 54, 55, 56, 57, 45, 95])).bind fun t2 =>
        some [D.b ((D.nth t2 0).bool)]
      else
        some [D.b false]
    else
      some [D.b false]
  else
    none
def e_gateref2_Key (K : Nat) : Entry := { n := 1, sh := { sl := [(0, .d 9 false)], ob := [] }, kept := [], rs := [{ sl := [(0, .d 4 true)], ob := [] }], f := fun ds => f_gateref2_Key K (D.nth ds 0), tot := none }
def T_gateref2_Key (K : Nat) : Tbl := { T0 with ents := entsOf [(42, e_gateref2_in K), (58, e_gateref2_only K)], cuts := lk [] }
theorem q_gateref2_Key (K : Nat) (ds : List D) : evFn (T_gateref2_Key K) Try.f38 .go (e_gateref2_Key K) ds = (e_gateref2_Key K).f ds := by kernel_rfl
theorem ok_gateref2_Key (K : Nat) : FnOK Try.prog T0 38 (e_gateref2_Key K) :=
  fn_thm (T0 := T0) (T := T_gateref2_Key K) rfl (hT_of hT0 rfl rfl rfl) (hes_ok (T0 := T0) (T := T_gateref2_Key K) rfl rfl (⟨ok_gateref2_in K, ok_gateref2_only K, trivial⟩ : FAll Try.prog T0 [(42, e_gateref2_in K), (58, e_gateref2_only K)])) Try.func38 (by decide) rfl (Nat.le_of_ble_eq_true rfl) rfl rfl rfl (tot_none rfl) (cutsOK_none (by rfl)) (q_gateref2_Key K)
/-! ### 40 gatewarden/gateref2.SignersFault$1 -/
def p_gateref2_SignersFault_1 (o o0 : D) : List D := [D.b (((o.at' 0).str) == ((o0.at' 0).str)), o0]
def e_gateref2_SignersFault_1 (K : Nat) : Entry := { n := 2, sh := { sl := [(0, .d 44 false), (1, .ptr 44 0 [])], ob := [(0, .box 44 (.d 44 false))] }, kept := [0], rs := [{ sl := [(0, .d 4 true)], ob := [(0, .box 44 (.d 44 true))] }], f := fun ds => some (p_gateref2_SignersFault_1 (D.nth ds 0) (D.nth ds 1)), tot := some fun ds => p_gateref2_SignersFault_1 (D.nth ds 0) (D.nth ds 1) }
def T_gateref2_SignersFault_1 (K : Nat) : Tbl := { T0 with frz := fun s => memN [2] s, ents := entsOf [], cuts := lk [] }
theorem q_gateref2_SignersFault_1 (K : Nat) (ds : List D) : evFn (T_gateref2_SignersFault_1 K) Try.f40 .go (e_gateref2_SignersFault_1 K) ds = (e_gateref2_SignersFault_1 K).f ds := by kernel_rfl
theorem ok_gateref2_SignersFault_1 (K : Nat) : FnOK Try.prog T0 40 (e_gateref2_SignersFault_1 K) :=
  fn_thm (T0 := T0) (T := T_gateref2_SignersFault_1 K) rfl (hT_of hT0 rfl rfl rfl) (hes_ok (T0 := T0) (T := T_gateref2_SignersFault_1 K) rfl rfl (trivial : FAll Try.prog T0 [])) Try.func40 (by decide) rfl (Nat.le_of_ble_eq_true rfl) rfl rfl rfl (tot_some rfl fun _ => rfl) (cutsOK_none (by rfl)) (q_gateref2_SignersFault_1 K)
/-! ### 59 slices.IndexFunc[[]gatewarden/api.Signer,gatewarden/api.Signer] -/
def b_slices_IndexFunc_api_Signera_0 (K : Nat) (rec : List D → Option (Nat × List D)) (ds : List D) : Option (Nat × List D) :=
  let s := D.nth ds 0
  let s7 := D.nth ds 1
  let s8 := D.nth ds 2
  let o0 := D.nth ds 3
  bif (ltI s8.int s7.int) then
    bif (inB s8.int s.list.length) then
      bif (D.nth (p_gateref2_SignersFault_1 (D.nth s.list s8.int.toNat) o0) 0).bool then
        some (0, [s8, o0])
      else
        rec [s, s7, D.i (IntKind.i64.wrap (s8.int + (1 : Int))), o0]
    else
      none
  else
    some (1, [o0])
def c_slices_IndexFunc_api_Signera_0 (K : Nat) : Cut := { sh := { sl := [(0, .d 26 false), (1, .fn 40 [.ptr 44 0 []]), (7, .d 3 true), (8, .d 3 true)], ob := [(0, .box 44 (.d 44 true))] }, kept := [0], outs := [(.ret, { sl := [(4, .d 3 true)], ob := [(0, .box 44 (.d 44 true))] }), (.exit 0, { sl := [], ob := [(0, .box 44 (.d 44 true))] })], f := fun ds => fixN (b_slices_IndexFunc_api_Signera_0 K) K ds }
def f_slices_IndexFunc_api_Signera (K : Nat) (s o0 : D) : Option (List D) :=
  (fixN (b_slices_IndexFunc_api_Signera_0 K) K [s, D.i (s.list.length : Int), D.i 0, o0]).bind fun t1 =>
  bif (t1.1.beq 0) then
    some [D.nth t1.2 0, D.nth t1.2 1]
  else
    some [D.i (-1), D.nth t1.2 0]
def e_slices_IndexFunc_api_Signera (K : Nat) : Entry := { n := 2, sh := { sl := [(0, .d 26 false), (1, .fn 40 [.ptr 44 0 []])], ob := [(0, .box 44 (.d 44 false))] }, kept := [0], rs := [{ sl := [(0, .d 3 true)], ob := [(0, .box 44 (.d 44 true))] }], f := fun ds => f_slices_IndexFunc_api_Signera K (D.nth ds 0) (D.nth ds 1), tot := none }
def T_slices_IndexFunc_api_Signera (K : Nat) : Tbl := { T0 with ents := entsOf [(40, e_gateref2_SignersFault_1 K)], cuts := lk [(0, c_slices_IndexFunc_api_Signera_0 K)] }
theorem q_slices_IndexFunc_api_Signera_0 (K : Nat) (rec : List D → Option (Nat × List D)) (ds : List D) : evLoop (T_slices_IndexFunc_api_Signera K) 19 (sub (codeOf Try.f59) [1, 0, 1, 0, 0]) .go (c_slices_IndexFunc_api_Signera_0 K) rec ds = b_slices_IndexFunc_api_Signera_0 K rec ds := by kernel_rfl
theorem k_slices_IndexFunc_api_Signera_0 (K : Nat) : CutOK Try.prog (T_slices_IndexFunc_api_Signera K) 19 (sub (codeOf Try.f59) [1, 0, 1, 0]) (c_slices_IndexFunc_api_Signera_0 K) :=
  loop_thm (T := T_slices_IndexFunc_api_Signera K) (hT_of hT0 rfl rfl rfl) (hes_ok (T0 := T0) (T := T_slices_IndexFunc_api_Signera K) rfl rfl (⟨ok_gateref2_SignersFault_1 K, trivial⟩ : FAll Try.prog T0 [(40, e_gateref2_SignersFault_1 K)])) (by kernel_rfl) rfl rfl rfl (cutsOK_none (by rfl)) rfl (q_slices_IndexFunc_api_Signera_0 K)
theorem q_slices_IndexFunc_api_Signera (K : Nat) (ds : List D) : evFn (T_slices_IndexFunc_api_Signera K) Try.f59 (.seq .go (.seq (.seq .go (.blk (.cut 0))) .go)) (e_slices_IndexFunc_api_Signera K) ds = (e_slices_IndexFunc_api_Signera K).f ds := by kernel_rfl
theorem ok_slices_IndexFunc_api_Signera (K : Nat) : FnOK Try.prog T0 59 (e_slices_IndexFunc_api_Signera K) :=
  fn_thm (T0 := T0) (T := T_slices_IndexFunc_api_Signera K) rfl (hT_of hT0 rfl rfl rfl) (hes_ok (T0 := T0) (T := T_slices_IndexFunc_api_Signera K) rfl rfl (⟨ok_gateref2_SignersFault_1 K, trivial⟩ : FAll Try.prog T0 [(40, e_gateref2_SignersFault_1 K)])) Try.func59 (by decide) rfl (Nat.le_of_ble_eq_true rfl) rfl rfl rfl (tot_none rfl) (cutsOK_list (l := [(0, sub (codeOf Try.f59) [1, 0, 1, 0])]) (by kernel_rfl) ⟨cut_one (u := c_slices_IndexFunc_api_Signera_0 K) rfl (k_slices_IndexFunc_api_Signera_0 K), trivial⟩) (q_slices_IndexFunc_api_Signera K)
/-! ### 39 slices.ContainsFunc[[]gatewarden/api.Signer,gatewarden/api.Signer] -/
def f_slices_ContainsFunc_api_Signera (K : Nat) (s o0 : D) : Option (List D) :=
  (f_slices_IndexFunc_api_Signera K s o0).bind fun t1 =>
  some [D.b (geI ((D.nth t1 0).int) 0), D.nth t1 1]
def e_slices_ContainsFunc_api_Signera (K : Nat) : Entry := { n := 2, sh := { sl := [(0, .d 26 false), (1, .fn 40 [.ptr 44 0 []])], ob := [(0, .box 44 (.d 44 false))] }, kept := [0], rs := [{ sl := [(0, .d 4 true)], ob := [(0, .box 44 (.d 44 true))] }], f := fun ds => f_slices_ContainsFunc_api_Signera K (D.nth ds 0) (D.nth ds 1), tot := none }
def T_slices_ContainsFunc_api_Signera (K : Nat) : Tbl := { T0 with ents := entsOf [(59, e_slices_IndexFunc_api_Signera K)], cuts := lk [] }
theorem q_slices_ContainsFunc_api_Signera (K : Nat) (ds : List D) : evFn (T_slices_ContainsFunc_api_Signera K) Try.f39 .go (e_slices_ContainsFunc_api_Signera K) ds = (e_slices_ContainsFunc_api_Signera K).f ds := by kernel_rfl
theorem ok_slices_ContainsFunc_api_Signera (K : Nat) : FnOK Try.prog T0 39 (e_slices_ContainsFunc_api_Signera K) :=
  fn_thm (T0 := T0) (T := T_slices_ContainsFunc_api_Signera K) rfl (hT_of hT0 rfl rfl rfl) (hes_ok (T0 := T0) (T := T_slices_ContainsFunc_api_Signera K) rfl rfl (⟨ok_slices_IndexFunc_api_Signera K, trivial⟩ : FAll Try.prog T0 [(59, e_slices_IndexFunc_api_Signera K)])) Try.func39 (by decide) rfl (Nat.le_of_ble_eq_true rfl) rfl rfl rfl (tot_none rfl) (cutsOK_none (by rfl)) (q_slices_ContainsFunc_api_Signera K)
/-! ### 60 gatewarden/gateref2.visible -/
def b_gateref2_visible_0 (K : Nat) (rec : List D → Option (Nat × List D)) (ds : List D) : Option (Nat × List D) :=
  let s := D.nth ds 0
  let low := D.nth ds 1
  let s7 := D.nth ds 2
  let s8 := D.nth ds 3
  bif (ltI s8.int s7.int) then
    bif (inB s8.int s.str.length) then
      bif ((!(!(ltI (byteAt s.str s8.int.toNat) low.int))) || (inB s8.int s.str.length)) then
        bif (bif (ltI (byteAt s.str s8.int.toNat) low.int) then true else (gtI (byteAt s.str s8.int.toNat) 126)) then
          some (0, [D.b false])
        else
          rec [s, low, s7, D.i (IntKind.i64.wrap (s8.int + (1 : Int)))]
      else
        none
    else
      none
  else
    some (1, [])
def c_gateref2_visible_0 (K : Nat) : Cut := { sh := { sl := [(0, .d 9 true), (1, .d 5 true), (7, .d 3 true), (8, .d 3 true)], ob := [] }, kept := [], outs := [(.ret, { sl := [(4, .d 4 true)], ob := [] }), (.exit 0, { sl := [], ob := [] })], f := fun ds => fixN (b_gateref2_visible_0 K) K ds }
def f_gateref2_visible (K : Nat) (s low : D) : Option (List D) :=
  (fixN (b_gateref2_visible_0 K) K [s, low, D.i (s.str.length : Int), D.i 0]).bind fun t1 =>
  bif (t1.1.beq 0) then
    some [D.nth t1.2 0]
  else
    some [D.b true]
def e_gateref2_visible (K : Nat) : Entry := { n := 2, sh := { sl := [(0, .d 9 false), (1, .d 5 false)], ob := [] }, kept := [], rs := [{ sl := [(0, .d 4 true)], ob := [] }], f := fun ds => f_gateref2_visible K (D.nth ds 0) (D.nth ds 1), tot := none }
def T_gateref2_visible (K : Nat) : Tbl := { T0 with ents := entsOf [], cuts := lk [(0, c_gateref2_visible_0 K)] }
theorem q_gateref2_visible_0 (K : Nat) (rec : List D → Option (Nat × List D)) (ds : List D) : evLoop (T_gateref2_visible K) 23 (sub (codeOf Try.f60) [1, 0, 1, 0, 0]) .go (c_gateref2_visible_0 K) rec ds = b_gateref2_visible_0 K rec ds := by kernel_rfl
theorem k_gateref2_visible_0 (K : Nat) : CutOK Try.prog (T_gateref2_visible K) 23 (sub (codeOf Try.f60) [1, 0, 1, 0]) (c_gateref2_visible_0 K) :=
  loop_thm (T := T_gateref2_visible K) (hT_of hT0 rfl rfl rfl) (hes_ok (T0 := T0) (T := T_gateref2_visible K) rfl rfl (trivial : FAll Try.prog T0 [])) (by kernel_rfl) rfl rfl rfl (cutsOK_none (by rfl)) rfl (q_gateref2_visible_0 K)
theorem q_gateref2_visible (K : Nat) (ds : List D) : evFn (T_gateref2_visible K) Try.f60 (.seq .go (.seq (.seq .go (.blk (.cut 0))) .go)) (e_gateref2_visible K) ds = (e_gateref2_visible K).f ds := by kernel_rfl
theorem ok_gateref2_visible (K : Nat) : FnOK Try.prog T0 60 (e_gateref2_visible K) :=
  fn_thm (T0 := T0) (T := T_gateref2_visible K) rfl (hT_of hT0 rfl rfl rfl) (hes_ok (T0 := T0) (T := T_gateref2_visible K) rfl rfl (trivial : FAll Try.prog T0 [])) Try.func60 (by decide) rfl (Nat.le_of_ble_eq_true rfl) rfl rfl rfl (tot_none rfl) (cutsOK_list (l := [(0, sub (codeOf Try.f60) [1, 0, 1, 0])]) (by kernel_rfl) ⟨cut_one (u := c_gateref2_visible_0 K) rfl (k_gateref2_visible_0 K), trivial⟩) (q_gateref2_visible K)
/-! ### 41 gatewarden/gateref2.SecretFault -/
def f_gateref2_SecretFault (K : Nat) (s : D) : Option (List D) :=
  bif (!(s.str == ([] : List UInt8))) then
    (f_gateref2_visible K s (D.i 33)).bind fun t1 =>
    bif (!((D.nth t1 0).bool)) then
      some [D.i 3]
    else
      bif (gtI (s.str.length : Int) 100) then
        some [D.i 2]
      else
        some [D.i 0]
  else
    some [D.i 3]
def e_gateref2_SecretFault (K : Nat) : Entry := { n := 1, sh := { sl := [(0, .d 9 false)], ob := [] }, kept := [], rs := [{ sl := [(0, .d 34 true)], ob := [] }], f := fun ds => f_gateref2_SecretFault K (D.nth ds 0), tot := none }
def T_gateref2_SecretFault (K : Nat) : Tbl := { T0 with ents := entsOf [(60, e_gateref2_visible K)], cuts := lk [] }
theorem q_gateref2_SecretFault (K : Nat) (ds : List D) : evFn (T_gateref2_SecretFault K) Try.f41 .go (e_gateref2_SecretFault K) ds = (e_gateref2_SecretFault K).f ds := by kernel_rfl
theorem ok_gateref2_SecretFault (K : Nat) : FnOK Try.prog T0 41 (e_gateref2_SecretFault K) :=
  fn_thm (T0 := T0) (T := T_gateref2_SecretFault K) rfl (hT_of hT0 rfl rfl rfl) (hes_ok (T0 := T0) (T := T_gateref2_SecretFault K) rfl rfl (⟨ok_gateref2_visible K, trivial⟩ : FAll Try.prog T0 [(60, e_gateref2_visible K)])) Try.func41 (by decide) rfl (Nat.le_of_ble_eq_true rfl) rfl rfl rfl (tot_none rfl) (cutsOK_none (by rfl)) (q_gateref2_SecretFault K)
/-! ### 12 gatewarden/gateref2.SignersFault -/
def b_gateref2_SignersFault_0 (K : Nat) (rec : List D → Option (Nat × List D)) (ds : List D) : Option (Nat × List D) :=
  let l := D.nth ds 0
  let s9 := D.nth ds 1
  let s10 := D.nth ds 2
  let s11 := D.nth ds 3
  bif (ltI s11.int s10.int) then
    bif (inB s11.int s9.list.length) then
      (f_gateref2_Key K ((D.nth s9.list s11.int.toNat).at' 0)).bind fun t1 =>
      bif (!((D.nth t1 0).bool)) then
        some (0, [D.i 5])
      else
        bif (inB s11.int (l.list.length + 1)) then
          (f_slices_ContainsFunc_api_Signera K (D.n (l.list.take s11.int.toNat)) (D.nth s9.list s11.int.toNat)).bind fun t2 =>
          bif (D.nth t2 0).bool then
            some (0, [D.i 6])
          else
            (f_gateref2_SecretFault K ((D.nth t2 1).at' 1)).bind fun t3 =>
            bif (((D.nth t3 0).int) != (0 : Int)) then
              some (0, [D.nth t3 0])
            else
              bif (bif (bif (!((D.nth (p_gateref2_in ((D.nth t2 1).at' 2) (D.i 0) ((D.nth t2 1).at' 3)) 0).bool)) then true else (gtI (((D.nth t2 1).at' 3).int) (((D.nth t2 1).at' 4).int))) then true else (gtI (((D.nth t2 1).at' 4).int) 345686400000)) then
                some (0, [D.i 1])
              else
                bif ((!(gtI s11.int 0)) || (inB (IntKind.i64.wrap (s11.int - (1 : Int))) l.list.length)) then
                  bif (bif (gtI s11.int 0) then (ltI (((D.nth t2 1).at' 2).int) (((D.nth l.list ((IntKind.i64.wrap (s11.int - (1 : Int))).toNat)).at' 2).int)) else false) then
                    some (0, [D.i 7])
                  else
                    rec [l, s9, s10, D.i (IntKind.i64.wrap (s11.int + (1 : Int)))]
                else
                  none
        else
          none
    else
      none
  else
    some (1, [])
def c_gateref2_SignersFault_0 (K : Nat) : Cut := { sh := { sl := [(0, .d 26 false), (9, .d 26 false), (10, .d 3 true), (11, .d 3 true)], ob := [] }, kept := [], outs := [(.ret, { sl := [(2, .d 34 true)], ob := [] }), (.exit 0, { sl := [], ob := [] })], f := fun ds => fixN (b_gateref2_SignersFault_0 K) K ds }
def f_gateref2_SignersFault (K : Nat) (l : D) : Option (List D) :=
  bif (gtI (l.list.length : Int) 50) then
    some [D.i 2]
  else
    (fixN (b_gateref2_SignersFault_0 K) K [l, l, D.i (l.list.length : Int), D.i 0]).bind fun t1 =>
    bif (t1.1.beq 0) then
      some [D.nth t1.2 0]
    else
      some [D.i 0]
def e_gateref2_SignersFault (K : Nat) : Entry := { n := 1, sh := { sl := [(0, .d 26 false)], ob := [] }, kept := [], rs := [{ sl := [(0, .d 34 true)], ob := [] }], f := fun ds => f_gateref2_SignersFault K (D.nth ds 0), tot := none }
def T_gateref2_SignersFault (K : Nat) : Tbl := { T0 with ents := entsOf [(38, e_gateref2_Key K), (39, e_slices_ContainsFunc_api_Signera K), (41, e_gateref2_SecretFault K), (42, e_gateref2_in K)], cuts := lk [(0, c_gateref2_SignersFault_0 K)] }
theorem q_gateref2_SignersFault_0 (K : Nat) (rec : List D → Option (Nat × List D)) (ds : List D) : evLoop (T_gateref2_SignersFault K) 67 (sub (codeOf Try.f12) [1, 1, 0, 1, 0, 0]) .go (c_gateref2_SignersFault_0 K) rec ds = b_gateref2_SignersFault_0 K rec ds := by kernel_rfl
theorem k_gateref2_SignersFault_0 (K : Nat) : CutOK Try.prog (T_gateref2_SignersFault K) 67 (sub (codeOf Try.f12) [1, 1, 0, 1, 0]) (c_gateref2_SignersFault_0 K) :=
  loop_thm (T := T_gateref2_SignersFault K) (hT_of hT0 rfl rfl rfl) (hes_ok (T0 := T0) (T := T_gateref2_SignersFault K) rfl rfl (⟨ok_gateref2_Key K, ok_slices_ContainsFunc_api_Signera K, ok_gateref2_SecretFault K, ok_gateref2_in K, trivial⟩ : FAll Try.prog T0 [(38, e_gateref2_Key K), (39, e_slices_ContainsFunc_api_Signera K), (41, e_gateref2_SecretFault K), (42, e_gateref2_in K)])) (by kernel_rfl) rfl rfl rfl (cutsOK_none (by rfl)) rfl (q_gateref2_SignersFault_0 K)
theorem q_gateref2_SignersFault (K : Nat) (ds : List D) : evFn (T_gateref2_SignersFault K) Try.f12 (.seq .go (.seq .go (.seq (.seq .go (.blk (.cut 0))) .go))) (e_gateref2_SignersFault K) ds = (e_gateref2_SignersFault K).f ds := by kernel_rfl
theorem ok_gateref2_SignersFault (K : Nat) : FnOK Try.prog T0 12 (e_gateref2_SignersFault K) :=
  fn_thm (T0 := T0) (T := T_gateref2_SignersFault K) rfl (hT_of hT0 rfl rfl rfl) (hes_ok (T0 := T0) (T := T_gateref2_SignersFault K) rfl rfl (⟨ok_gateref2_Key K, ok_slices_ContainsFunc_api_Signera K, ok_gateref2_SecretFault K, ok_gateref2_in K, trivial⟩ : FAll Try.prog T0 [(38, e_gateref2_Key K), (39, e_slices_ContainsFunc_api_Signera K), (41, e_gateref2_SecretFault K), (42, e_gateref2_in K)])) Try.func12 (by decide) rfl (Nat.le_of_ble_eq_true rfl) rfl rfl rfl (tot_none rfl) (cutsOK_list (l := [(0, sub (codeOf Try.f12) [1, 1, 0, 1, 0])]) (by kernel_rfl) ⟨cut_one (u := c_gateref2_SignersFault_0 K) rfl (k_gateref2_SignersFault_0 K), trivial⟩) (q_gateref2_SignersFault K)
/-! ### 44 gatewarden/gateref2.Moment -/
def p_gateref2_Moment (vat : D) : List D := [D.nth (p_gateref2_in vat (D.i 0) (D.i 345686399999)) 0]
def e_gateref2_Moment (K : Nat) : Entry := { n := 1, sh := { sl := [(0, .d 3 false)], ob := [] }, kept := [], rs := [{ sl := [(0, .d 4 true)], ob := [] }], f := fun ds => some (p_gateref2_Moment (D.nth ds 0)), tot := some fun ds => p_gateref2_Moment (D.nth ds 0) }
def T_gateref2_Moment (K : Nat) : Tbl := { T0 with ents := entsOf [(42, e_gateref2_in K)], cuts := lk [] }
theorem q_gateref2_Moment (K : Nat) (ds : List D) : evFn (T_gateref2_Moment K) Try.f44 .go (e_gateref2_Moment K) ds = (e_gateref2_Moment K).f ds := by kernel_rfl
theorem ok_gateref2_Moment (K : Nat) : FnOK Try.prog T0 44 (e_gateref2_Moment K) :=
  fn_thm (T0 := T0) (T := T_gateref2_Moment K) rfl (hT_of hT0 rfl rfl rfl) (hes_ok (T0 := T0) (T := T_gateref2_Moment K) rfl rfl (⟨ok_gateref2_in K, trivial⟩ : FAll Try.prog T0 [(42, e_gateref2_in K)])) Try.func44 (by decide) rfl (Nat.le_of_ble_eq_true rfl) rfl rfl rfl (tot_some rfl fun _ => rfl) (cutsOK_none (by rfl)) (q_gateref2_Moment K)
/-! ### 17 gatewarden/gatelaw2.when -/
def f_gatelaw2_when (K : Nat) (is e : D) : Option (List D) :=
  bif is.bool then
    some [e]
  else
    some [D.i 0]
def e_gatelaw2_when (K : Nat) : Entry := { n := 2, sh := { sl := [(0, .d 4 false), (1, .d 34 false)], ob := [] }, kept := [], rs := [{ sl := [(0, .d 34 true)], ob := [] }], f := fun ds => f_gatelaw2_when K (D.nth ds 0) (D.nth ds 1), tot := none }
def T_gatelaw2_when (K : Nat) : Tbl := { T0 with ents := entsOf [], cuts := lk [] }
theorem q_gatelaw2_when (K : Nat) (ds : List D) : evFn (T_gatelaw2_when K) Try.f17 .go (e_gatelaw2_when K) ds = (e_gatelaw2_when K).f ds := by kernel_rfl
theorem ok_gatelaw2_when (K : Nat) : FnOK Try.prog T0 17 (e_gatelaw2_when K) :=
  fn_thm (T0 := T0) (T := T_gatelaw2_when K) rfl (hT_of hT0 rfl rfl rfl) (hes_ok (T0 := T0) (T := T_gatelaw2_when K) rfl rfl (trivial : FAll Try.prog T0 [])) Try.func17 (by decide) rfl (Nat.le_of_ble_eq_true rfl) rfl rfl rfl (tot_none rfl) (cutsOK_none (by rfl)) (q_gatelaw2_when K)
/-! ### 15 gatewarden/gatelaw2.momentFault -/
def f_gatelaw2_momentFault (K : Nat) (vat : D) : Option (List D) :=
  (f_gatelaw2_when K (D.b (!((D.nth (p_gateref2_Moment vat) 0).bool))) (D.i 1)).bind fun t1 =>
  some [D.nth t1 0]
def e_gatelaw2_momentFault (K : Nat) : Entry := { n := 1, sh := { sl := [(0, .d 3 false)], ob := [] }, kept := [], rs := [{ sl := [(0, .d 34 true)], ob := [] }], f := fun ds => f_gatelaw2_momentFault K (D.nth ds 0), tot := none }
def T_gatelaw2_momentFault (K : Nat) : Tbl := { T0 with ents := entsOf [(44, e_gateref2_Moment K), (17, e_gatelaw2_when K)], cuts := lk [] }
theorem q_gatelaw2_momentFault (K : Nat) (ds : List D) : evFn (T_gatelaw2_momentFault K) Try.f15 .go (e_gatelaw2_momentFault K) ds = (e_gatelaw2_momentFault K).f ds := by kernel_rfl
theorem ok_gatelaw2_momentFault (K : Nat) : FnOK Try.prog T0 15 (e_gatelaw2_momentFault K) :=
  fn_thm (T0 := T0) (T := T_gatelaw2_momentFault K) rfl (hT_of hT0 rfl rfl rfl) (hes_ok (T0 := T0) (T := T_gatelaw2_momentFault K) rfl rfl (⟨ok_gateref2_Moment K, ok_gatelaw2_when K, trivial⟩ : FAll Try.prog T0 [(44, e_gateref2_Moment K), (17, e_gatelaw2_when K)])) Try.func15 (by decide) rfl (Nat.le_of_ble_eq_true rfl) rfl rfl rfl (tot_none rfl) (cutsOK_none (by rfl)) (q_gatelaw2_momentFault K)
/-! ### 14 gatewarden/gatelaw2.errs -/
def b_gatelaw2_errs_0 (K : Nat) (rec : List D → Option (Nat × List D)) (ds : List D) : Option (Nat × List D) :=
  let s5 := D.nth ds 0
  let s6 := D.nth ds 1
  let s7 := D.nth ds 2
  bif (ltI s7.int s6.int) then
    bif (inB s7.int s5.list.length) then
      bif (((D.nth s5.list s7.int.toNat).int) != (0 : Int)) then
        some (0, [D.nth s5.list s7.int.toNat])
      else
        rec [s5, s6, D.i (IntKind.i64.wrap (s7.int + (1 : Int)))]
    else
      none
  else
    some (1, [])
def c_gatelaw2_errs_0 (K : Nat) : Cut := { sh := { sl := [(5, .d 72 false), (6, .d 3 true), (7, .d 3 true)], ob := [] }, kept := [], outs := [(.ret, { sl := [(2, .d 34 true)], ob := [] }), (.exit 0, { sl := [], ob := [] })], f := fun ds => fixN (b_gatelaw2_errs_0 K) K ds }
def f_gatelaw2_errs (K : Nat) (l : D) : Option (List D) :=
  (fixN (b_gatelaw2_errs_0 K) K [l, D.i (l.list.length : Int), D.i 0]).bind fun t1 =>
  bif (t1.1.beq 0) then
    some [D.nth t1.2 0]
  else
    some [D.i 0]
def e_gatelaw2_errs (K : Nat) : Entry := { n := 1, sh := { sl := [(0, .d 72 false)], ob := [] }, kept := [], rs := [{ sl := [(0, .d 34 true)], ob := [] }], f := fun ds => f_gatelaw2_errs K (D.nth ds 0), tot := none }
def T_gatelaw2_errs (K : Nat) : Tbl := { T0 with ents := entsOf [], cuts := lk [(0, c_gatelaw2_errs_0 K)] }
theorem q_gatelaw2_errs_0 (K : Nat) (rec : List D → Option (Nat × List D)) (ds : List D) : evLoop (T_gatelaw2_errs K) 15 (sub (codeOf Try.f14) [1, 0, 1, 0, 0]) .go (c_gatelaw2_errs_0 K) rec ds = b_gatelaw2_errs_0 K rec ds := by kernel_rfl
theorem k_gatelaw2_errs_0 (K : Nat) : CutOK Try.prog (T_gatelaw2_errs K) 15 (sub (codeOf Try.f14) [1, 0, 1, 0]) (c_gatelaw2_errs_0 K) :=
  loop_thm (T := T_gatelaw2_errs K) (hT_of hT0 rfl rfl rfl) (hes_ok (T0 := T0) (T := T_gatelaw2_errs K) rfl rfl (trivial : FAll Try.prog T0 [])) (by kernel_rfl) rfl rfl rfl (cutsOK_none (by rfl)) rfl (q_gatelaw2_errs_0 K)
theorem q_gatelaw2_errs (K : Nat) (ds : List D) : evFn (T_gatelaw2_errs K) Try.f14 (.seq .go (.seq (.seq .go (.blk (.cut 0))) .go)) (e_gatelaw2_errs K) ds = (e_gatelaw2_errs K).f ds := by kernel_rfl
theorem ok_gatelaw2_errs (K : Nat) : FnOK Try.prog T0 14 (e_gatelaw2_errs K) :=
  fn_thm (T0 := T0) (T := T_gatelaw2_errs K) rfl (hT_of hT0 rfl rfl rfl) (hes_ok (T0 := T0) (T := T_gatelaw2_errs K) rfl rfl (trivial : FAll Try.prog T0 [])) Try.func14 (by decide) rfl (Nat.le_of_ble_eq_true rfl) rfl rfl rfl (tot_none rfl) (cutsOK_list (l := [(0, sub (codeOf Try.f14) [1, 0, 1, 0])]) (by kernel_rfl) ⟨cut_one (u := c_gatelaw2_errs_0 K) rfl (k_gatelaw2_errs_0 K), trivial⟩) (q_gatelaw2_errs K)
/-! ### 16 gatewarden/gateref2.SignerOf -/
def b_gateref2_SignerOf_0 (K : Nat) (rec : List D → Option (Nat × List D)) (ri rx : D) (ds : List D) : Option (Nat × List D) :=
  let vat := D.nth ds 0
  let s9_0 := D.nth ds 1
  let o0 := D.nth ds 2
  let o1 := D.nth ds 3
  bif (bif (leI ((rx.at' 2).int) vat.int) then (ltI vat.int ((rx.at' 3).int)) else false) then
    some (0, [rx, D.b true])
  else
    rec [vat, s9_0, o0, o1]
def z_gateref2_SignerOf_0 (K : Nat) (ds : List D) : Option (Nat × List D) :=
  let o0 := D.nth ds 2
  let o1 := D.nth ds 3
  some (1, [o0, o1])
def c_gateref2_SignerOf_0 (K : Nat) : Cut := { sh := { sl := [(3, .bx 3 true (.d 3 true)), (4, .ptr 44 0 []), (5, .ptr 4 1 []), (9, .fn 64 [.bx 26 true (.d 26 false)])], ob := [(0, .box 44 (.d 44 true)), (1, .box 4 (.d 4 true))] }, kept := [0, 1], outs := [(.ret, { sl := [], ob := [(0, .box 44 (.d 44 true)), (1, .box 4 (.d 4 true))] }), (.normal, { sl := [], ob := [(0, .box 44 (.d 44 true)), (1, .box 4 (.d 4 true))] })], f := fun ds => rangeN 1 (b_gateref2_SignerOf_0 K) (z_gateref2_SignerOf_0 K) (D.nth ds 1).list.length ds, solo := true }
def f_gateref2_SignerOf (K : Nat) (l vat : D) : Option (List D) :=
  (rangeN 1 (b_gateref2_SignerOf_0 K) (z_gateref2_SignerOf_0 K) l.list.length [vat, l, D.n [D.s [], D.s [], D.i 0, D.i 0, D.i 0], D.b false]).bind fun t1 =>
  bif (t1.1.beq 0) then
    some [D.nth t1.2 0, D.nth t1.2 1]
  else
    some [D.n [D.s [], D.s [], D.i 0, D.i 0, D.i 0], D.b false]
def e_gateref2_SignerOf (K : Nat) : Entry := { n := 2, sh := { sl := [(0, .d 26 false), (1, .d 3 false)], ob := [] }, kept := [], rs := [{ sl := [(0, .tup [.d 44 true, .d 4 true])], ob := [] }], f := fun ds => f_gateref2_SignerOf K (D.nth ds 0) (D.nth ds 1), tot := none }
def T_gateref2_SignerOf (K : Nat) : Tbl := { T0 with frz := fun s => memN [3] s, ents := entsOf [(45, e_slices_Backward_api_Signer K)], cuts := lk [(0, c_gateref2_SignerOf_0 K)] }
theorem q_gateref2_SignerOf_0 (K : Nat) (rec : List D → Option (Nat × List D)) (i x : D) (ds : List D) : evRound (T_gateref2_SignerOf K) 24 (sub (codeOf Try.f16) [1, 0, 1, 0, 0]) (sub (codeOf Try.f16) [1, 0, 1, 0, 1]) .go (c_gateref2_SignerOf_0 K) 10 11 44 false rec i x ds = b_gateref2_SignerOf_0 K rec i x ds := by kernel_rfl
theorem y_gateref2_SignerOf_0 (K : Nat) (ds : List D) : evRest (T_gateref2_SignerOf K) (c_gateref2_SignerOf_0 K) ds = z_gateref2_SignerOf_0 K ds := by kernel_rfl
theorem k_gateref2_SignerOf_0 (K : Nat) : CutOK Try.prog (T_gateref2_SignerOf K) 24 (sub (codeOf Try.f16) [1, 0, 1, 0]) (c_gateref2_SignerOf_0 K) :=
  range_thm (T := T_gateref2_SignerOf K) (ct := 26) (e := 44) (hT_of hT0 rfl rfl rfl) (hes_ok (T0 := T0) (T := T_gateref2_SignerOf K) rfl rfl (⟨ok_slices_Backward_api_Signer K, trivial⟩ : FAll Try.prog T0 [(45, e_slices_Backward_api_Signer K)])) rfl rfl rfl rfl rfl rfl (cutsOK_none (by rfl)) rfl (by kernel_rfl) (it64) Try.func64 (by decide) rfl (fun _ => rfl) (q_gateref2_SignerOf_0 K) (y_gateref2_SignerOf_0 K) (fun _ => rfl)
theorem q_gateref2_SignerOf (K : Nat) (ds : List D) : evFn (T_gateref2_SignerOf K) Try.f16 (.seq .go (.seq (.seq .go (.blk (.cut 0))) .go)) (e_gateref2_SignerOf K) ds = (e_gateref2_SignerOf K).f ds := by kernel_rfl
theorem ok_gateref2_SignerOf (K : Nat) : FnOK Try.prog T0 16 (e_gateref2_SignerOf K) :=
  fn_thm (T0 := T0) (T := T_gateref2_SignerOf K) rfl (hT_of hT0 rfl rfl rfl) (hes_ok (T0 := T0) (T := T_gateref2_SignerOf K) rfl rfl (⟨ok_slices_Backward_api_Signer K, trivial⟩ : FAll Try.prog T0 [(45, e_slices_Backward_api_Signer K)])) Try.func16 (by decide) rfl (Nat.le_of_ble_eq_true rfl) rfl rfl rfl (tot_none rfl) (cutsOK_list (l := [(0, sub (codeOf Try.f16) [1, 0, 1, 0])]) (by kernel_rfl) ⟨cut_one (u := c_gateref2_SignerOf_0 K) rfl (k_gateref2_SignerOf_0 K), trivial⟩) (q_gateref2_SignerOf K)
/-! ### 18 gatewarden/gateref2.UncoveredOf -/
def b_gateref2_UncoveredOf_1 (K : Nat) (rec : List D → Option (Nat × List D)) (ds : List D) : Option (Nat × List D) :=
  let w := D.nth ds 0
  let s40 := D.nth ds 1
  let s41 := D.nth ds 2
  let r0 := D.nth ds 3
  let r1 := D.nth ds 4
  bif (ltI s41.int s40.int) then
    bif (inB s41.int r1.list.length) then
      bif (D.nth (p_gateref2_in (D.nth r1.list s41.int.toNat) (w.at' 0) (w.at' 1)) 0).bool then
        bif (lim (r0.list.length + 1)) then
          rec [w, s40, D.i (IntKind.i64.wrap (s41.int + (1 : Int))), D.n (r0.list ++ [D.nth r1.list s41.int.toNat]), D.n r1.list]
        else
          none
      else
        rec [w, s40, D.i (IntKind.i64.wrap (s41.int + (1 : Int))), D.n r0.list, D.n r1.list]
    else
      none
  else
    some (0, [D.n r1.list, D.n r0.list])
def c_gateref2_UncoveredOf_1 (K : Nat) : Cut := { sh := { sl := [(4, .bx 31 true (.d 31 true)), (7, .own 22 0), (39, .own 22 1), (40, .d 3 true), (41, .d 3 true)], ob := [(0, .row 3 true), (1, .row 3 true)] }, kept := [1], outs := [(.exit 2, { sl := [(7, .own 22 0)], ob := [(1, .row 3 true), (0, .row 3 true)] })], f := fun ds => fixN (b_gateref2_UncoveredOf_1 K) K ds }
def b_gateref2_UncoveredOf_2 (K : Nat) (rec : List D → Option (Nat × List D)) (ds : List D) : Option (Nat × List D) :=
  let l := D.nth ds 0
  let life := D.nth ds 1
  let i := D.nth ds 2
  let r0 := D.nth ds 3
  let r1 := D.nth ds 4
  bif (ltI i.int (r0.list.length : Int)) then
    bif (inB (IntKind.i64.wrap (i.int - (1 : Int))) r0.list.length) then
      bif (inB i.int r0.list.length) then
        (f_gateref2_SignerOf K l (D.nth r0.list ((IntKind.i64.wrap (i.int - (1 : Int))).toNat))).bind fun t3 =>
        bif (bif (((D.nth r0.list ((IntKind.i64.wrap (i.int - (1 : Int))).toNat)).int) == ((D.nth r0.list i.int.toNat).int)) then true else (bif (D.nth t3 1).bool then (geI (((D.nth t3 0).at' 4).int) (IntKind.i64.wrap (((D.nth r0.list ((IntKind.i64.wrap (i.int - (1 : Int))).toNat)).int) + life.int))) else false)) then
          rec [l, life, D.i (IntKind.i64.wrap (i.int + (1 : Int))), D.n r0.list, D.n r1.list]
        else
          bif ((!(geI (IntKind.i64.wrap ((r1.list.length : Int) - (1 : Int))) 0)) || (inB (IntKind.i64.wrap ((r1.list.length : Int) - (1 : Int))) r1.list.length)) then
            bif (bif (geI (IntKind.i64.wrap ((r1.list.length : Int) - (1 : Int))) 0) then ((((D.nth r1.list ((IntKind.i64.wrap ((r1.list.length : Int) - (1 : Int))).toNat)).at' 1).int) == ((D.nth r0.list ((IntKind.i64.wrap (i.int - (1 : Int))).toNat)).int)) else false) then
              bif (inB (IntKind.i64.wrap ((r1.list.length : Int) - (1 : Int))) r1.list.length) then
                rec [l, life, D.i (IntKind.i64.wrap (i.int + (1 : Int))), D.n r0.list, D.n (D.setNth r1.list ((IntKind.i64.wrap ((r1.list.length : Int) - (1 : Int))).toNat) (D.n (D.setNth ((D.nth r1.list ((IntKind.i64.wrap ((r1.list.length : Int) - (1 : Int))).toNat)).list) 1 (D.nth r0.list i.int.toNat))))]
              else
                none
            else
              bif (lim (r1.list.length + 1)) then
                rec [l, life, D.i (IntKind.i64.wrap (i.int + (1 : Int))), D.n r0.list, D.n (r1.list ++ [D.n [D.nth r0.list ((IntKind.i64.wrap (i.int - (1 : Int))).toNat), D.nth r0.list i.int.toNat]])]
              else
                none
          else
            none
      else
        none
    else
      none
  else
    some (0, [D.n r0.list, D.n r1.list])
def c_gateref2_UncoveredOf_2 (K : Nat) : Cut := { sh := { sl := [(0, .d 26 false), (2, .d 3 true), (7, .own 22 0), (12, .own 37 1), (13, .d 3 true)], ob := [(0, .row 3 true), (1, .row 31 true)] }, kept := [0], outs := [(.exit 4, { sl := [(12, .own 37 1)], ob := [(0, .row 3 true), (1, .row 31 true)] })], f := fun ds => fixN (b_gateref2_UncoveredOf_2 K) K ds }
def b_gateref2_UncoveredOf_0 (K : Nat) (rec : List D → Option (Nat × List D)) (ds : List D) : Option (Nat × List D) :=
  let life := D.nth ds 0
  let w := D.nth ds 1
  let s24 := D.nth ds 2
  let s25 := D.nth ds 3
  let s26 := D.nth ds 4
  let r0 := D.nth ds 5
  bif (ltI s26.int s25.int) then
    bif (inB s26.int s24.list.length) then
      (fixN (b_gateref2_UncoveredOf_1 K) K [w, D.i 3, D.i 0, D.n r0.list, D.n [(D.nth s24.list s26.int.toNat).at' 2, (D.nth s24.list s26.int.toNat).at' 3, D.i (IntKind.i64.wrap ((IntKind.i64.wrap ((((D.nth s24.list s26.int.toNat).at' 4).int) - life.int)) + (1 : Int)))]]).bind fun t1 =>
      rec [life, w, s24, s25, D.i (IntKind.i64.wrap (s26.int + (1 : Int))), D.n ((D.nth t1.2 1).list)]
    else
      none
  else
    some (0, [D.n r0.list])
def c_gateref2_UncoveredOf_0 (K : Nat) : Cut := { sh := { sl := [(2, .d 3 true), (4, .bx 31 true (.d 31 true)), (7, .own 22 0), (24, .d 26 false), (25, .d 3 true), (26, .d 3 true)], ob := [(0, .row 3 true)] }, kept := [], outs := [(.exit 0, { sl := [(7, .own 22 0)], ob := [(0, .row 3 true)] })], f := fun ds => fixN (b_gateref2_UncoveredOf_0 K) K ds }
def f_gateref2_UncoveredOf (K : Nat) (l w life : D) : Option (List D) :=
  (fixN (b_gateref2_UncoveredOf_0 K) K [life, w, l, D.i (l.list.length : Int), D.i 0, D.n [w.at' 0, w.at' 1]]).bind fun t1 =>
  (f_slices_Sort_int K (D.n ((D.nth t1.2 0).list))).bind fun t2 =>
  (fixN (b_gateref2_UncoveredOf_2 K) K [l, life, D.i 1, D.n ((D.nth t2 0).list), D.n []]).bind fun t3 =>
  some [D.n ((D.nth t3.2 1).list)]
def e_gateref2_UncoveredOf (K : Nat) : Entry := { n := 3, sh := { sl := [(0, .d 26 false), (1, .d 31 false), (2, .d 3 false)], ob := [] }, kept := [], rs := [{ sl := [(0, .own 37 0)], ob := [(0, .row 31 true)] }], f := fun ds => f_gateref2_UncoveredOf K (D.nth ds 0) (D.nth ds 1) (D.nth ds 2), tot := none }
def T_gateref2_UncoveredOf (K : Nat) : Tbl := { T0 with frz := fun s => memN [4] s, ents := entsOf [(42, e_gateref2_in K), (36, e_slices_Sort_int K), (16, e_gateref2_SignerOf K)], cuts := lk [(0, c_gateref2_UncoveredOf_0 K), (1, c_gateref2_UncoveredOf_1 K), (2, c_gateref2_UncoveredOf_2 K)] }
theorem q_gateref2_UncoveredOf_1 (K : Nat) (rec : List D → Option (Nat × List D)) (ds : List D) : evLoop (T_gateref2_UncoveredOf K) 120 (sub (codeOf Try.f18) [1, 1, 0, 1, 0, 0, 1, 1, 0, 0, 1, 1, 0, 0]) .go (c_gateref2_UncoveredOf_1 K) rec ds = b_gateref2_UncoveredOf_1 K rec ds := by kernel_rfl
theorem k_gateref2_UncoveredOf_1 (K : Nat) : CutOK Try.prog (T_gateref2_UncoveredOf K) 120 (sub (codeOf Try.f18) [1, 1, 0, 1, 0, 0, 1, 1, 0, 0, 1, 1, 0]) (c_gateref2_UncoveredOf_1 K) :=
  loop_thm (T := T_gateref2_UncoveredOf K) (hT_of hT0 rfl rfl rfl) (hes_ok (T0 := T0) (T := T_gateref2_UncoveredOf K) rfl rfl (⟨ok_gateref2_in K, ok_slices_Sort_int K, ok_gateref2_SignerOf K, trivial⟩ : FAll Try.prog T0 [(42, e_gateref2_in K), (36, e_slices_Sort_int K), (16, e_gateref2_SignerOf K)])) (by kernel_rfl) rfl rfl rfl (cutsOK_none (by rfl)) rfl (q_gateref2_UncoveredOf_1 K)
theorem q_gateref2_UncoveredOf_2 (K : Nat) (rec : List D → Option (Nat × List D)) (ds : List D) : evLoop (T_gateref2_UncoveredOf K) 120 (sub (codeOf Try.f18) [1, 1, 1, 1, 1, 0, 1, 0, 0]) .go (c_gateref2_UncoveredOf_2 K) rec ds = b_gateref2_UncoveredOf_2 K rec ds := by kernel_rfl
theorem k_gateref2_UncoveredOf_2 (K : Nat) : CutOK Try.prog (T_gateref2_UncoveredOf K) 120 (sub (codeOf Try.f18) [1, 1, 1, 1, 1, 0, 1, 0]) (c_gateref2_UncoveredOf_2 K) :=
  loop_thm (T := T_gateref2_UncoveredOf K) (hT_of hT0 rfl rfl rfl) (hes_ok (T0 := T0) (T := T_gateref2_UncoveredOf K) rfl rfl (⟨ok_gateref2_in K, ok_slices_Sort_int K, ok_gateref2_SignerOf K, trivial⟩ : FAll Try.prog T0 [(42, e_gateref2_in K), (36, e_slices_Sort_int K), (16, e_gateref2_SignerOf K)])) (by kernel_rfl) rfl rfl rfl (cutsOK_none (by rfl)) rfl (q_gateref2_UncoveredOf_2 K)
theorem q_gateref2_UncoveredOf_0 (K : Nat) (rec : List D → Option (Nat × List D)) (ds : List D) : evLoop (T_gateref2_UncoveredOf K) 120 (sub (codeOf Try.f18) [1, 1, 0, 1, 0, 0]) (.seq .go (.seq .go (.seq (.blk (.seq .go (.seq .go (.blk (.cut 1))))) .go))) (c_gateref2_UncoveredOf_0 K) rec ds = b_gateref2_UncoveredOf_0 K rec ds := by kernel_rfl
theorem k_gateref2_UncoveredOf_0 (K : Nat) : CutOK Try.prog (T_gateref2_UncoveredOf K) 120 (sub (codeOf Try.f18) [1, 1, 0, 1, 0]) (c_gateref2_UncoveredOf_0 K) :=
  loop_thm (T := T_gateref2_UncoveredOf K) (hT_of hT0 rfl rfl rfl) (hes_ok (T0 := T0) (T := T_gateref2_UncoveredOf K) rfl rfl (⟨ok_gateref2_in K, ok_slices_Sort_int K, ok_gateref2_SignerOf K, trivial⟩ : FAll Try.prog T0 [(42, e_gateref2_in K), (36, e_slices_Sort_int K), (16, e_gateref2_SignerOf K)])) (by kernel_rfl) rfl rfl rfl (cutsOK_list (l := [(1, sub (codeOf Try.f18) [1, 1, 0, 1, 0, 0, 1, 1, 0, 0, 1, 1, 0])]) (by kernel_rfl) ⟨cut_one (u := c_gateref2_UncoveredOf_1 K) rfl (k_gateref2_UncoveredOf_1 K), trivial⟩) rfl (q_gateref2_UncoveredOf_0 K)
theorem q_gateref2_UncoveredOf (K : Nat) (ds : List D) : evFn (T_gateref2_UncoveredOf K) Try.f18 (.seq .go (.seq .go (.seq (.seq .go (.blk (.cut 0))) (.seq .go (.seq .go (.seq (.seq .go (.blk (.cut 2))) .go)))))) (e_gateref2_UncoveredOf K) ds = (e_gateref2_UncoveredOf K).f ds := by kernel_rfl
theorem ok_gateref2_UncoveredOf (K : Nat) : FnOK Try.prog T0 18 (e_gateref2_UncoveredOf K) :=
  fn_thm (T0 := T0) (T := T_gateref2_UncoveredOf K) rfl (hT_of hT0 rfl rfl rfl) (hes_ok (T0 := T0) (T := T_gateref2_UncoveredOf K) rfl rfl (⟨ok_gateref2_in K, ok_slices_Sort_int K, ok_gateref2_SignerOf K, trivial⟩ : FAll Try.prog T0 [(42, e_gateref2_in K), (36, e_slices_Sort_int K), (16, e_gateref2_SignerOf K)])) Try.func18 (by decide) rfl (Nat.le_of_ble_eq_true rfl) rfl rfl rfl (tot_none rfl) (cutsOK_list (l := [(0, sub (codeOf Try.f18) [1, 1, 0, 1, 0]), (2, sub (codeOf Try.f18) [1, 1, 1, 1, 1, 0, 1, 0])]) (by kernel_rfl) ⟨cut_one (u := c_gateref2_UncoveredOf_0 K) rfl (k_gateref2_UncoveredOf_0 K), cut_one (u := c_gateref2_UncoveredOf_2 K) rfl (k_gateref2_UncoveredOf_2 K), trivial⟩) (q_gateref2_UncoveredOf K)
/-! ### 19 slices.Equal[[]gatewarden/api.Window,gatewarden/api.Window] -/
def b_slices_Equal_api_Window_0 (K : Nat) (rec : List D → Option (Nat × List D)) (ds : List D) : Option (Nat × List D) :=
  let s1 := D.nth ds 0
  let s2 := D.nth ds 1
  let s12 := D.nth ds 2
  let s13 := D.nth ds 3
  bif (ltI s13.int s12.int) then
    bif (inB s13.int s1.list.length) then
      bif (inB s13.int s2.list.length) then
        bif (!(eqK (.pair 3 (.int .i64) (.pair 3 (.int .i64) .unit)) (D.nth s1.list s13.int.toNat) (D.nth s2.list s13.int.toNat))) then
          some (0, [D.b false])
        else
          rec [s1, s2, s12, D.i (IntKind.i64.wrap (s13.int + (1 : Int)))]
      else
        none
    else
      none
  else
    some (1, [])
def c_slices_Equal_api_Window_0 (K : Nat) : Cut := { sh := { sl := [(0, .d 37 false), (1, .d 37 false), (12, .d 3 true), (13, .d 3 true)], ob := [] }, kept := [], outs := [(.ret, { sl := [(4, .d 4 true)], ob := [] }), (.exit 0, { sl := [], ob := [] })], f := fun ds => fixN (b_slices_Equal_api_Window_0 K) K ds }
def f_slices_Equal_api_Window (K : Nat) (s1 s2 : D) : Option (List D) :=
  bif ((s1.list.length : Int) != (s2.list.length : Int)) then
    some [D.b false]
  else
    (fixN (b_slices_Equal_api_Window_0 K) K [s1, s2, D.i (s1.list.length : Int), D.i 0]).bind fun t1 =>
    bif (t1.1.beq 0) then
      some [D.nth t1.2 0]
    else
      some [D.b true]
def e_slices_Equal_api_Window (K : Nat) : Entry := { n := 2, sh := { sl := [(0, .d 37 false), (1, .d 37 false)], ob := [] }, kept := [], rs := [{ sl := [(0, .d 4 true)], ob := [] }], f := fun ds => f_slices_Equal_api_Window K (D.nth ds 0) (D.nth ds 1), tot := none }
def T_slices_Equal_api_Window (K : Nat) : Tbl := { T0 with ents := entsOf [], cuts := lk [(0, c_slices_Equal_api_Window_0 K)] }
theorem q_slices_Equal_api_Window_0 (K : Nat) (rec : List D → Option (Nat × List D)) (ds : List D) : evLoop (T_slices_Equal_api_Window K) 26 (sub (codeOf Try.f19) [1, 1, 0, 1, 0, 0]) .go (c_slices_Equal_api_Window_0 K) rec ds = b_slices_Equal_api_Window_0 K rec ds := by kernel_rfl
theorem k_slices_Equal_api_Window_0 (K : Nat) : CutOK Try.prog (T_slices_Equal_api_Window K) 26 (sub (codeOf Try.f19) [1, 1, 0, 1, 0]) (c_slices_Equal_api_Window_0 K) :=
  loop_thm (T := T_slices_Equal_api_Window K) (hT_of hT0 rfl rfl rfl) (hes_ok (T0 := T0) (T := T_slices_Equal_api_Window K) rfl rfl (trivial : FAll Try.prog T0 [])) (by kernel_rfl) rfl rfl rfl (cutsOK_none (by rfl)) rfl (q_slices_Equal_api_Window_0 K)
theorem q_slices_Equal_api_Window (K : Nat) (ds : List D) : evFn (T_slices_Equal_api_Window K) Try.f19 (.seq .go (.seq .go (.seq (.seq .go (.blk (.cut 0))) .go))) (e_slices_Equal_api_Window K) ds = (e_slices_Equal_api_Window K).f ds := by kernel_rfl
theorem ok_slices_Equal_api_Window (K : Nat) : FnOK Try.prog T0 19 (e_slices_Equal_api_Window K) :=
  fn_thm (T0 := T0) (T := T_slices_Equal_api_Window K) rfl (hT_of hT0 rfl rfl rfl) (hes_ok (T0 := T0) (T := T_slices_Equal_api_Window K) rfl rfl (trivial : FAll Try.prog T0 [])) Try.func19 (by decide) rfl (Nat.le_of_ble_eq_true rfl) rfl rfl rfl (tot_none rfl) (cutsOK_list (l := [(0, sub (codeOf Try.f19) [1, 1, 0, 1, 0])]) (by kernel_rfl) ⟨cut_one (u := c_slices_Equal_api_Window_0 K) rfl (k_slices_Equal_api_Window_0 K), trivial⟩) (q_slices_Equal_api_Window K)
/-! ### 46 gatewarden/token.Encode -/
def b_token_Encode_2 (K : Nat) (rec : List D → Option (Nat × List D)) (ds : List D) : Option (Nat × List D) :=
  let x := D.nth ds 0
  let s30 := D.nth ds 1
  let s31 := D.nth ds 2
  let r0 := D.nth ds 3
  bif (ltI s31.int s30.int) then
    bif (!(ltI (IntKind.i64.wrap ((18 : Int) - (IntKind.i64.wrap ((6 : Int) * s31.int)))) 0)) then
      bif (inB (bitsI .and .i64 (shr .i64 x.int (IntKind.i64.wrap ((18 : Int) - (IntKind.i64.wrap ((6 : Int) * s31.int))))) (63 : Int)) ([65, 66, 67, 68, 69, 70, 71, 72, 73, 74, 75, 76, 77, 78, 79, 80, 81, 82, 83, 84, 85, 86, 87, 88, 89, 90, 97, 98, 99, 100, 101, 102, 103, 104, 105, 106, 107, 108, 109, 110, 111, 112, 113, 114, 115, 116, 117, 118, 119, 120, 121, 122, 48, 49, 50, 51, 52, 53, 54, 55, 56, 57, 45, 95].length)) then
        bif (lim (r0.list.length + 1)) then
          rec [x, s30, D.i (IntKind.i64.wrap (s31.int + (1 : Int))), D.n (r0.list ++ [D.i (byteAt [65, 66, 67, 68, 69, 70, 71, 72, 73, 74, 75, 76, 77, 78, 79, 80, 81, 82, 83, 84, 85, 86, 87, 88, 89, 90, 97, 98, 99, 100, 101, 102, 103, 104, 105, 106, 107, 108, 109, 110, 111, 112, 113, 114, 115, 116, 117, 118, 119, 120, 121, 122, 48, 49, 50, 51, 52, 53, 54, 55, 56, 57, 45, 95] ((bitsI .and .i64 (shr .i64 x.int (IntKind.i64.wrap ((18 : Int) - (IntKind.i64.wrap ((6 : Int) * s31.int))))) (63 : Int)).toNat))])]
        else
          none
      else
        none
    else
      none
  else
    some (0, [D.n r0.list])
def c_token_Encode_2 (K : Nat) : Cut := { sh := { sl := [(3, .own 92 0), (5, .d 3 true), (30, .d 3 true), (31, .d 3 true)], ob := [(0, .row 5 true)] }, kept := [], outs := [(.exit 4, { sl := [(3, .own 92 0)], ob := [(0, .row 5 true)] })], f := fun ds => fixN (b_token_Encode_2 K) K ds }
def b_token_Encode_1 (K : Nat) (rec : List D → Option (Nat × List D)) (ds : List D) : Option (Nat × List D) :=
  let s := D.nth ds 0
  let n := D.nth ds 1
  let x := D.nth ds 2
  let s14 := D.nth ds 3
  bif (ltI s14.int 3) then
    bif (ltI s14.int n.int) then
      bif (inB s14.int s.str.length) then
        rec [s, n, D.i (bitsI .or .i64 (shl .i64 x.int 8) (IntKind.i64.wrap (byteAt s.str s14.int.toNat))), D.i (IntKind.i64.wrap (s14.int + (1 : Int)))]
      else
        none
    else
      rec [s, n, D.i (shl .i64 x.int 8), D.i (IntKind.i64.wrap (s14.int + (1 : Int)))]
  else
    some (0, [x])
def c_token_Encode_1 (K : Nat) : Cut := { sh := { sl := [(0, .d 9 true), (4, .d 3 true), (5, .d 3 true), (14, .d 3 true)], ob := [] }, kept := [], outs := [(.exit 2, { sl := [(5, .d 3 true)], ob := [] })], f := fun ds => fixN (b_token_Encode_1 K) K ds }
def b_token_Encode_0 (K : Nat) (rec : List D → Option (Nat × List D)) (ds : List D) : Option (Nat × List D) :=
  let s := D.nth ds 0
  let r0 := D.nth ds 1
  bif (gtI (s.str.length : Int) 0) then
    (fixN (b_token_Encode_1 K) K [s, D.i (minI 3 (s.str.length : Int)), D.i 0, D.i 0]).bind fun t1 =>
    (fixN (b_token_Encode_2 K) K [D.nth t1.2 0, D.i (IntKind.i64.wrap ((minI 3 (s.str.length : Int)) + (1 : Int))), D.i 0, D.n r0.list]).bind fun t2 =>
    bif (inB (minI 3 (s.str.length : Int)) (s.str.length + 1)) then
      rec [D.s (s.str.drop ((minI 3 (s.str.length : Int)).toNat)), D.n ((D.nth t2.2 0).list)]
    else
      none
  else
    some (0, [D.n r0.list])
def c_token_Encode_0 (K : Nat) : Cut := { sh := { sl := [(0, .d 9 true), (3, .own 92 0)], ob := [(0, .row 5 true)] }, kept := [], outs := [(.exit 0, { sl := [(3, .own 92 0)], ob := [(0, .row 5 true)] })], f := fun ds => fixN (b_token_Encode_0 K) K ds }
def f_token_Encode (K : Nat) (s : D) : Option (List D) :=
  (fixN (b_token_Encode_0 K) K [s, D.n []]).bind fun t1 =>
  some [D.s (((D.nth t1.2 0).list).map toByte)]
def e_token_Encode (K : Nat) : Entry := { n := 1, sh := { sl := [(0, .d 9 false)], ob := [] }, kept := [], rs := [{ sl := [(0, .d 9 true)], ob := [] }], f := fun ds => f_token_Encode K (D.nth ds 0), tot := none }
def T_token_Encode (K : Nat) : Tbl := { T0 with ents := entsOf [], cuts := lk [(0, c_token_Encode_0 K), (1, c_token_Encode_1 K), (2, c_token_Encode_2 K)] }
theorem q_token_Encode_2 (K : Nat) (rec : List D → Option (Nat × List D)) (ds : List D) : evLoop (T_token_Encode K) 50 (sub (codeOf Try.f46) [1, 1, 0, 0, 0, 1, 0, 1, 1, 1, 0, 1, 0, 0]) .go (c_token_Encode_2 K) rec ds = b_token_Encode_2 K rec ds := by kernel_rfl
theorem k_token_Encode_2 (K : Nat) : CutOK Try.prog (T_token_Encode K) 50 (sub (codeOf Try.f46) [1, 1, 0, 0, 0, 1, 0, 1, 1, 1, 0, 1, 0]) (c_token_Encode_2 K) :=
  loop_thm (T := T_token_Encode K) (hT_of hT0 rfl rfl rfl) (hes_ok (T0 := T0) (T := T_token_Encode K) rfl rfl (trivial : FAll Try.prog T0 [])) (by kernel_rfl) rfl rfl rfl (cutsOK_none (by rfl)) rfl (q_token_Encode_2 K)
theorem q_token_Encode_1 (K : Nat) (rec : List D → Option (Nat × List D)) (ds : List D) : evLoop (T_token_Encode K) 50 (sub (codeOf Try.f46) [1, 1, 0, 0, 0, 1, 0, 1, 1, 0, 1, 0, 0]) .go (c_token_Encode_1 K) rec ds = b_token_Encode_1 K rec ds := by kernel_rfl
theorem k_token_Encode_1 (K : Nat) : CutOK Try.prog (T_token_Encode K) 50 (sub (codeOf Try.f46) [1, 1, 0, 0, 0, 1, 0, 1, 1, 0, 1, 0]) (c_token_Encode_1 K) :=
  loop_thm (T := T_token_Encode K) (hT_of hT0 rfl rfl rfl) (hes_ok (T0 := T0) (T := T_token_Encode K) rfl rfl (trivial : FAll Try.prog T0 [])) (by kernel_rfl) rfl rfl rfl (cutsOK_none (by rfl)) rfl (q_token_Encode_1 K)
theorem q_token_Encode_0 (K : Nat) (rec : List D → Option (Nat × List D)) (ds : List D) : evLoop (T_token_Encode K) 50 (sub (codeOf Try.f46) [1, 1, 0, 0, 0]) (.seq .go (.blk (.seq .go (.seq .go (.seq (.seq .go (.blk (.cut 1))) (.seq (.seq .go (.blk (.cut 2))) .go)))))) (c_token_Encode_0 K) rec ds = b_token_Encode_0 K rec ds := by kernel_rfl
theorem k_token_Encode_0 (K : Nat) : CutOK Try.prog (T_token_Encode K) 50 (sub (codeOf Try.f46) [1, 1, 0, 0]) (c_token_Encode_0 K) :=
  loop_thm (T := T_token_Encode K) (hT_of hT0 rfl rfl rfl) (hes_ok (T0 := T0) (T := T_token_Encode K) rfl rfl (trivial : FAll Try.prog T0 [])) (by kernel_rfl) rfl rfl rfl (cutsOK_list (l := [(1, sub (codeOf Try.f46) [1, 1, 0, 0, 0, 1, 0, 1, 1, 0, 1, 0]), (2, sub (codeOf Try.f46) [1, 1, 0, 0, 0, 1, 0, 1, 1, 1, 0, 1, 0])]) (by kernel_rfl) ⟨cut_one (u := c_token_Encode_1 K) rfl (k_token_Encode_1 K), cut_one (u := c_token_Encode_2 K) rfl (k_token_Encode_2 K), trivial⟩) rfl (q_token_Encode_0 K)
theorem q_token_Encode (K : Nat) (ds : List D) : evFn (T_token_Encode K) Try.f46 (.seq .go (.seq .go (.seq (.blk (.cut 0)) .go))) (e_token_Encode K) ds = (e_token_Encode K).f ds := by kernel_rfl
theorem ok_token_Encode (K : Nat) : FnOK Try.prog T0 46 (e_token_Encode K) :=
  fn_thm (T0 := T0) (T := T_token_Encode K) rfl (hT_of hT0 rfl rfl rfl) (hes_ok (T0 := T0) (T := T_token_Encode K) rfl rfl (trivial : FAll Try.prog T0 [])) Try.func46 (by decide) rfl (Nat.le_of_ble_eq_true rfl) rfl rfl rfl (tot_none rfl) (cutsOK_list (l := [(0, sub (codeOf Try.f46) [1, 1, 0, 0])]) (by kernel_rfl) ⟨cut_one (u := c_token_Encode_0 K) rfl (k_token_Encode_0 K), trivial⟩) (q_token_Encode K)
/-! ### 20 gatewarden/gatelaw2.signed -/
def f_gatelaw2_signed (K : Nat) : Option (List D) :=
  (f_token_Encode K (D.s [97, 98])).bind fun t1 =>
  some [D.b (((D.nth t1 0).str) == ([89, 87, 73] : List UInt8))]
def e_gatelaw2_signed (K : Nat) : Entry := { n := 0, sh := { sl := [], ob := [] }, kept := [], rs := [{ sl := [(0, .d 4 true)], ob := [] }], f := fun ds => f_gatelaw2_signed K, tot := none }
def T_gatelaw2_signed (K : Nat) : Tbl := { T0 with ents := entsOf [(46, e_token_Encode K)], cuts := lk [] }
theorem q_gatelaw2_signed (K : Nat) (ds : List D) : evFn (T_gatelaw2_signed K) Try.f20 .go (e_gatelaw2_signed K) ds = (e_gatelaw2_signed K).f ds := by kernel_rfl
theorem ok_gatelaw2_signed (K : Nat) : FnOK Try.prog T0 20 (e_gatelaw2_signed K) :=
  fn_thm (T0 := T0) (T := T_gatelaw2_signed K) rfl (hT_of hT0 rfl rfl rfl) (hes_ok (T0 := T0) (T := T_gatelaw2_signed K) rfl rfl (⟨ok_token_Encode K, trivial⟩ : FAll Try.prog T0 [(46, e_token_Encode K)])) Try.func20 (by decide) rfl (Nat.le_of_ble_eq_true rfl) rfl rfl rfl (tot_none rfl) (cutsOK_none (by rfl)) (q_gatelaw2_signed K)
/-! ### 3 gatewarden/gatelaw2.SignersSign -/
def b_gatelaw2_SignersSign_2 (K : Nat) (ds : List D) : Option (Nat × List D) :=
  let life := D.nth ds 0
  let s107 := D.nth ds 1
  let r0 := D.nth ds 2
  let o1 := D.nth ds 3
  bif s107.bool then
    (f_gateref2_UncoveredOf K (D.n r0.list) o1 life).bind fun t18 =>
    some (0, [D.n r0.list, o1, D.n ((D.nth t18 0).list)])
  else
    some (0, [D.n r0.list, o1, D.n []])
def c_gatelaw2_SignersSign_2 (K : Nat) : Cut := { sh := { sl := [(4, .own 26 0), (6, .d 3 true), (7, .ptr 31 1 []), (18, .nil 37), (107, .d 4 true)], ob := [(0, .row 44 true), (1, .box 31 (.d 31 true))] }, kept := [0, 1], outs := [(.normal, { sl := [(18, .own 37 2)], ob := [(0, .row 44 true), (1, .box 31 (.d 31 true)), (2, .row 31 true)] })], f := b_gatelaw2_SignersSign_2 K }
def b_gatelaw2_SignersSign_1 (K : Nat) (ds : List D) : Option (Nat × List D) :=
  let vat := D.nth ds 0
  let one := D.nth ds 1
  let want := D.nth ds 2
  let s68 := D.nth ds 3
  let r0 := D.nth ds 4
  bif s68.bool then
    (f_gateref2_SignerOf K (D.n r0.list) vat).bind fun t14 =>
    (f_gatelaw2_when K (D.b (!((D.nth t14 1).bool))) (D.i 8)).bind fun t15 =>
    some (0, [D.nth t15 0, (D.nth t14 0).at' 0, D.n r0.list])
  else
    some (0, [one, want, D.n r0.list])
def c_gatelaw2_SignersSign_1 (K : Nat) : Cut := { sh := { sl := [(4, .own 26 0), (5, .d 3 true), (13, .d 34 true), (14, .d 9 true), (68, .d 4 true)], ob := [(0, .row 44 true)] }, kept := [0], outs := [(.normal, { sl := [(13, .d 34 true), (14, .d 9 true)], ob := [(0, .row 44 true)] })], f := b_gatelaw2_SignersSign_1 K }
def b_gatelaw2_SignersSign_0 (K : Nat) (ds : List D) : Option (Nat × List D) :=
  let s37 := D.nth ds 0
  let o0 := D.nth ds 1
  let o1 := D.nth ds 2
  bif s37.bool then
    (f_gatemake_Stream_Odd K (D.i 0) (D.i 100) o0).bind fun t7 =>
    (f_gatemake_Stream_Odd K (D.i 0) (D.i 1000) (D.nth t7 1)).bind fun t8 =>
    some (0, [D.nth t8 1, D.n [D.nth t7 0, D.nth t8 0]])
  else
    some (0, [o0, o1])
def c_gatelaw2_SignersSign_0 (K : Nat) : Cut := { sh := { sl := [(3, .ptr 25 0 []), (7, .ptr 31 1 []), (37, .d 4 true)], ob := [(0, .box 25 (.d 25 false)), (1, .box 31 (.d 31 true))] }, kept := [0, 1], outs := [(.normal, { sl := [], ob := [(0, .box 25 (.d 25 false)), (1, .box 31 (.d 31 true))] })], f := b_gatelaw2_SignersSign_0 K }
def f_gatelaw2_SignersSign (K : Nat) (l : D) : Option (List D) :=
  (f_gatemake_Stream_Signers K (D.n [l, D.i 0])).bind fun t1 =>
  (f_gatemake_Stream_Moment K (D.nth t1 0)).bind fun t2 =>
  (f_gatemake_Stream_Pick K (D.nth t2 1) (D.n [D.i 0, D.i 1, D.i 5, D.i 50, D.i 100, D.i 1000, D.i (-1), D.i 345686400001])).bind fun t3 =>
  (f_gatemake_Stream_Pick K (D.nth t3 1) (D.n [D.i 0, D.i 10, D.i 60])).bind fun t4 =>
  (f_gatemake_Stream_Pick K (D.nth t4 1) (D.n [D.i 60, D.i 100, D.i 300, D.i 1000])).bind fun t5 =>
  (f_gatemake_Stream_Flip K (D.i 12) (D.nth t5 1)).bind fun t6 =>
  (b_gatelaw2_SignersSign_0 K [D.nth t6 0, D.nth t6 1, D.n [D.nth t4 0, D.nth t5 0]]).bind fun t7 =>
  (f_token_SignerAt K (D.n ((D.nth t1 1).list)) (D.nth t2 0)).bind fun t8 =>
  (f_token_Uncovered K (D.n ((D.nth t1 1).list)) (D.nth t7.2 1) (D.nth t3 0)).bind fun t9 =>
  (f_gateref2_SignersFault K (D.n ((D.nth t1 1).list))).bind fun t10 =>
  (f_token_CheckSigners K (D.n ((D.nth t1 1).list))).bind fun t11 =>
  bif (((D.nth t11 0).int) != ((D.nth t10 0).int)) then
    some [D.b false]
  else
    (f_gatelaw2_momentFault K (D.nth t2 0)).bind fun t12 =>
    (f_gatelaw2_errs K (D.n [D.nth t10 0, D.nth t12 0])).bind fun t13 =>
    (b_gatelaw2_SignersSign_1 K [D.nth t2 0, D.nth t13 0, D.s [], D.b (((D.nth t13 0).int) == (0 : Int)), D.n ((D.nth t1 1).list)]).bind fun t14 =>
    (f_gatelaw2_when K (D.b (bif (bif (ltI (((D.nth t7.2 1).at' 0).int) 0) then true else (gtI (((D.nth t7.2 1).at' 0).int) (((D.nth t7.2 1).at' 1).int))) then true else (gtI (((D.nth t7.2 1).at' 1).int) 345686400000))) (D.i 1)).bind fun t15 =>
    (f_gatelaw2_when K (D.b (bif (ltI ((D.nth t3 0).int) 0) then true else (gtI ((D.nth t3 0).int) 345686400000))) (D.i 1)).bind fun t16 =>
    (f_gatelaw2_errs K (D.n [D.nth t10 0, D.nth t15 0, D.nth t16 0])).bind fun t17 =>
    (b_gatelaw2_SignersSign_2 K [D.nth t3 0, D.b (((D.nth t17 0).int) == (0 : Int)), D.n ((D.nth t14.2 2).list), D.nth t7.2 1]).bind fun t18 =>
    bif (bif (bif (((D.nth t8 1).int) == ((D.nth t14.2 0).int)) then (((D.nth t8 0).str) == ((D.nth t14.2 1).str)) else false) then (((D.nth t9 0).int) == ((D.nth t17 0).int)) else false) then
      (f_slices_Equal_api_Window K (D.n ((D.nth t9 1).list)) (D.n ((D.nth t18.2 2).list))).bind fun t19 =>
      bif (D.nth t19 0).bool then
        (f_gatelaw2_signed K).bind fun t20 =>
        some [D.b ((D.nth t20 0).bool)]
      else
        some [D.b false]
    else
      some [D.b false]
def e_gatelaw2_SignersSign (K : Nat) : Entry := { n := 1, sh := { sl := [(0, .d 22 false)], ob := [] }, kept := [], rs := [{ sl := [(0, .d 4 true)], ob := [] }], f := fun ds => f_gatelaw2_SignersSign K (D.nth ds 0), tot := none }
def T_gatelaw2_SignersSign (K : Nat) : Tbl := { T0 with ents := entsOf [(5, e_gatemake_Stream_Signers K), (6, e_gatemake_Stream_Moment K), (7, e_gatemake_Stream_Pick K), (8, e_gatemake_Stream_Flip K), (9, e_gatemake_Stream_Odd K), (10, e_token_SignerAt K), (11, e_token_Uncovered K), (12, e_gateref2_SignersFault K), (13, e_token_CheckSigners K), (15, e_gatelaw2_momentFault K), (14, e_gatelaw2_errs K), (16, e_gateref2_SignerOf K), (17, e_gatelaw2_when K), (18, e_gateref2_UncoveredOf K), (19, e_slices_Equal_api_Window K), (20, e_gatelaw2_signed K)], cuts := lk [(0, c_gatelaw2_SignersSign_0 K), (1, c_gatelaw2_SignersSign_1 K), (2, c_gatelaw2_SignersSign_2 K)] }
theorem q_gatelaw2_SignersSign_2 (K : Nat) (ds : List D) : evPiece (T_gatelaw2_SignersSign K) 133 (sub (codeOf Try.f3) [1, 1, 1, 1, 1, 1, 1, 1, 1, 1, 1, 1, 1, 1, 0, 1]) .go (c_gatelaw2_SignersSign_2 K) ds = b_gatelaw2_SignersSign_2 K ds := by kernel_rfl
theorem k_gatelaw2_SignersSign_2 (K : Nat) : CutOK Try.prog (T_gatelaw2_SignersSign K) 133 (sub (codeOf Try.f3) [1, 1, 1, 1, 1, 1, 1, 1, 1, 1, 1, 1, 1, 1, 0, 1]) (c_gatelaw2_SignersSign_2 K) :=
  piece_thm (T := T_gatelaw2_SignersSign K) (hT_of hT0 rfl rfl rfl) (hes_ok (T0 := T0) (T := T_gatelaw2_SignersSign K) rfl rfl (⟨ok_gatemake_Stream_Signers K, ok_gatemake_Stream_Moment K, ok_gatemake_Stream_Pick K, ok_gatemake_Stream_Flip K, ok_gatemake_Stream_Odd K, ok_token_SignerAt K, ok_token_Uncovered K, ok_gateref2_SignersFault K, ok_token_CheckSigners K, ok_gatelaw2_momentFault K, ok_gatelaw2_errs K, ok_gateref2_SignerOf K, ok_gatelaw2_when K, ok_gateref2_UncoveredOf K, ok_slices_Equal_api_Window K, ok_gatelaw2_signed K, trivial⟩ : FAll Try.prog T0 [(5, e_gatemake_Stream_Signers K), (6, e_gatemake_Stream_Moment K), (7, e_gatemake_Stream_Pick K), (8, e_gatemake_Stream_Flip K), (9, e_gatemake_Stream_Odd K), (10, e_token_SignerAt K), (11, e_token_Uncovered K), (12, e_gateref2_SignersFault K), (13, e_token_CheckSigners K), (15, e_gatelaw2_momentFault K), (14, e_gatelaw2_errs K), (16, e_gateref2_SignerOf K), (17, e_gatelaw2_when K), (18, e_gateref2_UncoveredOf K), (19, e_slices_Equal_api_Window K), (20, e_gatelaw2_signed K)])) rfl rfl rfl (cutsOK_none (by rfl)) (q_gatelaw2_SignersSign_2 K)
theorem q_gatelaw2_SignersSign_1 (K : Nat) (ds : List D) : evPiece (T_gatelaw2_SignersSign K) 133 (sub (codeOf Try.f3) [1, 1, 1, 1, 1, 1, 1, 1, 1, 1, 1, 0, 1]) .go (c_gatelaw2_SignersSign_1 K) ds = b_gatelaw2_SignersSign_1 K ds := by kernel_rfl
theorem k_gatelaw2_SignersSign_1 (K : Nat) : CutOK Try.prog (T_gatelaw2_SignersSign K) 133 (sub (codeOf Try.f3) [1, 1, 1, 1, 1, 1, 1, 1, 1, 1, 1, 0, 1]) (c_gatelaw2_SignersSign_1 K) :=
  piece_thm (T := T_gatelaw2_SignersSign K) (hT_of hT0 rfl rfl rfl) (hes_ok (T0 := T0) (T := T_gatelaw2_SignersSign K) rfl rfl (⟨ok_gatemake_Stream_Signers K, ok_gatemake_Stream_Moment K, ok_gatemake_Stream_Pick K, ok_gatemake_Stream_Flip K, ok_gatemake_Stream_Odd K, ok_token_SignerAt K, ok_token_Uncovered K, ok_gateref2_SignersFault K, ok_token_CheckSigners K, ok_gatelaw2_momentFault K, ok_gatelaw2_errs K, ok_gateref2_SignerOf K, ok_gatelaw2_when K, ok_gateref2_UncoveredOf K, ok_slices_Equal_api_Window K, ok_gatelaw2_signed K, trivial⟩ : FAll Try.prog T0 [(5, e_gatemake_Stream_Signers K), (6, e_gatemake_Stream_Moment K), (7, e_gatemake_Stream_Pick K), (8, e_gatemake_Stream_Flip K), (9, e_gatemake_Stream_Odd K), (10, e_token_SignerAt K), (11, e_token_Uncovered K), (12, e_gateref2_SignersFault K), (13, e_token_CheckSigners K), (15, e_gatelaw2_momentFault K), (14, e_gatelaw2_errs K), (16, e_gateref2_SignerOf K), (17, e_gatelaw2_when K), (18, e_gateref2_UncoveredOf K), (19, e_slices_Equal_api_Window K), (20, e_gatelaw2_signed K)])) rfl rfl rfl (cutsOK_none (by rfl)) (q_gatelaw2_SignersSign_1 K)
theorem q_gatelaw2_SignersSign_0 (K : Nat) (ds : List D) : evPiece (T_gatelaw2_SignersSign K) 133 (sub (codeOf Try.f3) [1, 1, 1, 1, 0, 1]) .go (c_gatelaw2_SignersSign_0 K) ds = b_gatelaw2_SignersSign_0 K ds := by kernel_rfl
theorem k_gatelaw2_SignersSign_0 (K : Nat) : CutOK Try.prog (T_gatelaw2_SignersSign K) 133 (sub (codeOf Try.f3) [1, 1, 1, 1, 0, 1]) (c_gatelaw2_SignersSign_0 K) :=
  piece_thm (T := T_gatelaw2_SignersSign K) (hT_of hT0 rfl rfl rfl) (hes_ok (T0 := T0) (T := T_gatelaw2_SignersSign K) rfl rfl (⟨ok_gatemake_Stream_Signers K, ok_gatemake_Stream_Moment K, ok_gatemake_Stream_Pick K, ok_gatemake_Stream_Flip K, ok_gatemake_Stream_Odd K, ok_token_SignerAt K, ok_token_Uncovered K, ok_gateref2_SignersFault K, ok_token_CheckSigners K, ok_gatelaw2_momentFault K, ok_gatelaw2_errs K, ok_gateref2_SignerOf K, ok_gatelaw2_when K, ok_gateref2_UncoveredOf K, ok_slices_Equal_api_Window K, ok_gatelaw2_signed K, trivial⟩ : FAll Try.prog T0 [(5, e_gatemake_Stream_Signers K), (6, e_gatemake_Stream_Moment K), (7, e_gatemake_Stream_Pick K), (8, e_gatemake_Stream_Flip K), (9, e_gatemake_Stream_Odd K), (10, e_token_SignerAt K), (11, e_token_Uncovered K), (12, e_gateref2_SignersFault K), (13, e_token_CheckSigners K), (15, e_gatelaw2_momentFault K), (14, e_gatelaw2_errs K), (16, e_gateref2_SignerOf K), (17, e_gatelaw2_when K), (18, e_gateref2_UncoveredOf K), (19, e_slices_Equal_api_Window K), (20, e_gatelaw2_signed K)])) rfl rfl rfl (cutsOK_none (by rfl)) (q_gatelaw2_SignersSign_0 K)
theorem q_gatelaw2_SignersSign (K : Nat) (ds : List D) : evFn (T_gatelaw2_SignersSign K) Try.f3 (.seq .go (.seq .go (.seq .go (.seq .go (.seq (.seq .go (.cut 0)) (.seq .go (.seq .go (.seq .go (.seq .go (.seq .go (.seq .go (.seq (.seq .go (.cut 1)) (.seq .go (.seq .go (.seq (.seq .go (.cut 2)) .go))))))))))))))) (e_gatelaw2_SignersSign K) ds = (e_gatelaw2_SignersSign K).f ds := by kernel_rfl
theorem ok_gatelaw2_SignersSign (K : Nat) : FnOK Try.prog T0 3 (e_gatelaw2_SignersSign K) :=
  fn_thm (T0 := T0) (T := T_gatelaw2_SignersSign K) rfl (hT_of hT0 rfl rfl rfl) (hes_ok (T0 := T0) (T := T_gatelaw2_SignersSign K) rfl rfl (⟨ok_gatemake_Stream_Signers K, ok_gatemake_Stream_Moment K, ok_gatemake_Stream_Pick K, ok_gatemake_Stream_Flip K, ok_gatemake_Stream_Odd K, ok_token_SignerAt K, ok_token_Uncovered K, ok_gateref2_SignersFault K, ok_token_CheckSigners K, ok_gatelaw2_momentFault K, ok_gatelaw2_errs K, ok_gateref2_SignerOf K, ok_gatelaw2_when K, ok_gateref2_UncoveredOf K, ok_slices_Equal_api_Window K, ok_gatelaw2_signed K, trivial⟩ : FAll Try.prog T0 [(5, e_gatemake_Stream_Signers K), (6, e_gatemake_Stream_Moment K), (7, e_gatemake_Stream_Pick K), (8, e_gatemake_Stream_Flip K), (9, e_gatemake_Stream_Odd K), (10, e_token_SignerAt K), (11, e_token_Uncovered K), (12, e_gateref2_SignersFault K), (13, e_token_CheckSigners K), (15, e_gatelaw2_momentFault K), (14, e_gatelaw2_errs K), (16, e_gateref2_SignerOf K), (17, e_gatelaw2_when K), (18, e_gateref2_UncoveredOf K), (19, e_slices_Equal_api_Window K), (20, e_gatelaw2_signed K)])) Try.func3 (by decide) rfl (Nat.le_of_ble_eq_true rfl) rfl rfl rfl (tot_none rfl) (cutsOK_list (l := [(0, sub (codeOf Try.f3) [1, 1, 1, 1, 0, 1]), (1, sub (codeOf Try.f3) [1, 1, 1, 1, 1, 1, 1, 1, 1, 1, 1, 0, 1]), (2, sub (codeOf Try.f3) [1, 1, 1, 1, 1, 1, 1, 1, 1, 1, 1, 1, 1, 1, 0, 1])]) (by kernel_rfl) ⟨cut_one (u := c_gatelaw2_SignersSign_0 K) rfl (k_gatelaw2_SignersSign_0 K), cut_one (u := c_gatelaw2_SignersSign_1 K) rfl (k_gatelaw2_SignersSign_1 K), cut_one (u := c_gatelaw2_SignersSign_2 K) rfl (k_gatelaw2_SignersSign_2 K), trivial⟩) (q_gatelaw2_SignersSign K)
end Go.Proofs.YtkknmomoomjofaaP
