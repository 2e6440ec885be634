/- Printed by gen.py. -/
import Derived.Test.YtpmkecjkbajcgaaGreatDoorProg
import Derived.Test.YtpmkecjkbajcgaaGreatDoorEvKit
import Derived.Test.YtpmkecjkbajcgaaGreatDoorEvClear
import Derived.Test.YtpmkecjkbajcgaaGreatDoorEvFlat
import Derived.Test.YtpmkecjkbajcgaaGreatDoorEvClone
import Derived.Shelf.Slices.Cells
import Derived.Shelf.Slices.In.SortAlone
import Derived.Shelf.Slices.In.SortNone
import Derived.Shelf.Strings.Count
import Derived.Shelf.Strings.Repeat
import Derived.Shelf.Strings.Search3
import Derived.Test.YtpmkecjkbajcgaaGreatDoorEvCompS
import Derived.Test.YtpmkecjkbajcgaaGreatDoorEvSort
namespace Go.Proofs.YtpmkecjkbajcgaaGreatDoorP
open Go Go.Ev Go.RowKit Go.Shelf
set_option linter.unusedVariables false
def tys : List (Nat × K) := [(3, .int .i64), (4, .bool), (5, .int .u8), (9, .str), (22, .slice 3 (.int .i64)), (23, .ptr), (25, .pair 22 (.slice 3 (.int .i64)) (.pair 3 (.int .i64) .unit)), (26, .slice 9 .str), (28, .int .i64), (42, .pair 9 .str (.pair 9 .str (.pair 9 .str (.pair 9 .str (.pair 26 (.slice 9 .str) (.pair 26 (.slice 9 .str) (.pair 3 (.int .i64) (.pair 3 (.int .i64) .unit)))))))), (48, .pair 3 (.int .i64) (.pair 3 (.int .i64) .unit)), (52, .slice 42 (.pair 9 .str (.pair 9 .str (.pair 9 .str (.pair 9 .str (.pair 26 (.slice 9 .str) (.pair 26 (.slice 9 .str) (.pair 3 (.int .i64) (.pair 3 (.int .i64) .unit))))))))), (68, .slice 28 (.int .i64)), (74, .slice 26 (.slice 9 .str)), (76, .pair 9 .str (.pair 9 .str (.pair 9 .str (.pair 9 .str .unit)))), (99, .int .u64), (101, .slice 5 (.int .u8))]
def T0 : Tbl := { kd := lk tys, boolT := 4, intT := 3, byteT := 5, frz := fun _ => false, ents := fun _ => [], cuts := fun _ => none, arr := memN [76] }
theorem ty3 : TyOK Tryz.prog (lk tys) 3 (.int .i64) :=
  tyOK (z := .int .i64 0) (n := 1) (by kernel_rfl) rfl rfl rfl Tryz.underlying3 rfl (fun _ h => by cases h)
theorem ty4 : TyOK Tryz.prog (lk tys) 4 .bool :=
  tyOK (z := .bool false) (n := 1) (by kernel_rfl) rfl rfl rfl Tryz.underlying4 rfl (fun _ h => by cases h)
theorem ty5 : TyOK Tryz.prog (lk tys) 5 (.int .u8) :=
  tyOK (z := .int .u8 0) (n := 1) (by kernel_rfl) rfl rfl rfl Tryz.underlying5 rfl (fun _ h => by cases h)
theorem ty9 : TyOK Tryz.prog (lk tys) 9 .str :=
  tyOK (z := .string ⟨#[]⟩) (n := 1) (by kernel_rfl) rfl rfl rfl Tryz.underlying9 rfl (fun _ h => by cases h)
theorem ty22 : TyOK Tryz.prog (lk tys) 22 (.slice 3 (.int .i64)) :=
  tyOK (z := .slice none 0 0) (n := 1) (by kernel_rfl) rfl rfl rfl Tryz.underlying22 ⟨_, rfl, rfl⟩ (fun _ h => by cases h)
theorem ty23 : TyOK Tryz.prog (lk tys) 23 .ptr :=
  tyOK (z := .pointer none) (n := 1) (by kernel_rfl) rfl rfl rfl Tryz.underlying23 (.inl rfl) (fun _ h => by cases h)
theorem ty25 : TyOK Tryz.prog (lk tys) 25 (.pair 22 (.slice 3 (.int .i64)) (.pair 3 (.int .i64) .unit)) :=
  tyOK (z := .agg #[.slice none 0 0, .int .i64 0]) (n := 2) (by kernel_rfl) rfl ⟨[.slice none 0 0], [.int .i64 0], rfl, rfl, ⟨[.int .i64 0], [], rfl, rfl, rfl⟩⟩ rfl Tryz.underlying25 ⟨⟨rfl, rfl, rfl, by decide, ⟨rfl, rfl, rfl, by decide, rfl⟩⟩, rfl⟩ (fun h => by cases h)
theorem ty26 : TyOK Tryz.prog (lk tys) 26 (.slice 9 .str) :=
  tyOK (z := .slice none 0 0) (n := 1) (by kernel_rfl) rfl rfl rfl Tryz.underlying26 ⟨_, rfl, rfl⟩ (fun _ h => by cases h)
theorem ty28 : TyOK Tryz.prog (lk tys) 28 (.int .i64) :=
  tyOK (z := .int .i64 0) (n := 1) (by kernel_rfl) rfl rfl rfl Tryz.underlying28 rfl (fun _ h => by cases h)
theorem ty42 : TyOK Tryz.prog (lk tys) 42 (.pair 9 .str (.pair 9 .str (.pair 9 .str (.pair 9 .str (.pair 26 (.slice 9 .str) (.pair 26 (.slice 9 .str) (.pair 3 (.int .i64) (.pair 3 (.int .i64) .unit)))))))) :=
  tyOK (z := .agg #[.string ⟨#[]⟩, .string ⟨#[]⟩, .string ⟨#[]⟩, .string ⟨#[]⟩, .slice none 0 0, .slice none 0 0, .int .i64 0, .int .i64 0]) (n := 8) (by kernel_rfl) rfl ⟨[.string ⟨#[]⟩], [.string ⟨#[]⟩, .string ⟨#[]⟩, .string ⟨#[]⟩, .slice none 0 0, .slice none 0 0, .int .i64 0, .int .i64 0], rfl, rfl, ⟨[.string ⟨#[]⟩], [.string ⟨#[]⟩, .string ⟨#[]⟩, .slice none 0 0, .slice none 0 0, .int .i64 0, .int .i64 0], rfl, rfl, ⟨[.string ⟨#[]⟩], [.string ⟨#[]⟩, .slice none 0 0, .slice none 0 0, .int .i64 0, .int .i64 0], rfl, rfl, ⟨[.string ⟨#[]⟩], [.slice none 0 0, .slice none 0 0, .int .i64 0, .int .i64 0], rfl, rfl, ⟨[.slice none 0 0], [.slice none 0 0, .int .i64 0, .int .i64 0], rfl, rfl, ⟨[.slice none 0 0], [.int .i64 0, .int .i64 0], rfl, rfl, ⟨[.int .i64 0], [.int .i64 0], rfl, rfl, ⟨[.int .i64 0], [], rfl, rfl, rfl⟩⟩⟩⟩⟩⟩⟩⟩ rfl Tryz.underlying42 ⟨⟨rfl, rfl, rfl, by decide, ⟨rfl, rfl, rfl, by decide, ⟨rfl, rfl, rfl, by decide, ⟨rfl, rfl, rfl, by decide, ⟨rfl, rfl, rfl, by decide, ⟨rfl, rfl, rfl, by decide, ⟨rfl, rfl, rfl, by decide, ⟨rfl, rfl, rfl, by decide, rfl⟩⟩⟩⟩⟩⟩⟩⟩, rfl⟩ (fun h => by cases h)
theorem ty48 : TyOK Tryz.prog (lk tys) 48 (.pair 3 (.int .i64) (.pair 3 (.int .i64) .unit)) :=
  tyOK (z := .agg #[.int .i64 0, .int .i64 0]) (n := 2) (by kernel_rfl) rfl ⟨[.int .i64 0], [.int .i64 0], rfl, rfl, ⟨[.int .i64 0], [], rfl, rfl, rfl⟩⟩ rfl Tryz.underlying48 ⟨⟨rfl, rfl, rfl, by decide, ⟨rfl, rfl, rfl, by decide, rfl⟩⟩, rfl⟩ (fun _ _ => ⟨by kernel_rfl, by kernel_rfl⟩)
theorem ty52 : TyOK Tryz.prog (lk tys) 52 (.slice 42 (.pair 9 .str (.pair 9 .str (.pair 9 .str (.pair 9 .str (.pair 26 (.slice 9 .str) (.pair 26 (.slice 9 .str) (.pair 3 (.int .i64) (.pair 3 (.int .i64) .unit))))))))) :=
  tyOK (z := .slice none 0 0) (n := 1) (by kernel_rfl) rfl rfl rfl Tryz.underlying52 ⟨_, rfl, rfl⟩ (fun _ h => by cases h)
theorem ty68 : TyOK Tryz.prog (lk tys) 68 (.slice 28 (.int .i64)) :=
  tyOK (z := .slice none 0 0) (n := 1) (by kernel_rfl) rfl rfl rfl Tryz.underlying68 ⟨_, rfl, rfl⟩ (fun _ h => by cases h)
theorem ty74 : TyOK Tryz.prog (lk tys) 74 (.slice 26 (.slice 9 .str)) :=
  tyOK (z := .slice none 0 0) (n := 1) (by kernel_rfl) rfl rfl rfl Tryz.underlying74 ⟨_, rfl, rfl⟩ (fun _ h => by cases h)
theorem ty76 : TyOK Tryz.prog (lk tys) 76 (.pair 9 .str (.pair 9 .str (.pair 9 .str (.pair 9 .str .unit)))) :=
  tyOK (z := .agg #[.string ⟨#[]⟩, .string ⟨#[]⟩, .string ⟨#[]⟩, .string ⟨#[]⟩]) (n := 4) (by kernel_rfl) rfl ⟨[.string ⟨#[]⟩], [.string ⟨#[]⟩, .string ⟨#[]⟩, .string ⟨#[]⟩], rfl, rfl, ⟨[.string ⟨#[]⟩], [.string ⟨#[]⟩, .string ⟨#[]⟩], rfl, rfl, ⟨[.string ⟨#[]⟩], [.string ⟨#[]⟩], rfl, rfl, ⟨[.string ⟨#[]⟩], [], rfl, rfl, rfl⟩⟩⟩⟩ rfl Tryz.underlying76 ⟨_, rfl, rfl, trivial⟩ (fun _ _ => ⟨by kernel_rfl, by kernel_rfl⟩)
theorem ty99 : TyOK Tryz.prog (lk tys) 99 (.int .u64) :=
  tyOK (z := .int .u64 0) (n := 1) (by kernel_rfl) rfl rfl rfl Tryz.underlying99 rfl (fun _ h => by cases h)
theorem ty101 : TyOK Tryz.prog (lk tys) 101 (.slice 5 (.int .u8)) :=
  tyOK (z := .slice none 0 0) (n := 1) (by kernel_rfl) rfl rfl rfl Tryz.underlying101 ⟨_, rfl, rfl⟩ (fun _ h => by cases h)
theorem hT0 : TblOK Tryz.prog T0 :=
  ⟨AllTy.get (l := tys) ⟨ty3, ty4, ty5, ty9, ty22, ty23, ty25, ty26, ty28, ty42, ty48, ty52, ty68, ty74, ty76, ty99, ty101, trivial⟩, rfl, rfl, by kernel_rfl, arrs_ok (by kernel_rfl)⟩
/-! ### 60 gatewarden/gatemake.Below -/
def f_gatemake_Below (K : Nat) (x n : D) : Option (List D) :=
  bif (ltI n.int 1) then
    some [D.i 0]
  else
    bif (!(eqI n.int 0)) then
      bif (ltI (Int.tmod x.int n.int) 0) then
        some [D.i (IntKind.i64.wrap ((Int.tmod x.int n.int) + n.int))]
      else
        some [D.i (Int.tmod x.int n.int)]
    else
      none
def e_gatemake_Below (K : Nat) : Entry := { n := 2, sh := { sl := [(0, .d 3 false), (1, .d 3 false)], ob := [] }, kept := [], rs := [{ sl := [(0, .d 3 true)], ob := [] }], f := fun ds => f_gatemake_Below K (D.nth ds 0) (D.nth ds 1), tot := none }
def T_gatemake_Below (K : Nat) : Tbl := { T0 with ents := entsOf [], cuts := lk [] }
theorem q_gatemake_Below (K : Nat) (ds : List D) : evFn (T_gatemake_Below K) Tryz.f60 .go (e_gatemake_Below K) ds = (e_gatemake_Below K).f ds := by kernel_rfl
theorem ok_gatemake_Below (K : Nat) : FnOK Tryz.prog T0 60 (e_gatemake_Below K) :=
  fn_thm (T0 := T0) (T := T_gatemake_Below K) rfl (hT_of hT0 rfl rfl rfl) (hes_ok (T0 := T0) (T := T_gatemake_Below K) rfl rfl (trivial : FAll Tryz.prog T0 [])) Tryz.func60 (by decide) rfl (Nat.le_of_ble_eq_true rfl) rfl rfl rfl (tot_none rfl) (cutsOK_none (by rfl)) (q_gatemake_Below K)
/-! ### 26 (*gatewarden/gatemake.Stream).Next -/
def f_gatemake_Stream_Next (K : Nat) (n o0 : D) : Option (List D) :=
  bif ((((o0.at' 0).list).length : Int) == (0 : Int)) then
    (f_gatemake_Below K (D.i (IntKind.i64.wrap ((IntKind.i64.wrap (((o0.at' 1).int) + (1 : Int))) * (7919 : Int)))) n).bind fun t1 =>
    some [D.nth t1 0, D.n [o0.at' 0, D.i (IntKind.i64.wrap (((o0.at' 1).int) + (1 : Int)))]]
  else
    bif (!(eqI (((o0.at' 0).list).length : Int) 0)) then
      bif (!(eqI (((o0.at' 0).list).length : Int) 0)) then
        bif (inB (Int.tmod (IntKind.i64.wrap ((IntKind.i64.wrap (((o0.at' 1).int) + (1 : Int))) - (1 : Int))) (((o0.at' 0).list).length : Int)) (((o0.at' 0).list).length)) then
          (f_gatemake_Below K (D.nth ((o0.at' 0).list) ((Int.tmod (IntKind.i64.wrap ((IntKind.i64.wrap (((o0.at' 1).int) + (1 : Int))) - (1 : Int))) (((o0.at' 0).list).length : Int)).toNat)) (D.i 1073741824)).bind fun t2 =>
          (f_gatemake_Below K (D.i (IntKind.i64.wrap (((D.nth t2 0).int) + (IntKind.i64.wrap ((IntKind.i64.wrap (Int.tdiv (IntKind.i64.wrap ((IntKind.i64.wrap (((o0.at' 1).int) + (1 : Int))) - (1 : Int))) (((o0.at' 0).list).length : Int))) * (IntKind.i64.wrap ((7919 : Int) + (Int.tmod (IntKind.i64.wrap ((IntKind.i64.wrap (((o0.at' 1).int) + (1 : Int))) - (1 : Int))) (((o0.at' 0).list).length : Int))))))))) n).bind fun t3 =>
          some [D.nth t3 0, D.n [o0.at' 0, D.i (IntKind.i64.wrap (((o0.at' 1).int) + (1 : Int)))]]
        else
          none
      else
        none
    else
      none
def e_gatemake_Stream_Next (K : Nat) : Entry := { n := 2, sh := { sl := [(0, .ptr 25 0 []), (1, .d 3 false)], ob := [(0, .box 25 (.d 25 false))] }, kept := [0], rs := [{ sl := [(0, .d 3 true)], ob := [(0, .box 25 (.d 25 false))] }], f := fun ds => f_gatemake_Stream_Next K (D.nth ds 0) (D.nth ds 1), tot := none }
def T_gatemake_Stream_Next (K : Nat) : Tbl := { T0 with ents := entsOf [(60, e_gatemake_Below K)], cuts := lk [] }
theorem q_gatemake_Stream_Next (K : Nat) (ds : List D) : evFn (T_gatemake_Stream_Next K) Tryz.f26 .go (e_gatemake_Stream_Next K) ds = (e_gatemake_Stream_Next K).f ds := by kernel_rfl
theorem ok_gatemake_Stream_Next (K : Nat) : FnOK Tryz.prog T0 26 (e_gatemake_Stream_Next K) :=
  fn_thm (T0 := T0) (T := T_gatemake_Stream_Next K) rfl (hT_of hT0 rfl rfl rfl) (hes_ok (T0 := T0) (T := T_gatemake_Stream_Next K) rfl rfl (⟨ok_gatemake_Below K, trivial⟩ : FAll Tryz.prog T0 [(60, e_gatemake_Below K)])) Tryz.func26 (by decide) rfl (Nat.le_of_ble_eq_true rfl) rfl rfl rfl (tot_none rfl) (cutsOK_none (by rfl)) (q_gatemake_Stream_Next K)
/-! ### 19 (*gatewarden/gatemake.Stream).Some -/
def f_gatemake_Stream_Some (K : Nat) (o0 r1 : D) : Option (List D) :=
  (f_gatemake_Stream_Next K (D.i (r1.list.length : Int)) o0).bind fun t1 =>
  bif (inB ((D.nth t1 0).int) r1.list.length) then
    some [D.nth r1.list (((D.nth t1 0).int).toNat), D.nth t1 1, D.n r1.list]
  else
    none
def e_gatemake_Stream_Some (K : Nat) : Entry := { n := 2, sh := { sl := [(0, .ptr 25 0 []), (1, .own 26 1)], ob := [(0, .box 25 (.d 25 false)), (1, .row 9 true)] }, kept := [0, 1], rs := [{ sl := [(0, .d 9 true)], ob := [(0, .box 25 (.d 25 false)), (1, .row 9 true)] }], f := fun ds => f_gatemake_Stream_Some K (D.nth ds 0) (D.nth ds 1), tot := none }
def T_gatemake_Stream_Some (K : Nat) : Tbl := { T0 with ents := entsOf [(26, e_gatemake_Stream_Next K)], cuts := lk [] }
theorem q_gatemake_Stream_Some (K : Nat) (ds : List D) : evFn (T_gatemake_Stream_Some K) Tryz.f19 .go (e_gatemake_Stream_Some K) ds = (e_gatemake_Stream_Some K).f ds := by kernel_rfl
theorem ok_gatemake_Stream_Some (K : Nat) : FnOK Tryz.prog T0 19 (e_gatemake_Stream_Some K) :=
  fn_thm (T0 := T0) (T := T_gatemake_Stream_Some K) rfl (hT_of hT0 rfl rfl rfl) (hes_ok (T0 := T0) (T := T_gatemake_Stream_Some K) rfl rfl (⟨ok_gatemake_Stream_Next K, trivial⟩ : FAll Tryz.prog T0 [(26, e_gatemake_Stream_Next K)])) Tryz.func19 (by decide) rfl (Nat.le_of_ble_eq_true rfl) rfl rfl rfl (tot_none rfl) (cutsOK_none (by rfl)) (q_gatemake_Stream_Some K)
/-! ### 25 (*gatewarden/gatemake.Stream).Range -/
def f_gatemake_Stream_Range (K : Nat) (low high o0 : D) : Option (List D) :=
  bif (ltI high.int low.int) then
    some [low, o0]
  else
    (f_gatemake_Stream_Next K (D.i (IntKind.i64.wrap ((IntKind.i64.wrap (high.int - low.int)) + (1 : Int)))) o0).bind fun t1 =>
    some [D.i (IntKind.i64.wrap (low.int + ((D.nth t1 0).int))), D.nth t1 1]
def e_gatemake_Stream_Range (K : Nat) : Entry := { n := 3, sh := { sl := [(0, .ptr 25 0 []), (1, .d 3 false), (2, .d 3 false)], ob := [(0, .box 25 (.d 25 false))] }, kept := [0], rs := [{ sl := [(0, .d 3 true)], ob := [(0, .box 25 (.d 25 false))] }], f := fun ds => f_gatemake_Stream_Range K (D.nth ds 0) (D.nth ds 1) (D.nth ds 2), tot := none }
def T_gatemake_Stream_Range (K : Nat) : Tbl := { T0 with ents := entsOf [(26, e_gatemake_Stream_Next K)], cuts := lk [] }
theorem q_gatemake_Stream_Range (K : Nat) (ds : List D) : evFn (T_gatemake_Stream_Range K) Tryz.f25 .go (e_gatemake_Stream_Range K) ds = (e_gatemake_Stream_Range K).f ds := by kernel_rfl
theorem ok_gatemake_Stream_Range (K : Nat) : FnOK Tryz.prog T0 25 (e_gatemake_Stream_Range K) :=
  fn_thm (T0 := T0) (T := T_gatemake_Stream_Range K) rfl (hT_of hT0 rfl rfl rfl) (hes_ok (T0 := T0) (T := T_gatemake_Stream_Range K) rfl rfl (⟨ok_gatemake_Stream_Next K, trivial⟩ : FAll Tryz.prog T0 [(26, e_gatemake_Stream_Next K)])) Tryz.func25 (by decide) rfl (Nat.le_of_ble_eq_true rfl) rfl rfl rfl (tot_none rfl) (cutsOK_none (by rfl)) (q_gatemake_Stream_Range K)
/-! ### 36 (*gatewarden/gatemake.Stream).RightScopes -/
def b_gatemake_Stream_RightScopes_0 (K : Nat) (rec : List D → Option (Nat × List D)) (ds : List D) : Option (Nat × List D) :=
  let s5 := D.nth ds 0
  let s6 := D.nth ds 1
  let o0 := D.nth ds 2
  let r1 := D.nth ds 3
  bif (ltI s6.int s5.int) then
    (f_gatemake_Stream_Some K o0 (D.n [D.s [97], D.s [97, 58, 42], D.s [97, 58, 98], D.s [97, 58, 98, 58, 42], D.s [97, 58, 98, 58, 99], D.s [98], D.s [98, 58, 42], D.s [98, 58, 99], D.s [42]])).bind fun t2 =>
    bif (lim (r1.list.length + 1)) then
      rec [s5, D.i (IntKind.i64.wrap (s6.int + (1 : Int))), D.nth t2 1, D.n (r1.list ++ [D.nth t2 0])]
    else
      none
  else
    some (0, [o0, D.n r1.list])
def c_gatemake_Stream_RightScopes_0 (K : Nat) : Cut := { sh := { sl := [(0, .ptr 25 0 []), (3, .own 26 1), (5, .d 3 true), (6, .d 3 true)], ob := [(0, .box 25 (.d 25 false)), (1, .row 9 true)] }, kept := [0], outs := [(.exit 0, { sl := [(3, .own 26 1)], ob := [(0, .box 25 (.d 25 false)), (1, .row 9 true)] })], f := fun ds => fixN (b_gatemake_Stream_RightScopes_0 K) K ds }
def f_gatemake_Stream_RightScopes (K : Nat) (o0 : D) : Option (List D) :=
  (f_gatemake_Stream_Range K (D.i 0) (D.i 4) o0).bind fun t1 =>
  (fixN (b_gatemake_Stream_RightScopes_0 K) K [D.nth t1 0, D.i 0, D.nth t1 1, D.n []]).bind fun t2 =>
  some [D.nth t2.2 0, D.n ((D.nth t2.2 1).list)]
def e_gatemake_Stream_RightScopes (K : Nat) : Entry := { n := 1, sh := { sl := [(0, .ptr 25 0 [])], ob := [(0, .box 25 (.d 25 false))] }, kept := [0], rs := [{ sl := [(0, .own 26 1)], ob := [(0, .box 25 (.d 25 false)), (1, .row 9 true)] }], f := fun ds => f_gatemake_Stream_RightScopes K (D.nth ds 0), tot := none }
def T_gatemake_Stream_RightScopes (K : Nat) : Tbl := { T0 with ents := entsOf [(25, e_gatemake_Stream_Range K), (19, e_gatemake_Stream_Some K)], cuts := lk [(0, c_gatemake_Stream_RightScopes_0 K)] }
theorem q_gatemake_Stream_RightScopes_0 (K : Nat) (rec : List D → Option (Nat × List D)) (ds : List D) : evLoop (T_gatemake_Stream_RightScopes K) 16 (sub (codeOf Tryz.f36) [1, 1, 0, 1, 0, 0]) .go (c_gatemake_Stream_RightScopes_0 K) rec ds = b_gatemake_Stream_RightScopes_0 K rec ds := by kernel_rfl
theorem k_gatemake_Stream_RightScopes_0 (K : Nat) : CutOK Tryz.prog (T_gatemake_Stream_RightScopes K) 16 (sub (codeOf Tryz.f36) [1, 1, 0, 1, 0]) (c_gatemake_Stream_RightScopes_0 K) :=
  loop_thm (T := T_gatemake_Stream_RightScopes K) (hT_of hT0 rfl rfl rfl) (hes_ok (T0 := T0) (T := T_gatemake_Stream_RightScopes K) rfl rfl (⟨ok_gatemake_Stream_Range K, ok_gatemake_Stream_Some K, trivial⟩ : FAll Tryz.prog T0 [(25, e_gatemake_Stream_Range K), (19, e_gatemake_Stream_Some K)])) (by kernel_rfl) rfl rfl rfl (cutsOK_none (by rfl)) rfl (q_gatemake_Stream_RightScopes_0 K)
theorem q_gatemake_Stream_RightScopes (K : Nat) (ds : List D) : evFn (T_gatemake_Stream_RightScopes K) Tryz.f36 (.seq .go (.seq .go (.seq (.seq .go (.blk (.cut 0))) .go))) (e_gatemake_Stream_RightScopes K) ds = (e_gatemake_Stream_RightScopes K).f ds := by kernel_rfl
theorem ok_gatemake_Stream_RightScopes (K : Nat) : FnOK Tryz.prog T0 36 (e_gatemake_Stream_RightScopes K) :=
  fn_thm (T0 := T0) (T := T_gatemake_Stream_RightScopes K) rfl (hT_of hT0 rfl rfl rfl) (hes_ok (T0 := T0) (T := T_gatemake_Stream_RightScopes K) rfl rfl (⟨ok_gatemake_Stream_Range K, ok_gatemake_Stream_Some K, trivial⟩ : FAll Tryz.prog T0 [(25, e_gatemake_Stream_Range K), (19, e_gatemake_Stream_Some K)])) Tryz.func36 (by decide) rfl (Nat.le_of_ble_eq_true rfl) rfl rfl rfl (tot_none rfl) (cutsOK_list (l := [(0, sub (codeOf Tryz.f36) [1, 1, 0, 1, 0])]) (by kernel_rfl) ⟨cut_one (u := c_gatemake_Stream_RightScopes_0 K) rfl (k_gatemake_Stream_RightScopes_0 K), trivial⟩) (q_gatemake_Stream_RightScopes K)
/-! ### 148 internal/stringslite.HasSuffix -/
def f_stringslite_HasSuffix (K : Nat) (s suffix : D) : Option (List D) :=
  bif ((!(geI (s.str.length : Int) (suffix.str.length : Int))) || (inB (IntKind.i64.wrap ((s.str.length : Int) - (suffix.str.length : Int))) (s.str.length + 1))) then
    some [D.b (bif (geI (s.str.length : Int) (suffix.str.length : Int)) then ((s.str.drop ((IntKind.i64.wrap ((s.str.length : Int) - (suffix.str.length : Int))).toNat)) == suffix.str) else false)]
  else
    none
def e_stringslite_HasSuffix (K : Nat) : Entry := { n := 2, sh := { sl := [(0, .d 9 false), (1, .d 9 false)], ob := [] }, kept := [], rs := [{ sl := [(0, .d 4 true)], ob := [] }], f := fun ds => f_stringslite_HasSuffix K (D.nth ds 0) (D.nth ds 1), tot := none }
def T_stringslite_HasSuffix (K : Nat) : Tbl := { T0 with ents := entsOf [], cuts := lk [] }
theorem q_stringslite_HasSuffix (K : Nat) (ds : List D) : evFn (T_stringslite_HasSuffix K) Tryz.f148 .go (e_stringslite_HasSuffix K) ds = (e_stringslite_HasSuffix K).f ds := by kernel_rfl
theorem ok_stringslite_HasSuffix (K : Nat) : FnOK Tryz.prog T0 148 (e_stringslite_HasSuffix K) :=
  fn_thm (T0 := T0) (T := T_stringslite_HasSuffix K) rfl (hT_of hT0 rfl rfl rfl) (hes_ok (T0 := T0) (T := T_stringslite_HasSuffix K) rfl rfl (trivial : FAll Tryz.prog T0 [])) Tryz.func148 (by decide) rfl (Nat.le_of_ble_eq_true rfl) rfl rfl rfl (tot_none rfl) (cutsOK_none (by rfl)) (q_stringslite_HasSuffix K)
/-! ### 118 internal/stringslite.CutSuffix -/
def f_stringslite_CutSuffix (K : Nat) (s suffix : D) : Option (List D) :=
  (f_stringslite_HasSuffix K s suffix).bind fun t1 =>
  bif (!((D.nth t1 0).bool)) then
    some [s, D.b false]
  else
    bif (inB (IntKind.i64.wrap ((s.str.length : Int) - (suffix.str.length : Int))) (s.str.length + 1)) then
      some [D.s (s.str.take ((IntKind.i64.wrap ((s.str.length : Int) - (suffix.str.length : Int))).toNat)), D.b true]
    else
      none
def e_stringslite_CutSuffix (K : Nat) : Entry := { n := 2, sh := { sl := [(0, .d 9 false), (1, .d 9 false)], ob := [] }, kept := [], rs := [{ sl := [(0, .tup [.d 9 true, .d 4 true])], ob := [] }], f := fun ds => f_stringslite_CutSuffix K (D.nth ds 0) (D.nth ds 1), tot := none }
def T_stringslite_CutSuffix (K : Nat) : Tbl := { T0 with ents := entsOf [(148, e_stringslite_HasSuffix K)], cuts := lk [] }
theorem q_stringslite_CutSuffix (K : Nat) (ds : List D) : evFn (T_stringslite_CutSuffix K) Tryz.f118 .go (e_stringslite_CutSuffix K) ds = (e_stringslite_CutSuffix K).f ds := by kernel_rfl
theorem ok_stringslite_CutSuffix (K : Nat) : FnOK Tryz.prog T0 118 (e_stringslite_CutSuffix K) :=
  fn_thm (T0 := T0) (T := T_stringslite_CutSuffix K) rfl (hT_of hT0 rfl rfl rfl) (hes_ok (T0 := T0) (T := T_stringslite_CutSuffix K) rfl rfl (⟨ok_stringslite_HasSuffix K, trivial⟩ : FAll Tryz.prog T0 [(148, e_stringslite_HasSuffix K)])) Tryz.func118 (by decide) rfl (Nat.le_of_ble_eq_true rfl) rfl rfl rfl (tot_none rfl) (cutsOK_none (by rfl)) (q_stringslite_CutSuffix K)
/-! ### 84 strings.CutSuffix -/
def f_strings_CutSuffix (K : Nat) (s suffix : D) : Option (List D) :=
  (f_stringslite_CutSuffix K s suffix).bind fun t1 =>
  some [D.nth t1 0, D.nth t1 1]
def e_strings_CutSuffix (K : Nat) : Entry := { n := 2, sh := { sl := [(0, .d 9 false), (1, .d 9 false)], ob := [] }, kept := [], rs := [{ sl := [(0, .tup [.d 9 true, .d 4 true])], ob := [] }], f := fun ds => f_strings_CutSuffix K (D.nth ds 0) (D.nth ds 1), tot := none }
def T_strings_CutSuffix (K : Nat) : Tbl := { T0 with ents := entsOf [(118, e_stringslite_CutSuffix K)], cuts := lk [] }
theorem q_strings_CutSuffix (K : Nat) (ds : List D) : evFn (T_strings_CutSuffix K) Tryz.f84 .go (e_strings_CutSuffix K) ds = (e_strings_CutSuffix K).f ds := by kernel_rfl
theorem ok_strings_CutSuffix (K : Nat) : FnOK Tryz.prog T0 84 (e_strings_CutSuffix K) :=
  fn_thm (T0 := T0) (T := T_strings_CutSuffix K) rfl (hT_of hT0 rfl rfl rfl) (hes_ok (T0 := T0) (T := T_strings_CutSuffix K) rfl rfl (⟨ok_stringslite_CutSuffix K, trivial⟩ : FAll Tryz.prog T0 [(118, e_stringslite_CutSuffix K)])) Tryz.func84 (by decide) rfl (Nat.le_of_ble_eq_true rfl) rfl rfl rfl (tot_none rfl) (cutsOK_none (by rfl)) (q_strings_CutSuffix K)
/-! ### 119 internal/stringslite.HasPrefix -/
def f_stringslite_HasPrefix (K : Nat) (s vprefix : D) : Option (List D) :=
  bif ((!(geI (s.str.length : Int) (vprefix.str.length : Int))) || (inB (vprefix.str.length : Int) (s.str.length + 1))) then
    some [D.b (bif (geI (s.str.length : Int) (vprefix.str.length : Int)) then ((s.str.take ((vprefix.str.length : Int).toNat)) == vprefix.str) else false)]
  else
    none
def e_stringslite_HasPrefix (K : Nat) : Entry := { n := 2, sh := { sl := [(0, .d 9 false), (1, .d 9 false)], ob := [] }, kept := [], rs := [{ sl := [(0, .d 4 true)], ob := [] }], f := fun ds => f_stringslite_HasPrefix K (D.nth ds 0) (D.nth ds 1), tot := none }
def T_stringslite_HasPrefix (K : Nat) : Tbl := { T0 with ents := entsOf [], cuts := lk [] }
theorem q_stringslite_HasPrefix (K : Nat) (ds : List D) : evFn (T_stringslite_HasPrefix K) Tryz.f119 .go (e_stringslite_HasPrefix K) ds = (e_stringslite_HasPrefix K).f ds := by kernel_rfl
theorem ok_stringslite_HasPrefix (K : Nat) : FnOK Tryz.prog T0 119 (e_stringslite_HasPrefix K) :=
  fn_thm (T0 := T0) (T := T_stringslite_HasPrefix K) rfl (hT_of hT0 rfl rfl rfl) (hes_ok (T0 := T0) (T := T_stringslite_HasPrefix K) rfl rfl (trivial : FAll Tryz.prog T0 [])) Tryz.func119 (by decide) rfl (Nat.le_of_ble_eq_true rfl) rfl rfl rfl (tot_none rfl) (cutsOK_none (by rfl)) (q_stringslite_HasPrefix K)
/-! ### 85 strings.HasPrefix -/
def f_strings_HasPrefix (K : Nat) (s vprefix : D) : Option (List D) :=
  (f_stringslite_HasPrefix K s vprefix).bind fun t1 =>
  some [D.nth t1 0]
def e_strings_HasPrefix (K : Nat) : Entry := { n := 2, sh := { sl := [(0, .d 9 false), (1, .d 9 false)], ob := [] }, kept := [], rs := [{ sl := [(0, .d 4 true)], ob := [] }], f := fun ds => f_strings_HasPrefix K (D.nth ds 0) (D.nth ds 1), tot := none }
def T_strings_HasPrefix (K : Nat) : Tbl := { T0 with ents := entsOf [(119, e_stringslite_HasPrefix K)], cuts := lk [] }
theorem q_strings_HasPrefix (K : Nat) (ds : List D) : evFn (T_strings_HasPrefix K) Tryz.f85 .go (e_strings_HasPrefix K) ds = (e_strings_HasPrefix K).f ds := by kernel_rfl
theorem ok_strings_HasPrefix (K : Nat) : FnOK Tryz.prog T0 85 (e_strings_HasPrefix K) :=
  fn_thm (T0 := T0) (T := T_strings_HasPrefix K) rfl (hT_of hT0 rfl rfl rfl) (hes_ok (T0 := T0) (T := T_strings_HasPrefix K) rfl rfl (⟨ok_stringslite_HasPrefix K, trivial⟩ : FAll Tryz.prog T0 [(119, e_stringslite_HasPrefix K)])) Tryz.func85 (by decide) rfl (Nat.le_of_ble_eq_true rfl) rfl rfl rfl (tot_none rfl) (cutsOK_none (by rfl)) (q_strings_HasPrefix K)
/-! ### 48 gatewarden/gateref2.over -/
def f_gateref2_over (K : Nat) (a b : D) : Option (List D) :=
  (f_strings_CutSuffix K a (D.s [42])).bind fun t1 =>
  bif (D.nth t1 1).bool then
    (f_strings_HasPrefix K b (D.nth t1 0)).bind fun t2 =>
    some [D.nth t2 0]
  else
    some [D.b (a.str == b.str)]
def e_gateref2_over (K : Nat) : Entry := { n := 2, sh := { sl := [(0, .d 9 false), (1, .d 9 false)], ob := [] }, kept := [], rs := [{ sl := [(0, .d 4 true)], ob := [] }], f := fun ds => f_gateref2_over K (D.nth ds 0) (D.nth ds 1), tot := none }
def T_gateref2_over (K : Nat) : Tbl := { T0 with ents := entsOf [(84, e_strings_CutSuffix K), (85, e_strings_HasPrefix K)], cuts := lk [] }
theorem q_gateref2_over (K : Nat) (ds : List D) : evFn (T_gateref2_over K) Tryz.f48 .go (e_gateref2_over K) ds = (e_gateref2_over K).f ds := by kernel_rfl
theorem ok_gateref2_over (K : Nat) : FnOK Tryz.prog T0 48 (e_gateref2_over K) :=
  fn_thm (T0 := T0) (T := T_gateref2_over K) rfl (hT_of hT0 rfl rfl rfl) (hes_ok (T0 := T0) (T := T_gateref2_over K) rfl rfl (⟨ok_strings_CutSuffix K, ok_strings_HasPrefix K, trivial⟩ : FAll Tryz.prog T0 [(84, e_strings_CutSuffix K), (85, e_strings_HasPrefix K)])) Tryz.func48 (by decide) rfl (Nat.le_of_ble_eq_true rfl) rfl rfl rfl (tot_none rfl) (cutsOK_none (by rfl)) (q_gateref2_over K)
/-! ### 47 gatewarden/gateref2.LeastOf$1 -/
def f_gateref2_LeastOf_f1 (K : Nat) (o o0 : D) : Option (List D) :=
  bif (!(o.str == o0.str)) then
    (f_gateref2_over K o o0).bind fun t1 =>
    some [D.b ((D.nth t1 0).bool), o0]
  else
    some [D.b false, o0]
def e_gateref2_LeastOf_f1 (K : Nat) : Entry := { n := 2, sh := { sl := [(0, .d 9 false), (1, .ptr 9 0 [])], ob := [(0, .box 9 (.d 9 false))] }, kept := [0], rs := [{ sl := [(0, .d 4 true)], ob := [(0, .box 9 (.d 9 true))] }], f := fun ds => f_gateref2_LeastOf_f1 K (D.nth ds 0) (D.nth ds 1), tot := none }
def T_gateref2_LeastOf_f1 (K : Nat) : Tbl := { T0 with ents := entsOf [(48, e_gateref2_over K)], cuts := lk [] }
theorem q_gateref2_LeastOf_f1 (K : Nat) (ds : List D) : evFn (T_gateref2_LeastOf_f1 K) Tryz.f47 .go (e_gateref2_LeastOf_f1 K) ds = (e_gateref2_LeastOf_f1 K).f ds := by kernel_rfl
theorem ok_gateref2_LeastOf_f1 (K : Nat) : FnOK Tryz.prog T0 47 (e_gateref2_LeastOf_f1 K) :=
  fn_thm (T0 := T0) (T := T_gateref2_LeastOf_f1 K) rfl (hT_of hT0 rfl rfl rfl) (hes_ok (T0 := T0) (T := T_gateref2_LeastOf_f1 K) rfl rfl (⟨ok_gateref2_over K, trivial⟩ : FAll Tryz.prog T0 [(48, e_gateref2_over K)])) Tryz.func47 (by decide) rfl (Nat.le_of_ble_eq_true rfl) rfl rfl rfl (tot_none rfl) (cutsOK_none (by rfl)) (q_gateref2_LeastOf_f1 K)
/-! ### 86 slices.IndexFunc[[]string,string] -/
def b_slices_IndexFunc_string_of_gateref2_LeastOf_f1_0 (K : Nat) (rec : List D → Option (Nat × List D)) (ds : List D) : Option (Nat × List D) :=
  let s := D.nth ds 0
  let s7 := D.nth ds 1
  let s8 := D.nth ds 2
  let o0 := D.nth ds 3
  bif (ltI s8.int s7.int) then
    bif (inB s8.int s.list.length) then
      (f_gateref2_LeastOf_f1 K (D.nth s.list s8.int.toNat) o0).bind fun t1 =>
      bif (D.nth t1 0).bool then
        some (0, [s8, D.nth t1 1])
      else
        rec [s, s7, D.i (IntKind.i64.wrap (s8.int + (1 : Int))), D.nth t1 1]
    else
      none
  else
    some (1, [o0])
def c_slices_IndexFunc_string_of_gateref2_LeastOf_f1_0 (K : Nat) : Cut := { sh := { sl := [(0, .d 26 false), (1, .fn 47 [.ptr 9 0 []]), (7, .d 3 true), (8, .d 3 true)], ob := [(0, .box 9 (.d 9 true))] }, kept := [0], outs := [(.ret, { sl := [(4, .d 3 true)], ob := [(0, .box 9 (.d 9 true))] }), (.exit 0, { sl := [], ob := [(0, .box 9 (.d 9 true))] })], f := fun ds => fixN (b_slices_IndexFunc_string_of_gateref2_LeastOf_f1_0 K) K ds }
def f_slices_IndexFunc_string_of_gateref2_LeastOf_f1 (K : Nat) (s o0 : D) : Option (List D) :=
  (fixN (b_slices_IndexFunc_string_of_gateref2_LeastOf_f1_0 K) K [s, D.i (s.list.length : Int), D.i 0, o0]).bind fun t1 =>
  bif (t1.1.beq 0) then
    some [D.nth t1.2 0, D.nth t1.2 1]
  else
    some [D.i (-1), D.nth t1.2 0]
def e_slices_IndexFunc_string_of_gateref2_LeastOf_f1 (K : Nat) : Entry := { n := 2, sh := { sl := [(0, .d 26 false), (1, .fn 47 [.ptr 9 0 []])], ob := [(0, .box 9 (.d 9 false))] }, kept := [0], rs := [{ sl := [(0, .d 3 true)], ob := [(0, .box 9 (.d 9 true))] }], f := fun ds => f_slices_IndexFunc_string_of_gateref2_LeastOf_f1 K (D.nth ds 0) (D.nth ds 1), tot := none }
def T_slices_IndexFunc_string_of_gateref2_LeastOf_f1 (K : Nat) : Tbl := { T0 with ents := entsOf [(47, e_gateref2_LeastOf_f1 K)], cuts := lk [(0, c_slices_IndexFunc_string_of_gateref2_LeastOf_f1_0 K)] }
theorem q_slices_IndexFunc_string_of_gateref2_LeastOf_f1_0 (K : Nat) (rec : List D → Option (Nat × List D)) (ds : List D) : evLoop (T_slices_IndexFunc_string_of_gateref2_LeastOf_f1 K) 19 (sub (codeOf Tryz.f86) [1, 0, 1, 0, 0]) .go (c_slices_IndexFunc_string_of_gateref2_LeastOf_f1_0 K) rec ds = b_slices_IndexFunc_string_of_gateref2_LeastOf_f1_0 K rec ds := by kernel_rfl
theorem k_slices_IndexFunc_string_of_gateref2_LeastOf_f1_0 (K : Nat) : CutOK Tryz.prog (T_slices_IndexFunc_string_of_gateref2_LeastOf_f1 K) 19 (sub (codeOf Tryz.f86) [1, 0, 1, 0]) (c_slices_IndexFunc_string_of_gateref2_LeastOf_f1_0 K) :=
  loop_thm (T := T_slices_IndexFunc_string_of_gateref2_LeastOf_f1 K) (hT_of hT0 rfl rfl rfl) (hes_ok (T0 := T0) (T := T_slices_IndexFunc_string_of_gateref2_LeastOf_f1 K) rfl rfl (⟨ok_gateref2_LeastOf_f1 K, trivial⟩ : FAll Tryz.prog T0 [(47, e_gateref2_LeastOf_f1 K)])) (by kernel_rfl) rfl rfl rfl (cutsOK_none (by rfl)) rfl (q_slices_IndexFunc_string_of_gateref2_LeastOf_f1_0 K)
theorem q_slices_IndexFunc_string_of_gateref2_LeastOf_f1 (K : Nat) (ds : List D) : evFn (T_slices_IndexFunc_string_of_gateref2_LeastOf_f1 K) Tryz.f86 (.seq .go (.seq (.seq .go (.blk (.cut 0))) .go)) (e_slices_IndexFunc_string_of_gateref2_LeastOf_f1 K) ds = (e_slices_IndexFunc_string_of_gateref2_LeastOf_f1 K).f ds := by kernel_rfl
theorem ok_slices_IndexFunc_string_of_gateref2_LeastOf_f1 (K : Nat) : FnOK Tryz.prog T0 86 (e_slices_IndexFunc_string_of_gateref2_LeastOf_f1 K) :=
  fn_thm (T0 := T0) (T := T_slices_IndexFunc_string_of_gateref2_LeastOf_f1 K) rfl (hT_of hT0 rfl rfl rfl) (hes_ok (T0 := T0) (T := T_slices_IndexFunc_string_of_gateref2_LeastOf_f1 K) rfl rfl (⟨ok_gateref2_LeastOf_f1 K, trivial⟩ : FAll Tryz.prog T0 [(47, e_gateref2_LeastOf_f1 K)])) Tryz.func86 (by decide) rfl (Nat.le_of_ble_eq_true rfl) rfl rfl rfl (tot_none rfl) (cutsOK_list (l := [(0, sub (codeOf Tryz.f86) [1, 0, 1, 0])]) (by kernel_rfl) ⟨cut_one (u := c_slices_IndexFunc_string_of_gateref2_LeastOf_f1_0 K) rfl (k_slices_IndexFunc_string_of_gateref2_LeastOf_f1_0 K), trivial⟩) (q_slices_IndexFunc_string_of_gateref2_LeastOf_f1 K)
/-! ### 44 slices.ContainsFunc[[]string,string] -/
def f_slices_ContainsFunc_string_of_gateref2_LeastOf_f1 (K : Nat) (s o0 : D) : Option (List D) :=
  (f_slices_IndexFunc_string_of_gateref2_LeastOf_f1 K s o0).bind fun t1 =>
  some [D.b (geI ((D.nth t1 0).int) 0), D.nth t1 1]
def e_slices_ContainsFunc_string_of_gateref2_LeastOf_f1 (K : Nat) : Entry := { n := 2, sh := { sl := [(0, .d 26 false), (1, .fn 47 [.ptr 9 0 []])], ob := [(0, .box 9 (.d 9 false))] }, kept := [0], rs := [{ sl := [(0, .d 4 true)], ob := [(0, .box 9 (.d 9 true))] }], f := fun ds => f_slices_ContainsFunc_string_of_gateref2_LeastOf_f1 K (D.nth ds 0) (D.nth ds 1), tot := none }
def T_slices_ContainsFunc_string_of_gateref2_LeastOf_f1 (K : Nat) : Tbl := { T0 with ents := entsOf [(86, e_slices_IndexFunc_string_of_gateref2_LeastOf_f1 K)], cuts := lk [] }
theorem q_slices_ContainsFunc_string_of_gateref2_LeastOf_f1 (K : Nat) (ds : List D) : evFn (T_slices_ContainsFunc_string_of_gateref2_LeastOf_f1 K) Tryz.f44 .go (e_slices_ContainsFunc_string_of_gateref2_LeastOf_f1 K) ds = (e_slices_ContainsFunc_string_of_gateref2_LeastOf_f1 K).f ds := by kernel_rfl
theorem ok_slices_ContainsFunc_string_of_gateref2_LeastOf_f1 (K : Nat) : FnOK Tryz.prog T0 44 (e_slices_ContainsFunc_string_of_gateref2_LeastOf_f1 K) :=
  fn_thm (T0 := T0) (T := T_slices_ContainsFunc_string_of_gateref2_LeastOf_f1 K) rfl (hT_of hT0 rfl rfl rfl) (hes_ok (T0 := T0) (T := T_slices_ContainsFunc_string_of_gateref2_LeastOf_f1 K) rfl rfl (⟨ok_slices_IndexFunc_string_of_gateref2_LeastOf_f1 K, trivial⟩ : FAll Tryz.prog T0 [(86, e_slices_IndexFunc_string_of_gateref2_LeastOf_f1 K)])) Tryz.func44 (by decide) rfl (Nat.le_of_ble_eq_true rfl) rfl rfl rfl (tot_none rfl) (cutsOK_none (by rfl)) (q_slices_ContainsFunc_string_of_gateref2_LeastOf_f1 K)
/-! ### 49 slices.Sort[[]string,string] -/
def lays_slices_Sort_string_ren : Go.Shelf.Ren := ⟨fun | 190 => 49 | 125 => 89 | 258 => 88 | 128 => 129 | 129 => 130 | 302 => 120 | 303 => 121 | 304 => 122 | 305 => 123 | 306 => 124 | 307 => 125 | 308 => 126 | 309 => 127 | 310 => 128 | 333 => 149 | 329 => 150 | 330 => 151 | 334 => 152 | 335 => 153 | 336 => 154 | 344 => 171 | n => n, fun | 31 => 26 | 9 => 9 | 3 => 3 | 46 => 99 | 0 => 0 | 51 => 140 | 53 => 117 | 4 => 4 | 183 => 133 | 182 => 132 | 131 => 137 | 5 => 5 | 218 => 152 | 222 => 156 | 228 => 167 | 229 => 168 | n => n, fun | n => n⟩
theorem lays_slices_Sort_string : Go.Proofs.Lays.n190 Tryz.prog lays_slices_Sort_string_ren where
  mixed := by kernel_rfl
  f125 := Tryz.func89.trans (congrArg some (by kernel_rfl))
  f128 := Tryz.func129.trans (congrArg some (by kernel_rfl))
  f129 := Tryz.func130.trans (congrArg some (by kernel_rfl))
  f190 := Tryz.func49.trans (congrArg some (by kernel_rfl))
  f258 := Tryz.func88.trans (congrArg some (by kernel_rfl))
  f302 := Tryz.func120.trans (congrArg some (by kernel_rfl))
  f303 := Tryz.func121.trans (congrArg some (by kernel_rfl))
  f304 := Tryz.func122.trans (congrArg some (by kernel_rfl))
  f305 := Tryz.func123.trans (congrArg some (by kernel_rfl))
  f306 := Tryz.func124.trans (congrArg some (by kernel_rfl))
  f307 := Tryz.func125.trans (congrArg some (by kernel_rfl))
  f308 := Tryz.func126.trans (congrArg some (by kernel_rfl))
  f309 := Tryz.func127.trans (congrArg some (by kernel_rfl))
  f310 := Tryz.func128.trans (congrArg some (by kernel_rfl))
  f329 := Tryz.func150.trans (congrArg some (by kernel_rfl))
  f330 := Tryz.func151.trans (congrArg some (by kernel_rfl))
  f333 := Tryz.func149.trans (congrArg some (by kernel_rfl))
  f334 := Tryz.func152.trans (congrArg some (by kernel_rfl))
  f335 := Tryz.func153.trans (congrArg some (by kernel_rfl))
  f336 := Tryz.func154.trans (congrArg some (by kernel_rfl))
  f344 := Tryz.func171.trans (congrArg some (by kernel_rfl))
  t0 := Tryz.underlying0
  a0 := Tryz.isAgg0
  z0 := Tryz.sizeOf0
  v0 := Tryz.zeroValue0
  t3 := Tryz.underlying3
  a3 := Tryz.isAgg3
  z3 := Tryz.sizeOf3
  v3 := Tryz.zeroValue3
  t4 := Tryz.underlying4
  a4 := Tryz.isAgg4
  z4 := Tryz.sizeOf4
  v4 := Tryz.zeroValue4
  t5 := Tryz.underlying5
  a5 := Tryz.isAgg5
  z5 := Tryz.sizeOf5
  v5 := Tryz.zeroValue5
  t9 := Tryz.underlying9
  a9 := Tryz.isAgg9
  z9 := Tryz.sizeOf9
  v9 := Tryz.zeroValue9
  t31 := Tryz.underlying26
  a31 := Tryz.isAgg26
  z31 := Tryz.sizeOf26
  v31 := Tryz.zeroValue26
  t46 := Tryz.underlying99
  a46 := Tryz.isAgg99
  z46 := Tryz.sizeOf99
  v46 := Tryz.zeroValue99
  t51 := Tryz.underlying140
  a51 := Tryz.isAgg140
  z51 := Tryz.sizeOf140
  v51 := Tryz.zeroValue140
  t53 := Tryz.underlying117
  a53 := Tryz.isAgg117
  z53 := Tryz.sizeOf117
  v53 := Tryz.zeroValue117
  t131 := Tryz.underlying137
  a131 := Tryz.isAgg137
  z131 := Tryz.sizeOf137
  v131 := Tryz.zeroValue137
  t182 := Tryz.underlying132
  a182 := Tryz.isAgg132
  z182 := Tryz.sizeOf132
  v182 := Tryz.zeroValue132
  t183 := Tryz.underlying133
  a183 := Tryz.isAgg133
  z183 := Tryz.sizeOf133
  v183 := Tryz.zeroValue133
  t218 := Tryz.underlying152
  a218 := Tryz.isAgg152
  z218 := Tryz.sizeOf152
  v218 := Tryz.zeroValue152
  t222 := Tryz.underlying156
  a222 := Tryz.isAgg156
  z222 := Tryz.sizeOf156
  v222 := Tryz.zeroValue156
  t228 := Tryz.underlying167
  a228 := Tryz.isAgg167
  z228 := Tryz.sizeOf167
  v228 := Tryz.zeroValue167
  t229 := Tryz.underlying168
  a229 := Tryz.isAgg168
  z229 := Tryz.sizeOf168
  v229 := Tryz.zeroValue168
def f_slices_Sort_string (x : D) : Option (List D) := sortG sortS x
def e_slices_Sort_string (K : Nat) : Entry := sortEnt 26 9 sortS
theorem ok_slices_Sort_string (K : Nat) : FnOK Tryz.prog T0 49 (e_slices_Sort_string K) :=
  sortS_ok (T := T0) hT0 Tryz.func49 rfl (by decide) rfl (fun D blk off cap zs w => AnyS.slices_Sort_string_alone lays_slices_Sort_string D blk off cap zs w) (fun a cap w => Any.slices_Sort_string_none lays_slices_Sort_string a cap w)
/-! ### 50 slices.Compact[[]string,string] -/
def lays_slices_Compact_string_ren : Go.Shelf.Ren := ⟨fun | 194 => 50 | n => n, fun | 31 => 26 | 9 => 9 | 3 => 3 | 4 => 4 | 0 => 0 | n => n, fun | n => n⟩
theorem lays_slices_Compact_string : Go.Proofs.Lays.n194 Tryz.prog lays_slices_Compact_string_ren where
  mixed := by kernel_rfl
  f194 := Tryz.func50.trans (congrArg some (by kernel_rfl))
  t0 := Tryz.underlying0
  a0 := Tryz.isAgg0
  z0 := Tryz.sizeOf0
  v0 := Tryz.zeroValue0
  t3 := Tryz.underlying3
  a3 := Tryz.isAgg3
  z3 := Tryz.sizeOf3
  v3 := Tryz.zeroValue3
  t4 := Tryz.underlying4
  a4 := Tryz.isAgg4
  z4 := Tryz.sizeOf4
  v4 := Tryz.zeroValue4
  t9 := Tryz.underlying9
  a9 := Tryz.isAgg9
  z9 := Tryz.sizeOf9
  v9 := Tryz.zeroValue9
  t31 := Tryz.underlying26
  a31 := Tryz.isAgg26
  z31 := Tryz.sizeOf26
  v31 := Tryz.zeroValue26
def p_slices_Compact_string (x : D) : List D := [D.n (compS x.list)]
def e_slices_Compact_string (K : Nat) : Entry := compSEnt 26 9
theorem ok_slices_Compact_string (K : Nat) : FnOK Tryz.prog T0 50 (e_slices_Compact_string K) :=
  compS_ok (T := T0) hT0 Tryz.func50 rfl (by decide) rfl (fun b off c zs w => Any.slices_Compact_string lays_slices_Compact_string b off c zs w) (fun a cap w => Any.slices_Compact_string_empty lays_slices_Compact_string a cap w)
/-! ### 14 gatewarden/gateref2.LeastOf -/
def b_gateref2_LeastOf_0 (K : Nat) (rec : List D → Option (Nat × List D)) (ds : List D) : Option (Nat × List D) :=
  let l := D.nth ds 0
  let s6 := D.nth ds 1
  let s7 := D.nth ds 2
  let s8 := D.nth ds 3
  let r0 := D.nth ds 4
  bif (ltI s8.int s7.int) then
    bif (inB s8.int s6.list.length) then
      (f_slices_ContainsFunc_string_of_gateref2_LeastOf_f1 K l (D.nth s6.list s8.int.toNat)).bind fun t1 =>
      bif (!((D.nth t1 0).bool)) then
        bif (lim (r0.list.length + 1)) then
          rec [l, s6, s7, D.i (IntKind.i64.wrap (s8.int + (1 : Int))), D.n (r0.list ++ [D.nth t1 1])]
        else
          none
      else
        rec [l, s6, s7, D.i (IntKind.i64.wrap (s8.int + (1 : Int))), D.n r0.list]
    else
      none
  else
    some (0, [D.n r0.list])
def c_gateref2_LeastOf_0 (K : Nat) : Cut := { sh := { sl := [(0, .d 26 false), (3, .own 26 0), (6, .d 26 false), (7, .d 3 true), (8, .d 3 true)], ob := [(0, .row 9 true)] }, kept := [], outs := [(.exit 0, { sl := [(3, .own 26 0)], ob := [(0, .row 9 true)] })], f := fun ds => fixN (b_gateref2_LeastOf_0 K) K ds }
def f_gateref2_LeastOf (K : Nat) (l : D) : Option (List D) :=
  (fixN (b_gateref2_LeastOf_0 K) K [l, l, D.i (l.list.length : Int), D.i 0, D.n []]).bind fun t1 =>
  (f_slices_Sort_string (D.n ((D.nth t1.2 0).list))).bind fun t2 =>
  some [D.n ((D.nth (p_slices_Compact_string (D.n ((D.nth t2 0).list))) 0).list)]
def e_gateref2_LeastOf (K : Nat) : Entry := { n := 1, sh := { sl := [(0, .d 26 false)], ob := [] }, kept := [], rs := [{ sl := [(0, .own 26 0)], ob := [(0, .row 9 true)] }], f := fun ds => f_gateref2_LeastOf K (D.nth ds 0), tot := none }
def T_gateref2_LeastOf (K : Nat) : Tbl := { T0 with ents := entsOf [(44, e_slices_ContainsFunc_string_of_gateref2_LeastOf_f1 K), (49, e_slices_Sort_string K), (50, e_slices_Compact_string K)], cuts := lk [(0, c_gateref2_LeastOf_0 K)] }
theorem q_gateref2_LeastOf_0 (K : Nat) (rec : List D → Option (Nat × List D)) (ds : List D) : evLoop (T_gateref2_LeastOf K) 25 (sub (codeOf Tryz.f14) [1, 1, 0, 1, 0, 0]) .go (c_gateref2_LeastOf_0 K) rec ds = b_gateref2_LeastOf_0 K rec ds := by kernel_rfl
theorem k_gateref2_LeastOf_0 (K : Nat) : CutOK Tryz.prog (T_gateref2_LeastOf K) 25 (sub (codeOf Tryz.f14) [1, 1, 0, 1, 0]) (c_gateref2_LeastOf_0 K) :=
  loop_thm (T := T_gateref2_LeastOf K) (hT_of hT0 rfl rfl rfl) (hes_ok (T0 := T0) (T := T_gateref2_LeastOf K) rfl rfl (⟨ok_slices_ContainsFunc_string_of_gateref2_LeastOf_f1 K, ok_slices_Sort_string K, ok_slices_Compact_string K, trivial⟩ : FAll Tryz.prog T0 [(44, e_slices_ContainsFunc_string_of_gateref2_LeastOf_f1 K), (49, e_slices_Sort_string K), (50, e_slices_Compact_string K)])) (by kernel_rfl) rfl rfl rfl (cutsOK_none (by rfl)) rfl (q_gateref2_LeastOf_0 K)
theorem q_gateref2_LeastOf (K : Nat) (ds : List D) : evFn (T_gateref2_LeastOf K) Tryz.f14 (.seq .go (.seq .go (.seq (.seq .go (.blk (.cut 0))) .go))) (e_gateref2_LeastOf K) ds = (e_gateref2_LeastOf K).f ds := by kernel_rfl
theorem ok_gateref2_LeastOf (K : Nat) : FnOK Tryz.prog T0 14 (e_gateref2_LeastOf K) :=
  fn_thm (T0 := T0) (T := T_gateref2_LeastOf K) rfl (hT_of hT0 rfl rfl rfl) (hes_ok (T0 := T0) (T := T_gateref2_LeastOf K) rfl rfl (⟨ok_slices_ContainsFunc_string_of_gateref2_LeastOf_f1 K, ok_slices_Sort_string K, ok_slices_Compact_string K, trivial⟩ : FAll Tryz.prog T0 [(44, e_slices_ContainsFunc_string_of_gateref2_LeastOf_f1 K), (49, e_slices_Sort_string K), (50, e_slices_Compact_string K)])) Tryz.func14 (by decide) rfl (Nat.le_of_ble_eq_true rfl) rfl rfl rfl (tot_none rfl) (cutsOK_list (l := [(0, sub (codeOf Tryz.f14) [1, 1, 0, 1, 0])]) (by kernel_rfl) ⟨cut_one (u := c_gateref2_LeastOf_0 K) rfl (k_gateref2_LeastOf_0 K), trivial⟩) (q_gateref2_LeastOf K)
/-! ### 21 (*gatewarden/gatemake.Stream).Pick -/
def f_gatemake_Stream_Pick (K : Nat) (o0 r1 : D) : Option (List D) :=
  (f_gatemake_Stream_Next K (D.i (r1.list.length : Int)) o0).bind fun t1 =>
  bif (inB ((D.nth t1 0).int) r1.list.length) then
    some [D.nth r1.list (((D.nth t1 0).int).toNat), D.nth t1 1, D.n r1.list]
  else
    none
def e_gatemake_Stream_Pick (K : Nat) : Entry := { n := 2, sh := { sl := [(0, .ptr 25 0 []), (1, .own 22 1)], ob := [(0, .box 25 (.d 25 false)), (1, .row 3 true)] }, kept := [0, 1], rs := [{ sl := [(0, .d 3 true)], ob := [(0, .box 25 (.d 25 false)), (1, .row 3 true)] }], f := fun ds => f_gatemake_Stream_Pick K (D.nth ds 0) (D.nth ds 1), tot := none }
def T_gatemake_Stream_Pick (K : Nat) : Tbl := { T0 with ents := entsOf [(26, e_gatemake_Stream_Next K)], cuts := lk [] }
theorem q_gatemake_Stream_Pick (K : Nat) (ds : List D) : evFn (T_gatemake_Stream_Pick K) Tryz.f21 .go (e_gatemake_Stream_Pick K) ds = (e_gatemake_Stream_Pick K).f ds := by kernel_rfl
theorem ok_gatemake_Stream_Pick (K : Nat) : FnOK Tryz.prog T0 21 (e_gatemake_Stream_Pick K) :=
  fn_thm (T0 := T0) (T := T_gatemake_Stream_Pick K) rfl (hT_of hT0 rfl rfl rfl) (hes_ok (T0 := T0) (T := T_gatemake_Stream_Pick K) rfl rfl (⟨ok_gatemake_Stream_Next K, trivial⟩ : FAll Tryz.prog T0 [(26, e_gatemake_Stream_Next K)])) Tryz.func21 (by decide) rfl (Nat.le_of_ble_eq_true rfl) rfl rfl rfl (tot_none rfl) (cutsOK_none (by rfl)) (q_gatemake_Stream_Pick K)
/-! ### 53 (*gatewarden/gatemake.Stream).RightClaims -/
def f_gatemake_Stream_RightClaims (K : Nat) (o0 : D) : Option (List D) :=
  (f_gatemake_Stream_Some K o0 (D.n [D.s [116, 49], D.s [116, 49], D.s [116, 50], D.s [116, 51]])).bind fun t1 =>
  (f_gatemake_Stream_Some K (D.nth t1 1) (D.n [D.s [97, 110, 110], D.s [98, 111, 98]])).bind fun t2 =>
  (f_gatemake_Stream_Some K (D.nth t2 1) (D.n [D.s [103, 97, 116, 101], D.s [103, 97, 116, 101], D.s [103, 97, 116, 101], D.s [111, 116, 104, 101, 114]])).bind fun t3 =>
  (f_gatemake_Stream_Some K (D.nth t3 1) (D.n [D.s [], D.s [], D.s [], D.s [116, 48], D.s [116, 50]])).bind fun t4 =>
  (f_gatemake_Stream_Next K (D.i 5) (D.nth t4 1)).bind fun t5 =>
  bif (inB ((D.nth t5 0).int) 5) then
    (f_gatemake_Stream_RightScopes K (D.nth t5 1)).bind fun t6 =>
    (f_gateref2_LeastOf K (D.n ((D.nth t6 1).list))).bind fun t7 =>
    (f_gatemake_Stream_Pick K (D.nth t6 0) (D.n [D.i 0, D.i 50, D.i 100])).bind fun t8 =>
    (f_gatemake_Stream_Pick K (D.nth t8 1) (D.n [D.i 1, D.i 50, D.i 100, D.i 200])).bind fun t9 =>
    some [D.nth t1 0, D.nth t2 0, D.nth t3 0, D.nth t4 0, D.nth [D.n [], D.n [], D.n [D.s [115, 104, 111, 112]], D.n [D.s [109, 97, 112, 115], D.s [115, 104, 111, 112]], D.n [D.s [109, 97, 112, 115]]] (((D.nth t5 0).int).toNat), D.nth t8 0, D.i (IntKind.i64.wrap (((D.nth t8 0).int) + ((D.nth t9 0).int))), D.nth t9 1, D.n ((D.nth t7 0).list)]
  else
    none
def e_gatemake_Stream_RightClaims (K : Nat) : Entry := { n := 1, sh := { sl := [(0, .ptr 25 0 [])], ob := [(0, .box 25 (.d 25 false))] }, kept := [0], rs := [{ sl := [(0, .agg 42 [.d 9 true, .d 9 true, .d 9 true, .d 9 true, .d 26 true, .own 26 1, .d 3 true, .d 3 true])], ob := [(0, .box 25 (.d 25 false)), (1, .row 9 true)] }], f := fun ds => f_gatemake_Stream_RightClaims K (D.nth ds 0), tot := none }
def T_gatemake_Stream_RightClaims (K : Nat) : Tbl := { T0 with ents := entsOf [(19, e_gatemake_Stream_Some K), (26, e_gatemake_Stream_Next K), (36, e_gatemake_Stream_RightScopes K), (14, e_gateref2_LeastOf K), (21, e_gatemake_Stream_Pick K)], cuts := lk [] }
theorem q_gatemake_Stream_RightClaims (K : Nat) (ds : List D) : evFn (T_gatemake_Stream_RightClaims K) Tryz.f53 .go (e_gatemake_Stream_RightClaims K) ds = (e_gatemake_Stream_RightClaims K).f ds := by kernel_rfl
theorem ok_gatemake_Stream_RightClaims (K : Nat) : FnOK Tryz.prog T0 53 (e_gatemake_Stream_RightClaims K) :=
  fn_thm (T0 := T0) (T := T_gatemake_Stream_RightClaims K) rfl (hT_of hT0 rfl rfl rfl) (hes_ok (T0 := T0) (T := T_gatemake_Stream_RightClaims K) rfl rfl (⟨ok_gatemake_Stream_Some K, ok_gatemake_Stream_Next K, ok_gatemake_Stream_RightScopes K, ok_gateref2_LeastOf K, ok_gatemake_Stream_Pick K, trivial⟩ : FAll Tryz.prog T0 [(19, e_gatemake_Stream_Some K), (26, e_gatemake_Stream_Next K), (36, e_gatemake_Stream_RightScopes K), (14, e_gateref2_LeastOf K), (21, e_gatemake_Stream_Pick K)])) Tryz.func53 (by decide) rfl (Nat.le_of_ble_eq_true rfl) rfl rfl rfl (tot_none rfl) (cutsOK_none (by rfl)) (q_gatemake_Stream_RightClaims K)
/-! ### 20 (*gatewarden/gatemake.Stream).Flip -/
def f_gatemake_Stream_Flip (K : Nat) (n o0 : D) : Option (List D) :=
  (f_gatemake_Stream_Next K n o0).bind fun t1 =>
  some [D.b (((D.nth t1 0).int) == (0 : Int)), D.nth t1 1]
def e_gatemake_Stream_Flip (K : Nat) : Entry := { n := 2, sh := { sl := [(0, .ptr 25 0 []), (1, .d 3 false)], ob := [(0, .box 25 (.d 25 false))] }, kept := [0], rs := [{ sl := [(0, .d 4 true)], ob := [(0, .box 25 (.d 25 false))] }], f := fun ds => f_gatemake_Stream_Flip K (D.nth ds 0) (D.nth ds 1), tot := none }
def T_gatemake_Stream_Flip (K : Nat) : Tbl := { T0 with ents := entsOf [(26, e_gatemake_Stream_Next K)], cuts := lk [] }
theorem q_gatemake_Stream_Flip (K : Nat) (ds : List D) : evFn (T_gatemake_Stream_Flip K) Tryz.f20 .go (e_gatemake_Stream_Flip K) ds = (e_gatemake_Stream_Flip K).f ds := by kernel_rfl
theorem ok_gatemake_Stream_Flip (K : Nat) : FnOK Tryz.prog T0 20 (e_gatemake_Stream_Flip K) :=
  fn_thm (T0 := T0) (T := T_gatemake_Stream_Flip K) rfl (hT_of hT0 rfl rfl rfl) (hes_ok (T0 := T0) (T := T_gatemake_Stream_Flip K) rfl rfl (⟨ok_gatemake_Stream_Next K, trivial⟩ : FAll Tryz.prog T0 [(26, e_gatemake_Stream_Next K)])) Tryz.func20 (by decide) rfl (Nat.le_of_ble_eq_true rfl) rfl rfl rfl (tot_none rfl) (cutsOK_none (by rfl)) (q_gatemake_Stream_Flip K)
/-! ### 77 strings.Repeat -/
def lays_strings_Repeat_ren : Go.Shelf.Ren := ⟨fun | 105 => 77 | 212 => 115 | 99 => 85 | 165 => 110 | 166 => 108 | 170 => 116 | 169 => 103 | 263 => 146 | 264 => 147 | 206 => 119 | 240 => 135 | 241 => 142 | 276 => 160 | 277 => 168 | n => n, fun | 9 => 9 | 3 => 3 | 4 => 4 | 20 => 20 | 0 => 0 | 46 => 99 | 109 => 128 | 5 => 5 | 72 => 108 | 76 => 122 | 51 => 140 | 146 => 148 | 53 => 117 | 148 => 150 | 70 => 106 | 37 => 101 | 75 => 110 | 127 => 144 | 164 => 159 | 80 => 56 | n => n, fun | n => n⟩
theorem lays_strings_Repeat : Go.Proofs.Lays.n105 Tryz.prog lays_strings_Repeat_ren where
  mixed := by kernel_rfl
  f99 := Tryz.func85.trans (congrArg some (by kernel_rfl))
  f105 := Tryz.func77.trans (congrArg some (by kernel_rfl))
  f165 := Tryz.func110.trans (congrArg some (by kernel_rfl))
  f166 := Tryz.func108.trans (congrArg some (by kernel_rfl))
  f169 := Tryz.func103.trans (congrArg some (by kernel_rfl))
  f170 := Tryz.func116.trans (congrArg some (by kernel_rfl))
  f206 := Tryz.func119.trans (congrArg some (by kernel_rfl))
  f212 := Tryz.func115.trans (congrArg some (by kernel_rfl))
  f240 := Tryz.func135.trans (congrArg some (by kernel_rfl))
  f241 := Tryz.func142.trans (congrArg some (by kernel_rfl))
  f263 := Tryz.func146.trans (congrArg some (by kernel_rfl))
  f264 := Tryz.func147.trans (congrArg some (by kernel_rfl))
  f276 := Tryz.func160.trans (congrArg some (by kernel_rfl))
  f277 := Tryz.func168.trans (congrArg some (by kernel_rfl))
  t0 := Tryz.underlying0
  a0 := Tryz.isAgg0
  z0 := Tryz.sizeOf0
  v0 := Tryz.zeroValue0
  t3 := Tryz.underlying3
  a3 := Tryz.isAgg3
  z3 := Tryz.sizeOf3
  v3 := Tryz.zeroValue3
  t4 := Tryz.underlying4
  a4 := Tryz.isAgg4
  z4 := Tryz.sizeOf4
  v4 := Tryz.zeroValue4
  t5 := Tryz.underlying5
  a5 := Tryz.isAgg5
  z5 := Tryz.sizeOf5
  v5 := Tryz.zeroValue5
  t9 := Tryz.underlying9
  a9 := Tryz.isAgg9
  z9 := Tryz.sizeOf9
  v9 := Tryz.zeroValue9
  t20 := Tryz.underlying20
  a20 := Tryz.isAgg20
  z20 := Tryz.sizeOf20
  v20 := Tryz.zeroValue20
  t37 := Tryz.underlying101
  a37 := Tryz.isAgg101
  z37 := Tryz.sizeOf101
  v37 := Tryz.zeroValue101
  t46 := Tryz.underlying99
  a46 := Tryz.isAgg99
  z46 := Tryz.sizeOf99
  v46 := Tryz.zeroValue99
  t51 := Tryz.underlying140
  a51 := Tryz.isAgg140
  z51 := Tryz.sizeOf140
  v51 := Tryz.zeroValue140
  t53 := Tryz.underlying117
  a53 := Tryz.isAgg117
  z53 := Tryz.sizeOf117
  v53 := Tryz.zeroValue117
  t70 := Tryz.underlying106
  a70 := Tryz.isAgg106
  z70 := Tryz.sizeOf106
  v70 := Tryz.zeroValue106
  t72 := Tryz.underlying108
  a72 := Tryz.isAgg108
  z72 := Tryz.sizeOf108
  v72 := Tryz.zeroValue108
  t75 := Tryz.underlying110
  a75 := Tryz.isAgg110
  z75 := Tryz.sizeOf110
  v75 := Tryz.zeroValue110
  t76 := Tryz.underlying122
  a76 := Tryz.isAgg122
  z76 := Tryz.sizeOf122
  v76 := Tryz.zeroValue122
  t109 := Tryz.underlying128
  a109 := Tryz.isAgg128
  z109 := Tryz.sizeOf128
  v109 := Tryz.zeroValue128
  t127 := Tryz.underlying144
  a127 := Tryz.isAgg144
  z127 := Tryz.sizeOf144
  v127 := Tryz.zeroValue144
  t146 := Tryz.underlying148
  a146 := Tryz.isAgg148
  z146 := Tryz.sizeOf148
  v146 := Tryz.zeroValue148
  t148 := Tryz.underlying150
  a148 := Tryz.isAgg150
  z148 := Tryz.sizeOf150
  v148 := Tryz.zeroValue150
  t164 := Tryz.underlying159
  a164 := Tryz.isAgg159
  z164 := Tryz.sizeOf159
  v164 := Tryz.zeroValue159
theorem lays_strings_Repeat_x : Builder.Extra Tryz.prog lays_strings_Repeat_ren where
  sizeBuilder := by kernel_rfl
  liesBuilder := by kernel_rfl
  t5 := lays_strings_Repeat.t5
  a5 := lays_strings_Repeat.a5
  z5 := lays_strings_Repeat.z5
  v5 := lays_strings_Repeat.v5
  infoByte := by kernel_rfl
  cellsByte := by kernel_rfl
  sizeByte := by kernel_rfl
  neB5 := by decide
def f_strings_Repeat (x y : D) : Option (List D) := repF x y
def e_strings_Repeat (K : Nat) : Entry := flat2 9 3 9 (fun ds => f_strings_Repeat (D.nth ds 0) (D.nth ds 1)) none
theorem ok_strings_Repeat (K : Nat) : FnOK Tryz.prog T0 77 (e_strings_Repeat K) :=
  repeat_ok (T := T0) Tryz.func77 rfl (by decide) rfl rfl rfl (fun s n w hn hl => Any.strings_Repeat lays_strings_Repeat lays_strings_Repeat_x s n w hn hl)
/-! ### 37 (*gatewarden/gatemake.Stream).Scope -/
def f_gatemake_Stream_Scope (K : Nat) (o0 : D) : Option (List D) :=
  (f_gatemake_Stream_Flip K (D.i 25) o0).bind fun t1 =>
  bif (D.nth t1 0).bool then
    (f_strings_Repeat (D.s [97, 58]) (D.i 10)).bind fun t2 =>
    bif (lim (((D.nth t2 0).str).length + [97].length)) then
      (f_gatemake_Stream_Some K (D.nth t1 1) (D.n [D.s [], D.s [97, 58, 42, 58, 98], D.s [65], D.s [97, 58, 58, 98], D.s [97, 58], D.s [42, 42], D.s [97, 42], D.s (((D.nth t2 0).str) ++ [97])])).bind fun t3 =>
      some [D.nth t3 0, D.nth t3 1]
    else
      none
  else
    (f_gatemake_Stream_Some K (D.nth t1 1) (D.n [D.s [42], D.s [97], D.s [97, 58, 42], D.s [97, 58, 98], D.s [97, 58, 98, 58, 42], D.s [97, 58, 98, 58, 99], D.s [98], D.s [98, 58, 42], D.s [98, 58, 99], D.s [99]])).bind fun t4 =>
    some [D.nth t4 0, D.nth t4 1]
def e_gatemake_Stream_Scope (K : Nat) : Entry := { n := 1, sh := { sl := [(0, .ptr 25 0 [])], ob := [(0, .box 25 (.d 25 false))] }, kept := [0], rs := [{ sl := [(0, .d 9 true)], ob := [(0, .box 25 (.d 25 false))] }], f := fun ds => f_gatemake_Stream_Scope K (D.nth ds 0), tot := none }
def T_gatemake_Stream_Scope (K : Nat) : Tbl := { T0 with ents := entsOf [(20, e_gatemake_Stream_Flip K), (77, e_strings_Repeat K), (19, e_gatemake_Stream_Some K)], cuts := lk [] }
theorem q_gatemake_Stream_Scope (K : Nat) (ds : List D) : evFn (T_gatemake_Stream_Scope K) Tryz.f37 .go (e_gatemake_Stream_Scope K) ds = (e_gatemake_Stream_Scope K).f ds := by kernel_rfl
theorem ok_gatemake_Stream_Scope (K : Nat) : FnOK Tryz.prog T0 37 (e_gatemake_Stream_Scope K) :=
  fn_thm (T0 := T0) (T := T_gatemake_Stream_Scope K) rfl (hT_of hT0 rfl rfl rfl) (hes_ok (T0 := T0) (T := T_gatemake_Stream_Scope K) rfl rfl (⟨ok_gatemake_Stream_Flip K, ok_strings_Repeat K, ok_gatemake_Stream_Some K, trivial⟩ : FAll Tryz.prog T0 [(20, e_gatemake_Stream_Flip K), (77, e_strings_Repeat K), (19, e_gatemake_Stream_Some K)])) Tryz.func37 (by decide) rfl (Nat.le_of_ble_eq_true rfl) rfl rfl rfl (tot_none rfl) (cutsOK_none (by rfl)) (q_gatemake_Stream_Scope K)
/-! ### 6 (*gatewarden/gatemake.Stream).Scopes -/
def f_gatemake_Stream_Scopes (K : Nat) (o0 : D) : Option (List D) :=
  (f_gatemake_Stream_RightScopes K o0).bind fun t1 =>
  (f_gatemake_Stream_Flip K (D.i 6) (D.nth t1 0)).bind fun t2 =>
  bif (D.nth t2 0).bool then
    (f_gatemake_Stream_Scope K (D.nth t2 1)).bind fun t3 =>
    bif (lim (((D.nth t1 1).list).length + 1)) then
      (f_gatemake_Stream_Flip K (D.i 60) (D.nth t3 1)).bind fun t4 =>
      bif (D.nth t4 0).bool then
        bif (lim 51) then
          some [D.nth t4 1, D.n (List.replicate 51 (D.n []))]
        else
          none
      else
        some [D.nth t4 1, D.n (((D.nth t1 1).list) ++ [D.nth t3 0])]
    else
      none
  else
    (f_gatemake_Stream_Flip K (D.i 60) (D.nth t2 1)).bind fun t5 =>
    bif (D.nth t5 0).bool then
      bif (lim 51) then
        some [D.nth t5 1, D.n (List.replicate 51 (D.n []))]
      else
        none
    else
      some [D.nth t5 1, D.n ((D.nth t1 1).list)]
def e_gatemake_Stream_Scopes (K : Nat) : Entry := { n := 1, sh := { sl := [(0, .ptr 25 0 [])], ob := [(0, .box 25 (.d 25 false))] }, kept := [0], rs := [{ sl := [(0, .own 26 1)], ob := [(0, .box 25 (.d 25 false)), (1, .row 9 true)] }], f := fun ds => f_gatemake_Stream_Scopes K (D.nth ds 0), tot := none }
def T_gatemake_Stream_Scopes (K : Nat) : Tbl := { T0 with ents := entsOf [(36, e_gatemake_Stream_RightScopes K), (20, e_gatemake_Stream_Flip K), (37, e_gatemake_Stream_Scope K)], cuts := lk [] }
theorem q_gatemake_Stream_Scopes (K : Nat) (ds : List D) : evFn (T_gatemake_Stream_Scopes K) Tryz.f6 .go (e_gatemake_Stream_Scopes K) ds = (e_gatemake_Stream_Scopes K).f ds := by kernel_rfl
theorem ok_gatemake_Stream_Scopes (K : Nat) : FnOK Tryz.prog T0 6 (e_gatemake_Stream_Scopes K) :=
  fn_thm (T0 := T0) (T := T_gatemake_Stream_Scopes K) rfl (hT_of hT0 rfl rfl rfl) (hes_ok (T0 := T0) (T := T_gatemake_Stream_Scopes K) rfl rfl (⟨ok_gatemake_Stream_RightScopes K, ok_gatemake_Stream_Flip K, ok_gatemake_Stream_Scope K, trivial⟩ : FAll Tryz.prog T0 [(36, e_gatemake_Stream_RightScopes K), (20, e_gatemake_Stream_Flip K), (37, e_gatemake_Stream_Scope K)])) Tryz.func6 (by decide) rfl (Nat.le_of_ble_eq_true rfl) rfl rfl rfl (tot_none rfl) (cutsOK_none (by rfl)) (q_gatemake_Stream_Scopes K)
/-! ### 54 (*gatewarden/gatemake.Stream).Odd -/
def f_gatemake_Stream_Odd (K : Nat) (low high o0 : D) : Option (List D) :=
  (f_gatemake_Stream_Flip K (D.i 12) o0).bind fun t1 =>
  bif (D.nth t1 0).bool then
    (f_gatemake_Stream_Pick K (D.nth t1 1) (D.n [D.i (IntKind.i64.wrap (low.int - (1 : Int))), D.i (IntKind.i64.wrap (high.int + (1 : Int))), low, high, D.i (-1099511627776), D.i 1099511627776])).bind fun t2 =>
    some [D.nth t2 0, D.nth t2 1]
  else
    (f_gatemake_Stream_Range K low high (D.nth t1 1)).bind fun t3 =>
    some [D.nth t3 0, D.nth t3 1]
def e_gatemake_Stream_Odd (K : Nat) : Entry := { n := 3, sh := { sl := [(0, .ptr 25 0 []), (1, .d 3 false), (2, .d 3 false)], ob := [(0, .box 25 (.d 25 false))] }, kept := [0], rs := [{ sl := [(0, .d 3 true)], ob := [(0, .box 25 (.d 25 false))] }], f := fun ds => f_gatemake_Stream_Odd K (D.nth ds 0) (D.nth ds 1) (D.nth ds 2), tot := none }
def T_gatemake_Stream_Odd (K : Nat) : Tbl := { T0 with ents := entsOf [(20, e_gatemake_Stream_Flip K), (21, e_gatemake_Stream_Pick K), (25, e_gatemake_Stream_Range K)], cuts := lk [] }
theorem q_gatemake_Stream_Odd (K : Nat) (ds : List D) : evFn (T_gatemake_Stream_Odd K) Tryz.f54 .go (e_gatemake_Stream_Odd K) ds = (e_gatemake_Stream_Odd K).f ds := by kernel_rfl
theorem ok_gatemake_Stream_Odd (K : Nat) : FnOK Tryz.prog T0 54 (e_gatemake_Stream_Odd K) :=
  fn_thm (T0 := T0) (T := T_gatemake_Stream_Odd K) rfl (hT_of hT0 rfl rfl rfl) (hes_ok (T0 := T0) (T := T_gatemake_Stream_Odd K) rfl rfl (⟨ok_gatemake_Stream_Flip K, ok_gatemake_Stream_Pick K, ok_gatemake_Stream_Range K, trivial⟩ : FAll Tryz.prog T0 [(20, e_gatemake_Stream_Flip K), (21, e_gatemake_Stream_Pick K), (25, e_gatemake_Stream_Range K)])) Tryz.func54 (by decide) rfl (Nat.le_of_ble_eq_true rfl) rfl rfl rfl (tot_none rfl) (cutsOK_none (by rfl)) (q_gatemake_Stream_Odd K)
/-! ### 18 (*gatewarden/gatemake.Stream).Claims -/
def f_gatemake_Stream_Claims (K : Nat) (o0 : D) : Option (List D) :=
  (f_gatemake_Stream_RightClaims K o0).bind fun t1 =>
  (f_gatemake_Stream_Flip K (D.i 8) (D.nth t1 7)).bind fun t2 =>
  bif (D.nth t2 0).bool then
    (f_gatemake_Stream_Next K (D.i 5) (D.nth t2 1)).bind fun t3 =>
    bif (((D.nth t3 0).int) == (0 : Int)) then
      (f_gatemake_Stream_Some K (D.nth t3 1) (D.n [D.s [], D.s [65], D.s [116, 49]])).bind fun t4 =>
      (f_gatemake_Stream_Some K (D.nth t4 1) (D.n [D.s [97, 110, 110], D.s []])).bind fun t5 =>
      some [D.nth t4 0, D.nth t5 0, D.nth t1 2, D.nth t1 3, D.nth t1 4, D.nth t1 5, D.nth t1 6, D.nth t5 1, D.n ((D.nth t1 8).list)]
    else
      bif (((D.nth t3 0).int) == (1 : Int)) then
        (f_gatemake_Stream_Some K (D.nth t3 1) (D.n [D.s [], D.s [103, 97, 116, 101]])).bind fun t6 =>
        (f_gatemake_Stream_Some K (D.nth t6 1) (D.n [D.s [65], D.s [116, 48]])).bind fun t7 =>
        some [D.nth t1 0, D.nth t1 1, D.nth t6 0, D.nth t7 0, D.nth t1 4, D.nth t1 5, D.nth t1 6, D.nth t7 1, D.n ((D.nth t1 8).list)]
      else
        bif (((D.nth t3 0).int) == (2 : Int)) then
          (f_gatemake_Stream_Next K (D.i 3) (D.nth t3 1)).bind fun t8 =>
          bif (inB ((D.nth t8 0).int) 3) then
            some [D.nth t1 0, D.nth t1 1, D.nth t1 2, D.nth t1 3, D.nth [D.n [D.s [115, 104, 111, 112], D.s [109, 97, 112, 115]], D.n [D.s []], D.n [D.s [97], D.s [97]]] (((D.nth t8 0).int).toNat), D.nth t1 5, D.nth t1 6, D.nth t8 1, D.n ((D.nth t1 8).list)]
          else
            none
        else
          bif (((D.nth t3 0).int) == (3 : Int)) then
            (f_gatemake_Stream_Scopes K (D.nth t3 1)).bind fun t9 =>
            some [D.nth t1 0, D.nth t1 1, D.nth t1 2, D.nth t1 3, D.nth t1 4, D.nth t1 5, D.nth t1 6, D.nth t9 0, D.n ((D.nth t9 1).list)]
          else
            (f_gatemake_Stream_Odd K (D.i 0) (D.i 300) (D.nth t3 1)).bind fun t10 =>
            (f_gatemake_Stream_Odd K (D.i 0) (D.i 300) (D.nth t10 1)).bind fun t11 =>
            some [D.nth t1 0, D.nth t1 1, D.nth t1 2, D.nth t1 3, D.nth t1 4, D.nth t10 0, D.nth t11 0, D.nth t11 1, D.n ((D.nth t1 8).list)]
  else
    some [D.nth t1 0, D.nth t1 1, D.nth t1 2, D.nth t1 3, D.nth t1 4, D.nth t1 5, D.nth t1 6, D.nth t2 1, D.n ((D.nth t1 8).list)]
def e_gatemake_Stream_Claims (K : Nat) : Entry := { n := 1, sh := { sl := [(0, .ptr 25 0 [])], ob := [(0, .box 25 (.d 25 false))] }, kept := [0], rs := [{ sl := [(0, .agg 42 [.d 9 true, .d 9 true, .d 9 true, .d 9 true, .d 26 true, .own 26 1, .d 3 true, .d 3 true])], ob := [(0, .box 25 (.d 25 false)), (1, .row 9 true)] }], f := fun ds => f_gatemake_Stream_Claims K (D.nth ds 0), tot := none }
def T_gatemake_Stream_Claims (K : Nat) : Tbl := { T0 with ents := entsOf [(53, e_gatemake_Stream_RightClaims K), (20, e_gatemake_Stream_Flip K), (26, e_gatemake_Stream_Next K), (19, e_gatemake_Stream_Some K), (6, e_gatemake_Stream_Scopes K), (54, e_gatemake_Stream_Odd K)], cuts := lk [] }
theorem q_gatemake_Stream_Claims (K : Nat) (ds : List D) : evFn (T_gatemake_Stream_Claims K) Tryz.f18 .go (e_gatemake_Stream_Claims K) ds = (e_gatemake_Stream_Claims K).f ds := by kernel_rfl
theorem ok_gatemake_Stream_Claims (K : Nat) : FnOK Tryz.prog T0 18 (e_gatemake_Stream_Claims K) :=
  fn_thm (T0 := T0) (T := T_gatemake_Stream_Claims K) rfl (hT_of hT0 rfl rfl rfl) (hes_ok (T0 := T0) (T := T_gatemake_Stream_Claims K) rfl rfl (⟨ok_gatemake_Stream_RightClaims K, ok_gatemake_Stream_Flip K, ok_gatemake_Stream_Next K, ok_gatemake_Stream_Some K, ok_gatemake_Stream_Scopes K, ok_gatemake_Stream_Odd K, trivial⟩ : FAll Tryz.prog T0 [(53, e_gatemake_Stream_RightClaims K), (20, e_gatemake_Stream_Flip K), (26, e_gatemake_Stream_Next K), (19, e_gatemake_Stream_Some K), (6, e_gatemake_Stream_Scopes K), (54, e_gatemake_Stream_Odd K)])) Tryz.func18 (by decide) rfl (Nat.le_of_ble_eq_true rfl) rfl rfl rfl (tot_none rfl) (cutsOK_none (by rfl)) (q_gatemake_Stream_Claims K)
/-! ### 56 gatewarden/kit.IsKey -/
def b_kit_IsKey_0 (K : Nat) (rec : List D → Option (Nat × List D)) (ds : List D) : Option (Nat × List D) :=
  let s := D.nth ds 0
  let i := D.nth ds 1
  bif (ltI i.int (s.str.length : Int)) then
    bif (inB i.int s.str.length) then
      bif (!(bif (bif (geI (byteAt s.str i.int.toNat) 97) then (leI (byteAt s.str i.int.toNat) 122) else false) then true else (bif (gtI i.int 0) then (bif (bif (bif (geI (byteAt s.str i.int.toNat) 48) then (leI (byteAt s.str i.int.toNat) 57) else false) then true else ((byteAt s.str i.int.toNat) == (45 : Int))) then true else ((byteAt s.str i.int.toNat) == (95 : Int))) else false))) then
        some (0, [D.b false])
      else
        rec [s, D.i (IntKind.i64.wrap (i.int + (1 : Int)))]
    else
      none
  else
    some (1, [])
def c_kit_IsKey_0 (K : Nat) : Cut := { sh := { sl := [(0, .d 9 true), (3, .d 3 true)], ob := [] }, kept := [], outs := [(.ret, { sl := [(2, .d 4 true)], ob := [] }), (.exit 0, { sl := [], ob := [] })], f := fun ds => fixN (b_kit_IsKey_0 K) K ds }
def f_kit_IsKey (K : Nat) (s : D) : Option (List D) :=
  (fixN (b_kit_IsKey_0 K) K [s, D.i 0]).bind fun t1 =>
  bif (t1.1.beq 0) then
    some [D.nth t1.2 0]
  else
    some [D.b (bif (!(s.str == ([] : List UInt8))) then (leI (s.str.length : Int) 40) else false)]
def e_kit_IsKey (K : Nat) : Entry := { n := 1, sh := { sl := [(0, .d 9 false)], ob := [] }, kept := [], rs := [{ sl := [(0, .d 4 true)], ob := [] }], f := fun ds => f_kit_IsKey K (D.nth ds 0), tot := none }
def T_kit_IsKey (K : Nat) : Tbl := { T0 with ents := entsOf [], cuts := lk [(0, c_kit_IsKey_0 K)] }
theorem q_kit_IsKey_0 (K : Nat) (rec : List D → Option (Nat × List D)) (ds : List D) : evLoop (T_kit_IsKey K) 48 (sub (codeOf Tryz.f56) [1, 0, 1, 0, 0]) .go (c_kit_IsKey_0 K) rec ds = b_kit_IsKey_0 K rec ds := by kernel_rfl
theorem k_kit_IsKey_0 (K : Nat) : CutOK Tryz.prog (T_kit_IsKey K) 48 (sub (codeOf Tryz.f56) [1, 0, 1, 0]) (c_kit_IsKey_0 K) :=
  loop_thm (T := T_kit_IsKey K) (hT_of hT0 rfl rfl rfl) (hes_ok (T0 := T0) (T := T_kit_IsKey K) rfl rfl (trivial : FAll Tryz.prog T0 [])) (by kernel_rfl) rfl rfl rfl (cutsOK_none (by rfl)) rfl (q_kit_IsKey_0 K)
theorem q_kit_IsKey (K : Nat) (ds : List D) : evFn (T_kit_IsKey K) Tryz.f56 (.seq .go (.seq (.seq .go (.blk (.cut 0))) .go)) (e_kit_IsKey K) ds = (e_kit_IsKey K).f ds := by kernel_rfl
theorem ok_kit_IsKey (K : Nat) : FnOK Tryz.prog T0 56 (e_kit_IsKey K) :=
  fn_thm (T0 := T0) (T := T_kit_IsKey K) rfl (hT_of hT0 rfl rfl rfl) (hes_ok (T0 := T0) (T := T_kit_IsKey K) rfl rfl (trivial : FAll Tryz.prog T0 [])) Tryz.func56 (by decide) rfl (Nat.le_of_ble_eq_true rfl) rfl rfl rfl (tot_none rfl) (cutsOK_list (l := [(0, sub (codeOf Tryz.f56) [1, 0, 1, 0])]) (by kernel_rfl) ⟨cut_one (u := c_kit_IsKey_0 K) rfl (k_kit_IsKey_0 K), trivial⟩) (q_kit_IsKey K)
/-! ### 91 gatewarden/kit.RisingFault -/
def b_kit_RisingFault_0 (K : Nat) (rec : List D → Option (Nat × List D)) (ds : List D) : Option (Nat × List D) :=
  let l := D.nth ds 0
  let s5 := D.nth ds 1
  let s6 := D.nth ds 2
  let s7 := D.nth ds 3
  bif (ltI s7.int s6.int) then
    bif (inB s7.int s5.list.length) then
      (f_kit_IsKey K (D.nth s5.list s7.int.toNat)).bind fun t1 =>
      bif (!((D.nth t1 0).bool)) then
        some (0, [D.i 5])
      else
        bif ((!(gtI s7.int 0)) || (inB (IntKind.i64.wrap (s7.int - (1 : Int))) l.list.length)) then
          bif (bif (gtI s7.int 0) then ((Op.bytesLess ((D.nth s5.list s7.int.toNat).str) ((D.nth l.list ((IntKind.i64.wrap (s7.int - (1 : Int))).toNat)).str)) || (((D.nth s5.list s7.int.toNat).str) == ((D.nth l.list ((IntKind.i64.wrap (s7.int - (1 : Int))).toNat)).str))) else false) then
            some (0, [D.i 7])
          else
            rec [l, s5, s6, D.i (IntKind.i64.wrap (s7.int + (1 : Int)))]
        else
          none
    else
      none
  else
    some (1, [])
def c_kit_RisingFault_0 (K : Nat) : Cut := { sh := { sl := [(0, .d 26 false), (5, .d 26 false), (6, .d 3 true), (7, .d 3 true)], ob := [] }, kept := [], outs := [(.ret, { sl := [(2, .d 28 true)], ob := [] }), (.exit 0, { sl := [], ob := [] })], f := fun ds => fixN (b_kit_RisingFault_0 K) K ds }
def f_kit_RisingFault (K : Nat) (l : D) : Option (List D) :=
  (fixN (b_kit_RisingFault_0 K) K [l, l, D.i (l.list.length : Int), D.i 0]).bind fun t1 =>
  bif (t1.1.beq 0) then
    some [D.nth t1.2 0]
  else
    some [D.i 0]
def e_kit_RisingFault (K : Nat) : Entry := { n := 1, sh := { sl := [(0, .d 26 false)], ob := [] }, kept := [], rs := [{ sl := [(0, .d 28 true)], ob := [] }], f := fun ds => f_kit_RisingFault K (D.nth ds 0), tot := none }
def T_kit_RisingFault (K : Nat) : Tbl := { T0 with ents := entsOf [(56, e_kit_IsKey K)], cuts := lk [(0, c_kit_RisingFault_0 K)] }
theorem q_kit_RisingFault_0 (K : Nat) (rec : List D → Option (Nat × List D)) (ds : List D) : evLoop (T_kit_RisingFault K) 27 (sub (codeOf Tryz.f91) [1, 0, 1, 0, 0]) .go (c_kit_RisingFault_0 K) rec ds = b_kit_RisingFault_0 K rec ds := by kernel_rfl
theorem k_kit_RisingFault_0 (K : Nat) : CutOK Tryz.prog (T_kit_RisingFault K) 27 (sub (codeOf Tryz.f91) [1, 0, 1, 0]) (c_kit_RisingFault_0 K) :=
  loop_thm (T := T_kit_RisingFault K) (hT_of hT0 rfl rfl rfl) (hes_ok (T0 := T0) (T := T_kit_RisingFault K) rfl rfl (⟨ok_kit_IsKey K, trivial⟩ : FAll Tryz.prog T0 [(56, e_kit_IsKey K)])) (by kernel_rfl) rfl rfl rfl (cutsOK_none (by rfl)) rfl (q_kit_RisingFault_0 K)
theorem q_kit_RisingFault (K : Nat) (ds : List D) : evFn (T_kit_RisingFault K) Tryz.f91 (.seq .go (.seq (.seq .go (.blk (.cut 0))) .go)) (e_kit_RisingFault K) ds = (e_kit_RisingFault K).f ds := by kernel_rfl
theorem ok_kit_RisingFault (K : Nat) : FnOK Tryz.prog T0 91 (e_kit_RisingFault K) :=
  fn_thm (T0 := T0) (T := T_kit_RisingFault K) rfl (hT_of hT0 rfl rfl rfl) (hes_ok (T0 := T0) (T := T_kit_RisingFault K) rfl rfl (⟨ok_kit_IsKey K, trivial⟩ : FAll Tryz.prog T0 [(56, e_kit_IsKey K)])) Tryz.func91 (by decide) rfl (Nat.le_of_ble_eq_true rfl) rfl rfl rfl (tot_none rfl) (cutsOK_list (l := [(0, sub (codeOf Tryz.f91) [1, 0, 1, 0])]) (by kernel_rfl) ⟨cut_one (u := c_kit_RisingFault_0 K) rfl (k_kit_RisingFault_0 K), trivial⟩) (q_kit_RisingFault K)
/-! ### 132 strings.explode: nothing is said of it -/
def f_strings_explode (x y : D) : Option (List D) := none
def e_strings_explode (K : Nat) : Entry := flat2 9 3 26 (fun ds => f_strings_explode (D.nth ds 0) (D.nth ds 1)) none
theorem ok_strings_explode (K : Nat) : FnOK Tryz.prog T0 132 (e_strings_explode K) := rec0 rfl rfl rfl (fun _ => rfl)
/-! ### 133 strings.Count -/
def lays_strings_Count_ren : Go.Shelf.Ren := ⟨fun | 138 => 133 | 195 => 155 | 218 => 156 | 143 => 131 | 219 => 134 | 217 => 143 | 225 => 157 | 224 => 158 | 267 => 159 | 266 => 169 | 314 => 172 | n => n, fun | 9 => 9 | 3 => 3 | 4 => 4 | 5 => 5 | 0 => 0 | 46 => 99 | 146 => 148 | 51 => 140 | n => n, fun | 1 => 0 | n => n⟩
theorem lays_strings_Count : Go.Proofs.Lays.n138 Tryz.prog lays_strings_Count_ren where
  mixed := by kernel_rfl
  f138 := Tryz.func133.trans (congrArg some (by kernel_rfl))
  f143 := Tryz.func131.trans (congrArg some (by kernel_rfl))
  f195 := Tryz.func155.trans (congrArg some (by kernel_rfl))
  f217 := Tryz.func143.trans (congrArg some (by kernel_rfl))
  f218 := Tryz.func156.trans (congrArg some (by kernel_rfl))
  f219 := Tryz.func134.trans (congrArg some (by kernel_rfl))
  f224 := Tryz.func158.trans (congrArg some (by kernel_rfl))
  f225 := Tryz.func157.trans (congrArg some (by kernel_rfl))
  f266 := Tryz.func169.trans (congrArg some (by kernel_rfl))
  f267 := Tryz.func159.trans (congrArg some (by kernel_rfl))
  f314 := Tryz.func172.trans (congrArg some (by kernel_rfl))
  t0 := Tryz.underlying0
  a0 := Tryz.isAgg0
  z0 := Tryz.sizeOf0
  v0 := Tryz.zeroValue0
  t3 := Tryz.underlying3
  a3 := Tryz.isAgg3
  z3 := Tryz.sizeOf3
  v3 := Tryz.zeroValue3
  t4 := Tryz.underlying4
  a4 := Tryz.isAgg4
  z4 := Tryz.sizeOf4
  v4 := Tryz.zeroValue4
  t5 := Tryz.underlying5
  a5 := Tryz.isAgg5
  z5 := Tryz.sizeOf5
  v5 := Tryz.zeroValue5
  t9 := Tryz.underlying9
  a9 := Tryz.isAgg9
  z9 := Tryz.sizeOf9
  v9 := Tryz.zeroValue9
  t46 := Tryz.underlying99
  a46 := Tryz.isAgg99
  z46 := Tryz.sizeOf99
  v46 := Tryz.zeroValue99
  t51 := Tryz.underlying140
  a51 := Tryz.isAgg140
  z51 := Tryz.sizeOf140
  v51 := Tryz.zeroValue140
  t146 := Tryz.underlying148
  a146 := Tryz.isAgg148
  z146 := Tryz.sizeOf148
  v146 := Tryz.zeroValue148
  g1 := by kernel_rfl
def f_strings_Count (x y : D) : Option (List D) := oneF (fun l c => (Lib.countByte l c : Int)) x y
def e_strings_Count (K : Nat) : Entry := flat2 9 9 3 (fun ds => f_strings_Count (D.nth ds 0) (D.nth ds 1)) none
theorem ok_strings_Count (K : Nat) : FnOK Tryz.prog T0 133 (e_strings_Count K) :=
  one_ok (T := T0) (fun l c => (Lib.countByte l c : Int)) Tryz.func133 rfl (by decide) rfl rfl rfl (fun s c w => Any.strings_Count_one lays_strings_Count s c w)
/-! ### 131 strings.Index -/
def lays_strings_Index_ren : Go.Shelf.Ren := ⟨fun | 143 => 131 | 219 => 134 | 217 => 143 | 225 => 157 | 224 => 158 | 267 => 159 | 266 => 169 | 314 => 172 | n => n, fun | 9 => 9 | 3 => 3 | 4 => 4 | 5 => 5 | 46 => 99 | 146 => 148 | 51 => 140 | n => n, fun | 1 => 0 | n => n⟩
theorem lays_strings_Index : Go.Proofs.Lays.n143 Tryz.prog lays_strings_Index_ren where
  mixed := by kernel_rfl
  f143 := Tryz.func131.trans (congrArg some (by kernel_rfl))
  f217 := Tryz.func143.trans (congrArg some (by kernel_rfl))
  f219 := Tryz.func134.trans (congrArg some (by kernel_rfl))
  f224 := Tryz.func158.trans (congrArg some (by kernel_rfl))
  f225 := Tryz.func157.trans (congrArg some (by kernel_rfl))
  f266 := Tryz.func169.trans (congrArg some (by kernel_rfl))
  f267 := Tryz.func159.trans (congrArg some (by kernel_rfl))
  f314 := Tryz.func172.trans (congrArg some (by kernel_rfl))
  t3 := Tryz.underlying3
  a3 := Tryz.isAgg3
  z3 := Tryz.sizeOf3
  v3 := Tryz.zeroValue3
  t4 := Tryz.underlying4
  a4 := Tryz.isAgg4
  z4 := Tryz.sizeOf4
  v4 := Tryz.zeroValue4
  t5 := Tryz.underlying5
  a5 := Tryz.isAgg5
  z5 := Tryz.sizeOf5
  v5 := Tryz.zeroValue5
  t9 := Tryz.underlying9
  a9 := Tryz.isAgg9
  z9 := Tryz.sizeOf9
  v9 := Tryz.zeroValue9
  t46 := Tryz.underlying99
  a46 := Tryz.isAgg99
  z46 := Tryz.sizeOf99
  v46 := Tryz.zeroValue99
  t51 := Tryz.underlying140
  a51 := Tryz.isAgg140
  z51 := Tryz.sizeOf140
  v51 := Tryz.zeroValue140
  t146 := Tryz.underlying148
  a146 := Tryz.isAgg148
  z146 := Tryz.sizeOf148
  v146 := Tryz.zeroValue148
  g1 := by kernel_rfl
def f_strings_Index (x y : D) : Option (List D) := oneF Lib.indexByte x y
def e_strings_Index (K : Nat) : Entry := flat2 9 9 3 (fun ds => f_strings_Index (D.nth ds 0) (D.nth ds 1)) none
theorem ok_strings_Index (K : Nat) : FnOK Tryz.prog T0 131 (e_strings_Index K) :=
  one_ok (T := T0) Lib.indexByte Tryz.func131 rfl (by decide) rfl rfl rfl (fun s c w => Any.strings_Index_one lays_strings_Index s c w)
/-! ### 98 strings.genSplit -/
def b_strings_genSplit_1 (K : Nat) (rec : List D → Option (Nat × List D)) (ds : List D) : Option (Nat × List D) :=
  let s := D.nth ds 0
  let sep := D.nth ds 1
  let sepSave := D.nth ds 2
  let n := D.nth ds 3
  let i := D.nth ds 4
  let r0 := D.nth ds 5
  bif (ltI i.int n.int) then
    (f_strings_Index s sep).bind fun t3 =>
    bif (ltI ((D.nth t3 0).int) 0) then
      some (0, [s, i, D.n r0.list])
    else
      bif (inB (IntKind.i64.wrap (((D.nth t3 0).int) + sepSave.int)) (s.str.length + 1)) then
        bif (inB i.int r0.list.length) then
          bif (inB (IntKind.i64.wrap (((D.nth t3 0).int) + (sep.str.length : Int))) (s.str.length + 1)) then
            rec [D.s (s.str.drop ((IntKind.i64.wrap (((D.nth t3 0).int) + (sep.str.length : Int))).toNat)), sep, sepSave, n, D.i (IntKind.i64.wrap (i.int + (1 : Int))), D.n (D.setNth r0.list i.int.toNat (D.s (s.str.take ((IntKind.i64.wrap (((D.nth t3 0).int) + sepSave.int)).toNat))))]
          else
            none
        else
          none
      else
        none
  else
    some (0, [s, i, D.n r0.list])
def c_strings_genSplit_1 (K : Nat) : Cut := { sh := { sl := [(0, .d 9 true), (1, .d 9 true), (2, .d 3 true), (3, .d 3 true), (9, .own 26 0), (10, .d 3 true)], ob := [(0, .row 9 true)] }, kept := [0], outs := [(.exit 0, { sl := [(0, .d 9 true), (10, .d 3 true)], ob := [(0, .row 9 true)] })], f := fun ds => fixN (b_strings_genSplit_1 K) K ds }
def b_strings_genSplit_0 (K : Nat) (ds : List D) : Option (Nat × List D) :=
  let s := D.nth ds 0
  let sep := D.nth ds 1
  let n := D.nth ds 2
  let s20 := D.nth ds 3
  bif s20.bool then
    (f_strings_Count s sep).bind fun t2 =>
    some (0, [D.i (IntKind.i64.wrap (((D.nth t2 0).int) + (1 : Int)))])
  else
    some (0, [n])
def c_strings_genSplit_0 (K : Nat) : Cut := { sh := { sl := [(0, .d 9 true), (1, .d 9 true), (3, .d 3 true), (20, .d 4 true)], ob := [] }, kept := [], outs := [(.normal, { sl := [(3, .d 3 true)], ob := [] })], f := b_strings_genSplit_0 K }
def f_strings_genSplit (K : Nat) (s sep sepSave n : D) : Option (List D) :=
  bif (n.int == (0 : Int)) then
    some [D.n []]
  else
    bif (sep.str == ([] : List UInt8)) then
      (f_strings_explode s n).bind fun t1 =>
      some [D.nth t1 0]
    else
      (b_strings_genSplit_0 K [s, sep, n, D.b (ltI n.int 0)]).bind fun t2 =>
      bif ((leI 0 (minI ((D.nth t2.2 0).int) (IntKind.i64.wrap ((s.str.length : Int) + (1 : Int))))) && (lim ((minI ((D.nth t2.2 0).int) (IntKind.i64.wrap ((s.str.length : Int) + (1 : Int)))).toNat))) then
        (fixN (b_strings_genSplit_1 K) K [s, sep, sepSave, D.i (IntKind.i64.wrap ((minI ((D.nth t2.2 0).int) (IntKind.i64.wrap ((s.str.length : Int) + (1 : Int)))) - (1 : Int))), D.i 0, D.n (List.replicate ((minI ((D.nth t2.2 0).int) (IntKind.i64.wrap ((s.str.length : Int) + (1 : Int)))).toNat) (D.n []))]).bind fun t3 =>
        bif (inB ((D.nth t3.2 1).int) (((D.nth t3.2 2).list).length)) then
          bif (inB (IntKind.i64.wrap (((D.nth t3.2 1).int) + (1 : Int))) ((D.setNth ((D.nth t3.2 2).list) (((D.nth t3.2 1).int).toNat) (D.nth t3.2 0)).length + 1)) then
            some [D.n ((D.setNth ((D.nth t3.2 2).list) (((D.nth t3.2 1).int).toNat) (D.nth t3.2 0)).take ((IntKind.i64.wrap (((D.nth t3.2 1).int) + (1 : Int))).toNat))]
          else
            none
        else
          none
      else
        none
def e_strings_genSplit (K : Nat) : Entry := { n := 4, sh := { sl := [(0, .d 9 false), (1, .d 9 false), (2, .d 3 false), (3, .d 3 false)], ob := [] }, kept := [], rs := [{ sl := [(0, .d 26 true)], ob := [] }], f := fun ds => f_strings_genSplit K (D.nth ds 0) (D.nth ds 1) (D.nth ds 2) (D.nth ds 3), tot := none }
def T_strings_genSplit (K : Nat) : Tbl := { T0 with ents := entsOf [(132, e_strings_explode K), (133, e_strings_Count K), (131, e_strings_Index K)], cuts := lk [(0, c_strings_genSplit_0 K), (1, c_strings_genSplit_1 K)] }
theorem q_strings_genSplit_1 (K : Nat) (rec : List D → Option (Nat × List D)) (ds : List D) : evLoop (T_strings_genSplit K) 66 (sub (codeOf Tryz.f98) [1, 1, 1, 1, 1, 1, 1, 1, 0, 0, 0]) .go (c_strings_genSplit_1 K) rec ds = b_strings_genSplit_1 K rec ds := by kernel_rfl
theorem k_strings_genSplit_1 (K : Nat) : CutOK Tryz.prog (T_strings_genSplit K) 66 (sub (codeOf Tryz.f98) [1, 1, 1, 1, 1, 1, 1, 1, 0, 0]) (c_strings_genSplit_1 K) :=
  loop_thm (T := T_strings_genSplit K) (hT_of hT0 rfl rfl rfl) (hes_ok (T0 := T0) (T := T_strings_genSplit K) rfl rfl (⟨ok_strings_explode K, ok_strings_Count K, ok_strings_Index K, trivial⟩ : FAll Tryz.prog T0 [(132, e_strings_explode K), (133, e_strings_Count K), (131, e_strings_Index K)])) (by kernel_rfl) rfl rfl rfl (cutsOK_none (by rfl)) rfl (q_strings_genSplit_1 K)
theorem q_strings_genSplit_0 (K : Nat) (ds : List D) : evPiece (T_strings_genSplit K) 66 (sub (codeOf Tryz.f98) [1, 1, 1, 0, 1]) .go (c_strings_genSplit_0 K) ds = b_strings_genSplit_0 K ds := by kernel_rfl
theorem k_strings_genSplit_0 (K : Nat) : CutOK Tryz.prog (T_strings_genSplit K) 66 (sub (codeOf Tryz.f98) [1, 1, 1, 0, 1]) (c_strings_genSplit_0 K) :=
  piece_thm (T := T_strings_genSplit K) (hT_of hT0 rfl rfl rfl) (hes_ok (T0 := T0) (T := T_strings_genSplit K) rfl rfl (⟨ok_strings_explode K, ok_strings_Count K, ok_strings_Index K, trivial⟩ : FAll Tryz.prog T0 [(132, e_strings_explode K), (133, e_strings_Count K), (131, e_strings_Index K)])) rfl rfl rfl (cutsOK_none (by rfl)) (q_strings_genSplit_0 K)
theorem q_strings_genSplit (K : Nat) (ds : List D) : evFn (T_strings_genSplit K) Tryz.f98 (.seq .go (.seq .go (.seq .go (.seq (.seq .go (.cut 0)) (.seq .go (.seq .go (.seq .go (.seq .go (.seq (.blk (.cut 1)) .go))))))))) (e_strings_genSplit K) ds = (e_strings_genSplit K).f ds := by kernel_rfl
theorem ok_strings_genSplit (K : Nat) : FnOK Tryz.prog T0 98 (e_strings_genSplit K) :=
  fn_thm (T0 := T0) (T := T_strings_genSplit K) rfl (hT_of hT0 rfl rfl rfl) (hes_ok (T0 := T0) (T := T_strings_genSplit K) rfl rfl (⟨ok_strings_explode K, ok_strings_Count K, ok_strings_Index K, trivial⟩ : FAll Tryz.prog T0 [(132, e_strings_explode K), (133, e_strings_Count K), (131, e_strings_Index K)])) Tryz.func98 (by decide) rfl (Nat.le_of_ble_eq_true rfl) rfl rfl rfl (tot_none rfl) (cutsOK_list (l := [(0, sub (codeOf Tryz.f98) [1, 1, 1, 0, 1]), (1, sub (codeOf Tryz.f98) [1, 1, 1, 1, 1, 1, 1, 1, 0, 0])]) (by kernel_rfl) ⟨cut_one (u := c_strings_genSplit_0 K) rfl (k_strings_genSplit_0 K), cut_one (u := c_strings_genSplit_1 K) rfl (k_strings_genSplit_1 K), trivial⟩) (q_strings_genSplit K)
/-! ### 66 strings.Split -/
def f_strings_Split (K : Nat) (s sep : D) : Option (List D) :=
  (f_strings_genSplit K s sep (D.i 0) (D.i (-1))).bind fun t1 =>
  some [D.nth t1 0]
def e_strings_Split (K : Nat) : Entry := { n := 2, sh := { sl := [(0, .d 9 false), (1, .d 9 false)], ob := [] }, kept := [], rs := [{ sl := [(0, .d 26 true)], ob := [] }], f := fun ds => f_strings_Split K (D.nth ds 0) (D.nth ds 1), tot := none }
def T_strings_Split (K : Nat) : Tbl := { T0 with ents := entsOf [(98, e_strings_genSplit K)], cuts := lk [] }
theorem q_strings_Split (K : Nat) (ds : List D) : evFn (T_strings_Split K) Tryz.f66 .go (e_strings_Split K) ds = (e_strings_Split K).f ds := by kernel_rfl
theorem ok_strings_Split (K : Nat) : FnOK Tryz.prog T0 66 (e_strings_Split K) :=
  fn_thm (T0 := T0) (T := T_strings_Split K) rfl (hT_of hT0 rfl rfl rfl) (hes_ok (T0 := T0) (T := T_strings_Split K) rfl rfl (⟨ok_strings_genSplit K, trivial⟩ : FAll Tryz.prog T0 [(98, e_strings_genSplit K)])) Tryz.func66 (by decide) rfl (Nat.le_of_ble_eq_true rfl) rfl rfl rfl (tot_none rfl) (cutsOK_none (by rfl)) (q_strings_Split K)
/-! ### 43 gatewarden/token.isScope -/
def b_token_isScope_0 (K : Nat) (rec : List D → Option (Nat × List D)) (ds : List D) : Option (Nat × List D) :=
  let l := D.nth ds 0
  let s8 := D.nth ds 1
  let s9 := D.nth ds 2
  let s10 := D.nth ds 3
  bif (ltI s10.int s9.int) then
    bif (inB s10.int s8.list.length) then
      (f_kit_IsKey K (D.nth s8.list s10.int.toNat)).bind fun t2 =>
      bif (bif (!((D.nth t2 0).bool)) then (!(bif (((D.nth s8.list s10.int.toNat).str) == ([42] : List UInt8)) then (s10.int == (IntKind.i64.wrap ((l.list.length : Int) - (1 : Int)))) else false)) else false) then
        some (0, [D.b false])
      else
        rec [l, s8, s9, D.i (IntKind.i64.wrap (s10.int + (1 : Int)))]
    else
      none
  else
    some (1, [])
def c_token_isScope_0 (K : Nat) : Cut := { sh := { sl := [(3, .d 26 true), (8, .d 26 true), (9, .d 3 true), (10, .d 3 true)], ob := [] }, kept := [], outs := [(.ret, { sl := [(2, .d 4 true)], ob := [] }), (.exit 0, { sl := [], ob := [] })], f := fun ds => fixN (b_token_isScope_0 K) K ds }
def f_token_isScope (K : Nat) (s : D) : Option (List D) :=
  (f_strings_Split K s (D.s [58])).bind fun t1 =>
  (fixN (b_token_isScope_0 K) K [D.nth t1 0, D.nth t1 0, D.i (((D.nth t1 0).list).length : Int), D.i 0]).bind fun t2 =>
  bif (t2.1.beq 0) then
    some [D.nth t2.2 0]
  else
    some [D.b (leI (((D.nth t1 0).list).length : Int) 10)]
def e_token_isScope (K : Nat) : Entry := { n := 1, sh := { sl := [(0, .d 9 false)], ob := [] }, kept := [], rs := [{ sl := [(0, .d 4 true)], ob := [] }], f := fun ds => f_token_isScope K (D.nth ds 0), tot := none }
def T_token_isScope (K : Nat) : Tbl := { T0 with ents := entsOf [(66, e_strings_Split K), (56, e_kit_IsKey K)], cuts := lk [(0, c_token_isScope_0 K)] }
theorem q_token_isScope_0 (K : Nat) (rec : List D → Option (Nat × List D)) (ds : List D) : evLoop (T_token_isScope K) 34 (sub (codeOf Tryz.f43) [1, 1, 0, 1, 0, 0]) .go (c_token_isScope_0 K) rec ds = b_token_isScope_0 K rec ds := by kernel_rfl
theorem k_token_isScope_0 (K : Nat) : CutOK Tryz.prog (T_token_isScope K) 34 (sub (codeOf Tryz.f43) [1, 1, 0, 1, 0]) (c_token_isScope_0 K) :=
  loop_thm (T := T_token_isScope K) (hT_of hT0 rfl rfl rfl) (hes_ok (T0 := T0) (T := T_token_isScope K) rfl rfl (⟨ok_strings_Split K, ok_kit_IsKey K, trivial⟩ : FAll Tryz.prog T0 [(66, e_strings_Split K), (56, e_kit_IsKey K)])) (by kernel_rfl) rfl rfl rfl (cutsOK_none (by rfl)) rfl (q_token_isScope_0 K)
theorem q_token_isScope (K : Nat) (ds : List D) : evFn (T_token_isScope K) Tryz.f43 (.seq .go (.seq .go (.seq (.seq .go (.blk (.cut 0))) .go))) (e_token_isScope K) ds = (e_token_isScope K).f ds := by kernel_rfl
theorem ok_token_isScope (K : Nat) : FnOK Tryz.prog T0 43 (e_token_isScope K) :=
  fn_thm (T0 := T0) (T := T_token_isScope K) rfl (hT_of hT0 rfl rfl rfl) (hes_ok (T0 := T0) (T := T_token_isScope K) rfl rfl (⟨ok_strings_Split K, ok_kit_IsKey K, trivial⟩ : FAll Tryz.prog T0 [(66, e_strings_Split K), (56, e_kit_IsKey K)])) Tryz.func43 (by decide) rfl (Nat.le_of_ble_eq_true rfl) rfl rfl rfl (tot_none rfl) (cutsOK_list (l := [(0, sub (codeOf Tryz.f43) [1, 1, 0, 1, 0])]) (by kernel_rfl) ⟨cut_one (u := c_token_isScope_0 K) rfl (k_token_isScope_0 K), trivial⟩) (q_token_isScope K)
/-! ### 12 gatewarden/token.CheckScopes -/
def b_token_CheckScopes_0 (K : Nat) (rec : List D → Option (Nat × List D)) (ds : List D) : Option (Nat × List D) :=
  let s8 := D.nth ds 0
  let s9 := D.nth ds 1
  let s10 := D.nth ds 2
  bif (ltI s10.int s9.int) then
    bif (inB s10.int s8.list.length) then
      (f_token_isScope K (D.nth s8.list s10.int.toNat)).bind fun t1 =>
      bif (!((D.nth t1 0).bool)) then
        some (0, [D.i 3])
      else
        rec [s8, s9, D.i (IntKind.i64.wrap (s10.int + (1 : Int)))]
    else
      none
  else
    some (1, [])
def c_token_CheckScopes_0 (K : Nat) : Cut := { sh := { sl := [(8, .d 26 false), (9, .d 3 true), (10, .d 3 true)], ob := [] }, kept := [], outs := [(.ret, { sl := [(2, .d 28 true)], ob := [] }), (.exit 0, { sl := [], ob := [] })], f := fun ds => fixN (b_token_CheckScopes_0 K) K ds }
def f_token_CheckScopes (K : Nat) (l : D) : Option (List D) :=
  bif (gtI (l.list.length : Int) 50) then
    some [D.i 2]
  else
    (fixN (b_token_CheckScopes_0 K) K [l, D.i (l.list.length : Int), D.i 0]).bind fun t1 =>
    bif (t1.1.beq 0) then
      some [D.nth t1.2 0]
    else
      some [D.i 0]
def e_token_CheckScopes (K : Nat) : Entry := { n := 1, sh := { sl := [(0, .d 26 false)], ob := [] }, kept := [], rs := [{ sl := [(0, .d 28 true)], ob := [] }], f := fun ds => f_token_CheckScopes K (D.nth ds 0), tot := none }
def T_token_CheckScopes (K : Nat) : Tbl := { T0 with ents := entsOf [(43, e_token_isScope K)], cuts := lk [(0, c_token_CheckScopes_0 K)] }
theorem q_token_CheckScopes_0 (K : Nat) (rec : List D → Option (Nat × List D)) (ds : List D) : evLoop (T_token_CheckScopes K) 18 (sub (codeOf Tryz.f12) [1, 1, 0, 1, 0, 0]) .go (c_token_CheckScopes_0 K) rec ds = b_token_CheckScopes_0 K rec ds := by kernel_rfl
theorem k_token_CheckScopes_0 (K : Nat) : CutOK Tryz.prog (T_token_CheckScopes K) 18 (sub (codeOf Tryz.f12) [1, 1, 0, 1, 0]) (c_token_CheckScopes_0 K) :=
  loop_thm (T := T_token_CheckScopes K) (hT_of hT0 rfl rfl rfl) (hes_ok (T0 := T0) (T := T_token_CheckScopes K) rfl rfl (⟨ok_token_isScope K, trivial⟩ : FAll Tryz.prog T0 [(43, e_token_isScope K)])) (by kernel_rfl) rfl rfl rfl (cutsOK_none (by rfl)) rfl (q_token_CheckScopes_0 K)
theorem q_token_CheckScopes (K : Nat) (ds : List D) : evFn (T_token_CheckScopes K) Tryz.f12 (.seq .go (.seq .go (.seq (.seq .go (.blk (.cut 0))) .go))) (e_token_CheckScopes K) ds = (e_token_CheckScopes K).f ds := by kernel_rfl
theorem ok_token_CheckScopes (K : Nat) : FnOK Tryz.prog T0 12 (e_token_CheckScopes K) :=
  fn_thm (T0 := T0) (T := T_token_CheckScopes K) rfl (hT_of hT0 rfl rfl rfl) (hes_ok (T0 := T0) (T := T_token_CheckScopes K) rfl rfl (⟨ok_token_isScope K, trivial⟩ : FAll Tryz.prog T0 [(43, e_token_isScope K)])) Tryz.func12 (by decide) rfl (Nat.le_of_ble_eq_true rfl) rfl rfl rfl (tot_none rfl) (cutsOK_list (l := [(0, sub (codeOf Tryz.f12) [1, 1, 0, 1, 0])]) (by kernel_rfl) ⟨cut_one (u := c_token_CheckScopes_0 K) rfl (k_token_CheckScopes_0 K), trivial⟩) (q_token_CheckScopes K)
/-! ### 57 slices.Clone[[]string,string] -/
def b_slices_Clone_string_0 (K : Nat) (ds : List D) : Option (Nat × List D) :=
  let s := D.nth ds 0
  bif (lim (0 + s.list.length)) then
    some (0, [D.n s.list])
  else
    none
def c_slices_Clone_string_0 (K : Nat) : Cut := { sh := { sl := [(0, .d 26 false)], ob := [] }, kept := [], outs := [(.ret, { sl := [(2, .own 26 0)], ob := [(0, .row 9 true)] })], f := b_slices_Clone_string_0 K }
def f_slices_Clone_string (K : Nat) (s : D) : Option (List D) :=
  (b_slices_Clone_string_0 K [s]).bind fun t1 =>
  some [D.n ((D.nth t1.2 0).list)]
def e_slices_Clone_string (K : Nat) : Entry := { n := 1, sh := { sl := [(0, .d 26 false)], ob := [] }, kept := [], rs := [{ sl := [(0, .own 26 0)], ob := [(0, .row 9 true)] }], f := fun ds => f_slices_Clone_string K (D.nth ds 0), tot := none }
def T_slices_Clone_string (K : Nat) : Tbl := { T0 with ents := entsOf [], cuts := lk [(0, c_slices_Clone_string_0 K)] }
theorem q_slices_Clone_string_0 (K : Nat) (ds : List D) : evPiece (T_slices_Clone_string K) 8 (sub (codeOf Tryz.f57) [1, 1]) .go (c_slices_Clone_string_0 K) ds = b_slices_Clone_string_0 K ds := by kernel_rfl
theorem k_slices_Clone_string_0 (K : Nat) : CutOK Tryz.prog (T_slices_Clone_string K) 8 (sub (codeOf Tryz.f57) [1]) (c_slices_Clone_string_0 K) :=
  clone_thm (T := T_slices_Clone_string K) (rest := sub (codeOf Tryz.f57) [1, 1]) (hT_of hT0 rfl rfl rfl) rfl (piece_thm (T := T_slices_Clone_string K) (hT_of hT0 rfl rfl rfl) (hes_ok (T0 := T0) (T := T_slices_Clone_string K) rfl rfl (trivial : FAll Tryz.prog T0 [])) rfl rfl rfl (cutsOK_none (by rfl)) (q_slices_Clone_string_0 K)) rfl rfl rfl (fun ds out h0 h => clone_f h0 h) rfl rfl
theorem q_slices_Clone_string (K : Nat) (ds : List D) : evFn (T_slices_Clone_string K) Tryz.f57 (.seq .go (.cut 0)) (e_slices_Clone_string K) ds = (e_slices_Clone_string K).f ds := by kernel_rfl
theorem ok_slices_Clone_string (K : Nat) : FnOK Tryz.prog T0 57 (e_slices_Clone_string K) :=
  fn_thm (T0 := T0) (T := T_slices_Clone_string K) rfl (hT_of hT0 rfl rfl rfl) (hes_ok (T0 := T0) (T := T_slices_Clone_string K) rfl rfl (trivial : FAll Tryz.prog T0 [])) Tryz.func57 (by decide) rfl (Nat.le_of_ble_eq_true rfl) rfl rfl rfl (tot_none rfl) (cutsOK_list (l := [(0, sub (codeOf Tryz.f57) [1])]) (by kernel_rfl) ⟨cut_one (u := c_slices_Clone_string_0 K) rfl (k_slices_Clone_string_0 K), trivial⟩) (q_slices_Clone_string K)
/-! ### 80 gatewarden/kit.Rising -/
def f_kit_Rising (K : Nat) (l : D) : Option (List D) :=
  (f_slices_Clone_string K l).bind fun t1 =>
  (f_slices_Sort_string (D.n ((D.nth t1 0).list))).bind fun t2 =>
  some [D.n ((D.nth (p_slices_Compact_string (D.n ((D.nth t2 0).list))) 0).list)]
def e_kit_Rising (K : Nat) : Entry := { n := 1, sh := { sl := [(0, .d 26 false)], ob := [] }, kept := [], rs := [{ sl := [(0, .own 26 0)], ob := [(0, .row 9 true)] }], f := fun ds => f_kit_Rising K (D.nth ds 0), tot := none }
def T_kit_Rising (K : Nat) : Tbl := { T0 with ents := entsOf [(57, e_slices_Clone_string K), (49, e_slices_Sort_string K), (50, e_slices_Compact_string K)], cuts := lk [] }
theorem q_kit_Rising (K : Nat) (ds : List D) : evFn (T_kit_Rising K) Tryz.f80 .go (e_kit_Rising K) ds = (e_kit_Rising K).f ds := by kernel_rfl
theorem ok_kit_Rising (K : Nat) : FnOK Tryz.prog T0 80 (e_kit_Rising K) :=
  fn_thm (T0 := T0) (T := T_kit_Rising K) rfl (hT_of hT0 rfl rfl rfl) (hes_ok (T0 := T0) (T := T_kit_Rising K) rfl rfl (⟨ok_slices_Clone_string K, ok_slices_Sort_string K, ok_slices_Compact_string K, trivial⟩ : FAll Tryz.prog T0 [(57, e_slices_Clone_string K), (49, e_slices_Sort_string K), (50, e_slices_Compact_string K)])) Tryz.func80 (by decide) rfl (Nat.le_of_ble_eq_true rfl) rfl rfl rfl (tot_none rfl) (cutsOK_none (by rfl)) (q_kit_Rising K)
/-! ### 41 gatewarden/token.covers -/
def f_token_covers (K : Nat) (a b : D) : Option (List D) :=
  bif (a.str == b.str) then
    some [D.b true]
  else
    (f_strings_CutSuffix K a (D.s [42])).bind fun t1 =>
    bif (D.nth t1 1).bool then
      (f_strings_HasPrefix K b (D.nth t1 0)).bind fun t2 =>
      some [D.b ((D.nth t2 0).bool)]
    else
      some [D.b false]
def e_token_covers (K : Nat) : Entry := { n := 2, sh := { sl := [(0, .d 9 false), (1, .d 9 false)], ob := [] }, kept := [], rs := [{ sl := [(0, .d 4 true)], ob := [] }], f := fun ds => f_token_covers K (D.nth ds 0) (D.nth ds 1), tot := none }
def T_token_covers (K : Nat) : Tbl := { T0 with ents := entsOf [(84, e_strings_CutSuffix K), (85, e_strings_HasPrefix K)], cuts := lk [] }
theorem q_token_covers (K : Nat) (ds : List D) : evFn (T_token_covers K) Tryz.f41 .go (e_token_covers K) ds = (e_token_covers K).f ds := by kernel_rfl
theorem ok_token_covers (K : Nat) : FnOK Tryz.prog T0 41 (e_token_covers K) :=
  fn_thm (T0 := T0) (T := T_token_covers K) rfl (hT_of hT0 rfl rfl rfl) (hes_ok (T0 := T0) (T := T_token_covers K) rfl rfl (⟨ok_strings_CutSuffix K, ok_strings_HasPrefix K, trivial⟩ : FAll Tryz.prog T0 [(84, e_strings_CutSuffix K), (85, e_strings_HasPrefix K)])) Tryz.func41 (by decide) rfl (Nat.le_of_ble_eq_true rfl) rfl rfl rfl (tot_none rfl) (cutsOK_none (by rfl)) (q_token_covers K)
/-! ### 83 gatewarden/token.least$1$1 -/
def f_token_least_f1_f1 (K : Nat) (h s1 : D) : Option (List D) :=
  bif (!(h.str == s1.str)) then
    (f_token_covers K h s1).bind fun t1 =>
    some [D.b ((D.nth t1 0).bool)]
  else
    some [D.b false]
def e_token_least_f1_f1 (K : Nat) : Entry := { n := 2, sh := { sl := [(0, .d 9 false), (1, .bx 9 false (.d 9 false))], ob := [] }, kept := [], rs := [{ sl := [(0, .d 4 true)], ob := [] }], f := fun ds => f_token_least_f1_f1 K (D.nth ds 0) (D.nth ds 1), tot := none }
def T_token_least_f1_f1 (K : Nat) : Tbl := { T0 with ents := entsOf [(41, e_token_covers K)], cuts := lk [] }
theorem q_token_least_f1_f1 (K : Nat) (ds : List D) : evFn (T_token_least_f1_f1 K) Tryz.f83 .go (e_token_least_f1_f1 K) ds = (e_token_least_f1_f1 K).f ds := by kernel_rfl
theorem ok_token_least_f1_f1 (K : Nat) : FnOK Tryz.prog T0 83 (e_token_least_f1_f1 K) :=
  fn_thm (T0 := T0) (T := T_token_least_f1_f1 K) rfl (hT_of hT0 rfl rfl rfl) (hes_ok (T0 := T0) (T := T_token_least_f1_f1 K) rfl rfl (⟨ok_token_covers K, trivial⟩ : FAll Tryz.prog T0 [(41, e_token_covers K)])) Tryz.func83 (by decide) rfl (Nat.le_of_ble_eq_true rfl) rfl rfl rfl (tot_none rfl) (cutsOK_none (by rfl)) (q_token_least_f1_f1 K)
/-! ### 86 slices.IndexFunc[[]string,string] -/
def b_slices_IndexFunc_string_of_token_least_f1_f1_0 (K : Nat) (rec : List D → Option (Nat × List D)) (ds : List D) : Option (Nat × List D) :=
  let s := D.nth ds 0
  let f_0 := D.nth ds 1
  let s7 := D.nth ds 2
  let s8 := D.nth ds 3
  bif (ltI s8.int s7.int) then
    bif (inB s8.int s.list.length) then
      (f_token_least_f1_f1 K (D.nth s.list s8.int.toNat) f_0).bind fun t1 =>
      bif (D.nth t1 0).bool then
        some (0, [s8])
      else
        rec [s, f_0, s7, D.i (IntKind.i64.wrap (s8.int + (1 : Int)))]
    else
      none
  else
    some (1, [])
def c_slices_IndexFunc_string_of_token_least_f1_f1_0 (K : Nat) : Cut := { sh := { sl := [(0, .d 26 false), (1, .fn 83 [.bx 9 false (.d 9 true)]), (7, .d 3 true), (8, .d 3 true)], ob := [] }, kept := [], outs := [(.ret, { sl := [(4, .d 3 true)], ob := [] }), (.exit 0, { sl := [], ob := [] })], f := fun ds => fixN (b_slices_IndexFunc_string_of_token_least_f1_f1_0 K) K ds }
def f_slices_IndexFunc_string_of_token_least_f1_f1 (K : Nat) (s f_0 : D) : Option (List D) :=
  (fixN (b_slices_IndexFunc_string_of_token_least_f1_f1_0 K) K [s, f_0, D.i (s.list.length : Int), D.i 0]).bind fun t1 =>
  bif (t1.1.beq 0) then
    some [D.nth t1.2 0]
  else
    some [D.i (-1)]
def e_slices_IndexFunc_string_of_token_least_f1_f1 (K : Nat) : Entry := { n := 2, sh := { sl := [(0, .d 26 false), (1, .fn 83 [.bx 9 false (.d 9 false)])], ob := [] }, kept := [], rs := [{ sl := [(0, .d 3 true)], ob := [] }], f := fun ds => f_slices_IndexFunc_string_of_token_least_f1_f1 K (D.nth ds 0) (D.nth ds 1), tot := none }
def T_slices_IndexFunc_string_of_token_least_f1_f1 (K : Nat) : Tbl := { T0 with ents := entsOf [(83, e_token_least_f1_f1 K)], cuts := lk [(0, c_slices_IndexFunc_string_of_token_least_f1_f1_0 K)] }
theorem q_slices_IndexFunc_string_of_token_least_f1_f1_0 (K : Nat) (rec : List D → Option (Nat × List D)) (ds : List D) : evLoop (T_slices_IndexFunc_string_of_token_least_f1_f1 K) 19 (sub (codeOf Tryz.f86) [1, 0, 1, 0, 0]) .go (c_slices_IndexFunc_string_of_token_least_f1_f1_0 K) rec ds = b_slices_IndexFunc_string_of_token_least_f1_f1_0 K rec ds := by kernel_rfl
theorem k_slices_IndexFunc_string_of_token_least_f1_f1_0 (K : Nat) : CutOK Tryz.prog (T_slices_IndexFunc_string_of_token_least_f1_f1 K) 19 (sub (codeOf Tryz.f86) [1, 0, 1, 0]) (c_slices_IndexFunc_string_of_token_least_f1_f1_0 K) :=
  loop_thm (T := T_slices_IndexFunc_string_of_token_least_f1_f1 K) (hT_of hT0 rfl rfl rfl) (hes_ok (T0 := T0) (T := T_slices_IndexFunc_string_of_token_least_f1_f1 K) rfl rfl (⟨ok_token_least_f1_f1 K, trivial⟩ : FAll Tryz.prog T0 [(83, e_token_least_f1_f1 K)])) (by kernel_rfl) rfl rfl rfl (cutsOK_none (by rfl)) rfl (q_slices_IndexFunc_string_of_token_least_f1_f1_0 K)
theorem q_slices_IndexFunc_string_of_token_least_f1_f1 (K : Nat) (ds : List D) : evFn (T_slices_IndexFunc_string_of_token_least_f1_f1 K) Tryz.f86 (.seq .go (.seq (.seq .go (.blk (.cut 0))) .go)) (e_slices_IndexFunc_string_of_token_least_f1_f1 K) ds = (e_slices_IndexFunc_string_of_token_least_f1_f1 K).f ds := by kernel_rfl
theorem ok_slices_IndexFunc_string_of_token_least_f1_f1 (K : Nat) : FnOK Tryz.prog T0 86 (e_slices_IndexFunc_string_of_token_least_f1_f1 K) :=
  fn_thm (T0 := T0) (T := T_slices_IndexFunc_string_of_token_least_f1_f1 K) rfl (hT_of hT0 rfl rfl rfl) (hes_ok (T0 := T0) (T := T_slices_IndexFunc_string_of_token_least_f1_f1 K) rfl rfl (⟨ok_token_least_f1_f1 K, trivial⟩ : FAll Tryz.prog T0 [(83, e_token_least_f1_f1 K)])) Tryz.func86 (by decide) rfl (Nat.le_of_ble_eq_true rfl) rfl rfl rfl (tot_none rfl) (cutsOK_list (l := [(0, sub (codeOf Tryz.f86) [1, 0, 1, 0])]) (by kernel_rfl) ⟨cut_one (u := c_slices_IndexFunc_string_of_token_least_f1_f1_0 K) rfl (k_slices_IndexFunc_string_of_token_least_f1_f1_0 K), trivial⟩) (q_slices_IndexFunc_string_of_token_least_f1_f1 K)
/-! ### 44 slices.ContainsFunc[[]string,string] -/
def f_slices_ContainsFunc_string_of_token_least_f1_f1 (K : Nat) (s f_0 : D) : Option (List D) :=
  (f_slices_IndexFunc_string_of_token_least_f1_f1 K s f_0).bind fun t1 =>
  some [D.b (geI ((D.nth t1 0).int) 0)]
def e_slices_ContainsFunc_string_of_token_least_f1_f1 (K : Nat) : Entry := { n := 2, sh := { sl := [(0, .d 26 false), (1, .fn 83 [.bx 9 false (.d 9 false)])], ob := [] }, kept := [], rs := [{ sl := [(0, .d 4 true)], ob := [] }], f := fun ds => f_slices_ContainsFunc_string_of_token_least_f1_f1 K (D.nth ds 0) (D.nth ds 1), tot := none }
def T_slices_ContainsFunc_string_of_token_least_f1_f1 (K : Nat) : Tbl := { T0 with ents := entsOf [(86, e_slices_IndexFunc_string_of_token_least_f1_f1 K)], cuts := lk [] }
theorem q_slices_ContainsFunc_string_of_token_least_f1_f1 (K : Nat) (ds : List D) : evFn (T_slices_ContainsFunc_string_of_token_least_f1_f1 K) Tryz.f44 .go (e_slices_ContainsFunc_string_of_token_least_f1_f1 K) ds = (e_slices_ContainsFunc_string_of_token_least_f1_f1 K).f ds := by kernel_rfl
theorem ok_slices_ContainsFunc_string_of_token_least_f1_f1 (K : Nat) : FnOK Tryz.prog T0 44 (e_slices_ContainsFunc_string_of_token_least_f1_f1 K) :=
  fn_thm (T0 := T0) (T := T_slices_ContainsFunc_string_of_token_least_f1_f1 K) rfl (hT_of hT0 rfl rfl rfl) (hes_ok (T0 := T0) (T := T_slices_ContainsFunc_string_of_token_least_f1_f1 K) rfl rfl (⟨ok_slices_IndexFunc_string_of_token_least_f1_f1 K, trivial⟩ : FAll Tryz.prog T0 [(86, e_slices_IndexFunc_string_of_token_least_f1_f1 K)])) Tryz.func44 (by decide) rfl (Nat.le_of_ble_eq_true rfl) rfl rfl rfl (tot_none rfl) (cutsOK_none (by rfl)) (q_slices_ContainsFunc_string_of_token_least_f1_f1 K)
/-! ### 82 gatewarden/token.least$1 -/
def f_token_least_f1 (K : Nat) (s r1 : D) : Option (List D) :=
  (f_slices_ContainsFunc_string_of_token_least_f1_f1 K (D.n r1.list) s).bind fun t1 =>
  some [D.nth t1 0, D.n r1.list]
def e_token_least_f1 (K : Nat) : Entry := { n := 2, sh := { sl := [(0, .d 9 false), (1, .ptr 26 0 [])], ob := [(0, .box 26 (.own 26 1)), (1, .row 9 true)] }, kept := [0, 1], rs := [{ sl := [(0, .d 4 true)], ob := [(0, .box 26 (.own 26 1)), (1, .row 9 true)] }], f := fun ds => f_token_least_f1 K (D.nth ds 0) (D.nth ds 1), tot := none }
def T_token_least_f1 (K : Nat) : Tbl := { T0 with frz := fun s => memN [2] s, ents := entsOf [(44, e_slices_ContainsFunc_string_of_token_least_f1_f1 K)], cuts := lk [] }
theorem q_token_least_f1 (K : Nat) (ds : List D) : evFn (T_token_least_f1 K) Tryz.f82 .go (e_token_least_f1 K) ds = (e_token_least_f1 K).f ds := by kernel_rfl
theorem ok_token_least_f1 (K : Nat) : FnOK Tryz.prog T0 82 (e_token_least_f1 K) :=
  fn_thm (T0 := T0) (T := T_token_least_f1 K) rfl (hT_of hT0 rfl rfl rfl) (hes_ok (T0 := T0) (T := T_token_least_f1 K) rfl rfl (⟨ok_slices_ContainsFunc_string_of_token_least_f1_f1 K, trivial⟩ : FAll Tryz.prog T0 [(44, e_slices_ContainsFunc_string_of_token_least_f1_f1 K)])) Tryz.func82 (by decide) rfl (Nat.le_of_ble_eq_true rfl) rfl rfl rfl (tot_none rfl) (cutsOK_none (by rfl)) (q_token_least_f1 K)
/-! ### 86 slices.IndexFunc[[]string,string] -/
def b_slices_IndexFunc_string_of_token_least_f1_0 (K : Nat) (rec : List D → Option (Nat × List D)) (ds : List D) : Option (Nat × List D) :=
  let s := D.nth ds 0
  let s7 := D.nth ds 1
  let s8 := D.nth ds 2
  let r1 := D.nth ds 3
  bif (ltI s8.int s7.int) then
    bif (inB s8.int s.list.length) then
      (f_token_least_f1 K (D.nth s.list s8.int.toNat) (D.n r1.list)).bind fun t1 =>
      bif (D.nth t1 0).bool then
        some (0, [s8, D.n ((D.nth t1 1).list)])
      else
        rec [s, s7, D.i (IntKind.i64.wrap (s8.int + (1 : Int))), D.n ((D.nth t1 1).list)]
    else
      none
  else
    some (1, [D.n r1.list])
def c_slices_IndexFunc_string_of_token_least_f1_0 (K : Nat) : Cut := { sh := { sl := [(0, .d 26 false), (1, .fn 82 [.ptr 26 0 []]), (7, .d 3 true), (8, .d 3 true)], ob := [(0, .box 26 (.own 26 1)), (1, .row 9 true)] }, kept := [0, 1], outs := [(.ret, { sl := [(4, .d 3 true)], ob := [(0, .box 26 (.own 26 1)), (1, .row 9 true)] }), (.exit 0, { sl := [], ob := [(0, .box 26 (.own 26 1)), (1, .row 9 true)] })], f := fun ds => fixN (b_slices_IndexFunc_string_of_token_least_f1_0 K) K ds }
def f_slices_IndexFunc_string_of_token_least_f1 (K : Nat) (s r1 : D) : Option (List D) :=
  (fixN (b_slices_IndexFunc_string_of_token_least_f1_0 K) K [s, D.i (s.list.length : Int), D.i 0, D.n r1.list]).bind fun t1 =>
  bif (t1.1.beq 0) then
    some [D.nth t1.2 0, D.n ((D.nth t1.2 1).list)]
  else
    some [D.i (-1), D.n ((D.nth t1.2 0).list)]
def e_slices_IndexFunc_string_of_token_least_f1 (K : Nat) : Entry := { n := 2, sh := { sl := [(0, .d 26 false), (1, .fn 82 [.ptr 26 0 []])], ob := [(0, .box 26 (.own 26 1)), (1, .row 9 true)] }, kept := [0, 1], rs := [{ sl := [(0, .d 3 true)], ob := [(0, .box 26 (.own 26 1)), (1, .row 9 true)] }], f := fun ds => f_slices_IndexFunc_string_of_token_least_f1 K (D.nth ds 0) (D.nth ds 1), tot := none }
def T_slices_IndexFunc_string_of_token_least_f1 (K : Nat) : Tbl := { T0 with ents := entsOf [(82, e_token_least_f1 K)], cuts := lk [(0, c_slices_IndexFunc_string_of_token_least_f1_0 K)] }
theorem q_slices_IndexFunc_string_of_token_least_f1_0 (K : Nat) (rec : List D → Option (Nat × List D)) (ds : List D) : evLoop (T_slices_IndexFunc_string_of_token_least_f1 K) 19 (sub (codeOf Tryz.f86) [1, 0, 1, 0, 0]) .go (c_slices_IndexFunc_string_of_token_least_f1_0 K) rec ds = b_slices_IndexFunc_string_of_token_least_f1_0 K rec ds := by kernel_rfl
theorem k_slices_IndexFunc_string_of_token_least_f1_0 (K : Nat) : CutOK Tryz.prog (T_slices_IndexFunc_string_of_token_least_f1 K) 19 (sub (codeOf Tryz.f86) [1, 0, 1, 0]) (c_slices_IndexFunc_string_of_token_least_f1_0 K) :=
  loop_thm (T := T_slices_IndexFunc_string_of_token_least_f1 K) (hT_of hT0 rfl rfl rfl) (hes_ok (T0 := T0) (T := T_slices_IndexFunc_string_of_token_least_f1 K) rfl rfl (⟨ok_token_least_f1 K, trivial⟩ : FAll Tryz.prog T0 [(82, e_token_least_f1 K)])) (by kernel_rfl) rfl rfl rfl (cutsOK_none (by rfl)) rfl (q_slices_IndexFunc_string_of_token_least_f1_0 K)
theorem q_slices_IndexFunc_string_of_token_least_f1 (K : Nat) (ds : List D) : evFn (T_slices_IndexFunc_string_of_token_least_f1 K) Tryz.f86 (.seq .go (.seq (.seq .go (.blk (.cut 0))) .go)) (e_slices_IndexFunc_string_of_token_least_f1 K) ds = (e_slices_IndexFunc_string_of_token_least_f1 K).f ds := by kernel_rfl
theorem ok_slices_IndexFunc_string_of_token_least_f1 (K : Nat) : FnOK Tryz.prog T0 86 (e_slices_IndexFunc_string_of_token_least_f1 K) :=
  fn_thm (T0 := T0) (T := T_slices_IndexFunc_string_of_token_least_f1 K) rfl (hT_of hT0 rfl rfl rfl) (hes_ok (T0 := T0) (T := T_slices_IndexFunc_string_of_token_least_f1 K) rfl rfl (⟨ok_token_least_f1 K, trivial⟩ : FAll Tryz.prog T0 [(82, e_token_least_f1 K)])) Tryz.func86 (by decide) rfl (Nat.le_of_ble_eq_true rfl) rfl rfl rfl (tot_none rfl) (cutsOK_list (l := [(0, sub (codeOf Tryz.f86) [1, 0, 1, 0])]) (by kernel_rfl) ⟨cut_one (u := c_slices_IndexFunc_string_of_token_least_f1_0 K) rfl (k_slices_IndexFunc_string_of_token_least_f1_0 K), trivial⟩) (q_slices_IndexFunc_string_of_token_least_f1 K)
/-! ### 81 slices.DeleteFunc[[]string,string] -/
def b_slices_DeleteFunc_string_of_token_least_f1_0 (K : Nat) (rec : List D → Option (Nat × List D)) (ds : List D) : Option (Nat × List D) :=
  let i := D.nth ds 0
  let j := D.nth ds 1
  let r0 := D.nth ds 2
  let r2 := D.nth ds 3
  bif (ltI j.int (r0.list.length : Int)) then
    bif (inB j.int r0.list.length) then
      (f_token_least_f1 K (D.nth r0.list j.int.toNat) (D.n r2.list)).bind fun t2 =>
      bif (!((D.nth t2 0).bool)) then
        bif (inB i.int r0.list.length) then
          rec [D.i (IntKind.i64.wrap (i.int + (1 : Int))), D.i (IntKind.i64.wrap (j.int + (1 : Int))), D.n (D.setNth r0.list i.int.toNat (D.nth r0.list j.int.toNat)), D.n ((D.nth t2 1).list)]
        else
          none
      else
        rec [i, D.i (IntKind.i64.wrap (j.int + (1 : Int))), D.n r0.list, D.n ((D.nth t2 1).list)]
    else
      none
  else
    some (0, [i, D.n r0.list, D.n r2.list])
def c_slices_DeleteFunc_string_of_token_least_f1_0 (K : Nat) : Cut := { sh := { sl := [(0, .own 26 0), (1, .fn 82 [.ptr 26 1 []]), (5, .d 3 true), (6, .d 3 true)], ob := [(0, .row 9 true), (1, .box 26 (.own 26 2)), (2, .row 9 true)] }, kept := [0, 1, 2], outs := [(.exit 0, { sl := [(5, .d 3 true)], ob := [(0, .row 9 true), (1, .box 26 (.own 26 2)), (2, .row 9 true)] })], f := fun ds => fixN (b_slices_DeleteFunc_string_of_token_least_f1_0 K) K ds }
def c_slices_DeleteFunc_string_of_token_least_f1_1 (K : Nat) : Cut := { sh := { sl := [(0, .own 26 0), (5, .d 3 true)], ob := [(0, .row 9 true)] }, kept := [0], outs := [(.normal, { sl := [], ob := [(0, .row 9 true)] })], f := clearRow }
def f_slices_DeleteFunc_string_of_token_least_f1 (K : Nat) (r0 r2 : D) : Option (List D) :=
  (f_slices_IndexFunc_string_of_token_least_f1 K (D.n r0.list) (D.n r2.list)).bind fun t1 =>
  bif (((D.nth t1 0).int) == ((-1) : Int)) then
    some [D.n r0.list, D.n ((D.nth t1 1).list)]
  else
    (fixN (b_slices_DeleteFunc_string_of_token_least_f1_0 K) K [D.nth t1 0, D.i (IntKind.i64.wrap (((D.nth t1 0).int) + (1 : Int))), D.n r0.list, D.n ((D.nth t1 1).list)]).bind fun t2 =>
    (clearRow [D.nth t2.2 0, D.n ((D.nth t2.2 1).list)]).bind fun t3 =>
    bif (inB ((D.nth t2.2 0).int) (((D.nth t3.2 0).list).length + 1)) then
      some [D.n (((D.nth t3.2 0).list).take (((D.nth t2.2 0).int).toNat)), D.n ((D.nth t2.2 2).list)]
    else
      none
def e_slices_DeleteFunc_string_of_token_least_f1 (K : Nat) : Entry := { n := 2, sh := { sl := [(0, .own 26 0), (1, .fn 82 [.ptr 26 1 []])], ob := [(0, .row 9 true), (1, .box 26 (.own 26 2)), (2, .row 9 true)] }, kept := [1, 2], rs := [{ sl := [(0, .own 26 0)], ob := [(0, .row 9 true), (1, .box 26 (.own 26 2)), (2, .row 9 true)] }], f := fun ds => f_slices_DeleteFunc_string_of_token_least_f1 K (D.nth ds 0) (D.nth ds 1), tot := none }
def T_slices_DeleteFunc_string_of_token_least_f1 (K : Nat) : Tbl := { T0 with ents := entsOf [(86, e_slices_IndexFunc_string_of_token_least_f1 K), (82, e_token_least_f1 K)], cuts := lk [(0, c_slices_DeleteFunc_string_of_token_least_f1_0 K), (1, c_slices_DeleteFunc_string_of_token_least_f1_1 K)] }
theorem q_slices_DeleteFunc_string_of_token_least_f1_0 (K : Nat) (rec : List D → Option (Nat × List D)) (ds : List D) : evLoop (T_slices_DeleteFunc_string_of_token_least_f1 K) 42 (sub (codeOf Tryz.f81) [1, 1, 1, 0, 1, 0, 0]) .go (c_slices_DeleteFunc_string_of_token_least_f1_0 K) rec ds = b_slices_DeleteFunc_string_of_token_least_f1_0 K rec ds := by kernel_rfl
theorem k_slices_DeleteFunc_string_of_token_least_f1_0 (K : Nat) : CutOK Tryz.prog (T_slices_DeleteFunc_string_of_token_least_f1 K) 42 (sub (codeOf Tryz.f81) [1, 1, 1, 0, 1, 0]) (c_slices_DeleteFunc_string_of_token_least_f1_0 K) :=
  loop_thm (T := T_slices_DeleteFunc_string_of_token_least_f1 K) (hT_of hT0 rfl rfl rfl) (hes_ok (T0 := T0) (T := T_slices_DeleteFunc_string_of_token_least_f1 K) rfl rfl (⟨ok_slices_IndexFunc_string_of_token_least_f1 K, ok_token_least_f1 K, trivial⟩ : FAll Tryz.prog T0 [(86, e_slices_IndexFunc_string_of_token_least_f1 K), (82, e_token_least_f1 K)])) (by kernel_rfl) rfl rfl rfl (cutsOK_none (by rfl)) rfl (q_slices_DeleteFunc_string_of_token_least_f1_0 K)
theorem k_slices_DeleteFunc_string_of_token_least_f1_1 (K : Nat) : CutOK Tryz.prog (T_slices_DeleteFunc_string_of_token_least_f1 K) 42 (sub (codeOf Tryz.f81) [1, 1, 1, 1, 0]) (c_slices_DeleteFunc_string_of_token_least_f1_1 K) :=
  clear_thm (T := T_slices_DeleteFunc_string_of_token_least_f1 K) (hT_of hT0 rfl rfl rfl) rfl rfl rfl rfl rfl rfl rfl rfl rfl rfl
theorem q_slices_DeleteFunc_string_of_token_least_f1 (K : Nat) (ds : List D) : evFn (T_slices_DeleteFunc_string_of_token_least_f1 K) Tryz.f81 (.seq .go (.seq .go (.seq .go (.seq (.seq .go (.blk (.cut 0))) (.seq (.cut 1) .go))))) (e_slices_DeleteFunc_string_of_token_least_f1 K) ds = (e_slices_DeleteFunc_string_of_token_least_f1 K).f ds := by kernel_rfl
theorem ok_slices_DeleteFunc_string_of_token_least_f1 (K : Nat) : FnOK Tryz.prog T0 81 (e_slices_DeleteFunc_string_of_token_least_f1 K) :=
  fn_thm (T0 := T0) (T := T_slices_DeleteFunc_string_of_token_least_f1 K) rfl (hT_of hT0 rfl rfl rfl) (hes_ok (T0 := T0) (T := T_slices_DeleteFunc_string_of_token_least_f1 K) rfl rfl (⟨ok_slices_IndexFunc_string_of_token_least_f1 K, ok_token_least_f1 K, trivial⟩ : FAll Tryz.prog T0 [(86, e_slices_IndexFunc_string_of_token_least_f1 K), (82, e_token_least_f1 K)])) Tryz.func81 (by decide) rfl (Nat.le_of_ble_eq_true rfl) rfl rfl rfl (tot_none rfl) (cutsOK_list (l := [(0, sub (codeOf Tryz.f81) [1, 1, 1, 0, 1, 0]), (1, sub (codeOf Tryz.f81) [1, 1, 1, 1, 0])]) (by kernel_rfl) ⟨cut_one (u := c_slices_DeleteFunc_string_of_token_least_f1_0 K) rfl (k_slices_DeleteFunc_string_of_token_least_f1_0 K), cut_one (u := c_slices_DeleteFunc_string_of_token_least_f1_1 K) rfl (k_slices_DeleteFunc_string_of_token_least_f1_1 K), trivial⟩) (q_slices_DeleteFunc_string_of_token_least_f1 K)
/-! ### 40 gatewarden/token.least -/
def f_token_least (K : Nat) (l : D) : Option (List D) :=
  (f_kit_Rising K l).bind fun t1 =>
  (f_slices_Clone_string K (D.n ((D.nth t1 0).list))).bind fun t2 =>
  (f_slices_DeleteFunc_string_of_token_least_f1 K (D.n ((D.nth t2 0).list)) (D.n ((D.nth t1 0).list))).bind fun t3 =>
  some [D.n ((D.nth t3 0).list)]
def e_token_least (K : Nat) : Entry := { n := 1, sh := { sl := [(0, .d 26 false)], ob := [] }, kept := [], rs := [{ sl := [(0, .own 26 0)], ob := [(0, .row 9 true)] }], f := fun ds => f_token_least K (D.nth ds 0), tot := none }
def T_token_least (K : Nat) : Tbl := { T0 with ents := entsOf [(80, e_kit_Rising K), (57, e_slices_Clone_string K), (81, e_slices_DeleteFunc_string_of_token_least_f1 K)], cuts := lk [] }
theorem q_token_least (K : Nat) (ds : List D) : evFn (T_token_least K) Tryz.f40 .go (e_token_least K) ds = (e_token_least K).f ds := by kernel_rfl
theorem ok_token_least (K : Nat) : FnOK Tryz.prog T0 40 (e_token_least K) :=
  fn_thm (T0 := T0) (T := T_token_least K) rfl (hT_of hT0 rfl rfl rfl) (hes_ok (T0 := T0) (T := T_token_least K) rfl rfl (⟨ok_kit_Rising K, ok_slices_Clone_string K, ok_slices_DeleteFunc_string_of_token_least_f1 K, trivial⟩ : FAll Tryz.prog T0 [(80, e_kit_Rising K), (57, e_slices_Clone_string K), (81, e_slices_DeleteFunc_string_of_token_least_f1 K)])) Tryz.func40 (by decide) rfl (Nat.le_of_ble_eq_true rfl) rfl rfl rfl (tot_none rfl) (cutsOK_none (by rfl)) (q_token_least K)
/-! ### 16 slices.Equal[[]string,string] -/
def b_slices_Equal_string_0 (K : Nat) (rec : List D → Option (Nat × List D)) (ds : List D) : Option (Nat × List D) :=
  let s1 := D.nth ds 0
  let s2 := D.nth ds 1
  let s12 := D.nth ds 2
  let s13 := D.nth ds 3
  bif (ltI s13.int s12.int) then
    bif (inB s13.int s1.list.length) then
      bif (inB s13.int s2.list.length) then
        bif (!(((D.nth s1.list s13.int.toNat).str) == ((D.nth s2.list s13.int.toNat).str))) then
          some (0, [D.b false])
        else
          rec [s1, s2, s12, D.i (IntKind.i64.wrap (s13.int + (1 : Int)))]
      else
        none
    else
      none
  else
    some (1, [])
def c_slices_Equal_string_0 (K : Nat) : Cut := { sh := { sl := [(0, .d 26 false), (1, .d 26 false), (12, .d 3 true), (13, .d 3 true)], ob := [] }, kept := [], outs := [(.ret, { sl := [(4, .d 4 true)], ob := [] }), (.exit 0, { sl := [], ob := [] })], f := fun ds => fixN (b_slices_Equal_string_0 K) K ds }
def f_slices_Equal_string (K : Nat) (s1 s2 : D) : Option (List D) :=
  bif ((s1.list.length : Int) != (s2.list.length : Int)) then
    some [D.b false]
  else
    (fixN (b_slices_Equal_string_0 K) K [s1, s2, D.i (s1.list.length : Int), D.i 0]).bind fun t1 =>
    bif (t1.1.beq 0) then
      some [D.nth t1.2 0]
    else
      some [D.b true]
def e_slices_Equal_string (K : Nat) : Entry := { n := 2, sh := { sl := [(0, .d 26 false), (1, .d 26 false)], ob := [] }, kept := [], rs := [{ sl := [(0, .d 4 true)], ob := [] }], f := fun ds => f_slices_Equal_string K (D.nth ds 0) (D.nth ds 1), tot := none }
def T_slices_Equal_string (K : Nat) : Tbl := { T0 with ents := entsOf [], cuts := lk [(0, c_slices_Equal_string_0 K)] }
theorem q_slices_Equal_string_0 (K : Nat) (rec : List D → Option (Nat × List D)) (ds : List D) : evLoop (T_slices_Equal_string K) 26 (sub (codeOf Tryz.f16) [1, 1, 0, 1, 0, 0]) .go (c_slices_Equal_string_0 K) rec ds = b_slices_Equal_string_0 K rec ds := by kernel_rfl
theorem k_slices_Equal_string_0 (K : Nat) : CutOK Tryz.prog (T_slices_Equal_string K) 26 (sub (codeOf Tryz.f16) [1, 1, 0, 1, 0]) (c_slices_Equal_string_0 K) :=
  loop_thm (T := T_slices_Equal_string K) (hT_of hT0 rfl rfl rfl) (hes_ok (T0 := T0) (T := T_slices_Equal_string K) rfl rfl (trivial : FAll Tryz.prog T0 [])) (by kernel_rfl) rfl rfl rfl (cutsOK_none (by rfl)) rfl (q_slices_Equal_string_0 K)
theorem q_slices_Equal_string (K : Nat) (ds : List D) : evFn (T_slices_Equal_string K) Tryz.f16 (.seq .go (.seq .go (.seq (.seq .go (.blk (.cut 0))) .go))) (e_slices_Equal_string K) ds = (e_slices_Equal_string K).f ds := by kernel_rfl
theorem ok_slices_Equal_string (K : Nat) : FnOK Tryz.prog T0 16 (e_slices_Equal_string K) :=
  fn_thm (T0 := T0) (T := T_slices_Equal_string K) rfl (hT_of hT0 rfl rfl rfl) (hes_ok (T0 := T0) (T := T_slices_Equal_string K) rfl rfl (trivial : FAll Tryz.prog T0 [])) Tryz.func16 (by decide) rfl (Nat.le_of_ble_eq_true rfl) rfl rfl rfl (tot_none rfl) (cutsOK_list (l := [(0, sub (codeOf Tryz.f16) [1, 1, 0, 1, 0])]) (by kernel_rfl) ⟨cut_one (u := c_slices_Equal_string_0 K) rfl (k_slices_Equal_string_0 K), trivial⟩) (q_slices_Equal_string K)
/-! ### 55 gatewarden/token.CheckClaims -/
def b_token_CheckClaims_0 (K : Nat) (ds : List D) : Option (Nat × List D) :=
  let c := D.nth ds 0
  (f_kit_IsKey K (c.at' 0)).bind fun t1 =>
  bif (!(!((D.nth t1 0).bool))) then
    (f_kit_IsKey K (c.at' 1)).bind fun t2 =>
    bif (!(!((D.nth t2 0).bool))) then
      (f_kit_IsKey K (c.at' 2)).bind fun t3 =>
      bif (!(!((D.nth t3 0).bool))) then
        bif (!(((c.at' 3).str) == ([] : List UInt8))) then
          (f_kit_IsKey K (c.at' 3)).bind fun t4 =>
          some (0, [D.b (!((D.nth t4 0).bool))])
        else
          some (0, [D.b false])
      else
        some (0, [D.b true])
    else
      some (0, [D.b true])
  else
    some (0, [D.b true])
def c_token_CheckClaims_0 (K : Nat) : Cut := { sh := { sl := [(1, .bx 42 true (.d 42 false))], ob := [] }, kept := [], outs := [(.normal, { sl := [(31, .d 4 true)], ob := [] })], f := b_token_CheckClaims_0 K }
def f_token_CheckClaims (K : Nat) (c : D) : Option (List D) :=
  (b_token_CheckClaims_0 K [c]).bind fun t1 =>
  bif (D.nth t1.2 0).bool then
    some [D.i 5]
  else
    bif (gtI (((c.at' 4).list).length : Int) 50) then
      some [D.i 2]
    else
      (f_kit_RisingFault K (c.at' 4)).bind fun t2 =>
      bif (((D.nth t2 0).int) != (0 : Int)) then
        some [D.nth t2 0]
      else
        (f_token_CheckScopes K (c.at' 5)).bind fun t3 =>
        bif (((D.nth t3 0).int) != (0 : Int)) then
          some [D.nth t3 0]
        else
          (f_token_least K (c.at' 5)).bind fun t4 =>
          (f_slices_Equal_string K (c.at' 5) (D.n ((D.nth t4 0).list))).bind fun t5 =>
          bif (!((D.nth t5 0).bool)) then
            some [D.i 7]
          else
            bif (bif (bif (ltI ((c.at' 6).int) 0) then true else (geI ((c.at' 6).int) ((c.at' 7).int))) then true else (gtI ((c.at' 7).int) 345686400000)) then
              some [D.i 1]
            else
              some [D.i 0]
def e_token_CheckClaims (K : Nat) : Entry := { n := 1, sh := { sl := [(0, .d 42 false)], ob := [] }, kept := [], rs := [{ sl := [(0, .d 28 true)], ob := [] }], f := fun ds => f_token_CheckClaims K (D.nth ds 0), tot := none }
def T_token_CheckClaims (K : Nat) : Tbl := { T0 with frz := fun s => memN [1] s, ents := entsOf [(56, e_kit_IsKey K), (91, e_kit_RisingFault K), (12, e_token_CheckScopes K), (40, e_token_least K), (16, e_slices_Equal_string K)], cuts := lk [(0, c_token_CheckClaims_0 K)] }
theorem q_token_CheckClaims_0 (K : Nat) (ds : List D) : evPiece (T_token_CheckClaims K) 70 (sub (codeOf Tryz.f55) [1, 0, 0]) .go (c_token_CheckClaims_0 K) ds = b_token_CheckClaims_0 K ds := by kernel_rfl
theorem k_token_CheckClaims_0 (K : Nat) : CutOK Tryz.prog (T_token_CheckClaims K) 70 (sub (codeOf Tryz.f55) [1, 0, 0]) (c_token_CheckClaims_0 K) :=
  piece_thm (T := T_token_CheckClaims K) (hT_of hT0 rfl rfl rfl) (hes_ok (T0 := T0) (T := T_token_CheckClaims K) rfl rfl (⟨ok_kit_IsKey K, ok_kit_RisingFault K, ok_token_CheckScopes K, ok_token_least K, ok_slices_Equal_string K, trivial⟩ : FAll Tryz.prog T0 [(56, e_kit_IsKey K), (91, e_kit_RisingFault K), (12, e_token_CheckScopes K), (40, e_token_least K), (16, e_slices_Equal_string K)])) rfl rfl rfl (cutsOK_none (by rfl)) (q_token_CheckClaims_0 K)
theorem q_token_CheckClaims (K : Nat) (ds : List D) : evFn (T_token_CheckClaims K) Tryz.f55 (.seq .go (.seq (.seq (.cut 0) .go) .go)) (e_token_CheckClaims K) ds = (e_token_CheckClaims K).f ds := by kernel_rfl
theorem ok_token_CheckClaims (K : Nat) : FnOK Tryz.prog T0 55 (e_token_CheckClaims K) :=
  fn_thm (T0 := T0) (T := T_token_CheckClaims K) rfl (hT_of hT0 rfl rfl rfl) (hes_ok (T0 := T0) (T := T_token_CheckClaims K) rfl rfl (⟨ok_kit_IsKey K, ok_kit_RisingFault K, ok_token_CheckScopes K, ok_token_least K, ok_slices_Equal_string K, trivial⟩ : FAll Tryz.prog T0 [(56, e_kit_IsKey K), (91, e_kit_RisingFault K), (12, e_token_CheckScopes K), (40, e_token_least K), (16, e_slices_Equal_string K)])) Tryz.func55 (by decide) rfl (Nat.le_of_ble_eq_true rfl) rfl rfl rfl (tot_none rfl) (cutsOK_list (l := [(0, sub (codeOf Tryz.f55) [1, 0, 0])]) (by kernel_rfl) ⟨cut_one (u := c_token_CheckClaims_0 K) rfl (k_token_CheckClaims_0 K), trivial⟩) (q_token_CheckClaims K)
/-! ### 117 gatewarden/token.coveredBy$1 -/
def f_token_coveredBy_f1 (K : Nat) (h s1 : D) : Option (List D) :=
  (f_token_covers K h s1).bind fun t1 =>
  some [D.nth t1 0]
def e_token_coveredBy_f1 (K : Nat) : Entry := { n := 2, sh := { sl := [(0, .d 9 false), (1, .bx 9 false (.d 9 false))], ob := [] }, kept := [], rs := [{ sl := [(0, .d 4 true)], ob := [] }], f := fun ds => f_token_coveredBy_f1 K (D.nth ds 0) (D.nth ds 1), tot := none }
def T_token_coveredBy_f1 (K : Nat) : Tbl := { T0 with ents := entsOf [(41, e_token_covers K)], cuts := lk [] }
theorem q_token_coveredBy_f1 (K : Nat) (ds : List D) : evFn (T_token_coveredBy_f1 K) Tryz.f117 .go (e_token_coveredBy_f1 K) ds = (e_token_coveredBy_f1 K).f ds := by kernel_rfl
theorem ok_token_coveredBy_f1 (K : Nat) : FnOK Tryz.prog T0 117 (e_token_coveredBy_f1 K) :=
  fn_thm (T0 := T0) (T := T_token_coveredBy_f1 K) rfl (hT_of hT0 rfl rfl rfl) (hes_ok (T0 := T0) (T := T_token_coveredBy_f1 K) rfl rfl (⟨ok_token_covers K, trivial⟩ : FAll Tryz.prog T0 [(41, e_token_covers K)])) Tryz.func117 (by decide) rfl (Nat.le_of_ble_eq_true rfl) rfl rfl rfl (tot_none rfl) (cutsOK_none (by rfl)) (q_token_coveredBy_f1 K)
/-! ### 86 slices.IndexFunc[[]string,string] -/
def b_slices_IndexFunc_string_of_token_coveredBy_f1_0 (K : Nat) (rec : List D → Option (Nat × List D)) (ds : List D) : Option (Nat × List D) :=
  let s := D.nth ds 0
  let f_0 := D.nth ds 1
  let s7 := D.nth ds 2
  let s8 := D.nth ds 3
  bif (ltI s8.int s7.int) then
    bif (inB s8.int s.list.length) then
      (f_token_coveredBy_f1 K (D.nth s.list s8.int.toNat) f_0).bind fun t1 =>
      bif (D.nth t1 0).bool then
        some (0, [s8])
      else
        rec [s, f_0, s7, D.i (IntKind.i64.wrap (s8.int + (1 : Int)))]
    else
      none
  else
    some (1, [])
def c_slices_IndexFunc_string_of_token_coveredBy_f1_0 (K : Nat) : Cut := { sh := { sl := [(0, .d 26 false), (1, .fn 117 [.bx 9 false (.d 9 true)]), (7, .d 3 true), (8, .d 3 true)], ob := [] }, kept := [], outs := [(.ret, { sl := [(4, .d 3 true)], ob := [] }), (.exit 0, { sl := [], ob := [] })], f := fun ds => fixN (b_slices_IndexFunc_string_of_token_coveredBy_f1_0 K) K ds }
def f_slices_IndexFunc_string_of_token_coveredBy_f1 (K : Nat) (s f_0 : D) : Option (List D) :=
  (fixN (b_slices_IndexFunc_string_of_token_coveredBy_f1_0 K) K [s, f_0, D.i (s.list.length : Int), D.i 0]).bind fun t1 =>
  bif (t1.1.beq 0) then
    some [D.nth t1.2 0]
  else
    some [D.i (-1)]
def e_slices_IndexFunc_string_of_token_coveredBy_f1 (K : Nat) : Entry := { n := 2, sh := { sl := [(0, .d 26 false), (1, .fn 117 [.bx 9 false (.d 9 false)])], ob := [] }, kept := [], rs := [{ sl := [(0, .d 3 true)], ob := [] }], f := fun ds => f_slices_IndexFunc_string_of_token_coveredBy_f1 K (D.nth ds 0) (D.nth ds 1), tot := none }
def T_slices_IndexFunc_string_of_token_coveredBy_f1 (K : Nat) : Tbl := { T0 with ents := entsOf [(117, e_token_coveredBy_f1 K)], cuts := lk [(0, c_slices_IndexFunc_string_of_token_coveredBy_f1_0 K)] }
theorem q_slices_IndexFunc_string_of_token_coveredBy_f1_0 (K : Nat) (rec : List D → Option (Nat × List D)) (ds : List D) : evLoop (T_slices_IndexFunc_string_of_token_coveredBy_f1 K) 19 (sub (codeOf Tryz.f86) [1, 0, 1, 0, 0]) .go (c_slices_IndexFunc_string_of_token_coveredBy_f1_0 K) rec ds = b_slices_IndexFunc_string_of_token_coveredBy_f1_0 K rec ds := by kernel_rfl
theorem k_slices_IndexFunc_string_of_token_coveredBy_f1_0 (K : Nat) : CutOK Tryz.prog (T_slices_IndexFunc_string_of_token_coveredBy_f1 K) 19 (sub (codeOf Tryz.f86) [1, 0, 1, 0]) (c_slices_IndexFunc_string_of_token_coveredBy_f1_0 K) :=
  loop_thm (T := T_slices_IndexFunc_string_of_token_coveredBy_f1 K) (hT_of hT0 rfl rfl rfl) (hes_ok (T0 := T0) (T := T_slices_IndexFunc_string_of_token_coveredBy_f1 K) rfl rfl (⟨ok_token_coveredBy_f1 K, trivial⟩ : FAll Tryz.prog T0 [(117, e_token_coveredBy_f1 K)])) (by kernel_rfl) rfl rfl rfl (cutsOK_none (by rfl)) rfl (q_slices_IndexFunc_string_of_token_coveredBy_f1_0 K)
theorem q_slices_IndexFunc_string_of_token_coveredBy_f1 (K : Nat) (ds : List D) : evFn (T_slices_IndexFunc_string_of_token_coveredBy_f1 K) Tryz.f86 (.seq .go (.seq (.seq .go (.blk (.cut 0))) .go)) (e_slices_IndexFunc_string_of_token_coveredBy_f1 K) ds = (e_slices_IndexFunc_string_of_token_coveredBy_f1 K).f ds := by kernel_rfl
theorem ok_slices_IndexFunc_string_of_token_coveredBy_f1 (K : Nat) : FnOK Tryz.prog T0 86 (e_slices_IndexFunc_string_of_token_coveredBy_f1 K) :=
  fn_thm (T0 := T0) (T := T_slices_IndexFunc_string_of_token_coveredBy_f1 K) rfl (hT_of hT0 rfl rfl rfl) (hes_ok (T0 := T0) (T := T_slices_IndexFunc_string_of_token_coveredBy_f1 K) rfl rfl (⟨ok_token_coveredBy_f1 K, trivial⟩ : FAll Tryz.prog T0 [(117, e_token_coveredBy_f1 K)])) Tryz.func86 (by decide) rfl (Nat.le_of_ble_eq_true rfl) rfl rfl rfl (tot_none rfl) (cutsOK_list (l := [(0, sub (codeOf Tryz.f86) [1, 0, 1, 0])]) (by kernel_rfl) ⟨cut_one (u := c_slices_IndexFunc_string_of_token_coveredBy_f1_0 K) rfl (k_slices_IndexFunc_string_of_token_coveredBy_f1_0 K), trivial⟩) (q_slices_IndexFunc_string_of_token_coveredBy_f1 K)
/-! ### 44 slices.ContainsFunc[[]string,string] -/
def f_slices_ContainsFunc_string_of_token_coveredBy_f1 (K : Nat) (s f_0 : D) : Option (List D) :=
  (f_slices_IndexFunc_string_of_token_coveredBy_f1 K s f_0).bind fun t1 =>
  some [D.b (geI ((D.nth t1 0).int) 0)]
def e_slices_ContainsFunc_string_of_token_coveredBy_f1 (K : Nat) : Entry := { n := 2, sh := { sl := [(0, .d 26 false), (1, .fn 117 [.bx 9 false (.d 9 false)])], ob := [] }, kept := [], rs := [{ sl := [(0, .d 4 true)], ob := [] }], f := fun ds => f_slices_ContainsFunc_string_of_token_coveredBy_f1 K (D.nth ds 0) (D.nth ds 1), tot := none }
def T_slices_ContainsFunc_string_of_token_coveredBy_f1 (K : Nat) : Tbl := { T0 with ents := entsOf [(86, e_slices_IndexFunc_string_of_token_coveredBy_f1 K)], cuts := lk [] }
theorem q_slices_ContainsFunc_string_of_token_coveredBy_f1 (K : Nat) (ds : List D) : evFn (T_slices_ContainsFunc_string_of_token_coveredBy_f1 K) Tryz.f44 .go (e_slices_ContainsFunc_string_of_token_coveredBy_f1 K) ds = (e_slices_ContainsFunc_string_of_token_coveredBy_f1 K).f ds := by kernel_rfl
theorem ok_slices_ContainsFunc_string_of_token_coveredBy_f1 (K : Nat) : FnOK Tryz.prog T0 44 (e_slices_ContainsFunc_string_of_token_coveredBy_f1 K) :=
  fn_thm (T0 := T0) (T := T_slices_ContainsFunc_string_of_token_coveredBy_f1 K) rfl (hT_of hT0 rfl rfl rfl) (hes_ok (T0 := T0) (T := T_slices_ContainsFunc_string_of_token_coveredBy_f1 K) rfl rfl (⟨ok_slices_IndexFunc_string_of_token_coveredBy_f1 K, trivial⟩ : FAll Tryz.prog T0 [(86, e_slices_IndexFunc_string_of_token_coveredBy_f1 K)])) Tryz.func44 (by decide) rfl (Nat.le_of_ble_eq_true rfl) rfl rfl rfl (tot_none rfl) (cutsOK_none (by rfl)) (q_slices_ContainsFunc_string_of_token_coveredBy_f1 K)
/-! ### 79 gatewarden/token.coveredBy -/
def f_token_coveredBy (K : Nat) (l s : D) : Option (List D) :=
  (f_slices_ContainsFunc_string_of_token_coveredBy_f1 K l s).bind fun t1 =>
  some [D.nth t1 0]
def e_token_coveredBy (K : Nat) : Entry := { n := 2, sh := { sl := [(0, .d 26 false), (1, .d 9 false)], ob := [] }, kept := [], rs := [{ sl := [(0, .d 4 true)], ob := [] }], f := fun ds => f_token_coveredBy K (D.nth ds 0) (D.nth ds 1), tot := none }
def T_token_coveredBy (K : Nat) : Tbl := { T0 with frz := fun s => memN [3] s, ents := entsOf [(44, e_slices_ContainsFunc_string_of_token_coveredBy_f1 K)], cuts := lk [] }
theorem q_token_coveredBy (K : Nat) (ds : List D) : evFn (T_token_coveredBy K) Tryz.f79 .go (e_token_coveredBy K) ds = (e_token_coveredBy K).f ds := by kernel_rfl
theorem ok_token_coveredBy (K : Nat) : FnOK Tryz.prog T0 79 (e_token_coveredBy K) :=
  fn_thm (T0 := T0) (T := T_token_coveredBy K) rfl (hT_of hT0 rfl rfl rfl) (hes_ok (T0 := T0) (T := T_token_coveredBy K) rfl rfl (⟨ok_slices_ContainsFunc_string_of_token_coveredBy_f1 K, trivial⟩ : FAll Tryz.prog T0 [(44, e_slices_ContainsFunc_string_of_token_coveredBy_f1 K)])) Tryz.func79 (by decide) rfl (Nat.le_of_ble_eq_true rfl) rfl rfl rfl (tot_none rfl) (cutsOK_none (by rfl)) (q_token_coveredBy K)
/-! ### 78 gatewarden/token.coverAll$1 -/
def f_token_coverAll_f1 (K : Nat) (s s1 : D) : Option (List D) :=
  (f_token_coveredBy K s1 s).bind fun t1 =>
  some [D.b (!((D.nth t1 0).bool))]
def e_token_coverAll_f1 (K : Nat) : Entry := { n := 2, sh := { sl := [(0, .d 9 false), (1, .bx 26 false (.d 26 false))], ob := [] }, kept := [], rs := [{ sl := [(0, .d 4 true)], ob := [] }], f := fun ds => f_token_coverAll_f1 K (D.nth ds 0) (D.nth ds 1), tot := none }
def T_token_coverAll_f1 (K : Nat) : Tbl := { T0 with ents := entsOf [(79, e_token_coveredBy K)], cuts := lk [] }
theorem q_token_coverAll_f1 (K : Nat) (ds : List D) : evFn (T_token_coverAll_f1 K) Tryz.f78 .go (e_token_coverAll_f1 K) ds = (e_token_coverAll_f1 K).f ds := by kernel_rfl
theorem ok_token_coverAll_f1 (K : Nat) : FnOK Tryz.prog T0 78 (e_token_coverAll_f1 K) :=
  fn_thm (T0 := T0) (T := T_token_coverAll_f1 K) rfl (hT_of hT0 rfl rfl rfl) (hes_ok (T0 := T0) (T := T_token_coverAll_f1 K) rfl rfl (⟨ok_token_coveredBy K, trivial⟩ : FAll Tryz.prog T0 [(79, e_token_coveredBy K)])) Tryz.func78 (by decide) rfl (Nat.le_of_ble_eq_true rfl) rfl rfl rfl (tot_none rfl) (cutsOK_none (by rfl)) (q_token_coverAll_f1 K)
/-! ### 86 slices.IndexFunc[[]string,string] -/
def b_slices_IndexFunc_string_of_token_coverAll_f1_0 (K : Nat) (rec : List D → Option (Nat × List D)) (ds : List D) : Option (Nat × List D) :=
  let s := D.nth ds 0
  let f_0 := D.nth ds 1
  let s7 := D.nth ds 2
  let s8 := D.nth ds 3
  bif (ltI s8.int s7.int) then
    bif (inB s8.int s.list.length) then
      (f_token_coverAll_f1 K (D.nth s.list s8.int.toNat) f_0).bind fun t1 =>
      bif (D.nth t1 0).bool then
        some (0, [s8])
      else
        rec [s, f_0, s7, D.i (IntKind.i64.wrap (s8.int + (1 : Int)))]
    else
      none
  else
    some (1, [])
def c_slices_IndexFunc_string_of_token_coverAll_f1_0 (K : Nat) : Cut := { sh := { sl := [(0, .d 26 false), (1, .fn 78 [.bx 26 false (.d 26 false)]), (7, .d 3 true), (8, .d 3 true)], ob := [] }, kept := [], outs := [(.ret, { sl := [(4, .d 3 true)], ob := [] }), (.exit 0, { sl := [], ob := [] })], f := fun ds => fixN (b_slices_IndexFunc_string_of_token_coverAll_f1_0 K) K ds }
def f_slices_IndexFunc_string_of_token_coverAll_f1 (K : Nat) (s f_0 : D) : Option (List D) :=
  (fixN (b_slices_IndexFunc_string_of_token_coverAll_f1_0 K) K [s, f_0, D.i (s.list.length : Int), D.i 0]).bind fun t1 =>
  bif (t1.1.beq 0) then
    some [D.nth t1.2 0]
  else
    some [D.i (-1)]
def e_slices_IndexFunc_string_of_token_coverAll_f1 (K : Nat) : Entry := { n := 2, sh := { sl := [(0, .d 26 false), (1, .fn 78 [.bx 26 false (.d 26 false)])], ob := [] }, kept := [], rs := [{ sl := [(0, .d 3 true)], ob := [] }], f := fun ds => f_slices_IndexFunc_string_of_token_coverAll_f1 K (D.nth ds 0) (D.nth ds 1), tot := none }
def T_slices_IndexFunc_string_of_token_coverAll_f1 (K : Nat) : Tbl := { T0 with ents := entsOf [(78, e_token_coverAll_f1 K)], cuts := lk [(0, c_slices_IndexFunc_string_of_token_coverAll_f1_0 K)] }
theorem q_slices_IndexFunc_string_of_token_coverAll_f1_0 (K : Nat) (rec : List D → Option (Nat × List D)) (ds : List D) : evLoop (T_slices_IndexFunc_string_of_token_coverAll_f1 K) 19 (sub (codeOf Tryz.f86) [1, 0, 1, 0, 0]) .go (c_slices_IndexFunc_string_of_token_coverAll_f1_0 K) rec ds = b_slices_IndexFunc_string_of_token_coverAll_f1_0 K rec ds := by kernel_rfl
theorem k_slices_IndexFunc_string_of_token_coverAll_f1_0 (K : Nat) : CutOK Tryz.prog (T_slices_IndexFunc_string_of_token_coverAll_f1 K) 19 (sub (codeOf Tryz.f86) [1, 0, 1, 0]) (c_slices_IndexFunc_string_of_token_coverAll_f1_0 K) :=
  loop_thm (T := T_slices_IndexFunc_string_of_token_coverAll_f1 K) (hT_of hT0 rfl rfl rfl) (hes_ok (T0 := T0) (T := T_slices_IndexFunc_string_of_token_coverAll_f1 K) rfl rfl (⟨ok_token_coverAll_f1 K, trivial⟩ : FAll Tryz.prog T0 [(78, e_token_coverAll_f1 K)])) (by kernel_rfl) rfl rfl rfl (cutsOK_none (by rfl)) rfl (q_slices_IndexFunc_string_of_token_coverAll_f1_0 K)
theorem q_slices_IndexFunc_string_of_token_coverAll_f1 (K : Nat) (ds : List D) : evFn (T_slices_IndexFunc_string_of_token_coverAll_f1 K) Tryz.f86 (.seq .go (.seq (.seq .go (.blk (.cut 0))) .go)) (e_slices_IndexFunc_string_of_token_coverAll_f1 K) ds = (e_slices_IndexFunc_string_of_token_coverAll_f1 K).f ds := by kernel_rfl
theorem ok_slices_IndexFunc_string_of_token_coverAll_f1 (K : Nat) : FnOK Tryz.prog T0 86 (e_slices_IndexFunc_string_of_token_coverAll_f1 K) :=
  fn_thm (T0 := T0) (T := T_slices_IndexFunc_string_of_token_coverAll_f1 K) rfl (hT_of hT0 rfl rfl rfl) (hes_ok (T0 := T0) (T := T_slices_IndexFunc_string_of_token_coverAll_f1 K) rfl rfl (⟨ok_token_coverAll_f1 K, trivial⟩ : FAll Tryz.prog T0 [(78, e_token_coverAll_f1 K)])) Tryz.func86 (by decide) rfl (Nat.le_of_ble_eq_true rfl) rfl rfl rfl (tot_none rfl) (cutsOK_list (l := [(0, sub (codeOf Tryz.f86) [1, 0, 1, 0])]) (by kernel_rfl) ⟨cut_one (u := c_slices_IndexFunc_string_of_token_coverAll_f1_0 K) rfl (k_slices_IndexFunc_string_of_token_coverAll_f1_0 K), trivial⟩) (q_slices_IndexFunc_string_of_token_coverAll_f1 K)
/-! ### 44 slices.ContainsFunc[[]string,string] -/
def f_slices_ContainsFunc_string_of_token_coverAll_f1 (K : Nat) (s f_0 : D) : Option (List D) :=
  (f_slices_IndexFunc_string_of_token_coverAll_f1 K s f_0).bind fun t1 =>
  some [D.b (geI ((D.nth t1 0).int) 0)]
def e_slices_ContainsFunc_string_of_token_coverAll_f1 (K : Nat) : Entry := { n := 2, sh := { sl := [(0, .d 26 false), (1, .fn 78 [.bx 26 false (.d 26 false)])], ob := [] }, kept := [], rs := [{ sl := [(0, .d 4 true)], ob := [] }], f := fun ds => f_slices_ContainsFunc_string_of_token_coverAll_f1 K (D.nth ds 0) (D.nth ds 1), tot := none }
def T_slices_ContainsFunc_string_of_token_coverAll_f1 (K : Nat) : Tbl := { T0 with ents := entsOf [(86, e_slices_IndexFunc_string_of_token_coverAll_f1 K)], cuts := lk [] }
theorem q_slices_ContainsFunc_string_of_token_coverAll_f1 (K : Nat) (ds : List D) : evFn (T_slices_ContainsFunc_string_of_token_coverAll_f1 K) Tryz.f44 .go (e_slices_ContainsFunc_string_of_token_coverAll_f1 K) ds = (e_slices_ContainsFunc_string_of_token_coverAll_f1 K).f ds := by kernel_rfl
theorem ok_slices_ContainsFunc_string_of_token_coverAll_f1 (K : Nat) : FnOK Tryz.prog T0 44 (e_slices_ContainsFunc_string_of_token_coverAll_f1 K) :=
  fn_thm (T0 := T0) (T := T_slices_ContainsFunc_string_of_token_coverAll_f1 K) rfl (hT_of hT0 rfl rfl rfl) (hes_ok (T0 := T0) (T := T_slices_ContainsFunc_string_of_token_coverAll_f1 K) rfl rfl (⟨ok_slices_IndexFunc_string_of_token_coverAll_f1 K, trivial⟩ : FAll Tryz.prog T0 [(86, e_slices_IndexFunc_string_of_token_coverAll_f1 K)])) Tryz.func44 (by decide) rfl (Nat.le_of_ble_eq_true rfl) rfl rfl rfl (tot_none rfl) (cutsOK_none (by rfl)) (q_slices_ContainsFunc_string_of_token_coverAll_f1 K)
/-! ### 39 gatewarden/token.coverAll -/
def f_token_coverAll (K : Nat) (vhave want : D) : Option (List D) :=
  (f_slices_ContainsFunc_string_of_token_coverAll_f1 K want vhave).bind fun t1 =>
  some [D.b (!((D.nth t1 0).bool))]
def e_token_coverAll (K : Nat) : Entry := { n := 2, sh := { sl := [(0, .d 26 false), (1, .d 26 false)], ob := [] }, kept := [], rs := [{ sl := [(0, .d 4 true)], ob := [] }], f := fun ds => f_token_coverAll K (D.nth ds 0) (D.nth ds 1), tot := none }
def T_token_coverAll (K : Nat) : Tbl := { T0 with frz := fun s => memN [2] s, ents := entsOf [(44, e_slices_ContainsFunc_string_of_token_coverAll_f1 K)], cuts := lk [] }
theorem q_token_coverAll (K : Nat) (ds : List D) : evFn (T_token_coverAll K) Tryz.f39 .go (e_token_coverAll K) ds = (e_token_coverAll K).f ds := by kernel_rfl
theorem ok_token_coverAll (K : Nat) : FnOK Tryz.prog T0 39 (e_token_coverAll K) :=
  fn_thm (T0 := T0) (T := T_token_coverAll K) rfl (hT_of hT0 rfl rfl rfl) (hes_ok (T0 := T0) (T := T_token_coverAll K) rfl rfl (⟨ok_slices_ContainsFunc_string_of_token_coverAll_f1 K, trivial⟩ : FAll Tryz.prog T0 [(44, e_slices_ContainsFunc_string_of_token_coverAll_f1 K)])) Tryz.func39 (by decide) rfl (Nat.le_of_ble_eq_true rfl) rfl rfl rfl (tot_none rfl) (cutsOK_none (by rfl)) (q_token_coverAll K)
/-! ### 22 gatewarden/token.Delegate -/
def b_token_Delegate_0 (K : Nat) (ds : List D) : Option (Nat × List D) :=
  let id := D.nth ds 0
  let subject := D.nth ds 1
  (f_kit_IsKey K id).bind fun t3 =>
  bif (!(!((D.nth t3 0).bool))) then
    (f_kit_IsKey K subject).bind fun t4 =>
    some (0, [D.b (!((D.nth t4 0).bool))])
  else
    some (0, [D.b true])
def c_token_Delegate_0 (K : Nat) : Cut := { sh := { sl := [(1, .d 9 true), (2, .d 9 true)], ob := [] }, kept := [], outs := [(.normal, { sl := [(28, .d 4 true)], ob := [] })], f := b_token_Delegate_0 K }
def f_token_Delegate (K : Nat) (parent id subject scopes w : D) : Option (List D) :=
  (f_token_CheckClaims K parent).bind fun t1 =>
  bif (((D.nth t1 0).int) != (0 : Int)) then
    some [D.s [], D.s [], D.s [], D.s [], D.i 0, D.i 0, D.nth t1 0, D.n [], D.n []]
  else
    (f_token_CheckScopes K scopes).bind fun t2 =>
    bif (((D.nth t2 0).int) != (0 : Int)) then
      some [D.s [], D.s [], D.s [], D.s [], D.i 0, D.i 0, D.nth t2 0, D.n [], D.n []]
    else
      (b_token_Delegate_0 K [id, subject]).bind fun t3 =>
      bif (D.nth t3.2 0).bool then
        some [D.s [], D.s [], D.s [], D.s [], D.i 0, D.i 0, D.i 5, D.n [], D.n []]
      else
        bif (id.str == ((parent.at' 0).str)) then
          some [D.s [], D.s [], D.s [], D.s [], D.i 0, D.i 0, D.i 14, D.n [], D.n []]
        else
          (f_token_coverAll K (parent.at' 5) scopes).bind fun t4 =>
          bif (!((D.nth t4 0).bool)) then
            some [D.s [], D.s [], D.s [], D.s [], D.i 0, D.i 0, D.i 16, D.n [], D.n []]
          else
            bif (bif (ltI ((w.at' 0).int) ((parent.at' 6).int)) then true else (gtI ((w.at' 1).int) ((parent.at' 7).int))) then
              some [D.s [], D.s [], D.s [], D.s [], D.i 0, D.i 0, D.i 16, D.n [], D.n []]
            else
              (f_slices_Clone_string K (parent.at' 4)).bind fun t5 =>
              (f_token_least K scopes).bind fun t6 =>
              (f_token_CheckClaims K (D.n [id, subject, parent.at' 2, parent.at' 0, D.n ((D.nth t5 0).list), D.n ((D.nth t6 0).list), w.at' 0, w.at' 1])).bind fun t7 =>
              bif (((D.nth t7 0).int) != (0 : Int)) then
                some [D.s [], D.s [], D.s [], D.s [], D.i 0, D.i 0, D.nth t7 0, D.n [], D.n []]
              else
                some [id, subject, parent.at' 2, parent.at' 0, w.at' 0, w.at' 1, D.i 0, D.n ((D.nth t5 0).list), D.n ((D.nth t6 0).list)]
def e_token_Delegate (K : Nat) : Entry := { n := 5, sh := { sl := [(0, .d 42 false), (1, .d 9 false), (2, .d 9 false), (3, .d 26 false), (4, .d 48 false)], ob := [] }, kept := [], rs := [{ sl := [(0, .tup [.agg 42 [.d 9 true, .d 9 true, .d 9 true, .d 9 true, .own 26 0, .own 26 1, .d 3 true, .d 3 true], .d 28 true])], ob := [(0, .row 9 true), (1, .row 9 true)] }], f := fun ds => f_token_Delegate K (D.nth ds 0) (D.nth ds 1) (D.nth ds 2) (D.nth ds 3) (D.nth ds 4), tot := none }
def T_token_Delegate (K : Nat) : Tbl := { T0 with frz := fun s => memN [5, 9] s, ents := entsOf [(55, e_token_CheckClaims K), (12, e_token_CheckScopes K), (56, e_kit_IsKey K), (39, e_token_coverAll K), (57, e_slices_Clone_string K), (40, e_token_least K)], cuts := lk [(0, c_token_Delegate_0 K)] }
theorem q_token_Delegate_0 (K : Nat) (ds : List D) : evPiece (T_token_Delegate K) 88 (sub (codeOf Tryz.f22) [1, 1, 1, 0, 0, 0]) .go (c_token_Delegate_0 K) ds = b_token_Delegate_0 K ds := by kernel_rfl
theorem k_token_Delegate_0 (K : Nat) : CutOK Tryz.prog (T_token_Delegate K) 88 (sub (codeOf Tryz.f22) [1, 1, 1, 0, 0, 0]) (c_token_Delegate_0 K) :=
  piece_thm (T := T_token_Delegate K) (hT_of hT0 rfl rfl rfl) (hes_ok (T0 := T0) (T := T_token_Delegate K) rfl rfl (⟨ok_token_CheckClaims K, ok_token_CheckScopes K, ok_kit_IsKey K, ok_token_coverAll K, ok_slices_Clone_string K, ok_token_least K, trivial⟩ : FAll Tryz.prog T0 [(55, e_token_CheckClaims K), (12, e_token_CheckScopes K), (56, e_kit_IsKey K), (39, e_token_coverAll K), (57, e_slices_Clone_string K), (40, e_token_least K)])) rfl rfl rfl (cutsOK_none (by rfl)) (q_token_Delegate_0 K)
theorem q_token_Delegate (K : Nat) (ds : List D) : evFn (T_token_Delegate K) Tryz.f22 (.seq .go (.seq .go (.seq .go (.seq (.blk (.seq (.cut 0) .go)) .go)))) (e_token_Delegate K) ds = (e_token_Delegate K).f ds := by kernel_rfl
theorem ok_token_Delegate (K : Nat) : FnOK Tryz.prog T0 22 (e_token_Delegate K) :=
  fn_thm (T0 := T0) (T := T_token_Delegate K) rfl (hT_of hT0 rfl rfl rfl) (hes_ok (T0 := T0) (T := T_token_Delegate K) rfl rfl (⟨ok_token_CheckClaims K, ok_token_CheckScopes K, ok_kit_IsKey K, ok_token_coverAll K, ok_slices_Clone_string K, ok_token_least K, trivial⟩ : FAll Tryz.prog T0 [(55, e_token_CheckClaims K), (12, e_token_CheckScopes K), (56, e_kit_IsKey K), (39, e_token_coverAll K), (57, e_slices_Clone_string K), (40, e_token_least K)])) Tryz.func22 (by decide) rfl (Nat.le_of_ble_eq_true rfl) rfl rfl rfl (tot_none rfl) (cutsOK_list (l := [(0, sub (codeOf Tryz.f22) [1, 1, 1, 0, 0, 0])]) (by kernel_rfl) ⟨cut_one (u := c_token_Delegate_0 K) rfl (k_token_Delegate_0 K), trivial⟩) (q_token_Delegate K)
/-! ### 92 gatewarden/gateref2.in -/
def p_gateref2_in (n low high : D) : List D := [D.b (bif (leI low.int n.int) then (leI n.int high.int) else false)]
def e_gateref2_in (K : Nat) : Entry := { n := 3, sh := { sl := [(0, .d 3 false), (1, .d 3 false), (2, .d 3 false)], ob := [] }, kept := [], rs := [{ sl := [(0, .d 4 true)], ob := [] }], f := fun ds => some (p_gateref2_in (D.nth ds 0) (D.nth ds 1) (D.nth ds 2)), tot := some fun ds => p_gateref2_in (D.nth ds 0) (D.nth ds 1) (D.nth ds 2) }
def T_gateref2_in (K : Nat) : Tbl := { T0 with ents := entsOf [], cuts := lk [] }
theorem q_gateref2_in (K : Nat) (ds : List D) : evFn (T_gateref2_in K) Tryz.f92 .go (e_gateref2_in K) ds = (e_gateref2_in K).f ds := by kernel_rfl
theorem ok_gateref2_in (K : Nat) : FnOK Tryz.prog T0 92 (e_gateref2_in K) :=
  fn_thm (T0 := T0) (T := T_gateref2_in K) rfl (hT_of hT0 rfl rfl rfl) (hes_ok (T0 := T0) (T := T_gateref2_in K) rfl rfl (trivial : FAll Tryz.prog T0 [])) Tryz.func92 (by decide) rfl (Nat.le_of_ble_eq_true rfl) rfl rfl rfl (tot_some rfl fun _ => rfl) (cutsOK_none (by rfl)) (q_gateref2_in K)
/-! ### 169 internal/bytealg.IndexByteString -/
def p_bytealg_IndexByteString (x y : D) : List D := [D.i (Lib.indexByte x.str y.int.toNat.toUInt8)]
def e_bytealg_IndexByteString (K : Nat) : Entry := flat2 9 5 3 (fun ds => some (p_bytealg_IndexByteString (D.nth ds 0) (D.nth ds 1))) (some fun ds => p_bytealg_IndexByteString (D.nth ds 0) (D.nth ds 1))
theorem ok_bytealg_IndexByteString (K : Nat) : FnOK Tryz.prog T0 169 (e_bytealg_IndexByteString K) :=
  idxByte_ok (T := T0) Tryz.func169 (by kernel_rfl) (by kernel_rfl) (by kernel_rfl) (by kernel_rfl) rfl rfl rfl
/-! ### 143 internal/stringslite.IndexByte -/
def p_stringslite_IndexByte (s c : D) : List D := [D.nth (p_bytealg_IndexByteString s c) 0]
def e_stringslite_IndexByte (K : Nat) : Entry := { n := 2, sh := { sl := [(0, .d 9 false), (1, .d 5 false)], ob := [] }, kept := [], rs := [{ sl := [(0, .d 3 true)], ob := [] }], f := fun ds => some (p_stringslite_IndexByte (D.nth ds 0) (D.nth ds 1)), tot := some fun ds => p_stringslite_IndexByte (D.nth ds 0) (D.nth ds 1) }
def T_stringslite_IndexByte (K : Nat) : Tbl := { T0 with ents := entsOf [(169, e_bytealg_IndexByteString K)], cuts := lk [] }
theorem q_stringslite_IndexByte (K : Nat) (ds : List D) : evFn (T_stringslite_IndexByte K) Tryz.f143 .go (e_stringslite_IndexByte K) ds = (e_stringslite_IndexByte K).f ds := by kernel_rfl
theorem ok_stringslite_IndexByte (K : Nat) : FnOK Tryz.prog T0 143 (e_stringslite_IndexByte K) :=
  fn_thm (T0 := T0) (T := T_stringslite_IndexByte K) rfl (hT_of hT0 rfl rfl rfl) (hes_ok (T0 := T0) (T := T_stringslite_IndexByte K) rfl rfl (⟨ok_bytealg_IndexByteString K, trivial⟩ : FAll Tryz.prog T0 [(169, e_bytealg_IndexByteString K)])) Tryz.func143 (by decide) rfl (Nat.le_of_ble_eq_true rfl) rfl rfl rfl (tot_some rfl fun _ => rfl) (cutsOK_none (by rfl)) (q_stringslite_IndexByte K)
/-! ### 111 strings.IndexByte -/
def p_strings_IndexByte (s c : D) : List D := [D.nth (p_stringslite_IndexByte s c) 0]
def e_strings_IndexByte (K : Nat) : Entry := { n := 2, sh := { sl := [(0, .d 9 false), (1, .d 5 false)], ob := [] }, kept := [], rs := [{ sl := [(0, .d 3 true)], ob := [] }], f := fun ds => some (p_strings_IndexByte (D.nth ds 0) (D.nth ds 1)), tot := some fun ds => p_strings_IndexByte (D.nth ds 0) (D.nth ds 1) }
def T_strings_IndexByte (K : Nat) : Tbl := { T0 with ents := entsOf [(143, e_stringslite_IndexByte K)], cuts := lk [] }
theorem q_strings_IndexByte (K : Nat) (ds : List D) : evFn (T_strings_IndexByte K) Tryz.f111 .go (e_strings_IndexByte K) ds = (e_strings_IndexByte K).f ds := by kernel_rfl
theorem ok_strings_IndexByte (K : Nat) : FnOK Tryz.prog T0 111 (e_strings_IndexByte K) :=
  fn_thm (T0 := T0) (T := T_strings_IndexByte K) rfl (hT_of hT0 rfl rfl rfl) (hes_ok (T0 := T0) (T := T_strings_IndexByte K) rfl rfl (⟨ok_stringslite_IndexByte K, trivial⟩ : FAll Tryz.prog T0 [(143, e_stringslite_IndexByte K)])) Tryz.func111 (by decide) rfl (Nat.le_of_ble_eq_true rfl) rfl rfl rfl (tot_some rfl fun _ => rfl) (cutsOK_none (by rfl)) (q_strings_IndexByte K)
/-! ### 93 gatewarden/gateref2.only -/
def b_gateref2_only_0 (K : Nat) (rec : List D → Option (Nat × List D)) (ds : List D) : Option (Nat × List D) :=
  let s := D.nth ds 0
  let vsome := D.nth ds 1
  let s7 := D.nth ds 2
  let s8 := D.nth ds 3
  bif (ltI s8.int s7.int) then
    bif (inB s8.int s.str.length) then
      bif (ltI ((D.nth (p_strings_IndexByte vsome (D.i (byteAt s.str s8.int.toNat))) 0).int) 0) then
        some (0, [D.b false])
      else
        rec [s, vsome, s7, D.i (IntKind.i64.wrap (s8.int + (1 : Int)))]
    else
      none
  else
    some (1, [])
def c_gateref2_only_0 (K : Nat) : Cut := { sh := { sl := [(0, .d 9 true), (1, .d 9 true), (7, .d 3 true), (8, .d 3 true)], ob := [] }, kept := [], outs := [(.ret, { sl := [(4, .d 4 true)], ob := [] }), (.exit 0, { sl := [], ob := [] })], f := fun ds => fixN (b_gateref2_only_0 K) K ds }
def f_gateref2_only (K : Nat) (s vsome : D) : Option (List D) :=
  (fixN (b_gateref2_only_0 K) K [s, vsome, D.i (s.str.length : Int), D.i 0]).bind fun t1 =>
  bif (t1.1.beq 0) then
    some [D.nth t1.2 0]
  else
    some [D.b true]
def e_gateref2_only (K : Nat) : Entry := { n := 2, sh := { sl := [(0, .d 9 false), (1, .d 9 false)], ob := [] }, kept := [], rs := [{ sl := [(0, .d 4 true)], ob := [] }], f := fun ds => f_gateref2_only K (D.nth ds 0) (D.nth ds 1), tot := none }
def T_gateref2_only (K : Nat) : Tbl := { T0 with ents := entsOf [(111, e_strings_IndexByte K)], cuts := lk [(0, c_gateref2_only_0 K)] }
theorem q_gateref2_only_0 (K : Nat) (rec : List D → Option (Nat × List D)) (ds : List D) : evLoop (T_gateref2_only K) 18 (sub (codeOf Tryz.f93) [1, 0, 1, 0, 0]) .go (c_gateref2_only_0 K) rec ds = b_gateref2_only_0 K rec ds := by kernel_rfl
theorem k_gateref2_only_0 (K : Nat) : CutOK Tryz.prog (T_gateref2_only K) 18 (sub (codeOf Tryz.f93) [1, 0, 1, 0]) (c_gateref2_only_0 K) :=
  loop_thm (T := T_gateref2_only K) (hT_of hT0 rfl rfl rfl) (hes_ok (T0 := T0) (T := T_gateref2_only K) rfl rfl (⟨ok_strings_IndexByte K, trivial⟩ : FAll Tryz.prog T0 [(111, e_strings_IndexByte K)])) (by kernel_rfl) rfl rfl rfl (cutsOK_none (by rfl)) rfl (q_gateref2_only_0 K)
theorem q_gateref2_only (K : Nat) (ds : List D) : evFn (T_gateref2_only K) Tryz.f93 (.seq .go (.seq (.seq .go (.blk (.cut 0))) .go)) (e_gateref2_only K) ds = (e_gateref2_only K).f ds := by kernel_rfl
theorem ok_gateref2_only (K : Nat) : FnOK Tryz.prog T0 93 (e_gateref2_only K) :=
  fn_thm (T0 := T0) (T := T_gateref2_only K) rfl (hT_of hT0 rfl rfl rfl) (hes_ok (T0 := T0) (T := T_gateref2_only K) rfl rfl (⟨ok_strings_IndexByte K, trivial⟩ : FAll Tryz.prog T0 [(111, e_strings_IndexByte K)])) Tryz.func93 (by decide) rfl (Nat.le_of_ble_eq_true rfl) rfl rfl rfl (tot_none rfl) (cutsOK_list (l := [(0, sub (codeOf Tryz.f93) [1, 0, 1, 0])]) (by kernel_rfl) ⟨cut_one (u := c_gateref2_only_0 K) rfl (k_gateref2_only_0 K), trivial⟩) (q_gateref2_only K)
/-! ### 59 gatewarden/gateref2.Key -/
def f_gateref2_Key (K : Nat) (s : D) : Option (List D) :=
  bif ((!((D.nth (p_gateref2_in (D.i (s.str.length : Int)) (D.i 1) (D.i 40)) 0).bool)) || (inB 1 (s.str.length + 1))) then
    bif (D.nth (p_gateref2_in (D.i (s.str.length : Int)) (D.i 1) (D.i 40)) 0).bool then
      (f_gateref2_only K (D.s (s.str.take 1)) (D.s [97, 98, 99, 100, 101, 102, 103, 104, 105, 106, 107, 108, 109, 110, 111, 112, 113, 114, 115, 116, 117, 118, 119, 120, 121, 122])).bind fun t1 =>
      bif (D.nth t1 0).bool then
        (f_gateref2_only K s (D.s [97, 98, 99, 100, 101, 102, 103, 104, 105, 106, 107, 108, 109, 110, 111, 112, 113, 114, 115, 116, 117, 118, 119, 120, 121, 122, 48, 49, 50, 51, 52, 53, 54, 55, 56, 57, 45, 95])).bind fun t2 =>
        some [D.b ((D.nth t2 0).bool)]
      else
        some [D.b false]
    else
      some [D.b false]
  else
    none
def e_gateref2_Key (K : Nat) : Entry := { n := 1, sh := { sl := [(0, .d 9 false)], ob := [] }, kept := [], rs := [{ sl := [(0, .d 4 true)], ob := [] }], f := fun ds => f_gateref2_Key K (D.nth ds 0), tot := none }
def T_gateref2_Key (K : Nat) : Tbl := { T0 with ents := entsOf [(92, e_gateref2_in K), (93, e_gateref2_only K)], cuts := lk [] }
theorem q_gateref2_Key (K : Nat) (ds : List D) : evFn (T_gateref2_Key K) Tryz.f59 .go (e_gateref2_Key K) ds = (e_gateref2_Key K).f ds := by kernel_rfl
theorem ok_gateref2_Key (K : Nat) : FnOK Tryz.prog T0 59 (e_gateref2_Key K) :=
  fn_thm (T0 := T0) (T := T_gateref2_Key K) rfl (hT_of hT0 rfl rfl rfl) (hes_ok (T0 := T0) (T := T_gateref2_Key K) rfl rfl (⟨ok_gateref2_in K, ok_gateref2_only K, trivial⟩ : FAll Tryz.prog T0 [(92, e_gateref2_in K), (93, e_gateref2_only K)])) Tryz.func59 (by decide) rfl (Nat.le_of_ble_eq_true rfl) rfl rfl rfl (tot_none rfl) (cutsOK_none (by rfl)) (q_gateref2_Key K)
/-! ### 42 gatewarden/gateref2.scope -/
def b_gateref2_scope_0 (K : Nat) (rec : List D → Option (Nat × List D)) (ds : List D) : Option (Nat × List D) :=
  let w := D.nth ds 0
  let s8 := D.nth ds 1
  let s9 := D.nth ds 2
  let s10 := D.nth ds 3
  bif (ltI s10.int s9.int) then
    bif (inB s10.int s8.list.length) then
      (f_gateref2_Key K (D.nth s8.list s10.int.toNat)).bind fun t2 =>
      bif (bif (!((D.nth t2 0).bool)) then (bif (!(((D.nth s8.list s10.int.toNat).str) == ([42] : List UInt8))) then true else (ltI s10.int (IntKind.i64.wrap ((w.list.length : Int) - (1 : Int))))) else false) then
        some (0, [D.b false])
      else
        rec [w, s8, s9, D.i (IntKind.i64.wrap (s10.int + (1 : Int)))]
    else
      none
  else
    some (1, [])
def c_gateref2_scope_0 (K : Nat) : Cut := { sh := { sl := [(3, .d 26 true), (8, .d 26 true), (9, .d 3 true), (10, .d 3 true)], ob := [] }, kept := [], outs := [(.ret, { sl := [(2, .d 4 true)], ob := [] }), (.exit 0, { sl := [], ob := [] })], f := fun ds => fixN (b_gateref2_scope_0 K) K ds }
def f_gateref2_scope (K : Nat) (s : D) : Option (List D) :=
  (f_strings_Split K s (D.s [58])).bind fun t1 =>
  (fixN (b_gateref2_scope_0 K) K [D.nth t1 0, D.nth t1 0, D.i (((D.nth t1 0).list).length : Int), D.i 0]).bind fun t2 =>
  bif (t2.1.beq 0) then
    some [D.nth t2.2 0]
  else
    some [D.b (leI (((D.nth t1 0).list).length : Int) 10)]
def e_gateref2_scope (K : Nat) : Entry := { n := 1, sh := { sl := [(0, .d 9 false)], ob := [] }, kept := [], rs := [{ sl := [(0, .d 4 true)], ob := [] }], f := fun ds => f_gateref2_scope K (D.nth ds 0), tot := none }
def T_gateref2_scope (K : Nat) : Tbl := { T0 with ents := entsOf [(66, e_strings_Split K), (59, e_gateref2_Key K)], cuts := lk [(0, c_gateref2_scope_0 K)] }
theorem q_gateref2_scope_0 (K : Nat) (rec : List D → Option (Nat × List D)) (ds : List D) : evLoop (T_gateref2_scope K) 33 (sub (codeOf Tryz.f42) [1, 1, 0, 1, 0, 0]) .go (c_gateref2_scope_0 K) rec ds = b_gateref2_scope_0 K rec ds := by kernel_rfl
theorem k_gateref2_scope_0 (K : Nat) : CutOK Tryz.prog (T_gateref2_scope K) 33 (sub (codeOf Tryz.f42) [1, 1, 0, 1, 0]) (c_gateref2_scope_0 K) :=
  loop_thm (T := T_gateref2_scope K) (hT_of hT0 rfl rfl rfl) (hes_ok (T0 := T0) (T := T_gateref2_scope K) rfl rfl (⟨ok_strings_Split K, ok_gateref2_Key K, trivial⟩ : FAll Tryz.prog T0 [(66, e_strings_Split K), (59, e_gateref2_Key K)])) (by kernel_rfl) rfl rfl rfl (cutsOK_none (by rfl)) rfl (q_gateref2_scope_0 K)
theorem q_gateref2_scope (K : Nat) (ds : List D) : evFn (T_gateref2_scope K) Tryz.f42 (.seq .go (.seq .go (.seq (.seq .go (.blk (.cut 0))) .go))) (e_gateref2_scope K) ds = (e_gateref2_scope K).f ds := by kernel_rfl
theorem ok_gateref2_scope (K : Nat) : FnOK Tryz.prog T0 42 (e_gateref2_scope K) :=
  fn_thm (T0 := T0) (T := T_gateref2_scope K) rfl (hT_of hT0 rfl rfl rfl) (hes_ok (T0 := T0) (T := T_gateref2_scope K) rfl rfl (⟨ok_strings_Split K, ok_gateref2_Key K, trivial⟩ : FAll Tryz.prog T0 [(66, e_strings_Split K), (59, e_gateref2_Key K)])) Tryz.func42 (by decide) rfl (Nat.le_of_ble_eq_true rfl) rfl rfl rfl (tot_none rfl) (cutsOK_list (l := [(0, sub (codeOf Tryz.f42) [1, 1, 0, 1, 0])]) (by kernel_rfl) ⟨cut_one (u := c_gateref2_scope_0 K) rfl (k_gateref2_scope_0 K), trivial⟩) (q_gateref2_scope K)
/-! ### 10 gatewarden/gateref2.ScopesFault -/
def b_gateref2_ScopesFault_0 (K : Nat) (rec : List D → Option (Nat × List D)) (ds : List D) : Option (Nat × List D) :=
  let s8 := D.nth ds 0
  let s9 := D.nth ds 1
  let s10 := D.nth ds 2
  bif (ltI s10.int s9.int) then
    bif (inB s10.int s8.list.length) then
      (f_gateref2_scope K (D.nth s8.list s10.int.toNat)).bind fun t1 =>
      bif (!((D.nth t1 0).bool)) then
        some (0, [D.i 3])
      else
        rec [s8, s9, D.i (IntKind.i64.wrap (s10.int + (1 : Int)))]
    else
      none
  else
    some (1, [])
def c_gateref2_ScopesFault_0 (K : Nat) : Cut := { sh := { sl := [(8, .d 26 false), (9, .d 3 true), (10, .d 3 true)], ob := [] }, kept := [], outs := [(.ret, { sl := [(2, .d 28 true)], ob := [] }), (.exit 0, { sl := [], ob := [] })], f := fun ds => fixN (b_gateref2_ScopesFault_0 K) K ds }
def f_gateref2_ScopesFault (K : Nat) (l : D) : Option (List D) :=
  bif (gtI (l.list.length : Int) 50) then
    some [D.i 2]
  else
    (fixN (b_gateref2_ScopesFault_0 K) K [l, D.i (l.list.length : Int), D.i 0]).bind fun t1 =>
    bif (t1.1.beq 0) then
      some [D.nth t1.2 0]
    else
      some [D.i 0]
def e_gateref2_ScopesFault (K : Nat) : Entry := { n := 1, sh := { sl := [(0, .d 26 false)], ob := [] }, kept := [], rs := [{ sl := [(0, .d 28 true)], ob := [] }], f := fun ds => f_gateref2_ScopesFault K (D.nth ds 0), tot := none }
def T_gateref2_ScopesFault (K : Nat) : Tbl := { T0 with ents := entsOf [(42, e_gateref2_scope K)], cuts := lk [(0, c_gateref2_ScopesFault_0 K)] }
theorem q_gateref2_ScopesFault_0 (K : Nat) (rec : List D → Option (Nat × List D)) (ds : List D) : evLoop (T_gateref2_ScopesFault K) 18 (sub (codeOf Tryz.f10) [1, 1, 0, 1, 0, 0]) .go (c_gateref2_ScopesFault_0 K) rec ds = b_gateref2_ScopesFault_0 K rec ds := by kernel_rfl
theorem k_gateref2_ScopesFault_0 (K : Nat) : CutOK Tryz.prog (T_gateref2_ScopesFault K) 18 (sub (codeOf Tryz.f10) [1, 1, 0, 1, 0]) (c_gateref2_ScopesFault_0 K) :=
  loop_thm (T := T_gateref2_ScopesFault K) (hT_of hT0 rfl rfl rfl) (hes_ok (T0 := T0) (T := T_gateref2_ScopesFault K) rfl rfl (⟨ok_gateref2_scope K, trivial⟩ : FAll Tryz.prog T0 [(42, e_gateref2_scope K)])) (by kernel_rfl) rfl rfl rfl (cutsOK_none (by rfl)) rfl (q_gateref2_ScopesFault_0 K)
theorem q_gateref2_ScopesFault (K : Nat) (ds : List D) : evFn (T_gateref2_ScopesFault K) Tryz.f10 (.seq .go (.seq .go (.seq (.seq .go (.blk (.cut 0))) .go))) (e_gateref2_ScopesFault K) ds = (e_gateref2_ScopesFault K).f ds := by kernel_rfl
theorem ok_gateref2_ScopesFault (K : Nat) : FnOK Tryz.prog T0 10 (e_gateref2_ScopesFault K) :=
  fn_thm (T0 := T0) (T := T_gateref2_ScopesFault K) rfl (hT_of hT0 rfl rfl rfl) (hes_ok (T0 := T0) (T := T_gateref2_ScopesFault K) rfl rfl (⟨ok_gateref2_scope K, trivial⟩ : FAll Tryz.prog T0 [(42, e_gateref2_scope K)])) Tryz.func10 (by decide) rfl (Nat.le_of_ble_eq_true rfl) rfl rfl rfl (tot_none rfl) (cutsOK_list (l := [(0, sub (codeOf Tryz.f10) [1, 1, 0, 1, 0])]) (by kernel_rfl) ⟨cut_one (u := c_gateref2_ScopesFault_0 K) rfl (k_gateref2_ScopesFault_0 K), trivial⟩) (q_gateref2_ScopesFault K)
/-! ### 58 gatewarden/gateref2.ClaimsFault -/
def b_gateref2_ClaimsFault_1 (K : Nat) (rec : List D → Option (Nat × List D)) (ds : List D) : Option (Nat × List D) :=
  let c := D.nth ds 0
  let s40 := D.nth ds 1
  let s41 := D.nth ds 2
  let s42 := D.nth ds 3
  bif (ltI s42.int s41.int) then
    bif (inB s42.int s40.list.length) then
      (f_gateref2_Key K (D.nth s40.list s42.int.toNat)).bind fun t2 =>
      bif (!((D.nth t2 0).bool)) then
        some (0, [D.i 5])
      else
        bif ((!(gtI s42.int 0)) || (inB (IntKind.i64.wrap (s42.int - (1 : Int))) (((c.at' 4).list).length))) then
          bif (bif (gtI s42.int 0) then ((Op.bytesLess ((D.nth s40.list s42.int.toNat).str) ((D.nth ((c.at' 4).list) ((IntKind.i64.wrap (s42.int - (1 : Int))).toNat)).str)) || (((D.nth s40.list s42.int.toNat).str) == ((D.nth ((c.at' 4).list) ((IntKind.i64.wrap (s42.int - (1 : Int))).toNat)).str))) else false) then
            some (0, [D.i 7])
          else
            rec [c, s40, s41, D.i (IntKind.i64.wrap (s42.int + (1 : Int)))]
        else
          none
    else
      none
  else
    some (1, [])
def c_gateref2_ClaimsFault_1 (K : Nat) : Cut := { sh := { sl := [(1, .bx 42 true (.d 42 false)), (40, .d 26 false), (41, .d 3 true), (42, .d 3 true)], ob := [] }, kept := [], outs := [(.ret, { sl := [(2, .d 28 true)], ob := [] }), (.exit 1, { sl := [], ob := [] })], f := fun ds => fixN (b_gateref2_ClaimsFault_1 K) K ds }
def b_gateref2_ClaimsFault_0 (K : Nat) (ds : List D) : Option (Nat × List D) :=
  let c := D.nth ds 0
  (f_gateref2_Key K (c.at' 0)).bind fun t1 =>
  bif (!(!((D.nth t1 0).bool))) then
    (f_gateref2_Key K (c.at' 1)).bind fun t2 =>
    bif (!(!((D.nth t2 0).bool))) then
      (f_gateref2_Key K (c.at' 2)).bind fun t3 =>
      bif (!(!((D.nth t3 0).bool))) then
        bif (!(((c.at' 3).str) == ([] : List UInt8))) then
          (f_gateref2_Key K (c.at' 3)).bind fun t4 =>
          some (0, [D.b (!((D.nth t4 0).bool))])
        else
          some (0, [D.b false])
      else
        some (0, [D.b true])
    else
      some (0, [D.b true])
  else
    some (0, [D.b true])
def c_gateref2_ClaimsFault_0 (K : Nat) : Cut := { sh := { sl := [(1, .bx 42 true (.d 42 false))], ob := [] }, kept := [], outs := [(.normal, { sl := [(6, .d 4 true)], ob := [] })], f := b_gateref2_ClaimsFault_0 K }
def f_gateref2_ClaimsFault (K : Nat) (c : D) : Option (List D) :=
  (b_gateref2_ClaimsFault_0 K [c]).bind fun t1 =>
  bif (D.nth t1.2 0).bool then
    some [D.i 5]
  else
    bif (gtI (((c.at' 4).list).length : Int) 50) then
      some [D.i 2]
    else
      (fixN (b_gateref2_ClaimsFault_1 K) K [c, c.at' 4, D.i (((c.at' 4).list).length : Int), D.i 0]).bind fun t2 =>
      bif (t2.1.beq 0) then
        some [D.nth t2.2 0]
      else
        (f_gateref2_ScopesFault K (c.at' 5)).bind fun t3 =>
        bif (((D.nth t3 0).int) != (0 : Int)) then
          some [D.nth t3 0]
        else
          (f_gateref2_LeastOf K (c.at' 5)).bind fun t4 =>
          (f_slices_Equal_string K (D.n ((D.nth t4 0).list)) (c.at' 5)).bind fun t5 =>
          bif (!((D.nth t5 0).bool)) then
            some [D.i 7]
          else
            bif (bif (bif (ltI ((c.at' 6).int) 0) then true else (geI ((c.at' 6).int) ((c.at' 7).int))) then true else (gtI ((c.at' 7).int) 345686400000)) then
              some [D.i 1]
            else
              some [D.i 0]
def e_gateref2_ClaimsFault (K : Nat) : Entry := { n := 1, sh := { sl := [(0, .d 42 false)], ob := [] }, kept := [], rs := [{ sl := [(0, .d 28 true)], ob := [] }], f := fun ds => f_gateref2_ClaimsFault K (D.nth ds 0), tot := none }
def T_gateref2_ClaimsFault (K : Nat) : Tbl := { T0 with frz := fun s => memN [1] s, ents := entsOf [(59, e_gateref2_Key K), (10, e_gateref2_ScopesFault K), (14, e_gateref2_LeastOf K), (16, e_slices_Equal_string K)], cuts := lk [(0, c_gateref2_ClaimsFault_0 K), (1, c_gateref2_ClaimsFault_1 K)] }
theorem q_gateref2_ClaimsFault_1 (K : Nat) (rec : List D → Option (Nat × List D)) (ds : List D) : evLoop (T_gateref2_ClaimsFault K) 91 (sub (codeOf Tryz.f58) [1, 1, 0, 1, 0, 0]) .go (c_gateref2_ClaimsFault_1 K) rec ds = b_gateref2_ClaimsFault_1 K rec ds := by kernel_rfl
theorem k_gateref2_ClaimsFault_1 (K : Nat) : CutOK Tryz.prog (T_gateref2_ClaimsFault K) 91 (sub (codeOf Tryz.f58) [1, 1, 0, 1, 0]) (c_gateref2_ClaimsFault_1 K) :=
  loop_thm (T := T_gateref2_ClaimsFault K) (hT_of hT0 rfl rfl rfl) (hes_ok (T0 := T0) (T := T_gateref2_ClaimsFault K) rfl rfl (⟨ok_gateref2_Key K, ok_gateref2_ScopesFault K, ok_gateref2_LeastOf K, ok_slices_Equal_string K, trivial⟩ : FAll Tryz.prog T0 [(59, e_gateref2_Key K), (10, e_gateref2_ScopesFault K), (14, e_gateref2_LeastOf K), (16, e_slices_Equal_string K)])) (by kernel_rfl) rfl rfl rfl (cutsOK_none (by rfl)) rfl (q_gateref2_ClaimsFault_1 K)
theorem q_gateref2_ClaimsFault_0 (K : Nat) (ds : List D) : evPiece (T_gateref2_ClaimsFault K) 91 (sub (codeOf Tryz.f58) [1, 0, 0, 0]) .go (c_gateref2_ClaimsFault_0 K) ds = b_gateref2_ClaimsFault_0 K ds := by kernel_rfl
theorem k_gateref2_ClaimsFault_0 (K : Nat) : CutOK Tryz.prog (T_gateref2_ClaimsFault K) 91 (sub (codeOf Tryz.f58) [1, 0, 0, 0]) (c_gateref2_ClaimsFault_0 K) :=
  piece_thm (T := T_gateref2_ClaimsFault K) (hT_of hT0 rfl rfl rfl) (hes_ok (T0 := T0) (T := T_gateref2_ClaimsFault K) rfl rfl (⟨ok_gateref2_Key K, ok_gateref2_ScopesFault K, ok_gateref2_LeastOf K, ok_slices_Equal_string K, trivial⟩ : FAll Tryz.prog T0 [(59, e_gateref2_Key K), (10, e_gateref2_ScopesFault K), (14, e_gateref2_LeastOf K), (16, e_slices_Equal_string K)])) rfl rfl rfl (cutsOK_none (by rfl)) (q_gateref2_ClaimsFault_0 K)
theorem q_gateref2_ClaimsFault (K : Nat) (ds : List D) : evFn (T_gateref2_ClaimsFault K) Tryz.f58 (.seq .go (.seq (.blk (.seq (.cut 0) .go)) (.seq (.seq .go (.blk (.cut 1))) .go))) (e_gateref2_ClaimsFault K) ds = (e_gateref2_ClaimsFault K).f ds := by kernel_rfl
theorem ok_gateref2_ClaimsFault (K : Nat) : FnOK Tryz.prog T0 58 (e_gateref2_ClaimsFault K) :=
  fn_thm (T0 := T0) (T := T_gateref2_ClaimsFault K) rfl (hT_of hT0 rfl rfl rfl) (hes_ok (T0 := T0) (T := T_gateref2_ClaimsFault K) rfl rfl (⟨ok_gateref2_Key K, ok_gateref2_ScopesFault K, ok_gateref2_LeastOf K, ok_slices_Equal_string K, trivial⟩ : FAll Tryz.prog T0 [(59, e_gateref2_Key K), (10, e_gateref2_ScopesFault K), (14, e_gateref2_LeastOf K), (16, e_slices_Equal_string K)])) Tryz.func58 (by decide) rfl (Nat.le_of_ble_eq_true rfl) rfl rfl rfl (tot_none rfl) (cutsOK_list (l := [(0, sub (codeOf Tryz.f58) [1, 0, 0, 0]), (1, sub (codeOf Tryz.f58) [1, 1, 0, 1, 0])]) (by kernel_rfl) ⟨cut_one (u := c_gateref2_ClaimsFault_0 K) rfl (k_gateref2_ClaimsFault_0 K), cut_one (u := c_gateref2_ClaimsFault_1 K) rfl (k_gateref2_ClaimsFault_1 K), trivial⟩) (q_gateref2_ClaimsFault K)
/-! ### 87 gatewarden/gateref2.covered$1 -/
def f_gateref2_covered_f1 (K : Nat) (h s1 : D) : Option (List D) :=
  (f_gateref2_over K h s1).bind fun t1 =>
  some [D.nth t1 0]
def e_gateref2_covered_f1 (K : Nat) : Entry := { n := 2, sh := { sl := [(0, .d 9 false), (1, .bx 9 false (.d 9 false))], ob := [] }, kept := [], rs := [{ sl := [(0, .d 4 true)], ob := [] }], f := fun ds => f_gateref2_covered_f1 K (D.nth ds 0) (D.nth ds 1), tot := none }
def T_gateref2_covered_f1 (K : Nat) : Tbl := { T0 with ents := entsOf [(48, e_gateref2_over K)], cuts := lk [] }
theorem q_gateref2_covered_f1 (K : Nat) (ds : List D) : evFn (T_gateref2_covered_f1 K) Tryz.f87 .go (e_gateref2_covered_f1 K) ds = (e_gateref2_covered_f1 K).f ds := by kernel_rfl
theorem ok_gateref2_covered_f1 (K : Nat) : FnOK Tryz.prog T0 87 (e_gateref2_covered_f1 K) :=
  fn_thm (T0 := T0) (T := T_gateref2_covered_f1 K) rfl (hT_of hT0 rfl rfl rfl) (hes_ok (T0 := T0) (T := T_gateref2_covered_f1 K) rfl rfl (⟨ok_gateref2_over K, trivial⟩ : FAll Tryz.prog T0 [(48, e_gateref2_over K)])) Tryz.func87 (by decide) rfl (Nat.le_of_ble_eq_true rfl) rfl rfl rfl (tot_none rfl) (cutsOK_none (by rfl)) (q_gateref2_covered_f1 K)
/-! ### 86 slices.IndexFunc[[]string,string] -/
def b_slices_IndexFunc_string_of_gateref2_covered_f1_0 (K : Nat) (rec : List D → Option (Nat × List D)) (ds : List D) : Option (Nat × List D) :=
  let s := D.nth ds 0
  let f_0 := D.nth ds 1
  let s7 := D.nth ds 2
  let s8 := D.nth ds 3
  bif (ltI s8.int s7.int) then
    bif (inB s8.int s.list.length) then
      (f_gateref2_covered_f1 K (D.nth s.list s8.int.toNat) f_0).bind fun t1 =>
      bif (D.nth t1 0).bool then
        some (0, [s8])
      else
        rec [s, f_0, s7, D.i (IntKind.i64.wrap (s8.int + (1 : Int)))]
    else
      none
  else
    some (1, [])
def c_slices_IndexFunc_string_of_gateref2_covered_f1_0 (K : Nat) : Cut := { sh := { sl := [(0, .d 26 false), (1, .fn 87 [.bx 9 false (.d 9 true)]), (7, .d 3 true), (8, .d 3 true)], ob := [] }, kept := [], outs := [(.ret, { sl := [(4, .d 3 true)], ob := [] }), (.exit 0, { sl := [], ob := [] })], f := fun ds => fixN (b_slices_IndexFunc_string_of_gateref2_covered_f1_0 K) K ds }
def f_slices_IndexFunc_string_of_gateref2_covered_f1 (K : Nat) (s f_0 : D) : Option (List D) :=
  (fixN (b_slices_IndexFunc_string_of_gateref2_covered_f1_0 K) K [s, f_0, D.i (s.list.length : Int), D.i 0]).bind fun t1 =>
  bif (t1.1.beq 0) then
    some [D.nth t1.2 0]
  else
    some [D.i (-1)]
def e_slices_IndexFunc_string_of_gateref2_covered_f1 (K : Nat) : Entry := { n := 2, sh := { sl := [(0, .d 26 false), (1, .fn 87 [.bx 9 false (.d 9 false)])], ob := [] }, kept := [], rs := [{ sl := [(0, .d 3 true)], ob := [] }], f := fun ds => f_slices_IndexFunc_string_of_gateref2_covered_f1 K (D.nth ds 0) (D.nth ds 1), tot := none }
def T_slices_IndexFunc_string_of_gateref2_covered_f1 (K : Nat) : Tbl := { T0 with ents := entsOf [(87, e_gateref2_covered_f1 K)], cuts := lk [(0, c_slices_IndexFunc_string_of_gateref2_covered_f1_0 K)] }
theorem q_slices_IndexFunc_string_of_gateref2_covered_f1_0 (K : Nat) (rec : List D → Option (Nat × List D)) (ds : List D) : evLoop (T_slices_IndexFunc_string_of_gateref2_covered_f1 K) 19 (sub (codeOf Tryz.f86) [1, 0, 1, 0, 0]) .go (c_slices_IndexFunc_string_of_gateref2_covered_f1_0 K) rec ds = b_slices_IndexFunc_string_of_gateref2_covered_f1_0 K rec ds := by kernel_rfl
theorem k_slices_IndexFunc_string_of_gateref2_covered_f1_0 (K : Nat) : CutOK Tryz.prog (T_slices_IndexFunc_string_of_gateref2_covered_f1 K) 19 (sub (codeOf Tryz.f86) [1, 0, 1, 0]) (c_slices_IndexFunc_string_of_gateref2_covered_f1_0 K) :=
  loop_thm (T := T_slices_IndexFunc_string_of_gateref2_covered_f1 K) (hT_of hT0 rfl rfl rfl) (hes_ok (T0 := T0) (T := T_slices_IndexFunc_string_of_gateref2_covered_f1 K) rfl rfl (⟨ok_gateref2_covered_f1 K, trivial⟩ : FAll Tryz.prog T0 [(87, e_gateref2_covered_f1 K)])) (by kernel_rfl) rfl rfl rfl (cutsOK_none (by rfl)) rfl (q_slices_IndexFunc_string_of_gateref2_covered_f1_0 K)
theorem q_slices_IndexFunc_string_of_gateref2_covered_f1 (K : Nat) (ds : List D) : evFn (T_slices_IndexFunc_string_of_gateref2_covered_f1 K) Tryz.f86 (.seq .go (.seq (.seq .go (.blk (.cut 0))) .go)) (e_slices_IndexFunc_string_of_gateref2_covered_f1 K) ds = (e_slices_IndexFunc_string_of_gateref2_covered_f1 K).f ds := by kernel_rfl
theorem ok_slices_IndexFunc_string_of_gateref2_covered_f1 (K : Nat) : FnOK Tryz.prog T0 86 (e_slices_IndexFunc_string_of_gateref2_covered_f1 K) :=
  fn_thm (T0 := T0) (T := T_slices_IndexFunc_string_of_gateref2_covered_f1 K) rfl (hT_of hT0 rfl rfl rfl) (hes_ok (T0 := T0) (T := T_slices_IndexFunc_string_of_gateref2_covered_f1 K) rfl rfl (⟨ok_gateref2_covered_f1 K, trivial⟩ : FAll Tryz.prog T0 [(87, e_gateref2_covered_f1 K)])) Tryz.func86 (by decide) rfl (Nat.le_of_ble_eq_true rfl) rfl rfl rfl (tot_none rfl) (cutsOK_list (l := [(0, sub (codeOf Tryz.f86) [1, 0, 1, 0])]) (by kernel_rfl) ⟨cut_one (u := c_slices_IndexFunc_string_of_gateref2_covered_f1_0 K) rfl (k_slices_IndexFunc_string_of_gateref2_covered_f1_0 K), trivial⟩) (q_slices_IndexFunc_string_of_gateref2_covered_f1 K)
/-! ### 44 slices.ContainsFunc[[]string,string] -/
def f_slices_ContainsFunc_string_of_gateref2_covered_f1 (K : Nat) (s f_0 : D) : Option (List D) :=
  (f_slices_IndexFunc_string_of_gateref2_covered_f1 K s f_0).bind fun t1 =>
  some [D.b (geI ((D.nth t1 0).int) 0)]
def e_slices_ContainsFunc_string_of_gateref2_covered_f1 (K : Nat) : Entry := { n := 2, sh := { sl := [(0, .d 26 false), (1, .fn 87 [.bx 9 false (.d 9 false)])], ob := [] }, kept := [], rs := [{ sl := [(0, .d 4 true)], ob := [] }], f := fun ds => f_slices_ContainsFunc_string_of_gateref2_covered_f1 K (D.nth ds 0) (D.nth ds 1), tot := none }
def T_slices_ContainsFunc_string_of_gateref2_covered_f1 (K : Nat) : Tbl := { T0 with ents := entsOf [(86, e_slices_IndexFunc_string_of_gateref2_covered_f1 K)], cuts := lk [] }
theorem q_slices_ContainsFunc_string_of_gateref2_covered_f1 (K : Nat) (ds : List D) : evFn (T_slices_ContainsFunc_string_of_gateref2_covered_f1 K) Tryz.f44 .go (e_slices_ContainsFunc_string_of_gateref2_covered_f1 K) ds = (e_slices_ContainsFunc_string_of_gateref2_covered_f1 K).f ds := by kernel_rfl
theorem ok_slices_ContainsFunc_string_of_gateref2_covered_f1 (K : Nat) : FnOK Tryz.prog T0 44 (e_slices_ContainsFunc_string_of_gateref2_covered_f1 K) :=
  fn_thm (T0 := T0) (T := T_slices_ContainsFunc_string_of_gateref2_covered_f1 K) rfl (hT_of hT0 rfl rfl rfl) (hes_ok (T0 := T0) (T := T_slices_ContainsFunc_string_of_gateref2_covered_f1 K) rfl rfl (⟨ok_slices_IndexFunc_string_of_gateref2_covered_f1 K, trivial⟩ : FAll Tryz.prog T0 [(86, e_slices_IndexFunc_string_of_gateref2_covered_f1 K)])) Tryz.func44 (by decide) rfl (Nat.le_of_ble_eq_true rfl) rfl rfl rfl (tot_none rfl) (cutsOK_none (by rfl)) (q_slices_ContainsFunc_string_of_gateref2_covered_f1 K)
/-! ### 46 gatewarden/gateref2.covered -/
def f_gateref2_covered (K : Nat) (vhave s : D) : Option (List D) :=
  (f_slices_ContainsFunc_string_of_gateref2_covered_f1 K vhave s).bind fun t1 =>
  some [D.nth t1 0]
def e_gateref2_covered (K : Nat) : Entry := { n := 2, sh := { sl := [(0, .d 26 false), (1, .d 9 false)], ob := [] }, kept := [], rs := [{ sl := [(0, .d 4 true)], ob := [] }], f := fun ds => f_gateref2_covered K (D.nth ds 0) (D.nth ds 1), tot := none }
def T_gateref2_covered (K : Nat) : Tbl := { T0 with frz := fun s => memN [3] s, ents := entsOf [(44, e_slices_ContainsFunc_string_of_gateref2_covered_f1 K)], cuts := lk [] }
theorem q_gateref2_covered (K : Nat) (ds : List D) : evFn (T_gateref2_covered K) Tryz.f46 .go (e_gateref2_covered K) ds = (e_gateref2_covered K).f ds := by kernel_rfl
theorem ok_gateref2_covered (K : Nat) : FnOK Tryz.prog T0 46 (e_gateref2_covered K) :=
  fn_thm (T0 := T0) (T := T_gateref2_covered K) rfl (hT_of hT0 rfl rfl rfl) (hes_ok (T0 := T0) (T := T_gateref2_covered K) rfl rfl (⟨ok_slices_ContainsFunc_string_of_gateref2_covered_f1 K, trivial⟩ : FAll Tryz.prog T0 [(44, e_slices_ContainsFunc_string_of_gateref2_covered_f1 K)])) Tryz.func46 (by decide) rfl (Nat.le_of_ble_eq_true rfl) rfl rfl rfl (tot_none rfl) (cutsOK_none (by rfl)) (q_gateref2_covered K)
/-! ### 45 gatewarden/gateref2.CoversOf$1 -/
def f_gateref2_CoversOf_f1 (K : Nat) (w s1 : D) : Option (List D) :=
  (f_gateref2_covered K s1 w).bind fun t1 =>
  some [D.b (!((D.nth t1 0).bool))]
def e_gateref2_CoversOf_f1 (K : Nat) : Entry := { n := 2, sh := { sl := [(0, .d 9 false), (1, .bx 26 false (.d 26 false))], ob := [] }, kept := [], rs := [{ sl := [(0, .d 4 true)], ob := [] }], f := fun ds => f_gateref2_CoversOf_f1 K (D.nth ds 0) (D.nth ds 1), tot := none }
def T_gateref2_CoversOf_f1 (K : Nat) : Tbl := { T0 with ents := entsOf [(46, e_gateref2_covered K)], cuts := lk [] }
theorem q_gateref2_CoversOf_f1 (K : Nat) (ds : List D) : evFn (T_gateref2_CoversOf_f1 K) Tryz.f45 .go (e_gateref2_CoversOf_f1 K) ds = (e_gateref2_CoversOf_f1 K).f ds := by kernel_rfl
theorem ok_gateref2_CoversOf_f1 (K : Nat) : FnOK Tryz.prog T0 45 (e_gateref2_CoversOf_f1 K) :=
  fn_thm (T0 := T0) (T := T_gateref2_CoversOf_f1 K) rfl (hT_of hT0 rfl rfl rfl) (hes_ok (T0 := T0) (T := T_gateref2_CoversOf_f1 K) rfl rfl (⟨ok_gateref2_covered K, trivial⟩ : FAll Tryz.prog T0 [(46, e_gateref2_covered K)])) Tryz.func45 (by decide) rfl (Nat.le_of_ble_eq_true rfl) rfl rfl rfl (tot_none rfl) (cutsOK_none (by rfl)) (q_gateref2_CoversOf_f1 K)
/-! ### 86 slices.IndexFunc[[]string,string] -/
def b_slices_IndexFunc_string_of_gateref2_CoversOf_f1_0 (K : Nat) (rec : List D → Option (Nat × List D)) (ds : List D) : Option (Nat × List D) :=
  let s := D.nth ds 0
  let f_0 := D.nth ds 1
  let s7 := D.nth ds 2
  let s8 := D.nth ds 3
  bif (ltI s8.int s7.int) then
    bif (inB s8.int s.list.length) then
      (f_gateref2_CoversOf_f1 K (D.nth s.list s8.int.toNat) f_0).bind fun t1 =>
      bif (D.nth t1 0).bool then
        some (0, [s8])
      else
        rec [s, f_0, s7, D.i (IntKind.i64.wrap (s8.int + (1 : Int)))]
    else
      none
  else
    some (1, [])
def c_slices_IndexFunc_string_of_gateref2_CoversOf_f1_0 (K : Nat) : Cut := { sh := { sl := [(0, .d 26 false), (1, .fn 45 [.bx 26 false (.d 26 false)]), (7, .d 3 true), (8, .d 3 true)], ob := [] }, kept := [], outs := [(.ret, { sl := [(4, .d 3 true)], ob := [] }), (.exit 0, { sl := [], ob := [] })], f := fun ds => fixN (b_slices_IndexFunc_string_of_gateref2_CoversOf_f1_0 K) K ds }
def f_slices_IndexFunc_string_of_gateref2_CoversOf_f1 (K : Nat) (s f_0 : D) : Option (List D) :=
  (fixN (b_slices_IndexFunc_string_of_gateref2_CoversOf_f1_0 K) K [s, f_0, D.i (s.list.length : Int), D.i 0]).bind fun t1 =>
  bif (t1.1.beq 0) then
    some [D.nth t1.2 0]
  else
    some [D.i (-1)]
def e_slices_IndexFunc_string_of_gateref2_CoversOf_f1 (K : Nat) : Entry := { n := 2, sh := { sl := [(0, .d 26 false), (1, .fn 45 [.bx 26 false (.d 26 false)])], ob := [] }, kept := [], rs := [{ sl := [(0, .d 3 true)], ob := [] }], f := fun ds => f_slices_IndexFunc_string_of_gateref2_CoversOf_f1 K (D.nth ds 0) (D.nth ds 1), tot := none }
def T_slices_IndexFunc_string_of_gateref2_CoversOf_f1 (K : Nat) : Tbl := { T0 with ents := entsOf [(45, e_gateref2_CoversOf_f1 K)], cuts := lk [(0, c_slices_IndexFunc_string_of_gateref2_CoversOf_f1_0 K)] }
theorem q_slices_IndexFunc_string_of_gateref2_CoversOf_f1_0 (K : Nat) (rec : List D → Option (Nat × List D)) (ds : List D) : evLoop (T_slices_IndexFunc_string_of_gateref2_CoversOf_f1 K) 19 (sub (codeOf Tryz.f86) [1, 0, 1, 0, 0]) .go (c_slices_IndexFunc_string_of_gateref2_CoversOf_f1_0 K) rec ds = b_slices_IndexFunc_string_of_gateref2_CoversOf_f1_0 K rec ds := by kernel_rfl
theorem k_slices_IndexFunc_string_of_gateref2_CoversOf_f1_0 (K : Nat) : CutOK Tryz.prog (T_slices_IndexFunc_string_of_gateref2_CoversOf_f1 K) 19 (sub (codeOf Tryz.f86) [1, 0, 1, 0]) (c_slices_IndexFunc_string_of_gateref2_CoversOf_f1_0 K) :=
  loop_thm (T := T_slices_IndexFunc_string_of_gateref2_CoversOf_f1 K) (hT_of hT0 rfl rfl rfl) (hes_ok (T0 := T0) (T := T_slices_IndexFunc_string_of_gateref2_CoversOf_f1 K) rfl rfl (⟨ok_gateref2_CoversOf_f1 K, trivial⟩ : FAll Tryz.prog T0 [(45, e_gateref2_CoversOf_f1 K)])) (by kernel_rfl) rfl rfl rfl (cutsOK_none (by rfl)) rfl (q_slices_IndexFunc_string_of_gateref2_CoversOf_f1_0 K)
theorem q_slices_IndexFunc_string_of_gateref2_CoversOf_f1 (K : Nat) (ds : List D) : evFn (T_slices_IndexFunc_string_of_gateref2_CoversOf_f1 K) Tryz.f86 (.seq .go (.seq (.seq .go (.blk (.cut 0))) .go)) (e_slices_IndexFunc_string_of_gateref2_CoversOf_f1 K) ds = (e_slices_IndexFunc_string_of_gateref2_CoversOf_f1 K).f ds := by kernel_rfl
theorem ok_slices_IndexFunc_string_of_gateref2_CoversOf_f1 (K : Nat) : FnOK Tryz.prog T0 86 (e_slices_IndexFunc_string_of_gateref2_CoversOf_f1 K) :=
  fn_thm (T0 := T0) (T := T_slices_IndexFunc_string_of_gateref2_CoversOf_f1 K) rfl (hT_of hT0 rfl rfl rfl) (hes_ok (T0 := T0) (T := T_slices_IndexFunc_string_of_gateref2_CoversOf_f1 K) rfl rfl (⟨ok_gateref2_CoversOf_f1 K, trivial⟩ : FAll Tryz.prog T0 [(45, e_gateref2_CoversOf_f1 K)])) Tryz.func86 (by decide) rfl (Nat.le_of_ble_eq_true rfl) rfl rfl rfl (tot_none rfl) (cutsOK_list (l := [(0, sub (codeOf Tryz.f86) [1, 0, 1, 0])]) (by kernel_rfl) ⟨cut_one (u := c_slices_IndexFunc_string_of_gateref2_CoversOf_f1_0 K) rfl (k_slices_IndexFunc_string_of_gateref2_CoversOf_f1_0 K), trivial⟩) (q_slices_IndexFunc_string_of_gateref2_CoversOf_f1 K)
/-! ### 44 slices.ContainsFunc[[]string,string] -/
def f_slices_ContainsFunc_string_of_gateref2_CoversOf_f1 (K : Nat) (s f_0 : D) : Option (List D) :=
  (f_slices_IndexFunc_string_of_gateref2_CoversOf_f1 K s f_0).bind fun t1 =>
  some [D.b (geI ((D.nth t1 0).int) 0)]
def e_slices_ContainsFunc_string_of_gateref2_CoversOf_f1 (K : Nat) : Entry := { n := 2, sh := { sl := [(0, .d 26 false), (1, .fn 45 [.bx 26 false (.d 26 false)])], ob := [] }, kept := [], rs := [{ sl := [(0, .d 4 true)], ob := [] }], f := fun ds => f_slices_ContainsFunc_string_of_gateref2_CoversOf_f1 K (D.nth ds 0) (D.nth ds 1), tot := none }
def T_slices_ContainsFunc_string_of_gateref2_CoversOf_f1 (K : Nat) : Tbl := { T0 with ents := entsOf [(86, e_slices_IndexFunc_string_of_gateref2_CoversOf_f1 K)], cuts := lk [] }
theorem q_slices_ContainsFunc_string_of_gateref2_CoversOf_f1 (K : Nat) (ds : List D) : evFn (T_slices_ContainsFunc_string_of_gateref2_CoversOf_f1 K) Tryz.f44 .go (e_slices_ContainsFunc_string_of_gateref2_CoversOf_f1 K) ds = (e_slices_ContainsFunc_string_of_gateref2_CoversOf_f1 K).f ds := by kernel_rfl
theorem ok_slices_ContainsFunc_string_of_gateref2_CoversOf_f1 (K : Nat) : FnOK Tryz.prog T0 44 (e_slices_ContainsFunc_string_of_gateref2_CoversOf_f1 K) :=
  fn_thm (T0 := T0) (T := T_slices_ContainsFunc_string_of_gateref2_CoversOf_f1 K) rfl (hT_of hT0 rfl rfl rfl) (hes_ok (T0 := T0) (T := T_slices_ContainsFunc_string_of_gateref2_CoversOf_f1 K) rfl rfl (⟨ok_slices_IndexFunc_string_of_gateref2_CoversOf_f1 K, trivial⟩ : FAll Tryz.prog T0 [(86, e_slices_IndexFunc_string_of_gateref2_CoversOf_f1 K)])) Tryz.func44 (by decide) rfl (Nat.le_of_ble_eq_true rfl) rfl rfl rfl (tot_none rfl) (cutsOK_none (by rfl)) (q_slices_ContainsFunc_string_of_gateref2_CoversOf_f1 K)
/-! ### 13 gatewarden/gateref2.CoversOf -/
def f_gateref2_CoversOf (K : Nat) (vhave want : D) : Option (List D) :=
  (f_slices_ContainsFunc_string_of_gateref2_CoversOf_f1 K want vhave).bind fun t1 =>
  some [D.b (!((D.nth t1 0).bool))]
def e_gateref2_CoversOf (K : Nat) : Entry := { n := 2, sh := { sl := [(0, .d 26 false), (1, .d 26 false)], ob := [] }, kept := [], rs := [{ sl := [(0, .d 4 true)], ob := [] }], f := fun ds => f_gateref2_CoversOf K (D.nth ds 0) (D.nth ds 1), tot := none }
def T_gateref2_CoversOf (K : Nat) : Tbl := { T0 with frz := fun s => memN [2] s, ents := entsOf [(44, e_slices_ContainsFunc_string_of_gateref2_CoversOf_f1 K)], cuts := lk [] }
theorem q_gateref2_CoversOf (K : Nat) (ds : List D) : evFn (T_gateref2_CoversOf K) Tryz.f13 .go (e_gateref2_CoversOf K) ds = (e_gateref2_CoversOf K).f ds := by kernel_rfl
theorem ok_gateref2_CoversOf (K : Nat) : FnOK Tryz.prog T0 13 (e_gateref2_CoversOf K) :=
  fn_thm (T0 := T0) (T := T_gateref2_CoversOf K) rfl (hT_of hT0 rfl rfl rfl) (hes_ok (T0 := T0) (T := T_gateref2_CoversOf K) rfl rfl (⟨ok_slices_ContainsFunc_string_of_gateref2_CoversOf_f1 K, trivial⟩ : FAll Tryz.prog T0 [(44, e_slices_ContainsFunc_string_of_gateref2_CoversOf_f1 K)])) Tryz.func13 (by decide) rfl (Nat.le_of_ble_eq_true rfl) rfl rfl rfl (tot_none rfl) (cutsOK_none (by rfl)) (q_gateref2_CoversOf K)
/-! ### 23 gatewarden/gateref2.DelegateOf -/
def b_gateref2_DelegateOf_1 (K : Nat) (ds : List D) : Option (Nat × List D) :=
  let id := D.nth ds 0
  let subject := D.nth ds 1
  (f_gateref2_Key K id).bind fun t4 =>
  bif (!(!((D.nth t4 0).bool))) then
    (f_gateref2_Key K subject).bind fun t5 =>
    some (0, [D.b (!((D.nth t5 0).bool))])
  else
    some (0, [D.b true])
def c_gateref2_DelegateOf_1 (K : Nat) : Cut := { sh := { sl := [(1, .d 9 true), (2, .d 9 true)], ob := [] }, kept := [], outs := [(.normal, { sl := [(31, .d 4 true)], ob := [] })], f := b_gateref2_DelegateOf_1 K }
def b_gateref2_DelegateOf_0 (K : Nat) (rec : List D → Option (Nat × List D)) (ds : List D) : Option (Nat × List D) :=
  let s21 := D.nth ds 0
  let s22 := D.nth ds 1
  let o0_0 := D.nth ds 2
  let o0_1 := D.nth ds 3
  let o0_2 := D.nth ds 4
  let o0_3 := D.nth ds 5
  let o0_6 := D.nth ds 6
  let o0_7 := D.nth ds 7
  let r1 := D.nth ds 8
  bif (ltI s22.int s21.int) then
    bif (inB s22.int r1.list.length) then
      bif (((D.nth r1.list s22.int.toNat).int) != (0 : Int)) then
        some (0, [D.nth r1.list s22.int.toNat, D.s [], D.s [], D.s [], D.s [], D.i 0, D.i 0, D.n r1.list])
      else
        rec [s21, D.i (IntKind.i64.wrap (s22.int + (1 : Int))), o0_0, o0_1, o0_2, o0_3, o0_6, o0_7, D.n r1.list]
    else
      none
  else
    some (1, [o0_0, o0_1, o0_2, o0_3, o0_6, o0_7, D.n r1.list])
def c_gateref2_DelegateOf_0 (K : Nat) : Cut := { sh := { sl := [(10, .ptr 42 0 []), (20, .own 68 1), (21, .d 3 true), (22, .d 3 true)], ob := [(0, .box 42 (.agg 42 [.d 9 true, .d 9 true, .d 9 true, .d 9 true, .nil 26, .nil 26, .d 3 true, .d 3 true])), (1, .row 28 true)] }, kept := [0, 1], outs := [(.ret, { sl := [(11, .d 28 true)], ob := [(0, .box 42 (.agg 42 [.d 9 true, .d 9 true, .d 9 true, .d 9 true, .nil 26, .nil 26, .d 3 true, .d 3 true])), (1, .row 28 true)] }), (.exit 0, { sl := [], ob := [(0, .box 42 (.agg 42 [.d 9 true, .d 9 true, .d 9 true, .d 9 true, .nil 26, .nil 26, .d 3 true, .d 3 true])), (1, .row 28 true)] })], f := fun ds => fixN (b_gateref2_DelegateOf_0 K) K ds }
def f_gateref2_DelegateOf (K : Nat) (p id subject scopes w : D) : Option (List D) :=
  (f_gateref2_ClaimsFault K p).bind fun t1 =>
  (f_gateref2_ScopesFault K scopes).bind fun t2 =>
  (fixN (b_gateref2_DelegateOf_0 K) K [D.i 2, D.i 0, D.s [], D.s [], D.s [], D.s [], D.i 0, D.i 0, D.n [D.nth t1 0, D.nth t2 0]]).bind fun t3 =>
  bif (t3.1.beq 0) then
    some [D.nth t3.2 1, D.nth t3.2 2, D.nth t3.2 3, D.nth t3.2 4, D.nth t3.2 5, D.nth t3.2 6, D.nth t3.2 0, D.n [], D.n []]
  else
    (b_gateref2_DelegateOf_1 K [id, subject]).bind fun t4 =>
    bif (D.nth t4.2 0).bool then
      some [D.s [], D.s [], D.s [], D.s [], D.i 0, D.i 0, D.i 5, D.n [], D.n []]
    else
      bif (id.str == ((p.at' 0).str)) then
        some [D.s [], D.s [], D.s [], D.s [], D.i 0, D.i 0, D.i 14, D.n [], D.n []]
      else
        (f_gateref2_CoversOf K (p.at' 5) scopes).bind fun t5 =>
        bif (bif (bif (!((D.nth t5 0).bool)) then true else (ltI ((w.at' 0).int) ((p.at' 6).int))) then true else (gtI ((w.at' 1).int) ((p.at' 7).int))) then
          some [D.s [], D.s [], D.s [], D.s [], D.i 0, D.i 0, D.i 16, D.n [], D.n []]
        else
          (f_slices_Clone_string K (p.at' 4)).bind fun t6 =>
          (f_gateref2_LeastOf K scopes).bind fun t7 =>
          (f_gateref2_ClaimsFault K (D.n [id, subject, p.at' 2, p.at' 0, D.n ((D.nth t6 0).list), D.n ((D.nth t7 0).list), w.at' 0, w.at' 1])).bind fun t8 =>
          bif (((D.nth t8 0).int) != (0 : Int)) then
            some [D.s [], D.s [], D.s [], D.s [], D.i 0, D.i 0, D.nth t8 0, D.n [], D.n []]
          else
            some [id, subject, p.at' 2, p.at' 0, w.at' 0, w.at' 1, D.i 0, D.n ((D.nth t6 0).list), D.n ((D.nth t7 0).list)]
def e_gateref2_DelegateOf (K : Nat) : Entry := { n := 5, sh := { sl := [(0, .d 42 false), (1, .d 9 false), (2, .d 9 false), (3, .d 26 false), (4, .d 48 false)], ob := [] }, kept := [], rs := [{ sl := [(0, .tup [.agg 42 [.d 9 true, .d 9 true, .d 9 true, .d 9 true, .own 26 0, .own 26 1, .d 3 true, .d 3 true], .d 28 true])], ob := [(0, .row 9 true), (1, .row 9 true)] }], f := fun ds => f_gateref2_DelegateOf K (D.nth ds 0) (D.nth ds 1) (D.nth ds 2) (D.nth ds 3) (D.nth ds 4), tot := none }
def T_gateref2_DelegateOf (K : Nat) : Tbl := { T0 with frz := fun s => memN [5, 9] s, ents := entsOf [(58, e_gateref2_ClaimsFault K), (10, e_gateref2_ScopesFault K), (59, e_gateref2_Key K), (13, e_gateref2_CoversOf K), (57, e_slices_Clone_string K), (14, e_gateref2_LeastOf K)], cuts := lk [(0, c_gateref2_DelegateOf_0 K), (1, c_gateref2_DelegateOf_1 K)] }
theorem q_gateref2_DelegateOf_1 (K : Nat) (ds : List D) : evPiece (T_gateref2_DelegateOf K) 91 (sub (codeOf Tryz.f23) [1, 1, 0, 0, 0]) .go (c_gateref2_DelegateOf_1 K) ds = b_gateref2_DelegateOf_1 K ds := by kernel_rfl
theorem k_gateref2_DelegateOf_1 (K : Nat) : CutOK Tryz.prog (T_gateref2_DelegateOf K) 91 (sub (codeOf Tryz.f23) [1, 1, 0, 0, 0]) (c_gateref2_DelegateOf_1 K) :=
  piece_thm (T := T_gateref2_DelegateOf K) (hT_of hT0 rfl rfl rfl) (hes_ok (T0 := T0) (T := T_gateref2_DelegateOf K) rfl rfl (⟨ok_gateref2_ClaimsFault K, ok_gateref2_ScopesFault K, ok_gateref2_Key K, ok_gateref2_CoversOf K, ok_slices_Clone_string K, ok_gateref2_LeastOf K, trivial⟩ : FAll Tryz.prog T0 [(58, e_gateref2_ClaimsFault K), (10, e_gateref2_ScopesFault K), (59, e_gateref2_Key K), (13, e_gateref2_CoversOf K), (57, e_slices_Clone_string K), (14, e_gateref2_LeastOf K)])) rfl rfl rfl (cutsOK_none (by rfl)) (q_gateref2_DelegateOf_1 K)
theorem q_gateref2_DelegateOf_0 (K : Nat) (rec : List D → Option (Nat × List D)) (ds : List D) : evLoop (T_gateref2_DelegateOf K) 91 (sub (codeOf Tryz.f23) [1, 0, 1, 0, 0]) .go (c_gateref2_DelegateOf_0 K) rec ds = b_gateref2_DelegateOf_0 K rec ds := by kernel_rfl
theorem k_gateref2_DelegateOf_0 (K : Nat) : CutOK Tryz.prog (T_gateref2_DelegateOf K) 91 (sub (codeOf Tryz.f23) [1, 0, 1, 0]) (c_gateref2_DelegateOf_0 K) :=
  loop_thm (T := T_gateref2_DelegateOf K) (hT_of hT0 rfl rfl rfl) (hes_ok (T0 := T0) (T := T_gateref2_DelegateOf K) rfl rfl (⟨ok_gateref2_ClaimsFault K, ok_gateref2_ScopesFault K, ok_gateref2_Key K, ok_gateref2_CoversOf K, ok_slices_Clone_string K, ok_gateref2_LeastOf K, trivial⟩ : FAll Tryz.prog T0 [(58, e_gateref2_ClaimsFault K), (10, e_gateref2_ScopesFault K), (59, e_gateref2_Key K), (13, e_gateref2_CoversOf K), (57, e_slices_Clone_string K), (14, e_gateref2_LeastOf K)])) (by kernel_rfl) rfl rfl rfl (cutsOK_none (by rfl)) rfl (q_gateref2_DelegateOf_0 K)
theorem q_gateref2_DelegateOf (K : Nat) (ds : List D) : evFn (T_gateref2_DelegateOf K) Tryz.f23 (.seq .go (.seq (.seq .go (.blk (.cut 0))) (.seq (.blk (.seq (.cut 1) .go)) .go))) (e_gateref2_DelegateOf K) ds = (e_gateref2_DelegateOf K).f ds := by kernel_rfl
theorem ok_gateref2_DelegateOf (K : Nat) : FnOK Tryz.prog T0 23 (e_gateref2_DelegateOf K) :=
  fn_thm (T0 := T0) (T := T_gateref2_DelegateOf K) rfl (hT_of hT0 rfl rfl rfl) (hes_ok (T0 := T0) (T := T_gateref2_DelegateOf K) rfl rfl (⟨ok_gateref2_ClaimsFault K, ok_gateref2_ScopesFault K, ok_gateref2_Key K, ok_gateref2_CoversOf K, ok_slices_Clone_string K, ok_gateref2_LeastOf K, trivial⟩ : FAll Tryz.prog T0 [(58, e_gateref2_ClaimsFault K), (10, e_gateref2_ScopesFault K), (59, e_gateref2_Key K), (13, e_gateref2_CoversOf K), (57, e_slices_Clone_string K), (14, e_gateref2_LeastOf K)])) Tryz.func23 (by decide) rfl (Nat.le_of_ble_eq_true rfl) rfl rfl rfl (tot_none rfl) (cutsOK_list (l := [(0, sub (codeOf Tryz.f23) [1, 0, 1, 0]), (1, sub (codeOf Tryz.f23) [1, 1, 0, 0, 0])]) (by kernel_rfl) ⟨cut_one (u := c_gateref2_DelegateOf_0 K) rfl (k_gateref2_DelegateOf_0 K), cut_one (u := c_gateref2_DelegateOf_1 K) rfl (k_gateref2_DelegateOf_1 K), trivial⟩) (q_gateref2_DelegateOf K)
/-! ### 24 gatewarden/gateref2.SameClaims -/
def f_gateref2_SameClaims (K : Nat) (a b : D) : Option (List D) :=
  bif (eqK (.pair 9 .str (.pair 9 .str (.pair 9 .str (.pair 9 .str .unit)))) (D.n [a.at' 0, a.at' 1, a.at' 2, a.at' 3]) (D.n [b.at' 0, b.at' 1, b.at' 2, b.at' 3])) then
    (f_slices_Equal_string K (a.at' 4) (b.at' 4)).bind fun t1 =>
    bif (D.nth t1 0).bool then
      (f_slices_Equal_string K (a.at' 5) (b.at' 5)).bind fun t2 =>
      some [D.b (bif (bif (D.nth t2 0).bool then (((a.at' 6).int) == ((b.at' 6).int)) else false) then (((a.at' 7).int) == ((b.at' 7).int)) else false)]
    else
      some [D.b false]
  else
    some [D.b false]
def e_gateref2_SameClaims (K : Nat) : Entry := { n := 2, sh := { sl := [(0, .d 42 false), (1, .d 42 false)], ob := [] }, kept := [], rs := [{ sl := [(0, .d 4 true)], ob := [] }], f := fun ds => f_gateref2_SameClaims K (D.nth ds 0) (D.nth ds 1), tot := none }
def T_gateref2_SameClaims (K : Nat) : Tbl := { T0 with frz := fun s => memN [2, 3] s, ents := entsOf [(16, e_slices_Equal_string K)], cuts := lk [] }
theorem q_gateref2_SameClaims (K : Nat) (ds : List D) : evFn (T_gateref2_SameClaims K) Tryz.f24 .go (e_gateref2_SameClaims K) ds = (e_gateref2_SameClaims K).f ds := by kernel_rfl
theorem ok_gateref2_SameClaims (K : Nat) : FnOK Tryz.prog T0 24 (e_gateref2_SameClaims K) :=
  fn_thm (T0 := T0) (T := T_gateref2_SameClaims K) rfl (hT_of hT0 rfl rfl rfl) (hes_ok (T0 := T0) (T := T_gateref2_SameClaims K) rfl rfl (⟨ok_slices_Equal_string K, trivial⟩ : FAll Tryz.prog T0 [(16, e_slices_Equal_string K)])) Tryz.func24 (by decide) rfl (Nat.le_of_ble_eq_true rfl) rfl rfl rfl (tot_none rfl) (cutsOK_none (by rfl)) (q_gateref2_SameClaims K)
/-! ### 94 gatewarden/token.chainFault$1 -/
def p_token_chainFault_f1 (o o0 : D) : List D := [D.b (((o.at' 0).str) == ((o0.at' 0).str)), o0]
def e_token_chainFault_f1 (K : Nat) : Entry := { n := 2, sh := { sl := [(0, .d 42 false), (1, .ptr 42 0 [])], ob := [(0, .box 42 (.d 42 false))] }, kept := [0], rs := [{ sl := [(0, .d 4 true)], ob := [(0, .box 42 (.d 42 false))] }], f := fun ds => some (p_token_chainFault_f1 (D.nth ds 0) (D.nth ds 1)), tot := some fun ds => p_token_chainFault_f1 (D.nth ds 0) (D.nth ds 1) }
def T_token_chainFault_f1 (K : Nat) : Tbl := { T0 with frz := fun s => memN [2] s, ents := entsOf [], cuts := lk [] }
theorem q_token_chainFault_f1 (K : Nat) (ds : List D) : evFn (T_token_chainFault_f1 K) Tryz.f94 .go (e_token_chainFault_f1 K) ds = (e_token_chainFault_f1 K).f ds := by kernel_rfl
theorem ok_token_chainFault_f1 (K : Nat) : FnOK Tryz.prog T0 94 (e_token_chainFault_f1 K) :=
  fn_thm (T0 := T0) (T := T_token_chainFault_f1 K) rfl (hT_of hT0 rfl rfl rfl) (hes_ok (T0 := T0) (T := T_token_chainFault_f1 K) rfl rfl (trivial : FAll Tryz.prog T0 [])) Tryz.func94 (by decide) rfl (Nat.le_of_ble_eq_true rfl) rfl rfl rfl (tot_some rfl fun _ => rfl) (cutsOK_none (by rfl)) (q_token_chainFault_f1 K)
/-! ### 95 slices.IndexFunc[[]gatewarden/api.Claims,gatewarden/api.Claims] -/
def b_slices_IndexFunc_api_Claims_of_token_chainFault_f1_0 (K : Nat) (rec : List D → Option (Nat × List D)) (ds : List D) : Option (Nat × List D) :=
  let s := D.nth ds 0
  let s7 := D.nth ds 1
  let s8 := D.nth ds 2
  let o0 := D.nth ds 3
  bif (ltI s8.int s7.int) then
    bif (inB s8.int s.list.length) then
      bif (D.nth (p_token_chainFault_f1 (D.nth s.list s8.int.toNat) o0) 0).bool then
        some (0, [s8, o0])
      else
        rec [s, s7, D.i (IntKind.i64.wrap (s8.int + (1 : Int))), o0]
    else
      none
  else
    some (1, [o0])
def c_slices_IndexFunc_api_Claims_of_token_chainFault_f1_0 (K : Nat) : Cut := { sh := { sl := [(0, .d 52 false), (1, .fn 94 [.ptr 42 0 []]), (7, .d 3 true), (8, .d 3 true)], ob := [(0, .box 42 (.d 42 false))] }, kept := [0], outs := [(.ret, { sl := [(4, .d 3 true)], ob := [(0, .box 42 (.d 42 false))] }), (.exit 0, { sl := [], ob := [(0, .box 42 (.d 42 false))] })], f := fun ds => fixN (b_slices_IndexFunc_api_Claims_of_token_chainFault_f1_0 K) K ds }
def f_slices_IndexFunc_api_Claims_of_token_chainFault_f1 (K : Nat) (s o0 : D) : Option (List D) :=
  (fixN (b_slices_IndexFunc_api_Claims_of_token_chainFault_f1_0 K) K [s, D.i (s.list.length : Int), D.i 0, o0]).bind fun t1 =>
  bif (t1.1.beq 0) then
    some [D.nth t1.2 0, D.nth t1.2 1]
  else
    some [D.i (-1), D.nth t1.2 0]
def e_slices_IndexFunc_api_Claims_of_token_chainFault_f1 (K : Nat) : Entry := { n := 2, sh := { sl := [(0, .d 52 false), (1, .fn 94 [.ptr 42 0 []])], ob := [(0, .box 42 (.d 42 false))] }, kept := [0], rs := [{ sl := [(0, .d 3 true)], ob := [(0, .box 42 (.d 42 false))] }], f := fun ds => f_slices_IndexFunc_api_Claims_of_token_chainFault_f1 K (D.nth ds 0) (D.nth ds 1), tot := none }
def T_slices_IndexFunc_api_Claims_of_token_chainFault_f1 (K : Nat) : Tbl := { T0 with ents := entsOf [(94, e_token_chainFault_f1 K)], cuts := lk [(0, c_slices_IndexFunc_api_Claims_of_token_chainFault_f1_0 K)] }
theorem q_slices_IndexFunc_api_Claims_of_token_chainFault_f1_0 (K : Nat) (rec : List D → Option (Nat × List D)) (ds : List D) : evLoop (T_slices_IndexFunc_api_Claims_of_token_chainFault_f1 K) 19 (sub (codeOf Tryz.f95) [1, 0, 1, 0, 0]) .go (c_slices_IndexFunc_api_Claims_of_token_chainFault_f1_0 K) rec ds = b_slices_IndexFunc_api_Claims_of_token_chainFault_f1_0 K rec ds := by kernel_rfl
theorem k_slices_IndexFunc_api_Claims_of_token_chainFault_f1_0 (K : Nat) : CutOK Tryz.prog (T_slices_IndexFunc_api_Claims_of_token_chainFault_f1 K) 19 (sub (codeOf Tryz.f95) [1, 0, 1, 0]) (c_slices_IndexFunc_api_Claims_of_token_chainFault_f1_0 K) :=
  loop_thm (T := T_slices_IndexFunc_api_Claims_of_token_chainFault_f1 K) (hT_of hT0 rfl rfl rfl) (hes_ok (T0 := T0) (T := T_slices_IndexFunc_api_Claims_of_token_chainFault_f1 K) rfl rfl (⟨ok_token_chainFault_f1 K, trivial⟩ : FAll Tryz.prog T0 [(94, e_token_chainFault_f1 K)])) (by kernel_rfl) rfl rfl rfl (cutsOK_none (by rfl)) rfl (q_slices_IndexFunc_api_Claims_of_token_chainFault_f1_0 K)
theorem q_slices_IndexFunc_api_Claims_of_token_chainFault_f1 (K : Nat) (ds : List D) : evFn (T_slices_IndexFunc_api_Claims_of_token_chainFault_f1 K) Tryz.f95 (.seq .go (.seq (.seq .go (.blk (.cut 0))) .go)) (e_slices_IndexFunc_api_Claims_of_token_chainFault_f1 K) ds = (e_slices_IndexFunc_api_Claims_of_token_chainFault_f1 K).f ds := by kernel_rfl
theorem ok_slices_IndexFunc_api_Claims_of_token_chainFault_f1 (K : Nat) : FnOK Tryz.prog T0 95 (e_slices_IndexFunc_api_Claims_of_token_chainFault_f1 K) :=
  fn_thm (T0 := T0) (T := T_slices_IndexFunc_api_Claims_of_token_chainFault_f1 K) rfl (hT_of hT0 rfl rfl rfl) (hes_ok (T0 := T0) (T := T_slices_IndexFunc_api_Claims_of_token_chainFault_f1 K) rfl rfl (⟨ok_token_chainFault_f1 K, trivial⟩ : FAll Tryz.prog T0 [(94, e_token_chainFault_f1 K)])) Tryz.func95 (by decide) rfl (Nat.le_of_ble_eq_true rfl) rfl rfl rfl (tot_none rfl) (cutsOK_list (l := [(0, sub (codeOf Tryz.f95) [1, 0, 1, 0])]) (by kernel_rfl) ⟨cut_one (u := c_slices_IndexFunc_api_Claims_of_token_chainFault_f1_0 K) rfl (k_slices_IndexFunc_api_Claims_of_token_chainFault_f1_0 K), trivial⟩) (q_slices_IndexFunc_api_Claims_of_token_chainFault_f1 K)
/-! ### 62 slices.ContainsFunc[[]gatewarden/api.Claims,gatewarden/api.Claims] -/
def f_slices_ContainsFunc_api_Claims_of_token_chainFault_f1 (K : Nat) (s o0 : D) : Option (List D) :=
  (f_slices_IndexFunc_api_Claims_of_token_chainFault_f1 K s o0).bind fun t1 =>
  some [D.b (geI ((D.nth t1 0).int) 0), D.nth t1 1]
def e_slices_ContainsFunc_api_Claims_of_token_chainFault_f1 (K : Nat) : Entry := { n := 2, sh := { sl := [(0, .d 52 false), (1, .fn 94 [.ptr 42 0 []])], ob := [(0, .box 42 (.d 42 false))] }, kept := [0], rs := [{ sl := [(0, .d 4 true)], ob := [(0, .box 42 (.d 42 false))] }], f := fun ds => f_slices_ContainsFunc_api_Claims_of_token_chainFault_f1 K (D.nth ds 0) (D.nth ds 1), tot := none }
def T_slices_ContainsFunc_api_Claims_of_token_chainFault_f1 (K : Nat) : Tbl := { T0 with ents := entsOf [(95, e_slices_IndexFunc_api_Claims_of_token_chainFault_f1 K)], cuts := lk [] }
theorem q_slices_ContainsFunc_api_Claims_of_token_chainFault_f1 (K : Nat) (ds : List D) : evFn (T_slices_ContainsFunc_api_Claims_of_token_chainFault_f1 K) Tryz.f62 .go (e_slices_ContainsFunc_api_Claims_of_token_chainFault_f1 K) ds = (e_slices_ContainsFunc_api_Claims_of_token_chainFault_f1 K).f ds := by kernel_rfl
theorem ok_slices_ContainsFunc_api_Claims_of_token_chainFault_f1 (K : Nat) : FnOK Tryz.prog T0 62 (e_slices_ContainsFunc_api_Claims_of_token_chainFault_f1 K) :=
  fn_thm (T0 := T0) (T := T_slices_ContainsFunc_api_Claims_of_token_chainFault_f1 K) rfl (hT_of hT0 rfl rfl rfl) (hes_ok (T0 := T0) (T := T_slices_ContainsFunc_api_Claims_of_token_chainFault_f1 K) rfl rfl (⟨ok_slices_IndexFunc_api_Claims_of_token_chainFault_f1 K, trivial⟩ : FAll Tryz.prog T0 [(95, e_slices_IndexFunc_api_Claims_of_token_chainFault_f1 K)])) Tryz.func62 (by decide) rfl (Nat.le_of_ble_eq_true rfl) rfl rfl rfl (tot_none rfl) (cutsOK_none (by rfl)) (q_slices_ContainsFunc_api_Claims_of_token_chainFault_f1 K)
/-! ### 61 gatewarden/token.chainFault -/
def b_token_chainFault_0 (K : Nat) (ds : List D) : Option (Nat × List D) :=
  let o0 := D.nth ds 0
  let o1 := D.nth ds 1
  bif (!(!(((o0.at' 2).str) == ((o1.at' 2).str)))) then
    (f_slices_Equal_string K (o0.at' 4) (o1.at' 4)).bind fun t2 =>
    some (0, [D.b (!((D.nth t2 0).bool)), o0, o1])
  else
    some (0, [D.b true, o0, o1])
def c_token_chainFault_0 (K : Nat) : Cut := { sh := { sl := [(5, .ptr 42 0 []), (6, .ptr 42 1 [])], ob := [(0, .box 42 (.d 42 false)), (1, .box 42 (.d 42 false))] }, kept := [0, 1], outs := [(.normal, { sl := [(28, .d 4 true)], ob := [(0, .box 42 (.d 42 false)), (1, .box 42 (.d 42 false))] })], f := b_token_chainFault_0 K }
def f_token_chainFault (K : Nat) (l i : D) : Option (List D) :=
  bif (inB i.int l.list.length) then
    bif (inB (IntKind.i64.wrap (i.int - (1 : Int))) l.list.length) then
      bif (!((((D.nth l.list i.int.toNat).at' 3).str) == (((D.nth l.list ((IntKind.i64.wrap (i.int - (1 : Int))).toNat)).at' 0).str))) then
        some [D.i 3]
      else
        bif (inB i.int (l.list.length + 1)) then
          (f_slices_ContainsFunc_api_Claims_of_token_chainFault_f1 K (D.n (l.list.take i.int.toNat)) (D.nth l.list i.int.toNat)).bind fun t1 =>
          bif (D.nth t1 0).bool then
            some [D.i 14]
          else
            (b_token_chainFault_0 K [D.nth t1 1, D.nth l.list ((IntKind.i64.wrap (i.int - (1 : Int))).toNat)]).bind fun t2 =>
            bif (D.nth t2.2 0).bool then
              some [D.i 13]
            else
              (f_token_coverAll K ((D.nth t2.2 2).at' 5) ((D.nth t2.2 1).at' 5)).bind fun t3 =>
              bif (bif (bif (!((D.nth t3 0).bool)) then true else (ltI (((D.nth t2.2 1).at' 6).int) (((D.nth t2.2 2).at' 6).int))) then true else (gtI (((D.nth t2.2 1).at' 7).int) (((D.nth t2.2 2).at' 7).int))) then
                some [D.i 16]
              else
                some [D.i 0]
        else
          none
    else
      none
  else
    none
def e_token_chainFault (K : Nat) : Entry := { n := 2, sh := { sl := [(0, .d 52 false), (1, .d 3 false)], ob := [] }, kept := [], rs := [{ sl := [(0, .d 28 true)], ob := [] }], f := fun ds => f_token_chainFault K (D.nth ds 0) (D.nth ds 1), tot := none }
def T_token_chainFault (K : Nat) : Tbl := { T0 with ents := entsOf [(62, e_slices_ContainsFunc_api_Claims_of_token_chainFault_f1 K), (16, e_slices_Equal_string K), (39, e_token_coverAll K)], cuts := lk [(0, c_token_chainFault_0 K)] }
theorem q_token_chainFault_0 (K : Nat) (ds : List D) : evPiece (T_token_chainFault K) 63 (sub (codeOf Tryz.f61) [1, 1, 0, 0, 1, 1, 1, 1, 0]) .go (c_token_chainFault_0 K) ds = b_token_chainFault_0 K ds := by kernel_rfl
theorem k_token_chainFault_0 (K : Nat) : CutOK Tryz.prog (T_token_chainFault K) 63 (sub (codeOf Tryz.f61) [1, 1, 0, 0, 1, 1, 1, 1, 0]) (c_token_chainFault_0 K) :=
  piece_thm (T := T_token_chainFault K) (hT_of hT0 rfl rfl rfl) (hes_ok (T0 := T0) (T := T_token_chainFault K) rfl rfl (⟨ok_slices_ContainsFunc_api_Claims_of_token_chainFault_f1 K, ok_slices_Equal_string K, ok_token_coverAll K, trivial⟩ : FAll Tryz.prog T0 [(62, e_slices_ContainsFunc_api_Claims_of_token_chainFault_f1 K), (16, e_slices_Equal_string K), (39, e_token_coverAll K)])) rfl rfl rfl (cutsOK_none (by rfl)) (q_token_chainFault_0 K)
theorem q_token_chainFault (K : Nat) (ds : List D) : evFn (T_token_chainFault K) Tryz.f61 (.seq .go (.seq .go (.seq (.blk (.seq .go (.cond .go (.seq .go (.cond .go (.seq (.cut 0) .go)))))) .go))) (e_token_chainFault K) ds = (e_token_chainFault K).f ds := by kernel_rfl
theorem ok_token_chainFault (K : Nat) : FnOK Tryz.prog T0 61 (e_token_chainFault K) :=
  fn_thm (T0 := T0) (T := T_token_chainFault K) rfl (hT_of hT0 rfl rfl rfl) (hes_ok (T0 := T0) (T := T_token_chainFault K) rfl rfl (⟨ok_slices_ContainsFunc_api_Claims_of_token_chainFault_f1 K, ok_slices_Equal_string K, ok_token_coverAll K, trivial⟩ : FAll Tryz.prog T0 [(62, e_slices_ContainsFunc_api_Claims_of_token_chainFault_f1 K), (16, e_slices_Equal_string K), (39, e_token_coverAll K)])) Tryz.func61 (by decide) rfl (Nat.le_of_ble_eq_true rfl) rfl rfl rfl (tot_none rfl) (cutsOK_list (l := [(0, sub (codeOf Tryz.f61) [1, 1, 0, 0, 1, 1, 1, 1, 0])]) (by kernel_rfl) ⟨cut_one (u := c_token_chainFault_0 K) rfl (k_token_chainFault_0 K), trivial⟩) (q_token_chainFault K)
/-! ### 27 gatewarden/token.CheckChain -/
def b_token_CheckChain_1 (K : Nat) (rec : List D → Option (Nat × List D)) (ds : List D) : Option (Nat × List D) :=
  let l := D.nth ds 0
  let i := D.nth ds 1
  bif (ltI i.int (l.list.length : Int)) then
    (f_token_chainFault K l i).bind fun t2 =>
    bif (((D.nth t2 0).int) != (0 : Int)) then
      some (0, [D.nth t2 0])
    else
      rec [l, D.i (IntKind.i64.wrap (i.int + (1 : Int)))]
  else
    some (1, [])
def c_token_CheckChain_1 (K : Nat) : Cut := { sh := { sl := [(0, .d 52 false), (6, .d 3 true)], ob := [] }, kept := [], outs := [(.ret, { sl := [(2, .d 28 true)], ob := [] }), (.exit 2, { sl := [], ob := [] })], f := fun ds => fixN (b_token_CheckChain_1 K) K ds }
def b_token_CheckChain_0 (K : Nat) (rec : List D → Option (Nat × List D)) (ds : List D) : Option (Nat × List D) :=
  let s11 := D.nth ds 0
  let s12 := D.nth ds 1
  let s13 := D.nth ds 2
  bif (ltI s13.int s12.int) then
    bif (inB s13.int s11.list.length) then
      (f_token_CheckClaims K (D.nth s11.list s13.int.toNat)).bind fun t1 =>
      bif (((D.nth t1 0).int) != (0 : Int)) then
        some (0, [D.nth t1 0])
      else
        rec [s11, s12, D.i (IntKind.i64.wrap (s13.int + (1 : Int)))]
    else
      none
  else
    some (1, [])
def c_token_CheckChain_0 (K : Nat) : Cut := { sh := { sl := [(11, .d 52 false), (12, .d 3 true), (13, .d 3 true)], ob := [] }, kept := [], outs := [(.ret, { sl := [(2, .d 28 true)], ob := [] }), (.exit 0, { sl := [], ob := [] })], f := fun ds => fixN (b_token_CheckChain_0 K) K ds }
def f_token_CheckChain (K : Nat) (l : D) : Option (List D) :=
  bif (gtI (l.list.length : Int) 10) then
    some [D.i 2]
  else
    (fixN (b_token_CheckChain_0 K) K [l, D.i (l.list.length : Int), D.i 0]).bind fun t1 =>
    bif (t1.1.beq 0) then
      some [D.nth t1.2 0]
    else
      bif ((l.list.length : Int) == (0 : Int)) then
        some [D.i 8]
      else
        bif (inB 0 l.list.length) then
          bif (!((((D.nth l.list 0).at' 3).str) == ([] : List UInt8))) then
            some [D.i 3]
          else
            (fixN (b_token_CheckChain_1 K) K [l, D.i 1]).bind fun t2 =>
            bif (t2.1.beq 0) then
              some [D.nth t2.2 0]
            else
              some [D.i 0]
        else
          none
def e_token_CheckChain (K : Nat) : Entry := { n := 1, sh := { sl := [(0, .d 52 false)], ob := [] }, kept := [], rs := [{ sl := [(0, .d 28 true)], ob := [] }], f := fun ds => f_token_CheckChain K (D.nth ds 0), tot := none }
def T_token_CheckChain (K : Nat) : Tbl := { T0 with ents := entsOf [(55, e_token_CheckClaims K), (61, e_token_chainFault K)], cuts := lk [(0, c_token_CheckChain_0 K), (1, c_token_CheckChain_1 K)] }
theorem q_token_CheckChain_1 (K : Nat) (rec : List D → Option (Nat × List D)) (ds : List D) : evLoop (T_token_CheckChain K) 43 (sub (codeOf Tryz.f27) [1, 1, 1, 1, 1, 0, 1, 0, 0]) .go (c_token_CheckChain_1 K) rec ds = b_token_CheckChain_1 K rec ds := by kernel_rfl
theorem k_token_CheckChain_1 (K : Nat) : CutOK Tryz.prog (T_token_CheckChain K) 43 (sub (codeOf Tryz.f27) [1, 1, 1, 1, 1, 0, 1, 0]) (c_token_CheckChain_1 K) :=
  loop_thm (T := T_token_CheckChain K) (hT_of hT0 rfl rfl rfl) (hes_ok (T0 := T0) (T := T_token_CheckChain K) rfl rfl (⟨ok_token_CheckClaims K, ok_token_chainFault K, trivial⟩ : FAll Tryz.prog T0 [(55, e_token_CheckClaims K), (61, e_token_chainFault K)])) (by kernel_rfl) rfl rfl rfl (cutsOK_none (by rfl)) rfl (q_token_CheckChain_1 K)
theorem q_token_CheckChain_0 (K : Nat) (rec : List D → Option (Nat × List D)) (ds : List D) : evLoop (T_token_CheckChain K) 43 (sub (codeOf Tryz.f27) [1, 1, 0, 1, 0, 0]) .go (c_token_CheckChain_0 K) rec ds = b_token_CheckChain_0 K rec ds := by kernel_rfl
theorem k_token_CheckChain_0 (K : Nat) : CutOK Tryz.prog (T_token_CheckChain K) 43 (sub (codeOf Tryz.f27) [1, 1, 0, 1, 0]) (c_token_CheckChain_0 K) :=
  loop_thm (T := T_token_CheckChain K) (hT_of hT0 rfl rfl rfl) (hes_ok (T0 := T0) (T := T_token_CheckChain K) rfl rfl (⟨ok_token_CheckClaims K, ok_token_chainFault K, trivial⟩ : FAll Tryz.prog T0 [(55, e_token_CheckClaims K), (61, e_token_chainFault K)])) (by kernel_rfl) rfl rfl rfl (cutsOK_none (by rfl)) rfl (q_token_CheckChain_0 K)
theorem q_token_CheckChain (K : Nat) (ds : List D) : evFn (T_token_CheckChain K) Tryz.f27 (.seq .go (.seq .go (.seq (.seq .go (.blk (.cut 0))) (.seq .go (.seq .go (.seq (.seq .go (.blk (.cut 1))) .go)))))) (e_token_CheckChain K) ds = (e_token_CheckChain K).f ds := by kernel_rfl
theorem ok_token_CheckChain (K : Nat) : FnOK Tryz.prog T0 27 (e_token_CheckChain K) :=
  fn_thm (T0 := T0) (T := T_token_CheckChain K) rfl (hT_of hT0 rfl rfl rfl) (hes_ok (T0 := T0) (T := T_token_CheckChain K) rfl rfl (⟨ok_token_CheckClaims K, ok_token_chainFault K, trivial⟩ : FAll Tryz.prog T0 [(55, e_token_CheckClaims K), (61, e_token_chainFault K)])) Tryz.func27 (by decide) rfl (Nat.le_of_ble_eq_true rfl) rfl rfl rfl (tot_none rfl) (cutsOK_list (l := [(0, sub (codeOf Tryz.f27) [1, 1, 0, 1, 0]), (1, sub (codeOf Tryz.f27) [1, 1, 1, 1, 1, 0, 1, 0])]) (by kernel_rfl) ⟨cut_one (u := c_token_CheckChain_0 K) rfl (k_token_CheckChain_0 K), cut_one (u := c_token_CheckChain_1 K) rfl (k_token_CheckChain_1 K), trivial⟩) (q_token_CheckChain K)
/-! ### 63 gatewarden/gateref2.ChainFault$1 -/
def p_gateref2_ChainFault_f1 (o o0 : D) : List D := [D.b (((o.at' 0).str) == ((o0.at' 0).str)), o0]
def e_gateref2_ChainFault_f1 (K : Nat) : Entry := { n := 2, sh := { sl := [(0, .d 42 false), (1, .ptr 42 0 [])], ob := [(0, .box 42 (.d 42 false))] }, kept := [0], rs := [{ sl := [(0, .d 4 true)], ob := [(0, .box 42 (.d 42 false))] }], f := fun ds => some (p_gateref2_ChainFault_f1 (D.nth ds 0) (D.nth ds 1)), tot := some fun ds => p_gateref2_ChainFault_f1 (D.nth ds 0) (D.nth ds 1) }
def T_gateref2_ChainFault_f1 (K : Nat) : Tbl := { T0 with frz := fun s => memN [2] s, ents := entsOf [], cuts := lk [] }
theorem q_gateref2_ChainFault_f1 (K : Nat) (ds : List D) : evFn (T_gateref2_ChainFault_f1 K) Tryz.f63 .go (e_gateref2_ChainFault_f1 K) ds = (e_gateref2_ChainFault_f1 K).f ds := by kernel_rfl
theorem ok_gateref2_ChainFault_f1 (K : Nat) : FnOK Tryz.prog T0 63 (e_gateref2_ChainFault_f1 K) :=
  fn_thm (T0 := T0) (T := T_gateref2_ChainFault_f1 K) rfl (hT_of hT0 rfl rfl rfl) (hes_ok (T0 := T0) (T := T_gateref2_ChainFault_f1 K) rfl rfl (trivial : FAll Tryz.prog T0 [])) Tryz.func63 (by decide) rfl (Nat.le_of_ble_eq_true rfl) rfl rfl rfl (tot_some rfl fun _ => rfl) (cutsOK_none (by rfl)) (q_gateref2_ChainFault_f1 K)
/-! ### 95 slices.IndexFunc[[]gatewarden/api.Claims,gatewarden/api.Claims] -/
def b_slices_IndexFunc_api_Claims_of_gateref2_ChainFault_f1_0 (K : Nat) (rec : List D → Option (Nat × List D)) (ds : List D) : Option (Nat × List D) :=
  let s := D.nth ds 0
  let s7 := D.nth ds 1
  let s8 := D.nth ds 2
  let o0 := D.nth ds 3
  bif (ltI s8.int s7.int) then
    bif (inB s8.int s.list.length) then
      bif (D.nth (p_gateref2_ChainFault_f1 (D.nth s.list s8.int.toNat) o0) 0).bool then
        some (0, [s8, o0])
      else
        rec [s, s7, D.i (IntKind.i64.wrap (s8.int + (1 : Int))), o0]
    else
      none
  else
    some (1, [o0])
def c_slices_IndexFunc_api_Claims_of_gateref2_ChainFault_f1_0 (K : Nat) : Cut := { sh := { sl := [(0, .d 52 false), (1, .fn 63 [.ptr 42 0 []]), (7, .d 3 true), (8, .d 3 true)], ob := [(0, .box 42 (.d 42 false))] }, kept := [0], outs := [(.ret, { sl := [(4, .d 3 true)], ob := [(0, .box 42 (.d 42 false))] }), (.exit 0, { sl := [], ob := [(0, .box 42 (.d 42 false))] })], f := fun ds => fixN (b_slices_IndexFunc_api_Claims_of_gateref2_ChainFault_f1_0 K) K ds }
def f_slices_IndexFunc_api_Claims_of_gateref2_ChainFault_f1 (K : Nat) (s o0 : D) : Option (List D) :=
  (fixN (b_slices_IndexFunc_api_Claims_of_gateref2_ChainFault_f1_0 K) K [s, D.i (s.list.length : Int), D.i 0, o0]).bind fun t1 =>
  bif (t1.1.beq 0) then
    some [D.nth t1.2 0, D.nth t1.2 1]
  else
    some [D.i (-1), D.nth t1.2 0]
def e_slices_IndexFunc_api_Claims_of_gateref2_ChainFault_f1 (K : Nat) : Entry := { n := 2, sh := { sl := [(0, .d 52 false), (1, .fn 63 [.ptr 42 0 []])], ob := [(0, .box 42 (.d 42 false))] }, kept := [0], rs := [{ sl := [(0, .d 3 true)], ob := [(0, .box 42 (.d 42 false))] }], f := fun ds => f_slices_IndexFunc_api_Claims_of_gateref2_ChainFault_f1 K (D.nth ds 0) (D.nth ds 1), tot := none }
def T_slices_IndexFunc_api_Claims_of_gateref2_ChainFault_f1 (K : Nat) : Tbl := { T0 with ents := entsOf [(63, e_gateref2_ChainFault_f1 K)], cuts := lk [(0, c_slices_IndexFunc_api_Claims_of_gateref2_ChainFault_f1_0 K)] }
theorem q_slices_IndexFunc_api_Claims_of_gateref2_ChainFault_f1_0 (K : Nat) (rec : List D → Option (Nat × List D)) (ds : List D) : evLoop (T_slices_IndexFunc_api_Claims_of_gateref2_ChainFault_f1 K) 19 (sub (codeOf Tryz.f95) [1, 0, 1, 0, 0]) .go (c_slices_IndexFunc_api_Claims_of_gateref2_ChainFault_f1_0 K) rec ds = b_slices_IndexFunc_api_Claims_of_gateref2_ChainFault_f1_0 K rec ds := by kernel_rfl
theorem k_slices_IndexFunc_api_Claims_of_gateref2_ChainFault_f1_0 (K : Nat) : CutOK Tryz.prog (T_slices_IndexFunc_api_Claims_of_gateref2_ChainFault_f1 K) 19 (sub (codeOf Tryz.f95) [1, 0, 1, 0]) (c_slices_IndexFunc_api_Claims_of_gateref2_ChainFault_f1_0 K) :=
  loop_thm (T := T_slices_IndexFunc_api_Claims_of_gateref2_ChainFault_f1 K) (hT_of hT0 rfl rfl rfl) (hes_ok (T0 := T0) (T := T_slices_IndexFunc_api_Claims_of_gateref2_ChainFault_f1 K) rfl rfl (⟨ok_gateref2_ChainFault_f1 K, trivial⟩ : FAll Tryz.prog T0 [(63, e_gateref2_ChainFault_f1 K)])) (by kernel_rfl) rfl rfl rfl (cutsOK_none (by rfl)) rfl (q_slices_IndexFunc_api_Claims_of_gateref2_ChainFault_f1_0 K)
theorem q_slices_IndexFunc_api_Claims_of_gateref2_ChainFault_f1 (K : Nat) (ds : List D) : evFn (T_slices_IndexFunc_api_Claims_of_gateref2_ChainFault_f1 K) Tryz.f95 (.seq .go (.seq (.seq .go (.blk (.cut 0))) .go)) (e_slices_IndexFunc_api_Claims_of_gateref2_ChainFault_f1 K) ds = (e_slices_IndexFunc_api_Claims_of_gateref2_ChainFault_f1 K).f ds := by kernel_rfl
theorem ok_slices_IndexFunc_api_Claims_of_gateref2_ChainFault_f1 (K : Nat) : FnOK Tryz.prog T0 95 (e_slices_IndexFunc_api_Claims_of_gateref2_ChainFault_f1 K) :=
  fn_thm (T0 := T0) (T := T_slices_IndexFunc_api_Claims_of_gateref2_ChainFault_f1 K) rfl (hT_of hT0 rfl rfl rfl) (hes_ok (T0 := T0) (T := T_slices_IndexFunc_api_Claims_of_gateref2_ChainFault_f1 K) rfl rfl (⟨ok_gateref2_ChainFault_f1 K, trivial⟩ : FAll Tryz.prog T0 [(63, e_gateref2_ChainFault_f1 K)])) Tryz.func95 (by decide) rfl (Nat.le_of_ble_eq_true rfl) rfl rfl rfl (tot_none rfl) (cutsOK_list (l := [(0, sub (codeOf Tryz.f95) [1, 0, 1, 0])]) (by kernel_rfl) ⟨cut_one (u := c_slices_IndexFunc_api_Claims_of_gateref2_ChainFault_f1_0 K) rfl (k_slices_IndexFunc_api_Claims_of_gateref2_ChainFault_f1_0 K), trivial⟩) (q_slices_IndexFunc_api_Claims_of_gateref2_ChainFault_f1 K)
/-! ### 62 slices.ContainsFunc[[]gatewarden/api.Claims,gatewarden/api.Claims] -/
def f_slices_ContainsFunc_api_Claims_of_gateref2_ChainFault_f1 (K : Nat) (s o0 : D) : Option (List D) :=
  (f_slices_IndexFunc_api_Claims_of_gateref2_ChainFault_f1 K s o0).bind fun t1 =>
  some [D.b (geI ((D.nth t1 0).int) 0), D.nth t1 1]
def e_slices_ContainsFunc_api_Claims_of_gateref2_ChainFault_f1 (K : Nat) : Entry := { n := 2, sh := { sl := [(0, .d 52 false), (1, .fn 63 [.ptr 42 0 []])], ob := [(0, .box 42 (.d 42 false))] }, kept := [0], rs := [{ sl := [(0, .d 4 true)], ob := [(0, .box 42 (.d 42 false))] }], f := fun ds => f_slices_ContainsFunc_api_Claims_of_gateref2_ChainFault_f1 K (D.nth ds 0) (D.nth ds 1), tot := none }
def T_slices_ContainsFunc_api_Claims_of_gateref2_ChainFault_f1 (K : Nat) : Tbl := { T0 with ents := entsOf [(95, e_slices_IndexFunc_api_Claims_of_gateref2_ChainFault_f1 K)], cuts := lk [] }
theorem q_slices_ContainsFunc_api_Claims_of_gateref2_ChainFault_f1 (K : Nat) (ds : List D) : evFn (T_slices_ContainsFunc_api_Claims_of_gateref2_ChainFault_f1 K) Tryz.f62 .go (e_slices_ContainsFunc_api_Claims_of_gateref2_ChainFault_f1 K) ds = (e_slices_ContainsFunc_api_Claims_of_gateref2_ChainFault_f1 K).f ds := by kernel_rfl
theorem ok_slices_ContainsFunc_api_Claims_of_gateref2_ChainFault_f1 (K : Nat) : FnOK Tryz.prog T0 62 (e_slices_ContainsFunc_api_Claims_of_gateref2_ChainFault_f1 K) :=
  fn_thm (T0 := T0) (T := T_slices_ContainsFunc_api_Claims_of_gateref2_ChainFault_f1 K) rfl (hT_of hT0 rfl rfl rfl) (hes_ok (T0 := T0) (T := T_slices_ContainsFunc_api_Claims_of_gateref2_ChainFault_f1 K) rfl rfl (⟨ok_slices_IndexFunc_api_Claims_of_gateref2_ChainFault_f1 K, trivial⟩ : FAll Tryz.prog T0 [(95, e_slices_IndexFunc_api_Claims_of_gateref2_ChainFault_f1 K)])) Tryz.func62 (by decide) rfl (Nat.le_of_ble_eq_true rfl) rfl rfl rfl (tot_none rfl) (cutsOK_none (by rfl)) (q_slices_ContainsFunc_api_Claims_of_gateref2_ChainFault_f1 K)
/-! ### 28 gatewarden/gateref2.ChainFault -/
def b_gateref2_ChainFault_2 (K : Nat) (ds : List D) : Option (Nat × List D) :=
  let o0 := D.nth ds 0
  let o1 := D.nth ds 1
  bif (!(!(((o1.at' 2).str) == ((o0.at' 2).str)))) then
    (f_slices_Equal_string K (o1.at' 4) (o0.at' 4)).bind fun t3 =>
    some (0, [D.b (!((D.nth t3 0).bool)), o0, o1])
  else
    some (0, [D.b true, o0, o1])
def c_gateref2_ChainFault_2 (K : Nat) : Cut := { sh := { sl := [(7, .ptr 42 0 []), (8, .ptr 42 1 [])], ob := [(0, .box 42 (.d 42 false)), (1, .box 42 (.d 42 false))] }, kept := [0, 1], outs := [(.normal, { sl := [(59, .d 4 true)], ob := [(0, .box 42 (.d 42 false)), (1, .box 42 (.d 42 false))] })], f := b_gateref2_ChainFault_2 K }
def b_gateref2_ChainFault_1 (K : Nat) (rec : List D → Option (Nat × List D)) (ds : List D) : Option (Nat × List D) :=
  let l := D.nth ds 0
  let i := D.nth ds 1
  bif (ltI i.int (l.list.length : Int)) then
    bif (inB (IntKind.i64.wrap (i.int - (1 : Int))) l.list.length) then
      bif (inB i.int l.list.length) then
        bif (!((((D.nth l.list i.int.toNat).at' 3).str) == (((D.nth l.list ((IntKind.i64.wrap (i.int - (1 : Int))).toNat)).at' 0).str))) then
          some (0, [D.i 3])
        else
          bif (inB i.int (l.list.length + 1)) then
            (f_slices_ContainsFunc_api_Claims_of_gateref2_ChainFault_f1 K (D.n (l.list.take i.int.toNat)) (D.nth l.list i.int.toNat)).bind fun t2 =>
            bif (D.nth t2 0).bool then
              some (0, [D.i 14])
            else
              (b_gateref2_ChainFault_2 K [D.nth l.list ((IntKind.i64.wrap (i.int - (1 : Int))).toNat), D.nth t2 1]).bind fun t3 =>
              bif (D.nth t3.2 0).bool then
                some (0, [D.i 13])
              else
                (f_gateref2_CoversOf K ((D.nth t3.2 1).at' 5) ((D.nth t3.2 2).at' 5)).bind fun t4 =>
                bif (bif (bif (!((D.nth t4 0).bool)) then true else (ltI (((D.nth t3.2 2).at' 6).int) (((D.nth t3.2 1).at' 6).int))) then true else (gtI (((D.nth t3.2 2).at' 7).int) (((D.nth t3.2 1).at' 7).int))) then
                  some (0, [D.i 16])
                else
                  rec [l, D.i (IntKind.i64.wrap (i.int + (1 : Int)))]
          else
            none
      else
        none
    else
      none
  else
    some (1, [])
def c_gateref2_ChainFault_1 (K : Nat) : Cut := { sh := { sl := [(0, .d 52 false), (6, .d 3 true)], ob := [] }, kept := [], outs := [(.ret, { sl := [(2, .d 28 true)], ob := [] }), (.exit 2, { sl := [], ob := [] })], f := fun ds => fixN (b_gateref2_ChainFault_1 K) K ds }
def b_gateref2_ChainFault_0 (K : Nat) (rec : List D → Option (Nat × List D)) (ds : List D) : Option (Nat × List D) :=
  let s12 := D.nth ds 0
  let s13 := D.nth ds 1
  let s14 := D.nth ds 2
  bif (ltI s14.int s13.int) then
    bif (inB s14.int s12.list.length) then
      (f_gateref2_ClaimsFault K (D.nth s12.list s14.int.toNat)).bind fun t1 =>
      bif (((D.nth t1 0).int) != (0 : Int)) then
        some (0, [D.nth t1 0])
      else
        rec [s12, s13, D.i (IntKind.i64.wrap (s14.int + (1 : Int)))]
    else
      none
  else
    some (1, [])
def c_gateref2_ChainFault_0 (K : Nat) : Cut := { sh := { sl := [(12, .d 52 false), (13, .d 3 true), (14, .d 3 true)], ob := [] }, kept := [], outs := [(.ret, { sl := [(2, .d 28 true)], ob := [] }), (.exit 0, { sl := [], ob := [] })], f := fun ds => fixN (b_gateref2_ChainFault_0 K) K ds }
def f_gateref2_ChainFault (K : Nat) (l : D) : Option (List D) :=
  bif (gtI (l.list.length : Int) 10) then
    some [D.i 2]
  else
    (fixN (b_gateref2_ChainFault_0 K) K [l, D.i (l.list.length : Int), D.i 0]).bind fun t1 =>
    bif (t1.1.beq 0) then
      some [D.nth t1.2 0]
    else
      bif ((l.list.length : Int) == (0 : Int)) then
        some [D.i 8]
      else
        bif (inB 0 l.list.length) then
          bif (!((((D.nth l.list 0).at' 3).str) == ([] : List UInt8))) then
            some [D.i 3]
          else
            (fixN (b_gateref2_ChainFault_1 K) K [l, D.i 1]).bind fun t2 =>
            bif (t2.1.beq 0) then
              some [D.nth t2.2 0]
            else
              some [D.i 0]
        else
          none
def e_gateref2_ChainFault (K : Nat) : Entry := { n := 1, sh := { sl := [(0, .d 52 false)], ob := [] }, kept := [], rs := [{ sl := [(0, .d 28 true)], ob := [] }], f := fun ds => f_gateref2_ChainFault K (D.nth ds 0), tot := none }
def T_gateref2_ChainFault (K : Nat) : Tbl := { T0 with ents := entsOf [(58, e_gateref2_ClaimsFault K), (62, e_slices_ContainsFunc_api_Claims_of_gateref2_ChainFault_f1 K), (16, e_slices_Equal_string K), (13, e_gateref2_CoversOf K)], cuts := lk [(0, c_gateref2_ChainFault_0 K), (1, c_gateref2_ChainFault_1 K), (2, c_gateref2_ChainFault_2 K)] }
theorem q_gateref2_ChainFault_2 (K : Nat) (ds : List D) : evPiece (T_gateref2_ChainFault K) 94 (sub (codeOf Tryz.f28) [1, 1, 1, 1, 1, 0, 1, 0, 0, 1, 0, 0, 1, 0, 1, 1, 1, 1, 0]) .go (c_gateref2_ChainFault_2 K) ds = b_gateref2_ChainFault_2 K ds := by kernel_rfl
theorem k_gateref2_ChainFault_2 (K : Nat) : CutOK Tryz.prog (T_gateref2_ChainFault K) 94 (sub (codeOf Tryz.f28) [1, 1, 1, 1, 1, 0, 1, 0, 0, 1, 0, 0, 1, 0, 1, 1, 1, 1, 0]) (c_gateref2_ChainFault_2 K) :=
  piece_thm (T := T_gateref2_ChainFault K) (hT_of hT0 rfl rfl rfl) (hes_ok (T0 := T0) (T := T_gateref2_ChainFault K) rfl rfl (⟨ok_gateref2_ClaimsFault K, ok_slices_ContainsFunc_api_Claims_of_gateref2_ChainFault_f1 K, ok_slices_Equal_string K, ok_gateref2_CoversOf K, trivial⟩ : FAll Tryz.prog T0 [(58, e_gateref2_ClaimsFault K), (62, e_slices_ContainsFunc_api_Claims_of_gateref2_ChainFault_f1 K), (16, e_slices_Equal_string K), (13, e_gateref2_CoversOf K)])) rfl rfl rfl (cutsOK_none (by rfl)) (q_gateref2_ChainFault_2 K)
theorem q_gateref2_ChainFault_1 (K : Nat) (rec : List D → Option (Nat × List D)) (ds : List D) : evLoop (T_gateref2_ChainFault K) 94 (sub (codeOf Tryz.f28) [1, 1, 1, 1, 1, 0, 1, 0, 0]) (.seq .go (.seq (.blk (.seq .go (.blk (.seq .go (.cond .go (.seq .go (.cond .go (.seq (.cut 2) .go)))))))) .go)) (c_gateref2_ChainFault_1 K) rec ds = b_gateref2_ChainFault_1 K rec ds := by kernel_rfl
theorem k_gateref2_ChainFault_1 (K : Nat) : CutOK Tryz.prog (T_gateref2_ChainFault K) 94 (sub (codeOf Tryz.f28) [1, 1, 1, 1, 1, 0, 1, 0]) (c_gateref2_ChainFault_1 K) :=
  loop_thm (T := T_gateref2_ChainFault K) (hT_of hT0 rfl rfl rfl) (hes_ok (T0 := T0) (T := T_gateref2_ChainFault K) rfl rfl (⟨ok_gateref2_ClaimsFault K, ok_slices_ContainsFunc_api_Claims_of_gateref2_ChainFault_f1 K, ok_slices_Equal_string K, ok_gateref2_CoversOf K, trivial⟩ : FAll Tryz.prog T0 [(58, e_gateref2_ClaimsFault K), (62, e_slices_ContainsFunc_api_Claims_of_gateref2_ChainFault_f1 K), (16, e_slices_Equal_string K), (13, e_gateref2_CoversOf K)])) (by kernel_rfl) rfl rfl rfl (cutsOK_list (l := [(2, sub (codeOf Tryz.f28) [1, 1, 1, 1, 1, 0, 1, 0, 0, 1, 0, 0, 1, 0, 1, 1, 1, 1, 0])]) (by kernel_rfl) ⟨cut_one (u := c_gateref2_ChainFault_2 K) rfl (k_gateref2_ChainFault_2 K), trivial⟩) rfl (q_gateref2_ChainFault_1 K)
theorem q_gateref2_ChainFault_0 (K : Nat) (rec : List D → Option (Nat × List D)) (ds : List D) : evLoop (T_gateref2_ChainFault K) 94 (sub (codeOf Tryz.f28) [1, 1, 0, 1, 0, 0]) .go (c_gateref2_ChainFault_0 K) rec ds = b_gateref2_ChainFault_0 K rec ds := by kernel_rfl
theorem k_gateref2_ChainFault_0 (K : Nat) : CutOK Tryz.prog (T_gateref2_ChainFault K) 94 (sub (codeOf Tryz.f28) [1, 1, 0, 1, 0]) (c_gateref2_ChainFault_0 K) :=
  loop_thm (T := T_gateref2_ChainFault K) (hT_of hT0 rfl rfl rfl) (hes_ok (T0 := T0) (T := T_gateref2_ChainFault K) rfl rfl (⟨ok_gateref2_ClaimsFault K, ok_slices_ContainsFunc_api_Claims_of_gateref2_ChainFault_f1 K, ok_slices_Equal_string K, ok_gateref2_CoversOf K, trivial⟩ : FAll Tryz.prog T0 [(58, e_gateref2_ClaimsFault K), (62, e_slices_ContainsFunc_api_Claims_of_gateref2_ChainFault_f1 K), (16, e_slices_Equal_string K), (13, e_gateref2_CoversOf K)])) (by kernel_rfl) rfl rfl rfl (cutsOK_none (by rfl)) rfl (q_gateref2_ChainFault_0 K)
theorem q_gateref2_ChainFault (K : Nat) (ds : List D) : evFn (T_gateref2_ChainFault K) Tryz.f28 (.seq .go (.seq .go (.seq (.seq .go (.blk (.cut 0))) (.seq .go (.seq .go (.seq (.seq .go (.blk (.cut 1))) .go)))))) (e_gateref2_ChainFault K) ds = (e_gateref2_ChainFault K).f ds := by kernel_rfl
theorem ok_gateref2_ChainFault (K : Nat) : FnOK Tryz.prog T0 28 (e_gateref2_ChainFault K) :=
  fn_thm (T0 := T0) (T := T_gateref2_ChainFault K) rfl (hT_of hT0 rfl rfl rfl) (hes_ok (T0 := T0) (T := T_gateref2_ChainFault K) rfl rfl (⟨ok_gateref2_ClaimsFault K, ok_slices_ContainsFunc_api_Claims_of_gateref2_ChainFault_f1 K, ok_slices_Equal_string K, ok_gateref2_CoversOf K, trivial⟩ : FAll Tryz.prog T0 [(58, e_gateref2_ClaimsFault K), (62, e_slices_ContainsFunc_api_Claims_of_gateref2_ChainFault_f1 K), (16, e_slices_Equal_string K), (13, e_gateref2_CoversOf K)])) Tryz.func28 (by decide) rfl (Nat.le_of_ble_eq_true rfl) rfl rfl rfl (tot_none rfl) (cutsOK_list (l := [(0, sub (codeOf Tryz.f28) [1, 1, 0, 1, 0]), (1, sub (codeOf Tryz.f28) [1, 1, 1, 1, 1, 0, 1, 0])]) (by kernel_rfl) ⟨cut_one (u := c_gateref2_ChainFault_0 K) rfl (k_gateref2_ChainFault_0 K), cut_one (u := c_gateref2_ChainFault_1 K) rfl (k_gateref2_ChainFault_1 K), trivial⟩) (q_gateref2_ChainFault K)
/-! ### 52 gatewarden/token.Encode -/
def b_token_Encode_2 (K : Nat) (rec : List D → Option (Nat × List D)) (ds : List D) : Option (Nat × List D) :=
  let x := D.nth ds 0
  let s30 := D.nth ds 1
  let s31 := D.nth ds 2
  let r0 := D.nth ds 3
  bif (ltI s31.int s30.int) then
    bif (!(ltI (IntKind.i64.wrap ((18 : Int) - (IntKind.i64.wrap ((6 : Int) * s31.int)))) 0)) then
      bif (inB (bitsI .and .i64 (shr .i64 x.int (IntKind.i64.wrap ((18 : Int) - (IntKind.i64.wrap ((6 : Int) * s31.int))))) (63 : Int)) ([65, 66, 67, 68, 69, 70, 71, 72, 73, 74, 75, 76, 77, 78, 79, 80, 81, 82, 83, 84, 85, 86, 87, 88, 89, 90, 97, 98, 99, 100, 101, 102, 103, 104, 105, 106, 107, 108, 109, 110, 111, 112, 113, 114, 115, 116, 117, 118, 119, 120, 121, 122, 48, 49, 50, 51, 52, 53, 54, 55, 56, 57, 45, 95].length)) then
        bif (lim (r0.list.length + 1)) then
          rec [x, s30, D.i (IntKind.i64.wrap (s31.int + (1 : Int))), D.n (r0.list ++ [D.i (byteAt [65, 66, 67, 68, 69, 70, 71, 72, 73, 74, 75, 76, 77, 78, 79, 80, 81, 82, 83, 84, 85, 86, 87, 88, 89, 90, 97, 98, 99, 100, 101, 102, 103, 104, 105, 106, 107, 108, 109, 110, 111, 112, 113, 114, 115, 116, 117, 118, 119, 120, 121, 122, 48, 49, 50, 51, 52, 53, 54, 55, 56, 57, 45, 95] ((bitsI .and .i64 (shr .i64 x.int (IntKind.i64.wrap ((18 : Int) - (IntKind.i64.wrap ((6 : Int) * s31.int))))) (63 : Int)).toNat))])]
        else
          none
      else
        none
    else
      none
  else
    some (0, [D.n r0.list])
def c_token_Encode_2 (K : Nat) : Cut := { sh := { sl := [(3, .own 101 0), (5, .d 3 true), (30, .d 3 true), (31, .d 3 true)], ob := [(0, .row 5 true)] }, kept := [], outs := [(.exit 4, { sl := [(3, .own 101 0)], ob := [(0, .row 5 true)] })], f := fun ds => fixN (b_token_Encode_2 K) K ds }
def b_token_Encode_1 (K : Nat) (rec : List D → Option (Nat × List D)) (ds : List D) : Option (Nat × List D) :=
  let s := D.nth ds 0
  let n := D.nth ds 1
  let x := D.nth ds 2
  let s14 := D.nth ds 3
  bif (ltI s14.int 3) then
    bif (ltI s14.int n.int) then
      bif (inB s14.int s.str.length) then
        rec [s, n, D.i (bitsI .or .i64 (shl .i64 x.int 8) (IntKind.i64.wrap (byteAt s.str s14.int.toNat))), D.i (IntKind.i64.wrap (s14.int + (1 : Int)))]
      else
        none
    else
      rec [s, n, D.i (shl .i64 x.int 8), D.i (IntKind.i64.wrap (s14.int + (1 : Int)))]
  else
    some (0, [x])
def c_token_Encode_1 (K : Nat) : Cut := { sh := { sl := [(0, .d 9 true), (4, .d 3 true), (5, .d 3 true), (14, .d 3 true)], ob := [] }, kept := [], outs := [(.exit 2, { sl := [(5, .d 3 true)], ob := [] })], f := fun ds => fixN (b_token_Encode_1 K) K ds }
def b_token_Encode_0 (K : Nat) (rec : List D → Option (Nat × List D)) (ds : List D) : Option (Nat × List D) :=
  let s := D.nth ds 0
  let r0 := D.nth ds 1
  bif (gtI (s.str.length : Int) 0) then
    (fixN (b_token_Encode_1 K) K [s, D.i (minI 3 (s.str.length : Int)), D.i 0, D.i 0]).bind fun t1 =>
    (fixN (b_token_Encode_2 K) K [D.nth t1.2 0, D.i (IntKind.i64.wrap ((minI 3 (s.str.length : Int)) + (1 : Int))), D.i 0, D.n r0.list]).bind fun t2 =>
    bif (inB (minI 3 (s.str.length : Int)) (s.str.length + 1)) then
      rec [D.s (s.str.drop ((minI 3 (s.str.length : Int)).toNat)), D.n ((D.nth t2.2 0).list)]
    else
      none
  else
    some (0, [D.n r0.list])
def c_token_Encode_0 (K : Nat) : Cut := { sh := { sl := [(0, .d 9 true), (3, .own 101 0)], ob := [(0, .row 5 true)] }, kept := [], outs := [(.exit 0, { sl := [(3, .own 101 0)], ob := [(0, .row 5 true)] })], f := fun ds => fixN (b_token_Encode_0 K) K ds }
def f_token_Encode (K : Nat) (s : D) : Option (List D) :=
  (fixN (b_token_Encode_0 K) K [s, D.n []]).bind fun t1 =>
  some [D.s (((D.nth t1.2 0).list).map toByte)]
def e_token_Encode (K : Nat) : Entry := { n := 1, sh := { sl := [(0, .d 9 false)], ob := [] }, kept := [], rs := [{ sl := [(0, .d 9 true)], ob := [] }], f := fun ds => f_token_Encode K (D.nth ds 0), tot := none }
def T_token_Encode (K : Nat) : Tbl := { T0 with ents := entsOf [], cuts := lk [(0, c_token_Encode_0 K), (1, c_token_Encode_1 K), (2, c_token_Encode_2 K)] }
theorem q_token_Encode_2 (K : Nat) (rec : List D → Option (Nat × List D)) (ds : List D) : evLoop (T_token_Encode K) 50 (sub (codeOf Tryz.f52) [1, 1, 0, 0, 0, 1, 0, 1, 1, 1, 0, 1, 0, 0]) .go (c_token_Encode_2 K) rec ds = b_token_Encode_2 K rec ds := by kernel_rfl
theorem k_token_Encode_2 (K : Nat) : CutOK Tryz.prog (T_token_Encode K) 50 (sub (codeOf Tryz.f52) [1, 1, 0, 0, 0, 1, 0, 1, 1, 1, 0, 1, 0]) (c_token_Encode_2 K) :=
  loop_thm (T := T_token_Encode K) (hT_of hT0 rfl rfl rfl) (hes_ok (T0 := T0) (T := T_token_Encode K) rfl rfl (trivial : FAll Tryz.prog T0 [])) (by kernel_rfl) rfl rfl rfl (cutsOK_none (by rfl)) rfl (q_token_Encode_2 K)
theorem q_token_Encode_1 (K : Nat) (rec : List D → Option (Nat × List D)) (ds : List D) : evLoop (T_token_Encode K) 50 (sub (codeOf Tryz.f52) [1, 1, 0, 0, 0, 1, 0, 1, 1, 0, 1, 0, 0]) .go (c_token_Encode_1 K) rec ds = b_token_Encode_1 K rec ds := by kernel_rfl
theorem k_token_Encode_1 (K : Nat) : CutOK Tryz.prog (T_token_Encode K) 50 (sub (codeOf Tryz.f52) [1, 1, 0, 0, 0, 1, 0, 1, 1, 0, 1, 0]) (c_token_Encode_1 K) :=
  loop_thm (T := T_token_Encode K) (hT_of hT0 rfl rfl rfl) (hes_ok (T0 := T0) (T := T_token_Encode K) rfl rfl (trivial : FAll Tryz.prog T0 [])) (by kernel_rfl) rfl rfl rfl (cutsOK_none (by rfl)) rfl (q_token_Encode_1 K)
theorem q_token_Encode_0 (K : Nat) (rec : List D → Option (Nat × List D)) (ds : List D) : evLoop (T_token_Encode K) 50 (sub (codeOf Tryz.f52) [1, 1, 0, 0, 0]) (.seq .go (.blk (.seq .go (.seq .go (.seq (.seq .go (.blk (.cut 1))) (.seq (.seq .go (.blk (.cut 2))) .go)))))) (c_token_Encode_0 K) rec ds = b_token_Encode_0 K rec ds := by kernel_rfl
theorem k_token_Encode_0 (K : Nat) : CutOK Tryz.prog (T_token_Encode K) 50 (sub (codeOf Tryz.f52) [1, 1, 0, 0]) (c_token_Encode_0 K) :=
  loop_thm (T := T_token_Encode K) (hT_of hT0 rfl rfl rfl) (hes_ok (T0 := T0) (T := T_token_Encode K) rfl rfl (trivial : FAll Tryz.prog T0 [])) (by kernel_rfl) rfl rfl rfl (cutsOK_list (l := [(1, sub (codeOf Tryz.f52) [1, 1, 0, 0, 0, 1, 0, 1, 1, 0, 1, 0]), (2, sub (codeOf Tryz.f52) [1, 1, 0, 0, 0, 1, 0, 1, 1, 1, 0, 1, 0])]) (by kernel_rfl) ⟨cut_one (u := c_token_Encode_1 K) rfl (k_token_Encode_1 K), cut_one (u := c_token_Encode_2 K) rfl (k_token_Encode_2 K), trivial⟩) rfl (q_token_Encode_0 K)
theorem q_token_Encode (K : Nat) (ds : List D) : evFn (T_token_Encode K) Tryz.f52 (.seq .go (.seq .go (.seq (.blk (.cut 0)) .go))) (e_token_Encode K) ds = (e_token_Encode K).f ds := by kernel_rfl
theorem ok_token_Encode (K : Nat) : FnOK Tryz.prog T0 52 (e_token_Encode K) :=
  fn_thm (T0 := T0) (T := T_token_Encode K) rfl (hT_of hT0 rfl rfl rfl) (hes_ok (T0 := T0) (T := T_token_Encode K) rfl rfl (trivial : FAll Tryz.prog T0 [])) Tryz.func52 (by decide) rfl (Nat.le_of_ble_eq_true rfl) rfl rfl rfl (tot_none rfl) (cutsOK_list (l := [(0, sub (codeOf Tryz.f52) [1, 1, 0, 0])]) (by kernel_rfl) ⟨cut_one (u := c_token_Encode_0 K) rfl (k_token_Encode_0 K), trivial⟩) (q_token_Encode K)
/-! ### 17 gatewarden/gatelaw2.signed -/
def f_gatelaw2_signed (K : Nat) : Option (List D) :=
  (f_token_Encode K (D.s [97, 98])).bind fun t1 =>
  some [D.b (((D.nth t1 0).str) == ([89, 87, 73] : List UInt8))]
def e_gatelaw2_signed (K : Nat) : Entry := { n := 0, sh := { sl := [], ob := [] }, kept := [], rs := [{ sl := [(0, .d 4 true)], ob := [] }], f := fun ds => f_gatelaw2_signed K, tot := none }
def T_gatelaw2_signed (K : Nat) : Tbl := { T0 with ents := entsOf [(52, e_token_Encode K)], cuts := lk [] }
theorem q_gatelaw2_signed (K : Nat) (ds : List D) : evFn (T_gatelaw2_signed K) Tryz.f17 .go (e_gatelaw2_signed K) ds = (e_gatelaw2_signed K).f ds := by kernel_rfl
theorem ok_gatelaw2_signed (K : Nat) : FnOK Tryz.prog T0 17 (e_gatelaw2_signed K) :=
  fn_thm (T0 := T0) (T := T_gatelaw2_signed K) rfl (hT_of hT0 rfl rfl rfl) (hes_ok (T0 := T0) (T := T_gatelaw2_signed K) rfl rfl (⟨ok_token_Encode K, trivial⟩ : FAll Tryz.prog T0 [(52, e_token_Encode K)])) Tryz.func17 (by decide) rfl (Nat.le_of_ble_eq_true rfl) rfl rfl rfl (tot_none rfl) (cutsOK_none (by rfl)) (q_gatelaw2_signed K)
/-! ### 4 gatewarden/gatelaw2.ClaimsDelegated -/
def b_gatelaw2_ClaimsDelegated_4 (K : Nat) (ds : List D) : Option (Nat × List D) :=
  let s116 := D.nth ds 0
  let s119 := D.nth ds 1
  let o0 := D.nth ds 2
  let o1_0 := D.nth ds 3
  let o1_1 := D.nth ds 4
  let o1_2 := D.nth ds 5
  let o1_3 := D.nth ds 6
  let o1_6 := D.nth ds 7
  let o1_7 := D.nth ds 8
  let r2 := D.nth ds 9
  let r3 := D.nth ds 10
  bif s119.bool then
    (f_gatemake_Stream_Some K o0 (D.n [D.s [], D.s [116, 48], D.s [116, 55]])).bind fun t18 =>
    some (0, [D.nth t18 1, o1_0, o1_1, o1_2, D.nth t18 0, o1_6, o1_7, D.n r2.list, D.n r3.list])
  else
    bif (s116.int == (1 : Int)) then
      (f_gatemake_Stream_Some K o0 (D.n [D.s [116, 49], D.s [116, 55]])).bind fun t19 =>
      some (0, [D.nth t19 1, D.nth t19 0, o1_1, o1_2, o1_3, o1_6, o1_7, D.n r2.list, D.n r3.list])
    else
      bif (s116.int == (2 : Int)) then
        some (0, [o0, o1_0, o1_1, D.s [111, 116, 104, 101, 114], o1_3, o1_6, o1_7, D.n r2.list, D.n r3.list])
      else
        bif (s116.int == (3 : Int)) then
          some (0, [o0, o1_0, o1_1, o1_2, o1_3, o1_6, D.i (IntKind.i64.wrap (o1_7.int + (1 : Int))), D.n r2.list, D.n r3.list])
        else
          some (1, [o0, o1_0, o1_1, o1_2, o1_3, o1_6, o1_7, D.n r2.list, D.n r3.list, D.n [D.s [42]]])
def c_gatelaw2_ClaimsDelegated_4 (K : Nat) : Cut := { sh := { sl := [(3, .ptr 25 0 []), (17, .ptr 42 1 []), (116, .d 3 true), (119, .d 4 true)], ob := [(0, .box 25 (.d 25 false)), (1, .box 42 (.agg 42 [.d 9 true, .d 9 true, .d 9 true, .d 9 true, .own 26 2, .own 26 3, .d 3 true, .d 3 true])), (2, .row 9 true), (3, .row 9 true)] }, kept := [0, 1, 2, 3], outs := [(.normal, { sl := [], ob := [(0, .box 25 (.d 25 false)), (1, .box 42 (.agg 42 [.d 9 true, .d 9 true, .d 9 true, .d 9 true, .own 26 2, .own 26 3, .d 3 true, .d 3 true])), (2, .row 9 true), (3, .row 9 true)] }), (.normal, { sl := [], ob := [(0, .box 25 (.d 25 false)), (1, .box 42 (.agg 42 [.d 9 true, .d 9 true, .d 9 true, .d 9 true, .own 26 2, .own 26 4, .d 3 true, .d 3 true])), (2, .row 9 true), (3, .row 9 true), (4, .row 9 true)] })], f := b_gatelaw2_ClaimsDelegated_4 K }
def b_gatelaw2_ClaimsDelegated_3 (K : Nat) (rec : List D → Option (Nat × List D)) (ds : List D) : Option (Nat × List D) :=
  let s87 := D.nth ds 0
  let s88 := D.nth ds 1
  let o0 := D.nth ds 2
  let r1 := D.nth ds 3
  let r2 := D.nth ds 4
  bif (ltI s88.int s87.int) then
    bif (inB s88.int r2.list.length) then
      bif (inB (IntKind.i64.wrap ((r1.list.length : Int) - (1 : Int))) r1.list.length) then
        (f_gateref2_DelegateOf K (D.nth r1.list ((IntKind.i64.wrap ((r1.list.length : Int) - (1 : Int))).toNat)) (D.nth r2.list s88.int.toNat) (D.s [98, 111, 116]) ((D.nth r1.list ((IntKind.i64.wrap ((r1.list.length : Int) - (1 : Int))).toNat)).at' 5) (D.n [(D.nth r1.list ((IntKind.i64.wrap ((r1.list.length : Int) - (1 : Int))).toNat)).at' 6, (D.nth r1.list ((IntKind.i64.wrap ((r1.list.length : Int) - (1 : Int))).toNat)).at' 7])).bind fun t15 =>
        bif (((D.nth t15 6).int) != (0 : Int)) then
          some (0, [o0, D.n r2.list, D.n r1.list])
        else
          (f_gatemake_Stream_Flip K (D.i 10) o0).bind fun t16 =>
          bif (D.nth t16 0).bool then
            (f_gatemake_Stream_Next K (D.i 5) (D.nth t16 1)).bind fun t17 =>
            (b_gatelaw2_ClaimsDelegated_4 K [D.nth t17 0, D.b (((D.nth t17 0).int) == (0 : Int)), D.nth t17 1, D.nth t15 0, D.nth t15 1, D.nth t15 2, D.nth t15 3, D.nth t15 4, D.nth t15 5, D.n ((D.nth t15 7).list), D.n ((D.nth t15 8).list)]).bind fun t18 =>
            bif (t18.1.beq 0) then
              bif (lim (r1.list.length + 1)) then
                rec [s87, D.i (IntKind.i64.wrap (s88.int + (1 : Int))), D.nth t18.2 0, D.n (r1.list ++ [D.n [D.nth t18.2 1, D.nth t18.2 2, D.nth t18.2 3, D.nth t18.2 4, D.n ((D.nth t18.2 7).list), D.n ((D.nth t18.2 8).list), D.nth t18.2 5, D.nth t18.2 6]]), D.n r2.list]
              else
                none
            else
              bif (lim (r1.list.length + 1)) then
                rec [s87, D.i (IntKind.i64.wrap (s88.int + (1 : Int))), D.nth t18.2 0, D.n (r1.list ++ [D.n [D.nth t18.2 1, D.nth t18.2 2, D.nth t18.2 3, D.nth t18.2 4, D.n ((D.nth t18.2 7).list), D.n ((D.nth t18.2 9).list), D.nth t18.2 5, D.nth t18.2 6]]), D.n r2.list]
              else
                none
          else
            bif (lim (r1.list.length + 1)) then
              rec [s87, D.i (IntKind.i64.wrap (s88.int + (1 : Int))), D.nth t16 1, D.n (r1.list ++ [D.n [D.nth t15 0, D.nth t15 1, D.nth t15 2, D.nth t15 3, D.n ((D.nth t15 7).list), D.n ((D.nth t15 8).list), D.nth t15 4, D.nth t15 5]]), D.n r2.list]
            else
              none
      else
        none
    else
      none
  else
    some (0, [o0, D.n r2.list, D.n r1.list])
def c_gatelaw2_ClaimsDelegated_3 (K : Nat) : Cut := { sh := { sl := [(3, .ptr 25 0 []), (13, .own 52 1), (86, .own 26 2), (87, .d 3 true), (88, .d 3 true)], ob := [(0, .box 25 (.d 25 false)), (1, .row 42 true), (2, .row 9 true)] }, kept := [0, 2], outs := [(.exit 0, { sl := [(13, .own 52 1)], ob := [(0, .box 25 (.d 25 false)), (2, .row 9 true), (1, .row 42 true)] })], f := fun ds => fixN (b_gatelaw2_ClaimsDelegated_3 K) K ds }
def b_gatelaw2_ClaimsDelegated_2 (K : Nat) (ds : List D) : Option (Nat × List D) :=
  let s79 := D.nth ds 0
  let r0 := D.nth ds 1
  bif s79.bool then
    bif (inB 0 r0.list.length) then
      some (0, [D.n (D.setNth r0.list 0 (D.n (D.setNth ((D.nth r0.list 0).list) 3 (D.s []))))])
    else
      none
  else
    some (0, [D.n r0.list])
def c_gatelaw2_ClaimsDelegated_2 (K : Nat) : Cut := { sh := { sl := [(13, .own 52 0), (79, .d 4 true)], ob := [(0, .row 42 true)] }, kept := [0], outs := [(.normal, { sl := [], ob := [(0, .row 42 true)] })], f := b_gatelaw2_ClaimsDelegated_2 K }
def b_gatelaw2_ClaimsDelegated_1 (K : Nat) (ds : List D) : Option (Nat × List D) :=
  let e := D.nth ds 0
  let f := D.nth ds 1
  let o0_0 := D.nth ds 2
  let o0_1 := D.nth ds 3
  let o0_2 := D.nth ds 4
  let o0_3 := D.nth ds 5
  let o0_6 := D.nth ds 6
  let o0_7 := D.nth ds 7
  let o1_0 := D.nth ds 8
  let o1_1 := D.nth ds 9
  let o1_2 := D.nth ds 10
  let o1_3 := D.nth ds 11
  let o1_6 := D.nth ds 12
  let o1_7 := D.nth ds 13
  let r2 := D.nth ds 14
  let r3 := D.nth ds 15
  let r4 := D.nth ds 16
  let r5 := D.nth ds 17
  bif (!(e.int != f.int)) then
    (f_gateref2_SameClaims K (D.n [o0_0, o0_1, o0_2, o0_3, D.n r2.list, D.n r3.list, o0_6, o0_7]) (D.n [o1_0, o1_1, o1_2, o1_3, D.n r4.list, D.n r5.list, o1_6, o1_7])).bind fun t11 =>
    some (0, [D.b (!((D.nth t11 0).bool)), o0_0, o0_1, o0_2, o0_3, o0_6, o0_7, o1_0, o1_1, o1_2, o1_3, o1_6, o1_7, D.n r2.list, D.n r3.list, D.n r4.list, D.n r5.list])
  else
    some (0, [D.b true, o0_0, o0_1, o0_2, o0_3, o0_6, o0_7, o1_0, o1_1, o1_2, o1_3, o1_6, o1_7, D.n r2.list, D.n r3.list, D.n r4.list, D.n r5.list])
def c_gatelaw2_ClaimsDelegated_1 (K : Nat) : Cut := { sh := { sl := [(9, .ptr 42 0 []), (10, .d 28 true), (11, .ptr 42 1 []), (12, .d 28 true)], ob := [(0, .box 42 (.agg 42 [.d 9 true, .d 9 true, .d 9 true, .d 9 true, .own 26 2, .own 26 3, .d 3 true, .d 3 true])), (1, .box 42 (.agg 42 [.d 9 true, .d 9 true, .d 9 true, .d 9 true, .own 26 4, .own 26 5, .d 3 true, .d 3 true])), (2, .row 9 true), (3, .row 9 true), (4, .row 9 true), (5, .row 9 true)] }, kept := [0, 1, 2, 3, 4, 5], outs := [(.normal, { sl := [(75, .d 4 true)], ob := [(0, .box 42 (.agg 42 [.d 9 true, .d 9 true, .d 9 true, .d 9 true, .own 26 2, .own 26 3, .d 3 true, .d 3 true])), (1, .box 42 (.agg 42 [.d 9 true, .d 9 true, .d 9 true, .d 9 true, .own 26 4, .own 26 5, .d 3 true, .d 3 true])), (2, .row 9 true), (3, .row 9 true), (4, .row 9 true), (5, .row 9 true)] })], f := b_gatelaw2_ClaimsDelegated_1 K }
def b_gatelaw2_ClaimsDelegated_0 (K : Nat) (ds : List D) : Option (Nat × List D) :=
  let s33 := D.nth ds 0
  let o0_0 := D.nth ds 1
  let o0_1 := D.nth ds 2
  let o0_2 := D.nth ds 3
  let o0_3 := D.nth ds 4
  let o0_4 := D.nth ds 5
  let o0_6 := D.nth ds 6
  let o0_7 := D.nth ds 7
  let r1 := D.nth ds 8
  let r2 := D.nth ds 9
  bif s33.bool then
    some (0, [o0_0, o0_1, o0_2, o0_3, o0_4, o0_6, o0_7, D.n r1.list, D.n r2.list])
  else
    some (1, [o0_0, o0_1, o0_2, o0_3, o0_4, o0_6, o0_7, D.n r1.list, D.n r2.list])
def c_gatelaw2_ClaimsDelegated_0 (K : Nat) : Cut := { sh := { sl := [(4, .ptr 42 0 []), (7, .own 26 1), (33, .d 4 true)], ob := [(0, .box 42 (.agg 42 [.d 9 true, .d 9 true, .d 9 true, .d 9 true, .d 26 true, .own 26 2, .d 3 true, .d 3 true])), (1, .row 9 true), (2, .row 9 true)] }, kept := [0, 1, 2], outs := [(.normal, { sl := [(7, .own 26 2)], ob := [(0, .box 42 (.agg 42 [.d 9 true, .d 9 true, .d 9 true, .d 9 true, .d 26 true, .own 26 2, .d 3 true, .d 3 true])), (1, .row 9 true), (2, .row 9 true)] }), (.normal, { sl := [(7, .own 26 1)], ob := [(0, .box 42 (.agg 42 [.d 9 true, .d 9 true, .d 9 true, .d 9 true, .d 26 true, .own 26 2, .d 3 true, .d 3 true])), (1, .row 9 true), (2, .row 9 true)] })], f := b_gatelaw2_ClaimsDelegated_0 K }
def f_gatelaw2_ClaimsDelegated (K : Nat) (l : D) : Option (List D) :=
  (f_gatemake_Stream_Claims K (D.n [l, D.i 0])).bind fun t1 =>
  (f_gatemake_Stream_Some K (D.nth t1 7) (D.n [D.s [116, 57], D.s [116, 57], D.s [116, 56], D.s [116, 49], D.s [], D.s [65]])).bind fun t2 =>
  (f_gatemake_Stream_Some K (D.nth t2 1) (D.n [D.s [98, 111, 116], D.s [98, 111, 116], D.s []])).bind fun t3 =>
  (f_gatemake_Stream_Scopes K (D.nth t3 1)).bind fun t4 =>
  (f_gatemake_Stream_Flip K (D.i 2) (D.nth t4 0)).bind fun t5 =>
  (b_gatelaw2_ClaimsDelegated_0 K [D.nth t5 0, D.nth t1 0, D.nth t1 1, D.nth t1 2, D.nth t1 3, D.nth t1 4, D.nth t1 5, D.nth t1 6, D.n ((D.nth t4 1).list), D.n ((D.nth t1 8).list)]).bind fun t6 =>
  bif (t6.1.beq 0) then
    (f_gatemake_Stream_Pick K (D.nth t5 1) (D.n [D.i 0, D.i 0, D.i 1, D.i (-1)])).bind fun t7 =>
    (f_gatemake_Stream_Pick K (D.nth t7 1) (D.n [D.i 0, D.i 0, D.i 1, D.i (-1), D.i 300])).bind fun t8 =>
    (f_token_Delegate K (D.n [D.nth t6.2 0, D.nth t6.2 1, D.nth t6.2 2, D.nth t6.2 3, D.nth t6.2 4, D.n ((D.nth t6.2 8).list), D.nth t6.2 5, D.nth t6.2 6]) (D.nth t2 0) (D.nth t3 0) (D.n ((D.nth t6.2 8).list)) (D.n [D.i (IntKind.i64.wrap (((D.nth t6.2 5).int) + ((D.nth t7 0).int))), D.i (IntKind.i64.wrap (((D.nth t6.2 6).int) - ((D.nth t8 0).int)))])).bind fun t9 =>
    (f_gateref2_DelegateOf K (D.n [D.nth t6.2 0, D.nth t6.2 1, D.nth t6.2 2, D.nth t6.2 3, D.nth t6.2 4, D.n ((D.nth t6.2 8).list), D.nth t6.2 5, D.nth t6.2 6]) (D.nth t2 0) (D.nth t3 0) (D.n ((D.nth t6.2 8).list)) (D.n [D.i (IntKind.i64.wrap (((D.nth t6.2 5).int) + ((D.nth t7 0).int))), D.i (IntKind.i64.wrap (((D.nth t6.2 6).int) - ((D.nth t8 0).int)))])).bind fun t10 =>
    (b_gatelaw2_ClaimsDelegated_1 K [D.nth t9 6, D.nth t10 6, D.nth t9 0, D.nth t9 1, D.nth t9 2, D.nth t9 3, D.nth t9 4, D.nth t9 5, D.nth t10 0, D.nth t10 1, D.nth t10 2, D.nth t10 3, D.nth t10 4, D.nth t10 5, D.n ((D.nth t9 7).list), D.n ((D.nth t9 8).list), D.n ((D.nth t10 7).list), D.n ((D.nth t10 8).list)]).bind fun t11 =>
    bif (D.nth t11.2 0).bool then
      some [D.b false]
    else
      (f_gatemake_Stream_Flip K (D.i 2) (D.nth t8 1)).bind fun t12 =>
      (b_gatelaw2_ClaimsDelegated_2 K [D.nth t12 0, D.n [D.n [D.nth t6.2 0, D.nth t6.2 1, D.nth t6.2 2, D.nth t6.2 3, D.nth t6.2 4, D.n ((D.nth t6.2 8).list), D.nth t6.2 5, D.nth t6.2 6]]]).bind fun t13 =>
      (f_gatemake_Stream_Range K (D.i 0) (D.i 3) (D.nth t12 1)).bind fun t14 =>
      bif (inB ((D.nth t14 0).int) (3 + 1)) then
        (fixN (b_gatelaw2_ClaimsDelegated_3 K) K [D.i (([D.s [116, 55], D.s [116, 56], D.s [116, 57]].take (((D.nth t14 0).int).toNat)).length : Int), D.i 0, D.nth t14 1, D.n ((D.nth t13.2 0).list), D.n ([D.s [116, 55], D.s [116, 56], D.s [116, 57]].take (((D.nth t14 0).int).toNat))]).bind fun t15 =>
        (f_gatemake_Stream_Flip K (D.i 40) (D.nth t15.2 0)).bind fun t16 =>
        bif (D.nth t16 0).bool then
          (f_gatemake_Stream_Pick K (D.nth t16 1) (D.n [D.i 0, D.i 11])).bind fun t17 =>
          bif ((leI 0 ((D.nth t17 0).int)) && (lim (((D.nth t17 0).int).toNat))) then
            (f_token_CheckChain K (D.n (List.replicate (((D.nth t17 0).int).toNat) (D.n [])))).bind fun t18 =>
            (f_gateref2_ChainFault K (D.n (List.replicate (((D.nth t17 0).int).toNat) (D.n [])))).bind fun t19 =>
            bif (((D.nth t18 0).int) == ((D.nth t19 0).int)) then
              (f_gatelaw2_signed K).bind fun t20 =>
              some [D.b ((D.nth t20 0).bool)]
            else
              some [D.b false]
          else
            none
        else
          (f_token_CheckChain K (D.n ((D.nth t15.2 2).list))).bind fun t21 =>
          (f_gateref2_ChainFault K (D.n ((D.nth t15.2 2).list))).bind fun t22 =>
          bif (((D.nth t21 0).int) == ((D.nth t22 0).int)) then
            (f_gatelaw2_signed K).bind fun t23 =>
            some [D.b ((D.nth t23 0).bool)]
          else
            some [D.b false]
      else
        none
  else
    (f_gatemake_Stream_Pick K (D.nth t5 1) (D.n [D.i 0, D.i 0, D.i 1, D.i (-1)])).bind fun t24 =>
    (f_gatemake_Stream_Pick K (D.nth t24 1) (D.n [D.i 0, D.i 0, D.i 1, D.i (-1), D.i 300])).bind fun t25 =>
    (f_token_Delegate K (D.n [D.nth t6.2 0, D.nth t6.2 1, D.nth t6.2 2, D.nth t6.2 3, D.nth t6.2 4, D.n ((D.nth t6.2 8).list), D.nth t6.2 5, D.nth t6.2 6]) (D.nth t2 0) (D.nth t3 0) (D.n ((D.nth t6.2 7).list)) (D.n [D.i (IntKind.i64.wrap (((D.nth t6.2 5).int) + ((D.nth t24 0).int))), D.i (IntKind.i64.wrap (((D.nth t6.2 6).int) - ((D.nth t25 0).int)))])).bind fun t26 =>
    (f_gateref2_DelegateOf K (D.n [D.nth t6.2 0, D.nth t6.2 1, D.nth t6.2 2, D.nth t6.2 3, D.nth t6.2 4, D.n ((D.nth t6.2 8).list), D.nth t6.2 5, D.nth t6.2 6]) (D.nth t2 0) (D.nth t3 0) (D.n ((D.nth t6.2 7).list)) (D.n [D.i (IntKind.i64.wrap (((D.nth t6.2 5).int) + ((D.nth t24 0).int))), D.i (IntKind.i64.wrap (((D.nth t6.2 6).int) - ((D.nth t25 0).int)))])).bind fun t27 =>
    (b_gatelaw2_ClaimsDelegated_1 K [D.nth t26 6, D.nth t27 6, D.nth t26 0, D.nth t26 1, D.nth t26 2, D.nth t26 3, D.nth t26 4, D.nth t26 5, D.nth t27 0, D.nth t27 1, D.nth t27 2, D.nth t27 3, D.nth t27 4, D.nth t27 5, D.n ((D.nth t26 7).list), D.n ((D.nth t26 8).list), D.n ((D.nth t27 7).list), D.n ((D.nth t27 8).list)]).bind fun t28 =>
    bif (D.nth t28.2 0).bool then
      some [D.b false]
    else
      (f_gatemake_Stream_Flip K (D.i 2) (D.nth t25 1)).bind fun t29 =>
      (b_gatelaw2_ClaimsDelegated_2 K [D.nth t29 0, D.n [D.n [D.nth t6.2 0, D.nth t6.2 1, D.nth t6.2 2, D.nth t6.2 3, D.nth t6.2 4, D.n ((D.nth t6.2 8).list), D.nth t6.2 5, D.nth t6.2 6]]]).bind fun t30 =>
      (f_gatemake_Stream_Range K (D.i 0) (D.i 3) (D.nth t29 1)).bind fun t31 =>
      bif (inB ((D.nth t31 0).int) (3 + 1)) then
        (fixN (b_gatelaw2_ClaimsDelegated_3 K) K [D.i (([D.s [116, 55], D.s [116, 56], D.s [116, 57]].take (((D.nth t31 0).int).toNat)).length : Int), D.i 0, D.nth t31 1, D.n ((D.nth t30.2 0).list), D.n ([D.s [116, 55], D.s [116, 56], D.s [116, 57]].take (((D.nth t31 0).int).toNat))]).bind fun t32 =>
        (f_gatemake_Stream_Flip K (D.i 40) (D.nth t32.2 0)).bind fun t33 =>
        bif (D.nth t33 0).bool then
          (f_gatemake_Stream_Pick K (D.nth t33 1) (D.n [D.i 0, D.i 11])).bind fun t34 =>
          bif ((leI 0 ((D.nth t34 0).int)) && (lim (((D.nth t34 0).int).toNat))) then
            (f_token_CheckChain K (D.n (List.replicate (((D.nth t34 0).int).toNat) (D.n [])))).bind fun t35 =>
            (f_gateref2_ChainFault K (D.n (List.replicate (((D.nth t34 0).int).toNat) (D.n [])))).bind fun t36 =>
            bif (((D.nth t35 0).int) == ((D.nth t36 0).int)) then
              (f_gatelaw2_signed K).bind fun t37 =>
              some [D.b ((D.nth t37 0).bool)]
            else
              some [D.b false]
          else
            none
        else
          (f_token_CheckChain K (D.n ((D.nth t32.2 2).list))).bind fun t38 =>
          (f_gateref2_ChainFault K (D.n ((D.nth t32.2 2).list))).bind fun t39 =>
          bif (((D.nth t38 0).int) == ((D.nth t39 0).int)) then
            (f_gatelaw2_signed K).bind fun t40 =>
            some [D.b ((D.nth t40 0).bool)]
          else
            some [D.b false]
      else
        none
def e_gatelaw2_ClaimsDelegated (K : Nat) : Entry := { n := 1, sh := { sl := [(0, .d 22 false)], ob := [] }, kept := [], rs := [{ sl := [(0, .d 4 true)], ob := [] }], f := fun ds => f_gatelaw2_ClaimsDelegated K (D.nth ds 0), tot := none }
def T_gatelaw2_ClaimsDelegated (K : Nat) : Tbl := { T0 with ents := entsOf [(18, e_gatemake_Stream_Claims K), (19, e_gatemake_Stream_Some K), (6, e_gatemake_Stream_Scopes K), (20, e_gatemake_Stream_Flip K), (21, e_gatemake_Stream_Pick K), (22, e_token_Delegate K), (23, e_gateref2_DelegateOf K), (24, e_gateref2_SameClaims K), (25, e_gatemake_Stream_Range K), (26, e_gatemake_Stream_Next K), (27, e_token_CheckChain K), (28, e_gateref2_ChainFault K), (17, e_gatelaw2_signed K)], cuts := lk [(0, c_gatelaw2_ClaimsDelegated_0 K), (1, c_gatelaw2_ClaimsDelegated_1 K), (2, c_gatelaw2_ClaimsDelegated_2 K), (3, c_gatelaw2_ClaimsDelegated_3 K), (4, c_gatelaw2_ClaimsDelegated_4 K)] }
theorem q_gatelaw2_ClaimsDelegated_4 (K : Nat) (ds : List D) : evPiece (T_gatelaw2_ClaimsDelegated K) 159 (sub (codeOf Tryz.f4) [1, 1, 1, 1, 1, 1, 1, 1, 1, 1, 0, 1, 0, 0, 1, 1, 0, 0, 1, 1, 1, 1, 0, 1, 0, 1, 0, 1]) .go (c_gatelaw2_ClaimsDelegated_4 K) ds = b_gatelaw2_ClaimsDelegated_4 K ds := by kernel_rfl
theorem k_gatelaw2_ClaimsDelegated_4 (K : Nat) : CutOK Tryz.prog (T_gatelaw2_ClaimsDelegated K) 159 (sub (codeOf Tryz.f4) [1, 1, 1, 1, 1, 1, 1, 1, 1, 1, 0, 1, 0, 0, 1, 1, 0, 0, 1, 1, 1, 1, 0, 1, 0, 1, 0, 1]) (c_gatelaw2_ClaimsDelegated_4 K) :=
  piece_thm (T := T_gatelaw2_ClaimsDelegated K) (hT_of hT0 rfl rfl rfl) (hes_ok (T0 := T0) (T := T_gatelaw2_ClaimsDelegated K) rfl rfl (⟨ok_gatemake_Stream_Claims K, ok_gatemake_Stream_Some K, ok_gatemake_Stream_Scopes K, ok_gatemake_Stream_Flip K, ok_gatemake_Stream_Pick K, ok_token_Delegate K, ok_gateref2_DelegateOf K, ok_gateref2_SameClaims K, ok_gatemake_Stream_Range K, ok_gatemake_Stream_Next K, ok_token_CheckChain K, ok_gateref2_ChainFault K, ok_gatelaw2_signed K, trivial⟩ : FAll Tryz.prog T0 [(18, e_gatemake_Stream_Claims K), (19, e_gatemake_Stream_Some K), (6, e_gatemake_Stream_Scopes K), (20, e_gatemake_Stream_Flip K), (21, e_gatemake_Stream_Pick K), (22, e_token_Delegate K), (23, e_gateref2_DelegateOf K), (24, e_gateref2_SameClaims K), (25, e_gatemake_Stream_Range K), (26, e_gatemake_Stream_Next K), (27, e_token_CheckChain K), (28, e_gateref2_ChainFault K), (17, e_gatelaw2_signed K)])) rfl rfl rfl (cutsOK_none (by rfl)) (q_gatelaw2_ClaimsDelegated_4 K)
theorem q_gatelaw2_ClaimsDelegated_3 (K : Nat) (rec : List D → Option (Nat × List D)) (ds : List D) : evLoop (T_gatelaw2_ClaimsDelegated K) 159 (sub (codeOf Tryz.f4) [1, 1, 1, 1, 1, 1, 1, 1, 1, 1, 0, 1, 0, 0]) (.seq .go (.seq .go (.seq (.blk (.seq .go (.seq .go (.seq .go (.seq .go (.seq (.seq .go (.cond (.seq .go (.blk (.seq .go (.cut 4)))) .go)) .go)))))) .go))) (c_gatelaw2_ClaimsDelegated_3 K) rec ds = b_gatelaw2_ClaimsDelegated_3 K rec ds := by kernel_rfl
theorem k_gatelaw2_ClaimsDelegated_3 (K : Nat) : CutOK Tryz.prog (T_gatelaw2_ClaimsDelegated K) 159 (sub (codeOf Tryz.f4) [1, 1, 1, 1, 1, 1, 1, 1, 1, 1, 0, 1, 0]) (c_gatelaw2_ClaimsDelegated_3 K) :=
  loop_thm (T := T_gatelaw2_ClaimsDelegated K) (hT_of hT0 rfl rfl rfl) (hes_ok (T0 := T0) (T := T_gatelaw2_ClaimsDelegated K) rfl rfl (⟨ok_gatemake_Stream_Claims K, ok_gatemake_Stream_Some K, ok_gatemake_Stream_Scopes K, ok_gatemake_Stream_Flip K, ok_gatemake_Stream_Pick K, ok_token_Delegate K, ok_gateref2_DelegateOf K, ok_gateref2_SameClaims K, ok_gatemake_Stream_Range K, ok_gatemake_Stream_Next K, ok_token_CheckChain K, ok_gateref2_ChainFault K, ok_gatelaw2_signed K, trivial⟩ : FAll Tryz.prog T0 [(18, e_gatemake_Stream_Claims K), (19, e_gatemake_Stream_Some K), (6, e_gatemake_Stream_Scopes K), (20, e_gatemake_Stream_Flip K), (21, e_gatemake_Stream_Pick K), (22, e_token_Delegate K), (23, e_gateref2_DelegateOf K), (24, e_gateref2_SameClaims K), (25, e_gatemake_Stream_Range K), (26, e_gatemake_Stream_Next K), (27, e_token_CheckChain K), (28, e_gateref2_ChainFault K), (17, e_gatelaw2_signed K)])) (by kernel_rfl) rfl rfl rfl (cutsOK_list (l := [(4, sub (codeOf Tryz.f4) [1, 1, 1, 1, 1, 1, 1, 1, 1, 1, 0, 1, 0, 0, 1, 1, 0, 0, 1, 1, 1, 1, 0, 1, 0, 1, 0, 1])]) (by kernel_rfl) ⟨cut_one (u := c_gatelaw2_ClaimsDelegated_4 K) rfl (k_gatelaw2_ClaimsDelegated_4 K), trivial⟩) rfl (q_gatelaw2_ClaimsDelegated_3 K)
theorem q_gatelaw2_ClaimsDelegated_2 (K : Nat) (ds : List D) : evPiece (T_gatelaw2_ClaimsDelegated K) 159 (sub (codeOf Tryz.f4) [1, 1, 1, 1, 1, 1, 1, 1, 1, 0, 1]) .go (c_gatelaw2_ClaimsDelegated_2 K) ds = b_gatelaw2_ClaimsDelegated_2 K ds := by kernel_rfl
theorem k_gatelaw2_ClaimsDelegated_2 (K : Nat) : CutOK Tryz.prog (T_gatelaw2_ClaimsDelegated K) 159 (sub (codeOf Tryz.f4) [1, 1, 1, 1, 1, 1, 1, 1, 1, 0, 1]) (c_gatelaw2_ClaimsDelegated_2 K) :=
  piece_thm (T := T_gatelaw2_ClaimsDelegated K) (hT_of hT0 rfl rfl rfl) (hes_ok (T0 := T0) (T := T_gatelaw2_ClaimsDelegated K) rfl rfl (⟨ok_gatemake_Stream_Claims K, ok_gatemake_Stream_Some K, ok_gatemake_Stream_Scopes K, ok_gatemake_Stream_Flip K, ok_gatemake_Stream_Pick K, ok_token_Delegate K, ok_gateref2_DelegateOf K, ok_gateref2_SameClaims K, ok_gatemake_Stream_Range K, ok_gatemake_Stream_Next K, ok_token_CheckChain K, ok_gateref2_ChainFault K, ok_gatelaw2_signed K, trivial⟩ : FAll Tryz.prog T0 [(18, e_gatemake_Stream_Claims K), (19, e_gatemake_Stream_Some K), (6, e_gatemake_Stream_Scopes K), (20, e_gatemake_Stream_Flip K), (21, e_gatemake_Stream_Pick K), (22, e_token_Delegate K), (23, e_gateref2_DelegateOf K), (24, e_gateref2_SameClaims K), (25, e_gatemake_Stream_Range K), (26, e_gatemake_Stream_Next K), (27, e_token_CheckChain K), (28, e_gateref2_ChainFault K), (17, e_gatelaw2_signed K)])) rfl rfl rfl (cutsOK_none (by rfl)) (q_gatelaw2_ClaimsDelegated_2 K)
theorem q_gatelaw2_ClaimsDelegated_1 (K : Nat) (ds : List D) : evPiece (T_gatelaw2_ClaimsDelegated K) 159 (sub (codeOf Tryz.f4) [1, 1, 1, 1, 1, 1, 1, 0, 0]) .go (c_gatelaw2_ClaimsDelegated_1 K) ds = b_gatelaw2_ClaimsDelegated_1 K ds := by kernel_rfl
theorem k_gatelaw2_ClaimsDelegated_1 (K : Nat) : CutOK Tryz.prog (T_gatelaw2_ClaimsDelegated K) 159 (sub (codeOf Tryz.f4) [1, 1, 1, 1, 1, 1, 1, 0, 0]) (c_gatelaw2_ClaimsDelegated_1 K) :=
  piece_thm (T := T_gatelaw2_ClaimsDelegated K) (hT_of hT0 rfl rfl rfl) (hes_ok (T0 := T0) (T := T_gatelaw2_ClaimsDelegated K) rfl rfl (⟨ok_gatemake_Stream_Claims K, ok_gatemake_Stream_Some K, ok_gatemake_Stream_Scopes K, ok_gatemake_Stream_Flip K, ok_gatemake_Stream_Pick K, ok_token_Delegate K, ok_gateref2_DelegateOf K, ok_gateref2_SameClaims K, ok_gatemake_Stream_Range K, ok_gatemake_Stream_Next K, ok_token_CheckChain K, ok_gateref2_ChainFault K, ok_gatelaw2_signed K, trivial⟩ : FAll Tryz.prog T0 [(18, e_gatemake_Stream_Claims K), (19, e_gatemake_Stream_Some K), (6, e_gatemake_Stream_Scopes K), (20, e_gatemake_Stream_Flip K), (21, e_gatemake_Stream_Pick K), (22, e_token_Delegate K), (23, e_gateref2_DelegateOf K), (24, e_gateref2_SameClaims K), (25, e_gatemake_Stream_Range K), (26, e_gatemake_Stream_Next K), (27, e_token_CheckChain K), (28, e_gateref2_ChainFault K), (17, e_gatelaw2_signed K)])) rfl rfl rfl (cutsOK_none (by rfl)) (q_gatelaw2_ClaimsDelegated_1 K)
theorem q_gatelaw2_ClaimsDelegated_0 (K : Nat) (ds : List D) : evPiece (T_gatelaw2_ClaimsDelegated K) 159 (sub (codeOf Tryz.f4) [1, 1, 1, 0, 1]) .go (c_gatelaw2_ClaimsDelegated_0 K) ds = b_gatelaw2_ClaimsDelegated_0 K ds := by kernel_rfl
theorem k_gatelaw2_ClaimsDelegated_0 (K : Nat) : CutOK Tryz.prog (T_gatelaw2_ClaimsDelegated K) 159 (sub (codeOf Tryz.f4) [1, 1, 1, 0, 1]) (c_gatelaw2_ClaimsDelegated_0 K) :=
  piece_thm (T := T_gatelaw2_ClaimsDelegated K) (hT_of hT0 rfl rfl rfl) (hes_ok (T0 := T0) (T := T_gatelaw2_ClaimsDelegated K) rfl rfl (⟨ok_gatemake_Stream_Claims K, ok_gatemake_Stream_Some K, ok_gatemake_Stream_Scopes K, ok_gatemake_Stream_Flip K, ok_gatemake_Stream_Pick K, ok_token_Delegate K, ok_gateref2_DelegateOf K, ok_gateref2_SameClaims K, ok_gatemake_Stream_Range K, ok_gatemake_Stream_Next K, ok_token_CheckChain K, ok_gateref2_ChainFault K, ok_gatelaw2_signed K, trivial⟩ : FAll Tryz.prog T0 [(18, e_gatemake_Stream_Claims K), (19, e_gatemake_Stream_Some K), (6, e_gatemake_Stream_Scopes K), (20, e_gatemake_Stream_Flip K), (21, e_gatemake_Stream_Pick K), (22, e_token_Delegate K), (23, e_gateref2_DelegateOf K), (24, e_gateref2_SameClaims K), (25, e_gatemake_Stream_Range K), (26, e_gatemake_Stream_Next K), (27, e_token_CheckChain K), (28, e_gateref2_ChainFault K), (17, e_gatelaw2_signed K)])) rfl rfl rfl (cutsOK_none (by rfl)) (q_gatelaw2_ClaimsDelegated_0 K)
theorem q_gatelaw2_ClaimsDelegated (K : Nat) (ds : List D) : evFn (T_gatelaw2_ClaimsDelegated K) Tryz.f4 (.seq .go (.seq .go (.seq .go (.seq (.seq .go (.cut 0)) (.seq .go (.seq .go (.seq .go (.seq (.seq (.cut 1) .go) (.seq .go (.seq (.seq .go (.cut 2)) (.seq (.seq .go (.blk (.cut 3))) .go))))))))))) (e_gatelaw2_ClaimsDelegated K) ds = (e_gatelaw2_ClaimsDelegated K).f ds := by kernel_rfl
theorem ok_gatelaw2_ClaimsDelegated (K : Nat) : FnOK Tryz.prog T0 4 (e_gatelaw2_ClaimsDelegated K) :=
  fn_thm (T0 := T0) (T := T_gatelaw2_ClaimsDelegated K) rfl (hT_of hT0 rfl rfl rfl) (hes_ok (T0 := T0) (T := T_gatelaw2_ClaimsDelegated K) rfl rfl (⟨ok_gatemake_Stream_Claims K, ok_gatemake_Stream_Some K, ok_gatemake_Stream_Scopes K, ok_gatemake_Stream_Flip K, ok_gatemake_Stream_Pick K, ok_token_Delegate K, ok_gateref2_DelegateOf K, ok_gateref2_SameClaims K, ok_gatemake_Stream_Range K, ok_gatemake_Stream_Next K, ok_token_CheckChain K, ok_gateref2_ChainFault K, ok_gatelaw2_signed K, trivial⟩ : FAll Tryz.prog T0 [(18, e_gatemake_Stream_Claims K), (19, e_gatemake_Stream_Some K), (6, e_gatemake_Stream_Scopes K), (20, e_gatemake_Stream_Flip K), (21, e_gatemake_Stream_Pick K), (22, e_token_Delegate K), (23, e_gateref2_DelegateOf K), (24, e_gateref2_SameClaims K), (25, e_gatemake_Stream_Range K), (26, e_gatemake_Stream_Next K), (27, e_token_CheckChain K), (28, e_gateref2_ChainFault K), (17, e_gatelaw2_signed K)])) Tryz.func4 (by decide) rfl (Nat.le_of_ble_eq_true rfl) rfl rfl rfl (tot_none rfl) (cutsOK_list (l := [(0, sub (codeOf Tryz.f4) [1, 1, 1, 0, 1]), (1, sub (codeOf Tryz.f4) [1, 1, 1, 1, 1, 1, 1, 0, 0]), (2, sub (codeOf Tryz.f4) [1, 1, 1, 1, 1, 1, 1, 1, 1, 0, 1]), (3, sub (codeOf Tryz.f4) [1, 1, 1, 1, 1, 1, 1, 1, 1, 1, 0, 1, 0])]) (by kernel_rfl) ⟨cut_one (u := c_gatelaw2_ClaimsDelegated_0 K) rfl (k_gatelaw2_ClaimsDelegated_0 K), cut_one (u := c_gatelaw2_ClaimsDelegated_1 K) rfl (k_gatelaw2_ClaimsDelegated_1 K), cut_one (u := c_gatelaw2_ClaimsDelegated_2 K) rfl (k_gatelaw2_ClaimsDelegated_2 K), cut_one (u := c_gatelaw2_ClaimsDelegated_3 K) rfl (k_gatelaw2_ClaimsDelegated_3 K), trivial⟩) (q_gatelaw2_ClaimsDelegated K)
end Go.Proofs.YtpmkecjkbajcgaaGreatDoorP
