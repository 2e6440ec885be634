/- Printed by gen.py. -/
import Derived.Test.YtlogmjgkbfahjaaProg
import Derived.Test.YtlogmjgkbfahjaaEvKit
import Derived.Test.YtlogmjgkbfahjaaEvClear
import Derived.Test.YtlogmjgkbfahjaaEvFlat
import Derived.Test.YtlogmjgkbfahjaaEvClone
import Derived.Shelf.Strings.Repeat
namespace Go.Proofs.YtlogmjgkbfahjaaP
open Go Go.Ev Go.RowKit Go.Shelf
set_option linter.unusedVariables false
def tys : List (Nat × K) := [(3, .int .i64), (4, .bool), (5, .int .u8), (9, .str), (22, .slice 3 (.int .i64)), (25, .pair 22 (.slice 3 (.int .i64)) (.pair 3 (.int .i64) .unit)), (30, .int .i64), (73, .slice 9 .str), (93, .slice 103 (.pair 9 .str (.pair 9 .str (.pair 3 (.int .i64) (.pair 3 (.int .i64) (.pair 3 (.int .i64) .unit)))))), (103, .pair 9 .str (.pair 9 .str (.pair 3 (.int .i64) (.pair 3 (.int .i64) (.pair 3 (.int .i64) .unit))))), (193, .int .u64), (197, .slice 5 (.int .u8))]
def T0 : Tbl := { kd := lk tys, boolT := 4, intT := 3, byteT := 5, frz := fun _ => false, ents := fun _ => [], cuts := fun _ => none }
theorem ty3 : TyOK Try.prog (lk tys) 3 (.int .i64) :=
  tyOK (z := .int .i64 0) (n := 1) (by kernel_rfl) rfl rfl rfl Try.underlying3 rfl (fun _ h => by cases h)
theorem ty4 : TyOK Try.prog (lk tys) 4 .bool :=
  tyOK (z := .bool false) (n := 1) (by kernel_rfl) rfl rfl rfl Try.underlying4 rfl (fun _ h => by cases h)
theorem ty5 : TyOK Try.prog (lk tys) 5 (.int .u8) :=
  tyOK (z := .int .u8 0) (n := 1) (by kernel_rfl) rfl rfl rfl Try.underlying5 rfl (fun _ h => by cases h)
theorem ty9 : TyOK Try.prog (lk tys) 9 .str :=
  tyOK (z := .string ⟨#[]⟩) (n := 1) (by kernel_rfl) rfl rfl rfl Try.underlying9 rfl (fun _ h => by cases h)
theorem ty22 : TyOK Try.prog (lk tys) 22 (.slice 3 (.int .i64)) :=
  tyOK (z := .slice none 0 0) (n := 1) (by kernel_rfl) rfl rfl rfl Try.underlying22 ⟨_, rfl, rfl⟩ (fun _ h => by cases h)
theorem ty25 : TyOK Try.prog (lk tys) 25 (.pair 22 (.slice 3 (.int .i64)) (.pair 3 (.int .i64) .unit)) :=
  tyOK (z := .agg #[.slice none 0 0, .int .i64 0]) (n := 2) (by kernel_rfl) rfl ⟨[.slice none 0 0], [.int .i64 0], rfl, rfl, ⟨[.int .i64 0], [], rfl, rfl, rfl⟩⟩ rfl Try.underlying25 ⟨⟨rfl, rfl, rfl, by decide, ⟨rfl, rfl, rfl, by decide, rfl⟩⟩, rfl⟩ (fun h => by cases h)
theorem ty30 : TyOK Try.prog (lk tys) 30 (.int .i64) :=
  tyOK (z := .int .i64 0) (n := 1) (by kernel_rfl) rfl rfl rfl Try.underlying30 rfl (fun _ h => by cases h)
theorem ty73 : TyOK Try.prog (lk tys) 73 (.slice 9 .str) :=
  tyOK (z := .slice none 0 0) (n := 1) (by kernel_rfl) rfl rfl rfl Try.underlying73 ⟨_, rfl, rfl⟩ (fun _ h => by cases h)
theorem ty93 : TyOK Try.prog (lk tys) 93 (.slice 103 (.pair 9 .str (.pair 9 .str (.pair 3 (.int .i64) (.pair 3 (.int .i64) (.pair 3 (.int .i64) .unit)))))) :=
  tyOK (z := .slice none 0 0) (n := 1) (by kernel_rfl) rfl rfl rfl Try.underlying93 ⟨_, rfl, rfl⟩ (fun _ h => by cases h)
theorem ty103 : TyOK Try.prog (lk tys) 103 (.pair 9 .str (.pair 9 .str (.pair 3 (.int .i64) (.pair 3 (.int .i64) (.pair 3 (.int .i64) .unit))))) :=
  tyOK (z := .agg #[.string ⟨#[]⟩, .string ⟨#[]⟩, .int .i64 0, .int .i64 0, .int .i64 0]) (n := 5) (by kernel_rfl) rfl ⟨[.string ⟨#[]⟩], [.string ⟨#[]⟩, .int .i64 0, .int .i64 0, .int .i64 0], rfl, rfl, ⟨[.string ⟨#[]⟩], [.int .i64 0, .int .i64 0, .int .i64 0], rfl, rfl, ⟨[.int .i64 0], [.int .i64 0, .int .i64 0], rfl, rfl, ⟨[.int .i64 0], [.int .i64 0], rfl, rfl, ⟨[.int .i64 0], [], rfl, rfl, rfl⟩⟩⟩⟩⟩ rfl Try.underlying103 ⟨⟨rfl, rfl, rfl, by decide, ⟨rfl, rfl, rfl, by decide, ⟨rfl, rfl, rfl, by decide, ⟨rfl, rfl, rfl, by decide, ⟨rfl, rfl, rfl, by decide, rfl⟩⟩⟩⟩⟩, rfl⟩ (fun _ _ => ⟨by kernel_rfl, by kernel_rfl⟩)
theorem ty193 : TyOK Try.prog (lk tys) 193 (.int .u64) :=
  tyOK (z := .int .u64 0) (n := 1) (by kernel_rfl) rfl rfl rfl Try.underlying193 rfl (fun _ h => by cases h)
theorem ty197 : TyOK Try.prog (lk tys) 197 (.slice 5 (.int .u8)) :=
  tyOK (z := .slice none 0 0) (n := 1) (by kernel_rfl) rfl rfl rfl Try.underlying197 ⟨_, rfl, rfl⟩ (fun _ h => by cases h)
theorem hT0 : TblOK Try.prog T0 :=
  ⟨AllTy.get (l := tys) ⟨ty3, ty4, ty5, ty9, ty22, ty25, ty30, ty73, ty93, ty103, ty193, ty197, trivial⟩, rfl, rfl, by kernel_rfl⟩
/-! ### 81 gatewarden/gatemake.Below -/
def f_gatemake_Below (K : Nat) (x n : D) : Option (List D) :=
  bif (ltI n.int 1) then
    some [D.i 0]
  else
    bif (!(eqI n.int 0)) then
      bif (ltI (Int.tmod x.int n.int) 0) then
        some [D.i (IntKind.i64.wrap ((Int.tmod x.int n.int) + n.int))]
      else
        some [D.i (Int.tmod x.int n.int)]
    else
      none
def e_gatemake_Below (K : Nat) : Entry := { n := 2, sh := { sl := [(0, .d 3 false), (1, .d 3 false)], ob := [] }, kept := [], rs := [{ sl := [(0, .d 3 true)], ob := [] }], f := fun ds => f_gatemake_Below K (D.nth ds 0) (D.nth ds 1), tot := none }
def T_gatemake_Below (K : Nat) : Tbl := { T0 with ents := entsOf [], cuts := lk [] }
theorem q_gatemake_Below (K : Nat) (ds : List D) : evFn (T_gatemake_Below K) Try.f81 .go (e_gatemake_Below K) ds = (e_gatemake_Below K).f ds := by kernel_rfl
theorem ok_gatemake_Below (K : Nat) : FnOK Try.prog T0 81 (e_gatemake_Below K) :=
  fn_thm (T0 := T0) (T := T_gatemake_Below K) rfl (hT_of hT0 rfl rfl rfl) (hes_ok (T0 := T0) (T := T_gatemake_Below K) rfl rfl (trivial : FAll Try.prog T0 [])) Try.func81 (by decide) rfl (Nat.le_of_ble_eq_true rfl) rfl rfl rfl (tot_none rfl) (cutsOK_none (by rfl)) (q_gatemake_Below K)
/-! ### 16 (*gatewarden/gatemake.Stream).Next -/
def f_gatemake_Stream_Next (K : Nat) (n o0 : D) : Option (List D) :=
  bif ((((o0.at' 0).list).length : Int) == (0 : Int)) then
    (f_gatemake_Below K (D.i (IntKind.i64.wrap ((IntKind.i64.wrap (((o0.at' 1).int) + (1 : Int))) * (7919 : Int)))) n).bind fun t1 =>
    some [D.nth t1 0, D.n [o0.at' 0, D.i (IntKind.i64.wrap (((o0.at' 1).int) + (1 : Int)))]]
  else
    bif (!(eqI (((o0.at' 0).list).length : Int) 0)) then
      bif (!(eqI (((o0.at' 0).list).length : Int) 0)) then
        bif (inB (Int.tmod (IntKind.i64.wrap ((IntKind.i64.wrap (((o0.at' 1).int) + (1 : Int))) - (1 : Int))) (((o0.at' 0).list).length : Int)) (((o0.at' 0).list).length)) then
          (f_gatemake_Below K (D.nth ((o0.at' 0).list) ((Int.tmod (IntKind.i64.wrap ((IntKind.i64.wrap (((o0.at' 1).int) + (1 : Int))) - (1 : Int))) (((o0.at' 0).list).length : Int)).toNat)) (D.i 1073741824)).bind fun t2 =>
          (f_gatemake_Below K (D.i (IntKind.i64.wrap (((D.nth t2 0).int) + (IntKind.i64.wrap ((IntKind.i64.wrap (Int.tdiv (IntKind.i64.wrap ((IntKind.i64.wrap (((o0.at' 1).int) + (1 : Int))) - (1 : Int))) (((o0.at' 0).list).length : Int))) * (IntKind.i64.wrap ((7919 : Int) + (Int.tmod (IntKind.i64.wrap ((IntKind.i64.wrap (((o0.at' 1).int) + (1 : Int))) - (1 : Int))) (((o0.at' 0).list).length : Int))))))))) n).bind fun t3 =>
          some [D.nth t3 0, D.n [o0.at' 0, D.i (IntKind.i64.wrap (((o0.at' 1).int) + (1 : Int)))]]
        else
          none
      else
        none
    else
      none
def e_gatemake_Stream_Next (K : Nat) : Entry := { n := 2, sh := { sl := [(0, .ptr 25 0 []), (1, .d 3 false)], ob := [(0, .box 25 (.d 25 false))] }, kept := [0], rs := [{ sl := [(0, .d 3 true)], ob := [(0, .box 25 (.d 25 false))] }], f := fun ds => f_gatemake_Stream_Next K (D.nth ds 0) (D.nth ds 1), tot := none }
def T_gatemake_Stream_Next (K : Nat) : Tbl := { T0 with ents := entsOf [(81, e_gatemake_Below K)], cuts := lk [] }
theorem q_gatemake_Stream_Next (K : Nat) (ds : List D) : evFn (T_gatemake_Stream_Next K) Try.f16 .go (e_gatemake_Stream_Next K) ds = (e_gatemake_Stream_Next K).f ds := by kernel_rfl
theorem ok_gatemake_Stream_Next (K : Nat) : FnOK Try.prog T0 16 (e_gatemake_Stream_Next K) :=
  fn_thm (T0 := T0) (T := T_gatemake_Stream_Next K) rfl (hT_of hT0 rfl rfl rfl) (hes_ok (T0 := T0) (T := T_gatemake_Stream_Next K) rfl rfl (⟨ok_gatemake_Below K, trivial⟩ : FAll Try.prog T0 [(81, e_gatemake_Below K)])) Try.func16 (by decide) rfl (Nat.le_of_ble_eq_true rfl) rfl rfl rfl (tot_none rfl) (cutsOK_none (by rfl)) (q_gatemake_Stream_Next K)
/-! ### 13 (*gatewarden/gatemake.Stream).Range -/
def f_gatemake_Stream_Range (K : Nat) (low high o0 : D) : Option (List D) :=
  bif (ltI high.int low.int) then
    some [low, o0]
  else
    (f_gatemake_Stream_Next K (D.i (IntKind.i64.wrap ((IntKind.i64.wrap (high.int - low.int)) + (1 : Int)))) o0).bind fun t1 =>
    some [D.i (IntKind.i64.wrap (low.int + ((D.nth t1 0).int))), D.nth t1 1]
def e_gatemake_Stream_Range (K : Nat) : Entry := { n := 3, sh := { sl := [(0, .ptr 25 0 []), (1, .d 3 false), (2, .d 3 false)], ob := [(0, .box 25 (.d 25 false))] }, kept := [0], rs := [{ sl := [(0, .d 3 true)], ob := [(0, .box 25 (.d 25 false))] }], f := fun ds => f_gatemake_Stream_Range K (D.nth ds 0) (D.nth ds 1) (D.nth ds 2), tot := none }
def T_gatemake_Stream_Range (K : Nat) : Tbl := { T0 with ents := entsOf [(16, e_gatemake_Stream_Next K)], cuts := lk [] }
theorem q_gatemake_Stream_Range (K : Nat) (ds : List D) : evFn (T_gatemake_Stream_Range K) Try.f13 .go (e_gatemake_Stream_Range K) ds = (e_gatemake_Stream_Range K).f ds := by kernel_rfl
theorem ok_gatemake_Stream_Range (K : Nat) : FnOK Try.prog T0 13 (e_gatemake_Stream_Range K) :=
  fn_thm (T0 := T0) (T := T_gatemake_Stream_Range K) rfl (hT_of hT0 rfl rfl rfl) (hes_ok (T0 := T0) (T := T_gatemake_Stream_Range K) rfl rfl (⟨ok_gatemake_Stream_Next K, trivial⟩ : FAll Try.prog T0 [(16, e_gatemake_Stream_Next K)])) Try.func13 (by decide) rfl (Nat.le_of_ble_eq_true rfl) rfl rfl rfl (tot_none rfl) (cutsOK_none (by rfl)) (q_gatemake_Stream_Range K)
/-! ### 14 (*gatewarden/gatemake.Stream).Pick -/
def f_gatemake_Stream_Pick (K : Nat) (o0 r1 : D) : Option (List D) :=
  (f_gatemake_Stream_Next K (D.i (r1.list.length : Int)) o0).bind fun t1 =>
  bif (inB ((D.nth t1 0).int) r1.list.length) then
    some [D.nth r1.list (((D.nth t1 0).int).toNat), D.nth t1 1, D.n r1.list]
  else
    none
def e_gatemake_Stream_Pick (K : Nat) : Entry := { n := 2, sh := { sl := [(0, .ptr 25 0 []), (1, .own 22 1)], ob := [(0, .box 25 (.d 25 false)), (1, .row 3 true)] }, kept := [0, 1], rs := [{ sl := [(0, .d 3 true)], ob := [(0, .box 25 (.d 25 false)), (1, .row 3 true)] }], f := fun ds => f_gatemake_Stream_Pick K (D.nth ds 0) (D.nth ds 1), tot := none }
def T_gatemake_Stream_Pick (K : Nat) : Tbl := { T0 with ents := entsOf [(16, e_gatemake_Stream_Next K)], cuts := lk [] }
theorem q_gatemake_Stream_Pick (K : Nat) (ds : List D) : evFn (T_gatemake_Stream_Pick K) Try.f14 .go (e_gatemake_Stream_Pick K) ds = (e_gatemake_Stream_Pick K).f ds := by kernel_rfl
theorem ok_gatemake_Stream_Pick (K : Nat) : FnOK Try.prog T0 14 (e_gatemake_Stream_Pick K) :=
  fn_thm (T0 := T0) (T := T_gatemake_Stream_Pick K) rfl (hT_of hT0 rfl rfl rfl) (hes_ok (T0 := T0) (T := T_gatemake_Stream_Pick K) rfl rfl (⟨ok_gatemake_Stream_Next K, trivial⟩ : FAll Try.prog T0 [(16, e_gatemake_Stream_Next K)])) Try.func14 (by decide) rfl (Nat.le_of_ble_eq_true rfl) rfl rfl rfl (tot_none rfl) (cutsOK_none (by rfl)) (q_gatemake_Stream_Pick K)
/-! ### 56 (*gatewarden/gatemake.Stream).Some -/
def f_gatemake_Stream_Some (K : Nat) (o0 r1 : D) : Option (List D) :=
  (f_gatemake_Stream_Next K (D.i (r1.list.length : Int)) o0).bind fun t1 =>
  bif (inB ((D.nth t1 0).int) r1.list.length) then
    some [D.nth r1.list (((D.nth t1 0).int).toNat), D.nth t1 1, D.n r1.list]
  else
    none
def e_gatemake_Stream_Some (K : Nat) : Entry := { n := 2, sh := { sl := [(0, .ptr 25 0 []), (1, .own 73 1)], ob := [(0, .box 25 (.d 25 false)), (1, .row 9 true)] }, kept := [0, 1], rs := [{ sl := [(0, .d 9 true)], ob := [(0, .box 25 (.d 25 false)), (1, .row 9 true)] }], f := fun ds => f_gatemake_Stream_Some K (D.nth ds 0) (D.nth ds 1), tot := none }
def T_gatemake_Stream_Some (K : Nat) : Tbl := { T0 with ents := entsOf [(16, e_gatemake_Stream_Next K)], cuts := lk [] }
theorem q_gatemake_Stream_Some (K : Nat) (ds : List D) : evFn (T_gatemake_Stream_Some K) Try.f56 .go (e_gatemake_Stream_Some K) ds = (e_gatemake_Stream_Some K).f ds := by kernel_rfl
theorem ok_gatemake_Stream_Some (K : Nat) : FnOK Try.prog T0 56 (e_gatemake_Stream_Some K) :=
  fn_thm (T0 := T0) (T := T_gatemake_Stream_Some K) rfl (hT_of hT0 rfl rfl rfl) (hes_ok (T0 := T0) (T := T_gatemake_Stream_Some K) rfl rfl (⟨ok_gatemake_Stream_Next K, trivial⟩ : FAll Try.prog T0 [(16, e_gatemake_Stream_Next K)])) Try.func56 (by decide) rfl (Nat.le_of_ble_eq_true rfl) rfl rfl rfl (tot_none rfl) (cutsOK_none (by rfl)) (q_gatemake_Stream_Some K)
/-! ### 113 (*gatewarden/gatemake.Stream).RightSigners -/
def b_gatemake_Stream_RightSigners_0 (K : Nat) (rec : List D → Option (Nat × List D)) (ds : List D) : Option (Nat × List D) :=
  let vfrom := D.nth ds 0
  let s12 := D.nth ds 1
  let s13 := D.nth ds 2
  let o0 := D.nth ds 3
  let r1 := D.nth ds 4
  let r2 := D.nth ds 5
  bif (ltI s13.int s12.int) then
    bif (inB s13.int r1.list.length) then
      (f_gatemake_Stream_Pick K o0 (D.n [D.i 0, D.i 10, D.i 50, D.i 100])).bind fun t2 =>
      (f_gatemake_Stream_Some K (D.nth t2 1) (D.n [D.s [111, 110, 101], D.s [116, 119, 111], D.s [107, 33]])).bind fun t3 =>
      (f_gatemake_Stream_Pick K (D.nth t3 1) (D.n [D.i 0, D.i 10, D.i 100, D.i 200])).bind fun t4 =>
      (f_gatemake_Stream_Pick K (D.nth t4 1) (D.n [D.i 0, D.i 5, D.i 100, D.i 1000])).bind fun t5 =>
      bif (lim (r2.list.length + 1)) then
        rec [D.i (IntKind.i64.wrap (vfrom.int + ((D.nth t2 0).int))), s12, D.i (IntKind.i64.wrap (s13.int + (1 : Int))), D.nth t5 1, D.n r1.list, D.n (r2.list ++ [D.n [D.nth r1.list s13.int.toNat, D.nth t3 0, D.i (IntKind.i64.wrap (vfrom.int + ((D.nth t2 0).int))), D.i (IntKind.i64.wrap ((IntKind.i64.wrap (vfrom.int + ((D.nth t2 0).int))) + ((D.nth t4 0).int))), D.i (IntKind.i64.wrap ((IntKind.i64.wrap ((IntKind.i64.wrap (vfrom.int + ((D.nth t2 0).int))) + ((D.nth t4 0).int))) + ((D.nth t5 0).int)))]])]
      else
        none
    else
      none
  else
    some (0, [o0, D.n r1.list, D.n r2.list])
def c_gatemake_Stream_RightSigners_0 (K : Nat) : Cut := { sh := { sl := [(0, .ptr 25 0 []), (3, .own 93 2), (4, .d 3 true), (11, .own 73 1), (12, .d 3 true), (13, .d 3 true)], ob := [(0, .box 25 (.d 25 false)), (1, .row 9 true), (2, .row 103 true)] }, kept := [0, 1], outs := [(.exit 0, { sl := [(3, .own 93 2)], ob := [(0, .box 25 (.d 25 false)), (1, .row 9 true), (2, .row 103 true)] })], f := fun ds => fixN (b_gatemake_Stream_RightSigners_0 K) K ds }
def f_gatemake_Stream_RightSigners (K : Nat) (o0 : D) : Option (List D) :=
  (f_gatemake_Stream_Range K (D.i 0) (D.i 3) o0).bind fun t1 =>
  bif (inB ((D.nth t1 0).int) (3 + 1)) then
    (fixN (b_gatemake_Stream_RightSigners_0 K) K [D.i 0, D.i (([D.s [115, 49], D.s [115, 50], D.s [115, 51]].take (((D.nth t1 0).int).toNat)).length : Int), D.i 0, D.nth t1 1, D.n ([D.s [115, 49], D.s [115, 50], D.s [115, 51]].take (((D.nth t1 0).int).toNat)), D.n []]).bind fun t2 =>
    some [D.nth t2.2 0, D.n ((D.nth t2.2 2).list)]
  else
    none
def e_gatemake_Stream_RightSigners (K : Nat) : Entry := { n := 1, sh := { sl := [(0, .ptr 25 0 [])], ob := [(0, .box 25 (.d 25 false))] }, kept := [0], rs := [{ sl := [(0, .own 93 1)], ob := [(0, .box 25 (.d 25 false)), (1, .row 103 true)] }], f := fun ds => f_gatemake_Stream_RightSigners K (D.nth ds 0), tot := none }
def T_gatemake_Stream_RightSigners (K : Nat) : Tbl := { T0 with ents := entsOf [(13, e_gatemake_Stream_Range K), (14, e_gatemake_Stream_Pick K), (56, e_gatemake_Stream_Some K)], cuts := lk [(0, c_gatemake_Stream_RightSigners_0 K)] }
theorem q_gatemake_Stream_RightSigners_0 (K : Nat) (rec : List D → Option (Nat × List D)) (ds : List D) : evLoop (T_gatemake_Stream_RightSigners K) 47 (sub (codeOf Try.f113) [1, 1, 1, 0, 1, 0, 0]) .go (c_gatemake_Stream_RightSigners_0 K) rec ds = b_gatemake_Stream_RightSigners_0 K rec ds := by kernel_rfl
theorem k_gatemake_Stream_RightSigners_0 (K : Nat) : CutOK Try.prog (T_gatemake_Stream_RightSigners K) 47 (sub (codeOf Try.f113) [1, 1, 1, 0, 1, 0]) (c_gatemake_Stream_RightSigners_0 K) :=
  loop_thm (T := T_gatemake_Stream_RightSigners K) (hT_of hT0 rfl rfl rfl) (hes_ok (T0 := T0) (T := T_gatemake_Stream_RightSigners K) rfl rfl (⟨ok_gatemake_Stream_Range K, ok_gatemake_Stream_Pick K, ok_gatemake_Stream_Some K, trivial⟩ : FAll Try.prog T0 [(13, e_gatemake_Stream_Range K), (14, e_gatemake_Stream_Pick K), (56, e_gatemake_Stream_Some K)])) (by kernel_rfl) rfl rfl rfl (cutsOK_none (by rfl)) rfl (q_gatemake_Stream_RightSigners_0 K)
theorem q_gatemake_Stream_RightSigners (K : Nat) (ds : List D) : evFn (T_gatemake_Stream_RightSigners K) Try.f113 (.seq .go (.seq .go (.seq .go (.seq (.seq .go (.blk (.cut 0))) .go)))) (e_gatemake_Stream_RightSigners K) ds = (e_gatemake_Stream_RightSigners K).f ds := by kernel_rfl
theorem ok_gatemake_Stream_RightSigners (K : Nat) : FnOK Try.prog T0 113 (e_gatemake_Stream_RightSigners K) :=
  fn_thm (T0 := T0) (T := T_gatemake_Stream_RightSigners K) rfl (hT_of hT0 rfl rfl rfl) (hes_ok (T0 := T0) (T := T_gatemake_Stream_RightSigners K) rfl rfl (⟨ok_gatemake_Stream_Range K, ok_gatemake_Stream_Pick K, ok_gatemake_Stream_Some K, trivial⟩ : FAll Try.prog T0 [(13, e_gatemake_Stream_Range K), (14, e_gatemake_Stream_Pick K), (56, e_gatemake_Stream_Some K)])) Try.func113 (by decide) rfl (Nat.le_of_ble_eq_true rfl) rfl rfl rfl (tot_none rfl) (cutsOK_list (l := [(0, sub (codeOf Try.f113) [1, 1, 1, 0, 1, 0])]) (by kernel_rfl) ⟨cut_one (u := c_gatemake_Stream_RightSigners_0 K) rfl (k_gatemake_Stream_RightSigners_0 K), trivial⟩) (q_gatemake_Stream_RightSigners K)
/-! ### 15 (*gatewarden/gatemake.Stream).Flip -/
def f_gatemake_Stream_Flip (K : Nat) (n o0 : D) : Option (List D) :=
  (f_gatemake_Stream_Next K n o0).bind fun t1 =>
  some [D.b (((D.nth t1 0).int) == (0 : Int)), D.nth t1 1]
def e_gatemake_Stream_Flip (K : Nat) : Entry := { n := 2, sh := { sl := [(0, .ptr 25 0 []), (1, .d 3 false)], ob := [(0, .box 25 (.d 25 false))] }, kept := [0], rs := [{ sl := [(0, .d 4 true)], ob := [(0, .box 25 (.d 25 false))] }], f := fun ds => f_gatemake_Stream_Flip K (D.nth ds 0) (D.nth ds 1), tot := none }
def T_gatemake_Stream_Flip (K : Nat) : Tbl := { T0 with ents := entsOf [(16, e_gatemake_Stream_Next K)], cuts := lk [] }
theorem q_gatemake_Stream_Flip (K : Nat) (ds : List D) : evFn (T_gatemake_Stream_Flip K) Try.f15 .go (e_gatemake_Stream_Flip K) ds = (e_gatemake_Stream_Flip K).f ds := by kernel_rfl
theorem ok_gatemake_Stream_Flip (K : Nat) : FnOK Try.prog T0 15 (e_gatemake_Stream_Flip K) :=
  fn_thm (T0 := T0) (T := T_gatemake_Stream_Flip K) rfl (hT_of hT0 rfl rfl rfl) (hes_ok (T0 := T0) (T := T_gatemake_Stream_Flip K) rfl rfl (⟨ok_gatemake_Stream_Next K, trivial⟩ : FAll Try.prog T0 [(16, e_gatemake_Stream_Next K)])) Try.func15 (by decide) rfl (Nat.le_of_ble_eq_true rfl) rfl rfl rfl (tot_none rfl) (cutsOK_none (by rfl)) (q_gatemake_Stream_Flip K)
/-! ### 114 strings.Repeat -/
def lays_strings_Repeat_ren : Go.Shelf.Ren := ⟨fun | 105 => 114 | 212 => 142 | 99 => 143 | 165 => 144 | 166 => 145 | 170 => 146 | 169 => 147 | 263 => 158 | 264 => 159 | 206 => 160 | 240 => 161 | 241 => 162 | 276 => 177 | 277 => 178 | n => n, fun | 9 => 9 | 3 => 3 | 4 => 4 | 20 => 20 | 0 => 0 | 46 => 193 | 109 => 194 | 5 => 5 | 72 => 199 | 76 => 202 | 51 => 210 | 146 => 211 | 53 => 213 | 148 => 214 | 70 => 196 | 37 => 197 | 75 => 201 | 127 => 216 | 164 => 227 | 80 => 96 | n => n, fun | n => n⟩
theorem lays_strings_Repeat : Go.Proofs.Lays.n105 Try.prog lays_strings_Repeat_ren where
  mixed := by kernel_rfl
  f99 := Try.func143.trans (congrArg some (by kernel_rfl))
  f105 := Try.func114.trans (congrArg some (by kernel_rfl))
  f165 := Try.func144.trans (congrArg some (by kernel_rfl))
  f166 := Try.func145.trans (congrArg some (by kernel_rfl))
  f169 := Try.func147.trans (congrArg some (by kernel_rfl))
  f170 := Try.func146.trans (congrArg some (by kernel_rfl))
  f206 := Try.func160.trans (congrArg some (by kernel_rfl))
  f212 := Try.func142.trans (congrArg some (by kernel_rfl))
  f240 := Try.func161.trans (congrArg some (by kernel_rfl))
  f241 := Try.func162.trans (congrArg some (by kernel_rfl))
  f263 := Try.func158.trans (congrArg some (by kernel_rfl))
  f264 := Try.func159.trans (congrArg some (by kernel_rfl))
  f276 := Try.func177.trans (congrArg some (by kernel_rfl))
  f277 := Try.func178.trans (congrArg some (by kernel_rfl))
  t0 := Try.underlying0
  a0 := Try.isAgg0
  z0 := Try.sizeOf0
  v0 := Try.zeroValue0
  t3 := Try.underlying3
  a3 := Try.isAgg3
  z3 := Try.sizeOf3
  v3 := Try.zeroValue3
  t4 := Try.underlying4
  a4 := Try.isAgg4
  z4 := Try.sizeOf4
  v4 := Try.zeroValue4
  t5 := Try.underlying5
  a5 := Try.isAgg5
  z5 := Try.sizeOf5
  v5 := Try.zeroValue5
  t9 := Try.underlying9
  a9 := Try.isAgg9
  z9 := Try.sizeOf9
  v9 := Try.zeroValue9
  t20 := Try.underlying20
  a20 := Try.isAgg20
  z20 := Try.sizeOf20
  v20 := Try.zeroValue20
  t37 := Try.underlying197
  a37 := Try.isAgg197
  z37 := Try.sizeOf197
  v37 := Try.zeroValue197
  t46 := Try.underlying193
  a46 := Try.isAgg193
  z46 := Try.sizeOf193
  v46 := Try.zeroValue193
  t51 := Try.underlying210
  a51 := Try.isAgg210
  z51 := Try.sizeOf210
  v51 := Try.zeroValue210
  t53 := Try.underlying213
  a53 := Try.isAgg213
  z53 := Try.sizeOf213
  v53 := Try.zeroValue213
  t70 := Try.underlying196
  a70 := Try.isAgg196
  z70 := Try.sizeOf196
  v70 := Try.zeroValue196
  t72 := Try.underlying199
  a72 := Try.isAgg199
  z72 := Try.sizeOf199
  v72 := Try.zeroValue199
  t75 := Try.underlying201
  a75 := Try.isAgg201
  z75 := Try.sizeOf201
  v75 := Try.zeroValue201
  t76 := Try.underlying202
  a76 := Try.isAgg202
  z76 := Try.sizeOf202
  v76 := Try.zeroValue202
  t109 := Try.underlying194
  a109 := Try.isAgg194
  z109 := Try.sizeOf194
  v109 := Try.zeroValue194
  t127 := Try.underlying216
  a127 := Try.isAgg216
  z127 := Try.sizeOf216
  v127 := Try.zeroValue216
  t146 := Try.underlying211
  a146 := Try.isAgg211
  z146 := Try.sizeOf211
  v146 := Try.zeroValue211
  t148 := Try.underlying214
  a148 := Try.isAgg214
  z148 := Try.sizeOf214
  v148 := Try.zeroValue214
  t164 := Try.underlying227
  a164 := Try.isAgg227
  z164 := Try.sizeOf227
  v164 := Try.zeroValue227
theorem lays_strings_Repeat_x : Builder.Extra Try.prog lays_strings_Repeat_ren where
  sizeBuilder := by kernel_rfl
  liesBuilder := by kernel_rfl
  t5 := lays_strings_Repeat.t5
  a5 := lays_strings_Repeat.a5
  z5 := lays_strings_Repeat.z5
  v5 := lays_strings_Repeat.v5
  infoByte := by kernel_rfl
  cellsByte := by kernel_rfl
  sizeByte := by kernel_rfl
  neB5 := by decide
def f_strings_Repeat (x y : D) : Option (List D) := repF x y
def e_strings_Repeat (K : Nat) : Entry := flat2 9 3 9 (fun ds => f_strings_Repeat (D.nth ds 0) (D.nth ds 1)) none
theorem ok_strings_Repeat (K : Nat) : FnOK Try.prog T0 114 (e_strings_Repeat K) :=
  repeat_ok (T := T0) Try.func114 rfl (by decide) rfl rfl rfl (fun s n w hn hl => Any.strings_Repeat lays_strings_Repeat lays_strings_Repeat_x s n w hn hl)
/-! ### 57 (*gatewarden/gatemake.Stream).Secret -/
def f_gatemake_Stream_Secret (K : Nat) (o0 : D) : Option (List D) :=
  (f_strings_Repeat (D.s [115]) (D.i 101)).bind fun t1 =>
  (f_gatemake_Stream_Some K o0 (D.n [D.s [111, 110, 101], D.s [116, 119, 111], D.s [116, 104, 114, 101, 101], D.s [107, 33], D.s [111, 110, 101], D.s [], D.s [97, 32, 98], D.s [127], D.nth t1 0])).bind fun t2 =>
  some [D.nth t2 0, D.nth t2 1]
def e_gatemake_Stream_Secret (K : Nat) : Entry := { n := 1, sh := { sl := [(0, .ptr 25 0 [])], ob := [(0, .box 25 (.d 25 false))] }, kept := [0], rs := [{ sl := [(0, .d 9 true)], ob := [(0, .box 25 (.d 25 false))] }], f := fun ds => f_gatemake_Stream_Secret K (D.nth ds 0), tot := none }
def T_gatemake_Stream_Secret (K : Nat) : Tbl := { T0 with ents := entsOf [(114, e_strings_Repeat K), (56, e_gatemake_Stream_Some K)], cuts := lk [] }
theorem q_gatemake_Stream_Secret (K : Nat) (ds : List D) : evFn (T_gatemake_Stream_Secret K) Try.f57 .go (e_gatemake_Stream_Secret K) ds = (e_gatemake_Stream_Secret K).f ds := by kernel_rfl
theorem ok_gatemake_Stream_Secret (K : Nat) : FnOK Try.prog T0 57 (e_gatemake_Stream_Secret K) :=
  fn_thm (T0 := T0) (T := T_gatemake_Stream_Secret K) rfl (hT_of hT0 rfl rfl rfl) (hes_ok (T0 := T0) (T := T_gatemake_Stream_Secret K) rfl rfl (⟨ok_strings_Repeat K, ok_gatemake_Stream_Some K, trivial⟩ : FAll Try.prog T0 [(114, e_strings_Repeat K), (56, e_gatemake_Stream_Some K)])) Try.func57 (by decide) rfl (Nat.le_of_ble_eq_true rfl) rfl rfl rfl (tot_none rfl) (cutsOK_none (by rfl)) (q_gatemake_Stream_Secret K)
/-! ### 64 (*gatewarden/gatemake.Stream).Odd -/
def f_gatemake_Stream_Odd (K : Nat) (low high o0 : D) : Option (List D) :=
  (f_gatemake_Stream_Flip K (D.i 12) o0).bind fun t1 =>
  bif (D.nth t1 0).bool then
    (f_gatemake_Stream_Pick K (D.nth t1 1) (D.n [D.i (IntKind.i64.wrap (low.int - (1 : Int))), D.i (IntKind.i64.wrap (high.int + (1 : Int))), low, high, D.i (-1099511627776), D.i 1099511627776])).bind fun t2 =>
    some [D.nth t2 0, D.nth t2 1]
  else
    (f_gatemake_Stream_Range K low high (D.nth t1 1)).bind fun t3 =>
    some [D.nth t3 0, D.nth t3 1]
def e_gatemake_Stream_Odd (K : Nat) : Entry := { n := 3, sh := { sl := [(0, .ptr 25 0 []), (1, .d 3 false), (2, .d 3 false)], ob := [(0, .box 25 (.d 25 false))] }, kept := [0], rs := [{ sl := [(0, .d 3 true)], ob := [(0, .box 25 (.d 25 false))] }], f := fun ds => f_gatemake_Stream_Odd K (D.nth ds 0) (D.nth ds 1) (D.nth ds 2), tot := none }
def T_gatemake_Stream_Odd (K : Nat) : Tbl := { T0 with ents := entsOf [(15, e_gatemake_Stream_Flip K), (14, e_gatemake_Stream_Pick K), (13, e_gatemake_Stream_Range K)], cuts := lk [] }
theorem q_gatemake_Stream_Odd (K : Nat) (ds : List D) : evFn (T_gatemake_Stream_Odd K) Try.f64 .go (e_gatemake_Stream_Odd K) ds = (e_gatemake_Stream_Odd K).f ds := by kernel_rfl
theorem ok_gatemake_Stream_Odd (K : Nat) : FnOK Try.prog T0 64 (e_gatemake_Stream_Odd K) :=
  fn_thm (T0 := T0) (T := T_gatemake_Stream_Odd K) rfl (hT_of hT0 rfl rfl rfl) (hes_ok (T0 := T0) (T := T_gatemake_Stream_Odd K) rfl rfl (⟨ok_gatemake_Stream_Flip K, ok_gatemake_Stream_Pick K, ok_gatemake_Stream_Range K, trivial⟩ : FAll Try.prog T0 [(15, e_gatemake_Stream_Flip K), (14, e_gatemake_Stream_Pick K), (13, e_gatemake_Stream_Range K)])) Try.func64 (by decide) rfl (Nat.le_of_ble_eq_true rfl) rfl rfl rfl (tot_none rfl) (cutsOK_none (by rfl)) (q_gatemake_Stream_Odd K)
/-! ### 55 (*gatewarden/gatemake.Stream).Signers -/
def b_gatemake_Stream_Signers_0 (K : Nat) (ds : List D) : Option (Nat × List D) :=
  let o0 := D.nth ds 0
  let r1 := D.nth ds 1
  bif (gtI (r1.list.length : Int) 0) then
    (f_gatemake_Stream_Flip K (D.i 12) o0).bind fun t2 =>
    some (0, [D.b ((D.nth t2 0).bool), D.nth t2 1, D.n r1.list])
  else
    some (0, [D.b false, o0, D.n r1.list])
def c_gatemake_Stream_Signers_0 (K : Nat) : Cut := { sh := { sl := [(0, .ptr 25 0 []), (3, .own 93 1)], ob := [(0, .box 25 (.d 25 false)), (1, .row 103 true)] }, kept := [0, 1], outs := [(.normal, { sl := [(13, .d 4 true)], ob := [(0, .box 25 (.d 25 false)), (1, .row 103 true)] })], f := b_gatemake_Stream_Signers_0 K }
def f_gatemake_Stream_Signers (K : Nat) (o0 : D) : Option (List D) :=
  (f_gatemake_Stream_RightSigners K o0).bind fun t1 =>
  (b_gatemake_Stream_Signers_0 K [D.nth t1 0, D.n ((D.nth t1 1).list)]).bind fun t2 =>
  bif (D.nth t2.2 0).bool then
    (f_gatemake_Stream_Next K (D.i (((D.nth t2.2 2).list).length : Int)) (D.nth t2.2 1)).bind fun t3 =>
    bif (inB ((D.nth t3 0).int) (((D.nth t2.2 2).list).length)) then
      (f_gatemake_Stream_Next K (D.i 3) (D.nth t3 1)).bind fun t4 =>
      bif (((D.nth t4 0).int) == (0 : Int)) then
        (f_gatemake_Stream_Some K (D.nth t4 1) (D.n [D.s [], D.s [65], D.s [115, 49]])).bind fun t5 =>
        some [D.nth t5 1, D.n (D.setNth ((D.nth t2.2 2).list) (((D.nth t3 0).int).toNat) (D.n (D.setNth ((D.nth ((D.nth t2.2 2).list) (((D.nth t3 0).int).toNat)).list) 0 (D.nth t5 0))))]
      else
        bif (((D.nth t4 0).int) == (1 : Int)) then
          (f_gatemake_Stream_Secret K (D.nth t4 1)).bind fun t6 =>
          some [D.nth t6 1, D.n (D.setNth ((D.nth t2.2 2).list) (((D.nth t3 0).int).toNat) (D.n (D.setNth ((D.nth ((D.nth t2.2 2).list) (((D.nth t3 0).int).toNat)).list) 1 (D.nth t6 0))))]
        else
          (f_gatemake_Stream_Odd K (D.i 0) (D.i 300) (D.nth t4 1)).bind fun t7 =>
          (f_gatemake_Stream_Odd K (D.i 0) (D.i 300) (D.nth t7 1)).bind fun t8 =>
          some [D.nth t8 1, D.n (D.setNth (D.setNth ((D.nth t2.2 2).list) (((D.nth t3 0).int).toNat) (D.n (D.setNth ((D.nth ((D.nth t2.2 2).list) (((D.nth t3 0).int).toNat)).list) 2 (D.nth t7 0)))) (((D.nth t3 0).int).toNat) (D.n (D.setNth ((D.nth (D.setNth ((D.nth t2.2 2).list) (((D.nth t3 0).int).toNat) (D.n (D.setNth ((D.nth ((D.nth t2.2 2).list) (((D.nth t3 0).int).toNat)).list) 2 (D.nth t7 0)))) (((D.nth t3 0).int).toNat)).list) 3 (D.nth t8 0))))]
    else
      none
  else
    some [D.nth t2.2 1, D.n ((D.nth t2.2 2).list)]
def e_gatemake_Stream_Signers (K : Nat) : Entry := { n := 1, sh := { sl := [(0, .ptr 25 0 [])], ob := [(0, .box 25 (.d 25 false))] }, kept := [0], rs := [{ sl := [(0, .own 93 1)], ob := [(0, .box 25 (.d 25 false)), (1, .row 103 true)] }], f := fun ds => f_gatemake_Stream_Signers K (D.nth ds 0), tot := none }
def T_gatemake_Stream_Signers (K : Nat) : Tbl := { T0 with ents := entsOf [(113, e_gatemake_Stream_RightSigners K), (15, e_gatemake_Stream_Flip K), (16, e_gatemake_Stream_Next K), (56, e_gatemake_Stream_Some K), (57, e_gatemake_Stream_Secret K), (64, e_gatemake_Stream_Odd K)], cuts := lk [(0, c_gatemake_Stream_Signers_0 K)] }
theorem q_gatemake_Stream_Signers_0 (K : Nat) (ds : List D) : evPiece (T_gatemake_Stream_Signers K) 48 (sub (codeOf Try.f55) [1, 1, 0, 0]) .go (c_gatemake_Stream_Signers_0 K) ds = b_gatemake_Stream_Signers_0 K ds := by kernel_rfl
theorem k_gatemake_Stream_Signers_0 (K : Nat) : CutOK Try.prog (T_gatemake_Stream_Signers K) 48 (sub (codeOf Try.f55) [1, 1, 0, 0]) (c_gatemake_Stream_Signers_0 K) :=
  piece_thm (T := T_gatemake_Stream_Signers K) (hT_of hT0 rfl rfl rfl) (hes_ok (T0 := T0) (T := T_gatemake_Stream_Signers K) rfl rfl (⟨ok_gatemake_Stream_RightSigners K, ok_gatemake_Stream_Flip K, ok_gatemake_Stream_Next K, ok_gatemake_Stream_Some K, ok_gatemake_Stream_Secret K, ok_gatemake_Stream_Odd K, trivial⟩ : FAll Try.prog T0 [(113, e_gatemake_Stream_RightSigners K), (15, e_gatemake_Stream_Flip K), (16, e_gatemake_Stream_Next K), (56, e_gatemake_Stream_Some K), (57, e_gatemake_Stream_Secret K), (64, e_gatemake_Stream_Odd K)])) rfl rfl rfl (cutsOK_none (by rfl)) (q_gatemake_Stream_Signers_0 K)
theorem q_gatemake_Stream_Signers (K : Nat) (ds : List D) : evFn (T_gatemake_Stream_Signers K) Try.f55 (.seq .go (.seq .go (.seq (.seq (.cut 0) .go) .go))) (e_gatemake_Stream_Signers K) ds = (e_gatemake_Stream_Signers K).f ds := by kernel_rfl
theorem ok_gatemake_Stream_Signers (K : Nat) : FnOK Try.prog T0 55 (e_gatemake_Stream_Signers K) :=
  fn_thm (T0 := T0) (T := T_gatemake_Stream_Signers K) rfl (hT_of hT0 rfl rfl rfl) (hes_ok (T0 := T0) (T := T_gatemake_Stream_Signers K) rfl rfl (⟨ok_gatemake_Stream_RightSigners K, ok_gatemake_Stream_Flip K, ok_gatemake_Stream_Next K, ok_gatemake_Stream_Some K, ok_gatemake_Stream_Secret K, ok_gatemake_Stream_Odd K, trivial⟩ : FAll Try.prog T0 [(113, e_gatemake_Stream_RightSigners K), (15, e_gatemake_Stream_Flip K), (16, e_gatemake_Stream_Next K), (56, e_gatemake_Stream_Some K), (57, e_gatemake_Stream_Secret K), (64, e_gatemake_Stream_Odd K)])) Try.func55 (by decide) rfl (Nat.le_of_ble_eq_true rfl) rfl rfl rfl (tot_none rfl) (cutsOK_list (l := [(0, sub (codeOf Try.f55) [1, 1, 0, 0])]) (by kernel_rfl) ⟨cut_one (u := c_gatemake_Stream_Signers_0 K) rfl (k_gatemake_Stream_Signers_0 K), trivial⟩) (q_gatemake_Stream_Signers K)
/-! ### 58 (*gatewarden/gatemake.Stream).Moment -/
def f_gatemake_Stream_Moment (K : Nat) (o0 : D) : Option (List D) :=
  (f_gatemake_Stream_Pick K o0 (D.n [D.i 0, D.i 10, D.i 49, D.i 50, D.i 60, D.i 99, D.i 100, D.i 101, D.i 149, D.i 150, D.i 200, D.i 300, D.i 1000, D.i (-1), D.i 345686400000])).bind fun t1 =>
  some [D.nth t1 0, D.nth t1 1]
def e_gatemake_Stream_Moment (K : Nat) : Entry := { n := 1, sh := { sl := [(0, .ptr 25 0 [])], ob := [(0, .box 25 (.d 25 false))] }, kept := [0], rs := [{ sl := [(0, .d 3 true)], ob := [(0, .box 25 (.d 25 false))] }], f := fun ds => f_gatemake_Stream_Moment K (D.nth ds 0), tot := none }
def T_gatemake_Stream_Moment (K : Nat) : Tbl := { T0 with ents := entsOf [(14, e_gatemake_Stream_Pick K)], cuts := lk [] }
theorem q_gatemake_Stream_Moment (K : Nat) (ds : List D) : evFn (T_gatemake_Stream_Moment K) Try.f58 .go (e_gatemake_Stream_Moment K) ds = (e_gatemake_Stream_Moment K).f ds := by kernel_rfl
theorem ok_gatemake_Stream_Moment (K : Nat) : FnOK Try.prog T0 58 (e_gatemake_Stream_Moment K) :=
  fn_thm (T0 := T0) (T := T_gatemake_Stream_Moment K) rfl (hT_of hT0 rfl rfl rfl) (hes_ok (T0 := T0) (T := T_gatemake_Stream_Moment K) rfl rfl (⟨ok_gatemake_Stream_Pick K, trivial⟩ : FAll Try.prog T0 [(14, e_gatemake_Stream_Pick K)])) Try.func58 (by decide) rfl (Nat.le_of_ble_eq_true rfl) rfl rfl rfl (tot_none rfl) (cutsOK_none (by rfl)) (q_gatemake_Stream_Moment K)
/-! ### 97 gatewarden/kit.IsKey -/
def b_kit_IsKey_0 (K : Nat) (rec : List D → Option (Nat × List D)) (ds : List D) : Option (Nat × List D) :=
  let s := D.nth ds 0
  let i := D.nth ds 1
  bif (ltI i.int (s.str.length : Int)) then
    bif (inB i.int s.str.length) then
      bif (!(bif (bif (geI (byteAt s.str i.int.toNat) 97) then (leI (byteAt s.str i.int.toNat) 122) else false) then true else (bif (gtI i.int 0) then (bif (bif (bif (geI (byteAt s.str i.int.toNat) 48) then (leI (byteAt s.str i.int.toNat) 57) else false) then true else ((byteAt s.str i.int.toNat) == (45 : Int))) then true else ((byteAt s.str i.int.toNat) == (95 : Int))) else false))) then
        some (0, [D.b false])
      else
        rec [s, D.i (IntKind.i64.wrap (i.int + (1 : Int)))]
    else
      none
  else
    some (1, [])
def c_kit_IsKey_0 (K : Nat) : Cut := { sh := { sl := [(0, .d 9 true), (3, .d 3 true)], ob := [] }, kept := [], outs := [(.ret, { sl := [(2, .d 4 true)], ob := [] }), (.exit 0, { sl := [], ob := [] })], f := fun ds => fixN (b_kit_IsKey_0 K) K ds }
def f_kit_IsKey (K : Nat) (s : D) : Option (List D) :=
  (fixN (b_kit_IsKey_0 K) K [s, D.i 0]).bind fun t1 =>
  bif (t1.1.beq 0) then
    some [D.nth t1.2 0]
  else
    some [D.b (bif (!(s.str == ([] : List UInt8))) then (leI (s.str.length : Int) 40) else false)]
def e_kit_IsKey (K : Nat) : Entry := { n := 1, sh := { sl := [(0, .d 9 false)], ob := [] }, kept := [], rs := [{ sl := [(0, .d 4 true)], ob := [] }], f := fun ds => f_kit_IsKey K (D.nth ds 0), tot := none }
def T_kit_IsKey (K : Nat) : Tbl := { T0 with ents := entsOf [], cuts := lk [(0, c_kit_IsKey_0 K)] }
theorem q_kit_IsKey_0 (K : Nat) (rec : List D → Option (Nat × List D)) (ds : List D) : evLoop (T_kit_IsKey K) 48 (sub (codeOf Try.f97) [1, 0, 1, 0, 0]) .go (c_kit_IsKey_0 K) rec ds = b_kit_IsKey_0 K rec ds := by kernel_rfl
theorem k_kit_IsKey_0 (K : Nat) : CutOK Try.prog (T_kit_IsKey K) 48 (sub (codeOf Try.f97) [1, 0, 1, 0]) (c_kit_IsKey_0 K) :=
  loop_thm (T := T_kit_IsKey K) (hT_of hT0 rfl rfl rfl) (hes_ok (T0 := T0) (T := T_kit_IsKey K) rfl rfl (trivial : FAll Try.prog T0 [])) (by kernel_rfl) rfl rfl rfl (cutsOK_none (by rfl)) rfl (q_kit_IsKey_0 K)
theorem q_kit_IsKey (K : Nat) (ds : List D) : evFn (T_kit_IsKey K) Try.f97 (.seq .go (.seq (.seq .go (.blk (.cut 0))) .go)) (e_kit_IsKey K) ds = (e_kit_IsKey K).f ds := by kernel_rfl
theorem ok_kit_IsKey (K : Nat) : FnOK Try.prog T0 97 (e_kit_IsKey K) :=
  fn_thm (T0 := T0) (T := T_kit_IsKey K) rfl (hT_of hT0 rfl rfl rfl) (hes_ok (T0 := T0) (T := T_kit_IsKey K) rfl rfl (trivial : FAll Try.prog T0 [])) Try.func97 (by decide) rfl (Nat.le_of_ble_eq_true rfl) rfl rfl rfl (tot_none rfl) (cutsOK_list (l := [(0, sub (codeOf Try.f97) [1, 0, 1, 0])]) (by kernel_rfl) ⟨cut_one (u := c_kit_IsKey_0 K) rfl (k_kit_IsKey_0 K), trivial⟩) (q_kit_IsKey K)
/-! ### 179 gatewarden/token.signerFault$1 -/
def p_token_signerFault_1 (o o0 : D) : List D := [D.b (((o.at' 0).str) == ((o0.at' 0).str)), o0]
def e_token_signerFault_1 (K : Nat) : Entry := { n := 2, sh := { sl := [(0, .d 103 false), (1, .ptr 103 0 [])], ob := [(0, .box 103 (.d 103 false))] }, kept := [0], rs := [{ sl := [(0, .d 4 true)], ob := [(0, .box 103 (.d 103 true))] }], f := fun ds => some (p_token_signerFault_1 (D.nth ds 0) (D.nth ds 1)), tot := some fun ds => p_token_signerFault_1 (D.nth ds 0) (D.nth ds 1) }
def T_token_signerFault_1 (K : Nat) : Tbl := { T0 with frz := fun s => memN [2] s, ents := entsOf [], cuts := lk [] }
theorem q_token_signerFault_1 (K : Nat) (ds : List D) : evFn (T_token_signerFault_1 K) Try.f179 .go (e_token_signerFault_1 K) ds = (e_token_signerFault_1 K).f ds := by kernel_rfl
theorem ok_token_signerFault_1 (K : Nat) : FnOK Try.prog T0 179 (e_token_signerFault_1 K) :=
  fn_thm (T0 := T0) (T := T_token_signerFault_1 K) rfl (hT_of hT0 rfl rfl rfl) (hes_ok (T0 := T0) (T := T_token_signerFault_1 K) rfl rfl (trivial : FAll Try.prog T0 [])) Try.func179 (by decide) rfl (Nat.le_of_ble_eq_true rfl) rfl rfl rfl (tot_some rfl fun _ => rfl) (cutsOK_none (by rfl)) (q_token_signerFault_1 K)
/-! ### 151 slices.IndexFunc[[]gatewarden/api.Signer,gatewarden/api.Signer] -/
def b_slices_IndexFunc_api_Signer_0 (K : Nat) (rec : List D → Option (Nat × List D)) (ds : List D) : Option (Nat × List D) :=
  let s := D.nth ds 0
  let s7 := D.nth ds 1
  let s8 := D.nth ds 2
  let o0 := D.nth ds 3
  bif (ltI s8.int s7.int) then
    bif (inB s8.int s.list.length) then
      bif (D.nth (p_token_signerFault_1 (D.nth s.list s8.int.toNat) o0) 0).bool then
        some (0, [s8, o0])
      else
        rec [s, s7, D.i (IntKind.i64.wrap (s8.int + (1 : Int))), o0]
    else
      none
  else
    some (1, [o0])
def c_slices_IndexFunc_api_Signer_0 (K : Nat) : Cut := { sh := { sl := [(0, .d 93 false), (1, .fn 179 [.ptr 103 0 []]), (7, .d 3 true), (8, .d 3 true)], ob := [(0, .box 103 (.d 103 true))] }, kept := [0], outs := [(.ret, { sl := [(4, .d 3 true)], ob := [(0, .box 103 (.d 103 true))] }), (.exit 0, { sl := [], ob := [(0, .box 103 (.d 103 true))] })], f := fun ds => fixN (b_slices_IndexFunc_api_Signer_0 K) K ds }
def f_slices_IndexFunc_api_Signer (K : Nat) (s o0 : D) : Option (List D) :=
  (fixN (b_slices_IndexFunc_api_Signer_0 K) K [s, D.i (s.list.length : Int), D.i 0, o0]).bind fun t1 =>
  bif (t1.1.beq 0) then
    some [D.nth t1.2 0, D.nth t1.2 1]
  else
    some [D.i (-1), D.nth t1.2 0]
def e_slices_IndexFunc_api_Signer (K : Nat) : Entry := { n := 2, sh := { sl := [(0, .d 93 false), (1, .fn 179 [.ptr 103 0 []])], ob := [(0, .box 103 (.d 103 false))] }, kept := [0], rs := [{ sl := [(0, .d 3 true)], ob := [(0, .box 103 (.d 103 true))] }], f := fun ds => f_slices_IndexFunc_api_Signer K (D.nth ds 0) (D.nth ds 1), tot := none }
def T_slices_IndexFunc_api_Signer (K : Nat) : Tbl := { T0 with ents := entsOf [(179, e_token_signerFault_1 K)], cuts := lk [(0, c_slices_IndexFunc_api_Signer_0 K)] }
theorem q_slices_IndexFunc_api_Signer_0 (K : Nat) (rec : List D → Option (Nat × List D)) (ds : List D) : evLoop (T_slices_IndexFunc_api_Signer K) 19 (sub (codeOf Try.f151) [1, 0, 1, 0, 0]) .go (c_slices_IndexFunc_api_Signer_0 K) rec ds = b_slices_IndexFunc_api_Signer_0 K rec ds := by kernel_rfl
theorem k_slices_IndexFunc_api_Signer_0 (K : Nat) : CutOK Try.prog (T_slices_IndexFunc_api_Signer K) 19 (sub (codeOf Try.f151) [1, 0, 1, 0]) (c_slices_IndexFunc_api_Signer_0 K) :=
  loop_thm (T := T_slices_IndexFunc_api_Signer K) (hT_of hT0 rfl rfl rfl) (hes_ok (T0 := T0) (T := T_slices_IndexFunc_api_Signer K) rfl rfl (⟨ok_token_signerFault_1 K, trivial⟩ : FAll Try.prog T0 [(179, e_token_signerFault_1 K)])) (by kernel_rfl) rfl rfl rfl (cutsOK_none (by rfl)) rfl (q_slices_IndexFunc_api_Signer_0 K)
theorem q_slices_IndexFunc_api_Signer (K : Nat) (ds : List D) : evFn (T_slices_IndexFunc_api_Signer K) Try.f151 (.seq .go (.seq (.seq .go (.blk (.cut 0))) .go)) (e_slices_IndexFunc_api_Signer K) ds = (e_slices_IndexFunc_api_Signer K).f ds := by kernel_rfl
theorem ok_slices_IndexFunc_api_Signer (K : Nat) : FnOK Try.prog T0 151 (e_slices_IndexFunc_api_Signer K) :=
  fn_thm (T0 := T0) (T := T_slices_IndexFunc_api_Signer K) rfl (hT_of hT0 rfl rfl rfl) (hes_ok (T0 := T0) (T := T_slices_IndexFunc_api_Signer K) rfl rfl (⟨ok_token_signerFault_1 K, trivial⟩ : FAll Try.prog T0 [(179, e_token_signerFault_1 K)])) Try.func151 (by decide) rfl (Nat.le_of_ble_eq_true rfl) rfl rfl rfl (tot_none rfl) (cutsOK_list (l := [(0, sub (codeOf Try.f151) [1, 0, 1, 0])]) (by kernel_rfl) ⟨cut_one (u := c_slices_IndexFunc_api_Signer_0 K) rfl (k_slices_IndexFunc_api_Signer_0 K), trivial⟩) (q_slices_IndexFunc_api_Signer K)
/-! ### 117 slices.ContainsFunc[[]gatewarden/api.Signer,gatewarden/api.Signer] -/
def f_slices_ContainsFunc_api_Signer (K : Nat) (s o0 : D) : Option (List D) :=
  (f_slices_IndexFunc_api_Signer K s o0).bind fun t1 =>
  some [D.b (geI ((D.nth t1 0).int) 0), D.nth t1 1]
def e_slices_ContainsFunc_api_Signer (K : Nat) : Entry := { n := 2, sh := { sl := [(0, .d 93 false), (1, .fn 179 [.ptr 103 0 []])], ob := [(0, .box 103 (.d 103 false))] }, kept := [0], rs := [{ sl := [(0, .d 4 true)], ob := [(0, .box 103 (.d 103 true))] }], f := fun ds => f_slices_ContainsFunc_api_Signer K (D.nth ds 0) (D.nth ds 1), tot := none }
def T_slices_ContainsFunc_api_Signer (K : Nat) : Tbl := { T0 with ents := entsOf [(151, e_slices_IndexFunc_api_Signer K)], cuts := lk [] }
theorem q_slices_ContainsFunc_api_Signer (K : Nat) (ds : List D) : evFn (T_slices_ContainsFunc_api_Signer K) Try.f117 .go (e_slices_ContainsFunc_api_Signer K) ds = (e_slices_ContainsFunc_api_Signer K).f ds := by kernel_rfl
theorem ok_slices_ContainsFunc_api_Signer (K : Nat) : FnOK Try.prog T0 117 (e_slices_ContainsFunc_api_Signer K) :=
  fn_thm (T0 := T0) (T := T_slices_ContainsFunc_api_Signer K) rfl (hT_of hT0 rfl rfl rfl) (hes_ok (T0 := T0) (T := T_slices_ContainsFunc_api_Signer K) rfl rfl (⟨ok_slices_IndexFunc_api_Signer K, trivial⟩ : FAll Try.prog T0 [(151, e_slices_IndexFunc_api_Signer K)])) Try.func117 (by decide) rfl (Nat.le_of_ble_eq_true rfl) rfl rfl rfl (tot_none rfl) (cutsOK_none (by rfl)) (q_slices_ContainsFunc_api_Signer K)
/-! ### 150 gatewarden/token.secretFault -/
def b_token_secretFault_0 (K : Nat) (rec : List D → Option (Nat × List D)) (ds : List D) : Option (Nat × List D) :=
  let s := D.nth ds 0
  let s5 := D.nth ds 1
  let s6 := D.nth ds 2
  bif (ltI s6.int s5.int) then
    bif (inB s6.int s.str.length) then
      bif ((!(!(ltI (byteAt s.str s6.int.toNat) 33))) || (inB s6.int s.str.length)) then
        bif (bif (ltI (byteAt s.str s6.int.toNat) 33) then true else (gtI (byteAt s.str s6.int.toNat) 126)) then
          some (0, [D.i 3])
        else
          rec [s, s5, D.i (IntKind.i64.wrap (s6.int + (1 : Int)))]
      else
        none
    else
      none
  else
    some (1, [])
def c_token_secretFault_0 (K : Nat) : Cut := { sh := { sl := [(0, .d 9 true), (5, .d 3 true), (6, .d 3 true)], ob := [] }, kept := [], outs := [(.ret, { sl := [(2, .d 30 true)], ob := [] }), (.exit 0, { sl := [], ob := [] })], f := fun ds => fixN (b_token_secretFault_0 K) K ds }
def f_token_secretFault (K : Nat) (s : D) : Option (List D) :=
  (fixN (b_token_secretFault_0 K) K [s, D.i (s.str.length : Int), D.i 0]).bind fun t1 =>
  bif (t1.1.beq 0) then
    some [D.nth t1.2 0]
  else
    bif (s.str == ([] : List UInt8)) then
      some [D.i 3]
    else
      bif (gtI (s.str.length : Int) 100) then
        some [D.i 2]
      else
        some [D.i 0]
def e_token_secretFault (K : Nat) : Entry := { n := 1, sh := { sl := [(0, .d 9 false)], ob := [] }, kept := [], rs := [{ sl := [(0, .d 30 true)], ob := [] }], f := fun ds => f_token_secretFault K (D.nth ds 0), tot := none }
def T_token_secretFault (K : Nat) : Tbl := { T0 with ents := entsOf [], cuts := lk [(0, c_token_secretFault_0 K)] }
theorem q_token_secretFault_0 (K : Nat) (rec : List D → Option (Nat × List D)) (ds : List D) : evLoop (T_token_secretFault K) 25 (sub (codeOf Try.f150) [1, 0, 1, 0, 0]) .go (c_token_secretFault_0 K) rec ds = b_token_secretFault_0 K rec ds := by kernel_rfl
theorem k_token_secretFault_0 (K : Nat) : CutOK Try.prog (T_token_secretFault K) 25 (sub (codeOf Try.f150) [1, 0, 1, 0]) (c_token_secretFault_0 K) :=
  loop_thm (T := T_token_secretFault K) (hT_of hT0 rfl rfl rfl) (hes_ok (T0 := T0) (T := T_token_secretFault K) rfl rfl (trivial : FAll Try.prog T0 [])) (by kernel_rfl) rfl rfl rfl (cutsOK_none (by rfl)) rfl (q_token_secretFault_0 K)
theorem q_token_secretFault (K : Nat) (ds : List D) : evFn (T_token_secretFault K) Try.f150 (.seq .go (.seq (.seq .go (.blk (.cut 0))) .go)) (e_token_secretFault K) ds = (e_token_secretFault K).f ds := by kernel_rfl
theorem ok_token_secretFault (K : Nat) : FnOK Try.prog T0 150 (e_token_secretFault K) :=
  fn_thm (T0 := T0) (T := T_token_secretFault K) rfl (hT_of hT0 rfl rfl rfl) (hes_ok (T0 := T0) (T := T_token_secretFault K) rfl rfl (trivial : FAll Try.prog T0 [])) Try.func150 (by decide) rfl (Nat.le_of_ble_eq_true rfl) rfl rfl rfl (tot_none rfl) (cutsOK_list (l := [(0, sub (codeOf Try.f150) [1, 0, 1, 0])]) (by kernel_rfl) ⟨cut_one (u := c_token_secretFault_0 K) rfl (k_token_secretFault_0 K), trivial⟩) (q_token_secretFault K)
/-! ### 78 gatewarden/kit.Outside -/
def p_kit_Outside (n low high : D) : List D := [D.b (bif (ltI n.int low.int) then true else (gtI n.int high.int))]
def e_kit_Outside (K : Nat) : Entry := { n := 3, sh := { sl := [(0, .d 3 false), (1, .d 3 false), (2, .d 3 false)], ob := [] }, kept := [], rs := [{ sl := [(0, .d 4 true)], ob := [] }], f := fun ds => some (p_kit_Outside (D.nth ds 0) (D.nth ds 1) (D.nth ds 2)), tot := some fun ds => p_kit_Outside (D.nth ds 0) (D.nth ds 1) (D.nth ds 2) }
def T_kit_Outside (K : Nat) : Tbl := { T0 with ents := entsOf [], cuts := lk [] }
theorem q_kit_Outside (K : Nat) (ds : List D) : evFn (T_kit_Outside K) Try.f78 .go (e_kit_Outside K) ds = (e_kit_Outside K).f ds := by kernel_rfl
theorem ok_kit_Outside (K : Nat) : FnOK Try.prog T0 78 (e_kit_Outside K) :=
  fn_thm (T0 := T0) (T := T_kit_Outside K) rfl (hT_of hT0 rfl rfl rfl) (hes_ok (T0 := T0) (T := T_kit_Outside K) rfl rfl (trivial : FAll Try.prog T0 [])) Try.func78 (by decide) rfl (Nat.le_of_ble_eq_true rfl) rfl rfl rfl (tot_some rfl fun _ => rfl) (cutsOK_none (by rfl)) (q_kit_Outside K)
/-! ### 163 gatewarden/token.signerFault -/
def f_token_signerFault (K : Nat) (l i : D) : Option (List D) :=
  bif (inB i.int l.list.length) then
    (f_kit_IsKey K ((D.nth l.list i.int.toNat).at' 0)).bind fun t1 =>
    bif (!((D.nth t1 0).bool)) then
      some [D.i 5]
    else
      bif (inB i.int (l.list.length + 1)) then
        (f_slices_ContainsFunc_api_Signer K (D.n (l.list.take i.int.toNat)) (D.nth l.list i.int.toNat)).bind fun t2 =>
        bif (D.nth t2 0).bool then
          some [D.i 6]
        else
          (f_token_secretFault K ((D.nth t2 1).at' 1)).bind fun t3 =>
          bif (((D.nth t3 0).int) != (0 : Int)) then
            some [D.nth t3 0]
          else
            bif (bif (bif (D.nth (p_kit_Outside ((D.nth t2 1).at' 2) (D.i 0) ((D.nth t2 1).at' 3)) 0).bool then true else (gtI (((D.nth t2 1).at' 3).int) (((D.nth t2 1).at' 4).int))) then true else (gtI (((D.nth t2 1).at' 4).int) 345686400000)) then
              some [D.i 1]
            else
              bif ((!(gtI i.int 0)) || (inB (IntKind.i64.wrap (i.int - (1 : Int))) l.list.length)) then
                bif (bif (gtI i.int 0) then (ltI (((D.nth t2 1).at' 2).int) (((D.nth l.list ((IntKind.i64.wrap (i.int - (1 : Int))).toNat)).at' 2).int)) else false) then
                  some [D.i 7]
                else
                  some [D.i 0]
              else
                none
      else
        none
  else
    none
def e_token_signerFault (K : Nat) : Entry := { n := 2, sh := { sl := [(0, .d 93 false), (1, .d 3 false)], ob := [] }, kept := [], rs := [{ sl := [(0, .d 30 true)], ob := [] }], f := fun ds => f_token_signerFault K (D.nth ds 0) (D.nth ds 1), tot := none }
def T_token_signerFault (K : Nat) : Tbl := { T0 with ents := entsOf [(97, e_kit_IsKey K), (117, e_slices_ContainsFunc_api_Signer K), (150, e_token_secretFault K), (78, e_kit_Outside K)], cuts := lk [] }
theorem q_token_signerFault (K : Nat) (ds : List D) : evFn (T_token_signerFault K) Try.f163 .go (e_token_signerFault K) ds = (e_token_signerFault K).f ds := by kernel_rfl
theorem ok_token_signerFault (K : Nat) : FnOK Try.prog T0 163 (e_token_signerFault K) :=
  fn_thm (T0 := T0) (T := T_token_signerFault K) rfl (hT_of hT0 rfl rfl rfl) (hes_ok (T0 := T0) (T := T_token_signerFault K) rfl rfl (⟨ok_kit_IsKey K, ok_slices_ContainsFunc_api_Signer K, ok_token_secretFault K, ok_kit_Outside K, trivial⟩ : FAll Try.prog T0 [(97, e_kit_IsKey K), (117, e_slices_ContainsFunc_api_Signer K), (150, e_token_secretFault K), (78, e_kit_Outside K)])) Try.func163 (by decide) rfl (Nat.le_of_ble_eq_true rfl) rfl rfl rfl (tot_none rfl) (cutsOK_none (by rfl)) (q_token_signerFault K)
/-! ### 148 gatewarden/token.CheckSigners -/
def b_token_CheckSigners_0 (K : Nat) (rec : List D → Option (Nat × List D)) (ds : List D) : Option (Nat × List D) :=
  let l := D.nth ds 0
  let s9 := D.nth ds 1
  let s10 := D.nth ds 2
  bif (ltI s10.int s9.int) then
    (f_token_signerFault K l s10).bind fun t1 =>
    bif (((D.nth t1 0).int) != (0 : Int)) then
      some (0, [D.nth t1 0])
    else
      rec [l, s9, D.i (IntKind.i64.wrap (s10.int + (1 : Int)))]
  else
    some (1, [])
def c_token_CheckSigners_0 (K : Nat) : Cut := { sh := { sl := [(0, .d 93 false), (9, .d 3 true), (10, .d 3 true)], ob := [] }, kept := [], outs := [(.ret, { sl := [(2, .d 30 true)], ob := [] }), (.exit 0, { sl := [], ob := [] })], f := fun ds => fixN (b_token_CheckSigners_0 K) K ds }
def f_token_CheckSigners (K : Nat) (l : D) : Option (List D) :=
  bif (gtI (l.list.length : Int) 50) then
    some [D.i 2]
  else
    (fixN (b_token_CheckSigners_0 K) K [l, D.i (l.list.length : Int), D.i 0]).bind fun t1 =>
    bif (t1.1.beq 0) then
      some [D.nth t1.2 0]
    else
      some [D.i 0]
def e_token_CheckSigners (K : Nat) : Entry := { n := 1, sh := { sl := [(0, .d 93 false)], ob := [] }, kept := [], rs := [{ sl := [(0, .d 30 true)], ob := [] }], f := fun ds => f_token_CheckSigners K (D.nth ds 0), tot := none }
def T_token_CheckSigners (K : Nat) : Tbl := { T0 with ents := entsOf [(163, e_token_signerFault K)], cuts := lk [(0, c_token_CheckSigners_0 K)] }
theorem q_token_CheckSigners_0 (K : Nat) (rec : List D → Option (Nat × List D)) (ds : List D) : evLoop (T_token_CheckSigners K) 20 (sub (codeOf Try.f148) [1, 1, 0, 1, 0, 0]) .go (c_token_CheckSigners_0 K) rec ds = b_token_CheckSigners_0 K rec ds := by kernel_rfl
theorem k_token_CheckSigners_0 (K : Nat) : CutOK Try.prog (T_token_CheckSigners K) 20 (sub (codeOf Try.f148) [1, 1, 0, 1, 0]) (c_token_CheckSigners_0 K) :=
  loop_thm (T := T_token_CheckSigners K) (hT_of hT0 rfl rfl rfl) (hes_ok (T0 := T0) (T := T_token_CheckSigners K) rfl rfl (⟨ok_token_signerFault K, trivial⟩ : FAll Try.prog T0 [(163, e_token_signerFault K)])) (by kernel_rfl) rfl rfl rfl (cutsOK_none (by rfl)) rfl (q_token_CheckSigners_0 K)
theorem q_token_CheckSigners (K : Nat) (ds : List D) : evFn (T_token_CheckSigners K) Try.f148 (.seq .go (.seq .go (.seq (.seq .go (.blk (.cut 0))) .go))) (e_token_CheckSigners K) ds = (e_token_CheckSigners K).f ds := by kernel_rfl
theorem ok_token_CheckSigners (K : Nat) : FnOK Try.prog T0 148 (e_token_CheckSigners K) :=
  fn_thm (T0 := T0) (T := T_token_CheckSigners K) rfl (hT_of hT0 rfl rfl rfl) (hes_ok (T0 := T0) (T := T_token_CheckSigners K) rfl rfl (⟨ok_token_signerFault K, trivial⟩ : FAll Try.prog T0 [(163, e_token_signerFault K)])) Try.func148 (by decide) rfl (Nat.le_of_ble_eq_true rfl) rfl rfl rfl (tot_none rfl) (cutsOK_list (l := [(0, sub (codeOf Try.f148) [1, 1, 0, 1, 0])]) (by kernel_rfl) ⟨cut_one (u := c_token_CheckSigners_0 K) rfl (k_token_CheckSigners_0 K), trivial⟩) (q_token_CheckSigners K)
/-! ### 149 gatewarden/token.rotateFault$1 -/
def p_token_rotateFault_1 (s s1 : D) : List D := [D.b (((s.at' 0).str) == s1.str)]
def e_token_rotateFault_1 (K : Nat) : Entry := { n := 2, sh := { sl := [(0, .d 103 false), (1, .bx 9 false (.d 9 false))], ob := [] }, kept := [], rs := [{ sl := [(0, .d 4 true)], ob := [] }], f := fun ds => some (p_token_rotateFault_1 (D.nth ds 0) (D.nth ds 1)), tot := some fun ds => p_token_rotateFault_1 (D.nth ds 0) (D.nth ds 1) }
def T_token_rotateFault_1 (K : Nat) : Tbl := { T0 with frz := fun s => memN [2] s, ents := entsOf [], cuts := lk [] }
theorem q_token_rotateFault_1 (K : Nat) (ds : List D) : evFn (T_token_rotateFault_1 K) Try.f149 .go (e_token_rotateFault_1 K) ds = (e_token_rotateFault_1 K).f ds := by kernel_rfl
theorem ok_token_rotateFault_1 (K : Nat) : FnOK Try.prog T0 149 (e_token_rotateFault_1 K) :=
  fn_thm (T0 := T0) (T := T_token_rotateFault_1 K) rfl (hT_of hT0 rfl rfl rfl) (hes_ok (T0 := T0) (T := T_token_rotateFault_1 K) rfl rfl (trivial : FAll Try.prog T0 [])) Try.func149 (by decide) rfl (Nat.le_of_ble_eq_true rfl) rfl rfl rfl (tot_some rfl fun _ => rfl) (cutsOK_none (by rfl)) (q_token_rotateFault_1 K)
/-! ### 151 slices.IndexFunc[[]gatewarden/api.Signer,gatewarden/api.Signer] -/
def b_slices_IndexFunc_api_Signera_0 (K : Nat) (rec : List D → Option (Nat × List D)) (ds : List D) : Option (Nat × List D) :=
  let s := D.nth ds 0
  let f_0 := D.nth ds 1
  let s7 := D.nth ds 2
  let s8 := D.nth ds 3
  bif (ltI s8.int s7.int) then
    bif (inB s8.int s.list.length) then
      bif (D.nth (p_token_rotateFault_1 (D.nth s.list s8.int.toNat) f_0) 0).bool then
        some (0, [s8])
      else
        rec [s, f_0, s7, D.i (IntKind.i64.wrap (s8.int + (1 : Int)))]
    else
      none
  else
    some (1, [])
def c_slices_IndexFunc_api_Signera_0 (K : Nat) : Cut := { sh := { sl := [(0, .d 93 false), (1, .fn 149 [.bx 9 false (.d 9 true)]), (7, .d 3 true), (8, .d 3 true)], ob := [] }, kept := [], outs := [(.ret, { sl := [(4, .d 3 true)], ob := [] }), (.exit 0, { sl := [], ob := [] })], f := fun ds => fixN (b_slices_IndexFunc_api_Signera_0 K) K ds }
def f_slices_IndexFunc_api_Signera (K : Nat) (s f_0 : D) : Option (List D) :=
  (fixN (b_slices_IndexFunc_api_Signera_0 K) K [s, f_0, D.i (s.list.length : Int), D.i 0]).bind fun t1 =>
  bif (t1.1.beq 0) then
    some [D.nth t1.2 0]
  else
    some [D.i (-1)]
def e_slices_IndexFunc_api_Signera (K : Nat) : Entry := { n := 2, sh := { sl := [(0, .d 93 false), (1, .fn 149 [.bx 9 false (.d 9 false)])], ob := [] }, kept := [], rs := [{ sl := [(0, .d 3 true)], ob := [] }], f := fun ds => f_slices_IndexFunc_api_Signera K (D.nth ds 0) (D.nth ds 1), tot := none }
def T_slices_IndexFunc_api_Signera (K : Nat) : Tbl := { T0 with ents := entsOf [(149, e_token_rotateFault_1 K)], cuts := lk [(0, c_slices_IndexFunc_api_Signera_0 K)] }
theorem q_slices_IndexFunc_api_Signera_0 (K : Nat) (rec : List D → Option (Nat × List D)) (ds : List D) : evLoop (T_slices_IndexFunc_api_Signera K) 19 (sub (codeOf Try.f151) [1, 0, 1, 0, 0]) .go (c_slices_IndexFunc_api_Signera_0 K) rec ds = b_slices_IndexFunc_api_Signera_0 K rec ds := by kernel_rfl
theorem k_slices_IndexFunc_api_Signera_0 (K : Nat) : CutOK Try.prog (T_slices_IndexFunc_api_Signera K) 19 (sub (codeOf Try.f151) [1, 0, 1, 0]) (c_slices_IndexFunc_api_Signera_0 K) :=
  loop_thm (T := T_slices_IndexFunc_api_Signera K) (hT_of hT0 rfl rfl rfl) (hes_ok (T0 := T0) (T := T_slices_IndexFunc_api_Signera K) rfl rfl (⟨ok_token_rotateFault_1 K, trivial⟩ : FAll Try.prog T0 [(149, e_token_rotateFault_1 K)])) (by kernel_rfl) rfl rfl rfl (cutsOK_none (by rfl)) rfl (q_slices_IndexFunc_api_Signera_0 K)
theorem q_slices_IndexFunc_api_Signera (K : Nat) (ds : List D) : evFn (T_slices_IndexFunc_api_Signera K) Try.f151 (.seq .go (.seq (.seq .go (.blk (.cut 0))) .go)) (e_slices_IndexFunc_api_Signera K) ds = (e_slices_IndexFunc_api_Signera K).f ds := by kernel_rfl
theorem ok_slices_IndexFunc_api_Signera (K : Nat) : FnOK Try.prog T0 151 (e_slices_IndexFunc_api_Signera K) :=
  fn_thm (T0 := T0) (T := T_slices_IndexFunc_api_Signera K) rfl (hT_of hT0 rfl rfl rfl) (hes_ok (T0 := T0) (T := T_slices_IndexFunc_api_Signera K) rfl rfl (⟨ok_token_rotateFault_1 K, trivial⟩ : FAll Try.prog T0 [(149, e_token_rotateFault_1 K)])) Try.func151 (by decide) rfl (Nat.le_of_ble_eq_true rfl) rfl rfl rfl (tot_none rfl) (cutsOK_list (l := [(0, sub (codeOf Try.f151) [1, 0, 1, 0])]) (by kernel_rfl) ⟨cut_one (u := c_slices_IndexFunc_api_Signera_0 K) rfl (k_slices_IndexFunc_api_Signera_0 K), trivial⟩) (q_slices_IndexFunc_api_Signera K)
/-! ### 117 slices.ContainsFunc[[]gatewarden/api.Signer,gatewarden/api.Signer] -/
def f_slices_ContainsFunc_api_Signera (K : Nat) (s f_0 : D) : Option (List D) :=
  (f_slices_IndexFunc_api_Signera K s f_0).bind fun t1 =>
  some [D.b (geI ((D.nth t1 0).int) 0)]
def e_slices_ContainsFunc_api_Signera (K : Nat) : Entry := { n := 2, sh := { sl := [(0, .d 93 false), (1, .fn 149 [.bx 9 false (.d 9 false)])], ob := [] }, kept := [], rs := [{ sl := [(0, .d 4 true)], ob := [] }], f := fun ds => f_slices_ContainsFunc_api_Signera K (D.nth ds 0) (D.nth ds 1), tot := none }
def T_slices_ContainsFunc_api_Signera (K : Nat) : Tbl := { T0 with ents := entsOf [(151, e_slices_IndexFunc_api_Signera K)], cuts := lk [] }
theorem q_slices_ContainsFunc_api_Signera (K : Nat) (ds : List D) : evFn (T_slices_ContainsFunc_api_Signera K) Try.f117 .go (e_slices_ContainsFunc_api_Signera K) ds = (e_slices_ContainsFunc_api_Signera K).f ds := by kernel_rfl
theorem ok_slices_ContainsFunc_api_Signera (K : Nat) : FnOK Try.prog T0 117 (e_slices_ContainsFunc_api_Signera K) :=
  fn_thm (T0 := T0) (T := T_slices_ContainsFunc_api_Signera K) rfl (hT_of hT0 rfl rfl rfl) (hes_ok (T0 := T0) (T := T_slices_ContainsFunc_api_Signera K) rfl rfl (⟨ok_slices_IndexFunc_api_Signera K, trivial⟩ : FAll Try.prog T0 [(151, e_slices_IndexFunc_api_Signera K)])) Try.func117 (by decide) rfl (Nat.le_of_ble_eq_true rfl) rfl rfl rfl (tot_none rfl) (cutsOK_none (by rfl)) (q_slices_ContainsFunc_api_Signera K)
/-! ### 98 gatewarden/kit.IsMoment -/
def p_kit_IsMoment (n : D) : List D := [D.b (bif (geI n.int 0) then (ltI n.int 345686400000) else false)]
def e_kit_IsMoment (K : Nat) : Entry := { n := 1, sh := { sl := [(0, .d 3 false)], ob := [] }, kept := [], rs := [{ sl := [(0, .d 4 true)], ob := [] }], f := fun ds => some (p_kit_IsMoment (D.nth ds 0)), tot := some fun ds => p_kit_IsMoment (D.nth ds 0) }
def T_kit_IsMoment (K : Nat) : Tbl := { T0 with ents := entsOf [], cuts := lk [] }
theorem q_kit_IsMoment (K : Nat) (ds : List D) : evFn (T_kit_IsMoment K) Try.f98 .go (e_kit_IsMoment K) ds = (e_kit_IsMoment K).f ds := by kernel_rfl
theorem ok_kit_IsMoment (K : Nat) : FnOK Try.prog T0 98 (e_kit_IsMoment K) :=
  fn_thm (T0 := T0) (T := T_kit_IsMoment K) rfl (hT_of hT0 rfl rfl rfl) (hes_ok (T0 := T0) (T := T_kit_IsMoment K) rfl rfl (trivial : FAll Try.prog T0 [])) Try.func98 (by decide) rfl (Nat.le_of_ble_eq_true rfl) rfl rfl rfl (tot_some rfl fun _ => rfl) (cutsOK_none (by rfl)) (q_kit_IsMoment K)
/-! ### 115 gatewarden/token.rotateFault -/
def f_token_rotateFault (K : Nat) (l id secret vat long life : D) : Option (List D) :=
  (f_token_CheckSigners K l).bind fun t1 =>
  bif (((D.nth t1 0).int) != (0 : Int)) then
    some [D.nth t1 0]
  else
    (f_kit_IsKey K id).bind fun t2 =>
    bif (!((D.nth t2 0).bool)) then
      some [D.i 5]
    else
      (f_slices_ContainsFunc_api_Signera K l id).bind fun t3 =>
      bif (D.nth t3 0).bool then
        some [D.i 6]
      else
        (f_token_secretFault K secret).bind fun t4 =>
        bif (((D.nth t4 0).int) != (0 : Int)) then
          some [D.nth t4 0]
        else
          bif (bif (bif (!((D.nth (p_kit_IsMoment vat) 0).bool)) then true else (D.nth (p_kit_Outside long (D.i 1) (D.i 345686400000)) 0).bool) then true else (D.nth (p_kit_Outside life (D.i 0) (D.i 345686400000)) 0).bool) then
            some [D.i 1]
          else
            bif ((!(gtI (l.list.length : Int) 0)) || (inB (IntKind.i64.wrap ((l.list.length : Int) - (1 : Int))) l.list.length)) then
              bif (bif (gtI (l.list.length : Int) 0) then (ltI vat.int (((D.nth l.list ((IntKind.i64.wrap ((l.list.length : Int) - (1 : Int))).toNat)).at' 2).int)) else false) then
                some [D.i 7]
              else
                bif (geI (l.list.length : Int) 50) then
                  some [D.i 2]
                else
                  some [D.i 0]
            else
              none
def e_token_rotateFault (K : Nat) : Entry := { n := 6, sh := { sl := [(0, .d 93 false), (1, .d 9 false), (2, .d 9 false), (3, .d 3 false), (4, .d 3 false), (5, .d 3 false)], ob := [] }, kept := [], rs := [{ sl := [(0, .d 30 true)], ob := [] }], f := fun ds => f_token_rotateFault K (D.nth ds 0) (D.nth ds 1) (D.nth ds 2) (D.nth ds 3) (D.nth ds 4) (D.nth ds 5), tot := none }
def T_token_rotateFault (K : Nat) : Tbl := { T0 with frz := fun s => memN [7] s, ents := entsOf [(148, e_token_CheckSigners K), (97, e_kit_IsKey K), (117, e_slices_ContainsFunc_api_Signera K), (150, e_token_secretFault K), (98, e_kit_IsMoment K), (78, e_kit_Outside K)], cuts := lk [] }
theorem q_token_rotateFault (K : Nat) (ds : List D) : evFn (T_token_rotateFault K) Try.f115 .go (e_token_rotateFault K) ds = (e_token_rotateFault K).f ds := by kernel_rfl
theorem ok_token_rotateFault (K : Nat) : FnOK Try.prog T0 115 (e_token_rotateFault K) :=
  fn_thm (T0 := T0) (T := T_token_rotateFault K) rfl (hT_of hT0 rfl rfl rfl) (hes_ok (T0 := T0) (T := T_token_rotateFault K) rfl rfl (⟨ok_token_CheckSigners K, ok_kit_IsKey K, ok_slices_ContainsFunc_api_Signera K, ok_token_secretFault K, ok_kit_IsMoment K, ok_kit_Outside K, trivial⟩ : FAll Try.prog T0 [(148, e_token_CheckSigners K), (97, e_kit_IsKey K), (117, e_slices_ContainsFunc_api_Signera K), (150, e_token_secretFault K), (98, e_kit_IsMoment K), (78, e_kit_Outside K)])) Try.func115 (by decide) rfl (Nat.le_of_ble_eq_true rfl) rfl rfl rfl (tot_none rfl) (cutsOK_none (by rfl)) (q_token_rotateFault K)
/-! ### 116 slices.Clone[[]gatewarden/api.Signer,gatewarden/api.Signer] -/
def b_slices_Clone_api_Signer_0 (K : Nat) (ds : List D) : Option (Nat × List D) :=
  let s := D.nth ds 0
  bif (lim (0 + s.list.length)) then
    some (0, [D.n s.list])
  else
    none
def c_slices_Clone_api_Signer_0 (K : Nat) : Cut := { sh := { sl := [(0, .d 93 false)], ob := [] }, kept := [], outs := [(.ret, { sl := [(2, .own 93 0)], ob := [(0, .row 103 true)] })], f := b_slices_Clone_api_Signer_0 K }
def f_slices_Clone_api_Signer (K : Nat) (s : D) : Option (List D) :=
  (b_slices_Clone_api_Signer_0 K [s]).bind fun t1 =>
  some [D.n ((D.nth t1.2 0).list)]
def e_slices_Clone_api_Signer (K : Nat) : Entry := { n := 1, sh := { sl := [(0, .d 93 false)], ob := [] }, kept := [], rs := [{ sl := [(0, .own 93 0)], ob := [(0, .row 103 true)] }], f := fun ds => f_slices_Clone_api_Signer K (D.nth ds 0), tot := none }
def T_slices_Clone_api_Signer (K : Nat) : Tbl := { T0 with ents := entsOf [], cuts := lk [(0, c_slices_Clone_api_Signer_0 K)] }
theorem q_slices_Clone_api_Signer_0 (K : Nat) (ds : List D) : evPiece (T_slices_Clone_api_Signer K) 8 (sub (codeOf Try.f116) [1, 1]) .go (c_slices_Clone_api_Signer_0 K) ds = b_slices_Clone_api_Signer_0 K ds := by kernel_rfl
theorem k_slices_Clone_api_Signer_0 (K : Nat) : CutOK Try.prog (T_slices_Clone_api_Signer K) 8 (sub (codeOf Try.f116) [1]) (c_slices_Clone_api_Signer_0 K) :=
  clone_thm (T := T_slices_Clone_api_Signer K) (rest := sub (codeOf Try.f116) [1, 1]) (hT_of hT0 rfl rfl rfl) rfl (piece_thm (T := T_slices_Clone_api_Signer K) (hT_of hT0 rfl rfl rfl) (hes_ok (T0 := T0) (T := T_slices_Clone_api_Signer K) rfl rfl (trivial : FAll Try.prog T0 [])) rfl rfl rfl (cutsOK_none (by rfl)) (q_slices_Clone_api_Signer_0 K)) rfl rfl rfl (fun ds out h0 h => clone_f h0 h) rfl rfl
theorem q_slices_Clone_api_Signer (K : Nat) (ds : List D) : evFn (T_slices_Clone_api_Signer K) Try.f116 (.seq .go (.cut 0)) (e_slices_Clone_api_Signer K) ds = (e_slices_Clone_api_Signer K).f ds := by kernel_rfl
theorem ok_slices_Clone_api_Signer (K : Nat) : FnOK Try.prog T0 116 (e_slices_Clone_api_Signer K) :=
  fn_thm (T0 := T0) (T := T_slices_Clone_api_Signer K) rfl (hT_of hT0 rfl rfl rfl) (hes_ok (T0 := T0) (T := T_slices_Clone_api_Signer K) rfl rfl (trivial : FAll Try.prog T0 [])) Try.func116 (by decide) rfl (Nat.le_of_ble_eq_true rfl) rfl rfl rfl (tot_none rfl) (cutsOK_list (l := [(0, sub (codeOf Try.f116) [1])]) (by kernel_rfl) ⟨cut_one (u := c_slices_Clone_api_Signer_0 K) rfl (k_slices_Clone_api_Signer_0 K), trivial⟩) (q_slices_Clone_api_Signer K)
/-! ### 59 gatewarden/token.Rotate -/
def b_token_Rotate_0 (K : Nat) (rec : List D → Option (Nat × List D)) (ds : List D) : Option (Nat × List D) :=
  let vat := D.nth ds 0
  let s32 := D.nth ds 1
  let s33 := D.nth ds 2
  let r0 := D.nth ds 3
  bif (ltI s33.int s32.int) then
    bif (inB s33.int r0.list.length) then
      bif (inB s33.int r0.list.length) then
        rec [vat, s32, D.i (IntKind.i64.wrap (s33.int + (1 : Int))), D.n (D.setNth r0.list s33.int.toNat (D.n (D.setNth ((D.nth r0.list s33.int.toNat).list) 3 (D.i (minI (((D.nth r0.list s33.int.toNat).at' 3).int) vat.int)))))]
      else
        none
    else
      none
  else
    some (0, [D.n r0.list])
def c_token_Rotate_0 (K : Nat) : Cut := { sh := { sl := [(3, .d 3 true), (15, .own 93 0), (31, .own 93 0), (32, .d 3 true), (33, .d 3 true)], ob := [(0, .row 103 true)] }, kept := [0], outs := [(.exit 0, { sl := [], ob := [(0, .row 103 true)] })], f := fun ds => fixN (b_token_Rotate_0 K) K ds }
def f_token_Rotate (K : Nat) (l id secret vat long life : D) : Option (List D) :=
  (f_token_rotateFault K l id secret vat long life).bind fun t1 =>
  bif (((D.nth t1 0).int) != (0 : Int)) then
    some [D.nth t1 0, D.n []]
  else
    (f_slices_Clone_api_Signer K l).bind fun t2 =>
    (fixN (b_token_Rotate_0 K) K [vat, D.i (((D.nth t2 0).list).length : Int), D.i 0, D.n ((D.nth t2 0).list)]).bind fun t3 =>
    bif (lim (((D.nth t3.2 0).list).length + 1)) then
      some [D.i 0, D.n (((D.nth t3.2 0).list) ++ [D.n [id, secret, vat, D.i (minI (IntKind.i64.wrap (vat.int + long.int)) 345686400000), D.i (minI (IntKind.i64.wrap ((minI (IntKind.i64.wrap (vat.int + long.int)) 345686400000) + life.int)) 345686400000)]])]
    else
      none
def e_token_Rotate (K : Nat) : Entry := { n := 6, sh := { sl := [(0, .d 93 false), (1, .d 9 false), (2, .d 9 false), (3, .d 3 false), (4, .d 3 false), (5, .d 3 false)], ob := [] }, kept := [], rs := [{ sl := [(0, .tup [.own 93 0, .d 30 true])], ob := [(0, .row 103 true)] }], f := fun ds => f_token_Rotate K (D.nth ds 0) (D.nth ds 1) (D.nth ds 2) (D.nth ds 3) (D.nth ds 4) (D.nth ds 5), tot := none }
def T_token_Rotate (K : Nat) : Tbl := { T0 with ents := entsOf [(115, e_token_rotateFault K), (116, e_slices_Clone_api_Signer K)], cuts := lk [(0, c_token_Rotate_0 K)] }
theorem q_token_Rotate_0 (K : Nat) (rec : List D → Option (Nat × List D)) (ds : List D) : evLoop (T_token_Rotate K) 63 (sub (codeOf Try.f59) [1, 1, 1, 0, 1, 0, 0]) .go (c_token_Rotate_0 K) rec ds = b_token_Rotate_0 K rec ds := by kernel_rfl
theorem k_token_Rotate_0 (K : Nat) : CutOK Try.prog (T_token_Rotate K) 63 (sub (codeOf Try.f59) [1, 1, 1, 0, 1, 0]) (c_token_Rotate_0 K) :=
  loop_thm (T := T_token_Rotate K) (hT_of hT0 rfl rfl rfl) (hes_ok (T0 := T0) (T := T_token_Rotate K) rfl rfl (⟨ok_token_rotateFault K, ok_slices_Clone_api_Signer K, trivial⟩ : FAll Try.prog T0 [(115, e_token_rotateFault K), (116, e_slices_Clone_api_Signer K)])) (by kernel_rfl) rfl rfl rfl (cutsOK_none (by rfl)) rfl (q_token_Rotate_0 K)
theorem q_token_Rotate (K : Nat) (ds : List D) : evFn (T_token_Rotate K) Try.f59 (.seq .go (.seq .go (.seq .go (.seq (.seq .go (.blk (.cut 0))) .go)))) (e_token_Rotate K) ds = (e_token_Rotate K).f ds := by kernel_rfl
theorem ok_token_Rotate (K : Nat) : FnOK Try.prog T0 59 (e_token_Rotate K) :=
  fn_thm (T0 := T0) (T := T_token_Rotate K) rfl (hT_of hT0 rfl rfl rfl) (hes_ok (T0 := T0) (T := T_token_Rotate K) rfl rfl (⟨ok_token_rotateFault K, ok_slices_Clone_api_Signer K, trivial⟩ : FAll Try.prog T0 [(115, e_token_rotateFault K), (116, e_slices_Clone_api_Signer K)])) Try.func59 (by decide) rfl (Nat.le_of_ble_eq_true rfl) rfl rfl rfl (tot_none rfl) (cutsOK_list (l := [(0, sub (codeOf Try.f59) [1, 1, 1, 0, 1, 0])]) (by kernel_rfl) ⟨cut_one (u := c_token_Rotate_0 K) rfl (k_token_Rotate_0 K), trivial⟩) (q_token_Rotate K)
/-! ### 79 gatewarden/gateref2.in -/
def p_gateref2_in (n low high : D) : List D := [D.b (bif (leI low.int n.int) then (leI n.int high.int) else false)]
def e_gateref2_in (K : Nat) : Entry := { n := 3, sh := { sl := [(0, .d 3 false), (1, .d 3 false), (2, .d 3 false)], ob := [] }, kept := [], rs := [{ sl := [(0, .d 4 true)], ob := [] }], f := fun ds => some (p_gateref2_in (D.nth ds 0) (D.nth ds 1) (D.nth ds 2)), tot := some fun ds => p_gateref2_in (D.nth ds 0) (D.nth ds 1) (D.nth ds 2) }
def T_gateref2_in (K : Nat) : Tbl := { T0 with ents := entsOf [], cuts := lk [] }
theorem q_gateref2_in (K : Nat) (ds : List D) : evFn (T_gateref2_in K) Try.f79 .go (e_gateref2_in K) ds = (e_gateref2_in K).f ds := by kernel_rfl
theorem ok_gateref2_in (K : Nat) : FnOK Try.prog T0 79 (e_gateref2_in K) :=
  fn_thm (T0 := T0) (T := T_gateref2_in K) rfl (hT_of hT0 rfl rfl rfl) (hes_ok (T0 := T0) (T := T_gateref2_in K) rfl rfl (trivial : FAll Try.prog T0 [])) Try.func79 (by decide) rfl (Nat.le_of_ble_eq_true rfl) rfl rfl rfl (tot_some rfl fun _ => rfl) (cutsOK_none (by rfl)) (q_gateref2_in K)
/-! ### 186 internal/bytealg.IndexByteString -/
def p_bytealg_IndexByteString (x y : D) : List D := [D.i (Lib.indexByte x.str y.int.toNat.toUInt8)]
def e_bytealg_IndexByteString (K : Nat) : Entry := flat2 9 5 3 (fun ds => some (p_bytealg_IndexByteString (D.nth ds 0) (D.nth ds 1))) (some fun ds => p_bytealg_IndexByteString (D.nth ds 0) (D.nth ds 1))
theorem ok_bytealg_IndexByteString (K : Nat) : FnOK Try.prog T0 186 (e_bytealg_IndexByteString K) :=
  idxByte_ok (T := T0) Try.func186 (by kernel_rfl) (by kernel_rfl) (by kernel_rfl) (by kernel_rfl) rfl rfl rfl
/-! ### 175 internal/stringslite.IndexByte -/
def p_stringslite_IndexByte (s c : D) : List D := [D.nth (p_bytealg_IndexByteString s c) 0]
def e_stringslite_IndexByte (K : Nat) : Entry := { n := 2, sh := { sl := [(0, .d 9 false), (1, .d 5 false)], ob := [] }, kept := [], rs := [{ sl := [(0, .d 3 true)], ob := [] }], f := fun ds => some (p_stringslite_IndexByte (D.nth ds 0) (D.nth ds 1)), tot := some fun ds => p_stringslite_IndexByte (D.nth ds 0) (D.nth ds 1) }
def T_stringslite_IndexByte (K : Nat) : Tbl := { T0 with ents := entsOf [(186, e_bytealg_IndexByteString K)], cuts := lk [] }
theorem q_stringslite_IndexByte (K : Nat) (ds : List D) : evFn (T_stringslite_IndexByte K) Try.f175 .go (e_stringslite_IndexByte K) ds = (e_stringslite_IndexByte K).f ds := by kernel_rfl
theorem ok_stringslite_IndexByte (K : Nat) : FnOK Try.prog T0 175 (e_stringslite_IndexByte K) :=
  fn_thm (T0 := T0) (T := T_stringslite_IndexByte K) rfl (hT_of hT0 rfl rfl rfl) (hes_ok (T0 := T0) (T := T_stringslite_IndexByte K) rfl rfl (⟨ok_bytealg_IndexByteString K, trivial⟩ : FAll Try.prog T0 [(186, e_bytealg_IndexByteString K)])) Try.func175 (by decide) rfl (Nat.le_of_ble_eq_true rfl) rfl rfl rfl (tot_some rfl fun _ => rfl) (cutsOK_none (by rfl)) (q_stringslite_IndexByte K)
/-! ### 156 strings.IndexByte -/
def p_strings_IndexByte (s c : D) : List D := [D.nth (p_stringslite_IndexByte s c) 0]
def e_strings_IndexByte (K : Nat) : Entry := { n := 2, sh := { sl := [(0, .d 9 false), (1, .d 5 false)], ob := [] }, kept := [], rs := [{ sl := [(0, .d 3 true)], ob := [] }], f := fun ds => some (p_strings_IndexByte (D.nth ds 0) (D.nth ds 1)), tot := some fun ds => p_strings_IndexByte (D.nth ds 0) (D.nth ds 1) }
def T_strings_IndexByte (K : Nat) : Tbl := { T0 with ents := entsOf [(175, e_stringslite_IndexByte K)], cuts := lk [] }
theorem q_strings_IndexByte (K : Nat) (ds : List D) : evFn (T_strings_IndexByte K) Try.f156 .go (e_strings_IndexByte K) ds = (e_strings_IndexByte K).f ds := by kernel_rfl
theorem ok_strings_IndexByte (K : Nat) : FnOK Try.prog T0 156 (e_strings_IndexByte K) :=
  fn_thm (T0 := T0) (T := T_strings_IndexByte K) rfl (hT_of hT0 rfl rfl rfl) (hes_ok (T0 := T0) (T := T_strings_IndexByte K) rfl rfl (⟨ok_stringslite_IndexByte K, trivial⟩ : FAll Try.prog T0 [(175, e_stringslite_IndexByte K)])) Try.func156 (by decide) rfl (Nat.le_of_ble_eq_true rfl) rfl rfl rfl (tot_some rfl fun _ => rfl) (cutsOK_none (by rfl)) (q_strings_IndexByte K)
/-! ### 131 gatewarden/gateref2.only -/
def b_gateref2_only_0 (K : Nat) (rec : List D → Option (Nat × List D)) (ds : List D) : Option (Nat × List D) :=
  let s := D.nth ds 0
  let vsome := D.nth ds 1
  let s7 := D.nth ds 2
  let s8 := D.nth ds 3
  bif (ltI s8.int s7.int) then
    bif (inB s8.int s.str.length) then
      bif (ltI ((D.nth (p_strings_IndexByte vsome (D.i (byteAt s.str s8.int.toNat))) 0).int) 0) then
        some (0, [D.b false])
      else
        rec [s, vsome, s7, D.i (IntKind.i64.wrap (s8.int + (1 : Int)))]
    else
      none
  else
    some (1, [])
def c_gateref2_only_0 (K : Nat) : Cut := { sh := { sl := [(0, .d 9 true), (1, .d 9 true), (7, .d 3 true), (8, .d 3 true)], ob := [] }, kept := [], outs := [(.ret, { sl := [(4, .d 4 true)], ob := [] }), (.exit 0, { sl := [], ob := [] })], f := fun ds => fixN (b_gateref2_only_0 K) K ds }
def f_gateref2_only (K : Nat) (s vsome : D) : Option (List D) :=
  (fixN (b_gateref2_only_0 K) K [s, vsome, D.i (s.str.length : Int), D.i 0]).bind fun t1 =>
  bif (t1.1.beq 0) then
    some [D.nth t1.2 0]
  else
    some [D.b true]
def e_gateref2_only (K : Nat) : Entry := { n := 2, sh := { sl := [(0, .d 9 false), (1, .d 9 false)], ob := [] }, kept := [], rs := [{ sl := [(0, .d 4 true)], ob := [] }], f := fun ds => f_gateref2_only K (D.nth ds 0) (D.nth ds 1), tot := none }
def T_gateref2_only (K : Nat) : Tbl := { T0 with ents := entsOf [(156, e_strings_IndexByte K)], cuts := lk [(0, c_gateref2_only_0 K)] }
theorem q_gateref2_only_0 (K : Nat) (rec : List D → Option (Nat × List D)) (ds : List D) : evLoop (T_gateref2_only K) 18 (sub (codeOf Try.f131) [1, 0, 1, 0, 0]) .go (c_gateref2_only_0 K) rec ds = b_gateref2_only_0 K rec ds := by kernel_rfl
theorem k_gateref2_only_0 (K : Nat) : CutOK Try.prog (T_gateref2_only K) 18 (sub (codeOf Try.f131) [1, 0, 1, 0]) (c_gateref2_only_0 K) :=
  loop_thm (T := T_gateref2_only K) (hT_of hT0 rfl rfl rfl) (hes_ok (T0 := T0) (T := T_gateref2_only K) rfl rfl (⟨ok_strings_IndexByte K, trivial⟩ : FAll Try.prog T0 [(156, e_strings_IndexByte K)])) (by kernel_rfl) rfl rfl rfl (cutsOK_none (by rfl)) rfl (q_gateref2_only_0 K)
theorem q_gateref2_only (K : Nat) (ds : List D) : evFn (T_gateref2_only K) Try.f131 (.seq .go (.seq (.seq .go (.blk (.cut 0))) .go)) (e_gateref2_only K) ds = (e_gateref2_only K).f ds := by kernel_rfl
theorem ok_gateref2_only (K : Nat) : FnOK Try.prog T0 131 (e_gateref2_only K) :=
  fn_thm (T0 := T0) (T := T_gateref2_only K) rfl (hT_of hT0 rfl rfl rfl) (hes_ok (T0 := T0) (T := T_gateref2_only K) rfl rfl (⟨ok_strings_IndexByte K, trivial⟩ : FAll Try.prog T0 [(156, e_strings_IndexByte K)])) Try.func131 (by decide) rfl (Nat.le_of_ble_eq_true rfl) rfl rfl rfl (tot_none rfl) (cutsOK_list (l := [(0, sub (codeOf Try.f131) [1, 0, 1, 0])]) (by kernel_rfl) ⟨cut_one (u := c_gateref2_only_0 K) rfl (k_gateref2_only_0 K), trivial⟩) (q_gateref2_only K)
/-! ### 94 gatewarden/gateref2.Key -/
def f_gateref2_Key (K : Nat) (s : D) : Option (List D) :=
  bif ((!((D.nth (p_gateref2_in (D.i (s.str.length : Int)) (D.i 1) (D.i 40)) 0).bool)) || (inB 1 (s.str.length + 1))) then
    bif (D.nth (p_gateref2_in (D.i (s.str.length : Int)) (D.i 1) (D.i 40)) 0).bool then
      (f_gateref2_only K (D.s (s.str.take 1)) (D.s [97, 98, 99, 100, 101, 102, 103, 104, 105, 106, 107, 108, 109, 110, 111, 112, 113, 114, 115, 116, 117, 118, 119, 120, 121, 122])).bind fun t1 =>
      bif (D.nth t1 0).bool then
        (f_gateref2_only K s (D.s [97, 98, 99, 100, 101, 102, 103, 104, 105, 106, 107, 108, 109, 110, 111, 112, 113, 114, 115, 116, 117, 118, 119, 120, 121, 122, 48, 49, 50, 51, 52, 53, 54, 55, 56, 57, 45, 95])).bind fun t2 =>
        some [D.b ((D.nth t2 0).bool)]
      else
        some [D.b false]
    else
      some [D.b false]
  else
    none
def e_gateref2_Key (K : Nat) : Entry := { n := 1, sh := { sl := [(0, .d 9 false)], ob := [] }, kept := [], rs := [{ sl := [(0, .d 4 true)], ob := [] }], f := fun ds => f_gateref2_Key K (D.nth ds 0), tot := none }
def T_gateref2_Key (K : Nat) : Tbl := { T0 with ents := entsOf [(79, e_gateref2_in K), (131, e_gateref2_only K)], cuts := lk [] }
theorem q_gateref2_Key (K : Nat) (ds : List D) : evFn (T_gateref2_Key K) Try.f94 .go (e_gateref2_Key K) ds = (e_gateref2_Key K).f ds := by kernel_rfl
theorem ok_gateref2_Key (K : Nat) : FnOK Try.prog T0 94 (e_gateref2_Key K) :=
  fn_thm (T0 := T0) (T := T_gateref2_Key K) rfl (hT_of hT0 rfl rfl rfl) (hes_ok (T0 := T0) (T := T_gateref2_Key K) rfl rfl (⟨ok_gateref2_in K, ok_gateref2_only K, trivial⟩ : FAll Try.prog T0 [(79, e_gateref2_in K), (131, e_gateref2_only K)])) Try.func94 (by decide) rfl (Nat.le_of_ble_eq_true rfl) rfl rfl rfl (tot_none rfl) (cutsOK_none (by rfl)) (q_gateref2_Key K)
/-! ### 118 gatewarden/gateref2.SignersFault$1 -/
def p_gateref2_SignersFault_1 (o o0 : D) : List D := [D.b (((o.at' 0).str) == ((o0.at' 0).str)), o0]
def e_gateref2_SignersFault_1 (K : Nat) : Entry := { n := 2, sh := { sl := [(0, .d 103 false), (1, .ptr 103 0 [])], ob := [(0, .box 103 (.d 103 false))] }, kept := [0], rs := [{ sl := [(0, .d 4 true)], ob := [(0, .box 103 (.d 103 true))] }], f := fun ds => some (p_gateref2_SignersFault_1 (D.nth ds 0) (D.nth ds 1)), tot := some fun ds => p_gateref2_SignersFault_1 (D.nth ds 0) (D.nth ds 1) }
def T_gateref2_SignersFault_1 (K : Nat) : Tbl := { T0 with frz := fun s => memN [2] s, ents := entsOf [], cuts := lk [] }
theorem q_gateref2_SignersFault_1 (K : Nat) (ds : List D) : evFn (T_gateref2_SignersFault_1 K) Try.f118 .go (e_gateref2_SignersFault_1 K) ds = (e_gateref2_SignersFault_1 K).f ds := by kernel_rfl
theorem ok_gateref2_SignersFault_1 (K : Nat) : FnOK Try.prog T0 118 (e_gateref2_SignersFault_1 K) :=
  fn_thm (T0 := T0) (T := T_gateref2_SignersFault_1 K) rfl (hT_of hT0 rfl rfl rfl) (hes_ok (T0 := T0) (T := T_gateref2_SignersFault_1 K) rfl rfl (trivial : FAll Try.prog T0 [])) Try.func118 (by decide) rfl (Nat.le_of_ble_eq_true rfl) rfl rfl rfl (tot_some rfl fun _ => rfl) (cutsOK_none (by rfl)) (q_gateref2_SignersFault_1 K)
/-! ### 151 slices.IndexFunc[[]gatewarden/api.Signer,gatewarden/api.Signer] -/
def b_slices_IndexFunc_api_Signerb_0 (K : Nat) (rec : List D → Option (Nat × List D)) (ds : List D) : Option (Nat × List D) :=
  let s := D.nth ds 0
  let s7 := D.nth ds 1
  let s8 := D.nth ds 2
  let o0 := D.nth ds 3
  bif (ltI s8.int s7.int) then
    bif (inB s8.int s.list.length) then
      bif (D.nth (p_gateref2_SignersFault_1 (D.nth s.list s8.int.toNat) o0) 0).bool then
        some (0, [s8, o0])
      else
        rec [s, s7, D.i (IntKind.i64.wrap (s8.int + (1 : Int))), o0]
    else
      none
  else
    some (1, [o0])
def c_slices_IndexFunc_api_Signerb_0 (K : Nat) : Cut := { sh := { sl := [(0, .d 93 false), (1, .fn 118 [.ptr 103 0 []]), (7, .d 3 true), (8, .d 3 true)], ob := [(0, .box 103 (.d 103 true))] }, kept := [0], outs := [(.ret, { sl := [(4, .d 3 true)], ob := [(0, .box 103 (.d 103 true))] }), (.exit 0, { sl := [], ob := [(0, .box 103 (.d 103 true))] })], f := fun ds => fixN (b_slices_IndexFunc_api_Signerb_0 K) K ds }
def f_slices_IndexFunc_api_Signerb (K : Nat) (s o0 : D) : Option (List D) :=
  (fixN (b_slices_IndexFunc_api_Signerb_0 K) K [s, D.i (s.list.length : Int), D.i 0, o0]).bind fun t1 =>
  bif (t1.1.beq 0) then
    some [D.nth t1.2 0, D.nth t1.2 1]
  else
    some [D.i (-1), D.nth t1.2 0]
def e_slices_IndexFunc_api_Signerb (K : Nat) : Entry := { n := 2, sh := { sl := [(0, .d 93 false), (1, .fn 118 [.ptr 103 0 []])], ob := [(0, .box 103 (.d 103 false))] }, kept := [0], rs := [{ sl := [(0, .d 3 true)], ob := [(0, .box 103 (.d 103 true))] }], f := fun ds => f_slices_IndexFunc_api_Signerb K (D.nth ds 0) (D.nth ds 1), tot := none }
def T_slices_IndexFunc_api_Signerb (K : Nat) : Tbl := { T0 with ents := entsOf [(118, e_gateref2_SignersFault_1 K)], cuts := lk [(0, c_slices_IndexFunc_api_Signerb_0 K)] }
theorem q_slices_IndexFunc_api_Signerb_0 (K : Nat) (rec : List D → Option (Nat × List D)) (ds : List D) : evLoop (T_slices_IndexFunc_api_Signerb K) 19 (sub (codeOf Try.f151) [1, 0, 1, 0, 0]) .go (c_slices_IndexFunc_api_Signerb_0 K) rec ds = b_slices_IndexFunc_api_Signerb_0 K rec ds := by kernel_rfl
theorem k_slices_IndexFunc_api_Signerb_0 (K : Nat) : CutOK Try.prog (T_slices_IndexFunc_api_Signerb K) 19 (sub (codeOf Try.f151) [1, 0, 1, 0]) (c_slices_IndexFunc_api_Signerb_0 K) :=
  loop_thm (T := T_slices_IndexFunc_api_Signerb K) (hT_of hT0 rfl rfl rfl) (hes_ok (T0 := T0) (T := T_slices_IndexFunc_api_Signerb K) rfl rfl (⟨ok_gateref2_SignersFault_1 K, trivial⟩ : FAll Try.prog T0 [(118, e_gateref2_SignersFault_1 K)])) (by kernel_rfl) rfl rfl rfl (cutsOK_none (by rfl)) rfl (q_slices_IndexFunc_api_Signerb_0 K)
theorem q_slices_IndexFunc_api_Signerb (K : Nat) (ds : List D) : evFn (T_slices_IndexFunc_api_Signerb K) Try.f151 (.seq .go (.seq (.seq .go (.blk (.cut 0))) .go)) (e_slices_IndexFunc_api_Signerb K) ds = (e_slices_IndexFunc_api_Signerb K).f ds := by kernel_rfl
theorem ok_slices_IndexFunc_api_Signerb (K : Nat) : FnOK Try.prog T0 151 (e_slices_IndexFunc_api_Signerb K) :=
  fn_thm (T0 := T0) (T := T_slices_IndexFunc_api_Signerb K) rfl (hT_of hT0 rfl rfl rfl) (hes_ok (T0 := T0) (T := T_slices_IndexFunc_api_Signerb K) rfl rfl (⟨ok_gateref2_SignersFault_1 K, trivial⟩ : FAll Try.prog T0 [(118, e_gateref2_SignersFault_1 K)])) Try.func151 (by decide) rfl (Nat.le_of_ble_eq_true rfl) rfl rfl rfl (tot_none rfl) (cutsOK_list (l := [(0, sub (codeOf Try.f151) [1, 0, 1, 0])]) (by kernel_rfl) ⟨cut_one (u := c_slices_IndexFunc_api_Signerb_0 K) rfl (k_slices_IndexFunc_api_Signerb_0 K), trivial⟩) (q_slices_IndexFunc_api_Signerb K)
/-! ### 117 slices.ContainsFunc[[]gatewarden/api.Signer,gatewarden/api.Signer] -/
def f_slices_ContainsFunc_api_Signerb (K : Nat) (s o0 : D) : Option (List D) :=
  (f_slices_IndexFunc_api_Signerb K s o0).bind fun t1 =>
  some [D.b (geI ((D.nth t1 0).int) 0), D.nth t1 1]
def e_slices_ContainsFunc_api_Signerb (K : Nat) : Entry := { n := 2, sh := { sl := [(0, .d 93 false), (1, .fn 118 [.ptr 103 0 []])], ob := [(0, .box 103 (.d 103 false))] }, kept := [0], rs := [{ sl := [(0, .d 4 true)], ob := [(0, .box 103 (.d 103 true))] }], f := fun ds => f_slices_ContainsFunc_api_Signerb K (D.nth ds 0) (D.nth ds 1), tot := none }
def T_slices_ContainsFunc_api_Signerb (K : Nat) : Tbl := { T0 with ents := entsOf [(151, e_slices_IndexFunc_api_Signerb K)], cuts := lk [] }
theorem q_slices_ContainsFunc_api_Signerb (K : Nat) (ds : List D) : evFn (T_slices_ContainsFunc_api_Signerb K) Try.f117 .go (e_slices_ContainsFunc_api_Signerb K) ds = (e_slices_ContainsFunc_api_Signerb K).f ds := by kernel_rfl
theorem ok_slices_ContainsFunc_api_Signerb (K : Nat) : FnOK Try.prog T0 117 (e_slices_ContainsFunc_api_Signerb K) :=
  fn_thm (T0 := T0) (T := T_slices_ContainsFunc_api_Signerb K) rfl (hT_of hT0 rfl rfl rfl) (hes_ok (T0 := T0) (T := T_slices_ContainsFunc_api_Signerb K) rfl rfl (⟨ok_slices_IndexFunc_api_Signerb K, trivial⟩ : FAll Try.prog T0 [(151, e_slices_IndexFunc_api_Signerb K)])) Try.func117 (by decide) rfl (Nat.le_of_ble_eq_true rfl) rfl rfl rfl (tot_none rfl) (cutsOK_none (by rfl)) (q_slices_ContainsFunc_api_Signerb K)
/-! ### 152 gatewarden/gateref2.visible -/
def b_gateref2_visible_0 (K : Nat) (rec : List D → Option (Nat × List D)) (ds : List D) : Option (Nat × List D) :=
  let s := D.nth ds 0
  let low := D.nth ds 1
  let s7 := D.nth ds 2
  let s8 := D.nth ds 3
  bif (ltI s8.int s7.int) then
    bif (inB s8.int s.str.length) then
      bif ((!(!(ltI (byteAt s.str s8.int.toNat) low.int))) || (inB s8.int s.str.length)) then
        bif (bif (ltI (byteAt s.str s8.int.toNat) low.int) then true else (gtI (byteAt s.str s8.int.toNat) 126)) then
          some (0, [D.b false])
        else
          rec [s, low, s7, D.i (IntKind.i64.wrap (s8.int + (1 : Int)))]
      else
        none
    else
      none
  else
    some (1, [])
def c_gateref2_visible_0 (K : Nat) : Cut := { sh := { sl := [(0, .d 9 true), (1, .d 5 true), (7, .d 3 true), (8, .d 3 true)], ob := [] }, kept := [], outs := [(.ret, { sl := [(4, .d 4 true)], ob := [] }), (.exit 0, { sl := [], ob := [] })], f := fun ds => fixN (b_gateref2_visible_0 K) K ds }
def f_gateref2_visible (K : Nat) (s low : D) : Option (List D) :=
  (fixN (b_gateref2_visible_0 K) K [s, low, D.i (s.str.length : Int), D.i 0]).bind fun t1 =>
  bif (t1.1.beq 0) then
    some [D.nth t1.2 0]
  else
    some [D.b true]
def e_gateref2_visible (K : Nat) : Entry := { n := 2, sh := { sl := [(0, .d 9 false), (1, .d 5 false)], ob := [] }, kept := [], rs := [{ sl := [(0, .d 4 true)], ob := [] }], f := fun ds => f_gateref2_visible K (D.nth ds 0) (D.nth ds 1), tot := none }
def T_gateref2_visible (K : Nat) : Tbl := { T0 with ents := entsOf [], cuts := lk [(0, c_gateref2_visible_0 K)] }
theorem q_gateref2_visible_0 (K : Nat) (rec : List D → Option (Nat × List D)) (ds : List D) : evLoop (T_gateref2_visible K) 23 (sub (codeOf Try.f152) [1, 0, 1, 0, 0]) .go (c_gateref2_visible_0 K) rec ds = b_gateref2_visible_0 K rec ds := by kernel_rfl
theorem k_gateref2_visible_0 (K : Nat) : CutOK Try.prog (T_gateref2_visible K) 23 (sub (codeOf Try.f152) [1, 0, 1, 0]) (c_gateref2_visible_0 K) :=
  loop_thm (T := T_gateref2_visible K) (hT_of hT0 rfl rfl rfl) (hes_ok (T0 := T0) (T := T_gateref2_visible K) rfl rfl (trivial : FAll Try.prog T0 [])) (by kernel_rfl) rfl rfl rfl (cutsOK_none (by rfl)) rfl (q_gateref2_visible_0 K)
theorem q_gateref2_visible (K : Nat) (ds : List D) : evFn (T_gateref2_visible K) Try.f152 (.seq .go (.seq (.seq .go (.blk (.cut 0))) .go)) (e_gateref2_visible K) ds = (e_gateref2_visible K).f ds := by kernel_rfl
theorem ok_gateref2_visible (K : Nat) : FnOK Try.prog T0 152 (e_gateref2_visible K) :=
  fn_thm (T0 := T0) (T := T_gateref2_visible K) rfl (hT_of hT0 rfl rfl rfl) (hes_ok (T0 := T0) (T := T_gateref2_visible K) rfl rfl (trivial : FAll Try.prog T0 [])) Try.func152 (by decide) rfl (Nat.le_of_ble_eq_true rfl) rfl rfl rfl (tot_none rfl) (cutsOK_list (l := [(0, sub (codeOf Try.f152) [1, 0, 1, 0])]) (by kernel_rfl) ⟨cut_one (u := c_gateref2_visible_0 K) rfl (k_gateref2_visible_0 K), trivial⟩) (q_gateref2_visible K)
/-! ### 119 gatewarden/gateref2.SecretFault -/
def f_gateref2_SecretFault (K : Nat) (s : D) : Option (List D) :=
  bif (!(s.str == ([] : List UInt8))) then
    (f_gateref2_visible K s (D.i 33)).bind fun t1 =>
    bif (!((D.nth t1 0).bool)) then
      some [D.i 3]
    else
      bif (gtI (s.str.length : Int) 100) then
        some [D.i 2]
      else
        some [D.i 0]
  else
    some [D.i 3]
def e_gateref2_SecretFault (K : Nat) : Entry := { n := 1, sh := { sl := [(0, .d 9 false)], ob := [] }, kept := [], rs := [{ sl := [(0, .d 30 true)], ob := [] }], f := fun ds => f_gateref2_SecretFault K (D.nth ds 0), tot := none }
def T_gateref2_SecretFault (K : Nat) : Tbl := { T0 with ents := entsOf [(152, e_gateref2_visible K)], cuts := lk [] }
theorem q_gateref2_SecretFault (K : Nat) (ds : List D) : evFn (T_gateref2_SecretFault K) Try.f119 .go (e_gateref2_SecretFault K) ds = (e_gateref2_SecretFault K).f ds := by kernel_rfl
theorem ok_gateref2_SecretFault (K : Nat) : FnOK Try.prog T0 119 (e_gateref2_SecretFault K) :=
  fn_thm (T0 := T0) (T := T_gateref2_SecretFault K) rfl (hT_of hT0 rfl rfl rfl) (hes_ok (T0 := T0) (T := T_gateref2_SecretFault K) rfl rfl (⟨ok_gateref2_visible K, trivial⟩ : FAll Try.prog T0 [(152, e_gateref2_visible K)])) Try.func119 (by decide) rfl (Nat.le_of_ble_eq_true rfl) rfl rfl rfl (tot_none rfl) (cutsOK_none (by rfl)) (q_gateref2_SecretFault K)
/-! ### 60 gatewarden/gateref2.SignersFault -/
def b_gateref2_SignersFault_0 (K : Nat) (rec : List D → Option (Nat × List D)) (ds : List D) : Option (Nat × List D) :=
  let l := D.nth ds 0
  let s9 := D.nth ds 1
  let s10 := D.nth ds 2
  let s11 := D.nth ds 3
  bif (ltI s11.int s10.int) then
    bif (inB s11.int s9.list.length) then
      (f_gateref2_Key K ((D.nth s9.list s11.int.toNat).at' 0)).bind fun t1 =>
      bif (!((D.nth t1 0).bool)) then
        some (0, [D.i 5])
      else
        bif (inB s11.int (l.list.length + 1)) then
          (f_slices_ContainsFunc_api_Signerb K (D.n (l.list.take s11.int.toNat)) (D.nth s9.list s11.int.toNat)).bind fun t2 =>
          bif (D.nth t2 0).bool then
            some (0, [D.i 6])
          else
            (f_gateref2_SecretFault K ((D.nth t2 1).at' 1)).bind fun t3 =>
            bif (((D.nth t3 0).int) != (0 : Int)) then
              some (0, [D.nth t3 0])
            else
              bif (bif (bif (!((D.nth (p_gateref2_in ((D.nth t2 1).at' 2) (D.i 0) ((D.nth t2 1).at' 3)) 0).bool)) then true else (gtI (((D.nth t2 1).at' 3).int) (((D.nth t2 1).at' 4).int))) then true else (gtI (((D.nth t2 1).at' 4).int) 345686400000)) then
                some (0, [D.i 1])
              else
                bif ((!(gtI s11.int 0)) || (inB (IntKind.i64.wrap (s11.int - (1 : Int))) l.list.length)) then
                  bif (bif (gtI s11.int 0) then (ltI (((D.nth t2 1).at' 2).int) (((D.nth l.list ((IntKind.i64.wrap (s11.int - (1 : Int))).toNat)).at' 2).int)) else false) then
                    some (0, [D.i 7])
                  else
                    rec [l, s9, s10, D.i (IntKind.i64.wrap (s11.int + (1 : Int)))]
                else
                  none
        else
          none
    else
      none
  else
    some (1, [])
def c_gateref2_SignersFault_0 (K : Nat) : Cut := { sh := { sl := [(0, .d 93 false), (9, .d 93 false), (10, .d 3 true), (11, .d 3 true)], ob := [] }, kept := [], outs := [(.ret, { sl := [(2, .d 30 true)], ob := [] }), (.exit 0, { sl := [], ob := [] })], f := fun ds => fixN (b_gateref2_SignersFault_0 K) K ds }
def f_gateref2_SignersFault (K : Nat) (l : D) : Option (List D) :=
  bif (gtI (l.list.length : Int) 50) then
    some [D.i 2]
  else
    (fixN (b_gateref2_SignersFault_0 K) K [l, l, D.i (l.list.length : Int), D.i 0]).bind fun t1 =>
    bif (t1.1.beq 0) then
      some [D.nth t1.2 0]
    else
      some [D.i 0]
def e_gateref2_SignersFault (K : Nat) : Entry := { n := 1, sh := { sl := [(0, .d 93 false)], ob := [] }, kept := [], rs := [{ sl := [(0, .d 30 true)], ob := [] }], f := fun ds => f_gateref2_SignersFault K (D.nth ds 0), tot := none }
def T_gateref2_SignersFault (K : Nat) : Tbl := { T0 with ents := entsOf [(94, e_gateref2_Key K), (117, e_slices_ContainsFunc_api_Signerb K), (119, e_gateref2_SecretFault K), (79, e_gateref2_in K)], cuts := lk [(0, c_gateref2_SignersFault_0 K)] }
theorem q_gateref2_SignersFault_0 (K : Nat) (rec : List D → Option (Nat × List D)) (ds : List D) : evLoop (T_gateref2_SignersFault K) 67 (sub (codeOf Try.f60) [1, 1, 0, 1, 0, 0]) .go (c_gateref2_SignersFault_0 K) rec ds = b_gateref2_SignersFault_0 K rec ds := by kernel_rfl
theorem k_gateref2_SignersFault_0 (K : Nat) : CutOK Try.prog (T_gateref2_SignersFault K) 67 (sub (codeOf Try.f60) [1, 1, 0, 1, 0]) (c_gateref2_SignersFault_0 K) :=
  loop_thm (T := T_gateref2_SignersFault K) (hT_of hT0 rfl rfl rfl) (hes_ok (T0 := T0) (T := T_gateref2_SignersFault K) rfl rfl (⟨ok_gateref2_Key K, ok_slices_ContainsFunc_api_Signerb K, ok_gateref2_SecretFault K, ok_gateref2_in K, trivial⟩ : FAll Try.prog T0 [(94, e_gateref2_Key K), (117, e_slices_ContainsFunc_api_Signerb K), (119, e_gateref2_SecretFault K), (79, e_gateref2_in K)])) (by kernel_rfl) rfl rfl rfl (cutsOK_none (by rfl)) rfl (q_gateref2_SignersFault_0 K)
theorem q_gateref2_SignersFault (K : Nat) (ds : List D) : evFn (T_gateref2_SignersFault K) Try.f60 (.seq .go (.seq .go (.seq (.seq .go (.blk (.cut 0))) .go))) (e_gateref2_SignersFault K) ds = (e_gateref2_SignersFault K).f ds := by kernel_rfl
theorem ok_gateref2_SignersFault (K : Nat) : FnOK Try.prog T0 60 (e_gateref2_SignersFault K) :=
  fn_thm (T0 := T0) (T := T_gateref2_SignersFault K) rfl (hT_of hT0 rfl rfl rfl) (hes_ok (T0 := T0) (T := T_gateref2_SignersFault K) rfl rfl (⟨ok_gateref2_Key K, ok_slices_ContainsFunc_api_Signerb K, ok_gateref2_SecretFault K, ok_gateref2_in K, trivial⟩ : FAll Try.prog T0 [(94, e_gateref2_Key K), (117, e_slices_ContainsFunc_api_Signerb K), (119, e_gateref2_SecretFault K), (79, e_gateref2_in K)])) Try.func60 (by decide) rfl (Nat.le_of_ble_eq_true rfl) rfl rfl rfl (tot_none rfl) (cutsOK_list (l := [(0, sub (codeOf Try.f60) [1, 1, 0, 1, 0])]) (by kernel_rfl) ⟨cut_one (u := c_gateref2_SignersFault_0 K) rfl (k_gateref2_SignersFault_0 K), trivial⟩) (q_gateref2_SignersFault K)
/-! ### 120 gatewarden/gateref2.RotateOf$1 -/
def p_gateref2_RotateOf_1 (s s1 : D) : List D := [D.b (((s.at' 0).str) == s1.str)]
def e_gateref2_RotateOf_1 (K : Nat) : Entry := { n := 2, sh := { sl := [(0, .d 103 false), (1, .bx 9 false (.d 9 false))], ob := [] }, kept := [], rs := [{ sl := [(0, .d 4 true)], ob := [] }], f := fun ds => some (p_gateref2_RotateOf_1 (D.nth ds 0) (D.nth ds 1)), tot := some fun ds => p_gateref2_RotateOf_1 (D.nth ds 0) (D.nth ds 1) }
def T_gateref2_RotateOf_1 (K : Nat) : Tbl := { T0 with frz := fun s => memN [2] s, ents := entsOf [], cuts := lk [] }
theorem q_gateref2_RotateOf_1 (K : Nat) (ds : List D) : evFn (T_gateref2_RotateOf_1 K) Try.f120 .go (e_gateref2_RotateOf_1 K) ds = (e_gateref2_RotateOf_1 K).f ds := by kernel_rfl
theorem ok_gateref2_RotateOf_1 (K : Nat) : FnOK Try.prog T0 120 (e_gateref2_RotateOf_1 K) :=
  fn_thm (T0 := T0) (T := T_gateref2_RotateOf_1 K) rfl (hT_of hT0 rfl rfl rfl) (hes_ok (T0 := T0) (T := T_gateref2_RotateOf_1 K) rfl rfl (trivial : FAll Try.prog T0 [])) Try.func120 (by decide) rfl (Nat.le_of_ble_eq_true rfl) rfl rfl rfl (tot_some rfl fun _ => rfl) (cutsOK_none (by rfl)) (q_gateref2_RotateOf_1 K)
/-! ### 151 slices.IndexFunc[[]gatewarden/api.Signer,gatewarden/api.Signer] -/
def b_slices_IndexFunc_api_Signerc_0 (K : Nat) (rec : List D → Option (Nat × List D)) (ds : List D) : Option (Nat × List D) :=
  let s := D.nth ds 0
  let f_0 := D.nth ds 1
  let s7 := D.nth ds 2
  let s8 := D.nth ds 3
  bif (ltI s8.int s7.int) then
    bif (inB s8.int s.list.length) then
      bif (D.nth (p_gateref2_RotateOf_1 (D.nth s.list s8.int.toNat) f_0) 0).bool then
        some (0, [s8])
      else
        rec [s, f_0, s7, D.i (IntKind.i64.wrap (s8.int + (1 : Int)))]
    else
      none
  else
    some (1, [])
def c_slices_IndexFunc_api_Signerc_0 (K : Nat) : Cut := { sh := { sl := [(0, .d 93 false), (1, .fn 120 [.bx 9 false (.d 9 true)]), (7, .d 3 true), (8, .d 3 true)], ob := [] }, kept := [], outs := [(.ret, { sl := [(4, .d 3 true)], ob := [] }), (.exit 0, { sl := [], ob := [] })], f := fun ds => fixN (b_slices_IndexFunc_api_Signerc_0 K) K ds }
def f_slices_IndexFunc_api_Signerc (K : Nat) (s f_0 : D) : Option (List D) :=
  (fixN (b_slices_IndexFunc_api_Signerc_0 K) K [s, f_0, D.i (s.list.length : Int), D.i 0]).bind fun t1 =>
  bif (t1.1.beq 0) then
    some [D.nth t1.2 0]
  else
    some [D.i (-1)]
def e_slices_IndexFunc_api_Signerc (K : Nat) : Entry := { n := 2, sh := { sl := [(0, .d 93 false), (1, .fn 120 [.bx 9 false (.d 9 false)])], ob := [] }, kept := [], rs := [{ sl := [(0, .d 3 true)], ob := [] }], f := fun ds => f_slices_IndexFunc_api_Signerc K (D.nth ds 0) (D.nth ds 1), tot := none }
def T_slices_IndexFunc_api_Signerc (K : Nat) : Tbl := { T0 with ents := entsOf [(120, e_gateref2_RotateOf_1 K)], cuts := lk [(0, c_slices_IndexFunc_api_Signerc_0 K)] }
theorem q_slices_IndexFunc_api_Signerc_0 (K : Nat) (rec : List D → Option (Nat × List D)) (ds : List D) : evLoop (T_slices_IndexFunc_api_Signerc K) 19 (sub (codeOf Try.f151) [1, 0, 1, 0, 0]) .go (c_slices_IndexFunc_api_Signerc_0 K) rec ds = b_slices_IndexFunc_api_Signerc_0 K rec ds := by kernel_rfl
theorem k_slices_IndexFunc_api_Signerc_0 (K : Nat) : CutOK Try.prog (T_slices_IndexFunc_api_Signerc K) 19 (sub (codeOf Try.f151) [1, 0, 1, 0]) (c_slices_IndexFunc_api_Signerc_0 K) :=
  loop_thm (T := T_slices_IndexFunc_api_Signerc K) (hT_of hT0 rfl rfl rfl) (hes_ok (T0 := T0) (T := T_slices_IndexFunc_api_Signerc K) rfl rfl (⟨ok_gateref2_RotateOf_1 K, trivial⟩ : FAll Try.prog T0 [(120, e_gateref2_RotateOf_1 K)])) (by kernel_rfl) rfl rfl rfl (cutsOK_none (by rfl)) rfl (q_slices_IndexFunc_api_Signerc_0 K)
theorem q_slices_IndexFunc_api_Signerc (K : Nat) (ds : List D) : evFn (T_slices_IndexFunc_api_Signerc K) Try.f151 (.seq .go (.seq (.seq .go (.blk (.cut 0))) .go)) (e_slices_IndexFunc_api_Signerc K) ds = (e_slices_IndexFunc_api_Signerc K).f ds := by kernel_rfl
theorem ok_slices_IndexFunc_api_Signerc (K : Nat) : FnOK Try.prog T0 151 (e_slices_IndexFunc_api_Signerc K) :=
  fn_thm (T0 := T0) (T := T_slices_IndexFunc_api_Signerc K) rfl (hT_of hT0 rfl rfl rfl) (hes_ok (T0 := T0) (T := T_slices_IndexFunc_api_Signerc K) rfl rfl (⟨ok_gateref2_RotateOf_1 K, trivial⟩ : FAll Try.prog T0 [(120, e_gateref2_RotateOf_1 K)])) Try.func151 (by decide) rfl (Nat.le_of_ble_eq_true rfl) rfl rfl rfl (tot_none rfl) (cutsOK_list (l := [(0, sub (codeOf Try.f151) [1, 0, 1, 0])]) (by kernel_rfl) ⟨cut_one (u := c_slices_IndexFunc_api_Signerc_0 K) rfl (k_slices_IndexFunc_api_Signerc_0 K), trivial⟩) (q_slices_IndexFunc_api_Signerc K)
/-! ### 117 slices.ContainsFunc[[]gatewarden/api.Signer,gatewarden/api.Signer] -/
def f_slices_ContainsFunc_api_Signerc (K : Nat) (s f_0 : D) : Option (List D) :=
  (f_slices_IndexFunc_api_Signerc K s f_0).bind fun t1 =>
  some [D.b (geI ((D.nth t1 0).int) 0)]
def e_slices_ContainsFunc_api_Signerc (K : Nat) : Entry := { n := 2, sh := { sl := [(0, .d 93 false), (1, .fn 120 [.bx 9 false (.d 9 false)])], ob := [] }, kept := [], rs := [{ sl := [(0, .d 4 true)], ob := [] }], f := fun ds => f_slices_ContainsFunc_api_Signerc K (D.nth ds 0) (D.nth ds 1), tot := none }
def T_slices_ContainsFunc_api_Signerc (K : Nat) : Tbl := { T0 with ents := entsOf [(151, e_slices_IndexFunc_api_Signerc K)], cuts := lk [] }
theorem q_slices_ContainsFunc_api_Signerc (K : Nat) (ds : List D) : evFn (T_slices_ContainsFunc_api_Signerc K) Try.f117 .go (e_slices_ContainsFunc_api_Signerc K) ds = (e_slices_ContainsFunc_api_Signerc K).f ds := by kernel_rfl
theorem ok_slices_ContainsFunc_api_Signerc (K : Nat) : FnOK Try.prog T0 117 (e_slices_ContainsFunc_api_Signerc K) :=
  fn_thm (T0 := T0) (T := T_slices_ContainsFunc_api_Signerc K) rfl (hT_of hT0 rfl rfl rfl) (hes_ok (T0 := T0) (T := T_slices_ContainsFunc_api_Signerc K) rfl rfl (⟨ok_slices_IndexFunc_api_Signerc K, trivial⟩ : FAll Try.prog T0 [(151, e_slices_IndexFunc_api_Signerc K)])) Try.func117 (by decide) rfl (Nat.le_of_ble_eq_true rfl) rfl rfl rfl (tot_none rfl) (cutsOK_none (by rfl)) (q_slices_ContainsFunc_api_Signerc K)
/-! ### 101 gatewarden/gateref2.Moment -/
def p_gateref2_Moment (vat : D) : List D := [D.nth (p_gateref2_in vat (D.i 0) (D.i 345686399999)) 0]
def e_gateref2_Moment (K : Nat) : Entry := { n := 1, sh := { sl := [(0, .d 3 false)], ob := [] }, kept := [], rs := [{ sl := [(0, .d 4 true)], ob := [] }], f := fun ds => some (p_gateref2_Moment (D.nth ds 0)), tot := some fun ds => p_gateref2_Moment (D.nth ds 0) }
def T_gateref2_Moment (K : Nat) : Tbl := { T0 with ents := entsOf [(79, e_gateref2_in K)], cuts := lk [] }
theorem q_gateref2_Moment (K : Nat) (ds : List D) : evFn (T_gateref2_Moment K) Try.f101 .go (e_gateref2_Moment K) ds = (e_gateref2_Moment K).f ds := by kernel_rfl
theorem ok_gateref2_Moment (K : Nat) : FnOK Try.prog T0 101 (e_gateref2_Moment K) :=
  fn_thm (T0 := T0) (T := T_gateref2_Moment K) rfl (hT_of hT0 rfl rfl rfl) (hes_ok (T0 := T0) (T := T_gateref2_Moment K) rfl rfl (⟨ok_gateref2_in K, trivial⟩ : FAll Try.prog T0 [(79, e_gateref2_in K)])) Try.func101 (by decide) rfl (Nat.le_of_ble_eq_true rfl) rfl rfl rfl (tot_some rfl fun _ => rfl) (cutsOK_none (by rfl)) (q_gateref2_Moment K)
/-! ### 61 gatewarden/gateref2.RotateOf -/
def b_gateref2_RotateOf_0 (K : Nat) (rec : List D → Option (Nat × List D)) (ds : List D) : Option (Nat × List D) :=
  let vat := D.nth ds 0
  let s63 := D.nth ds 1
  let s64 := D.nth ds 2
  let s65 := D.nth ds 3
  let r0 := D.nth ds 4
  bif (ltI s65.int s64.int) then
    bif (inB s65.int s63.list.length) then
      bif (lim (r0.list.length + 1)) then
        rec [vat, s63, s64, D.i (IntKind.i64.wrap (s65.int + (1 : Int))), D.n (r0.list ++ [D.n [(D.nth s63.list s65.int.toNat).at' 0, (D.nth s63.list s65.int.toNat).at' 1, (D.nth s63.list s65.int.toNat).at' 2, D.i (minI (((D.nth s63.list s65.int.toNat).at' 3).int) vat.int), (D.nth s63.list s65.int.toNat).at' 4]])]
      else
        none
    else
      none
  else
    some (0, [D.n r0.list])
def c_gateref2_RotateOf_0 (K : Nat) : Cut := { sh := { sl := [(3, .d 3 true), (15, .own 93 0), (63, .d 93 false), (64, .d 3 true), (65, .d 3 true)], ob := [(0, .row 103 true)] }, kept := [], outs := [(.exit 1, { sl := [(15, .own 93 0)], ob := [(0, .row 103 true)] })], f := fun ds => fixN (b_gateref2_RotateOf_0 K) K ds }
def f_gateref2_RotateOf (K : Nat) (l id secret vat long life : D) : Option (List D) :=
  (f_gateref2_Key K id).bind fun t1 =>
  bif (!((D.nth t1 0).bool)) then
    some [D.i 5, D.n []]
  else
    (f_slices_ContainsFunc_api_Signerc K l id).bind fun t2 =>
    bif (D.nth t2 0).bool then
      some [D.i 6, D.n []]
    else
      (f_gateref2_SecretFault K secret).bind fun t3 =>
      bif (((D.nth t3 0).int) != (0 : Int)) then
        some [D.nth t3 0, D.n []]
      else
        bif (bif (bif (!((D.nth (p_gateref2_Moment vat) 0).bool)) then true else (!((D.nth (p_gateref2_in long (D.i 1) (D.i 345686400000)) 0).bool))) then true else (!((D.nth (p_gateref2_in life (D.i 0) (D.i 345686400000)) 0).bool))) then
          some [D.i 1, D.n []]
        else
          bif ((!(gtI (l.list.length : Int) 0)) || (inB (IntKind.i64.wrap ((l.list.length : Int) - (1 : Int))) l.list.length)) then
            bif (bif (gtI (l.list.length : Int) 0) then (ltI vat.int (((D.nth l.list ((IntKind.i64.wrap ((l.list.length : Int) - (1 : Int))).toNat)).at' 2).int)) else false) then
              some [D.i 7, D.n []]
            else
              bif (geI (l.list.length : Int) 50) then
                some [D.i 2, D.n []]
              else
                (fixN (b_gateref2_RotateOf_0 K) K [vat, l, D.i (l.list.length : Int), D.i 0, D.n []]).bind fun t4 =>
                bif (lim (((D.nth t4.2 0).list).length + 1)) then
                  some [D.i 0, D.n (((D.nth t4.2 0).list) ++ [D.n [id, secret, vat, D.i (minI (IntKind.i64.wrap (vat.int + long.int)) 345686400000), D.i (minI (IntKind.i64.wrap ((minI (IntKind.i64.wrap (vat.int + long.int)) 345686400000) + life.int)) 345686400000)]])]
                else
                  none
          else
            none
def e_gateref2_RotateOf (K : Nat) : Entry := { n := 6, sh := { sl := [(0, .d 93 false), (1, .d 9 false), (2, .d 9 false), (3, .d 3 false), (4, .d 3 false), (5, .d 3 false)], ob := [] }, kept := [], rs := [{ sl := [(0, .tup [.own 93 0, .d 30 true])], ob := [(0, .row 103 true)] }], f := fun ds => f_gateref2_RotateOf K (D.nth ds 0) (D.nth ds 1) (D.nth ds 2) (D.nth ds 3) (D.nth ds 4) (D.nth ds 5), tot := none }
def T_gateref2_RotateOf (K : Nat) : Tbl := { T0 with frz := fun s => memN [7] s, ents := entsOf [(94, e_gateref2_Key K), (117, e_slices_ContainsFunc_api_Signerc K), (119, e_gateref2_SecretFault K), (101, e_gateref2_Moment K), (79, e_gateref2_in K)], cuts := lk [(0, c_gateref2_RotateOf_0 K)] }
theorem q_gateref2_RotateOf_0 (K : Nat) (rec : List D → Option (Nat × List D)) (ds : List D) : evLoop (T_gateref2_RotateOf K) 95 (sub (codeOf Try.f61) [1, 1, 1, 1, 1, 1, 0, 1, 0, 0]) .go (c_gateref2_RotateOf_0 K) rec ds = b_gateref2_RotateOf_0 K rec ds := by kernel_rfl
theorem k_gateref2_RotateOf_0 (K : Nat) : CutOK Try.prog (T_gateref2_RotateOf K) 95 (sub (codeOf Try.f61) [1, 1, 1, 1, 1, 1, 0, 1, 0]) (c_gateref2_RotateOf_0 K) :=
  loop_thm (T := T_gateref2_RotateOf K) (hT_of hT0 rfl rfl rfl) (hes_ok (T0 := T0) (T := T_gateref2_RotateOf K) rfl rfl (⟨ok_gateref2_Key K, ok_slices_ContainsFunc_api_Signerc K, ok_gateref2_SecretFault K, ok_gateref2_Moment K, ok_gateref2_in K, trivial⟩ : FAll Try.prog T0 [(94, e_gateref2_Key K), (117, e_slices_ContainsFunc_api_Signerc K), (119, e_gateref2_SecretFault K), (101, e_gateref2_Moment K), (79, e_gateref2_in K)])) (by kernel_rfl) rfl rfl rfl (cutsOK_none (by rfl)) rfl (q_gateref2_RotateOf_0 K)
theorem q_gateref2_RotateOf (K : Nat) (ds : List D) : evFn (T_gateref2_RotateOf K) Try.f61 (.seq .go (.seq .go (.seq .go (.seq .go (.seq .go (.seq .go (.seq (.seq .go (.blk (.cut 0))) .go))))))) (e_gateref2_RotateOf K) ds = (e_gateref2_RotateOf K).f ds := by kernel_rfl
theorem ok_gateref2_RotateOf (K : Nat) : FnOK Try.prog T0 61 (e_gateref2_RotateOf K) :=
  fn_thm (T0 := T0) (T := T_gateref2_RotateOf K) rfl (hT_of hT0 rfl rfl rfl) (hes_ok (T0 := T0) (T := T_gateref2_RotateOf K) rfl rfl (⟨ok_gateref2_Key K, ok_slices_ContainsFunc_api_Signerc K, ok_gateref2_SecretFault K, ok_gateref2_Moment K, ok_gateref2_in K, trivial⟩ : FAll Try.prog T0 [(94, e_gateref2_Key K), (117, e_slices_ContainsFunc_api_Signerc K), (119, e_gateref2_SecretFault K), (101, e_gateref2_Moment K), (79, e_gateref2_in K)])) Try.func61 (by decide) rfl (Nat.le_of_ble_eq_true rfl) rfl rfl rfl (tot_none rfl) (cutsOK_list (l := [(0, sub (codeOf Try.f61) [1, 1, 1, 1, 1, 1, 0, 1, 0])]) (by kernel_rfl) ⟨cut_one (u := c_gateref2_RotateOf_0 K) rfl (k_gateref2_RotateOf_0 K), trivial⟩) (q_gateref2_RotateOf K)
/-! ### 62 slices.Equal[[]gatewarden/api.Signer,gatewarden/api.Signer] -/
def b_slices_Equal_api_Signer_0 (K : Nat) (rec : List D → Option (Nat × List D)) (ds : List D) : Option (Nat × List D) :=
  let s1 := D.nth ds 0
  let s2 := D.nth ds 1
  let s12 := D.nth ds 2
  let s13 := D.nth ds 3
  bif (ltI s13.int s12.int) then
    bif (inB s13.int s1.list.length) then
      bif (inB s13.int s2.list.length) then
        bif (!(eqK (.pair 9 .str (.pair 9 .str (.pair 3 (.int .i64) (.pair 3 (.int .i64) (.pair 3 (.int .i64) .unit))))) (D.nth s1.list s13.int.toNat) (D.nth s2.list s13.int.toNat))) then
          some (0, [D.b false])
        else
          rec [s1, s2, s12, D.i (IntKind.i64.wrap (s13.int + (1 : Int)))]
      else
        none
    else
      none
  else
    some (1, [])
def c_slices_Equal_api_Signer_0 (K : Nat) : Cut := { sh := { sl := [(0, .d 93 false), (1, .d 93 false), (12, .d 3 true), (13, .d 3 true)], ob := [] }, kept := [], outs := [(.ret, { sl := [(4, .d 4 true)], ob := [] }), (.exit 0, { sl := [], ob := [] })], f := fun ds => fixN (b_slices_Equal_api_Signer_0 K) K ds }
def f_slices_Equal_api_Signer (K : Nat) (s1 s2 : D) : Option (List D) :=
  bif ((s1.list.length : Int) != (s2.list.length : Int)) then
    some [D.b false]
  else
    (fixN (b_slices_Equal_api_Signer_0 K) K [s1, s2, D.i (s1.list.length : Int), D.i 0]).bind fun t1 =>
    bif (t1.1.beq 0) then
      some [D.nth t1.2 0]
    else
      some [D.b true]
def e_slices_Equal_api_Signer (K : Nat) : Entry := { n := 2, sh := { sl := [(0, .d 93 false), (1, .d 93 false)], ob := [] }, kept := [], rs := [{ sl := [(0, .d 4 true)], ob := [] }], f := fun ds => f_slices_Equal_api_Signer K (D.nth ds 0) (D.nth ds 1), tot := none }
def T_slices_Equal_api_Signer (K : Nat) : Tbl := { T0 with ents := entsOf [], cuts := lk [(0, c_slices_Equal_api_Signer_0 K)] }
theorem q_slices_Equal_api_Signer_0 (K : Nat) (rec : List D → Option (Nat × List D)) (ds : List D) : evLoop (T_slices_Equal_api_Signer K) 26 (sub (codeOf Try.f62) [1, 1, 0, 1, 0, 0]) .go (c_slices_Equal_api_Signer_0 K) rec ds = b_slices_Equal_api_Signer_0 K rec ds := by kernel_rfl
theorem k_slices_Equal_api_Signer_0 (K : Nat) : CutOK Try.prog (T_slices_Equal_api_Signer K) 26 (sub (codeOf Try.f62) [1, 1, 0, 1, 0]) (c_slices_Equal_api_Signer_0 K) :=
  loop_thm (T := T_slices_Equal_api_Signer K) (hT_of hT0 rfl rfl rfl) (hes_ok (T0 := T0) (T := T_slices_Equal_api_Signer K) rfl rfl (trivial : FAll Try.prog T0 [])) (by kernel_rfl) rfl rfl rfl (cutsOK_none (by rfl)) rfl (q_slices_Equal_api_Signer_0 K)
theorem q_slices_Equal_api_Signer (K : Nat) (ds : List D) : evFn (T_slices_Equal_api_Signer K) Try.f62 (.seq .go (.seq .go (.seq (.seq .go (.blk (.cut 0))) .go))) (e_slices_Equal_api_Signer K) ds = (e_slices_Equal_api_Signer K).f ds := by kernel_rfl
theorem ok_slices_Equal_api_Signer (K : Nat) : FnOK Try.prog T0 62 (e_slices_Equal_api_Signer K) :=
  fn_thm (T0 := T0) (T := T_slices_Equal_api_Signer K) rfl (hT_of hT0 rfl rfl rfl) (hes_ok (T0 := T0) (T := T_slices_Equal_api_Signer K) rfl rfl (trivial : FAll Try.prog T0 [])) Try.func62 (by decide) rfl (Nat.le_of_ble_eq_true rfl) rfl rfl rfl (tot_none rfl) (cutsOK_list (l := [(0, sub (codeOf Try.f62) [1, 1, 0, 1, 0])]) (by kernel_rfl) ⟨cut_one (u := c_slices_Equal_api_Signer_0 K) rfl (k_slices_Equal_api_Signer_0 K), trivial⟩) (q_slices_Equal_api_Signer K)
/-! ### 121 gatewarden/token.Encode -/
def b_token_Encode_2 (K : Nat) (rec : List D → Option (Nat × List D)) (ds : List D) : Option (Nat × List D) :=
  let x := D.nth ds 0
  let s30 := D.nth ds 1
  let s31 := D.nth ds 2
  let r0 := D.nth ds 3
  bif (ltI s31.int s30.int) then
    bif (!(ltI (IntKind.i64.wrap ((18 : Int) - (IntKind.i64.wrap ((6 : Int) * s31.int)))) 0)) then
      bif (inB (bitsI .and .i64 (shr .i64 x.int (IntKind.i64.wrap ((18 : Int) - (IntKind.i64.wrap ((6 : Int) * s31.int))))) (63 : Int)) ([65, 66, 67, 68, 69, 70, 71, 72, 73, 74, 75, 76, 77, 78, 79, 80, 81, 82, 83, 84, 85, 86, 87, 88, 89, 90, 97, 98, 99, 100, 101, 102, 103, 104, 105, 106, 107, 108, 109, 110, 111, 112, 113, 114, 115, 116, 117, 118, 119, 120, 121, 122, 48, 49, 50, 51, 52, 53, 54, 55, 56, 57, 45, 95].length)) then
        bif (lim (r0.list.length + 1)) then
          rec [x, s30, D.i (IntKind.i64.wrap (s31.int + (1 : Int))), D.n (r0.list ++ [D.i (byteAt [65, 66, 67, 68, 69, 70, 71, 72, 73, 74, 75, 76, 77, 78, 79, 80, 81, 82, 83, 84, 85, 86, 87, 88, 89, 90, 97, 98, 99, 100, 101, 102, 103, 104, 105, 106, 107, 108, 109, 110, 111, 112, 113, 114, 115, 116, 117, 118, 119, 120, 121, 122, 48, 49, 50, 51, 52, 53, 54, 55, 56, 57, 45, 95] ((bitsI .and .i64 (shr .i64 x.int (IntKind.i64.wrap ((18 : Int) - (IntKind.i64.wrap ((6 : Int) * s31.int))))) (63 : Int)).toNat))])]
        else
          none
      else
        none
    else
      none
  else
    some (0, [D.n r0.list])
def c_token_Encode_2 (K : Nat) : Cut := { sh := { sl := [(3, .own 197 0), (5, .d 3 true), (30, .d 3 true), (31, .d 3 true)], ob := [(0, .row 5 true)] }, kept := [], outs := [(.exit 4, { sl := [(3, .own 197 0)], ob := [(0, .row 5 true)] })], f := fun ds => fixN (b_token_Encode_2 K) K ds }
def b_token_Encode_1 (K : Nat) (rec : List D → Option (Nat × List D)) (ds : List D) : Option (Nat × List D) :=
  let s := D.nth ds 0
  let n := D.nth ds 1
  let x := D.nth ds 2
  let s14 := D.nth ds 3
  bif (ltI s14.int 3) then
    bif (ltI s14.int n.int) then
      bif (inB s14.int s.str.length) then
        rec [s, n, D.i (bitsI .or .i64 (shl .i64 x.int 8) (IntKind.i64.wrap (byteAt s.str s14.int.toNat))), D.i (IntKind.i64.wrap (s14.int + (1 : Int)))]
      else
        none
    else
      rec [s, n, D.i (shl .i64 x.int 8), D.i (IntKind.i64.wrap (s14.int + (1 : Int)))]
  else
    some (0, [x])
def c_token_Encode_1 (K : Nat) : Cut := { sh := { sl := [(0, .d 9 true), (4, .d 3 true), (5, .d 3 true), (14, .d 3 true)], ob := [] }, kept := [], outs := [(.exit 2, { sl := [(5, .d 3 true)], ob := [] })], f := fun ds => fixN (b_token_Encode_1 K) K ds }
def b_token_Encode_0 (K : Nat) (rec : List D → Option (Nat × List D)) (ds : List D) : Option (Nat × List D) :=
  let s := D.nth ds 0
  let r0 := D.nth ds 1
  bif (gtI (s.str.length : Int) 0) then
    (fixN (b_token_Encode_1 K) K [s, D.i (minI 3 (s.str.length : Int)), D.i 0, D.i 0]).bind fun t1 =>
    (fixN (b_token_Encode_2 K) K [D.nth t1.2 0, D.i (IntKind.i64.wrap ((minI 3 (s.str.length : Int)) + (1 : Int))), D.i 0, D.n r0.list]).bind fun t2 =>
    bif (inB (minI 3 (s.str.length : Int)) (s.str.length + 1)) then
      rec [D.s (s.str.drop ((minI 3 (s.str.length : Int)).toNat)), D.n ((D.nth t2.2 0).list)]
    else
      none
  else
    some (0, [D.n r0.list])
def c_token_Encode_0 (K : Nat) : Cut := { sh := { sl := [(0, .d 9 true), (3, .own 197 0)], ob := [(0, .row 5 true)] }, kept := [], outs := [(.exit 0, { sl := [(3, .own 197 0)], ob := [(0, .row 5 true)] })], f := fun ds => fixN (b_token_Encode_0 K) K ds }
def f_token_Encode (K : Nat) (s : D) : Option (List D) :=
  (fixN (b_token_Encode_0 K) K [s, D.n []]).bind fun t1 =>
  some [D.s (((D.nth t1.2 0).list).map toByte)]
def e_token_Encode (K : Nat) : Entry := { n := 1, sh := { sl := [(0, .d 9 false)], ob := [] }, kept := [], rs := [{ sl := [(0, .d 9 true)], ob := [] }], f := fun ds => f_token_Encode K (D.nth ds 0), tot := none }
def T_token_Encode (K : Nat) : Tbl := { T0 with ents := entsOf [], cuts := lk [(0, c_token_Encode_0 K), (1, c_token_Encode_1 K), (2, c_token_Encode_2 K)] }
theorem q_token_Encode_2 (K : Nat) (rec : List D → Option (Nat × List D)) (ds : List D) : evLoop (T_token_Encode K) 50 (sub (codeOf Try.f121) [1, 1, 0, 0, 0, 1, 0, 1, 1, 1, 0, 1, 0, 0]) .go (c_token_Encode_2 K) rec ds = b_token_Encode_2 K rec ds := by kernel_rfl
theorem k_token_Encode_2 (K : Nat) : CutOK Try.prog (T_token_Encode K) 50 (sub (codeOf Try.f121) [1, 1, 0, 0, 0, 1, 0, 1, 1, 1, 0, 1, 0]) (c_token_Encode_2 K) :=
  loop_thm (T := T_token_Encode K) (hT_of hT0 rfl rfl rfl) (hes_ok (T0 := T0) (T := T_token_Encode K) rfl rfl (trivial : FAll Try.prog T0 [])) (by kernel_rfl) rfl rfl rfl (cutsOK_none (by rfl)) rfl (q_token_Encode_2 K)
theorem q_token_Encode_1 (K : Nat) (rec : List D → Option (Nat × List D)) (ds : List D) : evLoop (T_token_Encode K) 50 (sub (codeOf Try.f121) [1, 1, 0, 0, 0, 1, 0, 1, 1, 0, 1, 0, 0]) .go (c_token_Encode_1 K) rec ds = b_token_Encode_1 K rec ds := by kernel_rfl
theorem k_token_Encode_1 (K : Nat) : CutOK Try.prog (T_token_Encode K) 50 (sub (codeOf Try.f121) [1, 1, 0, 0, 0, 1, 0, 1, 1, 0, 1, 0]) (c_token_Encode_1 K) :=
  loop_thm (T := T_token_Encode K) (hT_of hT0 rfl rfl rfl) (hes_ok (T0 := T0) (T := T_token_Encode K) rfl rfl (trivial : FAll Try.prog T0 [])) (by kernel_rfl) rfl rfl rfl (cutsOK_none (by rfl)) rfl (q_token_Encode_1 K)
theorem q_token_Encode_0 (K : Nat) (rec : List D → Option (Nat × List D)) (ds : List D) : evLoop (T_token_Encode K) 50 (sub (codeOf Try.f121) [1, 1, 0, 0, 0]) (.seq .go (.blk (.seq .go (.seq .go (.seq (.seq .go (.blk (.cut 1))) (.seq (.seq .go (.blk (.cut 2))) .go)))))) (c_token_Encode_0 K) rec ds = b_token_Encode_0 K rec ds := by kernel_rfl
theorem k_token_Encode_0 (K : Nat) : CutOK Try.prog (T_token_Encode K) 50 (sub (codeOf Try.f121) [1, 1, 0, 0]) (c_token_Encode_0 K) :=
  loop_thm (T := T_token_Encode K) (hT_of hT0 rfl rfl rfl) (hes_ok (T0 := T0) (T := T_token_Encode K) rfl rfl (trivial : FAll Try.prog T0 [])) (by kernel_rfl) rfl rfl rfl (cutsOK_list (l := [(1, sub (codeOf Try.f121) [1, 1, 0, 0, 0, 1, 0, 1, 1, 0, 1, 0]), (2, sub (codeOf Try.f121) [1, 1, 0, 0, 0, 1, 0, 1, 1, 1, 0, 1, 0])]) (by kernel_rfl) ⟨cut_one (u := c_token_Encode_1 K) rfl (k_token_Encode_1 K), cut_one (u := c_token_Encode_2 K) rfl (k_token_Encode_2 K), trivial⟩) rfl (q_token_Encode_0 K)
theorem q_token_Encode (K : Nat) (ds : List D) : evFn (T_token_Encode K) Try.f121 (.seq .go (.seq .go (.seq (.blk (.cut 0)) .go))) (e_token_Encode K) ds = (e_token_Encode K).f ds := by kernel_rfl
theorem ok_token_Encode (K : Nat) : FnOK Try.prog T0 121 (e_token_Encode K) :=
  fn_thm (T0 := T0) (T := T_token_Encode K) rfl (hT_of hT0 rfl rfl rfl) (hes_ok (T0 := T0) (T := T_token_Encode K) rfl rfl (trivial : FAll Try.prog T0 [])) Try.func121 (by decide) rfl (Nat.le_of_ble_eq_true rfl) rfl rfl rfl (tot_none rfl) (cutsOK_list (l := [(0, sub (codeOf Try.f121) [1, 1, 0, 0])]) (by kernel_rfl) ⟨cut_one (u := c_token_Encode_0 K) rfl (k_token_Encode_0 K), trivial⟩) (q_token_Encode K)
/-! ### 63 gatewarden/gatelaw2.signed -/
def f_gatelaw2_signed (K : Nat) : Option (List D) :=
  (f_token_Encode K (D.s [97, 98])).bind fun t1 =>
  some [D.b (((D.nth t1 0).str) == ([89, 87, 73] : List UInt8))]
def e_gatelaw2_signed (K : Nat) : Entry := { n := 0, sh := { sl := [], ob := [] }, kept := [], rs := [{ sl := [(0, .d 4 true)], ob := [] }], f := fun ds => f_gatelaw2_signed K, tot := none }
def T_gatelaw2_signed (K : Nat) : Tbl := { T0 with ents := entsOf [(121, e_token_Encode K)], cuts := lk [] }
theorem q_gatelaw2_signed (K : Nat) (ds : List D) : evFn (T_gatelaw2_signed K) Try.f63 .go (e_gatelaw2_signed K) ds = (e_gatelaw2_signed K).f ds := by kernel_rfl
theorem ok_gatelaw2_signed (K : Nat) : FnOK Try.prog T0 63 (e_gatelaw2_signed K) :=
  fn_thm (T0 := T0) (T := T_gatelaw2_signed K) rfl (hT_of hT0 rfl rfl rfl) (hes_ok (T0 := T0) (T := T_gatelaw2_signed K) rfl rfl (⟨ok_token_Encode K, trivial⟩ : FAll Try.prog T0 [(121, e_token_Encode K)])) Try.func63 (by decide) rfl (Nat.le_of_ble_eq_true rfl) rfl rfl rfl (tot_none rfl) (cutsOK_none (by rfl)) (q_gatelaw2_signed K)
/-! ### 7 gatewarden/gatelaw2.SignersRotate -/
def b_gatelaw2_SignersRotate_0 (K : Nat) (ds : List D) : Option (Nat × List D) :=
  let id := D.nth ds 0
  let secret := D.nth ds 1
  let vat := D.nth ds 2
  let long := D.nth ds 3
  let life := D.nth ds 4
  let fault := D.nth ds 5
  let s45 := D.nth ds 6
  let r0 := D.nth ds 7
  bif s45.bool then
    (f_gateref2_RotateOf K (D.n r0.list) id secret vat long life).bind fun t9 =>
    some (0, [D.nth t9 0, D.n r0.list, D.n ((D.nth t9 1).list)])
  else
    some (0, [fault, D.n r0.list, D.n []])
def c_gatelaw2_SignersRotate_0 (K : Nat) : Cut := { sh := { sl := [(4, .own 93 0), (5, .d 9 true), (6, .d 9 true), (7, .d 3 true), (8, .d 3 true), (9, .d 3 true), (12, .d 30 true), (13, .nil 93), (45, .d 4 true)], ob := [(0, .row 103 true)] }, kept := [0], outs := [(.normal, { sl := [(12, .d 30 true), (13, .own 93 1)], ob := [(0, .row 103 true), (1, .row 103 true)] })], f := b_gatelaw2_SignersRotate_0 K }
def f_gatelaw2_SignersRotate (K : Nat) (l : D) : Option (List D) :=
  (f_gatemake_Stream_Signers K (D.n [l, D.i 0])).bind fun t1 =>
  (f_gatemake_Stream_Some K (D.nth t1 0) (D.n [D.s [115, 52], D.s [115, 52], D.s [115, 53], D.s [115, 49], D.s [], D.s [65]])).bind fun t2 =>
  (f_gatemake_Stream_Secret K (D.nth t2 1)).bind fun t3 =>
  (f_gatemake_Stream_Moment K (D.nth t3 1)).bind fun t4 =>
  (f_gatemake_Stream_Pick K (D.nth t4 1) (D.n [D.i 1, D.i 10, D.i 100, D.i 345686400000, D.i 0, D.i 345686400001])).bind fun t5 =>
  (f_gatemake_Stream_Pick K (D.nth t5 1) (D.n [D.i 0, D.i 5, D.i 100, D.i 345686400000, D.i (-1)])).bind fun t6 =>
  (f_token_Rotate K (D.n ((D.nth t1 1).list)) (D.nth t2 0) (D.nth t3 0) (D.nth t4 0) (D.nth t5 0) (D.nth t6 0)).bind fun t7 =>
  (f_gateref2_SignersFault K (D.n ((D.nth t1 1).list))).bind fun t8 =>
  (b_gatelaw2_SignersRotate_0 K [D.nth t2 0, D.nth t3 0, D.nth t4 0, D.nth t5 0, D.nth t6 0, D.nth t8 0, D.b (((D.nth t8 0).int) == (0 : Int)), D.n ((D.nth t1 1).list)]).bind fun t9 =>
  bif (((D.nth t7 0).int) == ((D.nth t9.2 0).int)) then
    (f_slices_Equal_api_Signer K (D.n ((D.nth t7 1).list)) (D.n ((D.nth t9.2 2).list))).bind fun t10 =>
    bif (D.nth t10 0).bool then
      (f_gatelaw2_signed K).bind fun t11 =>
      some [D.b ((D.nth t11 0).bool)]
    else
      some [D.b false]
  else
    some [D.b false]
def e_gatelaw2_SignersRotate (K : Nat) : Entry := { n := 1, sh := { sl := [(0, .d 22 false)], ob := [] }, kept := [], rs := [{ sl := [(0, .d 4 true)], ob := [] }], f := fun ds => f_gatelaw2_SignersRotate K (D.nth ds 0), tot := none }
def T_gatelaw2_SignersRotate (K : Nat) : Tbl := { T0 with ents := entsOf [(55, e_gatemake_Stream_Signers K), (56, e_gatemake_Stream_Some K), (57, e_gatemake_Stream_Secret K), (58, e_gatemake_Stream_Moment K), (14, e_gatemake_Stream_Pick K), (59, e_token_Rotate K), (60, e_gateref2_SignersFault K), (61, e_gateref2_RotateOf K), (62, e_slices_Equal_api_Signer K), (63, e_gatelaw2_signed K)], cuts := lk [(0, c_gatelaw2_SignersRotate_0 K)] }
theorem q_gatelaw2_SignersRotate_0 (K : Nat) (ds : List D) : evPiece (T_gatelaw2_SignersRotate K) 67 (sub (codeOf Try.f7) [1, 1, 1, 1, 1, 1, 1, 0, 1]) .go (c_gatelaw2_SignersRotate_0 K) ds = b_gatelaw2_SignersRotate_0 K ds := by kernel_rfl
theorem k_gatelaw2_SignersRotate_0 (K : Nat) : CutOK Try.prog (T_gatelaw2_SignersRotate K) 67 (sub (codeOf Try.f7) [1, 1, 1, 1, 1, 1, 1, 0, 1]) (c_gatelaw2_SignersRotate_0 K) :=
  piece_thm (T := T_gatelaw2_SignersRotate K) (hT_of hT0 rfl rfl rfl) (hes_ok (T0 := T0) (T := T_gatelaw2_SignersRotate K) rfl rfl (⟨ok_gatemake_Stream_Signers K, ok_gatemake_Stream_Some K, ok_gatemake_Stream_Secret K, ok_gatemake_Stream_Moment K, ok_gatemake_Stream_Pick K, ok_token_Rotate K, ok_gateref2_SignersFault K, ok_gateref2_RotateOf K, ok_slices_Equal_api_Signer K, ok_gatelaw2_signed K, trivial⟩ : FAll Try.prog T0 [(55, e_gatemake_Stream_Signers K), (56, e_gatemake_Stream_Some K), (57, e_gatemake_Stream_Secret K), (58, e_gatemake_Stream_Moment K), (14, e_gatemake_Stream_Pick K), (59, e_token_Rotate K), (60, e_gateref2_SignersFault K), (61, e_gateref2_RotateOf K), (62, e_slices_Equal_api_Signer K), (63, e_gatelaw2_signed K)])) rfl rfl rfl (cutsOK_none (by rfl)) (q_gatelaw2_SignersRotate_0 K)
theorem q_gatelaw2_SignersRotate (K : Nat) (ds : List D) : evFn (T_gatelaw2_SignersRotate K) Try.f7 (.seq .go (.seq .go (.seq .go (.seq .go (.seq .go (.seq .go (.seq .go (.seq (.seq .go (.cut 0)) .go)))))))) (e_gatelaw2_SignersRotate K) ds = (e_gatelaw2_SignersRotate K).f ds := by kernel_rfl
theorem ok_gatelaw2_SignersRotate (K : Nat) : FnOK Try.prog T0 7 (e_gatelaw2_SignersRotate K) :=
  fn_thm (T0 := T0) (T := T_gatelaw2_SignersRotate K) rfl (hT_of hT0 rfl rfl rfl) (hes_ok (T0 := T0) (T := T_gatelaw2_SignersRotate K) rfl rfl (⟨ok_gatemake_Stream_Signers K, ok_gatemake_Stream_Some K, ok_gatemake_Stream_Secret K, ok_gatemake_Stream_Moment K, ok_gatemake_Stream_Pick K, ok_token_Rotate K, ok_gateref2_SignersFault K, ok_gateref2_RotateOf K, ok_slices_Equal_api_Signer K, ok_gatelaw2_signed K, trivial⟩ : FAll Try.prog T0 [(55, e_gatemake_Stream_Signers K), (56, e_gatemake_Stream_Some K), (57, e_gatemake_Stream_Secret K), (58, e_gatemake_Stream_Moment K), (14, e_gatemake_Stream_Pick K), (59, e_token_Rotate K), (60, e_gateref2_SignersFault K), (61, e_gateref2_RotateOf K), (62, e_slices_Equal_api_Signer K), (63, e_gatelaw2_signed K)])) Try.func7 (by decide) rfl (Nat.le_of_ble_eq_true rfl) rfl rfl rfl (tot_none rfl) (cutsOK_list (l := [(0, sub (codeOf Try.f7) [1, 1, 1, 1, 1, 1, 1, 0, 1])]) (by kernel_rfl) ⟨cut_one (u := c_gatelaw2_SignersRotate_0 K) rfl (k_gatelaw2_SignersRotate_0 K), trivial⟩) (q_gatelaw2_SignersRotate K)
end Go.Proofs.YtlogmjgkbfahjaaP
