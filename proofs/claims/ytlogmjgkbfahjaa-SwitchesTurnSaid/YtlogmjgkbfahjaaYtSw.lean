/- Printed by gen.py. -/
import Derived.Test.YtlogmjgkbfahjaaProg
import Derived.Test.YtlogmjgkbfahjaaEvKit
import Derived.Test.YtlogmjgkbfahjaaEvClear
namespace Go.Proofs.YtlogmjgkbfahjaaP
open Go Go.Ev
set_option linter.unusedVariables false
def tys : List (Nat × K) := [(3, .int .i64), (4, .bool), (5, .int .u8), (9, .str), (22, .slice 3 (.int .i64)), (25, .pair 22 (.slice 3 (.int .i64)) (.pair 3 (.int .i64) .unit)), (27, .pair 3 (.int .i64) (.pair 3 (.int .i64) (.pair 3 (.int .i64) (.pair 3 (.int .i64) .unit)))), (29, .ptr), (30, .int .i64), (37, .pair 27 (.pair 3 (.int .i64) (.pair 3 (.int .i64) (.pair 3 (.int .i64) (.pair 3 (.int .i64) .unit)))) (.pair 4 .bool (.pair 3 (.int .i64) (.pair 22 (.slice 3 (.int .i64)) (.pair 3 (.int .i64) (.pair 3 (.int .i64) (.pair 3 (.int .i64) .unit))))))), (48, .slice 121 (.pair 9 .str (.pair 3 (.int .i64) .unit))), (73, .slice 9 .str), (118, .pair 27 (.pair 3 (.int .i64) (.pair 3 (.int .i64) (.pair 3 (.int .i64) (.pair 3 (.int .i64) .unit)))) (.pair 3 (.int .i64) (.pair 3 (.int .i64) (.pair 3 (.int .i64) (.pair 22 (.slice 3 (.int .i64)) (.pair 3 (.int .i64) (.pair 3 (.int .i64) .unit))))))), (121, .pair 9 .str (.pair 3 (.int .i64) .unit))]
def T0 : Tbl := { kd := lk tys, boolT := 4, intT := 3, byteT := 5, frz := fun _ => false, ents := fun _ => [], cuts := fun _ => none }
theorem ty3 : TyOK Try.prog (lk tys) 3 (.int .i64) :=
  tyOK (z := .int .i64 0) (n := 1) (by kernel_rfl) rfl rfl rfl Try.underlying3 rfl (fun _ h => by cases h)
theorem ty4 : TyOK Try.prog (lk tys) 4 .bool :=
  tyOK (z := .bool false) (n := 1) (by kernel_rfl) rfl rfl rfl Try.underlying4 rfl (fun _ h => by cases h)
theorem ty5 : TyOK Try.prog (lk tys) 5 (.int .u8) :=
  tyOK (z := .int .u8 0) (n := 1) (by kernel_rfl) rfl rfl rfl Try.underlying5 rfl (fun _ h => by cases h)
theorem ty9 : TyOK Try.prog (lk tys) 9 .str :=
  tyOK (z := .string ⟨#[]⟩) (n := 1) (by kernel_rfl) rfl rfl rfl Try.underlying9 rfl (fun _ h => by cases h)
theorem ty22 : TyOK Try.prog (lk tys) 22 (.slice 3 (.int .i64)) :=
  tyOK (z := .slice none 0 0) (n := 1) (by kernel_rfl) rfl rfl rfl Try.underlying22 ⟨_, rfl, rfl⟩ (fun _ h => by cases h)
theorem ty25 : TyOK Try.prog (lk tys) 25 (.pair 22 (.slice 3 (.int .i64)) (.pair 3 (.int .i64) .unit)) :=
  tyOK (z := .agg #[.slice none 0 0, .int .i64 0]) (n := 2) (by kernel_rfl) rfl ⟨[.slice none 0 0], [.int .i64 0], rfl, rfl, ⟨[.int .i64 0], [], rfl, rfl, rfl⟩⟩ rfl Try.underlying25 ⟨⟨rfl, rfl, rfl, by decide, ⟨rfl, rfl, rfl, by decide, rfl⟩⟩, rfl⟩ (fun h => by cases h)
theorem ty27 : TyOK Try.prog (lk tys) 27 (.pair 3 (.int .i64) (.pair 3 (.int .i64) (.pair 3 (.int .i64) (.pair 3 (.int .i64) .unit)))) :=
  tyOK (z := .agg #[.int .i64 0, .int .i64 0, .int .i64 0, .int .i64 0]) (n := 4) (by kernel_rfl) rfl ⟨[.int .i64 0], [.int .i64 0, .int .i64 0, .int .i64 0], rfl, rfl, ⟨[.int .i64 0], [.int .i64 0, .int .i64 0], rfl, rfl, ⟨[.int .i64 0], [.int .i64 0], rfl, rfl, ⟨[.int .i64 0], [], rfl, rfl, rfl⟩⟩⟩⟩ rfl Try.underlying27 ⟨⟨rfl, rfl, rfl, by decide, ⟨rfl, rfl, rfl, by decide, ⟨rfl, rfl, rfl, by decide, ⟨rfl, rfl, rfl, by decide, rfl⟩⟩⟩⟩, rfl⟩ (fun _ _ => ⟨by kernel_rfl, by kernel_rfl⟩)
theorem ty29 : TyOK Try.prog (lk tys) 29 .ptr :=
  tyOK (z := .pointer none) (n := 1) (by kernel_rfl) rfl rfl rfl Try.underlying29 rfl (fun _ h => by cases h)
theorem ty30 : TyOK Try.prog (lk tys) 30 (.int .i64) :=
  tyOK (z := .int .i64 0) (n := 1) (by kernel_rfl) rfl rfl rfl Try.underlying30 rfl (fun _ h => by cases h)
theorem ty37 : TyOK Try.prog (lk tys) 37 (.pair 27 (.pair 3 (.int .i64) (.pair 3 (.int .i64) (.pair 3 (.int .i64) (.pair 3 (.int .i64) .unit)))) (.pair 4 .bool (.pair 3 (.int .i64) (.pair 22 (.slice 3 (.int .i64)) (.pair 3 (.int .i64) (.pair 3 (.int .i64) (.pair 3 (.int .i64) .unit))))))) :=
  tyOK (z := .agg #[.int .i64 0, .int .i64 0, .int .i64 0, .int .i64 0, .bool false, .int .i64 0, .slice none 0 0, .int .i64 0, .int .i64 0, .int .i64 0]) (n := 10) (by kernel_rfl) rfl ⟨[.int .i64 0, .int .i64 0, .int .i64 0, .int .i64 0], [.bool false, .int .i64 0, .slice none 0 0, .int .i64 0, .int .i64 0, .int .i64 0], rfl, ⟨[.int .i64 0], [.int .i64 0, .int .i64 0, .int .i64 0], rfl, rfl, ⟨[.int .i64 0], [.int .i64 0, .int .i64 0], rfl, rfl, ⟨[.int .i64 0], [.int .i64 0], rfl, rfl, ⟨[.int .i64 0], [], rfl, rfl, rfl⟩⟩⟩⟩, ⟨[.bool false], [.int .i64 0, .slice none 0 0, .int .i64 0, .int .i64 0, .int .i64 0], rfl, rfl, ⟨[.int .i64 0], [.slice none 0 0, .int .i64 0, .int .i64 0, .int .i64 0], rfl, rfl, ⟨[.slice none 0 0], [.int .i64 0, .int .i64 0, .int .i64 0], rfl, rfl, ⟨[.int .i64 0], [.int .i64 0, .int .i64 0], rfl, rfl, ⟨[.int .i64 0], [.int .i64 0], rfl, rfl, ⟨[.int .i64 0], [], rfl, rfl, rfl⟩⟩⟩⟩⟩⟩⟩ rfl Try.underlying37 ⟨⟨rfl, rfl, rfl, by decide, ⟨rfl, rfl, rfl, by decide, ⟨rfl, rfl, rfl, by decide, ⟨rfl, rfl, rfl, by decide, ⟨rfl, rfl, rfl, by decide, ⟨rfl, rfl, rfl, by decide, ⟨rfl, rfl, rfl, by decide, rfl⟩⟩⟩⟩⟩⟩⟩, rfl⟩ (fun h => by cases h)
theorem ty48 : TyOK Try.prog (lk tys) 48 (.slice 121 (.pair 9 .str (.pair 3 (.int .i64) .unit))) :=
  tyOK (z := .slice none 0 0) (n := 1) (by kernel_rfl) rfl rfl rfl Try.underlying48 ⟨_, rfl, rfl⟩ (fun _ h => by cases h)
theorem ty73 : TyOK Try.prog (lk tys) 73 (.slice 9 .str) :=
  tyOK (z := .slice none 0 0) (n := 1) (by kernel_rfl) rfl rfl rfl Try.underlying73 ⟨_, rfl, rfl⟩ (fun _ h => by cases h)
theorem ty118 : TyOK Try.prog (lk tys) 118 (.pair 27 (.pair 3 (.int .i64) (.pair 3 (.int .i64) (.pair 3 (.int .i64) (.pair 3 (.int .i64) .unit)))) (.pair 3 (.int .i64) (.pair 3 (.int .i64) (.pair 3 (.int .i64) (.pair 22 (.slice 3 (.int .i64)) (.pair 3 (.int .i64) (.pair 3 (.int .i64) .unit))))))) :=
  tyOK (z := .agg #[.int .i64 0, .int .i64 0, .int .i64 0, .int .i64 0, .int .i64 0, .int .i64 0, .int .i64 0, .slice none 0 0, .int .i64 0, .int .i64 0]) (n := 10) (by kernel_rfl) rfl ⟨[.int .i64 0, .int .i64 0, .int .i64 0, .int .i64 0], [.int .i64 0, .int .i64 0, .int .i64 0, .slice none 0 0, .int .i64 0, .int .i64 0], rfl, ⟨[.int .i64 0], [.int .i64 0, .int .i64 0, .int .i64 0], rfl, rfl, ⟨[.int .i64 0], [.int .i64 0, .int .i64 0], rfl, rfl, ⟨[.int .i64 0], [.int .i64 0], rfl, rfl, ⟨[.int .i64 0], [], rfl, rfl, rfl⟩⟩⟩⟩, ⟨[.int .i64 0], [.int .i64 0, .int .i64 0, .slice none 0 0, .int .i64 0, .int .i64 0], rfl, rfl, ⟨[.int .i64 0], [.int .i64 0, .slice none 0 0, .int .i64 0, .int .i64 0], rfl, rfl, ⟨[.int .i64 0], [.slice none 0 0, .int .i64 0, .int .i64 0], rfl, rfl, ⟨[.slice none 0 0], [.int .i64 0, .int .i64 0], rfl, rfl, ⟨[.int .i64 0], [.int .i64 0], rfl, rfl, ⟨[.int .i64 0], [], rfl, rfl, rfl⟩⟩⟩⟩⟩⟩⟩ rfl Try.underlying118 ⟨⟨rfl, rfl, rfl, by decide, ⟨rfl, rfl, rfl, by decide, ⟨rfl, rfl, rfl, by decide, ⟨rfl, rfl, rfl, by decide, ⟨rfl, rfl, rfl, by decide, ⟨rfl, rfl, rfl, by decide, ⟨rfl, rfl, rfl, by decide, rfl⟩⟩⟩⟩⟩⟩⟩, rfl⟩ (fun h => by cases h)
theorem ty121 : TyOK Try.prog (lk tys) 121 (.pair 9 .str (.pair 3 (.int .i64) .unit)) :=
  tyOK (z := .agg #[.string ⟨#[]⟩, .int .i64 0]) (n := 2) (by kernel_rfl) rfl ⟨[.string ⟨#[]⟩], [.int .i64 0], rfl, rfl, ⟨[.int .i64 0], [], rfl, rfl, rfl⟩⟩ rfl Try.underlying121 ⟨⟨rfl, rfl, rfl, by decide, ⟨rfl, rfl, rfl, by decide, rfl⟩⟩, rfl⟩ (fun _ _ => ⟨by kernel_rfl, by kernel_rfl⟩)
theorem hT0 : TblOK Try.prog T0 :=
  ⟨AllTy.get (l := tys) ⟨ty3, ty4, ty5, ty9, ty22, ty25, ty27, ty29, ty30, ty37, ty48, ty73, ty118, ty121, trivial⟩, rfl, rfl, by kernel_rfl⟩
/-! ### 81 gatewarden/gatemake.Below -/
def f_gatemake_Below (K : Nat) (x n : D) : Option (List D) :=
  bif (ltI n.int 1) then
    some [D.i 0]
  else
    bif (!(eqI n.int 0)) then
      bif (ltI (Int.tmod x.int n.int) 0) then
        some [D.i (IntKind.i64.wrap ((Int.tmod x.int n.int) + n.int))]
      else
        some [D.i (Int.tmod x.int n.int)]
    else
      none
def e_gatemake_Below (K : Nat) : Entry := { n := 2, sh := { sl := [(0, .d 3 false), (1, .d 3 false)], ob := [] }, kept := [], rs := [{ sl := [(0, .d 3 true)], ob := [] }], f := fun ds => f_gatemake_Below K (D.nth ds 0) (D.nth ds 1), tot := none }
def T_gatemake_Below (K : Nat) : Tbl := { T0 with ents := entsOf [], cuts := lk [] }
theorem q_gatemake_Below (K : Nat) (ds : List D) : evFn (T_gatemake_Below K) Try.f81 .go (e_gatemake_Below K) ds = (e_gatemake_Below K).f ds := by kernel_rfl
theorem ok_gatemake_Below (K : Nat) : FnOK Try.prog T0 81 (e_gatemake_Below K) :=
  fn_thm (T0 := T0) (T := T_gatemake_Below K) rfl (hT_of hT0 rfl rfl rfl) (hes_ok (T0 := T0) (T := T_gatemake_Below K) rfl rfl (trivial : FAll Try.prog T0 [])) Try.func81 (by decide) rfl (Nat.le_of_ble_eq_true rfl) rfl rfl rfl (tot_none rfl) (cutsOK_none (by rfl)) (q_gatemake_Below K)
/-! ### 16 (*gatewarden/gatemake.Stream).Next -/
def f_gatemake_Stream_Next (K : Nat) (n o0 : D) : Option (List D) :=
  bif ((((o0.at' 0).list).length : Int) == (0 : Int)) then
    (f_gatemake_Below K (D.i (IntKind.i64.wrap ((IntKind.i64.wrap (((o0.at' 1).int) + (1 : Int))) * (7919 : Int)))) n).bind fun t1 =>
    some [D.nth t1 0, D.n [o0.at' 0, D.i (IntKind.i64.wrap (((o0.at' 1).int) + (1 : Int)))]]
  else
    bif (!(eqI (((o0.at' 0).list).length : Int) 0)) then
      bif (!(eqI (((o0.at' 0).list).length : Int) 0)) then
        bif (inB (Int.tmod (IntKind.i64.wrap ((IntKind.i64.wrap (((o0.at' 1).int) + (1 : Int))) - (1 : Int))) (((o0.at' 0).list).length : Int)) (((o0.at' 0).list).length)) then
          (f_gatemake_Below K (D.nth ((o0.at' 0).list) ((Int.tmod (IntKind.i64.wrap ((IntKind.i64.wrap (((o0.at' 1).int) + (1 : Int))) - (1 : Int))) (((o0.at' 0).list).length : Int)).toNat)) (D.i 1073741824)).bind fun t2 =>
          (f_gatemake_Below K (D.i (IntKind.i64.wrap (((D.nth t2 0).int) + (IntKind.i64.wrap ((IntKind.i64.wrap (Int.tdiv (IntKind.i64.wrap ((IntKind.i64.wrap (((o0.at' 1).int) + (1 : Int))) - (1 : Int))) (((o0.at' 0).list).length : Int))) * (IntKind.i64.wrap ((7919 : Int) + (Int.tmod (IntKind.i64.wrap ((IntKind.i64.wrap (((o0.at' 1).int) + (1 : Int))) - (1 : Int))) (((o0.at' 0).list).length : Int))))))))) n).bind fun t3 =>
          some [D.nth t3 0, D.n [o0.at' 0, D.i (IntKind.i64.wrap (((o0.at' 1).int) + (1 : Int)))]]
        else
          none
      else
        none
    else
      none
def e_gatemake_Stream_Next (K : Nat) : Entry := { n := 2, sh := { sl := [(0, .ptr 25 0 []), (1, .d 3 false)], ob := [(0, .box 25 (.d 25 false))] }, kept := [0], rs := [{ sl := [(0, .d 3 true)], ob := [(0, .box 25 (.d 25 false))] }], f := fun ds => f_gatemake_Stream_Next K (D.nth ds 0) (D.nth ds 1), tot := none }
def T_gatemake_Stream_Next (K : Nat) : Tbl := { T0 with ents := entsOf [(81, e_gatemake_Below K)], cuts := lk [] }
theorem q_gatemake_Stream_Next (K : Nat) (ds : List D) : evFn (T_gatemake_Stream_Next K) Try.f16 .go (e_gatemake_Stream_Next K) ds = (e_gatemake_Stream_Next K).f ds := by kernel_rfl
theorem ok_gatemake_Stream_Next (K : Nat) : FnOK Try.prog T0 16 (e_gatemake_Stream_Next K) :=
  fn_thm (T0 := T0) (T := T_gatemake_Stream_Next K) rfl (hT_of hT0 rfl rfl rfl) (hes_ok (T0 := T0) (T := T_gatemake_Stream_Next K) rfl rfl (⟨ok_gatemake_Below K, trivial⟩ : FAll Try.prog T0 [(81, e_gatemake_Below K)])) Try.func16 (by decide) rfl (Nat.le_of_ble_eq_true rfl) rfl rfl rfl (tot_none rfl) (cutsOK_none (by rfl)) (q_gatemake_Stream_Next K)
/-! ### 14 (*gatewarden/gatemake.Stream).Pick -/
def f_gatemake_Stream_Pick (K : Nat) (o0 r1 : D) : Option (List D) :=
  (f_gatemake_Stream_Next K (D.i (r1.list.length : Int)) o0).bind fun t1 =>
  bif (inB ((D.nth t1 0).int) r1.list.length) then
    some [D.nth r1.list (((D.nth t1 0).int).toNat), D.nth t1 1, D.n r1.list]
  else
    none
def e_gatemake_Stream_Pick (K : Nat) : Entry := { n := 2, sh := { sl := [(0, .ptr 25 0 []), (1, .own 22 1)], ob := [(0, .box 25 (.d 25 false)), (1, .row 3 true)] }, kept := [0, 1], rs := [{ sl := [(0, .d 3 true)], ob := [(0, .box 25 (.d 25 false)), (1, .row 3 true)] }], f := fun ds => f_gatemake_Stream_Pick K (D.nth ds 0) (D.nth ds 1), tot := none }
def T_gatemake_Stream_Pick (K : Nat) : Tbl := { T0 with ents := entsOf [(16, e_gatemake_Stream_Next K)], cuts := lk [] }
theorem q_gatemake_Stream_Pick (K : Nat) (ds : List D) : evFn (T_gatemake_Stream_Pick K) Try.f14 .go (e_gatemake_Stream_Pick K) ds = (e_gatemake_Stream_Pick K).f ds := by kernel_rfl
theorem ok_gatemake_Stream_Pick (K : Nat) : FnOK Try.prog T0 14 (e_gatemake_Stream_Pick K) :=
  fn_thm (T0 := T0) (T := T_gatemake_Stream_Pick K) rfl (hT_of hT0 rfl rfl rfl) (hes_ok (T0 := T0) (T := T_gatemake_Stream_Pick K) rfl rfl (⟨ok_gatemake_Stream_Next K, trivial⟩ : FAll Try.prog T0 [(16, e_gatemake_Stream_Next K)])) Try.func14 (by decide) rfl (Nat.le_of_ble_eq_true rfl) rfl rfl rfl (tot_none rfl) (cutsOK_none (by rfl)) (q_gatemake_Stream_Pick K)
/-! ### 15 (*gatewarden/gatemake.Stream).Flip -/
def f_gatemake_Stream_Flip (K : Nat) (n o0 : D) : Option (List D) :=
  (f_gatemake_Stream_Next K n o0).bind fun t1 =>
  some [D.b (((D.nth t1 0).int) == (0 : Int)), D.nth t1 1]
def e_gatemake_Stream_Flip (K : Nat) : Entry := { n := 2, sh := { sl := [(0, .ptr 25 0 []), (1, .d 3 false)], ob := [(0, .box 25 (.d 25 false))] }, kept := [0], rs := [{ sl := [(0, .d 4 true)], ob := [(0, .box 25 (.d 25 false))] }], f := fun ds => f_gatemake_Stream_Flip K (D.nth ds 0) (D.nth ds 1), tot := none }
def T_gatemake_Stream_Flip (K : Nat) : Tbl := { T0 with ents := entsOf [(16, e_gatemake_Stream_Next K)], cuts := lk [] }
theorem q_gatemake_Stream_Flip (K : Nat) (ds : List D) : evFn (T_gatemake_Stream_Flip K) Try.f15 .go (e_gatemake_Stream_Flip K) ds = (e_gatemake_Stream_Flip K).f ds := by kernel_rfl
theorem ok_gatemake_Stream_Flip (K : Nat) : FnOK Try.prog T0 15 (e_gatemake_Stream_Flip K) :=
  fn_thm (T0 := T0) (T := T_gatemake_Stream_Flip K) rfl (hT_of hT0 rfl rfl rfl) (hes_ok (T0 := T0) (T := T_gatemake_Stream_Flip K) rfl rfl (⟨ok_gatemake_Stream_Next K, trivial⟩ : FAll Try.prog T0 [(16, e_gatemake_Stream_Next K)])) Try.func15 (by decide) rfl (Nat.le_of_ble_eq_true rfl) rfl rfl rfl (tot_none rfl) (cutsOK_none (by rfl)) (q_gatemake_Stream_Flip K)
/-! ### 13 (*gatewarden/gatemake.Stream).Range -/
def f_gatemake_Stream_Range (K : Nat) (low high o0 : D) : Option (List D) :=
  bif (ltI high.int low.int) then
    some [low, o0]
  else
    (f_gatemake_Stream_Next K (D.i (IntKind.i64.wrap ((IntKind.i64.wrap (high.int - low.int)) + (1 : Int)))) o0).bind fun t1 =>
    some [D.i (IntKind.i64.wrap (low.int + ((D.nth t1 0).int))), D.nth t1 1]
def e_gatemake_Stream_Range (K : Nat) : Entry := { n := 3, sh := { sl := [(0, .ptr 25 0 []), (1, .d 3 false), (2, .d 3 false)], ob := [(0, .box 25 (.d 25 false))] }, kept := [0], rs := [{ sl := [(0, .d 3 true)], ob := [(0, .box 25 (.d 25 false))] }], f := fun ds => f_gatemake_Stream_Range K (D.nth ds 0) (D.nth ds 1) (D.nth ds 2), tot := none }
def T_gatemake_Stream_Range (K : Nat) : Tbl := { T0 with ents := entsOf [(16, e_gatemake_Stream_Next K)], cuts := lk [] }
theorem q_gatemake_Stream_Range (K : Nat) (ds : List D) : evFn (T_gatemake_Stream_Range K) Try.f13 .go (e_gatemake_Stream_Range K) ds = (e_gatemake_Stream_Range K).f ds := by kernel_rfl
theorem ok_gatemake_Stream_Range (K : Nat) : FnOK Try.prog T0 13 (e_gatemake_Stream_Range K) :=
  fn_thm (T0 := T0) (T := T_gatemake_Stream_Range K) rfl (hT_of hT0 rfl rfl rfl) (hes_ok (T0 := T0) (T := T_gatemake_Stream_Range K) rfl rfl (⟨ok_gatemake_Stream_Next K, trivial⟩ : FAll Try.prog T0 [(16, e_gatemake_Stream_Next K)])) Try.func13 (by decide) rfl (Nat.le_of_ble_eq_true rfl) rfl rfl rfl (tot_none rfl) (cutsOK_none (by rfl)) (q_gatemake_Stream_Range K)
/-! ### 64 (*gatewarden/gatemake.Stream).Odd -/
def f_gatemake_Stream_Odd (K : Nat) (low high o0 : D) : Option (List D) :=
  (f_gatemake_Stream_Flip K (D.i 12) o0).bind fun t1 =>
  bif (D.nth t1 0).bool then
    (f_gatemake_Stream_Pick K (D.nth t1 1) (D.n [D.i (IntKind.i64.wrap (low.int - (1 : Int))), D.i (IntKind.i64.wrap (high.int + (1 : Int))), low, high, D.i (-1099511627776), D.i 1099511627776])).bind fun t2 =>
    some [D.nth t2 0, D.nth t2 1]
  else
    (f_gatemake_Stream_Range K low high (D.nth t1 1)).bind fun t3 =>
    some [D.nth t3 0, D.nth t3 1]
def e_gatemake_Stream_Odd (K : Nat) : Entry := { n := 3, sh := { sl := [(0, .ptr 25 0 []), (1, .d 3 false), (2, .d 3 false)], ob := [(0, .box 25 (.d 25 false))] }, kept := [0], rs := [{ sl := [(0, .d 3 true)], ob := [(0, .box 25 (.d 25 false))] }], f := fun ds => f_gatemake_Stream_Odd K (D.nth ds 0) (D.nth ds 1) (D.nth ds 2), tot := none }
def T_gatemake_Stream_Odd (K : Nat) : Tbl := { T0 with ents := entsOf [(15, e_gatemake_Stream_Flip K), (14, e_gatemake_Stream_Pick K), (13, e_gatemake_Stream_Range K)], cuts := lk [] }
theorem q_gatemake_Stream_Odd (K : Nat) (ds : List D) : evFn (T_gatemake_Stream_Odd K) Try.f64 .go (e_gatemake_Stream_Odd K) ds = (e_gatemake_Stream_Odd K).f ds := by kernel_rfl
theorem ok_gatemake_Stream_Odd (K : Nat) : FnOK Try.prog T0 64 (e_gatemake_Stream_Odd K) :=
  fn_thm (T0 := T0) (T := T_gatemake_Stream_Odd K) rfl (hT_of hT0 rfl rfl rfl) (hes_ok (T0 := T0) (T := T_gatemake_Stream_Odd K) rfl rfl (⟨ok_gatemake_Stream_Flip K, ok_gatemake_Stream_Pick K, ok_gatemake_Stream_Range K, trivial⟩ : FAll Try.prog T0 [(15, e_gatemake_Stream_Flip K), (14, e_gatemake_Stream_Pick K), (13, e_gatemake_Stream_Range K)])) Try.func64 (by decide) rfl (Nat.le_of_ble_eq_true rfl) rfl rfl rfl (tot_none rfl) (cutsOK_none (by rfl)) (q_gatemake_Stream_Odd K)
/-! ### 9 (*gatewarden/gatemake.Stream).Breaker -/
def f_gatemake_Stream_Breaker (K : Nat) (o0 : D) : Option (List D) :=
  (f_gatemake_Stream_Pick K o0 (D.n [D.i 1, D.i 2, D.i 3])).bind fun t1 =>
  (f_gatemake_Stream_Pick K (D.nth t1 1) (D.n [D.i 1, D.i 10, D.i 30])).bind fun t2 =>
  (f_gatemake_Stream_Pick K (D.nth t2 1) (D.n [D.i 1, D.i 5, D.i 20])).bind fun t3 =>
  (f_gatemake_Stream_Pick K (D.nth t3 1) (D.n [D.i 1, D.i 2])).bind fun t4 =>
  (f_gatemake_Stream_Flip K (D.i 15) (D.nth t4 1)).bind fun t5 =>
  bif (D.nth t5 0).bool then
    (f_gatemake_Stream_Odd K (D.i 1) (D.i 100) (D.nth t5 1)).bind fun t6 =>
    (f_gatemake_Stream_Odd K (D.i 1) (D.i 3600000) (D.nth t6 1)).bind fun t7 =>
    (f_gatemake_Stream_Odd K (D.i 1) (D.i 3600000) (D.nth t7 1)).bind fun t8 =>
    (f_gatemake_Stream_Odd K (D.i 1) (D.i 100) (D.nth t8 1)).bind fun t9 =>
    some [D.n [D.nth t6 0, D.nth t7 0, D.nth t8 0, D.nth t9 0], D.nth t9 1]
  else
    some [D.n [D.nth t1 0, D.nth t2 0, D.nth t3 0, D.nth t4 0], D.nth t5 1]
def e_gatemake_Stream_Breaker (K : Nat) : Entry := { n := 1, sh := { sl := [(0, .ptr 25 0 [])], ob := [(0, .box 25 (.d 25 false))] }, kept := [0], rs := [{ sl := [(0, .d 27 true)], ob := [(0, .box 25 (.d 25 false))] }], f := fun ds => f_gatemake_Stream_Breaker K (D.nth ds 0), tot := none }
def T_gatemake_Stream_Breaker (K : Nat) : Tbl := { T0 with ents := entsOf [(14, e_gatemake_Stream_Pick K), (15, e_gatemake_Stream_Flip K), (64, e_gatemake_Stream_Odd K)], cuts := lk [] }
theorem q_gatemake_Stream_Breaker (K : Nat) (ds : List D) : evFn (T_gatemake_Stream_Breaker K) Try.f9 .go (e_gatemake_Stream_Breaker K) ds = (e_gatemake_Stream_Breaker K).f ds := by kernel_rfl
theorem ok_gatemake_Stream_Breaker (K : Nat) : FnOK Try.prog T0 9 (e_gatemake_Stream_Breaker K) :=
  fn_thm (T0 := T0) (T := T_gatemake_Stream_Breaker K) rfl (hT_of hT0 rfl rfl rfl) (hes_ok (T0 := T0) (T := T_gatemake_Stream_Breaker K) rfl rfl (⟨ok_gatemake_Stream_Pick K, ok_gatemake_Stream_Flip K, ok_gatemake_Stream_Odd K, trivial⟩ : FAll Try.prog T0 [(14, e_gatemake_Stream_Pick K), (15, e_gatemake_Stream_Flip K), (64, e_gatemake_Stream_Odd K)])) Try.func9 (by decide) rfl (Nat.le_of_ble_eq_true rfl) rfl rfl rfl (tot_none rfl) (cutsOK_none (by rfl)) (q_gatemake_Stream_Breaker K)
/-! ### 78 gatewarden/kit.Outside -/
def p_kit_Outside (n low high : D) : List D := [D.b (bif (ltI n.int low.int) then true else (gtI n.int high.int))]
def e_kit_Outside (K : Nat) : Entry := { n := 3, sh := { sl := [(0, .d 3 false), (1, .d 3 false), (2, .d 3 false)], ob := [] }, kept := [], rs := [{ sl := [(0, .d 4 true)], ob := [] }], f := fun ds => some (p_kit_Outside (D.nth ds 0) (D.nth ds 1) (D.nth ds 2)), tot := some fun ds => p_kit_Outside (D.nth ds 0) (D.nth ds 1) (D.nth ds 2) }
def T_kit_Outside (K : Nat) : Tbl := { T0 with ents := entsOf [], cuts := lk [] }
theorem q_kit_Outside (K : Nat) (ds : List D) : evFn (T_kit_Outside K) Try.f78 .go (e_kit_Outside K) ds = (e_kit_Outside K).f ds := by kernel_rfl
theorem ok_kit_Outside (K : Nat) : FnOK Try.prog T0 78 (e_kit_Outside K) :=
  fn_thm (T0 := T0) (T := T_kit_Outside K) rfl (hT_of hT0 rfl rfl rfl) (hes_ok (T0 := T0) (T := T_kit_Outside K) rfl rfl (trivial : FAll Try.prog T0 [])) Try.func78 (by decide) rfl (Nat.le_of_ble_eq_true rfl) rfl rfl rfl (tot_some rfl fun _ => rfl) (cutsOK_none (by rfl)) (q_kit_Outside K)
/-! ### 10 gatewarden/upstream.NewSwitch -/
def f_upstream_NewSwitch (K : Nat) (b : D) : Option (List D) :=
  bif (bif (bif (bif (D.nth (p_kit_Outside (b.at' 0) (D.i 1) (D.i 100)) 0).bool then true else (D.nth (p_kit_Outside (b.at' 3) (D.i 1) (D.i 100)) 0).bool) then true else (D.nth (p_kit_Outside (b.at' 1) (D.i 1) (D.i 3600000)) 0).bool) then true else (D.nth (p_kit_Outside (b.at' 2) (D.i 1) (D.i 3600000)) 0).bool) then
    some [D.i 0, D.i 1]
  else
    some [D.i 1, D.i 0, b, D.i 0, D.i 0, D.i 0, D.i 0, D.i 0]
def e_upstream_NewSwitch (K : Nat) : Entry := { n := 1, sh := { sl := [(0, .d 27 false)], ob := [] }, kept := [], rs := [{ sl := [(0, .tup [.nilp, .d 30 true])], ob := [] }, { sl := [(0, .tup [.ptr 118 0 [], .d 30 true])], ob := [(0, .box 118 (.agg 118 [.d 27 true, .d 3 true, .d 3 true, .d 3 true, .nil 22, .d 3 true, .d 3 true]))] }], f := fun ds => f_upstream_NewSwitch K (D.nth ds 0), tot := none }
def T_upstream_NewSwitch (K : Nat) : Tbl := { T0 with frz := fun s => memN [1] s, ents := entsOf [(78, e_kit_Outside K)], cuts := lk [] }
theorem q_upstream_NewSwitch (K : Nat) (ds : List D) : evFn (T_upstream_NewSwitch K) Try.f10 .go (e_upstream_NewSwitch K) ds = (e_upstream_NewSwitch K).f ds := by kernel_rfl
theorem ok_upstream_NewSwitch (K : Nat) : FnOK Try.prog T0 10 (e_upstream_NewSwitch K) :=
  fn_thm (T0 := T0) (T := T_upstream_NewSwitch K) rfl (hT_of hT0 rfl rfl rfl) (hes_ok (T0 := T0) (T := T_upstream_NewSwitch K) rfl rfl (⟨ok_kit_Outside K, trivial⟩ : FAll Try.prog T0 [(78, e_kit_Outside K)])) Try.func10 (by decide) rfl (Nat.le_of_ble_eq_true rfl) rfl rfl rfl (tot_none rfl) (cutsOK_none (by rfl)) (q_upstream_NewSwitch K)
/-! ### 79 gatewarden/gateref2.in -/
def p_gateref2_in (n low high : D) : List D := [D.b (bif (leI low.int n.int) then (leI n.int high.int) else false)]
def e_gateref2_in (K : Nat) : Entry := { n := 3, sh := { sl := [(0, .d 3 false), (1, .d 3 false), (2, .d 3 false)], ob := [] }, kept := [], rs := [{ sl := [(0, .d 4 true)], ob := [] }], f := fun ds => some (p_gateref2_in (D.nth ds 0) (D.nth ds 1) (D.nth ds 2)), tot := some fun ds => p_gateref2_in (D.nth ds 0) (D.nth ds 1) (D.nth ds 2) }
def T_gateref2_in (K : Nat) : Tbl := { T0 with ents := entsOf [], cuts := lk [] }
theorem q_gateref2_in (K : Nat) (ds : List D) : evFn (T_gateref2_in K) Try.f79 .go (e_gateref2_in K) ds = (e_gateref2_in K).f ds := by kernel_rfl
theorem ok_gateref2_in (K : Nat) : FnOK Try.prog T0 79 (e_gateref2_in K) :=
  fn_thm (T0 := T0) (T := T_gateref2_in K) rfl (hT_of hT0 rfl rfl rfl) (hes_ok (T0 := T0) (T := T_gateref2_in K) rfl rfl (trivial : FAll Try.prog T0 [])) Try.func79 (by decide) rfl (Nat.le_of_ble_eq_true rfl) rfl rfl rfl (tot_some rfl fun _ => rfl) (cutsOK_none (by rfl)) (q_gateref2_in K)
/-! ### 11 gatewarden/gateref2.BreakerFault -/
def f_gateref2_BreakerFault (K : Nat) (b : D) : Option (List D) :=
  bif (bif (bif (bif (!((D.nth (p_gateref2_in (b.at' 0) (D.i 1) (D.i 100)) 0).bool)) then true else (!((D.nth (p_gateref2_in (b.at' 3) (D.i 1) (D.i 100)) 0).bool))) then true else (!((D.nth (p_gateref2_in (b.at' 1) (D.i 1) (D.i 3600000)) 0).bool))) then true else (!((D.nth (p_gateref2_in (b.at' 2) (D.i 1) (D.i 3600000)) 0).bool))) then
    some [D.i 1]
  else
    some [D.i 0]
def e_gateref2_BreakerFault (K : Nat) : Entry := { n := 1, sh := { sl := [(0, .d 27 false)], ob := [] }, kept := [], rs := [{ sl := [(0, .d 30 true)], ob := [] }], f := fun ds => f_gateref2_BreakerFault K (D.nth ds 0), tot := none }
def T_gateref2_BreakerFault (K : Nat) : Tbl := { T0 with frz := fun s => memN [1] s, ents := entsOf [(79, e_gateref2_in K)], cuts := lk [] }
theorem q_gateref2_BreakerFault (K : Nat) (ds : List D) : evFn (T_gateref2_BreakerFault K) Try.f11 .go (e_gateref2_BreakerFault K) ds = (e_gateref2_BreakerFault K).f ds := by kernel_rfl
theorem ok_gateref2_BreakerFault (K : Nat) : FnOK Try.prog T0 11 (e_gateref2_BreakerFault K) :=
  fn_thm (T0 := T0) (T := T_gateref2_BreakerFault K) rfl (hT_of hT0 rfl rfl rfl) (hes_ok (T0 := T0) (T := T_gateref2_BreakerFault K) rfl rfl (⟨ok_gateref2_in K, trivial⟩ : FAll Try.prog T0 [(79, e_gateref2_in K)])) Try.func11 (by decide) rfl (Nat.le_of_ble_eq_true rfl) rfl rfl rfl (tot_none rfl) (cutsOK_none (by rfl)) (q_gateref2_BreakerFault K)
/-! ### 97 gatewarden/kit.IsKey -/
def b_kit_IsKey_0 (K : Nat) (rec : List D → Option (Nat × List D)) (ds : List D) : Option (Nat × List D) :=
  let s := D.nth ds 0
  let i := D.nth ds 1
  bif (ltI i.int (s.str.length : Int)) then
    bif (inB i.int s.str.length) then
      bif (!(bif (bif (geI (byteAt s.str i.int.toNat) 97) then (leI (byteAt s.str i.int.toNat) 122) else false) then true else (bif (gtI i.int 0) then (bif (bif (bif (geI (byteAt s.str i.int.toNat) 48) then (leI (byteAt s.str i.int.toNat) 57) else false) then true else ((byteAt s.str i.int.toNat) == (45 : Int))) then true else ((byteAt s.str i.int.toNat) == (95 : Int))) else false))) then
        some (0, [D.b false])
      else
        rec [s, D.i (IntKind.i64.wrap (i.int + (1 : Int)))]
    else
      none
  else
    some (1, [])
def c_kit_IsKey_0 (K : Nat) : Cut := { sh := { sl := [(0, .d 9 true), (3, .d 3 true)], ob := [] }, kept := [], outs := [(.ret, { sl := [(2, .d 4 true)], ob := [] }), (.exit 0, { sl := [], ob := [] })], f := fun ds => fixN (b_kit_IsKey_0 K) K ds }
def f_kit_IsKey (K : Nat) (s : D) : Option (List D) :=
  (fixN (b_kit_IsKey_0 K) K [s, D.i 0]).bind fun t1 =>
  bif (t1.1.beq 0) then
    some [D.nth t1.2 0]
  else
    some [D.b (bif (!(s.str == ([] : List UInt8))) then (leI (s.str.length : Int) 40) else false)]
def e_kit_IsKey (K : Nat) : Entry := { n := 1, sh := { sl := [(0, .d 9 false)], ob := [] }, kept := [], rs := [{ sl := [(0, .d 4 true)], ob := [] }], f := fun ds => f_kit_IsKey K (D.nth ds 0), tot := none }
def T_kit_IsKey (K : Nat) : Tbl := { T0 with ents := entsOf [], cuts := lk [(0, c_kit_IsKey_0 K)] }
theorem q_kit_IsKey_0 (K : Nat) (rec : List D → Option (Nat × List D)) (ds : List D) : evLoop (T_kit_IsKey K) 48 (sub (codeOf Try.f97) [1, 0, 1, 0, 0]) .go (c_kit_IsKey_0 K) rec ds = b_kit_IsKey_0 K rec ds := by kernel_rfl
theorem k_kit_IsKey_0 (K : Nat) : CutOK Try.prog (T_kit_IsKey K) 48 (sub (codeOf Try.f97) [1, 0, 1, 0]) (c_kit_IsKey_0 K) :=
  loop_thm (T := T_kit_IsKey K) (hT_of hT0 rfl rfl rfl) (hes_ok (T0 := T0) (T := T_kit_IsKey K) rfl rfl (trivial : FAll Try.prog T0 [])) (by kernel_rfl) rfl rfl rfl (cutsOK_none (by rfl)) rfl (q_kit_IsKey_0 K)
theorem q_kit_IsKey (K : Nat) (ds : List D) : evFn (T_kit_IsKey K) Try.f97 (.seq .go (.seq (.seq .go (.blk (.cut 0))) .go)) (e_kit_IsKey K) ds = (e_kit_IsKey K).f ds := by kernel_rfl
theorem ok_kit_IsKey (K : Nat) : FnOK Try.prog T0 97 (e_kit_IsKey K) :=
  fn_thm (T0 := T0) (T := T_kit_IsKey K) rfl (hT_of hT0 rfl rfl rfl) (hes_ok (T0 := T0) (T := T_kit_IsKey K) rfl rfl (trivial : FAll Try.prog T0 [])) Try.func97 (by decide) rfl (Nat.le_of_ble_eq_true rfl) rfl rfl rfl (tot_none rfl) (cutsOK_list (l := [(0, sub (codeOf Try.f97) [1, 0, 1, 0])]) (by kernel_rfl) ⟨cut_one (u := c_kit_IsKey_0 K) rfl (k_kit_IsKey_0 K), trivial⟩) (q_kit_IsKey K)
/-! ### 38 gatewarden/upstream.CheckInstances -/
def b_upstream_CheckInstances_0 (K : Nat) (rec : List D → Option (Nat × List D)) (ds : List D) : Option (Nat × List D) :=
  let l := D.nth ds 0
  let s8 := D.nth ds 1
  let s9 := D.nth ds 2
  let s10 := D.nth ds 3
  bif (ltI s10.int s9.int) then
    bif (inB s10.int s8.list.length) then
      (f_kit_IsKey K ((D.nth s8.list s10.int.toNat).at' 0)).bind fun t1 =>
      bif (!((D.nth t1 0).bool)) then
        some (0, [D.i 5])
      else
        bif ((!(gtI s10.int 0)) || (inB (IntKind.i64.wrap (s10.int - (1 : Int))) l.list.length)) then
          bif (bif (gtI s10.int 0) then ((Op.bytesLess (((D.nth s8.list s10.int.toNat).at' 0).str) (((D.nth l.list ((IntKind.i64.wrap (s10.int - (1 : Int))).toNat)).at' 0).str)) || ((((D.nth s8.list s10.int.toNat).at' 0).str) == (((D.nth l.list ((IntKind.i64.wrap (s10.int - (1 : Int))).toNat)).at' 0).str))) else false) then
            some (0, [D.i 7])
          else
            bif (D.nth (p_kit_Outside ((D.nth s8.list s10.int.toNat).at' 1) (D.i 1) (D.i 100)) 0).bool then
              some (0, [D.i 1])
            else
              rec [l, s8, s9, D.i (IntKind.i64.wrap (s10.int + (1 : Int)))]
        else
          none
    else
      none
  else
    some (1, [])
def c_upstream_CheckInstances_0 (K : Nat) : Cut := { sh := { sl := [(0, .d 48 false), (8, .d 48 false), (9, .d 3 true), (10, .d 3 true)], ob := [] }, kept := [], outs := [(.ret, { sl := [(2, .d 30 true)], ob := [] }), (.exit 0, { sl := [], ob := [] })], f := fun ds => fixN (b_upstream_CheckInstances_0 K) K ds }
def f_upstream_CheckInstances (K : Nat) (l : D) : Option (List D) :=
  bif (gtI (l.list.length : Int) 50) then
    some [D.i 2]
  else
    (fixN (b_upstream_CheckInstances_0 K) K [l, l, D.i (l.list.length : Int), D.i 0]).bind fun t1 =>
    bif (t1.1.beq 0) then
      some [D.nth t1.2 0]
    else
      some [D.i 0]
def e_upstream_CheckInstances (K : Nat) : Entry := { n := 1, sh := { sl := [(0, .d 48 false)], ob := [] }, kept := [], rs := [{ sl := [(0, .d 30 true)], ob := [] }], f := fun ds => f_upstream_CheckInstances K (D.nth ds 0), tot := none }
def T_upstream_CheckInstances (K : Nat) : Tbl := { T0 with ents := entsOf [(97, e_kit_IsKey K), (78, e_kit_Outside K)], cuts := lk [(0, c_upstream_CheckInstances_0 K)] }
theorem q_upstream_CheckInstances_0 (K : Nat) (rec : List D → Option (Nat × List D)) (ds : List D) : evLoop (T_upstream_CheckInstances K) 39 (sub (codeOf Try.f38) [1, 1, 0, 1, 0, 0]) .go (c_upstream_CheckInstances_0 K) rec ds = b_upstream_CheckInstances_0 K rec ds := by kernel_rfl
theorem k_upstream_CheckInstances_0 (K : Nat) : CutOK Try.prog (T_upstream_CheckInstances K) 39 (sub (codeOf Try.f38) [1, 1, 0, 1, 0]) (c_upstream_CheckInstances_0 K) :=
  loop_thm (T := T_upstream_CheckInstances K) (hT_of hT0 rfl rfl rfl) (hes_ok (T0 := T0) (T := T_upstream_CheckInstances K) rfl rfl (⟨ok_kit_IsKey K, ok_kit_Outside K, trivial⟩ : FAll Try.prog T0 [(97, e_kit_IsKey K), (78, e_kit_Outside K)])) (by kernel_rfl) rfl rfl rfl (cutsOK_none (by rfl)) rfl (q_upstream_CheckInstances_0 K)
theorem q_upstream_CheckInstances (K : Nat) (ds : List D) : evFn (T_upstream_CheckInstances K) Try.f38 (.seq .go (.seq .go (.seq (.seq .go (.blk (.cut 0))) .go))) (e_upstream_CheckInstances K) ds = (e_upstream_CheckInstances K).f ds := by kernel_rfl
theorem ok_upstream_CheckInstances (K : Nat) : FnOK Try.prog T0 38 (e_upstream_CheckInstances K) :=
  fn_thm (T0 := T0) (T := T_upstream_CheckInstances K) rfl (hT_of hT0 rfl rfl rfl) (hes_ok (T0 := T0) (T := T_upstream_CheckInstances K) rfl rfl (⟨ok_kit_IsKey K, ok_kit_Outside K, trivial⟩ : FAll Try.prog T0 [(97, e_kit_IsKey K), (78, e_kit_Outside K)])) Try.func38 (by decide) rfl (Nat.le_of_ble_eq_true rfl) rfl rfl rfl (tot_none rfl) (cutsOK_list (l := [(0, sub (codeOf Try.f38) [1, 1, 0, 1, 0])]) (by kernel_rfl) ⟨cut_one (u := c_upstream_CheckInstances_0 K) rfl (k_upstream_CheckInstances_0 K), trivial⟩) (q_upstream_CheckInstances K)
/-! ### 129 gatewarden/upstream.weights -/
def b_upstream_weights_0 (K : Nat) (rec : List D → Option (Nat × List D)) (ds : List D) : Option (Nat × List D) :=
  let sum := D.nth ds 0
  let s6 := D.nth ds 1
  let s7 := D.nth ds 2
  let s8 := D.nth ds 3
  bif (ltI s8.int s7.int) then
    bif (inB s8.int s6.list.length) then
      rec [D.i (IntKind.i64.wrap (sum.int + (((D.nth s6.list s8.int.toNat).at' 1).int))), s6, s7, D.i (IntKind.i64.wrap (s8.int + (1 : Int)))]
    else
      none
  else
    some (0, [sum])
def c_upstream_weights_0 (K : Nat) : Cut := { sh := { sl := [(3, .d 3 true), (6, .d 48 false), (7, .d 3 true), (8, .d 3 true)], ob := [] }, kept := [], outs := [(.exit 0, { sl := [(3, .d 3 true)], ob := [] })], f := fun ds => fixN (b_upstream_weights_0 K) K ds }
def f_upstream_weights (K : Nat) (l : D) : Option (List D) :=
  (fixN (b_upstream_weights_0 K) K [D.i 0, l, D.i (l.list.length : Int), D.i 0]).bind fun t1 =>
  some [D.nth t1.2 0]
def e_upstream_weights (K : Nat) : Entry := { n := 1, sh := { sl := [(0, .d 48 false)], ob := [] }, kept := [], rs := [{ sl := [(0, .d 3 true)], ob := [] }], f := fun ds => f_upstream_weights K (D.nth ds 0), tot := none }
def T_upstream_weights (K : Nat) : Tbl := { T0 with ents := entsOf [], cuts := lk [(0, c_upstream_weights_0 K)] }
theorem q_upstream_weights_0 (K : Nat) (rec : List D → Option (Nat × List D)) (ds : List D) : evLoop (T_upstream_weights K) 18 (sub (codeOf Try.f129) [1, 1, 0, 1, 0, 0]) .go (c_upstream_weights_0 K) rec ds = b_upstream_weights_0 K rec ds := by kernel_rfl
theorem k_upstream_weights_0 (K : Nat) : CutOK Try.prog (T_upstream_weights K) 18 (sub (codeOf Try.f129) [1, 1, 0, 1, 0]) (c_upstream_weights_0 K) :=
  loop_thm (T := T_upstream_weights K) (hT_of hT0 rfl rfl rfl) (hes_ok (T0 := T0) (T := T_upstream_weights K) rfl rfl (trivial : FAll Try.prog T0 [])) (by kernel_rfl) rfl rfl rfl (cutsOK_none (by rfl)) rfl (q_upstream_weights_0 K)
theorem q_upstream_weights (K : Nat) (ds : List D) : evFn (T_upstream_weights K) Try.f129 (.seq .go (.seq .go (.seq (.seq .go (.blk (.cut 0))) .go))) (e_upstream_weights K) ds = (e_upstream_weights K).f ds := by kernel_rfl
theorem ok_upstream_weights (K : Nat) : FnOK Try.prog T0 129 (e_upstream_weights K) :=
  fn_thm (T0 := T0) (T := T_upstream_weights K) rfl (hT_of hT0 rfl rfl rfl) (hes_ok (T0 := T0) (T := T_upstream_weights K) rfl rfl (trivial : FAll Try.prog T0 [])) Try.func129 (by decide) rfl (Nat.le_of_ble_eq_true rfl) rfl rfl rfl (tot_none rfl) (cutsOK_list (l := [(0, sub (codeOf Try.f129) [1, 1, 0, 1, 0])]) (by kernel_rfl) ⟨cut_one (u := c_upstream_weights_0 K) rfl (k_upstream_weights_0 K), trivial⟩) (q_upstream_weights K)
/-! ### 80 gatewarden/upstream.Round -/
def b_upstream_Round_1 (K : Nat) (rec : List D → Option (Nat × List D)) (ds : List D) : Option (Nat × List D) :=
  let best := D.nth ds 0
  let s31 := D.nth ds 1
  let s32 := D.nth ds 2
  let s33 := D.nth ds 3
  let r0 := D.nth ds 4
  bif (ltI s33.int s32.int) then
    bif (inB s33.int s31.list.length) then
      bif (inB s33.int r0.list.length) then
        bif (inB s33.int r0.list.length) then
          bif (inB s33.int ((D.setNth r0.list s33.int.toNat (D.i (IntKind.i64.wrap (((D.nth r0.list s33.int.toNat).int) + (((D.nth s31.list s33.int.toNat).at' 1).int))))).length)) then
            bif (inB best.int ((D.setNth r0.list s33.int.toNat (D.i (IntKind.i64.wrap (((D.nth r0.list s33.int.toNat).int) + (((D.nth s31.list s33.int.toNat).at' 1).int))))).length)) then
              bif (gtI ((D.nth (D.setNth r0.list s33.int.toNat (D.i (IntKind.i64.wrap (((D.nth r0.list s33.int.toNat).int) + (((D.nth s31.list s33.int.toNat).at' 1).int))))) s33.int.toNat).int) ((D.nth (D.setNth r0.list s33.int.toNat (D.i (IntKind.i64.wrap (((D.nth r0.list s33.int.toNat).int) + (((D.nth s31.list s33.int.toNat).at' 1).int))))) best.int.toNat).int)) then
                rec [s33, s31, s32, D.i (IntKind.i64.wrap (s33.int + (1 : Int))), D.n (D.setNth r0.list s33.int.toNat (D.i (IntKind.i64.wrap (((D.nth r0.list s33.int.toNat).int) + (((D.nth s31.list s33.int.toNat).at' 1).int)))))]
              else
                rec [best, s31, s32, D.i (IntKind.i64.wrap (s33.int + (1 : Int))), D.n (D.setNth r0.list s33.int.toNat (D.i (IntKind.i64.wrap (((D.nth r0.list s33.int.toNat).int) + (((D.nth s31.list s33.int.toNat).at' 1).int)))))]
            else
              none
          else
            none
        else
          none
      else
        none
    else
      none
  else
    some (0, [best, D.n r0.list])
def c_upstream_Round_1 (K : Nat) : Cut := { sh := { sl := [(7, .own 22 0), (10, .d 3 true), (31, .d 48 false), (32, .d 3 true), (33, .d 3 true)], ob := [(0, .row 3 true)] }, kept := [0], outs := [(.exit 2, { sl := [(10, .d 3 true)], ob := [(0, .row 3 true)] })], f := fun ds => fixN (b_upstream_Round_1 K) K ds }
def b_upstream_Round_0 (K : Nat) (rec : List D → Option (Nat × List D)) (ds : List D) : Option (Nat × List D) :=
  let l := D.nth ds 0
  let sum := D.nth ds 1
  let s28 := D.nth ds 2
  let s29 := D.nth ds 3
  let r0 := D.nth ds 4
  let r1 := D.nth ds 5
  bif (ltI s29.int s28.int) then
    (fixN (b_upstream_Round_1 K) K [D.i 0, l, D.i (l.list.length : Int), D.i 0, D.n r0.list]).bind fun t3 =>
    bif (inB ((D.nth t3.2 0).int) (((D.nth t3.2 1).list).length)) then
      bif (inB ((D.nth t3.2 0).int) (((D.nth t3.2 1).list).length)) then
        bif (inB ((D.nth t3.2 0).int) l.list.length) then
          bif (lim (r1.list.length + 1)) then
            rec [l, sum, s28, D.i (IntKind.i64.wrap (s29.int + (1 : Int))), D.n (D.setNth ((D.nth t3.2 1).list) (((D.nth t3.2 0).int).toNat) (D.i (IntKind.i64.wrap (((D.nth ((D.nth t3.2 1).list) (((D.nth t3.2 0).int).toNat)).int) - sum.int)))), D.n (r1.list ++ [(D.nth l.list (((D.nth t3.2 0).int).toNat)).at' 0])]
          else
            none
        else
          none
      else
        none
    else
      none
  else
    some (0, [D.n r0.list, D.n r1.list])
def c_upstream_Round_0 (K : Nat) : Cut := { sh := { sl := [(0, .d 48 false), (7, .own 22 0), (8, .d 3 true), (9, .own 73 1), (28, .d 3 true), (29, .d 3 true)], ob := [(0, .row 3 true), (1, .row 9 true)] }, kept := [0], outs := [(.exit 0, { sl := [(9, .own 73 1)], ob := [(0, .row 3 true), (1, .row 9 true)] })], f := fun ds => fixN (b_upstream_Round_0 K) K ds }
def f_upstream_Round (K : Nat) (l many : D) : Option (List D) :=
  (f_upstream_CheckInstances K l).bind fun t1 =>
  bif (((D.nth t1 0).int) != (0 : Int)) then
    some [D.nth t1 0, D.n []]
  else
    bif (D.nth (p_kit_Outside many (D.i 0) (D.i 2000)) 0).bool then
      some [D.i 1, D.n []]
    else
      bif ((l.list.length : Int) == (0 : Int)) then
        some [D.i 8, D.n []]
      else
        bif ((leI 0 (l.list.length : Int)) && (lim ((l.list.length : Int).toNat))) then
          (f_upstream_weights K l).bind fun t2 =>
          (fixN (b_upstream_Round_0 K) K [l, D.nth t2 0, many, D.i 0, D.n (List.replicate ((l.list.length : Int).toNat) (D.n [])), D.n []]).bind fun t3 =>
          some [D.i 0, D.n ((D.nth t3.2 1).list)]
        else
          none
def e_upstream_Round (K : Nat) : Entry := { n := 2, sh := { sl := [(0, .d 48 false), (1, .d 3 false)], ob := [] }, kept := [], rs := [{ sl := [(0, .tup [.own 73 0, .d 30 true])], ob := [(0, .row 9 true)] }], f := fun ds => f_upstream_Round K (D.nth ds 0) (D.nth ds 1), tot := none }
def T_upstream_Round (K : Nat) : Tbl := { T0 with ents := entsOf [(38, e_upstream_CheckInstances K), (78, e_kit_Outside K), (129, e_upstream_weights K)], cuts := lk [(0, c_upstream_Round_0 K), (1, c_upstream_Round_1 K)] }
theorem q_upstream_Round_1 (K : Nat) (rec : List D → Option (Nat × List D)) (ds : List D) : evLoop (T_upstream_Round K) 74 (sub (codeOf Try.f80) [1, 1, 1, 1, 1, 1, 1, 0, 1, 0, 0, 1, 1, 0, 0, 1, 0, 1, 0, 0]) .go (c_upstream_Round_1 K) rec ds = b_upstream_Round_1 K rec ds := by kernel_rfl
theorem k_upstream_Round_1 (K : Nat) : CutOK Try.prog (T_upstream_Round K) 74 (sub (codeOf Try.f80) [1, 1, 1, 1, 1, 1, 1, 0, 1, 0, 0, 1, 1, 0, 0, 1, 0, 1, 0]) (c_upstream_Round_1 K) :=
  loop_thm (T := T_upstream_Round K) (hT_of hT0 rfl rfl rfl) (hes_ok (T0 := T0) (T := T_upstream_Round K) rfl rfl (⟨ok_upstream_CheckInstances K, ok_kit_Outside K, ok_upstream_weights K, trivial⟩ : FAll Try.prog T0 [(38, e_upstream_CheckInstances K), (78, e_kit_Outside K), (129, e_upstream_weights K)])) (by kernel_rfl) rfl rfl rfl (cutsOK_none (by rfl)) rfl (q_upstream_Round_1 K)
theorem q_upstream_Round_0 (K : Nat) (rec : List D → Option (Nat × List D)) (ds : List D) : evLoop (T_upstream_Round K) 74 (sub (codeOf Try.f80) [1, 1, 1, 1, 1, 1, 1, 0, 1, 0, 0]) (.seq .go (.seq .go (.seq (.blk (.seq .go (.seq (.seq .go (.blk (.cut 1))) .go))) .go))) (c_upstream_Round_0 K) rec ds = b_upstream_Round_0 K rec ds := by kernel_rfl
theorem k_upstream_Round_0 (K : Nat) : CutOK Try.prog (T_upstream_Round K) 74 (sub (codeOf Try.f80) [1, 1, 1, 1, 1, 1, 1, 0, 1, 0]) (c_upstream_Round_0 K) :=
  loop_thm (T := T_upstream_Round K) (hT_of hT0 rfl rfl rfl) (hes_ok (T0 := T0) (T := T_upstream_Round K) rfl rfl (⟨ok_upstream_CheckInstances K, ok_kit_Outside K, ok_upstream_weights K, trivial⟩ : FAll Try.prog T0 [(38, e_upstream_CheckInstances K), (78, e_kit_Outside K), (129, e_upstream_weights K)])) (by kernel_rfl) rfl rfl rfl (cutsOK_list (l := [(1, sub (codeOf Try.f80) [1, 1, 1, 1, 1, 1, 1, 0, 1, 0, 0, 1, 1, 0, 0, 1, 0, 1, 0])]) (by kernel_rfl) ⟨cut_one (u := c_upstream_Round_1 K) rfl (k_upstream_Round_1 K), trivial⟩) rfl (q_upstream_Round_0 K)
theorem q_upstream_Round (K : Nat) (ds : List D) : evFn (T_upstream_Round K) Try.f80 (.seq .go (.seq .go (.seq .go (.seq .go (.seq .go (.seq .go (.seq .go (.seq (.seq .go (.blk (.cut 0))) .go)))))))) (e_upstream_Round K) ds = (e_upstream_Round K).f ds := by kernel_rfl
theorem ok_upstream_Round (K : Nat) : FnOK Try.prog T0 80 (e_upstream_Round K) :=
  fn_thm (T0 := T0) (T := T_upstream_Round K) rfl (hT_of hT0 rfl rfl rfl) (hes_ok (T0 := T0) (T := T_upstream_Round K) rfl rfl (⟨ok_upstream_CheckInstances K, ok_kit_Outside K, ok_upstream_weights K, trivial⟩ : FAll Try.prog T0 [(38, e_upstream_CheckInstances K), (78, e_kit_Outside K), (129, e_upstream_weights K)])) Try.func80 (by decide) rfl (Nat.le_of_ble_eq_true rfl) rfl rfl rfl (tot_none rfl) (cutsOK_list (l := [(0, sub (codeOf Try.f80) [1, 1, 1, 1, 1, 1, 1, 0, 1, 0])]) (by kernel_rfl) ⟨cut_one (u := c_upstream_Round_0 K) rfl (k_upstream_Round_0 K), trivial⟩) (q_upstream_Round K)
/-! ### 47 slices.Equal[[]string,string] -/
def b_slices_Equal_string_0 (K : Nat) (rec : List D → Option (Nat × List D)) (ds : List D) : Option (Nat × List D) :=
  let s1 := D.nth ds 0
  let s2 := D.nth ds 1
  let s12 := D.nth ds 2
  let s13 := D.nth ds 3
  bif (ltI s13.int s12.int) then
    bif (inB s13.int s1.list.length) then
      bif (inB s13.int s2.list.length) then
        bif (!(((D.nth s1.list s13.int.toNat).str) == ((D.nth s2.list s13.int.toNat).str))) then
          some (0, [D.b false])
        else
          rec [s1, s2, s12, D.i (IntKind.i64.wrap (s13.int + (1 : Int)))]
      else
        none
    else
      none
  else
    some (1, [])
def c_slices_Equal_string_0 (K : Nat) : Cut := { sh := { sl := [(0, .d 73 false), (1, .d 73 false), (12, .d 3 true), (13, .d 3 true)], ob := [] }, kept := [], outs := [(.ret, { sl := [(4, .d 4 true)], ob := [] }), (.exit 0, { sl := [], ob := [] })], f := fun ds => fixN (b_slices_Equal_string_0 K) K ds }
def f_slices_Equal_string (K : Nat) (s1 s2 : D) : Option (List D) :=
  bif ((s1.list.length : Int) != (s2.list.length : Int)) then
    some [D.b false]
  else
    (fixN (b_slices_Equal_string_0 K) K [s1, s2, D.i (s1.list.length : Int), D.i 0]).bind fun t1 =>
    bif (t1.1.beq 0) then
      some [D.nth t1.2 0]
    else
      some [D.b true]
def e_slices_Equal_string (K : Nat) : Entry := { n := 2, sh := { sl := [(0, .d 73 false), (1, .d 73 false)], ob := [] }, kept := [], rs := [{ sl := [(0, .d 4 true)], ob := [] }], f := fun ds => f_slices_Equal_string K (D.nth ds 0) (D.nth ds 1), tot := none }
def T_slices_Equal_string (K : Nat) : Tbl := { T0 with ents := entsOf [], cuts := lk [(0, c_slices_Equal_string_0 K)] }
theorem q_slices_Equal_string_0 (K : Nat) (rec : List D → Option (Nat × List D)) (ds : List D) : evLoop (T_slices_Equal_string K) 26 (sub (codeOf Try.f47) [1, 1, 0, 1, 0, 0]) .go (c_slices_Equal_string_0 K) rec ds = b_slices_Equal_string_0 K rec ds := by kernel_rfl
theorem k_slices_Equal_string_0 (K : Nat) : CutOK Try.prog (T_slices_Equal_string K) 26 (sub (codeOf Try.f47) [1, 1, 0, 1, 0]) (c_slices_Equal_string_0 K) :=
  loop_thm (T := T_slices_Equal_string K) (hT_of hT0 rfl rfl rfl) (hes_ok (T0 := T0) (T := T_slices_Equal_string K) rfl rfl (trivial : FAll Try.prog T0 [])) (by kernel_rfl) rfl rfl rfl (cutsOK_none (by rfl)) rfl (q_slices_Equal_string_0 K)
theorem q_slices_Equal_string (K : Nat) (ds : List D) : evFn (T_slices_Equal_string K) Try.f47 (.seq .go (.seq .go (.seq (.seq .go (.blk (.cut 0))) .go))) (e_slices_Equal_string K) ds = (e_slices_Equal_string K).f ds := by kernel_rfl
theorem ok_slices_Equal_string (K : Nat) : FnOK Try.prog T0 47 (e_slices_Equal_string K) :=
  fn_thm (T0 := T0) (T := T_slices_Equal_string K) rfl (hT_of hT0 rfl rfl rfl) (hes_ok (T0 := T0) (T := T_slices_Equal_string K) rfl rfl (trivial : FAll Try.prog T0 [])) Try.func47 (by decide) rfl (Nat.le_of_ble_eq_true rfl) rfl rfl rfl (tot_none rfl) (cutsOK_list (l := [(0, sub (codeOf Try.f47) [1, 1, 0, 1, 0])]) (by kernel_rfl) ⟨cut_one (u := c_slices_Equal_string_0 K) rfl (k_slices_Equal_string_0 K), trivial⟩) (q_slices_Equal_string K)
/-! ### 12 gatewarden/gatelaw2.balanced -/
def f_gatelaw2_balanced (K : Nat) : Option (List D) :=
  (f_upstream_Round K (D.n [D.n [D.s [97], D.i 1], D.n [D.s [98], D.i 2]]) (D.i 3)).bind fun t1 =>
  bif (((D.nth t1 0).int) == (0 : Int)) then
    (f_slices_Equal_string K (D.n ((D.nth t1 1).list)) (D.n [D.s [98], D.s [97], D.s [98]])).bind fun t2 =>
    some [D.b ((D.nth t2 0).bool)]
  else
    some [D.b false]
def e_gatelaw2_balanced (K : Nat) : Entry := { n := 0, sh := { sl := [], ob := [] }, kept := [], rs := [{ sl := [(0, .d 4 true)], ob := [] }], f := fun ds => f_gatelaw2_balanced K, tot := none }
def T_gatelaw2_balanced (K : Nat) : Tbl := { T0 with ents := entsOf [(80, e_upstream_Round K), (47, e_slices_Equal_string K)], cuts := lk [] }
theorem q_gatelaw2_balanced (K : Nat) (ds : List D) : evFn (T_gatelaw2_balanced K) Try.f12 .go (e_gatelaw2_balanced K) ds = (e_gatelaw2_balanced K).f ds := by kernel_rfl
theorem ok_gatelaw2_balanced (K : Nat) : FnOK Try.prog T0 12 (e_gatelaw2_balanced K) :=
  fn_thm (T0 := T0) (T := T_gatelaw2_balanced K) rfl (hT_of hT0 rfl rfl rfl) (hes_ok (T0 := T0) (T := T_gatelaw2_balanced K) rfl rfl (⟨ok_upstream_Round K, ok_slices_Equal_string K, trivial⟩ : FAll Try.prog T0 [(80, e_upstream_Round K), (47, e_slices_Equal_string K)])) Try.func12 (by decide) rfl (Nat.le_of_ble_eq_true rfl) rfl rfl rfl (tot_none rfl) (cutsOK_none (by rfl)) (q_gatelaw2_balanced K)
/-! ### 98 gatewarden/kit.IsMoment -/
def p_kit_IsMoment (n : D) : List D := [D.b (bif (geI n.int 0) then (ltI n.int 345686400000) else false)]
def e_kit_IsMoment (K : Nat) : Entry := { n := 1, sh := { sl := [(0, .d 3 false)], ob := [] }, kept := [], rs := [{ sl := [(0, .d 4 true)], ob := [] }], f := fun ds => some (p_kit_IsMoment (D.nth ds 0)), tot := some fun ds => p_kit_IsMoment (D.nth ds 0) }
def T_kit_IsMoment (K : Nat) : Tbl := { T0 with ents := entsOf [], cuts := lk [] }
theorem q_kit_IsMoment (K : Nat) (ds : List D) : evFn (T_kit_IsMoment K) Try.f98 .go (e_kit_IsMoment K) ds = (e_kit_IsMoment K).f ds := by kernel_rfl
theorem ok_kit_IsMoment (K : Nat) : FnOK Try.prog T0 98 (e_kit_IsMoment K) :=
  fn_thm (T0 := T0) (T := T_kit_IsMoment K) rfl (hT_of hT0 rfl rfl rfl) (hes_ok (T0 := T0) (T := T_kit_IsMoment K) rfl rfl (trivial : FAll Try.prog T0 [])) Try.func98 (by decide) rfl (Nat.le_of_ble_eq_true rfl) rfl rfl rfl (tot_some rfl fun _ => rfl) (cutsOK_none (by rfl)) (q_kit_IsMoment K)
/-! ### 82 (*gatewarden/upstream.Switch).timeFault -/
def f_upstream_Switch_timeFault (K : Nat) (vat o0_0 o0_1 o0_2 o0_3 o0_5 o0_6 r1 : D) : Option (List D) :=
  bif (!((D.nth (p_kit_IsMoment vat) 0).bool)) then
    some [D.i 1, o0_0, o0_1, o0_2, o0_3, o0_5, o0_6, D.n r1.list]
  else
    bif (ltI vat.int o0_1.int) then
      some [D.i 7, o0_0, o0_1, o0_2, o0_3, o0_5, o0_6, D.n r1.list]
    else
      some [D.i 0, o0_0, o0_1, o0_2, o0_3, o0_5, o0_6, D.n r1.list]
def e_upstream_Switch_timeFault (K : Nat) : Entry := { n := 2, sh := { sl := [(0, .ptr 118 0 []), (1, .d 3 false)], ob := [(0, .box 118 (.agg 118 [.d 27 false, .d 3 false, .d 3 false, .d 3 false, .own 22 1, .d 3 false, .d 3 false])), (1, .row 3 true)] }, kept := [0, 1], rs := [{ sl := [(0, .d 30 true)], ob := [(0, .box 118 (.agg 118 [.d 27 true, .d 3 true, .d 3 true, .d 3 true, .own 22 1, .d 3 true, .d 3 true])), (1, .row 3 true)] }], f := fun ds => f_upstream_Switch_timeFault K (D.nth ds 0) (D.nth ds 1) (D.nth ds 2) (D.nth ds 3) (D.nth ds 4) (D.nth ds 5) (D.nth ds 6) (D.nth ds 7), tot := none }
def T_upstream_Switch_timeFault (K : Nat) : Tbl := { T0 with ents := entsOf [(98, e_kit_IsMoment K)], cuts := lk [] }
theorem q_upstream_Switch_timeFault (K : Nat) (ds : List D) : evFn (T_upstream_Switch_timeFault K) Try.f82 .go (e_upstream_Switch_timeFault K) ds = (e_upstream_Switch_timeFault K).f ds := by kernel_rfl
theorem ok_upstream_Switch_timeFault (K : Nat) : FnOK Try.prog T0 82 (e_upstream_Switch_timeFault K) :=
  fn_thm (T0 := T0) (T := T_upstream_Switch_timeFault K) rfl (hT_of hT0 rfl rfl rfl) (hes_ok (T0 := T0) (T := T_upstream_Switch_timeFault K) rfl rfl (⟨ok_kit_IsMoment K, trivial⟩ : FAll Try.prog T0 [(98, e_kit_IsMoment K)])) Try.func82 (by decide) rfl (Nat.le_of_ble_eq_true rfl) rfl rfl rfl (tot_none rfl) (cutsOK_none (by rfl)) (q_upstream_Switch_timeFault K)
/-! ### 90 (*gatewarden/upstream.Switch).stateAt -/
def f_upstream_Switch_stateAt (K : Nat) (vat o0_0 o0_1 o0_2 o0_3 o0_5 o0_6 r1 : D) : Option (List D) :=
  bif (bif (o0_2.int == (1 : Int)) then (geI vat.int (IntKind.i64.wrap (o0_3.int + ((o0_0.at' 2).int)))) else false) then
    some [D.i 2, o0_0, o0_1, o0_2, o0_3, o0_5, o0_6, D.n r1.list]
  else
    some [o0_2, o0_0, o0_1, o0_2, o0_3, o0_5, o0_6, D.n r1.list]
def e_upstream_Switch_stateAt (K : Nat) : Entry := { n := 2, sh := { sl := [(0, .ptr 118 0 []), (1, .d 3 false)], ob := [(0, .box 118 (.agg 118 [.d 27 false, .d 3 false, .d 3 false, .d 3 false, .own 22 1, .d 3 false, .d 3 false])), (1, .row 3 true)] }, kept := [0, 1], rs := [{ sl := [(0, .d 3 true)], ob := [(0, .box 118 (.agg 118 [.d 27 true, .d 3 true, .d 3 true, .d 3 true, .own 22 1, .d 3 true, .d 3 true])), (1, .row 3 true)] }], f := fun ds => f_upstream_Switch_stateAt K (D.nth ds 0) (D.nth ds 1) (D.nth ds 2) (D.nth ds 3) (D.nth ds 4) (D.nth ds 5) (D.nth ds 6) (D.nth ds 7), tot := none }
def T_upstream_Switch_stateAt (K : Nat) : Tbl := { T0 with ents := entsOf [], cuts := lk [] }
theorem q_upstream_Switch_stateAt (K : Nat) (ds : List D) : evFn (T_upstream_Switch_stateAt K) Try.f90 .go (e_upstream_Switch_stateAt K) ds = (e_upstream_Switch_stateAt K).f ds := by kernel_rfl
theorem ok_upstream_Switch_stateAt (K : Nat) : FnOK Try.prog T0 90 (e_upstream_Switch_stateAt K) :=
  fn_thm (T0 := T0) (T := T_upstream_Switch_stateAt K) rfl (hT_of hT0 rfl rfl rfl) (hes_ok (T0 := T0) (T := T_upstream_Switch_stateAt K) rfl rfl (trivial : FAll Try.prog T0 [])) Try.func90 (by decide) rfl (Nat.le_of_ble_eq_true rfl) rfl rfl rfl (tot_none rfl) (cutsOK_none (by rfl)) (q_upstream_Switch_stateAt K)
/-! ### 83 (*gatewarden/upstream.Switch).pass -/
def f_upstream_Switch_pass (K : Nat) (vat o0_0 o0_1 o0_2 o0_3 o0_5 o0_6 r1 : D) : Option (List D) :=
  (f_upstream_Switch_stateAt K vat o0_0 o0_1 o0_2 o0_3 o0_5 o0_6 (D.n r1.list)).bind fun t1 =>
  bif (((D.nth t1 0).int) != ((D.nth t1 3).int)) then
    some [D.nth t1 1, vat, D.nth t1 0, D.nth t1 4, D.i 0, D.i 0, D.n ((D.nth t1 7).list)]
  else
    some [D.nth t1 1, vat, D.nth t1 3, D.nth t1 4, D.nth t1 5, D.nth t1 6, D.n ((D.nth t1 7).list)]
def e_upstream_Switch_pass (K : Nat) : Entry := { n := 2, sh := { sl := [(0, .ptr 118 0 []), (1, .d 3 false)], ob := [(0, .box 118 (.agg 118 [.d 27 false, .d 3 false, .d 3 false, .d 3 false, .own 22 1, .d 3 false, .d 3 false])), (1, .row 3 true)] }, kept := [0, 1], rs := [{ sl := [(0, .tup [])], ob := [(0, .box 118 (.agg 118 [.d 27 true, .d 3 true, .d 3 true, .d 3 true, .own 22 1, .d 3 true, .d 3 true])), (1, .row 3 true)] }], f := fun ds => f_upstream_Switch_pass K (D.nth ds 0) (D.nth ds 1) (D.nth ds 2) (D.nth ds 3) (D.nth ds 4) (D.nth ds 5) (D.nth ds 6) (D.nth ds 7), tot := none }
def T_upstream_Switch_pass (K : Nat) : Tbl := { T0 with ents := entsOf [(90, e_upstream_Switch_stateAt K)], cuts := lk [] }
theorem q_upstream_Switch_pass (K : Nat) (ds : List D) : evFn (T_upstream_Switch_pass K) Try.f83 .go (e_upstream_Switch_pass K) ds = (e_upstream_Switch_pass K).f ds := by kernel_rfl
theorem ok_upstream_Switch_pass (K : Nat) : FnOK Try.prog T0 83 (e_upstream_Switch_pass K) :=
  fn_thm (T0 := T0) (T := T_upstream_Switch_pass K) rfl (hT_of hT0 rfl rfl rfl) (hes_ok (T0 := T0) (T := T_upstream_Switch_pass K) rfl rfl (⟨ok_upstream_Switch_stateAt K, trivial⟩ : FAll Try.prog T0 [(90, e_upstream_Switch_stateAt K)])) Try.func83 (by decide) rfl (Nat.le_of_ble_eq_true rfl) rfl rfl rfl (tot_none rfl) (cutsOK_none (by rfl)) (q_upstream_Switch_pass K)
/-! ### 17 (*gatewarden/upstream.Switch).Ask -/
def f_upstream_Switch_Ask (K : Nat) (vat o0_0 o0_1 o0_2 o0_3 o0_5 o0_6 r1 : D) : Option (List D) :=
  (f_upstream_Switch_timeFault K vat o0_0 o0_1 o0_2 o0_3 o0_5 o0_6 (D.n r1.list)).bind fun t1 =>
  bif (((D.nth t1 0).int) != (0 : Int)) then
    some [D.b false, D.nth t1 0, D.nth t1 1, D.nth t1 2, D.nth t1 3, D.nth t1 4, D.nth t1 5, D.nth t1 6, D.n ((D.nth t1 7).list)]
  else
    (f_upstream_Switch_pass K vat (D.nth t1 1) (D.nth t1 2) (D.nth t1 3) (D.nth t1 4) (D.nth t1 5) (D.nth t1 6) (D.n ((D.nth t1 7).list))).bind fun t2 =>
    bif (bif (((D.nth t2 2).int) == (2 : Int)) then (ltI ((D.nth t2 4).int) (((D.nth t2 0).at' 3).int)) else false) then
      some [D.b true, D.i 0, D.nth t2 0, D.nth t2 1, D.nth t2 2, D.nth t2 3, D.i (IntKind.i64.wrap (((D.nth t2 4).int) + (1 : Int))), D.nth t2 5, D.n ((D.nth t2 6).list)]
    else
      some [D.b (((D.nth t2 2).int) == (0 : Int)), D.i 0, D.nth t2 0, D.nth t2 1, D.nth t2 2, D.nth t2 3, D.nth t2 4, D.nth t2 5, D.n ((D.nth t2 6).list)]
def e_upstream_Switch_Ask (K : Nat) : Entry := { n := 2, sh := { sl := [(0, .ptr 118 0 []), (1, .d 3 false)], ob := [(0, .box 118 (.agg 118 [.d 27 false, .d 3 false, .d 3 false, .d 3 false, .own 22 1, .d 3 false, .d 3 false])), (1, .row 3 true)] }, kept := [0, 1], rs := [{ sl := [(0, .tup [.d 4 true, .d 30 true])], ob := [(0, .box 118 (.agg 118 [.d 27 true, .d 3 true, .d 3 true, .d 3 true, .own 22 1, .d 3 true, .d 3 true])), (1, .row 3 true)] }], f := fun ds => f_upstream_Switch_Ask K (D.nth ds 0) (D.nth ds 1) (D.nth ds 2) (D.nth ds 3) (D.nth ds 4) (D.nth ds 5) (D.nth ds 6) (D.nth ds 7), tot := none }
def T_upstream_Switch_Ask (K : Nat) : Tbl := { T0 with ents := entsOf [(82, e_upstream_Switch_timeFault K), (83, e_upstream_Switch_pass K)], cuts := lk [] }
theorem q_upstream_Switch_Ask (K : Nat) (ds : List D) : evFn (T_upstream_Switch_Ask K) Try.f17 .go (e_upstream_Switch_Ask K) ds = (e_upstream_Switch_Ask K).f ds := by kernel_rfl
theorem ok_upstream_Switch_Ask (K : Nat) : FnOK Try.prog T0 17 (e_upstream_Switch_Ask K) :=
  fn_thm (T0 := T0) (T := T_upstream_Switch_Ask K) rfl (hT_of hT0 rfl rfl rfl) (hes_ok (T0 := T0) (T := T_upstream_Switch_Ask K) rfl rfl (⟨ok_upstream_Switch_timeFault K, ok_upstream_Switch_pass K, trivial⟩ : FAll Try.prog T0 [(82, e_upstream_Switch_timeFault K), (83, e_upstream_Switch_pass K)])) Try.func17 (by decide) rfl (Nat.le_of_ble_eq_true rfl) rfl rfl rfl (tot_none rfl) (cutsOK_none (by rfl)) (q_upstream_Switch_Ask K)
/-! ### 101 gatewarden/gateref2.Moment -/
def p_gateref2_Moment (vat : D) : List D := [D.nth (p_gateref2_in vat (D.i 0) (D.i 345686399999)) 0]
def e_gateref2_Moment (K : Nat) : Entry := { n := 1, sh := { sl := [(0, .d 3 false)], ob := [] }, kept := [], rs := [{ sl := [(0, .d 4 true)], ob := [] }], f := fun ds => some (p_gateref2_Moment (D.nth ds 0)), tot := some fun ds => p_gateref2_Moment (D.nth ds 0) }
def T_gateref2_Moment (K : Nat) : Tbl := { T0 with ents := entsOf [(79, e_gateref2_in K)], cuts := lk [] }
theorem q_gateref2_Moment (K : Nat) (ds : List D) : evFn (T_gateref2_Moment K) Try.f101 .go (e_gateref2_Moment K) ds = (e_gateref2_Moment K).f ds := by kernel_rfl
theorem ok_gateref2_Moment (K : Nat) : FnOK Try.prog T0 101 (e_gateref2_Moment K) :=
  fn_thm (T0 := T0) (T := T_gateref2_Moment K) rfl (hT_of hT0 rfl rfl rfl) (hes_ok (T0 := T0) (T := T_gateref2_Moment K) rfl rfl (⟨ok_gateref2_in K, trivial⟩ : FAll Try.prog T0 [(79, e_gateref2_in K)])) Try.func101 (by decide) rfl (Nat.le_of_ble_eq_true rfl) rfl rfl rfl (tot_some rfl fun _ => rfl) (cutsOK_none (by rfl)) (q_gateref2_Moment K)
/-! ### 84 (*gatewarden/gateref2.Fuse).fault -/
def f_gateref2_Fuse_fault (K : Nat) (vat o0_0 o0_1 o0_2 o0_4 o0_5 o0_6 r1 : D) : Option (List D) :=
  bif (!((D.nth (p_gateref2_Moment vat) 0).bool)) then
    some [D.i 1, o0_0, o0_1, o0_2, o0_4, o0_5, o0_6, D.n r1.list]
  else
    bif (ltI vat.int o0_6.int) then
      some [D.i 7, o0_0, o0_1, o0_2, o0_4, o0_5, o0_6, D.n r1.list]
    else
      some [D.i 0, o0_0, o0_1, o0_2, o0_4, o0_5, o0_6, D.n r1.list]
def e_gateref2_Fuse_fault (K : Nat) : Entry := { n := 2, sh := { sl := [(0, .ptr 37 0 []), (1, .d 3 false)], ob := [(0, .box 37 (.agg 37 [.d 27 false, .d 4 false, .d 3 false, .own 22 1, .d 3 false, .d 3 false, .d 3 false])), (1, .row 3 true)] }, kept := [0, 1], rs := [{ sl := [(0, .d 30 true)], ob := [(0, .box 37 (.agg 37 [.d 27 true, .d 4 true, .d 3 true, .own 22 1, .d 3 true, .d 3 true, .d 3 true])), (1, .row 3 true)] }], f := fun ds => f_gateref2_Fuse_fault K (D.nth ds 0) (D.nth ds 1) (D.nth ds 2) (D.nth ds 3) (D.nth ds 4) (D.nth ds 5) (D.nth ds 6) (D.nth ds 7), tot := none }
def T_gateref2_Fuse_fault (K : Nat) : Tbl := { T0 with ents := entsOf [(101, e_gateref2_Moment K)], cuts := lk [] }
theorem q_gateref2_Fuse_fault (K : Nat) (ds : List D) : evFn (T_gateref2_Fuse_fault K) Try.f84 .go (e_gateref2_Fuse_fault K) ds = (e_gateref2_Fuse_fault K).f ds := by kernel_rfl
theorem ok_gateref2_Fuse_fault (K : Nat) : FnOK Try.prog T0 84 (e_gateref2_Fuse_fault K) :=
  fn_thm (T0 := T0) (T := T_gateref2_Fuse_fault K) rfl (hT_of hT0 rfl rfl rfl) (hes_ok (T0 := T0) (T := T_gateref2_Fuse_fault K) rfl rfl (⟨ok_gateref2_Moment K, trivial⟩ : FAll Try.prog T0 [(101, e_gateref2_Moment K)])) Try.func84 (by decide) rfl (Nat.le_of_ble_eq_true rfl) rfl rfl rfl (tot_none rfl) (cutsOK_none (by rfl)) (q_gateref2_Fuse_fault K)
/-! ### 85 (*gatewarden/gateref2.Fuse).state -/
def f_gateref2_Fuse_state (K : Nat) (vat o0_0 o0_1 o0_2 o0_4 o0_5 o0_6 r1 : D) : Option (List D) :=
  bif (!o0_1.bool) then
    some [D.i 0, o0_0, o0_1, o0_2, o0_4, o0_5, o0_6, D.n r1.list]
  else
    bif (ltI (IntKind.i64.wrap (vat.int - o0_2.int)) ((o0_0.at' 2).int)) then
      some [D.i 1, o0_0, o0_1, o0_2, o0_4, o0_5, o0_6, D.n r1.list]
    else
      some [D.i 2, o0_0, o0_1, o0_2, o0_4, o0_5, o0_6, D.n r1.list]
def e_gateref2_Fuse_state (K : Nat) : Entry := { n := 2, sh := { sl := [(0, .ptr 37 0 []), (1, .d 3 false)], ob := [(0, .box 37 (.agg 37 [.d 27 false, .d 4 false, .d 3 false, .own 22 1, .d 3 false, .d 3 false, .d 3 false])), (1, .row 3 true)] }, kept := [0, 1], rs := [{ sl := [(0, .d 3 true)], ob := [(0, .box 37 (.agg 37 [.d 27 true, .d 4 true, .d 3 true, .own 22 1, .d 3 true, .d 3 true, .d 3 true])), (1, .row 3 true)] }], f := fun ds => f_gateref2_Fuse_state K (D.nth ds 0) (D.nth ds 1) (D.nth ds 2) (D.nth ds 3) (D.nth ds 4) (D.nth ds 5) (D.nth ds 6) (D.nth ds 7), tot := none }
def T_gateref2_Fuse_state (K : Nat) : Tbl := { T0 with ents := entsOf [], cuts := lk [] }
theorem q_gateref2_Fuse_state (K : Nat) (ds : List D) : evFn (T_gateref2_Fuse_state K) Try.f85 .go (e_gateref2_Fuse_state K) ds = (e_gateref2_Fuse_state K).f ds := by kernel_rfl
theorem ok_gateref2_Fuse_state (K : Nat) : FnOK Try.prog T0 85 (e_gateref2_Fuse_state K) :=
  fn_thm (T0 := T0) (T := T_gateref2_Fuse_state K) rfl (hT_of hT0 rfl rfl rfl) (hes_ok (T0 := T0) (T := T_gateref2_Fuse_state K) rfl rfl (trivial : FAll Try.prog T0 [])) Try.func85 (by decide) rfl (Nat.le_of_ble_eq_true rfl) rfl rfl rfl (tot_none rfl) (cutsOK_none (by rfl)) (q_gateref2_Fuse_state K)
/-! ### 18 (*gatewarden/gateref2.Fuse).Ask -/
def f_gateref2_Fuse_Ask (K : Nat) (vat o0_0 o0_1 o0_2 o0_4 o0_5 o0_6 r1 : D) : Option (List D) :=
  (f_gateref2_Fuse_fault K vat o0_0 o0_1 o0_2 o0_4 o0_5 o0_6 (D.n r1.list)).bind fun t1 =>
  bif (((D.nth t1 0).int) != (0 : Int)) then
    some [D.b false, D.nth t1 0, D.nth t1 1, D.nth t1 2, D.nth t1 3, D.nth t1 4, D.nth t1 5, D.nth t1 6, D.n ((D.nth t1 7).list)]
  else
    (f_gateref2_Fuse_state K vat (D.nth t1 1) (D.nth t1 2) (D.nth t1 3) (D.nth t1 4) (D.nth t1 5) vat (D.n ((D.nth t1 7).list))).bind fun t2 =>
    bif (((D.nth t2 0).int) == (0 : Int)) then
      some [D.b true, D.i 0, D.nth t2 1, D.nth t2 2, D.nth t2 3, D.nth t2 4, D.nth t2 5, D.nth t2 6, D.n ((D.nth t2 7).list)]
    else
      bif (((D.nth t2 0).int) == (1 : Int)) then
        some [D.b false, D.i 0, D.nth t2 1, D.nth t2 2, D.nth t2 3, D.nth t2 4, D.nth t2 5, D.nth t2 6, D.n ((D.nth t2 7).list)]
      else
        some [D.b (leI (IntKind.i64.wrap (((D.nth t2 4).int) + (1 : Int))) (((D.nth t2 1).at' 3).int)), D.i 0, D.nth t2 1, D.nth t2 2, D.nth t2 3, D.i (IntKind.i64.wrap (((D.nth t2 4).int) + (1 : Int))), D.nth t2 5, D.nth t2 6, D.n ((D.nth t2 7).list)]
def e_gateref2_Fuse_Ask (K : Nat) : Entry := { n := 2, sh := { sl := [(0, .ptr 37 0 []), (1, .d 3 false)], ob := [(0, .box 37 (.agg 37 [.d 27 false, .d 4 false, .d 3 false, .own 22 1, .d 3 false, .d 3 false, .d 3 false])), (1, .row 3 true)] }, kept := [0, 1], rs := [{ sl := [(0, .tup [.d 4 true, .d 30 true])], ob := [(0, .box 37 (.agg 37 [.d 27 true, .d 4 true, .d 3 true, .own 22 1, .d 3 true, .d 3 true, .d 3 true])), (1, .row 3 true)] }], f := fun ds => f_gateref2_Fuse_Ask K (D.nth ds 0) (D.nth ds 1) (D.nth ds 2) (D.nth ds 3) (D.nth ds 4) (D.nth ds 5) (D.nth ds 6) (D.nth ds 7), tot := none }
def T_gateref2_Fuse_Ask (K : Nat) : Tbl := { T0 with ents := entsOf [(84, e_gateref2_Fuse_fault K), (85, e_gateref2_Fuse_state K)], cuts := lk [] }
theorem q_gateref2_Fuse_Ask (K : Nat) (ds : List D) : evFn (T_gateref2_Fuse_Ask K) Try.f18 .go (e_gateref2_Fuse_Ask K) ds = (e_gateref2_Fuse_Ask K).f ds := by kernel_rfl
theorem ok_gateref2_Fuse_Ask (K : Nat) : FnOK Try.prog T0 18 (e_gateref2_Fuse_Ask K) :=
  fn_thm (T0 := T0) (T := T_gateref2_Fuse_Ask K) rfl (hT_of hT0 rfl rfl rfl) (hes_ok (T0 := T0) (T := T_gateref2_Fuse_Ask K) rfl rfl (⟨ok_gateref2_Fuse_fault K, ok_gateref2_Fuse_state K, trivial⟩ : FAll Try.prog T0 [(84, e_gateref2_Fuse_fault K), (85, e_gateref2_Fuse_state K)])) Try.func18 (by decide) rfl (Nat.le_of_ble_eq_true rfl) rfl rfl rfl (tot_none rfl) (cutsOK_none (by rfl)) (q_gateref2_Fuse_Ask K)
/-! ### 86 (*gatewarden/upstream.Switch).trip -/
def p_upstream_Switch_trip (vat o0_0 o0_1 o0_2 o0_3 o0_5 o0_6 r1 : D) : List D := [o0_0, o0_1, D.i 1, vat, o0_5, o0_6]
def e_upstream_Switch_trip (K : Nat) : Entry := { n := 2, sh := { sl := [(0, .ptr 118 0 []), (1, .d 3 false)], ob := [(0, .box 118 (.agg 118 [.d 27 false, .d 3 false, .d 3 false, .d 3 false, .own 22 1, .d 3 false, .d 3 false])), (1, .row 3 true)] }, kept := [0], rs := [{ sl := [(0, .tup [])], ob := [(0, .box 118 (.agg 118 [.d 27 true, .d 3 true, .d 3 true, .d 3 true, .nil 22, .d 3 true, .d 3 true]))] }], f := fun ds => some (p_upstream_Switch_trip (D.nth ds 0) (D.nth ds 1) (D.nth ds 2) (D.nth ds 3) (D.nth ds 4) (D.nth ds 5) (D.nth ds 6) (D.nth ds 7)), tot := some fun ds => p_upstream_Switch_trip (D.nth ds 0) (D.nth ds 1) (D.nth ds 2) (D.nth ds 3) (D.nth ds 4) (D.nth ds 5) (D.nth ds 6) (D.nth ds 7) }
def T_upstream_Switch_trip (K : Nat) : Tbl := { T0 with ents := entsOf [], cuts := lk [] }
theorem q_upstream_Switch_trip (K : Nat) (ds : List D) : evFn (T_upstream_Switch_trip K) Try.f86 .go (e_upstream_Switch_trip K) ds = (e_upstream_Switch_trip K).f ds := by kernel_rfl
theorem ok_upstream_Switch_trip (K : Nat) : FnOK Try.prog T0 86 (e_upstream_Switch_trip K) :=
  fn_thm (T0 := T0) (T := T_upstream_Switch_trip K) rfl (hT_of hT0 rfl rfl rfl) (hes_ok (T0 := T0) (T := T_upstream_Switch_trip K) rfl rfl (trivial : FAll Try.prog T0 [])) Try.func86 (by decide) rfl (Nat.le_of_ble_eq_true rfl) rfl rfl rfl (tot_some rfl fun _ => rfl) (cutsOK_none (by rfl)) (q_upstream_Switch_trip K)
/-! ### 88 (*gatewarden/upstream.Switch).Tell$1 -/
def p_upstream_Switch_Tell_1 (m s1 o0_0 o0_1 o0_2 o0_3 o0_5 o0_6 : D) : List D := [D.b (leI m.int (IntKind.i64.wrap (s1.int - ((o0_0.at' 1).int)))), o0_0, o0_1, o0_2, o0_3, o0_5, o0_6]
def e_upstream_Switch_Tell_1 (K : Nat) : Entry := { n := 3, sh := { sl := [(0, .d 3 false), (1, .bx 3 false (.d 3 false)), (2, .bx 29 false (.ptr 118 0 []))], ob := [(0, .box 118 (.agg 118 [.d 27 false, .d 3 false, .d 3 false, .d 3 false, .own 22 1, .d 3 false, .d 3 false]))] }, kept := [0], rs := [{ sl := [(0, .d 4 true)], ob := [(0, .box 118 (.agg 118 [.d 27 true, .d 3 true, .d 3 true, .d 3 true, .own 22 1, .d 3 true, .d 3 true]))] }], f := fun ds => some (p_upstream_Switch_Tell_1 (D.nth ds 0) (D.nth ds 1) (D.nth ds 2) (D.nth ds 3) (D.nth ds 4) (D.nth ds 5) (D.nth ds 6) (D.nth ds 7)), tot := some fun ds => p_upstream_Switch_Tell_1 (D.nth ds 0) (D.nth ds 1) (D.nth ds 2) (D.nth ds 3) (D.nth ds 4) (D.nth ds 5) (D.nth ds 6) (D.nth ds 7) }
def T_upstream_Switch_Tell_1 (K : Nat) : Tbl := { T0 with ents := entsOf [], cuts := lk [] }
theorem q_upstream_Switch_Tell_1 (K : Nat) (ds : List D) : evFn (T_upstream_Switch_Tell_1 K) Try.f88 .go (e_upstream_Switch_Tell_1 K) ds = (e_upstream_Switch_Tell_1 K).f ds := by kernel_rfl
theorem ok_upstream_Switch_Tell_1 (K : Nat) : FnOK Try.prog T0 88 (e_upstream_Switch_Tell_1 K) :=
  fn_thm (T0 := T0) (T := T_upstream_Switch_Tell_1 K) rfl (hT_of hT0 rfl rfl rfl) (hes_ok (T0 := T0) (T := T_upstream_Switch_Tell_1 K) rfl rfl (trivial : FAll Try.prog T0 [])) Try.func88 (by decide) rfl (Nat.le_of_ble_eq_true rfl) rfl rfl rfl (tot_some rfl fun _ => rfl) (cutsOK_none (by rfl)) (q_upstream_Switch_Tell_1 K)
/-! ### 130 slices.IndexFunc[[]int,int] -/
def b_slices_IndexFunc_int_0 (K : Nat) (rec : List D → Option (Nat × List D)) (ds : List D) : Option (Nat × List D) :=
  let s := D.nth ds 0
  let f_0 := D.nth ds 1
  let s7 := D.nth ds 2
  let s8 := D.nth ds 3
  let o0_0 := D.nth ds 4
  let o0_1 := D.nth ds 5
  let o0_2 := D.nth ds 6
  let o0_3 := D.nth ds 7
  let o0_5 := D.nth ds 8
  let o0_6 := D.nth ds 9
  bif (ltI s8.int s7.int) then
    bif (inB s8.int s.list.length) then
      bif (D.nth (p_upstream_Switch_Tell_1 (D.nth s.list s8.int.toNat) f_0 o0_0 o0_1 o0_2 o0_3 o0_5 o0_6) 0).bool then
        some (0, [s8, o0_0, o0_1, o0_2, o0_3, o0_5, o0_6])
      else
        rec [s, f_0, s7, D.i (IntKind.i64.wrap (s8.int + (1 : Int))), o0_0, o0_1, o0_2, o0_3, o0_5, o0_6]
    else
      none
  else
    some (1, [o0_0, o0_1, o0_2, o0_3, o0_5, o0_6])
def c_slices_IndexFunc_int_0 (K : Nat) : Cut := { sh := { sl := [(0, .d 22 false), (1, .fn 88 [.bx 3 false (.d 3 true), .bx 29 false (.ptr 118 0 [])]), (7, .d 3 true), (8, .d 3 true)], ob := [(0, .box 118 (.agg 118 [.d 27 true, .d 3 true, .d 3 true, .d 3 true, .own 22 1, .d 3 true, .d 3 true]))] }, kept := [0], outs := [(.ret, { sl := [(4, .d 3 true)], ob := [(0, .box 118 (.agg 118 [.d 27 true, .d 3 true, .d 3 true, .d 3 true, .own 22 1, .d 3 true, .d 3 true]))] }), (.exit 0, { sl := [], ob := [(0, .box 118 (.agg 118 [.d 27 true, .d 3 true, .d 3 true, .d 3 true, .own 22 1, .d 3 true, .d 3 true]))] })], f := fun ds => fixN (b_slices_IndexFunc_int_0 K) K ds }
def f_slices_IndexFunc_int (K : Nat) (s f_0 o0_0 o0_1 o0_2 o0_3 o0_5 o0_6 : D) : Option (List D) :=
  (fixN (b_slices_IndexFunc_int_0 K) K [s, f_0, D.i (s.list.length : Int), D.i 0, o0_0, o0_1, o0_2, o0_3, o0_5, o0_6]).bind fun t1 =>
  bif (t1.1.beq 0) then
    some [D.nth t1.2 0, D.nth t1.2 1, D.nth t1.2 2, D.nth t1.2 3, D.nth t1.2 4, D.nth t1.2 5, D.nth t1.2 6]
  else
    some [D.i (-1), D.nth t1.2 0, D.nth t1.2 1, D.nth t1.2 2, D.nth t1.2 3, D.nth t1.2 4, D.nth t1.2 5]
def e_slices_IndexFunc_int (K : Nat) : Entry := { n := 2, sh := { sl := [(0, .d 22 false), (1, .fn 88 [.bx 3 false (.d 3 false), .bx 29 false (.ptr 118 0 [])])], ob := [(0, .box 118 (.agg 118 [.d 27 false, .d 3 false, .d 3 false, .d 3 false, .own 22 1, .d 3 false, .d 3 false]))] }, kept := [0], rs := [{ sl := [(0, .d 3 true)], ob := [(0, .box 118 (.agg 118 [.d 27 true, .d 3 true, .d 3 true, .d 3 true, .own 22 1, .d 3 true, .d 3 true]))] }], f := fun ds => f_slices_IndexFunc_int K (D.nth ds 0) (D.nth ds 1) (D.nth ds 2) (D.nth ds 3) (D.nth ds 4) (D.nth ds 5) (D.nth ds 6) (D.nth ds 7), tot := none }
def T_slices_IndexFunc_int (K : Nat) : Tbl := { T0 with ents := entsOf [(88, e_upstream_Switch_Tell_1 K)], cuts := lk [(0, c_slices_IndexFunc_int_0 K)] }
theorem q_slices_IndexFunc_int_0 (K : Nat) (rec : List D → Option (Nat × List D)) (ds : List D) : evLoop (T_slices_IndexFunc_int K) 19 (sub (codeOf Try.f130) [1, 0, 1, 0, 0]) .go (c_slices_IndexFunc_int_0 K) rec ds = b_slices_IndexFunc_int_0 K rec ds := by kernel_rfl
theorem k_slices_IndexFunc_int_0 (K : Nat) : CutOK Try.prog (T_slices_IndexFunc_int K) 19 (sub (codeOf Try.f130) [1, 0, 1, 0]) (c_slices_IndexFunc_int_0 K) :=
  loop_thm (T := T_slices_IndexFunc_int K) (hT_of hT0 rfl rfl rfl) (hes_ok (T0 := T0) (T := T_slices_IndexFunc_int K) rfl rfl (⟨ok_upstream_Switch_Tell_1 K, trivial⟩ : FAll Try.prog T0 [(88, e_upstream_Switch_Tell_1 K)])) (by kernel_rfl) rfl rfl rfl (cutsOK_none (by rfl)) rfl (q_slices_IndexFunc_int_0 K)
theorem q_slices_IndexFunc_int (K : Nat) (ds : List D) : evFn (T_slices_IndexFunc_int K) Try.f130 (.seq .go (.seq (.seq .go (.blk (.cut 0))) .go)) (e_slices_IndexFunc_int K) ds = (e_slices_IndexFunc_int K).f ds := by kernel_rfl
theorem ok_slices_IndexFunc_int (K : Nat) : FnOK Try.prog T0 130 (e_slices_IndexFunc_int K) :=
  fn_thm (T0 := T0) (T := T_slices_IndexFunc_int K) rfl (hT_of hT0 rfl rfl rfl) (hes_ok (T0 := T0) (T := T_slices_IndexFunc_int K) rfl rfl (⟨ok_upstream_Switch_Tell_1 K, trivial⟩ : FAll Try.prog T0 [(88, e_upstream_Switch_Tell_1 K)])) Try.func130 (by decide) rfl (Nat.le_of_ble_eq_true rfl) rfl rfl rfl (tot_none rfl) (cutsOK_list (l := [(0, sub (codeOf Try.f130) [1, 0, 1, 0])]) (by kernel_rfl) ⟨cut_one (u := c_slices_IndexFunc_int_0 K) rfl (k_slices_IndexFunc_int_0 K), trivial⟩) (q_slices_IndexFunc_int K)
/-! ### 87 slices.DeleteFunc[[]int,int] -/
def b_slices_DeleteFunc_int_0 (K : Nat) (rec : List D → Option (Nat × List D)) (ds : List D) : Option (Nat × List D) :=
  let del_0 := D.nth ds 0
  let i := D.nth ds 1
  let j := D.nth ds 2
  let r0 := D.nth ds 3
  let o1_0 := D.nth ds 4
  let o1_1 := D.nth ds 5
  let o1_2 := D.nth ds 6
  let o1_3 := D.nth ds 7
  let o1_5 := D.nth ds 8
  let o1_6 := D.nth ds 9
  bif (ltI j.int (r0.list.length : Int)) then
    bif (inB j.int r0.list.length) then
      bif (!((D.nth (p_upstream_Switch_Tell_1 (D.nth r0.list j.int.toNat) del_0 o1_0 o1_1 o1_2 o1_3 o1_5 o1_6) 0).bool)) then
        bif (inB i.int r0.list.length) then
          rec [del_0, D.i (IntKind.i64.wrap (i.int + (1 : Int))), D.i (IntKind.i64.wrap (j.int + (1 : Int))), D.n (D.setNth r0.list i.int.toNat (D.nth r0.list j.int.toNat)), o1_0, o1_1, o1_2, o1_3, o1_5, o1_6]
        else
          none
      else
        rec [del_0, i, D.i (IntKind.i64.wrap (j.int + (1 : Int))), D.n r0.list, o1_0, o1_1, o1_2, o1_3, o1_5, o1_6]
    else
      none
  else
    some (0, [i, D.n r0.list, o1_0, o1_1, o1_2, o1_3, o1_5, o1_6])
def c_slices_DeleteFunc_int_0 (K : Nat) : Cut := { sh := { sl := [(0, .own 22 0), (1, .fn 88 [.bx 3 false (.d 3 true), .bx 29 false (.ptr 118 1 [])]), (5, .d 3 true), (6, .d 3 true)], ob := [(0, .row 3 true), (1, .box 118 (.agg 118 [.d 27 true, .d 3 true, .d 3 true, .d 3 true, .own 22 2, .d 3 true, .d 3 true]))] }, kept := [0, 1], outs := [(.exit 0, { sl := [(5, .d 3 true)], ob := [(0, .row 3 true), (1, .box 118 (.agg 118 [.d 27 true, .d 3 true, .d 3 true, .d 3 true, .own 22 2, .d 3 true, .d 3 true]))] })], f := fun ds => fixN (b_slices_DeleteFunc_int_0 K) K ds }
def c_slices_DeleteFunc_int_1 (K : Nat) : Cut := { sh := { sl := [(0, .own 22 0), (5, .d 3 true)], ob := [(0, .row 3 true)] }, kept := [0], outs := [(.normal, { sl := [], ob := [(0, .row 3 true)] })], f := clearRow }
def f_slices_DeleteFunc_int (K : Nat) (del_0 r0 o1_0 o1_1 o1_2 o1_3 o1_5 o1_6 : D) : Option (List D) :=
  (f_slices_IndexFunc_int K (D.n r0.list) del_0 o1_0 o1_1 o1_2 o1_3 o1_5 o1_6).bind fun t1 =>
  bif (((D.nth t1 0).int) == ((-1) : Int)) then
    some [D.n r0.list, D.nth t1 1, D.nth t1 2, D.nth t1 3, D.nth t1 4, D.nth t1 5, D.nth t1 6]
  else
    (fixN (b_slices_DeleteFunc_int_0 K) K [del_0, D.nth t1 0, D.i (IntKind.i64.wrap (((D.nth t1 0).int) + (1 : Int))), D.n r0.list, D.nth t1 1, D.nth t1 2, D.nth t1 3, D.nth t1 4, D.nth t1 5, D.nth t1 6]).bind fun t2 =>
    (clearRow [D.nth t2.2 0, D.n ((D.nth t2.2 1).list)]).bind fun t3 =>
    bif (inB ((D.nth t2.2 0).int) (((D.nth t3.2 0).list).length + 1)) then
      some [D.n (((D.nth t3.2 0).list).take (((D.nth t2.2 0).int).toNat)), D.nth t2.2 2, D.nth t2.2 3, D.nth t2.2 4, D.nth t2.2 5, D.nth t2.2 6, D.nth t2.2 7]
    else
      none
def e_slices_DeleteFunc_int (K : Nat) : Entry := { n := 2, sh := { sl := [(0, .own 22 0), (1, .fn 88 [.bx 3 false (.d 3 false), .bx 29 false (.ptr 118 1 [])])], ob := [(0, .row 3 true), (1, .box 118 (.agg 118 [.d 27 false, .d 3 false, .d 3 false, .d 3 false, .own 22 2, .d 3 false, .d 3 false]))] }, kept := [1], rs := [{ sl := [(0, .own 22 0)], ob := [(0, .row 3 true), (1, .box 118 (.agg 118 [.d 27 true, .d 3 true, .d 3 true, .d 3 true, .own 22 2, .d 3 true, .d 3 true]))] }], f := fun ds => f_slices_DeleteFunc_int K (D.nth ds 0) (D.nth ds 1) (D.nth ds 2) (D.nth ds 3) (D.nth ds 4) (D.nth ds 5) (D.nth ds 6) (D.nth ds 7), tot := none }
def T_slices_DeleteFunc_int (K : Nat) : Tbl := { T0 with ents := entsOf [(130, e_slices_IndexFunc_int K), (88, e_upstream_Switch_Tell_1 K)], cuts := lk [(0, c_slices_DeleteFunc_int_0 K), (1, c_slices_DeleteFunc_int_1 K)] }
theorem q_slices_DeleteFunc_int_0 (K : Nat) (rec : List D → Option (Nat × List D)) (ds : List D) : evLoop (T_slices_DeleteFunc_int K) 42 (sub (codeOf Try.f87) [1, 1, 1, 0, 1, 0, 0]) .go (c_slices_DeleteFunc_int_0 K) rec ds = b_slices_DeleteFunc_int_0 K rec ds := by kernel_rfl
theorem k_slices_DeleteFunc_int_0 (K : Nat) : CutOK Try.prog (T_slices_DeleteFunc_int K) 42 (sub (codeOf Try.f87) [1, 1, 1, 0, 1, 0]) (c_slices_DeleteFunc_int_0 K) :=
  loop_thm (T := T_slices_DeleteFunc_int K) (hT_of hT0 rfl rfl rfl) (hes_ok (T0 := T0) (T := T_slices_DeleteFunc_int K) rfl rfl (⟨ok_slices_IndexFunc_int K, ok_upstream_Switch_Tell_1 K, trivial⟩ : FAll Try.prog T0 [(130, e_slices_IndexFunc_int K), (88, e_upstream_Switch_Tell_1 K)])) (by kernel_rfl) rfl rfl rfl (cutsOK_none (by rfl)) rfl (q_slices_DeleteFunc_int_0 K)
theorem k_slices_DeleteFunc_int_1 (K : Nat) : CutOK Try.prog (T_slices_DeleteFunc_int K) 42 (sub (codeOf Try.f87) [1, 1, 1, 1, 0]) (c_slices_DeleteFunc_int_1 K) :=
  clear_thm (T := T_slices_DeleteFunc_int K) (hT_of hT0 rfl rfl rfl) rfl rfl rfl rfl rfl rfl rfl rfl rfl rfl
theorem q_slices_DeleteFunc_int (K : Nat) (ds : List D) : evFn (T_slices_DeleteFunc_int K) Try.f87 (.seq .go (.seq .go (.seq .go (.seq (.seq .go (.blk (.cut 0))) (.seq (.cut 1) .go))))) (e_slices_DeleteFunc_int K) ds = (e_slices_DeleteFunc_int K).f ds := by kernel_rfl
theorem ok_slices_DeleteFunc_int (K : Nat) : FnOK Try.prog T0 87 (e_slices_DeleteFunc_int K) :=
  fn_thm (T0 := T0) (T := T_slices_DeleteFunc_int K) rfl (hT_of hT0 rfl rfl rfl) (hes_ok (T0 := T0) (T := T_slices_DeleteFunc_int K) rfl rfl (⟨ok_slices_IndexFunc_int K, ok_upstream_Switch_Tell_1 K, trivial⟩ : FAll Try.prog T0 [(130, e_slices_IndexFunc_int K), (88, e_upstream_Switch_Tell_1 K)])) Try.func87 (by decide) rfl (Nat.le_of_ble_eq_true rfl) rfl rfl rfl (tot_none rfl) (cutsOK_list (l := [(0, sub (codeOf Try.f87) [1, 1, 1, 0, 1, 0]), (1, sub (codeOf Try.f87) [1, 1, 1, 1, 0])]) (by kernel_rfl) ⟨cut_one (u := c_slices_DeleteFunc_int_0 K) rfl (k_slices_DeleteFunc_int_0 K), cut_one (u := c_slices_DeleteFunc_int_1 K) rfl (k_slices_DeleteFunc_int_1 K), trivial⟩) (q_slices_DeleteFunc_int K)
/-! ### 19 (*gatewarden/upstream.Switch).Tell -/
def f_upstream_Switch_Tell (K : Nat) (vat good o0_0 o0_1 o0_2 o0_3 o0_5 o0_6 r1 : D) : Option (List D) :=
  (f_upstream_Switch_timeFault K vat o0_0 o0_1 o0_2 o0_3 o0_5 o0_6 (D.n r1.list)).bind fun t1 =>
  bif (((D.nth t1 0).int) != (0 : Int)) then
    some [D.nth t1 0, D.nth t1 1, D.nth t1 2, D.nth t1 3, D.nth t1 4, D.nth t1 5, D.nth t1 6, D.n ((D.nth t1 7).list)]
  else
    (f_upstream_Switch_pass K vat (D.nth t1 1) (D.nth t1 2) (D.nth t1 3) (D.nth t1 4) (D.nth t1 5) (D.nth t1 6) (D.n ((D.nth t1 7).list))).bind fun t2 =>
    bif (bif (((D.nth t2 2).int) == (2 : Int)) then (!good.bool) else false) then
      some [D.i 0, D.nth t2 0, D.nth t2 1, D.i 1, vat, D.nth t2 4, D.nth t2 5, D.n []]
    else
      bif (((D.nth t2 2).int) == (2 : Int)) then
        bif ((IntKind.i64.wrap (((D.nth t2 5).int) + (1 : Int))) == (((D.nth t2 0).at' 3).int)) then
          some [D.i 0, D.nth t2 0, D.nth t2 1, D.i 0, D.nth t2 3, D.nth t2 4, D.i (IntKind.i64.wrap (((D.nth t2 5).int) + (1 : Int))), D.n ((D.nth t2 6).list)]
        else
          some [D.i 0, D.nth t2 0, D.nth t2 1, D.nth t2 2, D.nth t2 3, D.nth t2 4, D.i (IntKind.i64.wrap (((D.nth t2 5).int) + (1 : Int))), D.n ((D.nth t2 6).list)]
      else
        bif (bif (((D.nth t2 2).int) == (0 : Int)) then (!good.bool) else false) then
          bif (lim (((D.nth t2 6).list).length + 1)) then
            (f_slices_DeleteFunc_int K vat (D.n (((D.nth t2 6).list) ++ [vat])) (D.nth t2 0) (D.nth t2 1) (D.nth t2 2) (D.nth t2 3) (D.nth t2 4) (D.nth t2 5)).bind fun t3 =>
            bif (geI (((D.nth t3 0).list).length : Int) (((D.nth t3 1).at' 0).int)) then
              some [D.i 0, D.nth t3 1, D.nth t3 2, D.i 1, vat, D.nth t3 5, D.nth t3 6, D.n []]
            else
              some [D.i 0, D.nth t3 1, D.nth t3 2, D.nth t3 3, D.nth t3 4, D.nth t3 5, D.nth t3 6, D.n ((D.nth t3 0).list)]
          else
            none
        else
          some [D.i 0, D.nth t2 0, D.nth t2 1, D.nth t2 2, D.nth t2 3, D.nth t2 4, D.nth t2 5, D.n ((D.nth t2 6).list)]
def e_upstream_Switch_Tell (K : Nat) : Entry := { n := 3, sh := { sl := [(0, .ptr 118 0 []), (1, .d 3 false), (2, .d 4 false)], ob := [(0, .box 118 (.agg 118 [.d 27 false, .d 3 false, .d 3 false, .d 3 false, .own 22 1, .d 3 false, .d 3 false])), (1, .row 3 true)] }, kept := [0], rs := [{ sl := [(0, .d 30 true)], ob := [(0, .box 118 (.agg 118 [.d 27 true, .d 3 true, .d 3 true, .d 3 true, .own 22 1, .d 3 true, .d 3 true])), (1, .row 3 true)] }], f := fun ds => f_upstream_Switch_Tell K (D.nth ds 0) (D.nth ds 1) (D.nth ds 2) (D.nth ds 3) (D.nth ds 4) (D.nth ds 5) (D.nth ds 6) (D.nth ds 7) (D.nth ds 8), tot := none }
def T_upstream_Switch_Tell (K : Nat) : Tbl := { T0 with frz := fun s => memN [3, 4] s, ents := entsOf [(82, e_upstream_Switch_timeFault K), (83, e_upstream_Switch_pass K), (86, e_upstream_Switch_trip K), (87, e_slices_DeleteFunc_int K)], cuts := lk [] }
theorem q_upstream_Switch_Tell (K : Nat) (ds : List D) : evFn (T_upstream_Switch_Tell K) Try.f19 .go (e_upstream_Switch_Tell K) ds = (e_upstream_Switch_Tell K).f ds := by kernel_rfl
theorem ok_upstream_Switch_Tell (K : Nat) : FnOK Try.prog T0 19 (e_upstream_Switch_Tell K) :=
  fn_thm (T0 := T0) (T := T_upstream_Switch_Tell K) rfl (hT_of hT0 rfl rfl rfl) (hes_ok (T0 := T0) (T := T_upstream_Switch_Tell K) rfl rfl (⟨ok_upstream_Switch_timeFault K, ok_upstream_Switch_pass K, ok_upstream_Switch_trip K, ok_slices_DeleteFunc_int K, trivial⟩ : FAll Try.prog T0 [(82, e_upstream_Switch_timeFault K), (83, e_upstream_Switch_pass K), (86, e_upstream_Switch_trip K), (87, e_slices_DeleteFunc_int K)])) Try.func19 (by decide) rfl (Nat.le_of_ble_eq_true rfl) rfl rfl rfl (tot_none rfl) (cutsOK_none (by rfl)) (q_upstream_Switch_Tell K)
/-! ### 89 (*gatewarden/gateref2.Fuse).turn -/
def p_gateref2_Fuse_turn (vopen vat o0_0 o0_1 o0_2 o0_4 o0_5 o0_6 r1 : D) : List D := [o0_0, vopen, vat, D.i 0, D.i 0, vat]
def e_gateref2_Fuse_turn (K : Nat) : Entry := { n := 3, sh := { sl := [(0, .ptr 37 0 []), (1, .d 4 false), (2, .d 3 false)], ob := [(0, .box 37 (.agg 37 [.d 27 false, .d 4 false, .d 3 false, .own 22 1, .d 3 false, .d 3 false, .d 3 false])), (1, .row 3 true)] }, kept := [0], rs := [{ sl := [(0, .tup [])], ob := [(0, .box 37 (.agg 37 [.d 27 true, .d 4 true, .d 3 true, .nil 22, .d 3 true, .d 3 true, .d 3 true]))] }], f := fun ds => some (p_gateref2_Fuse_turn (D.nth ds 0) (D.nth ds 1) (D.nth ds 2) (D.nth ds 3) (D.nth ds 4) (D.nth ds 5) (D.nth ds 6) (D.nth ds 7) (D.nth ds 8)), tot := some fun ds => p_gateref2_Fuse_turn (D.nth ds 0) (D.nth ds 1) (D.nth ds 2) (D.nth ds 3) (D.nth ds 4) (D.nth ds 5) (D.nth ds 6) (D.nth ds 7) (D.nth ds 8) }
def T_gateref2_Fuse_turn (K : Nat) : Tbl := { T0 with ents := entsOf [], cuts := lk [] }
theorem q_gateref2_Fuse_turn (K : Nat) (ds : List D) : evFn (T_gateref2_Fuse_turn K) Try.f89 .go (e_gateref2_Fuse_turn K) ds = (e_gateref2_Fuse_turn K).f ds := by kernel_rfl
theorem ok_gateref2_Fuse_turn (K : Nat) : FnOK Try.prog T0 89 (e_gateref2_Fuse_turn K) :=
  fn_thm (T0 := T0) (T := T_gateref2_Fuse_turn K) rfl (hT_of hT0 rfl rfl rfl) (hes_ok (T0 := T0) (T := T_gateref2_Fuse_turn K) rfl rfl (trivial : FAll Try.prog T0 [])) Try.func89 (by decide) rfl (Nat.le_of_ble_eq_true rfl) rfl rfl rfl (tot_some rfl fun _ => rfl) (cutsOK_none (by rfl)) (q_gateref2_Fuse_turn K)
/-! ### 20 (*gatewarden/gateref2.Fuse).Tell -/
def b_gateref2_Fuse_Tell_0 (K : Nat) (rec : List D → Option (Nat × List D)) (ds : List D) : Option (Nat × List D) :=
  let vat := D.nth ds 0
  let n := D.nth ds 1
  let s46 := D.nth ds 2
  let s47 := D.nth ds 3
  let o0_0 := D.nth ds 4
  let o0_1 := D.nth ds 5
  let o0_2 := D.nth ds 6
  let o0_4 := D.nth ds 7
  let o0_5 := D.nth ds 8
  let o0_6 := D.nth ds 9
  let r1 := D.nth ds 10
  bif (ltI s47.int s46.int) then
    bif (inB s47.int r1.list.length) then
      bif (gtI ((D.nth r1.list s47.int.toNat).int) (IntKind.i64.wrap (vat.int - ((o0_0.at' 1).int)))) then
        rec [vat, D.i (IntKind.i64.wrap (n.int + (1 : Int))), s46, D.i (IntKind.i64.wrap (s47.int + (1 : Int))), o0_0, o0_1, o0_2, o0_4, o0_5, o0_6, D.n r1.list]
      else
        rec [vat, n, s46, D.i (IntKind.i64.wrap (s47.int + (1 : Int))), o0_0, o0_1, o0_2, o0_4, o0_5, o0_6, D.n r1.list]
    else
      none
  else
    some (0, [n, o0_0, o0_1, o0_2, o0_4, o0_5, o0_6, D.n r1.list])
def c_gateref2_Fuse_Tell_0 (K : Nat) : Cut := { sh := { sl := [(0, .ptr 37 0 []), (1, .d 3 true), (9, .d 3 true), (45, .own 22 1), (46, .d 3 true), (47, .d 3 true)], ob := [(0, .box 37 (.agg 37 [.d 27 true, .d 4 true, .d 3 true, .own 22 1, .d 3 true, .d 3 true, .d 3 true])), (1, .row 3 true)] }, kept := [0, 1], outs := [(.exit 1, { sl := [(9, .d 3 true)], ob := [(0, .box 37 (.agg 37 [.d 27 true, .d 4 true, .d 3 true, .own 22 1, .d 3 true, .d 3 true, .d 3 true])), (1, .row 3 true)] })], f := fun ds => fixN (b_gateref2_Fuse_Tell_0 K) K ds }
def f_gateref2_Fuse_Tell (K : Nat) (vat good o0_0 o0_1 o0_2 o0_4 o0_5 o0_6 r1 : D) : Option (List D) :=
  (f_gateref2_Fuse_fault K vat o0_0 o0_1 o0_2 o0_4 o0_5 o0_6 (D.n r1.list)).bind fun t1 =>
  bif (((D.nth t1 0).int) != (0 : Int)) then
    some [D.nth t1 0, D.nth t1 1, D.nth t1 2, D.nth t1 3, D.nth t1 4, D.nth t1 5, D.nth t1 6, D.n ((D.nth t1 7).list)]
  else
    (f_gateref2_Fuse_state K vat (D.nth t1 1) (D.nth t1 2) (D.nth t1 3) (D.nth t1 4) (D.nth t1 5) vat (D.n ((D.nth t1 7).list))).bind fun t2 =>
    bif (bif (((D.nth t2 0).int) == (0 : Int)) then (!good.bool) else false) then
      bif (lim (((D.nth t2 7).list).length + 1)) then
        (fixN (b_gateref2_Fuse_Tell_0 K) K [vat, D.i 0, D.i ((((D.nth t2 7).list) ++ [vat]).length : Int), D.i 0, D.nth t2 1, D.nth t2 2, D.nth t2 3, D.nth t2 4, D.nth t2 5, D.nth t2 6, D.n (((D.nth t2 7).list) ++ [vat])]).bind fun t3 =>
        bif (geI ((D.nth t3.2 0).int) (((D.nth t3.2 1).at' 0).int)) then
          some [D.i 0, D.nth t3.2 1, D.b true, vat, D.i 0, D.i 0, vat, D.n []]
        else
          some [D.i 0, D.nth t3.2 1, D.nth t3.2 2, D.nth t3.2 3, D.nth t3.2 4, D.nth t3.2 5, D.nth t3.2 6, D.n ((D.nth t3.2 7).list)]
      else
        none
    else
      bif (bif (((D.nth t2 0).int) == (2 : Int)) then (!good.bool) else false) then
        some [D.i 0, D.nth t2 1, D.b true, vat, D.i 0, D.i 0, vat, D.n []]
      else
        bif (((D.nth t2 0).int) == (2 : Int)) then
          bif ((IntKind.i64.wrap (((D.nth t2 5).int) + (1 : Int))) == (((D.nth t2 1).at' 3).int)) then
            some [D.i 0, D.nth t2 1, D.b false, vat, D.i 0, D.i 0, vat, D.n []]
          else
            some [D.i 0, D.nth t2 1, D.nth t2 2, D.nth t2 3, D.nth t2 4, D.i (IntKind.i64.wrap (((D.nth t2 5).int) + (1 : Int))), D.nth t2 6, D.n ((D.nth t2 7).list)]
        else
          some [D.i 0, D.nth t2 1, D.nth t2 2, D.nth t2 3, D.nth t2 4, D.nth t2 5, D.nth t2 6, D.n ((D.nth t2 7).list)]
def e_gateref2_Fuse_Tell (K : Nat) : Entry := { n := 3, sh := { sl := [(0, .ptr 37 0 []), (1, .d 3 false), (2, .d 4 false)], ob := [(0, .box 37 (.agg 37 [.d 27 false, .d 4 false, .d 3 false, .own 22 1, .d 3 false, .d 3 false, .d 3 false])), (1, .row 3 true)] }, kept := [0], rs := [{ sl := [(0, .d 30 true)], ob := [(0, .box 37 (.agg 37 [.d 27 true, .d 4 true, .d 3 true, .own 22 1, .d 3 true, .d 3 true, .d 3 true])), (1, .row 3 true)] }], f := fun ds => f_gateref2_Fuse_Tell K (D.nth ds 0) (D.nth ds 1) (D.nth ds 2) (D.nth ds 3) (D.nth ds 4) (D.nth ds 5) (D.nth ds 6) (D.nth ds 7) (D.nth ds 8), tot := none }
def T_gateref2_Fuse_Tell (K : Nat) : Tbl := { T0 with ents := entsOf [(84, e_gateref2_Fuse_fault K), (85, e_gateref2_Fuse_state K), (89, e_gateref2_Fuse_turn K)], cuts := lk [(0, c_gateref2_Fuse_Tell_0 K)] }
theorem q_gateref2_Fuse_Tell_0 (K : Nat) (rec : List D → Option (Nat × List D)) (ds : List D) : evLoop (T_gateref2_Fuse_Tell K) 106 (sub (codeOf Try.f20) [1, 1, 1, 0, 1, 0, 1, 0, 1, 1, 0, 1, 0, 0]) .go (c_gateref2_Fuse_Tell_0 K) rec ds = b_gateref2_Fuse_Tell_0 K rec ds := by kernel_rfl
theorem k_gateref2_Fuse_Tell_0 (K : Nat) : CutOK Try.prog (T_gateref2_Fuse_Tell K) 106 (sub (codeOf Try.f20) [1, 1, 1, 0, 1, 0, 1, 0, 1, 1, 0, 1, 0]) (c_gateref2_Fuse_Tell_0 K) :=
  loop_thm (T := T_gateref2_Fuse_Tell K) (hT_of hT0 rfl rfl rfl) (hes_ok (T0 := T0) (T := T_gateref2_Fuse_Tell K) rfl rfl (⟨ok_gateref2_Fuse_fault K, ok_gateref2_Fuse_state K, ok_gateref2_Fuse_turn K, trivial⟩ : FAll Try.prog T0 [(84, e_gateref2_Fuse_fault K), (85, e_gateref2_Fuse_state K), (89, e_gateref2_Fuse_turn K)])) (by kernel_rfl) rfl rfl rfl (cutsOK_none (by rfl)) rfl (q_gateref2_Fuse_Tell_0 K)
theorem q_gateref2_Fuse_Tell (K : Nat) (ds : List D) : evFn (T_gateref2_Fuse_Tell K) Try.f20 (.seq .go (.seq .go (.seq .go (.seq (.seq .go (.blk (.seq .go (.cond (.seq .go (.seq .go (.seq (.seq .go (.blk (.cut 0))) .go))) .go)))) .go)))) (e_gateref2_Fuse_Tell K) ds = (e_gateref2_Fuse_Tell K).f ds := by kernel_rfl
theorem ok_gateref2_Fuse_Tell (K : Nat) : FnOK Try.prog T0 20 (e_gateref2_Fuse_Tell K) :=
  fn_thm (T0 := T0) (T := T_gateref2_Fuse_Tell K) rfl (hT_of hT0 rfl rfl rfl) (hes_ok (T0 := T0) (T := T_gateref2_Fuse_Tell K) rfl rfl (⟨ok_gateref2_Fuse_fault K, ok_gateref2_Fuse_state K, ok_gateref2_Fuse_turn K, trivial⟩ : FAll Try.prog T0 [(84, e_gateref2_Fuse_fault K), (85, e_gateref2_Fuse_state K), (89, e_gateref2_Fuse_turn K)])) Try.func20 (by decide) rfl (Nat.le_of_ble_eq_true rfl) rfl rfl rfl (tot_none rfl) (cutsOK_list (l := [(0, sub (codeOf Try.f20) [1, 1, 1, 0, 1, 0, 1, 0, 1, 1, 0, 1, 0])]) (by kernel_rfl) ⟨cut_one (u := c_gateref2_Fuse_Tell_0 K) rfl (k_gateref2_Fuse_Tell_0 K), trivial⟩) (q_gateref2_Fuse_Tell K)
/-! ### 21 (*gatewarden/upstream.Switch).State -/
def f_upstream_Switch_State (K : Nat) (vat o0_0 o0_1 o0_2 o0_3 o0_5 o0_6 r1 : D) : Option (List D) :=
  (f_upstream_Switch_timeFault K vat o0_0 o0_1 o0_2 o0_3 o0_5 o0_6 (D.n r1.list)).bind fun t1 =>
  bif (((D.nth t1 0).int) != (0 : Int)) then
    some [D.i 0, D.nth t1 0, D.nth t1 1, D.nth t1 2, D.nth t1 3, D.nth t1 4, D.nth t1 5, D.nth t1 6, D.n ((D.nth t1 7).list)]
  else
    (f_upstream_Switch_stateAt K vat (D.nth t1 1) (D.nth t1 2) (D.nth t1 3) (D.nth t1 4) (D.nth t1 5) (D.nth t1 6) (D.n ((D.nth t1 7).list))).bind fun t2 =>
    some [D.nth t2 0, D.i 0, D.nth t2 1, D.nth t2 2, D.nth t2 3, D.nth t2 4, D.nth t2 5, D.nth t2 6, D.n ((D.nth t2 7).list)]
def e_upstream_Switch_State (K : Nat) : Entry := { n := 2, sh := { sl := [(0, .ptr 118 0 []), (1, .d 3 false)], ob := [(0, .box 118 (.agg 118 [.d 27 false, .d 3 false, .d 3 false, .d 3 false, .own 22 1, .d 3 false, .d 3 false])), (1, .row 3 true)] }, kept := [0, 1], rs := [{ sl := [(0, .tup [.d 3 true, .d 30 true])], ob := [(0, .box 118 (.agg 118 [.d 27 true, .d 3 true, .d 3 true, .d 3 true, .own 22 1, .d 3 true, .d 3 true])), (1, .row 3 true)] }], f := fun ds => f_upstream_Switch_State K (D.nth ds 0) (D.nth ds 1) (D.nth ds 2) (D.nth ds 3) (D.nth ds 4) (D.nth ds 5) (D.nth ds 6) (D.nth ds 7), tot := none }
def T_upstream_Switch_State (K : Nat) : Tbl := { T0 with ents := entsOf [(82, e_upstream_Switch_timeFault K), (90, e_upstream_Switch_stateAt K)], cuts := lk [] }
theorem q_upstream_Switch_State (K : Nat) (ds : List D) : evFn (T_upstream_Switch_State K) Try.f21 .go (e_upstream_Switch_State K) ds = (e_upstream_Switch_State K).f ds := by kernel_rfl
theorem ok_upstream_Switch_State (K : Nat) : FnOK Try.prog T0 21 (e_upstream_Switch_State K) :=
  fn_thm (T0 := T0) (T := T_upstream_Switch_State K) rfl (hT_of hT0 rfl rfl rfl) (hes_ok (T0 := T0) (T := T_upstream_Switch_State K) rfl rfl (⟨ok_upstream_Switch_timeFault K, ok_upstream_Switch_stateAt K, trivial⟩ : FAll Try.prog T0 [(82, e_upstream_Switch_timeFault K), (90, e_upstream_Switch_stateAt K)])) Try.func21 (by decide) rfl (Nat.le_of_ble_eq_true rfl) rfl rfl rfl (tot_none rfl) (cutsOK_none (by rfl)) (q_upstream_Switch_State K)
/-! ### 22 (*gatewarden/gateref2.Fuse).State -/
def f_gateref2_Fuse_State (K : Nat) (vat o0_0 o0_1 o0_2 o0_4 o0_5 o0_6 r1 : D) : Option (List D) :=
  (f_gateref2_Fuse_fault K vat o0_0 o0_1 o0_2 o0_4 o0_5 o0_6 (D.n r1.list)).bind fun t1 =>
  bif (((D.nth t1 0).int) != (0 : Int)) then
    some [D.i 0, D.nth t1 0, D.nth t1 1, D.nth t1 2, D.nth t1 3, D.nth t1 4, D.nth t1 5, D.nth t1 6, D.n ((D.nth t1 7).list)]
  else
    (f_gateref2_Fuse_state K vat (D.nth t1 1) (D.nth t1 2) (D.nth t1 3) (D.nth t1 4) (D.nth t1 5) (D.nth t1 6) (D.n ((D.nth t1 7).list))).bind fun t2 =>
    some [D.nth t2 0, D.i 0, D.nth t2 1, D.nth t2 2, D.nth t2 3, D.nth t2 4, D.nth t2 5, D.nth t2 6, D.n ((D.nth t2 7).list)]
def e_gateref2_Fuse_State (K : Nat) : Entry := { n := 2, sh := { sl := [(0, .ptr 37 0 []), (1, .d 3 false)], ob := [(0, .box 37 (.agg 37 [.d 27 false, .d 4 false, .d 3 false, .own 22 1, .d 3 false, .d 3 false, .d 3 false])), (1, .row 3 true)] }, kept := [0, 1], rs := [{ sl := [(0, .tup [.d 3 true, .d 30 true])], ob := [(0, .box 37 (.agg 37 [.d 27 true, .d 4 true, .d 3 true, .own 22 1, .d 3 true, .d 3 true, .d 3 true])), (1, .row 3 true)] }], f := fun ds => f_gateref2_Fuse_State K (D.nth ds 0) (D.nth ds 1) (D.nth ds 2) (D.nth ds 3) (D.nth ds 4) (D.nth ds 5) (D.nth ds 6) (D.nth ds 7), tot := none }
def T_gateref2_Fuse_State (K : Nat) : Tbl := { T0 with ents := entsOf [(84, e_gateref2_Fuse_fault K), (85, e_gateref2_Fuse_state K)], cuts := lk [] }
theorem q_gateref2_Fuse_State (K : Nat) (ds : List D) : evFn (T_gateref2_Fuse_State K) Try.f22 .go (e_gateref2_Fuse_State K) ds = (e_gateref2_Fuse_State K).f ds := by kernel_rfl
theorem ok_gateref2_Fuse_State (K : Nat) : FnOK Try.prog T0 22 (e_gateref2_Fuse_State K) :=
  fn_thm (T0 := T0) (T := T_gateref2_Fuse_State K) rfl (hT_of hT0 rfl rfl rfl) (hes_ok (T0 := T0) (T := T_gateref2_Fuse_State K) rfl rfl (⟨ok_gateref2_Fuse_fault K, ok_gateref2_Fuse_state K, trivial⟩ : FAll Try.prog T0 [(84, e_gateref2_Fuse_fault K), (85, e_gateref2_Fuse_state K)])) Try.func22 (by decide) rfl (Nat.le_of_ble_eq_true rfl) rfl rfl rfl (tot_none rfl) (cutsOK_none (by rfl)) (q_gateref2_Fuse_State K)
/-! ### 3 gatewarden/gatelaw2.SwitchesTurn -/
def b_gatelaw2_SwitchesTurn_2 (K : Nat) (ds : List D) : Option (Nat × List D) :=
  let s72 := D.nth ds 0
  let s115 := D.nth ds 1
  bif s115.bool then
    some (0, [s115])
  else
    some (0, [D.b (s72.int == (2 : Int))])
def c_gatelaw2_SwitchesTurn_2 (K : Nat) : Cut := { sh := { sl := [(72, .d 3 true), (115, .d 4 true)], ob := [] }, kept := [], outs := [(.normal, { sl := [(115, .d 4 true)], ob := [] })], f := b_gatelaw2_SwitchesTurn_2 K }
def b_gatelaw2_SwitchesTurn_1 (K : Nat) (ds : List D) : Option (Nat × List D) :=
  let vat := D.nth ds 0
  let t := D.nth ds 1
  let s65 := D.nth ds 2
  let o0 := D.nth ds 3
  bif s65.bool then
    (f_gatemake_Stream_Pick K o0 (D.n [D.i 0, D.i (-1), D.i 345686400000, D.i (IntKind.i64.wrap (vat.int - (1 : Int)))])).bind fun t10 =>
    some (0, [D.nth t10 0, D.nth t10 1])
  else
    some (0, [t, o0])
def c_gatelaw2_SwitchesTurn_1 (K : Nat) : Cut := { sh := { sl := [(3, .ptr 25 0 []), (9, .d 3 true), (10, .d 3 true), (65, .d 4 true)], ob := [(0, .box 25 (.d 25 false))] }, kept := [0], outs := [(.normal, { sl := [(10, .d 3 true)], ob := [(0, .box 25 (.d 25 false))] })], f := b_gatelaw2_SwitchesTurn_1 K }
def b_gatelaw2_SwitchesTurn_0 (K : Nat) (rec : List D → Option (Nat × List D)) (ds : List D) : Option (Nat × List D) :=
  let vat := D.nth ds 0
  let s55 := D.nth ds 1
  let s56 := D.nth ds 2
  let o0 := D.nth ds 3
  let o1_0 := D.nth ds 4
  let o1_1 := D.nth ds 5
  let o1_2 := D.nth ds 6
  let o1_3 := D.nth ds 7
  let o1_5 := D.nth ds 8
  let o1_6 := D.nth ds 9
  let o2_0 := D.nth ds 10
  let o2_1 := D.nth ds 11
  let o2_2 := D.nth ds 12
  let o2_4 := D.nth ds 13
  let o2_5 := D.nth ds 14
  let o2_6 := D.nth ds 15
  let r3 := D.nth ds 16
  let r4 := D.nth ds 17
  bif (ltI s56.int s55.int) then
    (f_gatemake_Stream_Pick K o0 (D.n [D.i 0, D.i 1, D.i 2, D.i 5, D.i 10, D.i 20])).bind fun t8 =>
    (f_gatemake_Stream_Flip K (D.i 20) (D.nth t8 1)).bind fun t9 =>
    (b_gatelaw2_SwitchesTurn_1 K [D.i (IntKind.i64.wrap (vat.int + ((D.nth t8 0).int))), D.i (IntKind.i64.wrap (vat.int + ((D.nth t8 0).int))), D.nth t9 0, D.nth t9 1]).bind fun t10 =>
    (f_gatemake_Stream_Next K (D.i 4) (D.nth t10.2 1)).bind fun t11 =>
    bif (((D.nth t11 0).int) == (0 : Int)) then
      (f_upstream_Switch_Ask K (D.nth t10.2 0) o1_0 o1_1 o1_2 o1_3 o1_5 o1_6 (D.n r3.list)).bind fun t12 =>
      (f_gateref2_Fuse_Ask K (D.nth t10.2 0) o2_0 o2_1 o2_2 o2_4 o2_5 o2_6 (D.n r4.list)).bind fun t13 =>
      bif (bif (!((D.nth t12 0).bool == (D.nth t13 0).bool)) then true else (((D.nth t12 1).int) != ((D.nth t13 1).int))) then
        some (0, [D.b false, D.nth t11 1, D.nth t12 2, D.nth t12 3, D.nth t12 4, D.nth t12 5, D.nth t12 6, D.nth t12 7, D.nth t13 2, D.nth t13 3, D.nth t13 4, D.nth t13 5, D.nth t13 6, D.nth t13 7, D.n ((D.nth t12 8).list), D.n ((D.nth t13 8).list)])
      else
        rec [D.i (IntKind.i64.wrap (vat.int + ((D.nth t8 0).int))), s55, D.i (IntKind.i64.wrap (s56.int + (1 : Int))), D.nth t11 1, D.nth t12 2, D.nth t12 3, D.nth t12 4, D.nth t12 5, D.nth t12 6, D.nth t12 7, D.nth t13 2, D.nth t13 3, D.nth t13 4, D.nth t13 5, D.nth t13 6, D.nth t13 7, D.n ((D.nth t12 8).list), D.n ((D.nth t13 8).list)]
    else
      (b_gatelaw2_SwitchesTurn_2 K [D.nth t11 0, D.b (((D.nth t11 0).int) == (1 : Int))]).bind fun t14 =>
      bif (D.nth t14.2 0).bool then
        (f_gatemake_Stream_Flip K (D.i 3) (D.nth t11 1)).bind fun t15 =>
        (f_upstream_Switch_Tell K (D.nth t10.2 0) (D.nth t15 0) o1_0 o1_1 o1_2 o1_3 o1_5 o1_6 (D.n r3.list)).bind fun t16 =>
        (f_gateref2_Fuse_Tell K (D.nth t10.2 0) (D.nth t15 0) o2_0 o2_1 o2_2 o2_4 o2_5 o2_6 (D.n r4.list)).bind fun t17 =>
        bif (((D.nth t16 0).int) != ((D.nth t17 0).int)) then
          some (0, [D.b false, D.nth t15 1, D.nth t16 1, D.nth t16 2, D.nth t16 3, D.nth t16 4, D.nth t16 5, D.nth t16 6, D.nth t17 1, D.nth t17 2, D.nth t17 3, D.nth t17 4, D.nth t17 5, D.nth t17 6, D.n ((D.nth t16 7).list), D.n ((D.nth t17 7).list)])
        else
          rec [D.i (IntKind.i64.wrap (vat.int + ((D.nth t8 0).int))), s55, D.i (IntKind.i64.wrap (s56.int + (1 : Int))), D.nth t15 1, D.nth t16 1, D.nth t16 2, D.nth t16 3, D.nth t16 4, D.nth t16 5, D.nth t16 6, D.nth t17 1, D.nth t17 2, D.nth t17 3, D.nth t17 4, D.nth t17 5, D.nth t17 6, D.n ((D.nth t16 7).list), D.n ((D.nth t17 7).list)]
      else
        (f_upstream_Switch_State K (D.nth t10.2 0) o1_0 o1_1 o1_2 o1_3 o1_5 o1_6 (D.n r3.list)).bind fun t18 =>
        (f_gateref2_Fuse_State K (D.nth t10.2 0) o2_0 o2_1 o2_2 o2_4 o2_5 o2_6 (D.n r4.list)).bind fun t19 =>
        bif (bif (((D.nth t18 0).int) != ((D.nth t19 0).int)) then true else (((D.nth t18 1).int) != ((D.nth t19 1).int))) then
          some (0, [D.b false, D.nth t11 1, D.nth t18 2, D.nth t18 3, D.nth t18 4, D.nth t18 5, D.nth t18 6, D.nth t18 7, D.nth t19 2, D.nth t19 3, D.nth t19 4, D.nth t19 5, D.nth t19 6, D.nth t19 7, D.n ((D.nth t18 8).list), D.n ((D.nth t19 8).list)])
        else
          rec [D.i (IntKind.i64.wrap (vat.int + ((D.nth t8 0).int))), s55, D.i (IntKind.i64.wrap (s56.int + (1 : Int))), D.nth t11 1, D.nth t18 2, D.nth t18 3, D.nth t18 4, D.nth t18 5, D.nth t18 6, D.nth t18 7, D.nth t19 2, D.nth t19 3, D.nth t19 4, D.nth t19 5, D.nth t19 6, D.nth t19 7, D.n ((D.nth t18 8).list), D.n ((D.nth t19 8).list)]
  else
    some (1, [o0, o1_0, o1_1, o1_2, o1_3, o1_5, o1_6, o2_0, o2_1, o2_2, o2_4, o2_5, o2_6, D.n r3.list, D.n r4.list])
def c_gatelaw2_SwitchesTurn_0 (K : Nat) : Cut := { sh := { sl := [(3, .ptr 25 0 []), (5, .ptr 118 1 []), (8, .ptr 37 2 []), (9, .d 3 true), (55, .d 3 true), (56, .d 3 true)], ob := [(0, .box 25 (.d 25 false)), (1, .box 118 (.agg 118 [.d 27 true, .d 3 true, .d 3 true, .d 3 true, .own 22 3, .d 3 true, .d 3 true])), (2, .box 37 (.agg 37 [.d 27 true, .d 4 true, .d 3 true, .own 22 4, .d 3 true, .d 3 true, .d 3 true])), (3, .row 3 true), (4, .row 3 true)] }, kept := [0, 1, 2], outs := [(.ret, { sl := [(2, .d 4 true)], ob := [(0, .box 25 (.d 25 false)), (1, .box 118 (.agg 118 [.d 27 true, .d 3 true, .d 3 true, .d 3 true, .own 22 3, .d 3 true, .d 3 true])), (2, .box 37 (.agg 37 [.d 27 true, .d 4 true, .d 3 true, .own 22 4, .d 3 true, .d 3 true, .d 3 true])), (3, .row 3 true), (4, .row 3 true)] }), (.exit 0, { sl := [], ob := [(0, .box 25 (.d 25 false)), (1, .box 118 (.agg 118 [.d 27 true, .d 3 true, .d 3 true, .d 3 true, .own 22 3, .d 3 true, .d 3 true])), (2, .box 37 (.agg 37 [.d 27 true, .d 4 true, .d 3 true, .own 22 4, .d 3 true, .d 3 true, .d 3 true])), (3, .row 3 true), (4, .row 3 true)] })], f := fun ds => fixN (b_gatelaw2_SwitchesTurn_0 K) K ds }
def f_gatelaw2_SwitchesTurn (K : Nat) (l : D) : Option (List D) :=
  (f_gatemake_Stream_Breaker K (D.n [l, D.i 0])).bind fun t1 =>
  (f_upstream_NewSwitch K (D.nth t1 0)).bind fun t2 =>
  bif (((D.nth t2 0).int) == (0 : Int)) then
    (f_gateref2_BreakerFault K (D.nth t1 0)).bind fun t3 =>
    bif (bif (((D.nth t2.tail 0).int) != ((D.nth t3 0).int)) then true else (((D.nth t3 0).int) != (0 : Int))) then
      bif (bif (((D.nth t2.tail 0).int) == ((D.nth t3 0).int)) then true else false) then
        (f_gatelaw2_balanced K).bind fun t4 =>
        some [D.b ((D.nth t4 0).bool)]
      else
        some [D.b false]
    else
      some [D.b false]
  else
    (f_gateref2_BreakerFault K (D.nth t1 0)).bind fun t5 =>
    bif (bif (((D.nth t2.tail 0).int) != ((D.nth t5 0).int)) then true else (((D.nth t5 0).int) != (0 : Int))) then
      bif (bif (((D.nth t2.tail 0).int) == ((D.nth t5 0).int)) then false else false) then
        (f_gatelaw2_balanced K).bind fun t6 =>
        some [D.b ((D.nth t6 0).bool)]
      else
        some [D.b false]
    else
      (f_gatemake_Stream_Range K (D.i 1) (D.i 20) (D.nth t1 1)).bind fun t7 =>
      (fixN (b_gatelaw2_SwitchesTurn_0 K) K [D.i 0, D.nth t7 0, D.i 0, D.nth t7 1, D.nth t2.tail 1, D.nth t2.tail 2, D.nth t2.tail 3, D.nth t2.tail 4, D.nth t2.tail 5, D.nth t2.tail 6, D.nth t1 0, D.b false, D.i 0, D.i 0, D.i 0, D.i 0, D.n [], D.n []]).bind fun t8 =>
      bif (t8.1.beq 0) then
        some [D.nth t8.2 0]
      else
        (f_gatelaw2_balanced K).bind fun t9 =>
        some [D.nth t9 0]
def e_gatelaw2_SwitchesTurn (K : Nat) : Entry := { n := 1, sh := { sl := [(0, .d 22 false)], ob := [] }, kept := [], rs := [{ sl := [(0, .d 4 true)], ob := [] }], f := fun ds => f_gatelaw2_SwitchesTurn K (D.nth ds 0), tot := none }
def T_gatelaw2_SwitchesTurn (K : Nat) : Tbl := { T0 with ents := entsOf [(9, e_gatemake_Stream_Breaker K), (10, e_upstream_NewSwitch K), (11, e_gateref2_BreakerFault K), (12, e_gatelaw2_balanced K), (13, e_gatemake_Stream_Range K), (14, e_gatemake_Stream_Pick K), (15, e_gatemake_Stream_Flip K), (16, e_gatemake_Stream_Next K), (17, e_upstream_Switch_Ask K), (18, e_gateref2_Fuse_Ask K), (19, e_upstream_Switch_Tell K), (20, e_gateref2_Fuse_Tell K), (21, e_upstream_Switch_State K), (22, e_gateref2_Fuse_State K)], cuts := lk [(0, c_gatelaw2_SwitchesTurn_0 K), (1, c_gatelaw2_SwitchesTurn_1 K), (2, c_gatelaw2_SwitchesTurn_2 K)] }
theorem q_gatelaw2_SwitchesTurn_2 (K : Nat) (ds : List D) : evPiece (T_gatelaw2_SwitchesTurn K) 131 (sub (codeOf Try.f3) [1, 1, 1, 1, 1, 1, 1, 1, 0, 1, 0, 0, 1, 1, 0, 0, 1, 1, 1, 1, 0, 1, 1, 0, 1]) .go (c_gatelaw2_SwitchesTurn_2 K) ds = b_gatelaw2_SwitchesTurn_2 K ds := by kernel_rfl
theorem k_gatelaw2_SwitchesTurn_2 (K : Nat) : CutOK Try.prog (T_gatelaw2_SwitchesTurn K) 131 (sub (codeOf Try.f3) [1, 1, 1, 1, 1, 1, 1, 1, 0, 1, 0, 0, 1, 1, 0, 0, 1, 1, 1, 1, 0, 1, 1, 0, 1]) (c_gatelaw2_SwitchesTurn_2 K) :=
  piece_thm (T := T_gatelaw2_SwitchesTurn K) (hT_of hT0 rfl rfl rfl) (hes_ok (T0 := T0) (T := T_gatelaw2_SwitchesTurn K) rfl rfl (⟨ok_gatemake_Stream_Breaker K, ok_upstream_NewSwitch K, ok_gateref2_BreakerFault K, ok_gatelaw2_balanced K, ok_gatemake_Stream_Range K, ok_gatemake_Stream_Pick K, ok_gatemake_Stream_Flip K, ok_gatemake_Stream_Next K, ok_upstream_Switch_Ask K, ok_gateref2_Fuse_Ask K, ok_upstream_Switch_Tell K, ok_gateref2_Fuse_Tell K, ok_upstream_Switch_State K, ok_gateref2_Fuse_State K, trivial⟩ : FAll Try.prog T0 [(9, e_gatemake_Stream_Breaker K), (10, e_upstream_NewSwitch K), (11, e_gateref2_BreakerFault K), (12, e_gatelaw2_balanced K), (13, e_gatemake_Stream_Range K), (14, e_gatemake_Stream_Pick K), (15, e_gatemake_Stream_Flip K), (16, e_gatemake_Stream_Next K), (17, e_upstream_Switch_Ask K), (18, e_gateref2_Fuse_Ask K), (19, e_upstream_Switch_Tell K), (20, e_gateref2_Fuse_Tell K), (21, e_upstream_Switch_State K), (22, e_gateref2_Fuse_State K)])) rfl rfl rfl (cutsOK_none (by rfl)) (q_gatelaw2_SwitchesTurn_2 K)
theorem q_gatelaw2_SwitchesTurn_1 (K : Nat) (ds : List D) : evPiece (T_gatelaw2_SwitchesTurn K) 131 (sub (codeOf Try.f3) [1, 1, 1, 1, 1, 1, 1, 1, 0, 1, 0, 0, 1, 1, 0, 0, 1, 1, 0, 1]) .go (c_gatelaw2_SwitchesTurn_1 K) ds = b_gatelaw2_SwitchesTurn_1 K ds := by kernel_rfl
theorem k_gatelaw2_SwitchesTurn_1 (K : Nat) : CutOK Try.prog (T_gatelaw2_SwitchesTurn K) 131 (sub (codeOf Try.f3) [1, 1, 1, 1, 1, 1, 1, 1, 0, 1, 0, 0, 1, 1, 0, 0, 1, 1, 0, 1]) (c_gatelaw2_SwitchesTurn_1 K) :=
  piece_thm (T := T_gatelaw2_SwitchesTurn K) (hT_of hT0 rfl rfl rfl) (hes_ok (T0 := T0) (T := T_gatelaw2_SwitchesTurn K) rfl rfl (⟨ok_gatemake_Stream_Breaker K, ok_upstream_NewSwitch K, ok_gateref2_BreakerFault K, ok_gatelaw2_balanced K, ok_gatemake_Stream_Range K, ok_gatemake_Stream_Pick K, ok_gatemake_Stream_Flip K, ok_gatemake_Stream_Next K, ok_upstream_Switch_Ask K, ok_gateref2_Fuse_Ask K, ok_upstream_Switch_Tell K, ok_gateref2_Fuse_Tell K, ok_upstream_Switch_State K, ok_gateref2_Fuse_State K, trivial⟩ : FAll Try.prog T0 [(9, e_gatemake_Stream_Breaker K), (10, e_upstream_NewSwitch K), (11, e_gateref2_BreakerFault K), (12, e_gatelaw2_balanced K), (13, e_gatemake_Stream_Range K), (14, e_gatemake_Stream_Pick K), (15, e_gatemake_Stream_Flip K), (16, e_gatemake_Stream_Next K), (17, e_upstream_Switch_Ask K), (18, e_gateref2_Fuse_Ask K), (19, e_upstream_Switch_Tell K), (20, e_gateref2_Fuse_Tell K), (21, e_upstream_Switch_State K), (22, e_gateref2_Fuse_State K)])) rfl rfl rfl (cutsOK_none (by rfl)) (q_gatelaw2_SwitchesTurn_1 K)
theorem q_gatelaw2_SwitchesTurn_0 (K : Nat) (rec : List D → Option (Nat × List D)) (ds : List D) : evLoop (T_gatelaw2_SwitchesTurn K) 131 (sub (codeOf Try.f3) [1, 1, 1, 1, 1, 1, 1, 1, 0, 1, 0, 0]) (.seq .go (.seq .go (.seq (.blk (.seq .go (.seq .go (.seq (.seq .go (.cut 1)) (.seq .go (.blk (.seq .go (.cond .go (.seq (.seq .go (.cut 2)) .go))))))))) .go))) (c_gatelaw2_SwitchesTurn_0 K) rec ds = b_gatelaw2_SwitchesTurn_0 K rec ds := by kernel_rfl
theorem k_gatelaw2_SwitchesTurn_0 (K : Nat) : CutOK Try.prog (T_gatelaw2_SwitchesTurn K) 131 (sub (codeOf Try.f3) [1, 1, 1, 1, 1, 1, 1, 1, 0, 1, 0]) (c_gatelaw2_SwitchesTurn_0 K) :=
  loop_thm (T := T_gatelaw2_SwitchesTurn K) (hT_of hT0 rfl rfl rfl) (hes_ok (T0 := T0) (T := T_gatelaw2_SwitchesTurn K) rfl rfl (⟨ok_gatemake_Stream_Breaker K, ok_upstream_NewSwitch K, ok_gateref2_BreakerFault K, ok_gatelaw2_balanced K, ok_gatemake_Stream_Range K, ok_gatemake_Stream_Pick K, ok_gatemake_Stream_Flip K, ok_gatemake_Stream_Next K, ok_upstream_Switch_Ask K, ok_gateref2_Fuse_Ask K, ok_upstream_Switch_Tell K, ok_gateref2_Fuse_Tell K, ok_upstream_Switch_State K, ok_gateref2_Fuse_State K, trivial⟩ : FAll Try.prog T0 [(9, e_gatemake_Stream_Breaker K), (10, e_upstream_NewSwitch K), (11, e_gateref2_BreakerFault K), (12, e_gatelaw2_balanced K), (13, e_gatemake_Stream_Range K), (14, e_gatemake_Stream_Pick K), (15, e_gatemake_Stream_Flip K), (16, e_gatemake_Stream_Next K), (17, e_upstream_Switch_Ask K), (18, e_gateref2_Fuse_Ask K), (19, e_upstream_Switch_Tell K), (20, e_gateref2_Fuse_Tell K), (21, e_upstream_Switch_State K), (22, e_gateref2_Fuse_State K)])) (by kernel_rfl) rfl rfl rfl (cutsOK_list (l := [(1, sub (codeOf Try.f3) [1, 1, 1, 1, 1, 1, 1, 1, 0, 1, 0, 0, 1, 1, 0, 0, 1, 1, 0, 1]), (2, sub (codeOf Try.f3) [1, 1, 1, 1, 1, 1, 1, 1, 0, 1, 0, 0, 1, 1, 0, 0, 1, 1, 1, 1, 0, 1, 1, 0, 1])]) (by kernel_rfl) ⟨cut_one (u := c_gatelaw2_SwitchesTurn_1 K) rfl (k_gatelaw2_SwitchesTurn_1 K), cut_one (u := c_gatelaw2_SwitchesTurn_2 K) rfl (k_gatelaw2_SwitchesTurn_2 K), trivial⟩) rfl (q_gatelaw2_SwitchesTurn_0 K)
theorem q_gatelaw2_SwitchesTurn (K : Nat) (ds : List D) : evFn (T_gatelaw2_SwitchesTurn K) Try.f3 (.seq .go (.seq .go (.seq .go (.seq .go (.seq .go (.seq .go (.seq .go (.seq .go (.seq (.seq .go (.blk (.cut 0))) .go))))))))) (e_gatelaw2_SwitchesTurn K) ds = (e_gatelaw2_SwitchesTurn K).f ds := by kernel_rfl
theorem ok_gatelaw2_SwitchesTurn (K : Nat) : FnOK Try.prog T0 3 (e_gatelaw2_SwitchesTurn K) :=
  fn_thm (T0 := T0) (T := T_gatelaw2_SwitchesTurn K) rfl (hT_of hT0 rfl rfl rfl) (hes_ok (T0 := T0) (T := T_gatelaw2_SwitchesTurn K) rfl rfl (⟨ok_gatemake_Stream_Breaker K, ok_upstream_NewSwitch K, ok_gateref2_BreakerFault K, ok_gatelaw2_balanced K, ok_gatemake_Stream_Range K, ok_gatemake_Stream_Pick K, ok_gatemake_Stream_Flip K, ok_gatemake_Stream_Next K, ok_upstream_Switch_Ask K, ok_gateref2_Fuse_Ask K, ok_upstream_Switch_Tell K, ok_gateref2_Fuse_Tell K, ok_upstream_Switch_State K, ok_gateref2_Fuse_State K, trivial⟩ : FAll Try.prog T0 [(9, e_gatemake_Stream_Breaker K), (10, e_upstream_NewSwitch K), (11, e_gateref2_BreakerFault K), (12, e_gatelaw2_balanced K), (13, e_gatemake_Stream_Range K), (14, e_gatemake_Stream_Pick K), (15, e_gatemake_Stream_Flip K), (16, e_gatemake_Stream_Next K), (17, e_upstream_Switch_Ask K), (18, e_gateref2_Fuse_Ask K), (19, e_upstream_Switch_Tell K), (20, e_gateref2_Fuse_Tell K), (21, e_upstream_Switch_State K), (22, e_gateref2_Fuse_State K)])) Try.func3 (by decide) rfl (Nat.le_of_ble_eq_true rfl) rfl rfl rfl (tot_none rfl) (cutsOK_list (l := [(0, sub (codeOf Try.f3) [1, 1, 1, 1, 1, 1, 1, 1, 0, 1, 0])]) (by kernel_rfl) ⟨cut_one (u := c_gatelaw2_SwitchesTurn_0 K) rfl (k_gatelaw2_SwitchesTurn_0 K), trivial⟩) (q_gatelaw2_SwitchesTurn K)
end Go.Proofs.YtlogmjgkbfahjaaP
