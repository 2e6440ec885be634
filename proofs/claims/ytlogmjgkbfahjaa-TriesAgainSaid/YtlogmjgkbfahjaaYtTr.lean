/- Printed by gen.py. -/
import Derived.Test.YtlogmjgkbfahjaaProg
import Derived.Test.YtlogmjgkbfahjaaEvKit
import Derived.Test.YtlogmjgkbfahjaaEvClear
import Derived.Test.YtlogmjgkbfahjaaEvFlat
import Derived.Test.YtlogmjgkbfahjaaEvClone
namespace Go.Proofs.YtlogmjgkbfahjaaP
open Go Go.Ev 
set_option linter.unusedVariables false
def tys : List (Nat × K) := [(3, .int .i64), (4, .bool), (5, .int .u8), (9, .str), (22, .slice 3 (.int .i64)), (25, .pair 22 (.slice 3 (.int .i64)) (.pair 3 (.int .i64) .unit)), (30, .int .i64), (48, .slice 121 (.pair 9 .str (.pair 3 (.int .i64) .unit))), (50, .pair 3 (.int .i64) (.pair 3 (.int .i64) (.pair 3 (.int .i64) .unit))), (73, .slice 9 .str), (121, .pair 9 .str (.pair 3 (.int .i64) .unit)), (149, .slice 30 (.int .i64)), (174, .slice 22 (.slice 3 (.int .i64))), (193, .int .u64), (213, .int .u64), (219, .int .i64), (230, .int .u64)]
def T0 : Tbl := { kd := lk tys, boolT := 4, intT := 3, byteT := 5, frz := fun _ => false, ents := fun _ => [], cuts := fun _ => none }
theorem ty3 : TyOK Try.prog (lk tys) 3 (.int .i64) :=
  tyOK (z := .int .i64 0) (n := 1) (by kernel_rfl) rfl rfl rfl Try.underlying3 rfl (fun _ h => by cases h)
theorem ty4 : TyOK Try.prog (lk tys) 4 .bool :=
  tyOK (z := .bool false) (n := 1) (by kernel_rfl) rfl rfl rfl Try.underlying4 rfl (fun _ h => by cases h)
theorem ty5 : TyOK Try.prog (lk tys) 5 (.int .u8) :=
  tyOK (z := .int .u8 0) (n := 1) (by kernel_rfl) rfl rfl rfl Try.underlying5 rfl (fun _ h => by cases h)
theorem ty9 : TyOK Try.prog (lk tys) 9 .str :=
  tyOK (z := .string ⟨#[]⟩) (n := 1) (by kernel_rfl) rfl rfl rfl Try.underlying9 rfl (fun _ h => by cases h)
theorem ty22 : TyOK Try.prog (lk tys) 22 (.slice 3 (.int .i64)) :=
  tyOK (z := .slice none 0 0) (n := 1) (by kernel_rfl) rfl rfl rfl Try.underlying22 ⟨_, rfl, rfl⟩ (fun _ h => by cases h)
theorem ty25 : TyOK Try.prog (lk tys) 25 (.pair 22 (.slice 3 (.int .i64)) (.pair 3 (.int .i64) .unit)) :=
  tyOK (z := .agg #[.slice none 0 0, .int .i64 0]) (n := 2) (by kernel_rfl) rfl ⟨[.slice none 0 0], [.int .i64 0], rfl, rfl, ⟨[.int .i64 0], [], rfl, rfl, rfl⟩⟩ rfl Try.underlying25 ⟨⟨rfl, rfl, rfl, by decide, ⟨rfl, rfl, rfl, by decide, rfl⟩⟩, rfl⟩ (fun h => by cases h)
theorem ty30 : TyOK Try.prog (lk tys) 30 (.int .i64) :=
  tyOK (z := .int .i64 0) (n := 1) (by kernel_rfl) rfl rfl rfl Try.underlying30 rfl (fun _ h => by cases h)
theorem ty48 : TyOK Try.prog (lk tys) 48 (.slice 121 (.pair 9 .str (.pair 3 (.int .i64) .unit))) :=
  tyOK (z := .slice none 0 0) (n := 1) (by kernel_rfl) rfl rfl rfl Try.underlying48 ⟨_, rfl, rfl⟩ (fun _ h => by cases h)
theorem ty50 : TyOK Try.prog (lk tys) 50 (.pair 3 (.int .i64) (.pair 3 (.int .i64) (.pair 3 (.int .i64) .unit))) :=
  tyOK (z := .agg #[.int .i64 0, .int .i64 0, .int .i64 0]) (n := 3) (by kernel_rfl) rfl ⟨[.int .i64 0], [.int .i64 0, .int .i64 0], rfl, rfl, ⟨[.int .i64 0], [.int .i64 0], rfl, rfl, ⟨[.int .i64 0], [], rfl, rfl, rfl⟩⟩⟩ rfl Try.underlying50 ⟨⟨rfl, rfl, rfl, by decide, ⟨rfl, rfl, rfl, by decide, ⟨rfl, rfl, rfl, by decide, rfl⟩⟩⟩, rfl⟩ (fun _ _ => ⟨by kernel_rfl, by kernel_rfl⟩)
theorem ty73 : TyOK Try.prog (lk tys) 73 (.slice 9 .str) :=
  tyOK (z := .slice none 0 0) (n := 1) (by kernel_rfl) rfl rfl rfl Try.underlying73 ⟨_, rfl, rfl⟩ (fun _ h => by cases h)
theorem ty121 : TyOK Try.prog (lk tys) 121 (.pair 9 .str (.pair 3 (.int .i64) .unit)) :=
  tyOK (z := .agg #[.string ⟨#[]⟩, .int .i64 0]) (n := 2) (by kernel_rfl) rfl ⟨[.string ⟨#[]⟩], [.int .i64 0], rfl, rfl, ⟨[.int .i64 0], [], rfl, rfl, rfl⟩⟩ rfl Try.underlying121 ⟨⟨rfl, rfl, rfl, by decide, ⟨rfl, rfl, rfl, by decide, rfl⟩⟩, rfl⟩ (fun _ _ => ⟨by kernel_rfl, by kernel_rfl⟩)
theorem ty149 : TyOK Try.prog (lk tys) 149 (.slice 30 (.int .i64)) :=
  tyOK (z := .slice none 0 0) (n := 1) (by kernel_rfl) rfl rfl rfl Try.underlying149 ⟨_, rfl, rfl⟩ (fun _ h => by cases h)
theorem ty174 : TyOK Try.prog (lk tys) 174 (.slice 22 (.slice 3 (.int .i64))) :=
  tyOK (z := .slice none 0 0) (n := 1) (by kernel_rfl) rfl rfl rfl Try.underlying174 ⟨_, rfl, rfl⟩ (fun _ h => by cases h)
theorem ty193 : TyOK Try.prog (lk tys) 193 (.int .u64) :=
  tyOK (z := .int .u64 0) (n := 1) (by kernel_rfl) rfl rfl rfl Try.underlying193 rfl (fun _ h => by cases h)
theorem ty213 : TyOK Try.prog (lk tys) 213 (.int .u64) :=
  tyOK (z := .int .u64 0) (n := 1) (by kernel_rfl) rfl rfl rfl Try.underlying213 rfl (fun _ h => by cases h)
theorem ty219 : TyOK Try.prog (lk tys) 219 (.int .i64) :=
  tyOK (z := .int .i64 0) (n := 1) (by kernel_rfl) rfl rfl rfl Try.underlying219 rfl (fun _ h => by cases h)
theorem ty230 : TyOK Try.prog (lk tys) 230 (.int .u64) :=
  tyOK (z := .int .u64 0) (n := 1) (by kernel_rfl) rfl rfl rfl Try.underlying230 rfl (fun _ h => by cases h)
theorem hT0 : TblOK Try.prog T0 :=
  ⟨AllTy.get (l := tys) ⟨ty3, ty4, ty5, ty9, ty22, ty25, ty30, ty48, ty50, ty73, ty121, ty149, ty174, ty193, ty213, ty219, ty230, trivial⟩, rfl, rfl, by kernel_rfl⟩
/-! ### 81 gatewarden/gatemake.Below -/
def f_gatemake_Below (K : Nat) (x n : D) : Option (List D) :=
  bif (ltI n.int 1) then
    some [D.i 0]
  else
    bif (!(eqI n.int 0)) then
      bif (ltI (Int.tmod x.int n.int) 0) then
        some [D.i (IntKind.i64.wrap ((Int.tmod x.int n.int) + n.int))]
      else
        some [D.i (Int.tmod x.int n.int)]
    else
      none
def e_gatemake_Below (K : Nat) : Entry := { n := 2, sh := { sl := [(0, .d 3 false), (1, .d 3 false)], ob := [] }, kept := [], rs := [{ sl := [(0, .d 3 true)], ob := [] }], f := fun ds => f_gatemake_Below K (D.nth ds 0) (D.nth ds 1), tot := none }
def T_gatemake_Below (K : Nat) : Tbl := { T0 with ents := entsOf [], cuts := lk [] }
theorem q_gatemake_Below (K : Nat) (ds : List D) : evFn (T_gatemake_Below K) Try.f81 .go (e_gatemake_Below K) ds = (e_gatemake_Below K).f ds := by kernel_rfl
theorem ok_gatemake_Below (K : Nat) : FnOK Try.prog T0 81 (e_gatemake_Below K) :=
  fn_thm (T0 := T0) (T := T_gatemake_Below K) rfl (hT_of hT0 rfl rfl rfl) (hes_ok (T0 := T0) (T := T_gatemake_Below K) rfl rfl (trivial : FAll Try.prog T0 [])) Try.func81 (by decide) rfl (Nat.le_of_ble_eq_true rfl) rfl rfl rfl (tot_none rfl) (cutsOK_none (by rfl)) (q_gatemake_Below K)
/-! ### 16 (*gatewarden/gatemake.Stream).Next -/
def f_gatemake_Stream_Next (K : Nat) (n o0 : D) : Option (List D) :=
  bif ((((o0.at' 0).list).length : Int) == (0 : Int)) then
    (f_gatemake_Below K (D.i (IntKind.i64.wrap ((IntKind.i64.wrap (((o0.at' 1).int) + (1 : Int))) * (7919 : Int)))) n).bind fun t1 =>
    some [D.nth t1 0, D.n [o0.at' 0, D.i (IntKind.i64.wrap (((o0.at' 1).int) + (1 : Int)))]]
  else
    bif (!(eqI (((o0.at' 0).list).length : Int) 0)) then
      bif (!(eqI (((o0.at' 0).list).length : Int) 0)) then
        bif (inB (Int.tmod (IntKind.i64.wrap ((IntKind.i64.wrap (((o0.at' 1).int) + (1 : Int))) - (1 : Int))) (((o0.at' 0).list).length : Int)) (((o0.at' 0).list).length)) then
          (f_gatemake_Below K (D.nth ((o0.at' 0).list) ((Int.tmod (IntKind.i64.wrap ((IntKind.i64.wrap (((o0.at' 1).int) + (1 : Int))) - (1 : Int))) (((o0.at' 0).list).length : Int)).toNat)) (D.i 1073741824)).bind fun t2 =>
          (f_gatemake_Below K (D.i (IntKind.i64.wrap (((D.nth t2 0).int) + (IntKind.i64.wrap ((IntKind.i64.wrap (Int.tdiv (IntKind.i64.wrap ((IntKind.i64.wrap (((o0.at' 1).int) + (1 : Int))) - (1 : Int))) (((o0.at' 0).list).length : Int))) * (IntKind.i64.wrap ((7919 : Int) + (Int.tmod (IntKind.i64.wrap ((IntKind.i64.wrap (((o0.at' 1).int) + (1 : Int))) - (1 : Int))) (((o0.at' 0).list).length : Int))))))))) n).bind fun t3 =>
          some [D.nth t3 0, D.n [o0.at' 0, D.i (IntKind.i64.wrap (((o0.at' 1).int) + (1 : Int)))]]
        else
          none
      else
        none
    else
      none
def e_gatemake_Stream_Next (K : Nat) : Entry := { n := 2, sh := { sl := [(0, .ptr 25 0 []), (1, .d 3 false)], ob := [(0, .box 25 (.d 25 false))] }, kept := [0], rs := [{ sl := [(0, .d 3 true)], ob := [(0, .box 25 (.d 25 false))] }], f := fun ds => f_gatemake_Stream_Next K (D.nth ds 0) (D.nth ds 1), tot := none }
def T_gatemake_Stream_Next (K : Nat) : Tbl := { T0 with ents := entsOf [(81, e_gatemake_Below K)], cuts := lk [] }
theorem q_gatemake_Stream_Next (K : Nat) (ds : List D) : evFn (T_gatemake_Stream_Next K) Try.f16 .go (e_gatemake_Stream_Next K) ds = (e_gatemake_Stream_Next K).f ds := by kernel_rfl
theorem ok_gatemake_Stream_Next (K : Nat) : FnOK Try.prog T0 16 (e_gatemake_Stream_Next K) :=
  fn_thm (T0 := T0) (T := T_gatemake_Stream_Next K) rfl (hT_of hT0 rfl rfl rfl) (hes_ok (T0 := T0) (T := T_gatemake_Stream_Next K) rfl rfl (⟨ok_gatemake_Below K, trivial⟩ : FAll Try.prog T0 [(81, e_gatemake_Below K)])) Try.func16 (by decide) rfl (Nat.le_of_ble_eq_true rfl) rfl rfl rfl (tot_none rfl) (cutsOK_none (by rfl)) (q_gatemake_Stream_Next K)
/-! ### 13 (*gatewarden/gatemake.Stream).Range -/
def f_gatemake_Stream_Range (K : Nat) (low high o0 : D) : Option (List D) :=
  bif (ltI high.int low.int) then
    some [low, o0]
  else
    (f_gatemake_Stream_Next K (D.i (IntKind.i64.wrap ((IntKind.i64.wrap (high.int - low.int)) + (1 : Int)))) o0).bind fun t1 =>
    some [D.i (IntKind.i64.wrap (low.int + ((D.nth t1 0).int))), D.nth t1 1]
def e_gatemake_Stream_Range (K : Nat) : Entry := { n := 3, sh := { sl := [(0, .ptr 25 0 []), (1, .d 3 false), (2, .d 3 false)], ob := [(0, .box 25 (.d 25 false))] }, kept := [0], rs := [{ sl := [(0, .d 3 true)], ob := [(0, .box 25 (.d 25 false))] }], f := fun ds => f_gatemake_Stream_Range K (D.nth ds 0) (D.nth ds 1) (D.nth ds 2), tot := none }
def T_gatemake_Stream_Range (K : Nat) : Tbl := { T0 with ents := entsOf [(16, e_gatemake_Stream_Next K)], cuts := lk [] }
theorem q_gatemake_Stream_Range (K : Nat) (ds : List D) : evFn (T_gatemake_Stream_Range K) Try.f13 .go (e_gatemake_Stream_Range K) ds = (e_gatemake_Stream_Range K).f ds := by kernel_rfl
theorem ok_gatemake_Stream_Range (K : Nat) : FnOK Try.prog T0 13 (e_gatemake_Stream_Range K) :=
  fn_thm (T0 := T0) (T := T_gatemake_Stream_Range K) rfl (hT_of hT0 rfl rfl rfl) (hes_ok (T0 := T0) (T := T_gatemake_Stream_Range K) rfl rfl (⟨ok_gatemake_Stream_Next K, trivial⟩ : FAll Try.prog T0 [(16, e_gatemake_Stream_Next K)])) Try.func13 (by decide) rfl (Nat.le_of_ble_eq_true rfl) rfl rfl rfl (tot_none rfl) (cutsOK_none (by rfl)) (q_gatemake_Stream_Range K)
/-! ### 14 (*gatewarden/gatemake.Stream).Pick -/
def f_gatemake_Stream_Pick (K : Nat) (o0 r1 : D) : Option (List D) :=
  (f_gatemake_Stream_Next K (D.i (r1.list.length : Int)) o0).bind fun t1 =>
  bif (inB ((D.nth t1 0).int) r1.list.length) then
    some [D.nth r1.list (((D.nth t1 0).int).toNat), D.nth t1 1, D.n r1.list]
  else
    none
def e_gatemake_Stream_Pick (K : Nat) : Entry := { n := 2, sh := { sl := [(0, .ptr 25 0 []), (1, .own 22 1)], ob := [(0, .box 25 (.d 25 false)), (1, .row 3 true)] }, kept := [0, 1], rs := [{ sl := [(0, .d 3 true)], ob := [(0, .box 25 (.d 25 false)), (1, .row 3 true)] }], f := fun ds => f_gatemake_Stream_Pick K (D.nth ds 0) (D.nth ds 1), tot := none }
def T_gatemake_Stream_Pick (K : Nat) : Tbl := { T0 with ents := entsOf [(16, e_gatemake_Stream_Next K)], cuts := lk [] }
theorem q_gatemake_Stream_Pick (K : Nat) (ds : List D) : evFn (T_gatemake_Stream_Pick K) Try.f14 .go (e_gatemake_Stream_Pick K) ds = (e_gatemake_Stream_Pick K).f ds := by kernel_rfl
theorem ok_gatemake_Stream_Pick (K : Nat) : FnOK Try.prog T0 14 (e_gatemake_Stream_Pick K) :=
  fn_thm (T0 := T0) (T := T_gatemake_Stream_Pick K) rfl (hT_of hT0 rfl rfl rfl) (hes_ok (T0 := T0) (T := T_gatemake_Stream_Pick K) rfl rfl (⟨ok_gatemake_Stream_Next K, trivial⟩ : FAll Try.prog T0 [(16, e_gatemake_Stream_Next K)])) Try.func14 (by decide) rfl (Nat.le_of_ble_eq_true rfl) rfl rfl rfl (tot_none rfl) (cutsOK_none (by rfl)) (q_gatemake_Stream_Pick K)
/-! ### 15 (*gatewarden/gatemake.Stream).Flip -/
def f_gatemake_Stream_Flip (K : Nat) (n o0 : D) : Option (List D) :=
  (f_gatemake_Stream_Next K n o0).bind fun t1 =>
  some [D.b (((D.nth t1 0).int) == (0 : Int)), D.nth t1 1]
def e_gatemake_Stream_Flip (K : Nat) : Entry := { n := 2, sh := { sl := [(0, .ptr 25 0 []), (1, .d 3 false)], ob := [(0, .box 25 (.d 25 false))] }, kept := [0], rs := [{ sl := [(0, .d 4 true)], ob := [(0, .box 25 (.d 25 false))] }], f := fun ds => f_gatemake_Stream_Flip K (D.nth ds 0) (D.nth ds 1), tot := none }
def T_gatemake_Stream_Flip (K : Nat) : Tbl := { T0 with ents := entsOf [(16, e_gatemake_Stream_Next K)], cuts := lk [] }
theorem q_gatemake_Stream_Flip (K : Nat) (ds : List D) : evFn (T_gatemake_Stream_Flip K) Try.f15 .go (e_gatemake_Stream_Flip K) ds = (e_gatemake_Stream_Flip K).f ds := by kernel_rfl
theorem ok_gatemake_Stream_Flip (K : Nat) : FnOK Try.prog T0 15 (e_gatemake_Stream_Flip K) :=
  fn_thm (T0 := T0) (T := T_gatemake_Stream_Flip K) rfl (hT_of hT0 rfl rfl rfl) (hes_ok (T0 := T0) (T := T_gatemake_Stream_Flip K) rfl rfl (⟨ok_gatemake_Stream_Next K, trivial⟩ : FAll Try.prog T0 [(16, e_gatemake_Stream_Next K)])) Try.func15 (by decide) rfl (Nat.le_of_ble_eq_true rfl) rfl rfl rfl (tot_none rfl) (cutsOK_none (by rfl)) (q_gatemake_Stream_Flip K)
/-! ### 64 (*gatewarden/gatemake.Stream).Odd -/
def f_gatemake_Stream_Odd (K : Nat) (low high o0 : D) : Option (List D) :=
  (f_gatemake_Stream_Flip K (D.i 12) o0).bind fun t1 =>
  bif (D.nth t1 0).bool then
    (f_gatemake_Stream_Pick K (D.nth t1 1) (D.n [D.i (IntKind.i64.wrap (low.int - (1 : Int))), D.i (IntKind.i64.wrap (high.int + (1 : Int))), low, high, D.i (-1099511627776), D.i 1099511627776])).bind fun t2 =>
    some [D.nth t2 0, D.nth t2 1]
  else
    (f_gatemake_Stream_Range K low high (D.nth t1 1)).bind fun t3 =>
    some [D.nth t3 0, D.nth t3 1]
def e_gatemake_Stream_Odd (K : Nat) : Entry := { n := 3, sh := { sl := [(0, .ptr 25 0 []), (1, .d 3 false), (2, .d 3 false)], ob := [(0, .box 25 (.d 25 false))] }, kept := [0], rs := [{ sl := [(0, .d 3 true)], ob := [(0, .box 25 (.d 25 false))] }], f := fun ds => f_gatemake_Stream_Odd K (D.nth ds 0) (D.nth ds 1) (D.nth ds 2), tot := none }
def T_gatemake_Stream_Odd (K : Nat) : Tbl := { T0 with ents := entsOf [(15, e_gatemake_Stream_Flip K), (14, e_gatemake_Stream_Pick K), (13, e_gatemake_Stream_Range K)], cuts := lk [] }
theorem q_gatemake_Stream_Odd (K : Nat) (ds : List D) : evFn (T_gatemake_Stream_Odd K) Try.f64 .go (e_gatemake_Stream_Odd K) ds = (e_gatemake_Stream_Odd K).f ds := by kernel_rfl
theorem ok_gatemake_Stream_Odd (K : Nat) : FnOK Try.prog T0 64 (e_gatemake_Stream_Odd K) :=
  fn_thm (T0 := T0) (T := T_gatemake_Stream_Odd K) rfl (hT_of hT0 rfl rfl rfl) (hes_ok (T0 := T0) (T := T_gatemake_Stream_Odd K) rfl rfl (⟨ok_gatemake_Stream_Flip K, ok_gatemake_Stream_Pick K, ok_gatemake_Stream_Range K, trivial⟩ : FAll Try.prog T0 [(15, e_gatemake_Stream_Flip K), (14, e_gatemake_Stream_Pick K), (13, e_gatemake_Stream_Range K)])) Try.func64 (by decide) rfl (Nat.le_of_ble_eq_true rfl) rfl rfl rfl (tot_none rfl) (cutsOK_none (by rfl)) (q_gatemake_Stream_Odd K)
/-! ### 122 (*gatewarden/gatemake.Stream).RightBudget -/
def f_gatemake_Stream_RightBudget (K : Nat) (o0 : D) : Option (List D) :=
  (f_gatemake_Stream_Pick K o0 (D.n [D.i 1, D.i 10, D.i 50, D.i 100, D.i 1000])).bind fun t1 =>
  (f_gatemake_Stream_Pick K (D.nth t1 1) (D.n [D.i 0, D.i 1, D.i 2, D.i 5])).bind fun t2 =>
  (f_gatemake_Stream_Pick K (D.nth t2 1) (D.n [D.i 0, D.i 100, D.i 333, D.i 500, D.i 1000])).bind fun t3 =>
  some [D.n [D.nth t1 0, D.nth t2 0, D.nth t3 0], D.nth t3 1]
def e_gatemake_Stream_RightBudget (K : Nat) : Entry := { n := 1, sh := { sl := [(0, .ptr 25 0 [])], ob := [(0, .box 25 (.d 25 false))] }, kept := [0], rs := [{ sl := [(0, .d 50 true)], ob := [(0, .box 25 (.d 25 false))] }], f := fun ds => f_gatemake_Stream_RightBudget K (D.nth ds 0), tot := none }
def T_gatemake_Stream_RightBudget (K : Nat) : Tbl := { T0 with ents := entsOf [(14, e_gatemake_Stream_Pick K)], cuts := lk [] }
theorem q_gatemake_Stream_RightBudget (K : Nat) (ds : List D) : evFn (T_gatemake_Stream_RightBudget K) Try.f122 .go (e_gatemake_Stream_RightBudget K) ds = (e_gatemake_Stream_RightBudget K).f ds := by kernel_rfl
theorem ok_gatemake_Stream_RightBudget (K : Nat) : FnOK Try.prog T0 122 (e_gatemake_Stream_RightBudget K) :=
  fn_thm (T0 := T0) (T := T_gatemake_Stream_RightBudget K) rfl (hT_of hT0 rfl rfl rfl) (hes_ok (T0 := T0) (T := T_gatemake_Stream_RightBudget K) rfl rfl (⟨ok_gatemake_Stream_Pick K, trivial⟩ : FAll Try.prog T0 [(14, e_gatemake_Stream_Pick K)])) Try.func122 (by decide) rfl (Nat.le_of_ble_eq_true rfl) rfl rfl rfl (tot_none rfl) (cutsOK_none (by rfl)) (q_gatemake_Stream_RightBudget K)
/-! ### 65 (*gatewarden/gatemake.Stream).Budget -/
def f_gatemake_Stream_Budget (K : Nat) (o0 : D) : Option (List D) :=
  (f_gatemake_Stream_RightBudget K o0).bind fun t1 =>
  (f_gatemake_Stream_Flip K (D.i 15) (D.nth t1 1)).bind fun t2 =>
  bif (D.nth t2 0).bool then
    (f_gatemake_Stream_Odd K (D.i 1) (D.i 3600000) (D.nth t2 1)).bind fun t3 =>
    (f_gatemake_Stream_Odd K (D.i 0) (D.i 300) (D.nth t3 1)).bind fun t4 =>
    (f_gatemake_Stream_Odd K (D.i 0) (D.i 1000) (D.nth t4 1)).bind fun t5 =>
    some [D.n [D.nth t3 0, D.nth t4 0, D.nth t5 0], D.nth t5 1]
  else
    some [D.nth t1 0, D.nth t2 1]
def e_gatemake_Stream_Budget (K : Nat) : Entry := { n := 1, sh := { sl := [(0, .ptr 25 0 [])], ob := [(0, .box 25 (.d 25 false))] }, kept := [0], rs := [{ sl := [(0, .d 50 true)], ob := [(0, .box 25 (.d 25 false))] }], f := fun ds => f_gatemake_Stream_Budget K (D.nth ds 0), tot := none }
def T_gatemake_Stream_Budget (K : Nat) : Tbl := { T0 with ents := entsOf [(122, e_gatemake_Stream_RightBudget K), (15, e_gatemake_Stream_Flip K), (64, e_gatemake_Stream_Odd K)], cuts := lk [] }
theorem q_gatemake_Stream_Budget (K : Nat) (ds : List D) : evFn (T_gatemake_Stream_Budget K) Try.f65 .go (e_gatemake_Stream_Budget K) ds = (e_gatemake_Stream_Budget K).f ds := by kernel_rfl
theorem ok_gatemake_Stream_Budget (K : Nat) : FnOK Try.prog T0 65 (e_gatemake_Stream_Budget K) :=
  fn_thm (T0 := T0) (T := T_gatemake_Stream_Budget K) rfl (hT_of hT0 rfl rfl rfl) (hes_ok (T0 := T0) (T := T_gatemake_Stream_Budget K) rfl rfl (⟨ok_gatemake_Stream_RightBudget K, ok_gatemake_Stream_Flip K, ok_gatemake_Stream_Odd K, trivial⟩ : FAll Try.prog T0 [(122, e_gatemake_Stream_RightBudget K), (15, e_gatemake_Stream_Flip K), (64, e_gatemake_Stream_Odd K)])) Try.func65 (by decide) rfl (Nat.le_of_ble_eq_true rfl) rfl rfl rfl (tot_none rfl) (cutsOK_none (by rfl)) (q_gatemake_Stream_Budget K)
/-! ### 66 (*gatewarden/gatemake.Stream).Times -/
def b_gatemake_Stream_Times_0 (K : Nat) (rec : List D → Option (Nat × List D)) (ds : List D) : Option (Nat × List D) :=
  let s8 := D.nth ds 0
  let s9 := D.nth ds 1
  let o0 := D.nth ds 2
  let r1 := D.nth ds 3
  bif (ltI s9.int s8.int) then
    (f_gatemake_Stream_Pick K o0 (D.n [D.i 0, D.i 1, D.i 5, D.i 10, D.i 50, D.i 99, D.i 100, D.i 101])).bind fun t2 =>
    bif (lim (r1.list.length + 1)) then
      rec [s8, D.i (IntKind.i64.wrap (s9.int + (1 : Int))), D.nth t2 1, D.n (r1.list ++ [D.nth t2 0])]
    else
      none
  else
    some (0, [o0, D.n r1.list])
def c_gatemake_Stream_Times_0 (K : Nat) : Cut := { sh := { sl := [(0, .ptr 25 0 []), (5, .own 22 1), (8, .d 3 true), (9, .d 3 true)], ob := [(0, .box 25 (.d 25 false)), (1, .row 3 true)] }, kept := [0], outs := [(.exit 0, { sl := [(5, .own 22 1)], ob := [(0, .box 25 (.d 25 false)), (1, .row 3 true)] })], f := fun ds => fixN (b_gatemake_Stream_Times_0 K) K ds }
def f_gatemake_Stream_Times (K : Nat) (most o0 : D) : Option (List D) :=
  (f_gatemake_Stream_Range K (D.i 0) most o0).bind fun t1 =>
  (fixN (b_gatemake_Stream_Times_0 K) K [D.nth t1 0, D.i 0, D.nth t1 1, D.n []]).bind fun t2 =>
  bif (gtI (((D.nth t2.2 1).list).length : Int) 0) then
    (f_gatemake_Stream_Flip K (D.i 20) (D.nth t2.2 0)).bind fun t3 =>
    bif (D.nth t3 0).bool then
      (f_gatemake_Stream_Odd K (D.i 0) (D.i 100) (D.nth t3 1)).bind fun t4 =>
      bif (inB 0 (((D.nth t2.2 1).list).length)) then
        some [D.n (D.setNth ((D.nth t2.2 1).list) 0 (D.nth t4 0)), D.nth t4 1]
      else
        none
    else
      some [D.n ((D.nth t2.2 1).list), D.nth t3 1]
  else
    some [D.n ((D.nth t2.2 1).list), D.nth t2.2 0]
def e_gatemake_Stream_Times (K : Nat) : Entry := { n := 2, sh := { sl := [(0, .ptr 25 0 []), (1, .d 3 false)], ob := [(0, .box 25 (.d 25 false))] }, kept := [0], rs := [{ sl := [(0, .d 22 true)], ob := [(0, .box 25 (.d 25 false))] }], f := fun ds => f_gatemake_Stream_Times K (D.nth ds 0) (D.nth ds 1), tot := none }
def T_gatemake_Stream_Times (K : Nat) : Tbl := { T0 with ents := entsOf [(13, e_gatemake_Stream_Range K), (14, e_gatemake_Stream_Pick K), (15, e_gatemake_Stream_Flip K), (64, e_gatemake_Stream_Odd K)], cuts := lk [(0, c_gatemake_Stream_Times_0 K)] }
theorem q_gatemake_Stream_Times_0 (K : Nat) (rec : List D → Option (Nat × List D)) (ds : List D) : evLoop (T_gatemake_Stream_Times K) 30 (sub (codeOf Try.f66) [1, 1, 0, 1, 0, 0]) .go (c_gatemake_Stream_Times_0 K) rec ds = b_gatemake_Stream_Times_0 K rec ds := by kernel_rfl
theorem k_gatemake_Stream_Times_0 (K : Nat) : CutOK Try.prog (T_gatemake_Stream_Times K) 30 (sub (codeOf Try.f66) [1, 1, 0, 1, 0]) (c_gatemake_Stream_Times_0 K) :=
  loop_thm (T := T_gatemake_Stream_Times K) (hT_of hT0 rfl rfl rfl) (hes_ok (T0 := T0) (T := T_gatemake_Stream_Times K) rfl rfl (⟨ok_gatemake_Stream_Range K, ok_gatemake_Stream_Pick K, ok_gatemake_Stream_Flip K, ok_gatemake_Stream_Odd K, trivial⟩ : FAll Try.prog T0 [(13, e_gatemake_Stream_Range K), (14, e_gatemake_Stream_Pick K), (15, e_gatemake_Stream_Flip K), (64, e_gatemake_Stream_Odd K)])) (by kernel_rfl) rfl rfl rfl (cutsOK_none (by rfl)) rfl (q_gatemake_Stream_Times_0 K)
theorem q_gatemake_Stream_Times (K : Nat) (ds : List D) : evFn (T_gatemake_Stream_Times K) Try.f66 (.seq .go (.seq .go (.seq (.seq .go (.blk (.cut 0))) .go))) (e_gatemake_Stream_Times K) ds = (e_gatemake_Stream_Times K).f ds := by kernel_rfl
theorem ok_gatemake_Stream_Times (K : Nat) : FnOK Try.prog T0 66 (e_gatemake_Stream_Times K) :=
  fn_thm (T0 := T0) (T := T_gatemake_Stream_Times K) rfl (hT_of hT0 rfl rfl rfl) (hes_ok (T0 := T0) (T := T_gatemake_Stream_Times K) rfl rfl (⟨ok_gatemake_Stream_Range K, ok_gatemake_Stream_Pick K, ok_gatemake_Stream_Flip K, ok_gatemake_Stream_Odd K, trivial⟩ : FAll Try.prog T0 [(13, e_gatemake_Stream_Range K), (14, e_gatemake_Stream_Pick K), (15, e_gatemake_Stream_Flip K), (64, e_gatemake_Stream_Odd K)])) Try.func66 (by decide) rfl (Nat.le_of_ble_eq_true rfl) rfl rfl rfl (tot_none rfl) (cutsOK_list (l := [(0, sub (codeOf Try.f66) [1, 1, 0, 1, 0])]) (by kernel_rfl) ⟨cut_one (u := c_gatemake_Stream_Times_0 K) rfl (k_gatemake_Stream_Times_0 K), trivial⟩) (q_gatemake_Stream_Times K)
/-! ### 78 gatewarden/kit.Outside -/
def p_kit_Outside (n low high : D) : List D := [D.b (bif (ltI n.int low.int) then true else (gtI n.int high.int))]
def e_kit_Outside (K : Nat) : Entry := { n := 3, sh := { sl := [(0, .d 3 false), (1, .d 3 false), (2, .d 3 false)], ob := [] }, kept := [], rs := [{ sl := [(0, .d 4 true)], ob := [] }], f := fun ds => some (p_kit_Outside (D.nth ds 0) (D.nth ds 1) (D.nth ds 2)), tot := some fun ds => p_kit_Outside (D.nth ds 0) (D.nth ds 1) (D.nth ds 2) }
def T_kit_Outside (K : Nat) : Tbl := { T0 with ents := entsOf [], cuts := lk [] }
theorem q_kit_Outside (K : Nat) (ds : List D) : evFn (T_kit_Outside K) Try.f78 .go (e_kit_Outside K) ds = (e_kit_Outside K).f ds := by kernel_rfl
theorem ok_kit_Outside (K : Nat) : FnOK Try.prog T0 78 (e_kit_Outside K) :=
  fn_thm (T0 := T0) (T := T_kit_Outside K) rfl (hT_of hT0 rfl rfl rfl) (hes_ok (T0 := T0) (T := T_kit_Outside K) rfl rfl (trivial : FAll Try.prog T0 [])) Try.func78 (by decide) rfl (Nat.le_of_ble_eq_true rfl) rfl rfl rfl (tot_some rfl fun _ => rfl) (cutsOK_none (by rfl)) (q_kit_Outside K)
/-! ### 123 slices.Clone[[]int,int] -/
def b_slices_Clone_int_0 (K : Nat) (ds : List D) : Option (Nat × List D) :=
  let s := D.nth ds 0
  bif (lim (0 + s.list.length)) then
    some (0, [D.n s.list])
  else
    none
def c_slices_Clone_int_0 (K : Nat) : Cut := { sh := { sl := [(0, .d 22 false)], ob := [] }, kept := [], outs := [(.ret, { sl := [(2, .own 22 0)], ob := [(0, .row 3 true)] })], f := b_slices_Clone_int_0 K }
def f_slices_Clone_int (K : Nat) (s : D) : Option (List D) :=
  (b_slices_Clone_int_0 K [s]).bind fun t1 =>
  some [D.n ((D.nth t1.2 0).list)]
def e_slices_Clone_int (K : Nat) : Entry := { n := 1, sh := { sl := [(0, .d 22 false)], ob := [] }, kept := [], rs := [{ sl := [(0, .own 22 0)], ob := [(0, .row 3 true)] }], f := fun ds => f_slices_Clone_int K (D.nth ds 0), tot := none }
def T_slices_Clone_int (K : Nat) : Tbl := { T0 with ents := entsOf [], cuts := lk [(0, c_slices_Clone_int_0 K)] }
theorem q_slices_Clone_int_0 (K : Nat) (ds : List D) : evPiece (T_slices_Clone_int K) 8 (sub (codeOf Try.f123) [1, 1]) .go (c_slices_Clone_int_0 K) ds = b_slices_Clone_int_0 K ds := by kernel_rfl
theorem k_slices_Clone_int_0 (K : Nat) : CutOK Try.prog (T_slices_Clone_int K) 8 (sub (codeOf Try.f123) [1]) (c_slices_Clone_int_0 K) :=
  clone_thm (T := T_slices_Clone_int K) (rest := sub (codeOf Try.f123) [1, 1]) (hT_of hT0 rfl rfl rfl) rfl (piece_thm (T := T_slices_Clone_int K) (hT_of hT0 rfl rfl rfl) (hes_ok (T0 := T0) (T := T_slices_Clone_int K) rfl rfl (trivial : FAll Try.prog T0 [])) rfl rfl rfl (cutsOK_none (by rfl)) (q_slices_Clone_int_0 K)) rfl rfl rfl (fun ds out h0 h => clone_f h0 h) rfl rfl
theorem q_slices_Clone_int (K : Nat) (ds : List D) : evFn (T_slices_Clone_int K) Try.f123 (.seq .go (.cut 0)) (e_slices_Clone_int K) ds = (e_slices_Clone_int K).f ds := by kernel_rfl
theorem ok_slices_Clone_int (K : Nat) : FnOK Try.prog T0 123 (e_slices_Clone_int K) :=
  fn_thm (T0 := T0) (T := T_slices_Clone_int K) rfl (hT_of hT0 rfl rfl rfl) (hes_ok (T0 := T0) (T := T_slices_Clone_int K) rfl rfl (trivial : FAll Try.prog T0 [])) Try.func123 (by decide) rfl (Nat.le_of_ble_eq_true rfl) rfl rfl rfl (tot_none rfl) (cutsOK_list (l := [(0, sub (codeOf Try.f123) [1])]) (by kernel_rfl) ⟨cut_one (u := c_slices_Clone_int_0 K) rfl (k_slices_Clone_int_0 K), trivial⟩) (q_slices_Clone_int K)
/-! ### 174 math/bits.Len64 -/
def b_bits_Len64_1 (K : Nat) (ds : List D) : Option (Nat × List D) :=
  let x := D.nth ds 0
  let n := D.nth ds 1
  let s8 := D.nth ds 2
  bif s8.bool then
    some (0, [D.i (shr .u64 x.int 16), D.i (IntKind.i64.wrap (n.int + (16 : Int)))])
  else
    some (0, [x, n])
def c_bits_Len64_1 (K : Nat) : Cut := { sh := { sl := [(0, .d 193 true), (2, .d 3 true), (8, .d 4 true)], ob := [] }, kept := [], outs := [(.normal, { sl := [(0, .d 193 true), (2, .d 3 true)], ob := [] })], f := b_bits_Len64_1 K }
def b_bits_Len64_0 (K : Nat) (ds : List D) : Option (Nat × List D) :=
  let x := D.nth ds 0
  let n := D.nth ds 1
  let s4 := D.nth ds 2
  bif s4.bool then
    some (0, [D.i (shr .u64 x.int 32), D.i 32])
  else
    some (0, [x, n])
def c_bits_Len64_0 (K : Nat) : Cut := { sh := { sl := [(0, .d 193 true), (2, .d 3 true), (4, .d 4 true)], ob := [] }, kept := [], outs := [(.normal, { sl := [(0, .d 193 true), (2, .d 3 true)], ob := [] })], f := b_bits_Len64_0 K }
def f_bits_Len64 (K : Nat) (x : D) : Option (List D) :=
  (b_bits_Len64_0 K [x, D.i 0, D.b (geI x.int 4294967296)]).bind fun t1 =>
  (b_bits_Len64_1 K [D.nth t1.2 0, D.nth t1.2 1, D.b (geI ((D.nth t1.2 0).int) 65536)]).bind fun t2 =>
  bif (geI ((D.nth t2.2 0).int) 256) then
    bif (inB (IntKind.u8.wrap (shr .u64 ((D.nth t2.2 0).int) 8)) ([0, 1, 2, 2, 3, 3, 3, 3, 4, 4, 4, 4, 4, 4, 4, 4, 5, 5, 5, 5, 5, 5, 5, 5, 5, 5, 5, 5, 5, 5, 5, 5, 6, 6, 6, 6, 6, 6, 6, 6, 6, 6, 6, 6, 6, 6, 6, 6, 6, 6, 6, 6, 6, 6, 6, 6, 6, 6, 6, 6, 6, 6, 6, 6, 7, 7, 7, 7, 7, 7, 7, 7, 7, 7, 7, 7, 7, 7, 7, 7, 7, 7, 7, 7, 7, 7, 7, 7, 7, 7, 7, 7, 7, 7, 7, 7, 7, 7, 7, 7, 7, 7, 7, 7, 7, 7, 7, 7, 7, 7, 7, 7, 7, 7, 7, 7, 7, 7, 7, 7, 7, 7, 7, 7, 7, 7, 7, 7, 8, 8, 8, 8, 8, 8, 8, 8, 8, 8, 8, 8, 8, 8, 8, 8, 8, 8, 8, 8, 8, 8, 8, 8, 8, 8, 8, 8, 8, 8, 8, 8, 8, 8, 8, 8, 8, 8, 8, 8, 8, 8, 8, 8, 8, 8, 8, 8, 8, 8, 8, 8, 8, 8, 8, 8, 8, 8, 8, 8, 8, 8, 8, 8, 8, 8, 8, 8, 8, 8, 8, 8, 8, 8, 8, 8, 8, 8, 8, 8, 8, 8, 8, 8, 8, 8, 8, 8, 8, 8, 8, 8, 8, 8, 8, 8, 8, 8, 8, 8, 8, 8, 8, 8, 8, 8, 8, 8, 8, 8, 8, 8, 8, 8, 8, 8, 8, 8, 8, 8, 8, 8, 8, 8, 8, 8, 8, 8].length)) then
      some [D.i (IntKind.i64.wrap ((IntKind.i64.wrap (((D.nth t2.2 1).int) + (8 : Int))) + (IntKind.i64.wrap (byteAt [0, 1, 2, 2, 3, 3, 3, 3, 4, 4, 4, 4, 4, 4, 4, 4, 5, 5, 5, 5, 5, 5, 5, 5, 5, 5, 5, 5, 5, 5, 5, 5, 6, 6, 6, 6, 6, 6, 6, 6, 6, 6, 6, 6, 6, 6, 6, 6, 6, 6, 6, 6, 6, 6, 6, 6, 6, 6, 6, 6, 6, 6, 6, 6, 7, 7, 7, 7, 7, 7, 7, 7, 7, 7, 7, 7, 7, 7, 7, 7, 7, 7, 7, 7, 7, 7, 7, 7, 7, 7, 7, 7, 7, 7, 7, 7, 7, 7, 7, 7, 7, 7, 7, 7, 7, 7, 7, 7, 7, 7, 7, 7, 7, 7, 7, 7, 7, 7, 7, 7, 7, 7, 7, 7, 7, 7, 7, 7, 8, 8, 8, 8, 8, 8, 8, 8, 8, 8, 8, 8, 8, 8, 8, 8, 8, 8, 8, 8, 8, 8, 8, 8, 8, 8, 8, 8, 8, 8, 8, 8, 8, 8, 8, 8, 8, 8, 8, 8, 8, 8, 8, 8, 8, 8, 8, 8, 8, 8, 8, 8, 8, 8, 8, 8, 8, 8, 8, 8, 8, 8, 8, 8, 8, 8, 8, 8, 8, 8, 8, 8, 8, 8, 8, 8, 8, 8, 8, 8, 8, 8, 8, 8, 8, 8, 8, 8, 8, 8, 8, 8, 8, 8, 8, 8, 8, 8, 8, 8, 8, 8, 8, 8, 8, 8, 8, 8, 8, 8, 8, 8, 8, 8, 8, 8, 8, 8, 8, 8, 8, 8, 8, 8, 8, 8, 8, 8] ((IntKind.u8.wrap (shr .u64 ((D.nth t2.2 0).int) 8)).toNat)))))]
    else
      none
  else
    bif (inB (IntKind.u8.wrap ((D.nth t2.2 0).int)) ([0, 1, 2, 2, 3, 3, 3, 3, 4, 4, 4, 4, 4, 4, 4, 4, 5, 5, 5, 5, 5, 5, 5, 5, 5, 5, 5, 5, 5, 5, 5, 5, 6, 6, 6, 6, 6, 6, 6, 6, 6, 6, 6, 6, 6, 6, 6, 6, 6, 6, 6, 6, 6, 6, 6, 6, 6, 6, 6, 6, 6, 6, 6, 6, 7, 7, 7, 7, 7, 7, 7, 7, 7, 7, 7, 7, 7, 7, 7, 7, 7, 7, 7, 7, 7, 7, 7, 7, 7, 7, 7, 7, 7, 7, 7, 7, 7, 7, 7, 7, 7, 7, 7, 7, 7, 7, 7, 7, 7, 7, 7, 7, 7, 7, 7, 7, 7, 7, 7, 7, 7, 7, 7, 7, 7, 7, 7, 7, 8, 8, 8, 8, 8, 8, 8, 8, 8, 8, 8, 8, 8, 8, 8, 8, 8, 8, 8, 8, 8, 8, 8, 8, 8, 8, 8, 8, 8, 8, 8, 8, 8, 8, 8, 8, 8, 8, 8, 8, 8, 8, 8, 8, 8, 8, 8, 8, 8, 8, 8, 8, 8, 8, 8, 8, 8, 8, 8, 8, 8, 8, 8, 8, 8, 8, 8, 8, 8, 8, 8, 8, 8, 8, 8, 8, 8, 8, 8, 8, 8, 8, 8, 8, 8, 8, 8, 8, 8, 8, 8, 8, 8, 8, 8, 8, 8, 8, 8, 8, 8, 8, 8, 8, 8, 8, 8, 8, 8, 8, 8, 8, 8, 8, 8, 8, 8, 8, 8, 8, 8, 8, 8, 8, 8, 8, 8, 8].length)) then
      some [D.i (IntKind.i64.wrap (((D.nth t2.2 1).int) + (IntKind.i64.wrap (byteAt [0, 1, 2, 2, 3, 3, 3, 3, 4, 4, 4, 4, 4, 4, 4, 4, 5, 5, 5, 5, 5, 5, 5, 5, 5, 5, 5, 5, 5, 5, 5, 5, 6, 6, 6, 6, 6, 6, 6, 6, 6, 6, 6, 6, 6, 6, 6, 6, 6, 6, 6, 6, 6, 6, 6, 6, 6, 6, 6, 6, 6, 6, 6, 6, 7, 7, 7, 7, 7, 7, 7, 7, 7, 7, 7, 7, 7, 7, 7, 7, 7, 7, 7, 7, 7, 7, 7, 7, 7, 7, 7, 7, 7, 7, 7, 7, 7, 7, 7, 7, 7, 7, 7, 7, 7, 7, 7, 7, 7, 7, 7, 7, 7, 7, 7, 7, 7, 7, 7, 7, 7, 7, 7, 7, 7, 7, 7, 7, 8, 8, 8, 8, 8, 8, 8, 8, 8, 8, 8, 8, 8, 8, 8, 8, 8, 8, 8, 8, 8, 8, 8, 8, 8, 8, 8, 8, 8, 8, 8, 8, 8, 8, 8, 8, 8, 8, 8, 8, 8, 8, 8, 8, 8, 8, 8, 8, 8, 8, 8, 8, 8, 8, 8, 8, 8, 8, 8, 8, 8, 8, 8, 8, 8, 8, 8, 8, 8, 8, 8, 8, 8, 8, 8, 8, 8, 8, 8, 8, 8, 8, 8, 8, 8, 8, 8, 8, 8, 8, 8, 8, 8, 8, 8, 8, 8, 8, 8, 8, 8, 8, 8, 8, 8, 8, 8, 8, 8, 8, 8, 8, 8, 8, 8, 8, 8, 8, 8, 8, 8, 8, 8, 8, 8, 8, 8, 8] ((IntKind.u8.wrap ((D.nth t2.2 0).int)).toNat)))))]
    else
      none
def e_bits_Len64 (K : Nat) : Entry := { n := 1, sh := { sl := [(0, .d 193 false)], ob := [] }, kept := [], rs := [{ sl := [(0, .d 3 true)], ob := [] }], f := fun ds => f_bits_Len64 K (D.nth ds 0), tot := none }
def T_bits_Len64 (K : Nat) : Tbl := { T0 with ents := entsOf [], cuts := lk [(0, c_bits_Len64_0 K), (1, c_bits_Len64_1 K)] }
theorem q_bits_Len64_1 (K : Nat) (ds : List D) : evPiece (T_bits_Len64 K) 25 (sub (codeOf Try.f174) [1, 1, 0, 1]) .go (c_bits_Len64_1 K) ds = b_bits_Len64_1 K ds := by kernel_rfl
theorem k_bits_Len64_1 (K : Nat) : CutOK Try.prog (T_bits_Len64 K) 25 (sub (codeOf Try.f174) [1, 1, 0, 1]) (c_bits_Len64_1 K) :=
  piece_thm (T := T_bits_Len64 K) (hT_of hT0 rfl rfl rfl) (hes_ok (T0 := T0) (T := T_bits_Len64 K) rfl rfl (trivial : FAll Try.prog T0 [])) rfl rfl rfl (cutsOK_none (by rfl)) (q_bits_Len64_1 K)
theorem q_bits_Len64_0 (K : Nat) (ds : List D) : evPiece (T_bits_Len64 K) 25 (sub (codeOf Try.f174) [1, 0, 1]) .go (c_bits_Len64_0 K) ds = b_bits_Len64_0 K ds := by kernel_rfl
theorem k_bits_Len64_0 (K : Nat) : CutOK Try.prog (T_bits_Len64 K) 25 (sub (codeOf Try.f174) [1, 0, 1]) (c_bits_Len64_0 K) :=
  piece_thm (T := T_bits_Len64 K) (hT_of hT0 rfl rfl rfl) (hes_ok (T0 := T0) (T := T_bits_Len64 K) rfl rfl (trivial : FAll Try.prog T0 [])) rfl rfl rfl (cutsOK_none (by rfl)) (q_bits_Len64_0 K)
theorem q_bits_Len64 (K : Nat) (ds : List D) : evFn (T_bits_Len64 K) Try.f174 (.seq .go (.seq (.seq .go (.cut 0)) (.seq (.seq .go (.cut 1)) .go))) (e_bits_Len64 K) ds = (e_bits_Len64 K).f ds := by kernel_rfl
theorem ok_bits_Len64 (K : Nat) : FnOK Try.prog T0 174 (e_bits_Len64 K) :=
  fn_thm (T0 := T0) (T := T_bits_Len64 K) rfl (hT_of hT0 rfl rfl rfl) (hes_ok (T0 := T0) (T := T_bits_Len64 K) rfl rfl (trivial : FAll Try.prog T0 [])) Try.func174 (by decide) rfl (Nat.le_of_ble_eq_true rfl) rfl rfl rfl (tot_none rfl) (cutsOK_list (l := [(0, sub (codeOf Try.f174) [1, 0, 1]), (1, sub (codeOf Try.f174) [1, 1, 0, 1])]) (by kernel_rfl) ⟨cut_one (u := c_bits_Len64_0 K) rfl (k_bits_Len64_0 K), cut_one (u := c_bits_Len64_1 K) rfl (k_bits_Len64_1 K), trivial⟩) (q_bits_Len64 K)
/-! ### 154 math/bits.Len -/
def f_bits_Len (K : Nat) (x : D) : Option (List D) :=
  (f_bits_Len64 K x).bind fun t1 =>
  some [D.nth t1 0]
def e_bits_Len (K : Nat) : Entry := { n := 1, sh := { sl := [(0, .d 193 false)], ob := [] }, kept := [], rs := [{ sl := [(0, .d 3 true)], ob := [] }], f := fun ds => f_bits_Len K (D.nth ds 0), tot := none }
def T_bits_Len (K : Nat) : Tbl := { T0 with ents := entsOf [(174, e_bits_Len64 K)], cuts := lk [] }
theorem q_bits_Len (K : Nat) (ds : List D) : evFn (T_bits_Len K) Try.f154 .go (e_bits_Len K) ds = (e_bits_Len K).f ds := by kernel_rfl
theorem ok_bits_Len (K : Nat) : FnOK Try.prog T0 154 (e_bits_Len K) :=
  fn_thm (T0 := T0) (T := T_bits_Len K) rfl (hT_of hT0 rfl rfl rfl) (hes_ok (T0 := T0) (T := T_bits_Len K) rfl rfl (⟨ok_bits_Len64 K, trivial⟩ : FAll Try.prog T0 [(174, e_bits_Len64 K)])) Try.func154 (by decide) rfl (Nat.le_of_ble_eq_true rfl) rfl rfl rfl (tot_none rfl) (cutsOK_none (by rfl)) (q_bits_Len K)
/-! ### 185 cmp.isNaN[int] -/
def p_cmp_isNaN_int (x : D) : List D := [D.b (x.int != x.int)]
def e_cmp_isNaN_int (K : Nat) : Entry := { n := 1, sh := { sl := [(0, .d 3 false)], ob := [] }, kept := [], rs := [{ sl := [(0, .d 4 true)], ob := [] }], f := fun ds => some (p_cmp_isNaN_int (D.nth ds 0)), tot := some fun ds => p_cmp_isNaN_int (D.nth ds 0) }
def T_cmp_isNaN_int (K : Nat) : Tbl := { T0 with ents := entsOf [], cuts := lk [] }
theorem q_cmp_isNaN_int (K : Nat) (ds : List D) : evFn (T_cmp_isNaN_int K) Try.f185 .go (e_cmp_isNaN_int K) ds = (e_cmp_isNaN_int K).f ds := by kernel_rfl
theorem ok_cmp_isNaN_int (K : Nat) : FnOK Try.prog T0 185 (e_cmp_isNaN_int K) :=
  fn_thm (T0 := T0) (T := T_cmp_isNaN_int K) rfl (hT_of hT0 rfl rfl rfl) (hes_ok (T0 := T0) (T := T_cmp_isNaN_int K) rfl rfl (trivial : FAll Try.prog T0 [])) Try.func185 (by decide) rfl (Nat.le_of_ble_eq_true rfl) rfl rfl rfl (tot_some rfl fun _ => rfl) (cutsOK_none (by rfl)) (q_cmp_isNaN_int K)
/-! ### 170 cmp.Less[int] -/
def p_cmp_Less_int (x y : D) : List D := [D.b (bif (bif (D.nth (p_cmp_isNaN_int x) 0).bool then (!((D.nth (p_cmp_isNaN_int y) 0).bool)) else false) then true else (ltI x.int y.int))]
def e_cmp_Less_int (K : Nat) : Entry := { n := 2, sh := { sl := [(0, .d 3 false), (1, .d 3 false)], ob := [] }, kept := [], rs := [{ sl := [(0, .d 4 true)], ob := [] }], f := fun ds => some (p_cmp_Less_int (D.nth ds 0) (D.nth ds 1)), tot := some fun ds => p_cmp_Less_int (D.nth ds 0) (D.nth ds 1) }
def T_cmp_Less_int (K : Nat) : Tbl := { T0 with ents := entsOf [(185, e_cmp_isNaN_int K)], cuts := lk [] }
theorem q_cmp_Less_int (K : Nat) (ds : List D) : evFn (T_cmp_Less_int K) Try.f170 .go (e_cmp_Less_int K) ds = (e_cmp_Less_int K).f ds := by kernel_rfl
theorem ok_cmp_Less_int (K : Nat) : FnOK Try.prog T0 170 (e_cmp_Less_int K) :=
  fn_thm (T0 := T0) (T := T_cmp_Less_int K) rfl (hT_of hT0 rfl rfl rfl) (hes_ok (T0 := T0) (T := T_cmp_Less_int K) rfl rfl (⟨ok_cmp_isNaN_int K, trivial⟩ : FAll Try.prog T0 [(185, e_cmp_isNaN_int K)])) Try.func170 (by decide) rfl (Nat.le_of_ble_eq_true rfl) rfl rfl rfl (tot_some rfl fun _ => rfl) (cutsOK_none (by rfl)) (q_cmp_Less_int K)
/-! ### 164 slices.insertionSortOrdered[int] -/
def b_slices_insertionSortOrdered_int_1 (K : Nat) (rec : List D → Option (Nat × List D)) (ds : List D) : Option (Nat × List D) :=
  let a := D.nth ds 0
  let j := D.nth ds 1
  let r0 := D.nth ds 2
  bif ((!(gtI j.int a.int)) || (inB j.int r0.list.length)) then
    bif ((!(gtI j.int a.int)) || (inB (IntKind.i64.wrap (j.int - (1 : Int))) r0.list.length)) then
      bif (bif (gtI j.int a.int) then (D.nth (p_cmp_Less_int (D.nth r0.list j.int.toNat) (D.nth r0.list ((IntKind.i64.wrap (j.int - (1 : Int))).toNat))) 0).bool else false) then
        bif (inB (IntKind.i64.wrap (j.int - (1 : Int))) r0.list.length) then
          bif (inB j.int r0.list.length) then
            bif (inB j.int r0.list.length) then
              bif (inB (IntKind.i64.wrap (j.int - (1 : Int))) ((D.setNth r0.list j.int.toNat (D.nth r0.list ((IntKind.i64.wrap (j.int - (1 : Int))).toNat))).length)) then
                rec [a, D.i (IntKind.i64.wrap (j.int - (1 : Int))), D.n (D.setNth (D.setNth r0.list j.int.toNat (D.nth r0.list ((IntKind.i64.wrap (j.int - (1 : Int))).toNat))) ((IntKind.i64.wrap (j.int - (1 : Int))).toNat) (D.nth r0.list j.int.toNat))]
              else
                none
            else
              none
          else
            none
        else
          none
      else
        some (0, [D.n r0.list])
    else
      none
  else
    none
def c_slices_insertionSortOrdered_int_1 (K : Nat) : Cut := { sh := { sl := [(0, .own 22 0), (1, .d 3 true), (7, .d 3 true)], ob := [(0, .row 3 true)] }, kept := [0], outs := [(.exit 2, { sl := [], ob := [(0, .row 3 true)] })], f := fun ds => fixN (b_slices_insertionSortOrdered_int_1 K) K ds }
def b_slices_insertionSortOrdered_int_0 (K : Nat) (rec : List D → Option (Nat × List D)) (ds : List D) : Option (Nat × List D) :=
  let a := D.nth ds 0
  let b := D.nth ds 1
  let i := D.nth ds 2
  let r0 := D.nth ds 3
  bif (ltI i.int b.int) then
    (fixN (b_slices_insertionSortOrdered_int_1 K) K [a, i, D.n r0.list]).bind fun t1 =>
    rec [a, b, D.i (IntKind.i64.wrap (i.int + (1 : Int))), D.n ((D.nth t1.2 0).list)]
  else
    some (0, [D.n r0.list])
def c_slices_insertionSortOrdered_int_0 (K : Nat) : Cut := { sh := { sl := [(0, .own 22 0), (1, .d 3 true), (2, .d 3 true), (6, .d 3 true)], ob := [(0, .row 3 true)] }, kept := [0], outs := [(.exit 0, { sl := [], ob := [(0, .row 3 true)] })], f := fun ds => fixN (b_slices_insertionSortOrdered_int_0 K) K ds }
def f_slices_insertionSortOrdered_int (K : Nat) (a b r0 : D) : Option (List D) :=
  (fixN (b_slices_insertionSortOrdered_int_0 K) K [a, b, D.i (IntKind.i64.wrap (a.int + (1 : Int))), D.n r0.list]).bind fun t1 =>
  some [D.n ((D.nth t1.2 0).list)]
def e_slices_insertionSortOrdered_int (K : Nat) : Entry := { n := 3, sh := { sl := [(0, .own 22 0), (1, .d 3 false), (2, .d 3 false)], ob := [(0, .row 3 true)] }, kept := [0], rs := [{ sl := [(0, .tup [])], ob := [(0, .row 3 true)] }], f := fun ds => f_slices_insertionSortOrdered_int K (D.nth ds 0) (D.nth ds 1) (D.nth ds 2), tot := none }
def T_slices_insertionSortOrdered_int (K : Nat) : Tbl := { T0 with ents := entsOf [(170, e_cmp_Less_int K)], cuts := lk [(0, c_slices_insertionSortOrdered_int_0 K), (1, c_slices_insertionSortOrdered_int_1 K)] }
theorem q_slices_insertionSortOrdered_int_1 (K : Nat) (rec : List D → Option (Nat × List D)) (ds : List D) : evLoop (T_slices_insertionSortOrdered_int K) 49 (sub (codeOf Try.f164) [1, 0, 0, 1, 0, 0, 1, 0, 0]) .go (c_slices_insertionSortOrdered_int_1 K) rec ds = b_slices_insertionSortOrdered_int_1 K rec ds := by kernel_rfl
theorem k_slices_insertionSortOrdered_int_1 (K : Nat) : CutOK Try.prog (T_slices_insertionSortOrdered_int K) 49 (sub (codeOf Try.f164) [1, 0, 0, 1, 0, 0, 1, 0]) (c_slices_insertionSortOrdered_int_1 K) :=
  loop_thm (T := T_slices_insertionSortOrdered_int K) (hT_of hT0 rfl rfl rfl) (hes_ok (T0 := T0) (T := T_slices_insertionSortOrdered_int K) rfl rfl (⟨ok_cmp_Less_int K, trivial⟩ : FAll Try.prog T0 [(170, e_cmp_Less_int K)])) (by kernel_rfl) rfl rfl rfl (cutsOK_none (by rfl)) rfl (q_slices_insertionSortOrdered_int_1 K)
theorem q_slices_insertionSortOrdered_int_0 (K : Nat) (rec : List D → Option (Nat × List D)) (ds : List D) : evLoop (T_slices_insertionSortOrdered_int K) 49 (sub (codeOf Try.f164) [1, 0, 0]) (.seq .go (.seq (.blk (.seq .go (.blk (.cut 1)))) .go)) (c_slices_insertionSortOrdered_int_0 K) rec ds = b_slices_insertionSortOrdered_int_0 K rec ds := by kernel_rfl
theorem k_slices_insertionSortOrdered_int_0 (K : Nat) : CutOK Try.prog (T_slices_insertionSortOrdered_int K) 49 (sub (codeOf Try.f164) [1, 0]) (c_slices_insertionSortOrdered_int_0 K) :=
  loop_thm (T := T_slices_insertionSortOrdered_int K) (hT_of hT0 rfl rfl rfl) (hes_ok (T0 := T0) (T := T_slices_insertionSortOrdered_int K) rfl rfl (⟨ok_cmp_Less_int K, trivial⟩ : FAll Try.prog T0 [(170, e_cmp_Less_int K)])) (by kernel_rfl) rfl rfl rfl (cutsOK_list (l := [(1, sub (codeOf Try.f164) [1, 0, 0, 1, 0, 0, 1, 0])]) (by kernel_rfl) ⟨cut_one (u := c_slices_insertionSortOrdered_int_1 K) rfl (k_slices_insertionSortOrdered_int_1 K), trivial⟩) rfl (q_slices_insertionSortOrdered_int_0 K)
theorem q_slices_insertionSortOrdered_int (K : Nat) (ds : List D) : evFn (T_slices_insertionSortOrdered_int K) Try.f164 (.seq .go (.blk (.cut 0))) (e_slices_insertionSortOrdered_int K) ds = (e_slices_insertionSortOrdered_int K).f ds := by kernel_rfl
theorem ok_slices_insertionSortOrdered_int (K : Nat) : FnOK Try.prog T0 164 (e_slices_insertionSortOrdered_int K) :=
  fn_thm (T0 := T0) (T := T_slices_insertionSortOrdered_int K) rfl (hT_of hT0 rfl rfl rfl) (hes_ok (T0 := T0) (T := T_slices_insertionSortOrdered_int K) rfl rfl (⟨ok_cmp_Less_int K, trivial⟩ : FAll Try.prog T0 [(170, e_cmp_Less_int K)])) Try.func164 (by decide) rfl (Nat.le_of_ble_eq_true rfl) rfl rfl rfl (tot_none rfl) (cutsOK_list (l := [(0, sub (codeOf Try.f164) [1, 0])]) (by kernel_rfl) ⟨cut_one (u := c_slices_insertionSortOrdered_int_0 K) rfl (k_slices_insertionSortOrdered_int_0 K), trivial⟩) (q_slices_insertionSortOrdered_int K)
/-! ### 180 slices.siftDownOrdered[int] -/
def b_slices_siftDownOrdered_int_1 (K : Nat) (ds : List D) : Option (Nat × List D) :=
  let child := D.nth ds 0
  let s36 := D.nth ds 1
  bif s36.bool then
    some (0, [D.i (IntKind.i64.wrap (child.int + (1 : Int)))])
  else
    some (0, [child])
def c_slices_siftDownOrdered_int_1 (K : Nat) : Cut := { sh := { sl := [(9, .d 3 true), (36, .d 4 true)], ob := [] }, kept := [], outs := [(.normal, { sl := [(9, .d 3 true)], ob := [] })], f := b_slices_siftDownOrdered_int_1 K }
def b_slices_siftDownOrdered_int_0 (K : Nat) (rec : List D → Option (Nat × List D)) (ds : List D) : Option (Nat × List D) :=
  let hi := D.nth ds 0
  let first := D.nth ds 1
  let root := D.nth ds 2
  let r0 := D.nth ds 3
  bif (geI (IntKind.i64.wrap ((IntKind.i64.wrap ((2 : Int) * root.int)) + (1 : Int))) hi.int) then
    some (0, [D.n r0.list])
  else
    bif ((!(ltI (IntKind.i64.wrap ((IntKind.i64.wrap ((IntKind.i64.wrap ((2 : Int) * root.int)) + (1 : Int))) + (1 : Int))) hi.int)) || (inB (IntKind.i64.wrap (first.int + (IntKind.i64.wrap ((IntKind.i64.wrap ((2 : Int) * root.int)) + (1 : Int))))) r0.list.length)) then
      bif ((!(ltI (IntKind.i64.wrap ((IntKind.i64.wrap ((IntKind.i64.wrap ((2 : Int) * root.int)) + (1 : Int))) + (1 : Int))) hi.int)) || (inB (IntKind.i64.wrap ((IntKind.i64.wrap (first.int + (IntKind.i64.wrap ((IntKind.i64.wrap ((2 : Int) * root.int)) + (1 : Int))))) + (1 : Int))) r0.list.length)) then
        (b_slices_siftDownOrdered_int_1 K [D.i (IntKind.i64.wrap ((IntKind.i64.wrap ((2 : Int) * root.int)) + (1 : Int))), D.b (bif (ltI (IntKind.i64.wrap ((IntKind.i64.wrap ((IntKind.i64.wrap ((2 : Int) * root.int)) + (1 : Int))) + (1 : Int))) hi.int) then (D.nth (p_cmp_Less_int (D.nth r0.list ((IntKind.i64.wrap (first.int + (IntKind.i64.wrap ((IntKind.i64.wrap ((2 : Int) * root.int)) + (1 : Int))))).toNat)) (D.nth r0.list ((IntKind.i64.wrap ((IntKind.i64.wrap (first.int + (IntKind.i64.wrap ((IntKind.i64.wrap ((2 : Int) * root.int)) + (1 : Int))))) + (1 : Int))).toNat))) 0).bool else false)]).bind fun t1 =>
        bif (inB (IntKind.i64.wrap (first.int + root.int)) r0.list.length) then
          bif (inB (IntKind.i64.wrap (first.int + ((D.nth t1.2 0).int))) r0.list.length) then
            bif (!((D.nth (p_cmp_Less_int (D.nth r0.list ((IntKind.i64.wrap (first.int + root.int)).toNat)) (D.nth r0.list ((IntKind.i64.wrap (first.int + ((D.nth t1.2 0).int))).toNat))) 0).bool)) then
              some (1, [D.n r0.list])
            else
              bif (inB (IntKind.i64.wrap (first.int + ((D.nth t1.2 0).int))) r0.list.length) then
                bif (inB (IntKind.i64.wrap (first.int + root.int)) r0.list.length) then
                  bif (inB (IntKind.i64.wrap (first.int + root.int)) r0.list.length) then
                    bif (inB (IntKind.i64.wrap (first.int + ((D.nth t1.2 0).int))) ((D.setNth r0.list ((IntKind.i64.wrap (first.int + root.int)).toNat) (D.nth r0.list ((IntKind.i64.wrap (first.int + ((D.nth t1.2 0).int))).toNat))).length)) then
                      rec [hi, first, D.nth t1.2 0, D.n (D.setNth (D.setNth r0.list ((IntKind.i64.wrap (first.int + root.int)).toNat) (D.nth r0.list ((IntKind.i64.wrap (first.int + ((D.nth t1.2 0).int))).toNat))) ((IntKind.i64.wrap (first.int + ((D.nth t1.2 0).int))).toNat) (D.nth r0.list ((IntKind.i64.wrap (first.int + root.int)).toNat)))]
                    else
                      none
                  else
                    none
                else
                  none
              else
                none
          else
            none
        else
          none
      else
        none
    else
      none
def c_slices_siftDownOrdered_int_0 (K : Nat) : Cut := { sh := { sl := [(0, .own 22 0), (2, .d 3 true), (3, .d 3 true), (8, .d 3 true)], ob := [(0, .row 3 true)] }, kept := [0], outs := [(.exit 0, { sl := [], ob := [(0, .row 3 true)] }), (.ret, { sl := [], ob := [(0, .row 3 true)] })], f := fun ds => fixN (b_slices_siftDownOrdered_int_0 K) K ds }
def f_slices_siftDownOrdered_int (K : Nat) (lo hi first r0 : D) : Option (List D) :=
  (fixN (b_slices_siftDownOrdered_int_0 K) K [hi, first, lo, D.n r0.list]).bind fun t1 =>
  bif (t1.1.beq 0) then
    some [D.n ((D.nth t1.2 0).list)]
  else
    some [D.n ((D.nth t1.2 0).list)]
def e_slices_siftDownOrdered_int (K : Nat) : Entry := { n := 4, sh := { sl := [(0, .own 22 0), (1, .d 3 false), (2, .d 3 false), (3, .d 3 false)], ob := [(0, .row 3 true)] }, kept := [0], rs := [{ sl := [(0, .tup [])], ob := [(0, .row 3 true)] }], f := fun ds => f_slices_siftDownOrdered_int K (D.nth ds 0) (D.nth ds 1) (D.nth ds 2) (D.nth ds 3), tot := none }
def T_slices_siftDownOrdered_int (K : Nat) : Tbl := { T0 with ents := entsOf [(170, e_cmp_Less_int K)], cuts := lk [(0, c_slices_siftDownOrdered_int_0 K), (1, c_slices_siftDownOrdered_int_1 K)] }
theorem q_slices_siftDownOrdered_int_1 (K : Nat) (ds : List D) : evPiece (T_slices_siftDownOrdered_int K) 76 (sub (codeOf Try.f180) [1, 0, 0, 0, 1, 1, 0, 1]) .go (c_slices_siftDownOrdered_int_1 K) ds = b_slices_siftDownOrdered_int_1 K ds := by kernel_rfl
theorem k_slices_siftDownOrdered_int_1 (K : Nat) : CutOK Try.prog (T_slices_siftDownOrdered_int K) 76 (sub (codeOf Try.f180) [1, 0, 0, 0, 1, 1, 0, 1]) (c_slices_siftDownOrdered_int_1 K) :=
  piece_thm (T := T_slices_siftDownOrdered_int K) (hT_of hT0 rfl rfl rfl) (hes_ok (T0 := T0) (T := T_slices_siftDownOrdered_int K) rfl rfl (⟨ok_cmp_Less_int K, trivial⟩ : FAll Try.prog T0 [(170, e_cmp_Less_int K)])) rfl rfl rfl (cutsOK_none (by rfl)) (q_slices_siftDownOrdered_int_1 K)
theorem q_slices_siftDownOrdered_int_0 (K : Nat) (rec : List D → Option (Nat × List D)) (ds : List D) : evLoop (T_slices_siftDownOrdered_int K) 76 (sub (codeOf Try.f180) [1, 0, 0]) (.blk (.seq .go (.seq .go (.seq (.seq .go (.cut 1)) .go)))) (c_slices_siftDownOrdered_int_0 K) rec ds = b_slices_siftDownOrdered_int_0 K rec ds := by kernel_rfl
theorem k_slices_siftDownOrdered_int_0 (K : Nat) : CutOK Try.prog (T_slices_siftDownOrdered_int K) 76 (sub (codeOf Try.f180) [1, 0]) (c_slices_siftDownOrdered_int_0 K) :=
  loop_thm (T := T_slices_siftDownOrdered_int K) (hT_of hT0 rfl rfl rfl) (hes_ok (T0 := T0) (T := T_slices_siftDownOrdered_int K) rfl rfl (⟨ok_cmp_Less_int K, trivial⟩ : FAll Try.prog T0 [(170, e_cmp_Less_int K)])) (by kernel_rfl) rfl rfl rfl (cutsOK_list (l := [(1, sub (codeOf Try.f180) [1, 0, 0, 0, 1, 1, 0, 1])]) (by kernel_rfl) ⟨cut_one (u := c_slices_siftDownOrdered_int_1 K) rfl (k_slices_siftDownOrdered_int_1 K), trivial⟩) rfl (q_slices_siftDownOrdered_int_0 K)
theorem q_slices_siftDownOrdered_int (K : Nat) (ds : List D) : evFn (T_slices_siftDownOrdered_int K) Try.f180 (.seq .go (.blk (.cut 0))) (e_slices_siftDownOrdered_int K) ds = (e_slices_siftDownOrdered_int K).f ds := by kernel_rfl
theorem ok_slices_siftDownOrdered_int (K : Nat) : FnOK Try.prog T0 180 (e_slices_siftDownOrdered_int K) :=
  fn_thm (T0 := T0) (T := T_slices_siftDownOrdered_int K) rfl (hT_of hT0 rfl rfl rfl) (hes_ok (T0 := T0) (T := T_slices_siftDownOrdered_int K) rfl rfl (⟨ok_cmp_Less_int K, trivial⟩ : FAll Try.prog T0 [(170, e_cmp_Less_int K)])) Try.func180 (by decide) rfl (Nat.le_of_ble_eq_true rfl) rfl rfl rfl (tot_none rfl) (cutsOK_list (l := [(0, sub (codeOf Try.f180) [1, 0])]) (by kernel_rfl) ⟨cut_one (u := c_slices_siftDownOrdered_int_0 K) rfl (k_slices_siftDownOrdered_int_0 K), trivial⟩) (q_slices_siftDownOrdered_int K)
/-! ### 165 slices.heapSortOrdered[int] -/
def b_slices_heapSortOrdered_int_0 (K : Nat) (rec : List D → Option (Nat × List D)) (ds : List D) : Option (Nat × List D) :=
  let first := D.nth ds 0
  let hi := D.nth ds 1
  let i := D.nth ds 2
  let r0 := D.nth ds 3
  bif (geI i.int 0) then
    (f_slices_siftDownOrdered_int K i hi first (D.n r0.list)).bind fun t1 =>
    rec [first, hi, D.i (IntKind.i64.wrap (i.int - (1 : Int))), D.n ((D.nth t1 0).list)]
  else
    some (0, [D.n r0.list])
def c_slices_heapSortOrdered_int_0 (K : Nat) : Cut := { sh := { sl := [(0, .own 22 0), (6, .d 3 true), (8, .d 3 true), (9, .d 3 true)], ob := [(0, .row 3 true)] }, kept := [0], outs := [(.exit 0, { sl := [], ob := [(0, .row 3 true)] })], f := fun ds => fixN (b_slices_heapSortOrdered_int_0 K) K ds }
def b_slices_heapSortOrdered_int_1 (K : Nat) (rec : List D → Option (Nat × List D)) (ds : List D) : Option (Nat × List D) :=
  let first := D.nth ds 0
  let lo := D.nth ds 1
  let i := D.nth ds 2
  let r0 := D.nth ds 3
  bif (geI i.int 0) then
    bif (inB (IntKind.i64.wrap (first.int + i.int)) r0.list.length) then
      bif (inB first.int r0.list.length) then
        bif (inB first.int r0.list.length) then
          bif (inB (IntKind.i64.wrap (first.int + i.int)) ((D.setNth r0.list first.int.toNat (D.nth r0.list ((IntKind.i64.wrap (first.int + i.int)).toNat))).length)) then
            (f_slices_siftDownOrdered_int K lo i first (D.n (D.setNth (D.setNth r0.list first.int.toNat (D.nth r0.list ((IntKind.i64.wrap (first.int + i.int)).toNat))) ((IntKind.i64.wrap (first.int + i.int)).toNat) (D.nth r0.list first.int.toNat)))).bind fun t2 =>
            rec [first, lo, D.i (IntKind.i64.wrap (i.int - (1 : Int))), D.n ((D.nth t2 0).list)]
          else
            none
        else
          none
      else
        none
    else
      none
  else
    some (0, [D.n r0.list])
def c_slices_heapSortOrdered_int_1 (K : Nat) : Cut := { sh := { sl := [(0, .own 22 0), (6, .d 3 true), (7, .d 3 true), (10, .d 3 true)], ob := [(0, .row 3 true)] }, kept := [0], outs := [(.exit 2, { sl := [], ob := [(0, .row 3 true)] })], f := fun ds => fixN (b_slices_heapSortOrdered_int_1 K) K ds }
def f_slices_heapSortOrdered_int (K : Nat) (a b r0 : D) : Option (List D) :=
  (fixN (b_slices_heapSortOrdered_int_0 K) K [a, D.i (IntKind.i64.wrap (b.int - a.int)), D.i (IntKind.i64.wrap (Int.tdiv (IntKind.i64.wrap ((IntKind.i64.wrap (b.int - a.int)) - (1 : Int))) (2 : Int))), D.n r0.list]).bind fun t1 =>
  (fixN (b_slices_heapSortOrdered_int_1 K) K [a, D.i 0, D.i (IntKind.i64.wrap ((IntKind.i64.wrap (b.int - a.int)) - (1 : Int))), D.n ((D.nth t1.2 0).list)]).bind fun t2 =>
  some [D.n ((D.nth t2.2 0).list)]
def e_slices_heapSortOrdered_int (K : Nat) : Entry := { n := 3, sh := { sl := [(0, .own 22 0), (1, .d 3 false), (2, .d 3 false)], ob := [(0, .row 3 true)] }, kept := [0], rs := [{ sl := [(0, .tup [])], ob := [(0, .row 3 true)] }], f := fun ds => f_slices_heapSortOrdered_int K (D.nth ds 0) (D.nth ds 1) (D.nth ds 2), tot := none }
def T_slices_heapSortOrdered_int (K : Nat) : Tbl := { T0 with ents := entsOf [(180, e_slices_siftDownOrdered_int K)], cuts := lk [(0, c_slices_heapSortOrdered_int_0 K), (1, c_slices_heapSortOrdered_int_1 K)] }
theorem q_slices_heapSortOrdered_int_0 (K : Nat) (rec : List D → Option (Nat × List D)) (ds : List D) : evLoop (T_slices_heapSortOrdered_int K) 56 (sub (codeOf Try.f165) [1, 1, 1, 0, 1, 0, 0]) .go (c_slices_heapSortOrdered_int_0 K) rec ds = b_slices_heapSortOrdered_int_0 K rec ds := by kernel_rfl
theorem k_slices_heapSortOrdered_int_0 (K : Nat) : CutOK Try.prog (T_slices_heapSortOrdered_int K) 56 (sub (codeOf Try.f165) [1, 1, 1, 0, 1, 0]) (c_slices_heapSortOrdered_int_0 K) :=
  loop_thm (T := T_slices_heapSortOrdered_int K) (hT_of hT0 rfl rfl rfl) (hes_ok (T0 := T0) (T := T_slices_heapSortOrdered_int K) rfl rfl (⟨ok_slices_siftDownOrdered_int K, trivial⟩ : FAll Try.prog T0 [(180, e_slices_siftDownOrdered_int K)])) (by kernel_rfl) rfl rfl rfl (cutsOK_none (by rfl)) rfl (q_slices_heapSortOrdered_int_0 K)
theorem q_slices_heapSortOrdered_int_1 (K : Nat) (rec : List D → Option (Nat × List D)) (ds : List D) : evLoop (T_slices_heapSortOrdered_int K) 56 (sub (codeOf Try.f165) [1, 1, 1, 1, 1, 0, 0]) .go (c_slices_heapSortOrdered_int_1 K) rec ds = b_slices_heapSortOrdered_int_1 K rec ds := by kernel_rfl
theorem k_slices_heapSortOrdered_int_1 (K : Nat) : CutOK Try.prog (T_slices_heapSortOrdered_int K) 56 (sub (codeOf Try.f165) [1, 1, 1, 1, 1, 0]) (c_slices_heapSortOrdered_int_1 K) :=
  loop_thm (T := T_slices_heapSortOrdered_int K) (hT_of hT0 rfl rfl rfl) (hes_ok (T0 := T0) (T := T_slices_heapSortOrdered_int K) rfl rfl (⟨ok_slices_siftDownOrdered_int K, trivial⟩ : FAll Try.prog T0 [(180, e_slices_siftDownOrdered_int K)])) (by kernel_rfl) rfl rfl rfl (cutsOK_none (by rfl)) rfl (q_slices_heapSortOrdered_int_1 K)
theorem q_slices_heapSortOrdered_int (K : Nat) (ds : List D) : evFn (T_slices_heapSortOrdered_int K) Try.f165 (.seq .go (.seq .go (.seq .go (.seq (.seq .go (.blk (.cut 0))) (.seq .go (.blk (.cut 1))))))) (e_slices_heapSortOrdered_int K) ds = (e_slices_heapSortOrdered_int K).f ds := by kernel_rfl
theorem ok_slices_heapSortOrdered_int (K : Nat) : FnOK Try.prog T0 165 (e_slices_heapSortOrdered_int K) :=
  fn_thm (T0 := T0) (T := T_slices_heapSortOrdered_int K) rfl (hT_of hT0 rfl rfl rfl) (hes_ok (T0 := T0) (T := T_slices_heapSortOrdered_int K) rfl rfl (⟨ok_slices_siftDownOrdered_int K, trivial⟩ : FAll Try.prog T0 [(180, e_slices_siftDownOrdered_int K)])) Try.func165 (by decide) rfl (Nat.le_of_ble_eq_true rfl) rfl rfl rfl (tot_none rfl) (cutsOK_list (l := [(0, sub (codeOf Try.f165) [1, 1, 1, 0, 1, 0]), (1, sub (codeOf Try.f165) [1, 1, 1, 1, 1, 0])]) (by kernel_rfl) ⟨cut_one (u := c_slices_heapSortOrdered_int_0 K) rfl (k_slices_heapSortOrdered_int_0 K), cut_one (u := c_slices_heapSortOrdered_int_1 K) rfl (k_slices_heapSortOrdered_int_1 K), trivial⟩) (q_slices_heapSortOrdered_int K)
/-! ### 181 slices.nextPowerOfTwo -/
def f_slices_nextPowerOfTwo (K : Nat) (length : D) : Option (List D) :=
  (f_bits_Len K (D.i (IntKind.u64.wrap length.int))).bind fun t1 =>
  bif (!(ltI ((D.nth t1 0).int) 0)) then
    some [D.i (shl .u64 1 ((D.nth t1 0).int))]
  else
    none
def e_slices_nextPowerOfTwo (K : Nat) : Entry := { n := 1, sh := { sl := [(0, .d 3 false)], ob := [] }, kept := [], rs := [{ sl := [(0, .d 193 true)], ob := [] }], f := fun ds => f_slices_nextPowerOfTwo K (D.nth ds 0), tot := none }
def T_slices_nextPowerOfTwo (K : Nat) : Tbl := { T0 with ents := entsOf [(154, e_bits_Len K)], cuts := lk [] }
theorem q_slices_nextPowerOfTwo (K : Nat) (ds : List D) : evFn (T_slices_nextPowerOfTwo K) Try.f181 .go (e_slices_nextPowerOfTwo K) ds = (e_slices_nextPowerOfTwo K).f ds := by kernel_rfl
theorem ok_slices_nextPowerOfTwo (K : Nat) : FnOK Try.prog T0 181 (e_slices_nextPowerOfTwo K) :=
  fn_thm (T0 := T0) (T := T_slices_nextPowerOfTwo K) rfl (hT_of hT0 rfl rfl rfl) (hes_ok (T0 := T0) (T := T_slices_nextPowerOfTwo K) rfl rfl (⟨ok_bits_Len K, trivial⟩ : FAll Try.prog T0 [(154, e_bits_Len K)])) Try.func181 (by decide) rfl (Nat.le_of_ble_eq_true rfl) rfl rfl rfl (tot_none rfl) (cutsOK_none (by rfl)) (q_slices_nextPowerOfTwo K)
/-! ### 182 (*slices.xorshift).Next -/
def p_slices_xorshift_Next (o0 : D) : List D := [D.i (bitsI .xor .u64 (bitsI .xor .u64 (bitsI .xor .u64 o0.int (shl .u64 o0.int 13)) (shr .u64 (bitsI .xor .u64 o0.int (shl .u64 o0.int 13)) 7)) (shl .u64 (bitsI .xor .u64 (bitsI .xor .u64 o0.int (shl .u64 o0.int 13)) (shr .u64 (bitsI .xor .u64 o0.int (shl .u64 o0.int 13)) 7)) 17)), D.i (bitsI .xor .u64 (bitsI .xor .u64 (bitsI .xor .u64 o0.int (shl .u64 o0.int 13)) (shr .u64 (bitsI .xor .u64 o0.int (shl .u64 o0.int 13)) 7)) (shl .u64 (bitsI .xor .u64 (bitsI .xor .u64 o0.int (shl .u64 o0.int 13)) (shr .u64 (bitsI .xor .u64 o0.int (shl .u64 o0.int 13)) 7)) 17))]
def e_slices_xorshift_Next (K : Nat) : Entry := { n := 1, sh := { sl := [(0, .ptr 230 0 [])], ob := [(0, .box 230 (.d 230 false))] }, kept := [0], rs := [{ sl := [(0, .d 230 true)], ob := [(0, .box 230 (.d 230 true))] }], f := fun ds => some (p_slices_xorshift_Next (D.nth ds 0)), tot := some fun ds => p_slices_xorshift_Next (D.nth ds 0) }
def T_slices_xorshift_Next (K : Nat) : Tbl := { T0 with ents := entsOf [], cuts := lk [] }
theorem q_slices_xorshift_Next (K : Nat) (ds : List D) : evFn (T_slices_xorshift_Next K) Try.f182 .go (e_slices_xorshift_Next K) ds = (e_slices_xorshift_Next K).f ds := by kernel_rfl
theorem ok_slices_xorshift_Next (K : Nat) : FnOK Try.prog T0 182 (e_slices_xorshift_Next K) :=
  fn_thm (T0 := T0) (T := T_slices_xorshift_Next K) rfl (hT_of hT0 rfl rfl rfl) (hes_ok (T0 := T0) (T := T_slices_xorshift_Next K) rfl rfl (trivial : FAll Try.prog T0 [])) Try.func182 (by decide) rfl (Nat.le_of_ble_eq_true rfl) rfl rfl rfl (tot_some rfl fun _ => rfl) (cutsOK_none (by rfl)) (q_slices_xorshift_Next K)
/-! ### 166 slices.breakPatternsOrdered[int] -/
def b_slices_breakPatternsOrdered_int_1 (K : Nat) (ds : List D) : Option (Nat × List D) :=
  let length := D.nth ds 0
  let other := D.nth ds 1
  let s43 := D.nth ds 2
  bif s43.bool then
    some (0, [D.i (IntKind.i64.wrap (other.int - length.int))])
  else
    some (0, [other])
def c_slices_breakPatternsOrdered_int_1 (K : Nat) : Cut := { sh := { sl := [(6, .d 3 true), (10, .d 3 true), (43, .d 4 true)], ob := [] }, kept := [], outs := [(.normal, { sl := [(10, .d 3 true)], ob := [] })], f := b_slices_breakPatternsOrdered_int_1 K }
def b_slices_breakPatternsOrdered_int_0 (K : Nat) (rec : List D → Option (Nat × List D)) (ds : List D) : Option (Nat × List D) :=
  let a := D.nth ds 0
  let length := D.nth ds 1
  let modulus := D.nth ds 2
  let idx := D.nth ds 3
  let r0 := D.nth ds 4
  let o1 := D.nth ds 5
  bif (leI idx.int (IntKind.i64.wrap ((IntKind.i64.wrap (a.int + (IntKind.i64.wrap ((IntKind.i64.wrap (Int.tdiv length.int (4 : Int))) * (2 : Int))))) + (1 : Int)))) then
    (b_slices_breakPatternsOrdered_int_1 K [length, D.i (IntKind.i64.wrap (bitsI .and .u64 ((D.nth (p_slices_xorshift_Next o1) 0).int) (IntKind.u64.wrap (modulus.int - (1 : Int))))), D.b (geI (IntKind.i64.wrap (bitsI .and .u64 ((D.nth (p_slices_xorshift_Next o1) 0).int) (IntKind.u64.wrap (modulus.int - (1 : Int))))) length.int)]).bind fun t2 =>
    bif (inB (IntKind.i64.wrap (a.int + ((D.nth t2.2 0).int))) r0.list.length) then
      bif (inB idx.int r0.list.length) then
        bif (inB idx.int r0.list.length) then
          bif (inB (IntKind.i64.wrap (a.int + ((D.nth t2.2 0).int))) ((D.setNth r0.list idx.int.toNat (D.nth r0.list ((IntKind.i64.wrap (a.int + ((D.nth t2.2 0).int))).toNat))).length)) then
            rec [a, length, modulus, D.i (IntKind.i64.wrap (idx.int + (1 : Int))), D.n (D.setNth (D.setNth r0.list idx.int.toNat (D.nth r0.list ((IntKind.i64.wrap (a.int + ((D.nth t2.2 0).int))).toNat))) ((IntKind.i64.wrap (a.int + ((D.nth t2.2 0).int))).toNat) (D.nth r0.list idx.int.toNat)), D.nth (p_slices_xorshift_Next o1) 1]
          else
            none
        else
          none
      else
        none
    else
      none
  else
    some (0, [D.n r0.list, o1])
def c_slices_breakPatternsOrdered_int_0 (K : Nat) : Cut := { sh := { sl := [(0, .own 22 0), (1, .d 3 true), (6, .d 3 true), (7, .ptr 230 1 []), (8, .d 193 true), (9, .d 3 true)], ob := [(0, .row 3 true), (1, .box 230 (.d 230 true))] }, kept := [0, 1], outs := [(.exit 0, { sl := [], ob := [(0, .row 3 true), (1, .box 230 (.d 230 true))] })], f := fun ds => fixN (b_slices_breakPatternsOrdered_int_0 K) K ds }
def f_slices_breakPatternsOrdered_int (K : Nat) (a b r0 : D) : Option (List D) :=
  bif (geI (IntKind.i64.wrap (b.int - a.int)) 8) then
    (f_slices_nextPowerOfTwo K (D.i (IntKind.i64.wrap (b.int - a.int)))).bind fun t1 =>
    (fixN (b_slices_breakPatternsOrdered_int_0 K) K [a, D.i (IntKind.i64.wrap (b.int - a.int)), D.nth t1 0, D.i (IntKind.i64.wrap ((IntKind.i64.wrap (a.int + (IntKind.i64.wrap ((IntKind.i64.wrap (Int.tdiv (IntKind.i64.wrap (b.int - a.int)) (4 : Int))) * (2 : Int))))) - (1 : Int))), D.n r0.list, D.i (IntKind.u64.wrap (IntKind.i64.wrap (b.int - a.int)))]).bind fun t2 =>
    some [D.n ((D.nth t2.2 0).list)]
  else
    some [D.n r0.list]
def e_slices_breakPatternsOrdered_int (K : Nat) : Entry := { n := 3, sh := { sl := [(0, .own 22 0), (1, .d 3 false), (2, .d 3 false)], ob := [(0, .row 3 true)] }, kept := [0], rs := [{ sl := [(0, .tup [])], ob := [(0, .row 3 true)] }], f := fun ds => f_slices_breakPatternsOrdered_int K (D.nth ds 0) (D.nth ds 1) (D.nth ds 2), tot := none }
def T_slices_breakPatternsOrdered_int (K : Nat) : Tbl := { T0 with ents := entsOf [(181, e_slices_nextPowerOfTwo K), (182, e_slices_xorshift_Next K)], cuts := lk [(0, c_slices_breakPatternsOrdered_int_0 K), (1, c_slices_breakPatternsOrdered_int_1 K)] }
theorem q_slices_breakPatternsOrdered_int_1 (K : Nat) (ds : List D) : evPiece (T_slices_breakPatternsOrdered_int K) 65 (sub (codeOf Try.f166) [1, 1, 0, 1, 1, 1, 0, 0, 1, 0, 0, 1, 0, 1]) .go (c_slices_breakPatternsOrdered_int_1 K) ds = b_slices_breakPatternsOrdered_int_1 K ds := by kernel_rfl
theorem k_slices_breakPatternsOrdered_int_1 (K : Nat) : CutOK Try.prog (T_slices_breakPatternsOrdered_int K) 65 (sub (codeOf Try.f166) [1, 1, 0, 1, 1, 1, 0, 0, 1, 0, 0, 1, 0, 1]) (c_slices_breakPatternsOrdered_int_1 K) :=
  piece_thm (T := T_slices_breakPatternsOrdered_int K) (hT_of hT0 rfl rfl rfl) (hes_ok (T0 := T0) (T := T_slices_breakPatternsOrdered_int K) rfl rfl (⟨ok_slices_nextPowerOfTwo K, ok_slices_xorshift_Next K, trivial⟩ : FAll Try.prog T0 [(181, e_slices_nextPowerOfTwo K), (182, e_slices_xorshift_Next K)])) rfl rfl rfl (cutsOK_none (by rfl)) (q_slices_breakPatternsOrdered_int_1 K)
theorem q_slices_breakPatternsOrdered_int_0 (K : Nat) (rec : List D → Option (Nat × List D)) (ds : List D) : evLoop (T_slices_breakPatternsOrdered_int K) 65 (sub (codeOf Try.f166) [1, 1, 0, 1, 1, 1, 0, 0]) (.seq .go (.seq (.blk (.seq .go (.seq (.seq .go (.cut 1)) .go))) .go)) (c_slices_breakPatternsOrdered_int_0 K) rec ds = b_slices_breakPatternsOrdered_int_0 K rec ds := by kernel_rfl
theorem k_slices_breakPatternsOrdered_int_0 (K : Nat) : CutOK Try.prog (T_slices_breakPatternsOrdered_int K) 65 (sub (codeOf Try.f166) [1, 1, 0, 1, 1, 1, 0]) (c_slices_breakPatternsOrdered_int_0 K) :=
  loop_thm (T := T_slices_breakPatternsOrdered_int K) (hT_of hT0 rfl rfl rfl) (hes_ok (T0 := T0) (T := T_slices_breakPatternsOrdered_int K) rfl rfl (⟨ok_slices_nextPowerOfTwo K, ok_slices_xorshift_Next K, trivial⟩ : FAll Try.prog T0 [(181, e_slices_nextPowerOfTwo K), (182, e_slices_xorshift_Next K)])) (by kernel_rfl) rfl rfl rfl (cutsOK_list (l := [(1, sub (codeOf Try.f166) [1, 1, 0, 1, 1, 1, 0, 0, 1, 0, 0, 1, 0, 1])]) (by kernel_rfl) ⟨cut_one (u := c_slices_breakPatternsOrdered_int_1 K) rfl (k_slices_breakPatternsOrdered_int_1 K), trivial⟩) rfl (q_slices_breakPatternsOrdered_int_0 K)
theorem q_slices_breakPatternsOrdered_int (K : Nat) (ds : List D) : evFn (T_slices_breakPatternsOrdered_int K) Try.f166 (.seq .go (.seq .go (.cond (.seq .go (.seq .go (.seq .go (.blk (.cut 0))))) .go))) (e_slices_breakPatternsOrdered_int K) ds = (e_slices_breakPatternsOrdered_int K).f ds := by kernel_rfl
theorem ok_slices_breakPatternsOrdered_int (K : Nat) : FnOK Try.prog T0 166 (e_slices_breakPatternsOrdered_int K) :=
  fn_thm (T0 := T0) (T := T_slices_breakPatternsOrdered_int K) rfl (hT_of hT0 rfl rfl rfl) (hes_ok (T0 := T0) (T := T_slices_breakPatternsOrdered_int K) rfl rfl (⟨ok_slices_nextPowerOfTwo K, ok_slices_xorshift_Next K, trivial⟩ : FAll Try.prog T0 [(181, e_slices_nextPowerOfTwo K), (182, e_slices_xorshift_Next K)])) Try.func166 (by decide) rfl (Nat.le_of_ble_eq_true rfl) rfl rfl rfl (tot_none rfl) (cutsOK_list (l := [(0, sub (codeOf Try.f166) [1, 1, 0, 1, 1, 1, 0])]) (by kernel_rfl) ⟨cut_one (u := c_slices_breakPatternsOrdered_int_0 K) rfl (k_slices_breakPatternsOrdered_int_0 K), trivial⟩) (q_slices_breakPatternsOrdered_int K)
/-! ### 187 slices.order2Ordered[int] -/
def f_slices_order2Ordered_int (K : Nat) (data a b o0 : D) : Option (List D) :=
  bif (inB b.int data.list.length) then
    bif (inB a.int data.list.length) then
      bif (D.nth (p_cmp_Less_int (D.nth data.list b.int.toNat) (D.nth data.list a.int.toNat)) 0).bool then
        some [b, a, D.i (IntKind.i64.wrap (o0.int + (1 : Int)))]
      else
        some [a, b, o0]
    else
      none
  else
    none
def e_slices_order2Ordered_int (K : Nat) : Entry := { n := 4, sh := { sl := [(0, .d 22 false), (1, .d 3 false), (2, .d 3 false), (3, .ptr 3 0 [])], ob := [(0, .box 3 (.d 3 false))] }, kept := [0], rs := [{ sl := [(0, .tup [.d 3 true, .d 3 true])], ob := [(0, .box 3 (.d 3 true))] }], f := fun ds => f_slices_order2Ordered_int K (D.nth ds 0) (D.nth ds 1) (D.nth ds 2) (D.nth ds 3), tot := none }
def T_slices_order2Ordered_int (K : Nat) : Tbl := { T0 with ents := entsOf [(170, e_cmp_Less_int K)], cuts := lk [] }
theorem q_slices_order2Ordered_int (K : Nat) (ds : List D) : evFn (T_slices_order2Ordered_int K) Try.f187 .go (e_slices_order2Ordered_int K) ds = (e_slices_order2Ordered_int K).f ds := by kernel_rfl
theorem ok_slices_order2Ordered_int (K : Nat) : FnOK Try.prog T0 187 (e_slices_order2Ordered_int K) :=
  fn_thm (T0 := T0) (T := T_slices_order2Ordered_int K) rfl (hT_of hT0 rfl rfl rfl) (hes_ok (T0 := T0) (T := T_slices_order2Ordered_int K) rfl rfl (⟨ok_cmp_Less_int K, trivial⟩ : FAll Try.prog T0 [(170, e_cmp_Less_int K)])) Try.func187 (by decide) rfl (Nat.le_of_ble_eq_true rfl) rfl rfl rfl (tot_none rfl) (cutsOK_none (by rfl)) (q_slices_order2Ordered_int K)
/-! ### 184 slices.medianOrdered[int] -/
def f_slices_medianOrdered_int (K : Nat) (data a b c o0 : D) : Option (List D) :=
  (f_slices_order2Ordered_int K data a b o0).bind fun t1 =>
  (f_slices_order2Ordered_int K data (D.nth t1 1) c (D.nth t1 2)).bind fun t2 =>
  (f_slices_order2Ordered_int K data (D.nth t1 0) (D.nth t2 0) (D.nth t2 2)).bind fun t3 =>
  some [D.nth t3 1, D.nth t3 2]
def e_slices_medianOrdered_int (K : Nat) : Entry := { n := 5, sh := { sl := [(0, .d 22 false), (1, .d 3 false), (2, .d 3 false), (3, .d 3 false), (4, .ptr 3 0 [])], ob := [(0, .box 3 (.d 3 false))] }, kept := [0], rs := [{ sl := [(0, .d 3 true)], ob := [(0, .box 3 (.d 3 true))] }], f := fun ds => f_slices_medianOrdered_int K (D.nth ds 0) (D.nth ds 1) (D.nth ds 2) (D.nth ds 3) (D.nth ds 4), tot := none }
def T_slices_medianOrdered_int (K : Nat) : Tbl := { T0 with ents := entsOf [(187, e_slices_order2Ordered_int K)], cuts := lk [] }
theorem q_slices_medianOrdered_int (K : Nat) (ds : List D) : evFn (T_slices_medianOrdered_int K) Try.f184 .go (e_slices_medianOrdered_int K) ds = (e_slices_medianOrdered_int K).f ds := by kernel_rfl
theorem ok_slices_medianOrdered_int (K : Nat) : FnOK Try.prog T0 184 (e_slices_medianOrdered_int K) :=
  fn_thm (T0 := T0) (T := T_slices_medianOrdered_int K) rfl (hT_of hT0 rfl rfl rfl) (hes_ok (T0 := T0) (T := T_slices_medianOrdered_int K) rfl rfl (⟨ok_slices_order2Ordered_int K, trivial⟩ : FAll Try.prog T0 [(187, e_slices_order2Ordered_int K)])) Try.func184 (by decide) rfl (Nat.le_of_ble_eq_true rfl) rfl rfl rfl (tot_none rfl) (cutsOK_none (by rfl)) (q_slices_medianOrdered_int K)
/-! ### 183 slices.medianAdjacentOrdered[int] -/
def f_slices_medianAdjacentOrdered_int (K : Nat) (data a o0 : D) : Option (List D) :=
  (f_slices_medianOrdered_int K data (D.i (IntKind.i64.wrap (a.int - (1 : Int)))) a (D.i (IntKind.i64.wrap (a.int + (1 : Int)))) o0).bind fun t1 =>
  some [D.nth t1 0, D.nth t1 1]
def e_slices_medianAdjacentOrdered_int (K : Nat) : Entry := { n := 3, sh := { sl := [(0, .d 22 false), (1, .d 3 false), (2, .ptr 3 0 [])], ob := [(0, .box 3 (.d 3 false))] }, kept := [0], rs := [{ sl := [(0, .d 3 true)], ob := [(0, .box 3 (.d 3 true))] }], f := fun ds => f_slices_medianAdjacentOrdered_int K (D.nth ds 0) (D.nth ds 1) (D.nth ds 2), tot := none }
def T_slices_medianAdjacentOrdered_int (K : Nat) : Tbl := { T0 with ents := entsOf [(184, e_slices_medianOrdered_int K)], cuts := lk [] }
theorem q_slices_medianAdjacentOrdered_int (K : Nat) (ds : List D) : evFn (T_slices_medianAdjacentOrdered_int K) Try.f183 .go (e_slices_medianAdjacentOrdered_int K) ds = (e_slices_medianAdjacentOrdered_int K).f ds := by kernel_rfl
theorem ok_slices_medianAdjacentOrdered_int (K : Nat) : FnOK Try.prog T0 183 (e_slices_medianAdjacentOrdered_int K) :=
  fn_thm (T0 := T0) (T := T_slices_medianAdjacentOrdered_int K) rfl (hT_of hT0 rfl rfl rfl) (hes_ok (T0 := T0) (T := T_slices_medianAdjacentOrdered_int K) rfl rfl (⟨ok_slices_medianOrdered_int K, trivial⟩ : FAll Try.prog T0 [(184, e_slices_medianOrdered_int K)])) Try.func183 (by decide) rfl (Nat.le_of_ble_eq_true rfl) rfl rfl rfl (tot_none rfl) (cutsOK_none (by rfl)) (q_slices_medianAdjacentOrdered_int K)
/-! ### 167 slices.choosePivotOrdered[int] -/
def b_slices_choosePivotOrdered_int_0 (K : Nat) (ds : List D) : Option (Nat × List D) :=
  let data := D.nth ds 0
  let l := D.nth ds 1
  let i := D.nth ds 2
  let j := D.nth ds 3
  let k := D.nth ds 4
  let s32 := D.nth ds 5
  let o0 := D.nth ds 6
  bif s32.bool then
    bif (geI l.int 50) then
      (f_slices_medianAdjacentOrdered_int K data i o0).bind fun t1 =>
      (f_slices_medianAdjacentOrdered_int K data j (D.nth t1 1)).bind fun t2 =>
      (f_slices_medianAdjacentOrdered_int K data k (D.nth t2 1)).bind fun t3 =>
      (f_slices_medianOrdered_int K data (D.nth t1 0) (D.nth t2 0) (D.nth t3 0) (D.nth t3 1)).bind fun t4 =>
      some (0, [D.nth t4 0, D.nth t4 1])
    else
      (f_slices_medianOrdered_int K data i j k o0).bind fun t5 =>
      some (0, [D.nth t5 0, D.nth t5 1])
  else
    some (0, [j, o0])
def c_slices_choosePivotOrdered_int_0 (K : Nat) : Cut := { sh := { sl := [(0, .d 22 false), (8, .d 3 true), (9, .ptr 3 0 []), (10, .d 3 true), (11, .d 3 true), (12, .d 3 true), (32, .d 4 true)], ob := [(0, .box 3 (.d 3 true))] }, kept := [0], outs := [(.normal, { sl := [(11, .d 3 true)], ob := [(0, .box 3 (.d 3 true))] })], f := b_slices_choosePivotOrdered_int_0 K }
def f_slices_choosePivotOrdered_int (K : Nat) (data a b : D) : Option (List D) :=
  (b_slices_choosePivotOrdered_int_0 K [data, D.i (IntKind.i64.wrap (b.int - a.int)), D.i (IntKind.i64.wrap (a.int + (IntKind.i64.wrap ((IntKind.i64.wrap (Int.tdiv (IntKind.i64.wrap (b.int - a.int)) (4 : Int))) * (1 : Int))))), D.i (IntKind.i64.wrap (a.int + (IntKind.i64.wrap ((IntKind.i64.wrap (Int.tdiv (IntKind.i64.wrap (b.int - a.int)) (4 : Int))) * (2 : Int))))), D.i (IntKind.i64.wrap (a.int + (IntKind.i64.wrap ((IntKind.i64.wrap (Int.tdiv (IntKind.i64.wrap (b.int - a.int)) (4 : Int))) * (3 : Int))))), D.b (geI (IntKind.i64.wrap (b.int - a.int)) 8), D.i 0]).bind fun t1 =>
  bif (((D.nth t1.2 1).int) == (0 : Int)) then
    some [D.nth t1.2 0, D.i 1]
  else
    bif (((D.nth t1.2 1).int) == (12 : Int)) then
      some [D.nth t1.2 0, D.i 2]
    else
      some [D.nth t1.2 0, D.i 0]
def e_slices_choosePivotOrdered_int (K : Nat) : Entry := { n := 3, sh := { sl := [(0, .d 22 false), (1, .d 3 false), (2, .d 3 false)], ob := [] }, kept := [], rs := [{ sl := [(0, .tup [.d 3 true, .d 219 true])], ob := [] }], f := fun ds => f_slices_choosePivotOrdered_int K (D.nth ds 0) (D.nth ds 1) (D.nth ds 2), tot := none }
def T_slices_choosePivotOrdered_int (K : Nat) : Tbl := { T0 with ents := entsOf [(183, e_slices_medianAdjacentOrdered_int K), (184, e_slices_medianOrdered_int K)], cuts := lk [(0, c_slices_choosePivotOrdered_int_0 K)] }
theorem q_slices_choosePivotOrdered_int_0 (K : Nat) (ds : List D) : evPiece (T_slices_choosePivotOrdered_int K) 57 (sub (codeOf Try.f167) [1, 1, 1, 1, 1, 1, 0, 1]) .go (c_slices_choosePivotOrdered_int_0 K) ds = b_slices_choosePivotOrdered_int_0 K ds := by kernel_rfl
theorem k_slices_choosePivotOrdered_int_0 (K : Nat) : CutOK Try.prog (T_slices_choosePivotOrdered_int K) 57 (sub (codeOf Try.f167) [1, 1, 1, 1, 1, 1, 0, 1]) (c_slices_choosePivotOrdered_int_0 K) :=
  piece_thm (T := T_slices_choosePivotOrdered_int K) (hT_of hT0 rfl rfl rfl) (hes_ok (T0 := T0) (T := T_slices_choosePivotOrdered_int K) rfl rfl (⟨ok_slices_medianAdjacentOrdered_int K, ok_slices_medianOrdered_int K, trivial⟩ : FAll Try.prog T0 [(183, e_slices_medianAdjacentOrdered_int K), (184, e_slices_medianOrdered_int K)])) rfl rfl rfl (cutsOK_none (by rfl)) (q_slices_choosePivotOrdered_int_0 K)
theorem q_slices_choosePivotOrdered_int (K : Nat) (ds : List D) : evFn (T_slices_choosePivotOrdered_int K) Try.f167 (.seq .go (.seq .go (.seq .go (.seq .go (.seq .go (.seq .go (.seq (.seq .go (.cut 0)) .go))))))) (e_slices_choosePivotOrdered_int K) ds = (e_slices_choosePivotOrdered_int K).f ds := by kernel_rfl
theorem ok_slices_choosePivotOrdered_int (K : Nat) : FnOK Try.prog T0 167 (e_slices_choosePivotOrdered_int K) :=
  fn_thm (T0 := T0) (T := T_slices_choosePivotOrdered_int K) rfl (hT_of hT0 rfl rfl rfl) (hes_ok (T0 := T0) (T := T_slices_choosePivotOrdered_int K) rfl rfl (⟨ok_slices_medianAdjacentOrdered_int K, ok_slices_medianOrdered_int K, trivial⟩ : FAll Try.prog T0 [(183, e_slices_medianAdjacentOrdered_int K), (184, e_slices_medianOrdered_int K)])) Try.func167 (by decide) rfl (Nat.le_of_ble_eq_true rfl) rfl rfl rfl (tot_none rfl) (cutsOK_list (l := [(0, sub (codeOf Try.f167) [1, 1, 1, 1, 1, 1, 0, 1])]) (by kernel_rfl) ⟨cut_one (u := c_slices_choosePivotOrdered_int_0 K) rfl (k_slices_choosePivotOrdered_int_0 K), trivial⟩) (q_slices_choosePivotOrdered_int K)
/-! ### 168 slices.reverseRangeOrdered[int] -/
def b_slices_reverseRangeOrdered_int_0 (K : Nat) (rec : List D → Option (Nat × List D)) (ds : List D) : Option (Nat × List D) :=
  let i := D.nth ds 0
  let j := D.nth ds 1
  let r0 := D.nth ds 2
  bif (ltI i.int j.int) then
    bif (inB j.int r0.list.length) then
      bif (inB i.int r0.list.length) then
        bif (inB i.int r0.list.length) then
          bif (inB j.int ((D.setNth r0.list i.int.toNat (D.nth r0.list j.int.toNat)).length)) then
            rec [D.i (IntKind.i64.wrap (i.int + (1 : Int))), D.i (IntKind.i64.wrap (j.int - (1 : Int))), D.n (D.setNth (D.setNth r0.list i.int.toNat (D.nth r0.list j.int.toNat)) j.int.toNat (D.nth r0.list i.int.toNat))]
          else
            none
        else
          none
      else
        none
    else
      none
  else
    some (0, [D.n r0.list])
def c_slices_reverseRangeOrdered_int_0 (K : Nat) : Cut := { sh := { sl := [(0, .own 22 0), (6, .d 3 true), (7, .d 3 true)], ob := [(0, .row 3 true)] }, kept := [0], outs := [(.exit 0, { sl := [], ob := [(0, .row 3 true)] })], f := fun ds => fixN (b_slices_reverseRangeOrdered_int_0 K) K ds }
def f_slices_reverseRangeOrdered_int (K : Nat) (a b r0 : D) : Option (List D) :=
  (fixN (b_slices_reverseRangeOrdered_int_0 K) K [a, D.i (IntKind.i64.wrap (b.int - (1 : Int))), D.n r0.list]).bind fun t1 =>
  some [D.n ((D.nth t1.2 0).list)]
def e_slices_reverseRangeOrdered_int (K : Nat) : Entry := { n := 3, sh := { sl := [(0, .own 22 0), (1, .d 3 false), (2, .d 3 false)], ob := [(0, .row 3 true)] }, kept := [0], rs := [{ sl := [(0, .tup [])], ob := [(0, .row 3 true)] }], f := fun ds => f_slices_reverseRangeOrdered_int K (D.nth ds 0) (D.nth ds 1) (D.nth ds 2), tot := none }
def T_slices_reverseRangeOrdered_int (K : Nat) : Tbl := { T0 with ents := entsOf [], cuts := lk [(0, c_slices_reverseRangeOrdered_int_0 K)] }
theorem q_slices_reverseRangeOrdered_int_0 (K : Nat) (rec : List D → Option (Nat × List D)) (ds : List D) : evLoop (T_slices_reverseRangeOrdered_int K) 32 (sub (codeOf Try.f168) [1, 1, 0, 0]) .go (c_slices_reverseRangeOrdered_int_0 K) rec ds = b_slices_reverseRangeOrdered_int_0 K rec ds := by kernel_rfl
theorem k_slices_reverseRangeOrdered_int_0 (K : Nat) : CutOK Try.prog (T_slices_reverseRangeOrdered_int K) 32 (sub (codeOf Try.f168) [1, 1, 0]) (c_slices_reverseRangeOrdered_int_0 K) :=
  loop_thm (T := T_slices_reverseRangeOrdered_int K) (hT_of hT0 rfl rfl rfl) (hes_ok (T0 := T0) (T := T_slices_reverseRangeOrdered_int K) rfl rfl (trivial : FAll Try.prog T0 [])) (by kernel_rfl) rfl rfl rfl (cutsOK_none (by rfl)) rfl (q_slices_reverseRangeOrdered_int_0 K)
theorem q_slices_reverseRangeOrdered_int (K : Nat) (ds : List D) : evFn (T_slices_reverseRangeOrdered_int K) Try.f168 (.seq .go (.seq .go (.blk (.cut 0)))) (e_slices_reverseRangeOrdered_int K) ds = (e_slices_reverseRangeOrdered_int K).f ds := by kernel_rfl
theorem ok_slices_reverseRangeOrdered_int (K : Nat) : FnOK Try.prog T0 168 (e_slices_reverseRangeOrdered_int K) :=
  fn_thm (T0 := T0) (T := T_slices_reverseRangeOrdered_int K) rfl (hT_of hT0 rfl rfl rfl) (hes_ok (T0 := T0) (T := T_slices_reverseRangeOrdered_int K) rfl rfl (trivial : FAll Try.prog T0 [])) Try.func168 (by decide) rfl (Nat.le_of_ble_eq_true rfl) rfl rfl rfl (tot_none rfl) (cutsOK_list (l := [(0, sub (codeOf Try.f168) [1, 1, 0])]) (by kernel_rfl) ⟨cut_one (u := c_slices_reverseRangeOrdered_int_0 K) rfl (k_slices_reverseRangeOrdered_int_0 K), trivial⟩) (q_slices_reverseRangeOrdered_int K)
/-! ### 169 slices.partialInsertionSortOrdered[int] -/
def b_slices_partialInsertionSortOrdered_int_3 (K : Nat) (rec : List D → Option (Nat × List D)) (ds : List D) : Option (Nat × List D) :=
  let j := D.nth ds 0
  let r0 := D.nth ds 1
  bif (geI j.int 1) then
    bif (inB j.int r0.list.length) then
      bif (inB (IntKind.i64.wrap (j.int - (1 : Int))) r0.list.length) then
        bif (!((D.nth (p_cmp_Less_int (D.nth r0.list j.int.toNat) (D.nth r0.list ((IntKind.i64.wrap (j.int - (1 : Int))).toNat))) 0).bool)) then
          some (0, [D.n r0.list])
        else
          bif (inB (IntKind.i64.wrap (j.int - (1 : Int))) r0.list.length) then
            bif (inB j.int r0.list.length) then
              bif (inB j.int r0.list.length) then
                bif (inB (IntKind.i64.wrap (j.int - (1 : Int))) ((D.setNth r0.list j.int.toNat (D.nth r0.list ((IntKind.i64.wrap (j.int - (1 : Int))).toNat))).length)) then
                  rec [D.i (IntKind.i64.wrap (j.int - (1 : Int))), D.n (D.setNth (D.setNth r0.list j.int.toNat (D.nth r0.list ((IntKind.i64.wrap (j.int - (1 : Int))).toNat))) ((IntKind.i64.wrap (j.int - (1 : Int))).toNat) (D.nth r0.list j.int.toNat))]
                else
                  none
              else
                none
            else
              none
          else
            none
      else
        none
    else
      none
  else
    some (0, [D.n r0.list])
def c_slices_partialInsertionSortOrdered_int_3 (K : Nat) : Cut := { sh := { sl := [(0, .own 22 0), (9, .d 3 true)], ob := [(0, .row 3 true)] }, kept := [0], outs := [(.exit 4, { sl := [], ob := [(0, .row 3 true)] })], f := fun ds => fixN (b_slices_partialInsertionSortOrdered_int_3 K) K ds }
def b_slices_partialInsertionSortOrdered_int_4 (K : Nat) (rec : List D → Option (Nat × List D)) (ds : List D) : Option (Nat × List D) :=
  let b := D.nth ds 0
  let j := D.nth ds 1
  let r0 := D.nth ds 2
  bif (ltI j.int b.int) then
    bif (inB j.int r0.list.length) then
      bif (inB (IntKind.i64.wrap (j.int - (1 : Int))) r0.list.length) then
        bif (!((D.nth (p_cmp_Less_int (D.nth r0.list j.int.toNat) (D.nth r0.list ((IntKind.i64.wrap (j.int - (1 : Int))).toNat))) 0).bool)) then
          some (0, [D.n r0.list])
        else
          bif (inB (IntKind.i64.wrap (j.int - (1 : Int))) r0.list.length) then
            bif (inB j.int r0.list.length) then
              bif (inB j.int r0.list.length) then
                bif (inB (IntKind.i64.wrap (j.int - (1 : Int))) ((D.setNth r0.list j.int.toNat (D.nth r0.list ((IntKind.i64.wrap (j.int - (1 : Int))).toNat))).length)) then
                  rec [b, D.i (IntKind.i64.wrap (j.int + (1 : Int))), D.n (D.setNth (D.setNth r0.list j.int.toNat (D.nth r0.list ((IntKind.i64.wrap (j.int - (1 : Int))).toNat))) ((IntKind.i64.wrap (j.int - (1 : Int))).toNat) (D.nth r0.list j.int.toNat))]
                else
                  none
              else
                none
            else
              none
          else
            none
      else
        none
    else
      none
  else
    some (0, [D.n r0.list])
def c_slices_partialInsertionSortOrdered_int_4 (K : Nat) : Cut := { sh := { sl := [(0, .own 22 0), (2, .d 3 true), (10, .d 3 true)], ob := [(0, .row 3 true)] }, kept := [0], outs := [(.exit 6, { sl := [], ob := [(0, .row 3 true)] })], f := fun ds => fixN (b_slices_partialInsertionSortOrdered_int_4 K) K ds }
def b_slices_partialInsertionSortOrdered_int_2 (K : Nat) (ds : List D) : Option (Nat × List D) :=
  let i := D.nth ds 0
  let s61 := D.nth ds 1
  let r0 := D.nth ds 2
  bif s61.bool then
    (fixN (b_slices_partialInsertionSortOrdered_int_3 K) K [D.i (IntKind.i64.wrap (i.int - (1 : Int))), D.n r0.list]).bind fun t2 =>
    some (0, [D.n ((D.nth t2.2 0).list)])
  else
    some (0, [D.n r0.list])
def c_slices_partialInsertionSortOrdered_int_2 (K : Nat) : Cut := { sh := { sl := [(0, .own 22 0), (7, .d 3 true), (61, .d 4 true)], ob := [(0, .row 3 true)] }, kept := [0], outs := [(.normal, { sl := [], ob := [(0, .row 3 true)] })], f := b_slices_partialInsertionSortOrdered_int_2 K }
def b_slices_partialInsertionSortOrdered_int_1 (K : Nat) (rec : List D → Option (Nat × List D)) (ds : List D) : Option (Nat × List D) :=
  let b := D.nth ds 0
  let i := D.nth ds 1
  let r0 := D.nth ds 2
  bif ((!(ltI i.int b.int)) || (inB i.int r0.list.length)) then
    bif ((!(ltI i.int b.int)) || (inB (IntKind.i64.wrap (i.int - (1 : Int))) r0.list.length)) then
      bif (bif (ltI i.int b.int) then (!((D.nth (p_cmp_Less_int (D.nth r0.list i.int.toNat) (D.nth r0.list ((IntKind.i64.wrap (i.int - (1 : Int))).toNat))) 0).bool)) else false) then
        rec [b, D.i (IntKind.i64.wrap (i.int + (1 : Int))), D.n r0.list]
      else
        some (0, [i, D.n r0.list])
    else
      none
  else
    none
def c_slices_partialInsertionSortOrdered_int_1 (K : Nat) : Cut := { sh := { sl := [(0, .own 22 0), (2, .d 3 true), (7, .d 3 true)], ob := [(0, .row 3 true)] }, kept := [0], outs := [(.exit 2, { sl := [(7, .d 3 true)], ob := [(0, .row 3 true)] })], f := fun ds => fixN (b_slices_partialInsertionSortOrdered_int_1 K) K ds }
def b_slices_partialInsertionSortOrdered_int_0 (K : Nat) (rec : List D → Option (Nat × List D)) (ds : List D) : Option (Nat × List D) :=
  let a := D.nth ds 0
  let b := D.nth ds 1
  let i := D.nth ds 2
  let j := D.nth ds 3
  let r0 := D.nth ds 4
  bif (ltI j.int 5) then
    (fixN (b_slices_partialInsertionSortOrdered_int_1 K) K [b, i, D.n r0.list]).bind fun t1 =>
    bif (((D.nth t1.2 0).int) == b.int) then
      some (0, [D.b true, D.n ((D.nth t1.2 1).list)])
    else
      bif (ltI (IntKind.i64.wrap (b.int - a.int)) 50) then
        some (0, [D.b false, D.n ((D.nth t1.2 1).list)])
      else
        bif (inB (IntKind.i64.wrap (((D.nth t1.2 0).int) - (1 : Int))) (((D.nth t1.2 1).list).length)) then
          bif (inB ((D.nth t1.2 0).int) (((D.nth t1.2 1).list).length)) then
            bif (inB ((D.nth t1.2 0).int) (((D.nth t1.2 1).list).length)) then
              bif (inB (IntKind.i64.wrap (((D.nth t1.2 0).int) - (1 : Int))) ((D.setNth ((D.nth t1.2 1).list) (((D.nth t1.2 0).int).toNat) (D.nth ((D.nth t1.2 1).list) ((IntKind.i64.wrap (((D.nth t1.2 0).int) - (1 : Int))).toNat))).length)) then
                (b_slices_partialInsertionSortOrdered_int_2 K [D.nth t1.2 0, D.b (geI (IntKind.i64.wrap (((D.nth t1.2 0).int) - a.int)) 2), D.n (D.setNth (D.setNth ((D.nth t1.2 1).list) (((D.nth t1.2 0).int).toNat) (D.nth ((D.nth t1.2 1).list) ((IntKind.i64.wrap (((D.nth t1.2 0).int) - (1 : Int))).toNat))) ((IntKind.i64.wrap (((D.nth t1.2 0).int) - (1 : Int))).toNat) (D.nth ((D.nth t1.2 1).list) (((D.nth t1.2 0).int).toNat)))]).bind fun t2 =>
                bif (geI (IntKind.i64.wrap (b.int - ((D.nth t1.2 0).int))) 2) then
                  (fixN (b_slices_partialInsertionSortOrdered_int_4 K) K [b, D.i (IntKind.i64.wrap (((D.nth t1.2 0).int) + (1 : Int))), D.n ((D.nth t2.2 0).list)]).bind fun t3 =>
                  rec [a, b, D.nth t1.2 0, D.i (IntKind.i64.wrap (j.int + (1 : Int))), D.n ((D.nth t3.2 0).list)]
                else
                  rec [a, b, D.nth t1.2 0, D.i (IntKind.i64.wrap (j.int + (1 : Int))), D.n ((D.nth t2.2 0).list)]
              else
                none
            else
              none
          else
            none
        else
          none
  else
    some (1, [D.n r0.list])
def c_slices_partialInsertionSortOrdered_int_0 (K : Nat) : Cut := { sh := { sl := [(0, .own 22 0), (1, .d 3 true), (2, .d 3 true), (7, .d 3 true), (8, .d 3 true)], ob := [(0, .row 3 true)] }, kept := [0], outs := [(.ret, { sl := [(6, .d 4 true)], ob := [(0, .row 3 true)] }), (.exit 0, { sl := [], ob := [(0, .row 3 true)] })], f := fun ds => fixN (b_slices_partialInsertionSortOrdered_int_0 K) K ds }
def f_slices_partialInsertionSortOrdered_int (K : Nat) (a b r0 : D) : Option (List D) :=
  (fixN (b_slices_partialInsertionSortOrdered_int_0 K) K [a, b, D.i (IntKind.i64.wrap (a.int + (1 : Int))), D.i 0, D.n r0.list]).bind fun t1 =>
  bif (t1.1.beq 0) then
    some [D.nth t1.2 0, D.n ((D.nth t1.2 1).list)]
  else
    some [D.b false, D.n ((D.nth t1.2 0).list)]
def e_slices_partialInsertionSortOrdered_int (K : Nat) : Entry := { n := 3, sh := { sl := [(0, .own 22 0), (1, .d 3 false), (2, .d 3 false)], ob := [(0, .row 3 true)] }, kept := [0], rs := [{ sl := [(0, .d 4 true)], ob := [(0, .row 3 true)] }], f := fun ds => f_slices_partialInsertionSortOrdered_int K (D.nth ds 0) (D.nth ds 1) (D.nth ds 2), tot := none }
def T_slices_partialInsertionSortOrdered_int (K : Nat) : Tbl := { T0 with ents := entsOf [(170, e_cmp_Less_int K)], cuts := lk [(0, c_slices_partialInsertionSortOrdered_int_0 K), (1, c_slices_partialInsertionSortOrdered_int_1 K), (2, c_slices_partialInsertionSortOrdered_int_2 K), (3, c_slices_partialInsertionSortOrdered_int_3 K), (4, c_slices_partialInsertionSortOrdered_int_4 K)] }
theorem q_slices_partialInsertionSortOrdered_int_3 (K : Nat) (rec : List D → Option (Nat × List D)) (ds : List D) : evLoop (T_slices_partialInsertionSortOrdered_int K) 133 (sub (codeOf Try.f169) [1, 1, 0, 1, 0, 0, 1, 0, 0, 1, 1, 1, 1, 0, 1, 0, 1, 0, 0]) .go (c_slices_partialInsertionSortOrdered_int_3 K) rec ds = b_slices_partialInsertionSortOrdered_int_3 K rec ds := by kernel_rfl
theorem k_slices_partialInsertionSortOrdered_int_3 (K : Nat) : CutOK Try.prog (T_slices_partialInsertionSortOrdered_int K) 133 (sub (codeOf Try.f169) [1, 1, 0, 1, 0, 0, 1, 0, 0, 1, 1, 1, 1, 0, 1, 0, 1, 0]) (c_slices_partialInsertionSortOrdered_int_3 K) :=
  loop_thm (T := T_slices_partialInsertionSortOrdered_int K) (hT_of hT0 rfl rfl rfl) (hes_ok (T0 := T0) (T := T_slices_partialInsertionSortOrdered_int K) rfl rfl (⟨ok_cmp_Less_int K, trivial⟩ : FAll Try.prog T0 [(170, e_cmp_Less_int K)])) (by kernel_rfl) rfl rfl rfl (cutsOK_none (by rfl)) rfl (q_slices_partialInsertionSortOrdered_int_3 K)
theorem q_slices_partialInsertionSortOrdered_int_4 (K : Nat) (rec : List D → Option (Nat × List D)) (ds : List D) : evLoop (T_slices_partialInsertionSortOrdered_int K) 133 (sub (codeOf Try.f169) [1, 1, 0, 1, 0, 0, 1, 0, 0, 1, 1, 1, 1, 1, 1, 0, 1, 0, 0]) .go (c_slices_partialInsertionSortOrdered_int_4 K) rec ds = b_slices_partialInsertionSortOrdered_int_4 K rec ds := by kernel_rfl
theorem k_slices_partialInsertionSortOrdered_int_4 (K : Nat) : CutOK Try.prog (T_slices_partialInsertionSortOrdered_int K) 133 (sub (codeOf Try.f169) [1, 1, 0, 1, 0, 0, 1, 0, 0, 1, 1, 1, 1, 1, 1, 0, 1, 0]) (c_slices_partialInsertionSortOrdered_int_4 K) :=
  loop_thm (T := T_slices_partialInsertionSortOrdered_int K) (hT_of hT0 rfl rfl rfl) (hes_ok (T0 := T0) (T := T_slices_partialInsertionSortOrdered_int K) rfl rfl (⟨ok_cmp_Less_int K, trivial⟩ : FAll Try.prog T0 [(170, e_cmp_Less_int K)])) (by kernel_rfl) rfl rfl rfl (cutsOK_none (by rfl)) rfl (q_slices_partialInsertionSortOrdered_int_4 K)
theorem q_slices_partialInsertionSortOrdered_int_2 (K : Nat) (ds : List D) : evPiece (T_slices_partialInsertionSortOrdered_int K) 133 (sub (codeOf Try.f169) [1, 1, 0, 1, 0, 0, 1, 0, 0, 1, 1, 1, 1, 0, 1]) (.cond (.seq .go (.blk (.cut 3))) .go) (c_slices_partialInsertionSortOrdered_int_2 K) ds = b_slices_partialInsertionSortOrdered_int_2 K ds := by kernel_rfl
theorem k_slices_partialInsertionSortOrdered_int_2 (K : Nat) : CutOK Try.prog (T_slices_partialInsertionSortOrdered_int K) 133 (sub (codeOf Try.f169) [1, 1, 0, 1, 0, 0, 1, 0, 0, 1, 1, 1, 1, 0, 1]) (c_slices_partialInsertionSortOrdered_int_2 K) :=
  piece_thm (T := T_slices_partialInsertionSortOrdered_int K) (hT_of hT0 rfl rfl rfl) (hes_ok (T0 := T0) (T := T_slices_partialInsertionSortOrdered_int K) rfl rfl (⟨ok_cmp_Less_int K, trivial⟩ : FAll Try.prog T0 [(170, e_cmp_Less_int K)])) rfl rfl rfl (cutsOK_list (l := [(3, sub (codeOf Try.f169) [1, 1, 0, 1, 0, 0, 1, 0, 0, 1, 1, 1, 1, 0, 1, 0, 1, 0])]) (by kernel_rfl) ⟨cut_one (u := c_slices_partialInsertionSortOrdered_int_3 K) rfl (k_slices_partialInsertionSortOrdered_int_3 K), trivial⟩) (q_slices_partialInsertionSortOrdered_int_2 K)
theorem q_slices_partialInsertionSortOrdered_int_1 (K : Nat) (rec : List D → Option (Nat × List D)) (ds : List D) : evLoop (T_slices_partialInsertionSortOrdered_int K) 133 (sub (codeOf Try.f169) [1, 1, 0, 1, 0, 0, 1, 0, 0, 0, 0, 0]) .go (c_slices_partialInsertionSortOrdered_int_1 K) rec ds = b_slices_partialInsertionSortOrdered_int_1 K rec ds := by kernel_rfl
theorem k_slices_partialInsertionSortOrdered_int_1 (K : Nat) : CutOK Try.prog (T_slices_partialInsertionSortOrdered_int K) 133 (sub (codeOf Try.f169) [1, 1, 0, 1, 0, 0, 1, 0, 0, 0, 0]) (c_slices_partialInsertionSortOrdered_int_1 K) :=
  loop_thm (T := T_slices_partialInsertionSortOrdered_int K) (hT_of hT0 rfl rfl rfl) (hes_ok (T0 := T0) (T := T_slices_partialInsertionSortOrdered_int K) rfl rfl (⟨ok_cmp_Less_int K, trivial⟩ : FAll Try.prog T0 [(170, e_cmp_Less_int K)])) (by kernel_rfl) rfl rfl rfl (cutsOK_none (by rfl)) rfl (q_slices_partialInsertionSortOrdered_int_1 K)
theorem q_slices_partialInsertionSortOrdered_int_0 (K : Nat) (rec : List D → Option (Nat × List D)) (ds : List D) : evLoop (T_slices_partialInsertionSortOrdered_int K) 133 (sub (codeOf Try.f169) [1, 1, 0, 1, 0, 0]) (.seq .go (.seq (.blk (.seq (.blk (.cut 1)) (.seq .go (.seq .go (.seq .go (.seq (.seq .go (.cut 2)) (.seq .go (.cond (.seq .go (.blk (.cut 4))) .go)))))))) .go)) (c_slices_partialInsertionSortOrdered_int_0 K) rec ds = b_slices_partialInsertionSortOrdered_int_0 K rec ds := by kernel_rfl
theorem k_slices_partialInsertionSortOrdered_int_0 (K : Nat) : CutOK Try.prog (T_slices_partialInsertionSortOrdered_int K) 133 (sub (codeOf Try.f169) [1, 1, 0, 1, 0]) (c_slices_partialInsertionSortOrdered_int_0 K) :=
  loop_thm (T := T_slices_partialInsertionSortOrdered_int K) (hT_of hT0 rfl rfl rfl) (hes_ok (T0 := T0) (T := T_slices_partialInsertionSortOrdered_int K) rfl rfl (⟨ok_cmp_Less_int K, trivial⟩ : FAll Try.prog T0 [(170, e_cmp_Less_int K)])) (by kernel_rfl) rfl rfl rfl (cutsOK_list (l := [(1, sub (codeOf Try.f169) [1, 1, 0, 1, 0, 0, 1, 0, 0, 0, 0]), (2, sub (codeOf Try.f169) [1, 1, 0, 1, 0, 0, 1, 0, 0, 1, 1, 1, 1, 0, 1]), (4, sub (codeOf Try.f169) [1, 1, 0, 1, 0, 0, 1, 0, 0, 1, 1, 1, 1, 1, 1, 0, 1, 0])]) (by kernel_rfl) ⟨cut_one (u := c_slices_partialInsertionSortOrdered_int_1 K) rfl (k_slices_partialInsertionSortOrdered_int_1 K), cut_one (u := c_slices_partialInsertionSortOrdered_int_2 K) rfl (k_slices_partialInsertionSortOrdered_int_2 K), cut_one (u := c_slices_partialInsertionSortOrdered_int_4 K) rfl (k_slices_partialInsertionSortOrdered_int_4 K), trivial⟩) rfl (q_slices_partialInsertionSortOrdered_int_0 K)
theorem q_slices_partialInsertionSortOrdered_int (K : Nat) (ds : List D) : evFn (T_slices_partialInsertionSortOrdered_int K) Try.f169 (.seq .go (.seq .go (.seq (.seq .go (.blk (.cut 0))) .go))) (e_slices_partialInsertionSortOrdered_int K) ds = (e_slices_partialInsertionSortOrdered_int K).f ds := by kernel_rfl
theorem ok_slices_partialInsertionSortOrdered_int (K : Nat) : FnOK Try.prog T0 169 (e_slices_partialInsertionSortOrdered_int K) :=
  fn_thm (T0 := T0) (T := T_slices_partialInsertionSortOrdered_int K) rfl (hT_of hT0 rfl rfl rfl) (hes_ok (T0 := T0) (T := T_slices_partialInsertionSortOrdered_int K) rfl rfl (⟨ok_cmp_Less_int K, trivial⟩ : FAll Try.prog T0 [(170, e_cmp_Less_int K)])) Try.func169 (by decide) rfl (Nat.le_of_ble_eq_true rfl) rfl rfl rfl (tot_none rfl) (cutsOK_list (l := [(0, sub (codeOf Try.f169) [1, 1, 0, 1, 0])]) (by kernel_rfl) ⟨cut_one (u := c_slices_partialInsertionSortOrdered_int_0 K) rfl (k_slices_partialInsertionSortOrdered_int_0 K), trivial⟩) (q_slices_partialInsertionSortOrdered_int K)
/-! ### 171 slices.partitionEqualOrdered[int] -/
def b_slices_partitionEqualOrdered_int_2 (K : Nat) (rec : List D → Option (Nat × List D)) (ds : List D) : Option (Nat × List D) :=
  let a := D.nth ds 0
  let i := D.nth ds 1
  let j := D.nth ds 2
  let r0 := D.nth ds 3
  bif ((!(leI i.int j.int)) || (inB a.int r0.list.length)) then
    bif ((!(leI i.int j.int)) || (inB j.int r0.list.length)) then
      bif (bif (leI i.int j.int) then (D.nth (p_cmp_Less_int (D.nth r0.list a.int.toNat) (D.nth r0.list j.int.toNat)) 0).bool else false) then
        rec [a, i, D.i (IntKind.i64.wrap (j.int - (1 : Int))), D.n r0.list]
      else
        some (0, [j, D.n r0.list])
    else
      none
  else
    none
def c_slices_partitionEqualOrdered_int_2 (K : Nat) : Cut := { sh := { sl := [(0, .own 22 0), (1, .d 3 true), (9, .d 3 true), (10, .d 3 true)], ob := [(0, .row 3 true)] }, kept := [0], outs := [(.exit 4, { sl := [(10, .d 3 true)], ob := [(0, .row 3 true)] })], f := fun ds => fixN (b_slices_partitionEqualOrdered_int_2 K) K ds }
def b_slices_partitionEqualOrdered_int_1 (K : Nat) (rec : List D → Option (Nat × List D)) (ds : List D) : Option (Nat × List D) :=
  let a := D.nth ds 0
  let i := D.nth ds 1
  let j := D.nth ds 2
  let r0 := D.nth ds 3
  bif ((!(leI i.int j.int)) || (inB a.int r0.list.length)) then
    bif ((!(leI i.int j.int)) || (inB i.int r0.list.length)) then
      bif (bif (leI i.int j.int) then (!((D.nth (p_cmp_Less_int (D.nth r0.list a.int.toNat) (D.nth r0.list i.int.toNat)) 0).bool)) else false) then
        rec [a, D.i (IntKind.i64.wrap (i.int + (1 : Int))), j, D.n r0.list]
      else
        some (0, [i, D.n r0.list])
    else
      none
  else
    none
def c_slices_partitionEqualOrdered_int_1 (K : Nat) : Cut := { sh := { sl := [(0, .own 22 0), (1, .d 3 true), (9, .d 3 true), (10, .d 3 true)], ob := [(0, .row 3 true)] }, kept := [0], outs := [(.exit 2, { sl := [(9, .d 3 true)], ob := [(0, .row 3 true)] })], f := fun ds => fixN (b_slices_partitionEqualOrdered_int_1 K) K ds }
def b_slices_partitionEqualOrdered_int_0 (K : Nat) (rec : List D → Option (Nat × List D)) (ds : List D) : Option (Nat × List D) :=
  let a := D.nth ds 0
  let i := D.nth ds 1
  let j := D.nth ds 2
  let r0 := D.nth ds 3
  (fixN (b_slices_partitionEqualOrdered_int_1 K) K [a, i, j, D.n r0.list]).bind fun t1 =>
  (fixN (b_slices_partitionEqualOrdered_int_2 K) K [a, D.nth t1.2 0, j, D.n ((D.nth t1.2 1).list)]).bind fun t2 =>
  bif (gtI ((D.nth t1.2 0).int) ((D.nth t2.2 0).int)) then
    some (0, [D.nth t1.2 0, D.n ((D.nth t2.2 1).list)])
  else
    bif (inB ((D.nth t2.2 0).int) (((D.nth t2.2 1).list).length)) then
      bif (inB ((D.nth t1.2 0).int) (((D.nth t2.2 1).list).length)) then
        bif (inB ((D.nth t1.2 0).int) (((D.nth t2.2 1).list).length)) then
          bif (inB ((D.nth t2.2 0).int) ((D.setNth ((D.nth t2.2 1).list) (((D.nth t1.2 0).int).toNat) (D.nth ((D.nth t2.2 1).list) (((D.nth t2.2 0).int).toNat))).length)) then
            rec [a, D.i (IntKind.i64.wrap (((D.nth t1.2 0).int) + (1 : Int))), D.i (IntKind.i64.wrap (((D.nth t2.2 0).int) - (1 : Int))), D.n (D.setNth (D.setNth ((D.nth t2.2 1).list) (((D.nth t1.2 0).int).toNat) (D.nth ((D.nth t2.2 1).list) (((D.nth t2.2 0).int).toNat))) (((D.nth t2.2 0).int).toNat) (D.nth ((D.nth t2.2 1).list) (((D.nth t1.2 0).int).toNat)))]
          else
            none
        else
          none
      else
        none
    else
      none
def c_slices_partitionEqualOrdered_int_0 (K : Nat) : Cut := { sh := { sl := [(0, .own 22 0), (1, .d 3 true), (9, .d 3 true), (10, .d 3 true)], ob := [(0, .row 3 true)] }, kept := [0], outs := [(.exit 0, { sl := [(9, .d 3 true)], ob := [(0, .row 3 true)] })], f := fun ds => fixN (b_slices_partitionEqualOrdered_int_0 K) K ds }
def f_slices_partitionEqualOrdered_int (K : Nat) (a b pivot r0 : D) : Option (List D) :=
  bif (inB pivot.int r0.list.length) then
    bif (inB a.int r0.list.length) then
      bif (inB a.int r0.list.length) then
        bif (inB pivot.int ((D.setNth r0.list a.int.toNat (D.nth r0.list pivot.int.toNat)).length)) then
          (fixN (b_slices_partitionEqualOrdered_int_0 K) K [a, D.i (IntKind.i64.wrap (a.int + (1 : Int))), D.i (IntKind.i64.wrap (b.int - (1 : Int))), D.n (D.setNth (D.setNth r0.list a.int.toNat (D.nth r0.list pivot.int.toNat)) pivot.int.toNat (D.nth r0.list a.int.toNat))]).bind fun t1 =>
          some [D.nth t1.2 0, D.n ((D.nth t1.2 1).list)]
        else
          none
      else
        none
    else
      none
  else
    none
def e_slices_partitionEqualOrdered_int (K : Nat) : Entry := { n := 4, sh := { sl := [(0, .own 22 0), (1, .d 3 false), (2, .d 3 false), (3, .d 3 false)], ob := [(0, .row 3 true)] }, kept := [0], rs := [{ sl := [(0, .d 3 true)], ob := [(0, .row 3 true)] }], f := fun ds => f_slices_partitionEqualOrdered_int K (D.nth ds 0) (D.nth ds 1) (D.nth ds 2) (D.nth ds 3), tot := none }
def T_slices_partitionEqualOrdered_int (K : Nat) : Tbl := { T0 with ents := entsOf [(170, e_cmp_Less_int K)], cuts := lk [(0, c_slices_partitionEqualOrdered_int_0 K), (1, c_slices_partitionEqualOrdered_int_1 K), (2, c_slices_partitionEqualOrdered_int_2 K)] }
theorem q_slices_partitionEqualOrdered_int_2 (K : Nat) (rec : List D → Option (Nat × List D)) (ds : List D) : evLoop (T_slices_partitionEqualOrdered_int K) 84 (sub (codeOf Try.f171) [1, 1, 1, 0, 0, 0, 0, 1, 0, 0, 0]) .go (c_slices_partitionEqualOrdered_int_2 K) rec ds = b_slices_partitionEqualOrdered_int_2 K rec ds := by kernel_rfl
theorem k_slices_partitionEqualOrdered_int_2 (K : Nat) : CutOK Try.prog (T_slices_partitionEqualOrdered_int K) 84 (sub (codeOf Try.f171) [1, 1, 1, 0, 0, 0, 0, 1, 0, 0]) (c_slices_partitionEqualOrdered_int_2 K) :=
  loop_thm (T := T_slices_partitionEqualOrdered_int K) (hT_of hT0 rfl rfl rfl) (hes_ok (T0 := T0) (T := T_slices_partitionEqualOrdered_int K) rfl rfl (⟨ok_cmp_Less_int K, trivial⟩ : FAll Try.prog T0 [(170, e_cmp_Less_int K)])) (by kernel_rfl) rfl rfl rfl (cutsOK_none (by rfl)) rfl (q_slices_partitionEqualOrdered_int_2 K)
theorem q_slices_partitionEqualOrdered_int_1 (K : Nat) (rec : List D → Option (Nat × List D)) (ds : List D) : evLoop (T_slices_partitionEqualOrdered_int K) 84 (sub (codeOf Try.f171) [1, 1, 1, 0, 0, 0, 0, 0, 0, 0]) .go (c_slices_partitionEqualOrdered_int_1 K) rec ds = b_slices_partitionEqualOrdered_int_1 K rec ds := by kernel_rfl
theorem k_slices_partitionEqualOrdered_int_1 (K : Nat) : CutOK Try.prog (T_slices_partitionEqualOrdered_int K) 84 (sub (codeOf Try.f171) [1, 1, 1, 0, 0, 0, 0, 0, 0]) (c_slices_partitionEqualOrdered_int_1 K) :=
  loop_thm (T := T_slices_partitionEqualOrdered_int K) (hT_of hT0 rfl rfl rfl) (hes_ok (T0 := T0) (T := T_slices_partitionEqualOrdered_int K) rfl rfl (⟨ok_cmp_Less_int K, trivial⟩ : FAll Try.prog T0 [(170, e_cmp_Less_int K)])) (by kernel_rfl) rfl rfl rfl (cutsOK_none (by rfl)) rfl (q_slices_partitionEqualOrdered_int_1 K)
theorem q_slices_partitionEqualOrdered_int_0 (K : Nat) (rec : List D → Option (Nat × List D)) (ds : List D) : evLoop (T_slices_partitionEqualOrdered_int K) 84 (sub (codeOf Try.f171) [1, 1, 1, 0, 0, 0]) (.blk (.seq (.blk (.cut 1)) (.seq (.blk (.cut 2)) .go))) (c_slices_partitionEqualOrdered_int_0 K) rec ds = b_slices_partitionEqualOrdered_int_0 K rec ds := by kernel_rfl
theorem k_slices_partitionEqualOrdered_int_0 (K : Nat) : CutOK Try.prog (T_slices_partitionEqualOrdered_int K) 84 (sub (codeOf Try.f171) [1, 1, 1, 0, 0]) (c_slices_partitionEqualOrdered_int_0 K) :=
  loop_thm (T := T_slices_partitionEqualOrdered_int K) (hT_of hT0 rfl rfl rfl) (hes_ok (T0 := T0) (T := T_slices_partitionEqualOrdered_int K) rfl rfl (⟨ok_cmp_Less_int K, trivial⟩ : FAll Try.prog T0 [(170, e_cmp_Less_int K)])) (by kernel_rfl) rfl rfl rfl (cutsOK_list (l := [(1, sub (codeOf Try.f171) [1, 1, 1, 0, 0, 0, 0, 0, 0]), (2, sub (codeOf Try.f171) [1, 1, 1, 0, 0, 0, 0, 1, 0, 0])]) (by kernel_rfl) ⟨cut_one (u := c_slices_partitionEqualOrdered_int_1 K) rfl (k_slices_partitionEqualOrdered_int_1 K), cut_one (u := c_slices_partitionEqualOrdered_int_2 K) rfl (k_slices_partitionEqualOrdered_int_2 K), trivial⟩) rfl (q_slices_partitionEqualOrdered_int_0 K)
theorem q_slices_partitionEqualOrdered_int (K : Nat) (ds : List D) : evFn (T_slices_partitionEqualOrdered_int K) Try.f171 (.seq .go (.seq .go (.seq .go (.seq (.blk (.cut 0)) .go)))) (e_slices_partitionEqualOrdered_int K) ds = (e_slices_partitionEqualOrdered_int K).f ds := by kernel_rfl
theorem ok_slices_partitionEqualOrdered_int (K : Nat) : FnOK Try.prog T0 171 (e_slices_partitionEqualOrdered_int K) :=
  fn_thm (T0 := T0) (T := T_slices_partitionEqualOrdered_int K) rfl (hT_of hT0 rfl rfl rfl) (hes_ok (T0 := T0) (T := T_slices_partitionEqualOrdered_int K) rfl rfl (⟨ok_cmp_Less_int K, trivial⟩ : FAll Try.prog T0 [(170, e_cmp_Less_int K)])) Try.func171 (by decide) rfl (Nat.le_of_ble_eq_true rfl) rfl rfl rfl (tot_none rfl) (cutsOK_list (l := [(0, sub (codeOf Try.f171) [1, 1, 1, 0, 0])]) (by kernel_rfl) ⟨cut_one (u := c_slices_partitionEqualOrdered_int_0 K) rfl (k_slices_partitionEqualOrdered_int_0 K), trivial⟩) (q_slices_partitionEqualOrdered_int K)
/-! ### 172 slices.partitionOrdered[int] -/
def b_slices_partitionOrdered_int_4 (K : Nat) (rec : List D → Option (Nat × List D)) (ds : List D) : Option (Nat × List D) :=
  let a := D.nth ds 0
  let i := D.nth ds 1
  let j := D.nth ds 2
  let r0 := D.nth ds 3
  bif ((!(leI i.int j.int)) || (inB j.int r0.list.length)) then
    bif ((!(leI i.int j.int)) || (inB a.int r0.list.length)) then
      bif (bif (leI i.int j.int) then (!((D.nth (p_cmp_Less_int (D.nth r0.list j.int.toNat) (D.nth r0.list a.int.toNat)) 0).bool)) else false) then
        rec [a, i, D.i (IntKind.i64.wrap (j.int - (1 : Int))), D.n r0.list]
      else
        some (0, [j, D.n r0.list])
    else
      none
  else
    none
def c_slices_partitionOrdered_int_4 (K : Nat) : Cut := { sh := { sl := [(0, .own 22 0), (1, .d 3 true), (10, .d 3 true), (11, .d 3 true)], ob := [(0, .row 3 true)] }, kept := [0], outs := [(.exit 8, { sl := [(11, .d 3 true)], ob := [(0, .row 3 true)] })], f := fun ds => fixN (b_slices_partitionOrdered_int_4 K) K ds }
def b_slices_partitionOrdered_int_3 (K : Nat) (rec : List D → Option (Nat × List D)) (ds : List D) : Option (Nat × List D) :=
  let a := D.nth ds 0
  let i := D.nth ds 1
  let j := D.nth ds 2
  let r0 := D.nth ds 3
  bif ((!(leI i.int j.int)) || (inB i.int r0.list.length)) then
    bif ((!(leI i.int j.int)) || (inB a.int r0.list.length)) then
      bif (bif (leI i.int j.int) then (D.nth (p_cmp_Less_int (D.nth r0.list i.int.toNat) (D.nth r0.list a.int.toNat)) 0).bool else false) then
        rec [a, D.i (IntKind.i64.wrap (i.int + (1 : Int))), j, D.n r0.list]
      else
        some (0, [i, D.n r0.list])
    else
      none
  else
    none
def c_slices_partitionOrdered_int_3 (K : Nat) : Cut := { sh := { sl := [(0, .own 22 0), (1, .d 3 true), (10, .d 3 true), (11, .d 3 true)], ob := [(0, .row 3 true)] }, kept := [0], outs := [(.exit 6, { sl := [(10, .d 3 true)], ob := [(0, .row 3 true)] })], f := fun ds => fixN (b_slices_partitionOrdered_int_3 K) K ds }
def b_slices_partitionOrdered_int_2 (K : Nat) (rec : List D → Option (Nat × List D)) (ds : List D) : Option (Nat × List D) :=
  let a := D.nth ds 0
  let i := D.nth ds 1
  let j := D.nth ds 2
  let r0 := D.nth ds 3
  (fixN (b_slices_partitionOrdered_int_3 K) K [a, i, j, D.n r0.list]).bind fun t3 =>
  (fixN (b_slices_partitionOrdered_int_4 K) K [a, D.nth t3.2 0, j, D.n ((D.nth t3.2 1).list)]).bind fun t4 =>
  bif (gtI ((D.nth t3.2 0).int) ((D.nth t4.2 0).int)) then
    some (0, [D.nth t4.2 0, D.n ((D.nth t4.2 1).list)])
  else
    bif (inB ((D.nth t4.2 0).int) (((D.nth t4.2 1).list).length)) then
      bif (inB ((D.nth t3.2 0).int) (((D.nth t4.2 1).list).length)) then
        bif (inB ((D.nth t3.2 0).int) (((D.nth t4.2 1).list).length)) then
          bif (inB ((D.nth t4.2 0).int) ((D.setNth ((D.nth t4.2 1).list) (((D.nth t3.2 0).int).toNat) (D.nth ((D.nth t4.2 1).list) (((D.nth t4.2 0).int).toNat))).length)) then
            rec [a, D.i (IntKind.i64.wrap (((D.nth t3.2 0).int) + (1 : Int))), D.i (IntKind.i64.wrap (((D.nth t4.2 0).int) - (1 : Int))), D.n (D.setNth (D.setNth ((D.nth t4.2 1).list) (((D.nth t3.2 0).int).toNat) (D.nth ((D.nth t4.2 1).list) (((D.nth t4.2 0).int).toNat))) (((D.nth t4.2 0).int).toNat) (D.nth ((D.nth t4.2 1).list) (((D.nth t3.2 0).int).toNat)))]
          else
            none
        else
          none
      else
        none
    else
      none
def c_slices_partitionOrdered_int_2 (K : Nat) : Cut := { sh := { sl := [(0, .own 22 0), (1, .d 3 true), (10, .d 3 true), (11, .d 3 true)], ob := [(0, .row 3 true)] }, kept := [0], outs := [(.exit 4, { sl := [(11, .d 3 true)], ob := [(0, .row 3 true)] })], f := fun ds => fixN (b_slices_partitionOrdered_int_2 K) K ds }
def b_slices_partitionOrdered_int_1 (K : Nat) (rec : List D → Option (Nat × List D)) (ds : List D) : Option (Nat × List D) :=
  let a := D.nth ds 0
  let i := D.nth ds 1
  let j := D.nth ds 2
  let r0 := D.nth ds 3
  bif ((!(leI i.int j.int)) || (inB j.int r0.list.length)) then
    bif ((!(leI i.int j.int)) || (inB a.int r0.list.length)) then
      bif (bif (leI i.int j.int) then (!((D.nth (p_cmp_Less_int (D.nth r0.list j.int.toNat) (D.nth r0.list a.int.toNat)) 0).bool)) else false) then
        rec [a, i, D.i (IntKind.i64.wrap (j.int - (1 : Int))), D.n r0.list]
      else
        some (0, [j, D.n r0.list])
    else
      none
  else
    none
def c_slices_partitionOrdered_int_1 (K : Nat) : Cut := { sh := { sl := [(0, .own 22 0), (1, .d 3 true), (10, .d 3 true), (11, .d 3 true)], ob := [(0, .row 3 true)] }, kept := [0], outs := [(.exit 2, { sl := [(11, .d 3 true)], ob := [(0, .row 3 true)] })], f := fun ds => fixN (b_slices_partitionOrdered_int_1 K) K ds }
def b_slices_partitionOrdered_int_0 (K : Nat) (rec : List D → Option (Nat × List D)) (ds : List D) : Option (Nat × List D) :=
  let a := D.nth ds 0
  let i := D.nth ds 1
  let j := D.nth ds 2
  let r0 := D.nth ds 3
  bif ((!(leI i.int j.int)) || (inB i.int r0.list.length)) then
    bif ((!(leI i.int j.int)) || (inB a.int r0.list.length)) then
      bif (bif (leI i.int j.int) then (D.nth (p_cmp_Less_int (D.nth r0.list i.int.toNat) (D.nth r0.list a.int.toNat)) 0).bool else false) then
        rec [a, D.i (IntKind.i64.wrap (i.int + (1 : Int))), j, D.n r0.list]
      else
        some (0, [i, D.n r0.list])
    else
      none
  else
    none
def c_slices_partitionOrdered_int_0 (K : Nat) : Cut := { sh := { sl := [(0, .own 22 0), (1, .d 3 true), (10, .d 3 true), (11, .d 3 true)], ob := [(0, .row 3 true)] }, kept := [0], outs := [(.exit 0, { sl := [(10, .d 3 true)], ob := [(0, .row 3 true)] })], f := fun ds => fixN (b_slices_partitionOrdered_int_0 K) K ds }
def f_slices_partitionOrdered_int (K : Nat) (a b pivot r0 : D) : Option (List D) :=
  bif (inB pivot.int r0.list.length) then
    bif (inB a.int r0.list.length) then
      bif (inB a.int r0.list.length) then
        bif (inB pivot.int ((D.setNth r0.list a.int.toNat (D.nth r0.list pivot.int.toNat)).length)) then
          (fixN (b_slices_partitionOrdered_int_0 K) K [a, D.i (IntKind.i64.wrap (a.int + (1 : Int))), D.i (IntKind.i64.wrap (b.int - (1 : Int))), D.n (D.setNth (D.setNth r0.list a.int.toNat (D.nth r0.list pivot.int.toNat)) pivot.int.toNat (D.nth r0.list a.int.toNat))]).bind fun t1 =>
          (fixN (b_slices_partitionOrdered_int_1 K) K [a, D.nth t1.2 0, D.i (IntKind.i64.wrap (b.int - (1 : Int))), D.n ((D.nth t1.2 1).list)]).bind fun t2 =>
          bif (gtI ((D.nth t1.2 0).int) ((D.nth t2.2 0).int)) then
            bif (inB a.int (((D.nth t2.2 1).list).length)) then
              bif (inB ((D.nth t2.2 0).int) (((D.nth t2.2 1).list).length)) then
                bif (inB ((D.nth t2.2 0).int) (((D.nth t2.2 1).list).length)) then
                  bif (inB a.int ((D.setNth ((D.nth t2.2 1).list) (((D.nth t2.2 0).int).toNat) (D.nth ((D.nth t2.2 1).list) a.int.toNat)).length)) then
                    some [D.nth t2.2 0, D.b true, D.n (D.setNth (D.setNth ((D.nth t2.2 1).list) (((D.nth t2.2 0).int).toNat) (D.nth ((D.nth t2.2 1).list) a.int.toNat)) a.int.toNat (D.nth ((D.nth t2.2 1).list) (((D.nth t2.2 0).int).toNat)))]
                  else
                    none
                else
                  none
              else
                none
            else
              none
          else
            bif (inB ((D.nth t2.2 0).int) (((D.nth t2.2 1).list).length)) then
              bif (inB ((D.nth t1.2 0).int) (((D.nth t2.2 1).list).length)) then
                bif (inB ((D.nth t1.2 0).int) (((D.nth t2.2 1).list).length)) then
                  bif (inB ((D.nth t2.2 0).int) ((D.setNth ((D.nth t2.2 1).list) (((D.nth t1.2 0).int).toNat) (D.nth ((D.nth t2.2 1).list) (((D.nth t2.2 0).int).toNat))).length)) then
                    (fixN (b_slices_partitionOrdered_int_2 K) K [a, D.i (IntKind.i64.wrap (((D.nth t1.2 0).int) + (1 : Int))), D.i (IntKind.i64.wrap (((D.nth t2.2 0).int) - (1 : Int))), D.n (D.setNth (D.setNth ((D.nth t2.2 1).list) (((D.nth t1.2 0).int).toNat) (D.nth ((D.nth t2.2 1).list) (((D.nth t2.2 0).int).toNat))) (((D.nth t2.2 0).int).toNat) (D.nth ((D.nth t2.2 1).list) (((D.nth t1.2 0).int).toNat)))]).bind fun t3 =>
                    bif (inB a.int (((D.nth t3.2 1).list).length)) then
                      bif (inB ((D.nth t3.2 0).int) (((D.nth t3.2 1).list).length)) then
                        bif (inB ((D.nth t3.2 0).int) (((D.nth t3.2 1).list).length)) then
                          bif (inB a.int ((D.setNth ((D.nth t3.2 1).list) (((D.nth t3.2 0).int).toNat) (D.nth ((D.nth t3.2 1).list) a.int.toNat)).length)) then
                            some [D.nth t3.2 0, D.b false, D.n (D.setNth (D.setNth ((D.nth t3.2 1).list) (((D.nth t3.2 0).int).toNat) (D.nth ((D.nth t3.2 1).list) a.int.toNat)) a.int.toNat (D.nth ((D.nth t3.2 1).list) (((D.nth t3.2 0).int).toNat)))]
                          else
                            none
                        else
                          none
                      else
                        none
                    else
                      none
                  else
                    none
                else
                  none
              else
                none
            else
              none
        else
          none
      else
        none
    else
      none
  else
    none
def e_slices_partitionOrdered_int (K : Nat) : Entry := { n := 4, sh := { sl := [(0, .own 22 0), (1, .d 3 false), (2, .d 3 false), (3, .d 3 false)], ob := [(0, .row 3 true)] }, kept := [0], rs := [{ sl := [(0, .tup [.d 3 true, .d 4 true])], ob := [(0, .row 3 true)] }], f := fun ds => f_slices_partitionOrdered_int K (D.nth ds 0) (D.nth ds 1) (D.nth ds 2) (D.nth ds 3), tot := none }
def T_slices_partitionOrdered_int (K : Nat) : Tbl := { T0 with ents := entsOf [(170, e_cmp_Less_int K)], cuts := lk [(0, c_slices_partitionOrdered_int_0 K), (1, c_slices_partitionOrdered_int_1 K), (2, c_slices_partitionOrdered_int_2 K), (3, c_slices_partitionOrdered_int_3 K), (4, c_slices_partitionOrdered_int_4 K)] }
theorem q_slices_partitionOrdered_int_4 (K : Nat) (rec : List D → Option (Nat × List D)) (ds : List D) : evLoop (T_slices_partitionOrdered_int K) 168 (sub (codeOf Try.f172) [1, 1, 1, 1, 1, 1, 1, 1, 1, 0, 0, 0, 0, 1, 0, 0, 0]) .go (c_slices_partitionOrdered_int_4 K) rec ds = b_slices_partitionOrdered_int_4 K rec ds := by kernel_rfl
theorem k_slices_partitionOrdered_int_4 (K : Nat) : CutOK Try.prog (T_slices_partitionOrdered_int K) 168 (sub (codeOf Try.f172) [1, 1, 1, 1, 1, 1, 1, 1, 1, 0, 0, 0, 0, 1, 0, 0]) (c_slices_partitionOrdered_int_4 K) :=
  loop_thm (T := T_slices_partitionOrdered_int K) (hT_of hT0 rfl rfl rfl) (hes_ok (T0 := T0) (T := T_slices_partitionOrdered_int K) rfl rfl (⟨ok_cmp_Less_int K, trivial⟩ : FAll Try.prog T0 [(170, e_cmp_Less_int K)])) (by kernel_rfl) rfl rfl rfl (cutsOK_none (by rfl)) rfl (q_slices_partitionOrdered_int_4 K)
theorem q_slices_partitionOrdered_int_3 (K : Nat) (rec : List D → Option (Nat × List D)) (ds : List D) : evLoop (T_slices_partitionOrdered_int K) 168 (sub (codeOf Try.f172) [1, 1, 1, 1, 1, 1, 1, 1, 1, 0, 0, 0, 0, 0, 0, 0]) .go (c_slices_partitionOrdered_int_3 K) rec ds = b_slices_partitionOrdered_int_3 K rec ds := by kernel_rfl
theorem k_slices_partitionOrdered_int_3 (K : Nat) : CutOK Try.prog (T_slices_partitionOrdered_int K) 168 (sub (codeOf Try.f172) [1, 1, 1, 1, 1, 1, 1, 1, 1, 0, 0, 0, 0, 0, 0]) (c_slices_partitionOrdered_int_3 K) :=
  loop_thm (T := T_slices_partitionOrdered_int K) (hT_of hT0 rfl rfl rfl) (hes_ok (T0 := T0) (T := T_slices_partitionOrdered_int K) rfl rfl (⟨ok_cmp_Less_int K, trivial⟩ : FAll Try.prog T0 [(170, e_cmp_Less_int K)])) (by kernel_rfl) rfl rfl rfl (cutsOK_none (by rfl)) rfl (q_slices_partitionOrdered_int_3 K)
theorem q_slices_partitionOrdered_int_2 (K : Nat) (rec : List D → Option (Nat × List D)) (ds : List D) : evLoop (T_slices_partitionOrdered_int K) 168 (sub (codeOf Try.f172) [1, 1, 1, 1, 1, 1, 1, 1, 1, 0, 0, 0]) (.blk (.seq (.blk (.cut 3)) (.seq (.blk (.cut 4)) .go))) (c_slices_partitionOrdered_int_2 K) rec ds = b_slices_partitionOrdered_int_2 K rec ds := by kernel_rfl
theorem k_slices_partitionOrdered_int_2 (K : Nat) : CutOK Try.prog (T_slices_partitionOrdered_int K) 168 (sub (codeOf Try.f172) [1, 1, 1, 1, 1, 1, 1, 1, 1, 0, 0]) (c_slices_partitionOrdered_int_2 K) :=
  loop_thm (T := T_slices_partitionOrdered_int K) (hT_of hT0 rfl rfl rfl) (hes_ok (T0 := T0) (T := T_slices_partitionOrdered_int K) rfl rfl (⟨ok_cmp_Less_int K, trivial⟩ : FAll Try.prog T0 [(170, e_cmp_Less_int K)])) (by kernel_rfl) rfl rfl rfl (cutsOK_list (l := [(3, sub (codeOf Try.f172) [1, 1, 1, 1, 1, 1, 1, 1, 1, 0, 0, 0, 0, 0, 0]), (4, sub (codeOf Try.f172) [1, 1, 1, 1, 1, 1, 1, 1, 1, 0, 0, 0, 0, 1, 0, 0])]) (by kernel_rfl) ⟨cut_one (u := c_slices_partitionOrdered_int_3 K) rfl (k_slices_partitionOrdered_int_3 K), cut_one (u := c_slices_partitionOrdered_int_4 K) rfl (k_slices_partitionOrdered_int_4 K), trivial⟩) rfl (q_slices_partitionOrdered_int_2 K)
theorem q_slices_partitionOrdered_int_1 (K : Nat) (rec : List D → Option (Nat × List D)) (ds : List D) : evLoop (T_slices_partitionOrdered_int K) 168 (sub (codeOf Try.f172) [1, 1, 1, 1, 0, 0, 0]) .go (c_slices_partitionOrdered_int_1 K) rec ds = b_slices_partitionOrdered_int_1 K rec ds := by kernel_rfl
theorem k_slices_partitionOrdered_int_1 (K : Nat) : CutOK Try.prog (T_slices_partitionOrdered_int K) 168 (sub (codeOf Try.f172) [1, 1, 1, 1, 0, 0]) (c_slices_partitionOrdered_int_1 K) :=
  loop_thm (T := T_slices_partitionOrdered_int K) (hT_of hT0 rfl rfl rfl) (hes_ok (T0 := T0) (T := T_slices_partitionOrdered_int K) rfl rfl (⟨ok_cmp_Less_int K, trivial⟩ : FAll Try.prog T0 [(170, e_cmp_Less_int K)])) (by kernel_rfl) rfl rfl rfl (cutsOK_none (by rfl)) rfl (q_slices_partitionOrdered_int_1 K)
theorem q_slices_partitionOrdered_int_0 (K : Nat) (rec : List D → Option (Nat × List D)) (ds : List D) : evLoop (T_slices_partitionOrdered_int K) 168 (sub (codeOf Try.f172) [1, 1, 1, 0, 0, 0]) .go (c_slices_partitionOrdered_int_0 K) rec ds = b_slices_partitionOrdered_int_0 K rec ds := by kernel_rfl
theorem k_slices_partitionOrdered_int_0 (K : Nat) : CutOK Try.prog (T_slices_partitionOrdered_int K) 168 (sub (codeOf Try.f172) [1, 1, 1, 0, 0]) (c_slices_partitionOrdered_int_0 K) :=
  loop_thm (T := T_slices_partitionOrdered_int K) (hT_of hT0 rfl rfl rfl) (hes_ok (T0 := T0) (T := T_slices_partitionOrdered_int K) rfl rfl (⟨ok_cmp_Less_int K, trivial⟩ : FAll Try.prog T0 [(170, e_cmp_Less_int K)])) (by kernel_rfl) rfl rfl rfl (cutsOK_none (by rfl)) rfl (q_slices_partitionOrdered_int_0 K)
theorem q_slices_partitionOrdered_int (K : Nat) (ds : List D) : evFn (T_slices_partitionOrdered_int K) Try.f172 (.seq .go (.seq .go (.seq .go (.seq (.blk (.cut 0)) (.seq (.blk (.cut 1)) (.seq .go (.seq .go (.seq .go (.seq .go (.seq (.blk (.cut 2)) .go)))))))))) (e_slices_partitionOrdered_int K) ds = (e_slices_partitionOrdered_int K).f ds := by kernel_rfl
theorem ok_slices_partitionOrdered_int (K : Nat) : FnOK Try.prog T0 172 (e_slices_partitionOrdered_int K) :=
  fn_thm (T0 := T0) (T := T_slices_partitionOrdered_int K) rfl (hT_of hT0 rfl rfl rfl) (hes_ok (T0 := T0) (T := T_slices_partitionOrdered_int K) rfl rfl (⟨ok_cmp_Less_int K, trivial⟩ : FAll Try.prog T0 [(170, e_cmp_Less_int K)])) Try.func172 (by decide) rfl (Nat.le_of_ble_eq_true rfl) rfl rfl rfl (tot_none rfl) (cutsOK_list (l := [(0, sub (codeOf Try.f172) [1, 1, 1, 0, 0]), (1, sub (codeOf Try.f172) [1, 1, 1, 1, 0, 0]), (2, sub (codeOf Try.f172) [1, 1, 1, 1, 1, 1, 1, 1, 1, 0, 0])]) (by kernel_rfl) ⟨cut_one (u := c_slices_partitionOrdered_int_0 K) rfl (k_slices_partitionOrdered_int_0 K), cut_one (u := c_slices_partitionOrdered_int_1 K) rfl (k_slices_partitionOrdered_int_1 K), cut_one (u := c_slices_partitionOrdered_int_2 K) rfl (k_slices_partitionOrdered_int_2 K), trivial⟩) (q_slices_partitionOrdered_int K)
/-! ### 153 slices.pdqsortOrdered[int] -/
def b_slices_pdqsortOrdered_int_3 (K : Nat) (rc : List D → Option (List D)) (ds : List D) : Option (Nat × List D) :=
  let a := D.nth ds 0
  let b := D.nth ds 1
  let s68 := D.nth ds 2
  let r0 := D.nth ds 3
  bif s68.bool then
    (f_slices_partialInsertionSortOrdered_int K a b (D.n r0.list)).bind fun t6 =>
    bif (D.nth t6 0).bool then
      some (0, [D.n ((D.nth t6 1).list)])
    else
      some (1, [D.n ((D.nth t6 1).list)])
  else
    some (1, [D.n r0.list])
def b_slices_pdqsortOrdered_int_2 (K : Nat) (rc : List D → Option (List D)) (ds : List D) : Option (Nat × List D) :=
  let a := D.nth ds 0
  let b := D.nth ds 1
  let pivot := D.nth ds 2
  let hint := D.nth ds 3
  let s50 := D.nth ds 4
  let r0 := D.nth ds 5
  bif s50.bool then
    (f_slices_reverseRangeOrdered_int K a b (D.n r0.list)).bind fun t5 =>
    some (0, [D.i (IntKind.i64.wrap ((IntKind.i64.wrap (b.int - (1 : Int))) - (IntKind.i64.wrap (pivot.int - a.int)))), D.i 1, D.n ((D.nth t5 0).list)])
  else
    some (0, [pivot, hint, D.n r0.list])
def b_slices_pdqsortOrdered_int_1 (K : Nat) (rc : List D → Option (List D)) (ds : List D) : Option (Nat × List D) :=
  let a := D.nth ds 0
  let b := D.nth ds 1
  let limit := D.nth ds 2
  let s35 := D.nth ds 3
  let r0 := D.nth ds 4
  bif s35.bool then
    (f_slices_breakPatternsOrdered_int K a b (D.n r0.list)).bind fun t3 =>
    some (0, [D.i (IntKind.i64.wrap (limit.int - (1 : Int))), D.n ((D.nth t3 0).list)])
  else
    some (0, [limit, D.n r0.list])
def b_slices_pdqsortOrdered_int_0 (K : Nat) (rc : List D → Option (List D)) (rec : List D → Option (Nat × List D)) (ds : List D) : Option (Nat × List D) :=
  let a := D.nth ds 0
  let b := D.nth ds 1
  let limit := D.nth ds 2
  let wasBalanced := D.nth ds 3
  let wasPartitioned := D.nth ds 4
  let r0 := D.nth ds 5
  bif (leI (IntKind.i64.wrap (b.int - a.int)) 12) then
    (f_slices_insertionSortOrdered_int K a b (D.n r0.list)).bind fun t1 =>
    some (0, [D.n ((D.nth t1 0).list)])
  else
    bif (limit.int == (0 : Int)) then
      (f_slices_heapSortOrdered_int K a b (D.n r0.list)).bind fun t2 =>
      some (0, [D.n ((D.nth t2 0).list)])
    else
      (b_slices_pdqsortOrdered_int_1 K rc [a, b, limit, D.b (!wasBalanced.bool), D.n r0.list]).bind fun t3 =>
      (f_slices_choosePivotOrdered_int K (D.n ((D.nth t3.2 1).list)) a b).bind fun t4 =>
      (b_slices_pdqsortOrdered_int_2 K rc [a, b, D.nth t4 0, D.nth t4 1, D.b (((D.nth t4 1).int) == (2 : Int)), D.n ((D.nth t3.2 1).list)]).bind fun t5 =>
      (b_slices_pdqsortOrdered_int_3 K rc [a, b, D.b (bif (bif wasBalanced.bool then wasPartitioned.bool else false) then (((D.nth t5.2 1).int) == (1 : Int)) else false), D.n ((D.nth t5.2 2).list)]).bind fun t6 =>
      bif (t6.1.beq 0) then
        some (0, [D.n ((D.nth t6.2 0).list)])
      else
        bif ((!(gtI a.int 0)) || (inB (IntKind.i64.wrap (a.int - (1 : Int))) (((D.nth t6.2 0).list).length))) then
          bif ((!(gtI a.int 0)) || (inB ((D.nth t5.2 0).int) (((D.nth t6.2 0).list).length))) then
            bif (bif (gtI a.int 0) then (!((D.nth (p_cmp_Less_int (D.nth ((D.nth t6.2 0).list) ((IntKind.i64.wrap (a.int - (1 : Int))).toNat)) (D.nth ((D.nth t6.2 0).list) (((D.nth t5.2 0).int).toNat))) 0).bool)) else false) then
              (f_slices_partitionEqualOrdered_int K a b (D.nth t5.2 0) (D.n ((D.nth t6.2 0).list))).bind fun t7 =>
              rec [D.nth t7 0, b, D.nth t3.2 0, wasBalanced, wasPartitioned, D.n ((D.nth t7 1).list)]
            else
              (f_slices_partitionOrdered_int K a b (D.nth t5.2 0) (D.n ((D.nth t6.2 0).list))).bind fun t8 =>
              bif (ltI (IntKind.i64.wrap (((D.nth t8 0).int) - a.int)) (IntKind.i64.wrap (b.int - ((D.nth t8 0).int)))) then
                (rc [a, D.nth t8 0, D.nth t3.2 0, D.n ((D.nth t8 2).list)]).bind fun t9 =>
                rec [D.i (IntKind.i64.wrap (((D.nth t8 0).int) + (1 : Int))), b, D.nth t3.2 0, D.b (geI (IntKind.i64.wrap (((D.nth t8 0).int) - a.int)) (IntKind.i64.wrap (Int.tdiv (IntKind.i64.wrap (b.int - a.int)) (8 : Int)))), D.nth t8 1, D.n ((D.nth t9 0).list)]
              else
                (rc [D.i (IntKind.i64.wrap (((D.nth t8 0).int) + (1 : Int))), b, D.nth t3.2 0, D.n ((D.nth t8 2).list)]).bind fun t10 =>
                rec [a, D.nth t8 0, D.nth t3.2 0, D.b (geI (IntKind.i64.wrap (b.int - ((D.nth t8 0).int))) (IntKind.i64.wrap (Int.tdiv (IntKind.i64.wrap (b.int - a.int)) (8 : Int)))), D.nth t8 1, D.n ((D.nth t10 0).list)]
          else
            none
        else
          none
def f_slices_pdqsortOrdered_int (K : Nat) (rc : List D → Option (List D)) (a b limit r0 : D) : Option (List D) :=
  (fixN (b_slices_pdqsortOrdered_int_0 K rc) K [a, b, limit, D.b true, D.b true, D.n r0.list]).bind fun t1 =>
  some [D.n ((D.nth t1.2 0).list)]
def F_slices_pdqsortOrdered_int (K : Nat) (rc : List D → Option (List D)) (ds : List D) : Option (List D) := f_slices_pdqsortOrdered_int K rc (D.nth ds 0) (D.nth ds 1) (D.nth ds 2) (D.nth ds 3)
def c_slices_pdqsortOrdered_int_3 (K n : Nat) : Cut := { sh := { sl := [(0, .own 22 0), (1, .d 3 true), (2, .d 3 true), (68, .d 4 true)], ob := [(0, .row 3 true)] }, kept := [0], outs := [(.ret, { sl := [], ob := [(0, .row 3 true)] }), (.normal, { sl := [], ob := [(0, .row 3 true)] })], f := b_slices_pdqsortOrdered_int_3 K (fixF (F_slices_pdqsortOrdered_int K) n) }
def c_slices_pdqsortOrdered_int_2 (K n : Nat) : Cut := { sh := { sl := [(0, .own 22 0), (1, .d 3 true), (2, .d 3 true), (11, .d 3 true), (12, .d 219 true), (50, .d 4 true)], ob := [(0, .row 3 true)] }, kept := [0], outs := [(.normal, { sl := [(11, .d 3 true), (12, .d 219 true)], ob := [(0, .row 3 true)] })], f := b_slices_pdqsortOrdered_int_2 K (fixF (F_slices_pdqsortOrdered_int K) n) }
def c_slices_pdqsortOrdered_int_1 (K n : Nat) : Cut := { sh := { sl := [(0, .own 22 0), (1, .d 3 true), (2, .d 3 true), (3, .d 3 true), (35, .d 4 true)], ob := [(0, .row 3 true)] }, kept := [0], outs := [(.normal, { sl := [(3, .d 3 true)], ob := [(0, .row 3 true)] })], f := b_slices_pdqsortOrdered_int_1 K (fixF (F_slices_pdqsortOrdered_int K) n) }
def c_slices_pdqsortOrdered_int_0 (K n : Nat) : Cut := { sh := { sl := [(0, .own 22 0), (1, .d 3 true), (2, .d 3 true), (3, .d 3 true), (8, .d 4 true), (9, .d 4 true)], ob := [(0, .row 3 true)] }, kept := [0], outs := [(.ret, { sl := [], ob := [(0, .row 3 true)] })], f := fun ds => fixN (b_slices_pdqsortOrdered_int_0 K (fixF (F_slices_pdqsortOrdered_int K) n)) K ds }
def eR_slices_pdqsortOrdered_int (K n : Nat) : Entry := { n := 4, sh := { sl := [(0, .own 22 0), (1, .d 3 false), (2, .d 3 false), (3, .d 3 false)], ob := [(0, .row 3 true)] }, kept := [0], rs := [{ sl := [(0, .tup [])], ob := [(0, .row 3 true)] }], f := fixF (F_slices_pdqsortOrdered_int K) n, tot := none }
def e_slices_pdqsortOrdered_int (K : Nat) : Entry := eR_slices_pdqsortOrdered_int K K
def T_slices_pdqsortOrdered_int (K n : Nat) : Tbl := { T0 with ents := entsOf [(164, e_slices_insertionSortOrdered_int K), (165, e_slices_heapSortOrdered_int K), (166, e_slices_breakPatternsOrdered_int K), (167, e_slices_choosePivotOrdered_int K), (168, e_slices_reverseRangeOrdered_int K), (169, e_slices_partialInsertionSortOrdered_int K), (170, e_cmp_Less_int K), (171, e_slices_partitionEqualOrdered_int K), (172, e_slices_partitionOrdered_int K), (153, eR_slices_pdqsortOrdered_int K n)], cuts := lk [(0, c_slices_pdqsortOrdered_int_0 K n), (1, c_slices_pdqsortOrdered_int_1 K n), (2, c_slices_pdqsortOrdered_int_2 K n), (3, c_slices_pdqsortOrdered_int_3 K n)] }
theorem q_slices_pdqsortOrdered_int_3 (K n : Nat) (ds : List D) : evPiece (T_slices_pdqsortOrdered_int K n) 134 (sub (codeOf Try.f153) [1, 1, 0, 0, 0, 1, 1, 1, 1, 1, 1, 0, 1]) .go (c_slices_pdqsortOrdered_int_3 K n) ds = b_slices_pdqsortOrdered_int_3 K (fixF (F_slices_pdqsortOrdered_int K) n) ds := by kernel_rfl
theorem k_slices_pdqsortOrdered_int_3 (K n : Nat) (hr : FnOK Try.prog T0 153 (eR_slices_pdqsortOrdered_int K n)) : CutOK Try.prog (T_slices_pdqsortOrdered_int K n) 134 (sub (codeOf Try.f153) [1, 1, 0, 0, 0, 1, 1, 1, 1, 1, 1, 0, 1]) (c_slices_pdqsortOrdered_int_3 K n) :=
  piece_thm (T := T_slices_pdqsortOrdered_int K n) (hT_of hT0 rfl rfl rfl) (hes_ok (T0 := T0) (T := T_slices_pdqsortOrdered_int K n) rfl rfl (⟨ok_slices_insertionSortOrdered_int K, ok_slices_heapSortOrdered_int K, ok_slices_breakPatternsOrdered_int K, ok_slices_choosePivotOrdered_int K, ok_slices_reverseRangeOrdered_int K, ok_slices_partialInsertionSortOrdered_int K, ok_cmp_Less_int K, ok_slices_partitionEqualOrdered_int K, ok_slices_partitionOrdered_int K, hr, trivial⟩ : FAll Try.prog T0 [(164, e_slices_insertionSortOrdered_int K), (165, e_slices_heapSortOrdered_int K), (166, e_slices_breakPatternsOrdered_int K), (167, e_slices_choosePivotOrdered_int K), (168, e_slices_reverseRangeOrdered_int K), (169, e_slices_partialInsertionSortOrdered_int K), (170, e_cmp_Less_int K), (171, e_slices_partitionEqualOrdered_int K), (172, e_slices_partitionOrdered_int K), (153, eR_slices_pdqsortOrdered_int K n)])) rfl rfl rfl (cutsOK_none (by rfl)) (q_slices_pdqsortOrdered_int_3 K n)
theorem q_slices_pdqsortOrdered_int_2 (K n : Nat) (ds : List D) : evPiece (T_slices_pdqsortOrdered_int K n) 134 (sub (codeOf Try.f153) [1, 1, 0, 0, 0, 1, 1, 1, 1, 1, 0, 1]) .go (c_slices_pdqsortOrdered_int_2 K n) ds = b_slices_pdqsortOrdered_int_2 K (fixF (F_slices_pdqsortOrdered_int K) n) ds := by kernel_rfl
theorem k_slices_pdqsortOrdered_int_2 (K n : Nat) (hr : FnOK Try.prog T0 153 (eR_slices_pdqsortOrdered_int K n)) : CutOK Try.prog (T_slices_pdqsortOrdered_int K n) 134 (sub (codeOf Try.f153) [1, 1, 0, 0, 0, 1, 1, 1, 1, 1, 0, 1]) (c_slices_pdqsortOrdered_int_2 K n) :=
  piece_thm (T := T_slices_pdqsortOrdered_int K n) (hT_of hT0 rfl rfl rfl) (hes_ok (T0 := T0) (T := T_slices_pdqsortOrdered_int K n) rfl rfl (⟨ok_slices_insertionSortOrdered_int K, ok_slices_heapSortOrdered_int K, ok_slices_breakPatternsOrdered_int K, ok_slices_choosePivotOrdered_int K, ok_slices_reverseRangeOrdered_int K, ok_slices_partialInsertionSortOrdered_int K, ok_cmp_Less_int K, ok_slices_partitionEqualOrdered_int K, ok_slices_partitionOrdered_int K, hr, trivial⟩ : FAll Try.prog T0 [(164, e_slices_insertionSortOrdered_int K), (165, e_slices_heapSortOrdered_int K), (166, e_slices_breakPatternsOrdered_int K), (167, e_slices_choosePivotOrdered_int K), (168, e_slices_reverseRangeOrdered_int K), (169, e_slices_partialInsertionSortOrdered_int K), (170, e_cmp_Less_int K), (171, e_slices_partitionEqualOrdered_int K), (172, e_slices_partitionOrdered_int K), (153, eR_slices_pdqsortOrdered_int K n)])) rfl rfl rfl (cutsOK_none (by rfl)) (q_slices_pdqsortOrdered_int_2 K n)
theorem q_slices_pdqsortOrdered_int_1 (K n : Nat) (ds : List D) : evPiece (T_slices_pdqsortOrdered_int K n) 134 (sub (codeOf Try.f153) [1, 1, 0, 0, 0, 1, 1, 1, 0, 1]) .go (c_slices_pdqsortOrdered_int_1 K n) ds = b_slices_pdqsortOrdered_int_1 K (fixF (F_slices_pdqsortOrdered_int K) n) ds := by kernel_rfl
theorem k_slices_pdqsortOrdered_int_1 (K n : Nat) (hr : FnOK Try.prog T0 153 (eR_slices_pdqsortOrdered_int K n)) : CutOK Try.prog (T_slices_pdqsortOrdered_int K n) 134 (sub (codeOf Try.f153) [1, 1, 0, 0, 0, 1, 1, 1, 0, 1]) (c_slices_pdqsortOrdered_int_1 K n) :=
  piece_thm (T := T_slices_pdqsortOrdered_int K n) (hT_of hT0 rfl rfl rfl) (hes_ok (T0 := T0) (T := T_slices_pdqsortOrdered_int K n) rfl rfl (⟨ok_slices_insertionSortOrdered_int K, ok_slices_heapSortOrdered_int K, ok_slices_breakPatternsOrdered_int K, ok_slices_choosePivotOrdered_int K, ok_slices_reverseRangeOrdered_int K, ok_slices_partialInsertionSortOrdered_int K, ok_cmp_Less_int K, ok_slices_partitionEqualOrdered_int K, ok_slices_partitionOrdered_int K, hr, trivial⟩ : FAll Try.prog T0 [(164, e_slices_insertionSortOrdered_int K), (165, e_slices_heapSortOrdered_int K), (166, e_slices_breakPatternsOrdered_int K), (167, e_slices_choosePivotOrdered_int K), (168, e_slices_reverseRangeOrdered_int K), (169, e_slices_partialInsertionSortOrdered_int K), (170, e_cmp_Less_int K), (171, e_slices_partitionEqualOrdered_int K), (172, e_slices_partitionOrdered_int K), (153, eR_slices_pdqsortOrdered_int K n)])) rfl rfl rfl (cutsOK_none (by rfl)) (q_slices_pdqsortOrdered_int_1 K n)
theorem q_slices_pdqsortOrdered_int_0 (K n : Nat) (rec : List D → Option (Nat × List D)) (ds : List D) : evLoop (T_slices_pdqsortOrdered_int K n) 134 (sub (codeOf Try.f153) [1, 1, 0, 0]) (.blk (.seq .go (.seq .go (.seq .go (.seq (.seq .go (.cut 1)) (.seq .go (.seq (.seq .go (.cut 2)) (.seq (.seq .go (.cut 3)) .go)))))))) (c_slices_pdqsortOrdered_int_0 K n) rec ds = b_slices_pdqsortOrdered_int_0 K (fixF (F_slices_pdqsortOrdered_int K) n) rec ds := by kernel_rfl
theorem k_slices_pdqsortOrdered_int_0 (K n : Nat) (hr : FnOK Try.prog T0 153 (eR_slices_pdqsortOrdered_int K n)) : CutOK Try.prog (T_slices_pdqsortOrdered_int K n) 134 (sub (codeOf Try.f153) [1, 1, 0]) (c_slices_pdqsortOrdered_int_0 K n) :=
  loop_thm (T := T_slices_pdqsortOrdered_int K n) (hT_of hT0 rfl rfl rfl) (hes_ok (T0 := T0) (T := T_slices_pdqsortOrdered_int K n) rfl rfl (⟨ok_slices_insertionSortOrdered_int K, ok_slices_heapSortOrdered_int K, ok_slices_breakPatternsOrdered_int K, ok_slices_choosePivotOrdered_int K, ok_slices_reverseRangeOrdered_int K, ok_slices_partialInsertionSortOrdered_int K, ok_cmp_Less_int K, ok_slices_partitionEqualOrdered_int K, ok_slices_partitionOrdered_int K, hr, trivial⟩ : FAll Try.prog T0 [(164, e_slices_insertionSortOrdered_int K), (165, e_slices_heapSortOrdered_int K), (166, e_slices_breakPatternsOrdered_int K), (167, e_slices_choosePivotOrdered_int K), (168, e_slices_reverseRangeOrdered_int K), (169, e_slices_partialInsertionSortOrdered_int K), (170, e_cmp_Less_int K), (171, e_slices_partitionEqualOrdered_int K), (172, e_slices_partitionOrdered_int K), (153, eR_slices_pdqsortOrdered_int K n)])) (by kernel_rfl) rfl rfl rfl (cutsOK_list (l := [(1, sub (codeOf Try.f153) [1, 1, 0, 0, 0, 1, 1, 1, 0, 1]), (2, sub (codeOf Try.f153) [1, 1, 0, 0, 0, 1, 1, 1, 1, 1, 0, 1]), (3, sub (codeOf Try.f153) [1, 1, 0, 0, 0, 1, 1, 1, 1, 1, 1, 0, 1])]) (by kernel_rfl) ⟨cut_one (u := c_slices_pdqsortOrdered_int_1 K n) rfl (k_slices_pdqsortOrdered_int_1 K n hr), cut_one (u := c_slices_pdqsortOrdered_int_2 K n) rfl (k_slices_pdqsortOrdered_int_2 K n hr), cut_one (u := c_slices_pdqsortOrdered_int_3 K n) rfl (k_slices_pdqsortOrdered_int_3 K n hr), trivial⟩) rfl (q_slices_pdqsortOrdered_int_0 K n)
theorem q_slices_pdqsortOrdered_int (K n : Nat) (ds : List D) : evFn (T_slices_pdqsortOrdered_int K n) Try.f153 (.seq .go (.seq .go (.blk (.cut 0)))) (eR_slices_pdqsortOrdered_int K (n + 1)) ds = F_slices_pdqsortOrdered_int K (fixF (F_slices_pdqsortOrdered_int K) n) ds := by kernel_rfl
theorem okR_slices_pdqsortOrdered_int (K : Nat) : ∀ n, FnOK Try.prog T0 153 (eR_slices_pdqsortOrdered_int K n)
  | 0 => rec0 rfl rfl rfl fun _ => rfl
  | n + 1 => by
    have hr := okR_slices_pdqsortOrdered_int K n
    exact fn_thm (T0 := T0) (T := T_slices_pdqsortOrdered_int K n) (e := eR_slices_pdqsortOrdered_int K (n + 1)) rfl (hT_of hT0 rfl rfl rfl) (hes_ok (T0 := T0) (T := T_slices_pdqsortOrdered_int K n) rfl rfl (⟨ok_slices_insertionSortOrdered_int K, ok_slices_heapSortOrdered_int K, ok_slices_breakPatternsOrdered_int K, ok_slices_choosePivotOrdered_int K, ok_slices_reverseRangeOrdered_int K, ok_slices_partialInsertionSortOrdered_int K, ok_cmp_Less_int K, ok_slices_partitionEqualOrdered_int K, ok_slices_partitionOrdered_int K, hr, trivial⟩ : FAll Try.prog T0 [(164, e_slices_insertionSortOrdered_int K), (165, e_slices_heapSortOrdered_int K), (166, e_slices_breakPatternsOrdered_int K), (167, e_slices_choosePivotOrdered_int K), (168, e_slices_reverseRangeOrdered_int K), (169, e_slices_partialInsertionSortOrdered_int K), (170, e_cmp_Less_int K), (171, e_slices_partitionEqualOrdered_int K), (172, e_slices_partitionOrdered_int K), (153, eR_slices_pdqsortOrdered_int K n)])) Try.func153 (by decide) rfl (Nat.le_of_ble_eq_true rfl) rfl rfl rfl (tot_none rfl) (cutsOK_list (l := [(0, sub (codeOf Try.f153) [1, 1, 0])]) (by kernel_rfl) ⟨cut_one (u := c_slices_pdqsortOrdered_int_0 K n) rfl (k_slices_pdqsortOrdered_int_0 K n hr), trivial⟩) (q_slices_pdqsortOrdered_int K n)
theorem ok_slices_pdqsortOrdered_int (K : Nat) : FnOK Try.prog T0 153 (e_slices_pdqsortOrdered_int K) := okR_slices_pdqsortOrdered_int K K
/-! ### 124 slices.Sort[[]int,int] -/
def f_slices_Sort_int (K : Nat) (r0 : D) : Option (List D) :=
  (f_bits_Len K (D.i (IntKind.u64.wrap (r0.list.length : Int)))).bind fun t1 =>
  (fixF (F_slices_pdqsortOrdered_int K) K [D.i 0, D.i (r0.list.length : Int), D.nth t1 0, D.n r0.list]).bind fun t2 =>
  some [D.n ((D.nth t2 0).list)]
def e_slices_Sort_int (K : Nat) : Entry := { n := 1, sh := { sl := [(0, .own 22 0)], ob := [(0, .row 3 true)] }, kept := [0], rs := [{ sl := [(0, .tup [])], ob := [(0, .row 3 true)] }], f := fun ds => f_slices_Sort_int K (D.nth ds 0), tot := none }
def T_slices_Sort_int (K : Nat) : Tbl := { T0 with ents := entsOf [(154, e_bits_Len K), (153, e_slices_pdqsortOrdered_int K)], cuts := lk [] }
theorem q_slices_Sort_int (K : Nat) (ds : List D) : evFn (T_slices_Sort_int K) Try.f124 .go (e_slices_Sort_int K) ds = (e_slices_Sort_int K).f ds := by kernel_rfl
theorem ok_slices_Sort_int (K : Nat) : FnOK Try.prog T0 124 (e_slices_Sort_int K) :=
  fn_thm (T0 := T0) (T := T_slices_Sort_int K) rfl (hT_of hT0 rfl rfl rfl) (hes_ok (T0 := T0) (T := T_slices_Sort_int K) rfl rfl (⟨ok_bits_Len K, ok_slices_pdqsortOrdered_int K, trivial⟩ : FAll Try.prog T0 [(154, e_bits_Len K), (153, e_slices_pdqsortOrdered_int K)])) Try.func124 (by decide) rfl (Nat.le_of_ble_eq_true rfl) rfl rfl rfl (tot_none rfl) (cutsOK_none (by rfl)) (q_slices_Sort_int K)
/-! ### 67 gatewarden/upstream.Percentile -/
def f_upstream_Percentile (K : Nat) (l part : D) : Option (List D) :=
  bif ((l.list.length : Int) == (0 : Int)) then
    some [D.i 0, D.i 8]
  else
    bif (gtI (l.list.length : Int) 2000) then
      some [D.i 0, D.i 2]
    else
      bif (D.nth (p_kit_Outside part (D.i 1) (D.i 1000)) 0).bool then
        some [D.i 0, D.i 1]
      else
        (f_slices_Clone_int K l).bind fun t1 =>
        (f_slices_Sort_int K (D.n ((D.nth t1 0).list))).bind fun t2 =>
        bif (inB (IntKind.i64.wrap ((IntKind.i64.wrap (Int.tdiv (IntKind.i64.wrap ((IntKind.i64.wrap ((IntKind.i64.wrap (part.int * (((D.nth t2 0).list).length : Int))) + (1000 : Int))) - (1 : Int))) (1000 : Int))) - (1 : Int))) (((D.nth t2 0).list).length)) then
          some [D.nth ((D.nth t2 0).list) ((IntKind.i64.wrap ((IntKind.i64.wrap (Int.tdiv (IntKind.i64.wrap ((IntKind.i64.wrap ((IntKind.i64.wrap (part.int * (((D.nth t2 0).list).length : Int))) + (1000 : Int))) - (1 : Int))) (1000 : Int))) - (1 : Int))).toNat), D.i 0]
        else
          none
def e_upstream_Percentile (K : Nat) : Entry := { n := 2, sh := { sl := [(0, .d 22 false), (1, .d 3 false)], ob := [] }, kept := [], rs := [{ sl := [(0, .tup [.d 3 true, .d 30 true])], ob := [] }], f := fun ds => f_upstream_Percentile K (D.nth ds 0) (D.nth ds 1), tot := none }
def T_upstream_Percentile (K : Nat) : Tbl := { T0 with ents := entsOf [(78, e_kit_Outside K), (123, e_slices_Clone_int K), (124, e_slices_Sort_int K)], cuts := lk [] }
theorem q_upstream_Percentile (K : Nat) (ds : List D) : evFn (T_upstream_Percentile K) Try.f67 .go (e_upstream_Percentile K) ds = (e_upstream_Percentile K).f ds := by kernel_rfl
theorem ok_upstream_Percentile (K : Nat) : FnOK Try.prog T0 67 (e_upstream_Percentile K) :=
  fn_thm (T0 := T0) (T := T_upstream_Percentile K) rfl (hT_of hT0 rfl rfl rfl) (hes_ok (T0 := T0) (T := T_upstream_Percentile K) rfl rfl (⟨ok_kit_Outside K, ok_slices_Clone_int K, ok_slices_Sort_int K, trivial⟩ : FAll Try.prog T0 [(78, e_kit_Outside K), (123, e_slices_Clone_int K), (124, e_slices_Sort_int K)])) Try.func67 (by decide) rfl (Nat.le_of_ble_eq_true rfl) rfl rfl rfl (tot_none rfl) (cutsOK_none (by rfl)) (q_upstream_Percentile K)
/-! ### 125 gatewarden/upstream.doubled -/
def b_upstream_doubled_0 (K : Nat) (rec : List D → Option (Nat × List D)) (ds : List D) : Option (Nat × List D) :=
  let n := D.nth ds 0
  let most := D.nth ds 1
  let s7 := D.nth ds 2
  let s8 := D.nth ds 3
  bif (ltI s8.int s7.int) then
    bif (geI n.int most.int) then
      some (0, [n])
    else
      rec [D.i (IntKind.i64.wrap (n.int * (2 : Int))), most, s7, D.i (IntKind.i64.wrap (s8.int + (1 : Int)))]
  else
    some (0, [n])
def c_upstream_doubled_0 (K : Nat) : Cut := { sh := { sl := [(0, .d 3 true), (2, .d 3 true), (7, .d 3 true), (8, .d 3 true)], ob := [] }, kept := [], outs := [(.exit 0, { sl := [(0, .d 3 true)], ob := [] })], f := fun ds => fixN (b_upstream_doubled_0 K) K ds }
def f_upstream_doubled (K : Nat) (n times most : D) : Option (List D) :=
  (fixN (b_upstream_doubled_0 K) K [n, most, times, D.i 0]).bind fun t1 =>
  some [D.i (minI ((D.nth t1.2 0).int) most.int)]
def e_upstream_doubled (K : Nat) : Entry := { n := 3, sh := { sl := [(0, .d 3 false), (1, .d 3 false), (2, .d 3 false)], ob := [] }, kept := [], rs := [{ sl := [(0, .d 3 true)], ob := [] }], f := fun ds => f_upstream_doubled K (D.nth ds 0) (D.nth ds 1) (D.nth ds 2), tot := none }
def T_upstream_doubled (K : Nat) : Tbl := { T0 with ents := entsOf [], cuts := lk [(0, c_upstream_doubled_0 K)] }
theorem q_upstream_doubled_0 (K : Nat) (rec : List D → Option (Nat × List D)) (ds : List D) : evLoop (T_upstream_doubled K) 19 (sub (codeOf Try.f125) [1, 0, 1, 0, 0]) .go (c_upstream_doubled_0 K) rec ds = b_upstream_doubled_0 K rec ds := by kernel_rfl
theorem k_upstream_doubled_0 (K : Nat) : CutOK Try.prog (T_upstream_doubled K) 19 (sub (codeOf Try.f125) [1, 0, 1, 0]) (c_upstream_doubled_0 K) :=
  loop_thm (T := T_upstream_doubled K) (hT_of hT0 rfl rfl rfl) (hes_ok (T0 := T0) (T := T_upstream_doubled K) rfl rfl (trivial : FAll Try.prog T0 [])) (by kernel_rfl) rfl rfl rfl (cutsOK_none (by rfl)) rfl (q_upstream_doubled_0 K)
theorem q_upstream_doubled (K : Nat) (ds : List D) : evFn (T_upstream_doubled K) Try.f125 (.seq .go (.seq (.seq .go (.blk (.cut 0))) .go)) (e_upstream_doubled K) ds = (e_upstream_doubled K).f ds := by kernel_rfl
theorem ok_upstream_doubled (K : Nat) : FnOK Try.prog T0 125 (e_upstream_doubled K) :=
  fn_thm (T0 := T0) (T := T_upstream_doubled K) rfl (hT_of hT0 rfl rfl rfl) (hes_ok (T0 := T0) (T := T_upstream_doubled K) rfl rfl (trivial : FAll Try.prog T0 [])) Try.func125 (by decide) rfl (Nat.le_of_ble_eq_true rfl) rfl rfl rfl (tot_none rfl) (cutsOK_list (l := [(0, sub (codeOf Try.f125) [1, 0, 1, 0])]) (by kernel_rfl) ⟨cut_one (u := c_upstream_doubled_0 K) rfl (k_upstream_doubled_0 K), trivial⟩) (q_upstream_doubled K)
/-! ### 68 gatewarden/upstream.Backoff -/
def f_upstream_Backoff (K : Nat) (wait most vtry : D) : Option (List D) :=
  bif (bif (bif (D.nth (p_kit_Outside wait (D.i 0) most) 0).bool then true else (gtI most.int 3600000)) then true else (D.nth (p_kit_Outside vtry (D.i 2) (D.i 100)) 0).bool) then
    some [D.i 0, D.i 1]
  else
    (f_upstream_doubled K wait (D.i (IntKind.i64.wrap (vtry.int - (2 : Int)))) most).bind fun t1 =>
    some [D.nth t1 0, D.i 0]
def e_upstream_Backoff (K : Nat) : Entry := { n := 3, sh := { sl := [(0, .d 3 false), (1, .d 3 false), (2, .d 3 false)], ob := [] }, kept := [], rs := [{ sl := [(0, .tup [.d 3 true, .d 30 true])], ob := [] }], f := fun ds => f_upstream_Backoff K (D.nth ds 0) (D.nth ds 1) (D.nth ds 2), tot := none }
def T_upstream_Backoff (K : Nat) : Tbl := { T0 with ents := entsOf [(78, e_kit_Outside K), (125, e_upstream_doubled K)], cuts := lk [] }
theorem q_upstream_Backoff (K : Nat) (ds : List D) : evFn (T_upstream_Backoff K) Try.f68 .go (e_upstream_Backoff K) ds = (e_upstream_Backoff K).f ds := by kernel_rfl
theorem ok_upstream_Backoff (K : Nat) : FnOK Try.prog T0 68 (e_upstream_Backoff K) :=
  fn_thm (T0 := T0) (T := T_upstream_Backoff K) rfl (hT_of hT0 rfl rfl rfl) (hes_ok (T0 := T0) (T := T_upstream_Backoff K) rfl rfl (⟨ok_kit_Outside K, ok_upstream_doubled K, trivial⟩ : FAll Try.prog T0 [(78, e_kit_Outside K), (125, e_upstream_doubled K)])) Try.func68 (by decide) rfl (Nat.le_of_ble_eq_true rfl) rfl rfl rfl (tot_none rfl) (cutsOK_none (by rfl)) (q_upstream_Backoff K)
/-! ### 73 gatewarden/upstream.CheckBudget -/
def f_upstream_CheckBudget (K : Nat) (b : D) : Option (List D) :=
  bif (bif (bif (D.nth (p_kit_Outside (b.at' 0) (D.i 1) (D.i 3600000)) 0).bool then true else (D.nth (p_kit_Outside (b.at' 1) (D.i 0) (D.i 300)) 0).bool) then true else (D.nth (p_kit_Outside (b.at' 2) (D.i 0) (D.i 1000)) 0).bool) then
    some [D.i 1]
  else
    some [D.i 0]
def e_upstream_CheckBudget (K : Nat) : Entry := { n := 1, sh := { sl := [(0, .d 50 false)], ob := [] }, kept := [], rs := [{ sl := [(0, .d 30 true)], ob := [] }], f := fun ds => f_upstream_CheckBudget K (D.nth ds 0), tot := none }
def T_upstream_CheckBudget (K : Nat) : Tbl := { T0 with frz := fun s => memN [1] s, ents := entsOf [(78, e_kit_Outside K)], cuts := lk [] }
theorem q_upstream_CheckBudget (K : Nat) (ds : List D) : evFn (T_upstream_CheckBudget K) Try.f73 .go (e_upstream_CheckBudget K) ds = (e_upstream_CheckBudget K).f ds := by kernel_rfl
theorem ok_upstream_CheckBudget (K : Nat) : FnOK Try.prog T0 73 (e_upstream_CheckBudget K) :=
  fn_thm (T0 := T0) (T := T_upstream_CheckBudget K) rfl (hT_of hT0 rfl rfl rfl) (hes_ok (T0 := T0) (T := T_upstream_CheckBudget K) rfl rfl (⟨ok_kit_Outside K, trivial⟩ : FAll Try.prog T0 [(78, e_kit_Outside K)])) Try.func73 (by decide) rfl (Nat.le_of_ble_eq_true rfl) rfl rfl rfl (tot_none rfl) (cutsOK_none (by rfl)) (q_upstream_CheckBudget K)
/-! ### 127 slices.Grow[[]int,int] -/
def b_slices_Grow_int_0 (K : Nat) (ds : List D) : Option (Nat × List D) :=
  let s6 := D.nth ds 0
  bif s6.bool then
    none
  else
    some (0, [])
def c_slices_Grow_int_0 (K : Nat) : Cut := { sh := { sl := [(6, .d 4 true)], ob := [] }, kept := [], outs := [(.normal, { sl := [], ob := [] })], f := b_slices_Grow_int_0 K }
def f_slices_Grow_int (K : Nat) (n : D) : Option (List D) :=
  (b_slices_Grow_int_0 K [D.b (ltI n.int 0)]).bind fun t1 =>
  bif (gtI (IntKind.i64.wrap (n.int - (0 : Int))) 0) then
    bif ((leI 1 (IntKind.i64.wrap (n.int - (0 : Int)))) && (lim ((IntKind.i64.wrap (n.int - (0 : Int))).toNat))) then
      bif (inB 0 ((List.replicate ((IntKind.i64.wrap (n.int - (0 : Int))).toNat) (D.n [])).length + 1)) then
        some [D.n ((List.replicate ((IntKind.i64.wrap (n.int - (0 : Int))).toNat) (D.n [])).take 0)]
      else
        none
    else
      none
  else
    some [D.n []]
def e_slices_Grow_int (K : Nat) : Entry := { n := 2, sh := { sl := [(0, .nil 22), (1, .d 3 false)], ob := [] }, kept := [], rs := [{ sl := [(0, .own 22 0)], ob := [(0, .row 3 true)] }], f := fun ds => f_slices_Grow_int K (D.nth ds 0), tot := none }
def T_slices_Grow_int (K : Nat) : Tbl := { T0 with ents := entsOf [], cuts := lk [(0, c_slices_Grow_int_0 K)] }
theorem q_slices_Grow_int_0 (K : Nat) (ds : List D) : evPiece (T_slices_Grow_int K) 27 (sub (codeOf Try.f127) [1, 0, 1]) .go (c_slices_Grow_int_0 K) ds = b_slices_Grow_int_0 K ds := by kernel_rfl
theorem k_slices_Grow_int_0 (K : Nat) : CutOK Try.prog (T_slices_Grow_int K) 27 (sub (codeOf Try.f127) [1, 0, 1]) (c_slices_Grow_int_0 K) :=
  piece_thm (T := T_slices_Grow_int K) (hT_of hT0 rfl rfl rfl) (hes_ok (T0 := T0) (T := T_slices_Grow_int K) rfl rfl (trivial : FAll Try.prog T0 [])) rfl rfl rfl (cutsOK_none (by rfl)) (q_slices_Grow_int_0 K)
theorem q_slices_Grow_int (K : Nat) (ds : List D) : evFn (T_slices_Grow_int K) Try.f127 (.seq .go (.seq (.seq .go (.cut 0)) .go)) (e_slices_Grow_int K) ds = (e_slices_Grow_int K).f ds := by kernel_rfl
theorem ok_slices_Grow_int (K : Nat) : FnOK Try.prog T0 127 (e_slices_Grow_int K) :=
  fn_thm (T0 := T0) (T := T_slices_Grow_int K) rfl (hT_of hT0 rfl rfl rfl) (hes_ok (T0 := T0) (T := T_slices_Grow_int K) rfl rfl (trivial : FAll Try.prog T0 [])) Try.func127 (by decide) rfl (Nat.le_of_ble_eq_true rfl) rfl rfl rfl (tot_none rfl) (cutsOK_list (l := [(0, sub (codeOf Try.f127) [1, 0, 1])]) (by kernel_rfl) ⟨cut_one (u := c_slices_Grow_int_0 K) rfl (k_slices_Grow_int_0 K), trivial⟩) (q_slices_Grow_int K)
/-! ### 74 slices.Concat[[]int,int] -/
def b_slices_Concat_int_1 (K : Nat) (rec : List D → Option (Nat × List D)) (ds : List D) : Option (Nat × List D) :=
  let s25 := D.nth ds 0
  let s26 := D.nth ds 1
  let s27 := D.nth ds 2
  let r0 := D.nth ds 3
  bif (ltI s27.int s26.int) then
    bif (inB s27.int s25.list.length) then
      bif (lim (r0.list.length + ((D.nth s25.list s27.int.toNat).list).length)) then
        rec [s25, s26, D.i (IntKind.i64.wrap (s27.int + (1 : Int))), D.n (r0.list ++ ((D.nth s25.list s27.int.toNat).list))]
      else
        none
    else
      none
  else
    some (0, [D.n r0.list])
def c_slices_Concat_int_1 (K : Nat) : Cut := { sh := { sl := [(6, .own 22 0), (25, .d 174 false), (26, .d 3 true), (27, .d 3 true)], ob := [(0, .row 3 true)] }, kept := [], outs := [(.exit 2, { sl := [(6, .own 22 0)], ob := [(0, .row 3 true)] })], f := fun ds => fixN (b_slices_Concat_int_1 K) K ds }
def b_slices_Concat_int_0 (K : Nat) (rec : List D → Option (Nat × List D)) (ds : List D) : Option (Nat × List D) :=
  let size := D.nth ds 0
  let s9 := D.nth ds 1
  let s10 := D.nth ds 2
  let s11 := D.nth ds 3
  bif (ltI s11.int s10.int) then
    bif (inB s11.int s9.list.length) then
      bif (ltI (IntKind.i64.wrap (size.int + (((D.nth s9.list s11.int.toNat).list).length : Int))) 0) then
        none
      else
        rec [D.i (IntKind.i64.wrap (size.int + (((D.nth s9.list s11.int.toNat).list).length : Int))), s9, s10, D.i (IntKind.i64.wrap (s11.int + (1 : Int)))]
    else
      none
  else
    some (0, [size])
def c_slices_Concat_int_0 (K : Nat) : Cut := { sh := { sl := [(3, .d 3 true), (9, .d 174 false), (10, .d 3 true), (11, .d 3 true)], ob := [] }, kept := [], outs := [(.exit 0, { sl := [(3, .d 3 true)], ob := [] })], f := fun ds => fixN (b_slices_Concat_int_0 K) K ds }
def f_slices_Concat_int (K : Nat) (slices : D) : Option (List D) :=
  (fixN (b_slices_Concat_int_0 K) K [D.i 0, slices, D.i (slices.list.length : Int), D.i 0]).bind fun t1 =>
  (f_slices_Grow_int K (D.nth t1.2 0)).bind fun t2 =>
  (fixN (b_slices_Concat_int_1 K) K [slices, D.i (slices.list.length : Int), D.i 0, D.n ((D.nth t2 0).list)]).bind fun t3 =>
  some [D.n ((D.nth t3.2 0).list)]
def e_slices_Concat_int (K : Nat) : Entry := { n := 1, sh := { sl := [(0, .d 174 false)], ob := [] }, kept := [], rs := [{ sl := [(0, .own 22 0)], ob := [(0, .row 3 true)] }], f := fun ds => f_slices_Concat_int K (D.nth ds 0), tot := none }
def T_slices_Concat_int (K : Nat) : Tbl := { T0 with ents := entsOf [(127, e_slices_Grow_int K)], cuts := lk [(0, c_slices_Concat_int_0 K), (1, c_slices_Concat_int_1 K)] }
theorem q_slices_Concat_int_1 (K : Nat) (rec : List D → Option (Nat × List D)) (ds : List D) : evLoop (T_slices_Concat_int K) 36 (sub (codeOf Try.f74) [1, 1, 1, 1, 0, 1, 0, 0]) .go (c_slices_Concat_int_1 K) rec ds = b_slices_Concat_int_1 K rec ds := by kernel_rfl
theorem k_slices_Concat_int_1 (K : Nat) : CutOK Try.prog (T_slices_Concat_int K) 36 (sub (codeOf Try.f74) [1, 1, 1, 1, 0, 1, 0]) (c_slices_Concat_int_1 K) :=
  loop_thm (T := T_slices_Concat_int K) (hT_of hT0 rfl rfl rfl) (hes_ok (T0 := T0) (T := T_slices_Concat_int K) rfl rfl (⟨ok_slices_Grow_int K, trivial⟩ : FAll Try.prog T0 [(127, e_slices_Grow_int K)])) (by kernel_rfl) rfl rfl rfl (cutsOK_none (by rfl)) rfl (q_slices_Concat_int_1 K)
theorem q_slices_Concat_int_0 (K : Nat) (rec : List D → Option (Nat × List D)) (ds : List D) : evLoop (T_slices_Concat_int K) 36 (sub (codeOf Try.f74) [1, 1, 0, 1, 0, 0]) .go (c_slices_Concat_int_0 K) rec ds = b_slices_Concat_int_0 K rec ds := by kernel_rfl
theorem k_slices_Concat_int_0 (K : Nat) : CutOK Try.prog (T_slices_Concat_int K) 36 (sub (codeOf Try.f74) [1, 1, 0, 1, 0]) (c_slices_Concat_int_0 K) :=
  loop_thm (T := T_slices_Concat_int K) (hT_of hT0 rfl rfl rfl) (hes_ok (T0 := T0) (T := T_slices_Concat_int K) rfl rfl (⟨ok_slices_Grow_int K, trivial⟩ : FAll Try.prog T0 [(127, e_slices_Grow_int K)])) (by kernel_rfl) rfl rfl rfl (cutsOK_none (by rfl)) rfl (q_slices_Concat_int_0 K)
theorem q_slices_Concat_int (K : Nat) (ds : List D) : evFn (T_slices_Concat_int K) Try.f74 (.seq .go (.seq .go (.seq (.seq .go (.blk (.cut 0))) (.seq .go (.seq (.seq .go (.blk (.cut 1))) .go))))) (e_slices_Concat_int K) ds = (e_slices_Concat_int K).f ds := by kernel_rfl
theorem ok_slices_Concat_int (K : Nat) : FnOK Try.prog T0 74 (e_slices_Concat_int K) :=
  fn_thm (T0 := T0) (T := T_slices_Concat_int K) rfl (hT_of hT0 rfl rfl rfl) (hes_ok (T0 := T0) (T := T_slices_Concat_int K) rfl rfl (⟨ok_slices_Grow_int K, trivial⟩ : FAll Try.prog T0 [(127, e_slices_Grow_int K)])) Try.func74 (by decide) rfl (Nat.le_of_ble_eq_true rfl) rfl rfl rfl (tot_none rfl) (cutsOK_list (l := [(0, sub (codeOf Try.f74) [1, 1, 0, 1, 0]), (1, sub (codeOf Try.f74) [1, 1, 1, 1, 0, 1, 0])]) (by kernel_rfl) ⟨cut_one (u := c_slices_Concat_int_0 K) rfl (k_slices_Concat_int_0 K), cut_one (u := c_slices_Concat_int_1 K) rfl (k_slices_Concat_int_1 K), trivial⟩) (q_slices_Concat_int K)
/-! ### 98 gatewarden/kit.IsMoment -/
def p_kit_IsMoment (n : D) : List D := [D.b (bif (geI n.int 0) then (ltI n.int 345686400000) else false)]
def e_kit_IsMoment (K : Nat) : Entry := { n := 1, sh := { sl := [(0, .d 3 false)], ob := [] }, kept := [], rs := [{ sl := [(0, .d 4 true)], ob := [] }], f := fun ds => some (p_kit_IsMoment (D.nth ds 0)), tot := some fun ds => p_kit_IsMoment (D.nth ds 0) }
def T_kit_IsMoment (K : Nat) : Tbl := { T0 with ents := entsOf [], cuts := lk [] }
theorem q_kit_IsMoment (K : Nat) (ds : List D) : evFn (T_kit_IsMoment K) Try.f98 .go (e_kit_IsMoment K) ds = (e_kit_IsMoment K).f ds := by kernel_rfl
theorem ok_kit_IsMoment (K : Nat) : FnOK Try.prog T0 98 (e_kit_IsMoment K) :=
  fn_thm (T0 := T0) (T := T_kit_IsMoment K) rfl (hT_of hT0 rfl rfl rfl) (hes_ok (T0 := T0) (T := T_kit_IsMoment K) rfl rfl (trivial : FAll Try.prog T0 [])) Try.func98 (by decide) rfl (Nat.le_of_ble_eq_true rfl) rfl rfl rfl (tot_some rfl fun _ => rfl) (cutsOK_none (by rfl)) (q_kit_IsMoment K)
/-! ### 155 gatewarden/upstream.may$1 -/
def b_upstream_may_1_0 (K : Nat) (rec : List D → Option (Nat × List D)) (ds : List D) : Option (Nat × List D) :=
  let s1 := D.nth ds 0
  let s2 := D.nth ds 1
  let n := D.nth ds 2
  let s8 := D.nth ds 3
  let s9 := D.nth ds 4
  let s10 := D.nth ds 5
  bif (ltI s10.int s9.int) then
    bif (inB s10.int s8.list.length) then
      bif (bif (gtI ((D.nth s8.list s10.int.toNat).int) (IntKind.i64.wrap (s1.int - ((s2.at' 0).int)))) then (leI ((D.nth s8.list s10.int.toNat).int) s1.int) else false) then
        rec [s1, s2, D.i (IntKind.i64.wrap (n.int + (1 : Int))), s8, s9, D.i (IntKind.i64.wrap (s10.int + (1 : Int)))]
      else
        rec [s1, s2, n, s8, s9, D.i (IntKind.i64.wrap (s10.int + (1 : Int)))]
    else
      none
  else
    some (0, [n])
def c_upstream_may_1_0 (K : Nat) : Cut := { sh := { sl := [(1, .bx 3 false (.d 3 true)), (2, .bx 50 false (.d 50 true)), (5, .d 3 true), (8, .d 22 false), (9, .d 3 true), (10, .d 3 true)], ob := [] }, kept := [], outs := [(.exit 0, { sl := [(5, .d 3 true)], ob := [] })], f := fun ds => fixN (b_upstream_may_1_0 K) K ds }
def f_upstream_may_1 (K : Nat) (l s1 s2 : D) : Option (List D) :=
  (fixN (b_upstream_may_1_0 K) K [s1, s2, D.i 0, l, D.i (l.list.length : Int), D.i 0]).bind fun t1 =>
  some [D.nth t1.2 0]
def e_upstream_may_1 (K : Nat) : Entry := { n := 3, sh := { sl := [(0, .d 22 false), (1, .bx 3 false (.d 3 false)), (2, .bx 50 false (.d 50 false))], ob := [] }, kept := [], rs := [{ sl := [(0, .d 3 true)], ob := [] }], f := fun ds => f_upstream_may_1 K (D.nth ds 0) (D.nth ds 1) (D.nth ds 2), tot := none }
def T_upstream_may_1 (K : Nat) : Tbl := { T0 with ents := entsOf [], cuts := lk [(0, c_upstream_may_1_0 K)] }
theorem q_upstream_may_1_0 (K : Nat) (rec : List D → Option (Nat × List D)) (ds : List D) : evLoop (T_upstream_may_1 K) 29 (sub (codeOf Try.f155) [1, 1, 0, 1, 0, 0]) .go (c_upstream_may_1_0 K) rec ds = b_upstream_may_1_0 K rec ds := by kernel_rfl
theorem k_upstream_may_1_0 (K : Nat) : CutOK Try.prog (T_upstream_may_1 K) 29 (sub (codeOf Try.f155) [1, 1, 0, 1, 0]) (c_upstream_may_1_0 K) :=
  loop_thm (T := T_upstream_may_1 K) (hT_of hT0 rfl rfl rfl) (hes_ok (T0 := T0) (T := T_upstream_may_1 K) rfl rfl (trivial : FAll Try.prog T0 [])) (by kernel_rfl) rfl rfl rfl (cutsOK_none (by rfl)) rfl (q_upstream_may_1_0 K)
theorem q_upstream_may_1 (K : Nat) (ds : List D) : evFn (T_upstream_may_1 K) Try.f155 (.seq .go (.seq .go (.seq (.seq .go (.blk (.cut 0))) .go))) (e_upstream_may_1 K) ds = (e_upstream_may_1 K).f ds := by kernel_rfl
theorem ok_upstream_may_1 (K : Nat) : FnOK Try.prog T0 155 (e_upstream_may_1 K) :=
  fn_thm (T0 := T0) (T := T_upstream_may_1 K) rfl (hT_of hT0 rfl rfl rfl) (hes_ok (T0 := T0) (T := T_upstream_may_1 K) rfl rfl (trivial : FAll Try.prog T0 [])) Try.func155 (by decide) rfl (Nat.le_of_ble_eq_true rfl) rfl rfl rfl (tot_none rfl) (cutsOK_list (l := [(0, sub (codeOf Try.f155) [1, 1, 0, 1, 0])]) (by kernel_rfl) ⟨cut_one (u := c_upstream_may_1_0 K) rfl (k_upstream_may_1_0 K), trivial⟩) (q_upstream_may_1 K)
/-! ### 126 gatewarden/upstream.may -/
def f_upstream_may (K : Nat) (b calls again vat : D) : Option (List D) :=
  (f_upstream_may_1 K again vat b).bind fun t1 =>
  (f_upstream_may_1 K calls vat b).bind fun t2 =>
  some [D.b (ltI ((D.nth t1 0).int) (IntKind.i64.wrap (((b.at' 1).int) + (IntKind.i64.wrap (Int.tdiv (IntKind.i64.wrap (((b.at' 2).int) * ((D.nth t2 0).int))) (1000 : Int))))))]
def e_upstream_may (K : Nat) : Entry := { n := 4, sh := { sl := [(0, .d 50 false), (1, .d 22 false), (2, .d 22 false), (3, .d 3 false)], ob := [] }, kept := [], rs := [{ sl := [(0, .d 4 true)], ob := [] }], f := fun ds => f_upstream_may K (D.nth ds 0) (D.nth ds 1) (D.nth ds 2) (D.nth ds 3), tot := none }
def T_upstream_may (K : Nat) : Tbl := { T0 with frz := fun s => memN [4, 7] s, ents := entsOf [(155, e_upstream_may_1 K)], cuts := lk [] }
theorem q_upstream_may (K : Nat) (ds : List D) : evFn (T_upstream_may K) Try.f126 .go (e_upstream_may K) ds = (e_upstream_may K).f ds := by kernel_rfl
theorem ok_upstream_may (K : Nat) : FnOK Try.prog T0 126 (e_upstream_may K) :=
  fn_thm (T0 := T0) (T := T_upstream_may K) rfl (hT_of hT0 rfl rfl rfl) (hes_ok (T0 := T0) (T := T_upstream_may K) rfl rfl (⟨ok_upstream_may_1 K, trivial⟩ : FAll Try.prog T0 [(155, e_upstream_may_1 K)])) Try.func126 (by decide) rfl (Nat.le_of_ble_eq_true rfl) rfl rfl rfl (tot_none rfl) (cutsOK_none (by rfl)) (q_upstream_may K)
/-! ### 69 gatewarden/upstream.May -/
def b_upstream_May_0 (K : Nat) (rec : List D → Option (Nat × List D)) (ds : List D) : Option (Nat × List D) :=
  let s33 := D.nth ds 0
  let s34 := D.nth ds 1
  let r0 := D.nth ds 2
  bif (ltI s34.int s33.int) then
    bif (inB s34.int r0.list.length) then
      bif (!((D.nth (p_kit_IsMoment (D.nth r0.list s34.int.toNat)) 0).bool)) then
        some (0, [D.b false, D.i 1, D.n r0.list])
      else
        rec [s33, D.i (IntKind.i64.wrap (s34.int + (1 : Int))), D.n r0.list]
    else
      none
  else
    some (1, [D.n r0.list])
def c_upstream_May_0 (K : Nat) : Cut := { sh := { sl := [(32, .own 22 0), (33, .d 3 true), (34, .d 3 true)], ob := [(0, .row 3 true)] }, kept := [0], outs := [(.ret, { sl := [(8, .d 4 true), (9, .d 30 true)], ob := [(0, .row 3 true)] }), (.exit 0, { sl := [], ob := [(0, .row 3 true)] })], f := fun ds => fixN (b_upstream_May_0 K) K ds }
def f_upstream_May (K : Nat) (b calls again vat : D) : Option (List D) :=
  (f_upstream_CheckBudget K b).bind fun t1 =>
  bif (((D.nth t1 0).int) != (0 : Int)) then
    some [D.b false, D.nth t1 0]
  else
    bif (bif (gtI (calls.list.length : Int) 2000) then true else (gtI (again.list.length : Int) 2000)) then
      some [D.b false, D.i 2]
    else
      (f_slices_Concat_int K (D.n [calls, again])).bind fun t2 =>
      bif (lim (((D.nth t2 0).list).length + 1)) then
        (fixN (b_upstream_May_0 K) K [D.i ((((D.nth t2 0).list) ++ [vat]).length : Int), D.i 0, D.n (((D.nth t2 0).list) ++ [vat])]).bind fun t3 =>
        bif (t3.1.beq 0) then
          some [D.nth t3.2 0, D.nth t3.2 1]
        else
          (f_upstream_may K b calls again vat).bind fun t4 =>
          some [D.nth t4 0, D.i 0]
      else
        none
def e_upstream_May (K : Nat) : Entry := { n := 4, sh := { sl := [(0, .d 50 false), (1, .d 22 false), (2, .d 22 false), (3, .d 3 false)], ob := [] }, kept := [], rs := [{ sl := [(0, .tup [.d 4 true, .d 30 true])], ob := [] }], f := fun ds => f_upstream_May K (D.nth ds 0) (D.nth ds 1) (D.nth ds 2) (D.nth ds 3), tot := none }
def T_upstream_May (K : Nat) : Tbl := { T0 with frz := fun s => memN [4] s, ents := entsOf [(73, e_upstream_CheckBudget K), (74, e_slices_Concat_int K), (98, e_kit_IsMoment K), (126, e_upstream_may K)], cuts := lk [(0, c_upstream_May_0 K)] }
theorem q_upstream_May_0 (K : Nat) (rec : List D → Option (Nat × List D)) (ds : List D) : evLoop (T_upstream_May K) 47 (sub (codeOf Try.f69) [1, 1, 1, 0, 1, 0, 0]) .go (c_upstream_May_0 K) rec ds = b_upstream_May_0 K rec ds := by kernel_rfl
theorem k_upstream_May_0 (K : Nat) : CutOK Try.prog (T_upstream_May K) 47 (sub (codeOf Try.f69) [1, 1, 1, 0, 1, 0]) (c_upstream_May_0 K) :=
  loop_thm (T := T_upstream_May K) (hT_of hT0 rfl rfl rfl) (hes_ok (T0 := T0) (T := T_upstream_May K) rfl rfl (⟨ok_upstream_CheckBudget K, ok_slices_Concat_int K, ok_kit_IsMoment K, ok_upstream_may K, trivial⟩ : FAll Try.prog T0 [(73, e_upstream_CheckBudget K), (74, e_slices_Concat_int K), (98, e_kit_IsMoment K), (126, e_upstream_may K)])) (by kernel_rfl) rfl rfl rfl (cutsOK_none (by rfl)) rfl (q_upstream_May_0 K)
theorem q_upstream_May (K : Nat) (ds : List D) : evFn (T_upstream_May K) Try.f69 (.seq .go (.seq .go (.seq .go (.seq (.seq .go (.blk (.cut 0))) .go)))) (e_upstream_May K) ds = (e_upstream_May K).f ds := by kernel_rfl
theorem ok_upstream_May (K : Nat) : FnOK Try.prog T0 69 (e_upstream_May K) :=
  fn_thm (T0 := T0) (T := T_upstream_May K) rfl (hT_of hT0 rfl rfl rfl) (hes_ok (T0 := T0) (T := T_upstream_May K) rfl rfl (⟨ok_upstream_CheckBudget K, ok_slices_Concat_int K, ok_kit_IsMoment K, ok_upstream_may K, trivial⟩ : FAll Try.prog T0 [(73, e_upstream_CheckBudget K), (74, e_slices_Concat_int K), (98, e_kit_IsMoment K), (126, e_upstream_may K)])) Try.func69 (by decide) rfl (Nat.le_of_ble_eq_true rfl) rfl rfl rfl (tot_none rfl) (cutsOK_list (l := [(0, sub (codeOf Try.f69) [1, 1, 1, 0, 1, 0])]) (by kernel_rfl) ⟨cut_one (u := c_upstream_May_0 K) rfl (k_upstream_May_0 K), trivial⟩) (q_upstream_May K)
/-! ### 70 gatewarden/gatelaw2.when -/
def f_gatelaw2_when (K : Nat) (is e : D) : Option (List D) :=
  bif is.bool then
    some [e]
  else
    some [D.i 0]
def e_gatelaw2_when (K : Nat) : Entry := { n := 2, sh := { sl := [(0, .d 4 false), (1, .d 30 false)], ob := [] }, kept := [], rs := [{ sl := [(0, .d 30 true)], ob := [] }], f := fun ds => f_gatelaw2_when K (D.nth ds 0) (D.nth ds 1), tot := none }
def T_gatelaw2_when (K : Nat) : Tbl := { T0 with ents := entsOf [], cuts := lk [] }
theorem q_gatelaw2_when (K : Nat) (ds : List D) : evFn (T_gatelaw2_when K) Try.f70 .go (e_gatelaw2_when K) ds = (e_gatelaw2_when K).f ds := by kernel_rfl
theorem ok_gatelaw2_when (K : Nat) : FnOK Try.prog T0 70 (e_gatelaw2_when K) :=
  fn_thm (T0 := T0) (T := T_gatelaw2_when K) rfl (hT_of hT0 rfl rfl rfl) (hes_ok (T0 := T0) (T := T_gatelaw2_when K) rfl rfl (trivial : FAll Try.prog T0 [])) Try.func70 (by decide) rfl (Nat.le_of_ble_eq_true rfl) rfl rfl rfl (tot_none rfl) (cutsOK_none (by rfl)) (q_gatelaw2_when K)
/-! ### 40 gatewarden/gatelaw2.errs -/
def b_gatelaw2_errs_0 (K : Nat) (rec : List D → Option (Nat × List D)) (ds : List D) : Option (Nat × List D) :=
  let s5 := D.nth ds 0
  let s6 := D.nth ds 1
  let s7 := D.nth ds 2
  bif (ltI s7.int s6.int) then
    bif (inB s7.int s5.list.length) then
      bif (((D.nth s5.list s7.int.toNat).int) != (0 : Int)) then
        some (0, [D.nth s5.list s7.int.toNat])
      else
        rec [s5, s6, D.i (IntKind.i64.wrap (s7.int + (1 : Int)))]
    else
      none
  else
    some (1, [])
def c_gatelaw2_errs_0 (K : Nat) : Cut := { sh := { sl := [(5, .d 149 false), (6, .d 3 true), (7, .d 3 true)], ob := [] }, kept := [], outs := [(.ret, { sl := [(2, .d 30 true)], ob := [] }), (.exit 0, { sl := [], ob := [] })], f := fun ds => fixN (b_gatelaw2_errs_0 K) K ds }
def f_gatelaw2_errs (K : Nat) (l : D) : Option (List D) :=
  (fixN (b_gatelaw2_errs_0 K) K [l, D.i (l.list.length : Int), D.i 0]).bind fun t1 =>
  bif (t1.1.beq 0) then
    some [D.nth t1.2 0]
  else
    some [D.i 0]
def e_gatelaw2_errs (K : Nat) : Entry := { n := 1, sh := { sl := [(0, .d 149 false)], ob := [] }, kept := [], rs := [{ sl := [(0, .d 30 true)], ob := [] }], f := fun ds => f_gatelaw2_errs K (D.nth ds 0), tot := none }
def T_gatelaw2_errs (K : Nat) : Tbl := { T0 with ents := entsOf [], cuts := lk [(0, c_gatelaw2_errs_0 K)] }
theorem q_gatelaw2_errs_0 (K : Nat) (rec : List D → Option (Nat × List D)) (ds : List D) : evLoop (T_gatelaw2_errs K) 15 (sub (codeOf Try.f40) [1, 0, 1, 0, 0]) .go (c_gatelaw2_errs_0 K) rec ds = b_gatelaw2_errs_0 K rec ds := by kernel_rfl
theorem k_gatelaw2_errs_0 (K : Nat) : CutOK Try.prog (T_gatelaw2_errs K) 15 (sub (codeOf Try.f40) [1, 0, 1, 0]) (c_gatelaw2_errs_0 K) :=
  loop_thm (T := T_gatelaw2_errs K) (hT_of hT0 rfl rfl rfl) (hes_ok (T0 := T0) (T := T_gatelaw2_errs K) rfl rfl (trivial : FAll Try.prog T0 [])) (by kernel_rfl) rfl rfl rfl (cutsOK_none (by rfl)) rfl (q_gatelaw2_errs_0 K)
theorem q_gatelaw2_errs (K : Nat) (ds : List D) : evFn (T_gatelaw2_errs K) Try.f40 (.seq .go (.seq (.seq .go (.blk (.cut 0))) .go)) (e_gatelaw2_errs K) ds = (e_gatelaw2_errs K).f ds := by kernel_rfl
theorem ok_gatelaw2_errs (K : Nat) : FnOK Try.prog T0 40 (e_gatelaw2_errs K) :=
  fn_thm (T0 := T0) (T := T_gatelaw2_errs K) rfl (hT_of hT0 rfl rfl rfl) (hes_ok (T0 := T0) (T := T_gatelaw2_errs K) rfl rfl (trivial : FAll Try.prog T0 [])) Try.func40 (by decide) rfl (Nat.le_of_ble_eq_true rfl) rfl rfl rfl (tot_none rfl) (cutsOK_list (l := [(0, sub (codeOf Try.f40) [1, 0, 1, 0])]) (by kernel_rfl) ⟨cut_one (u := c_gatelaw2_errs_0 K) rfl (k_gatelaw2_errs_0 K), trivial⟩) (q_gatelaw2_errs K)
/-! ### 79 gatewarden/gateref2.in -/
def p_gateref2_in (n low high : D) : List D := [D.b (bif (leI low.int n.int) then (leI n.int high.int) else false)]
def e_gateref2_in (K : Nat) : Entry := { n := 3, sh := { sl := [(0, .d 3 false), (1, .d 3 false), (2, .d 3 false)], ob := [] }, kept := [], rs := [{ sl := [(0, .d 4 true)], ob := [] }], f := fun ds => some (p_gateref2_in (D.nth ds 0) (D.nth ds 1) (D.nth ds 2)), tot := some fun ds => p_gateref2_in (D.nth ds 0) (D.nth ds 1) (D.nth ds 2) }
def T_gateref2_in (K : Nat) : Tbl := { T0 with ents := entsOf [], cuts := lk [] }
theorem q_gateref2_in (K : Nat) (ds : List D) : evFn (T_gateref2_in K) Try.f79 .go (e_gateref2_in K) ds = (e_gateref2_in K).f ds := by kernel_rfl
theorem ok_gateref2_in (K : Nat) : FnOK Try.prog T0 79 (e_gateref2_in K) :=
  fn_thm (T0 := T0) (T := T_gateref2_in K) rfl (hT_of hT0 rfl rfl rfl) (hes_ok (T0 := T0) (T := T_gateref2_in K) rfl rfl (trivial : FAll Try.prog T0 [])) Try.func79 (by decide) rfl (Nat.le_of_ble_eq_true rfl) rfl rfl rfl (tot_some rfl fun _ => rfl) (cutsOK_none (by rfl)) (q_gateref2_in K)
/-! ### 71 gatewarden/gateref2.BackoffFault -/
def f_gateref2_BackoffFault (K : Nat) (wait most vtry : D) : Option (List D) :=
  bif (bif (bif (!((D.nth (p_gateref2_in wait (D.i 0) most) 0).bool)) then true else (gtI most.int 3600000)) then true else (!((D.nth (p_gateref2_in vtry (D.i 2) (D.i 100)) 0).bool))) then
    some [D.i 1]
  else
    some [D.i 0]
def e_gateref2_BackoffFault (K : Nat) : Entry := { n := 3, sh := { sl := [(0, .d 3 false), (1, .d 3 false), (2, .d 3 false)], ob := [] }, kept := [], rs := [{ sl := [(0, .d 30 true)], ob := [] }], f := fun ds => f_gateref2_BackoffFault K (D.nth ds 0) (D.nth ds 1) (D.nth ds 2), tot := none }
def T_gateref2_BackoffFault (K : Nat) : Tbl := { T0 with ents := entsOf [(79, e_gateref2_in K)], cuts := lk [] }
theorem q_gateref2_BackoffFault (K : Nat) (ds : List D) : evFn (T_gateref2_BackoffFault K) Try.f71 .go (e_gateref2_BackoffFault K) ds = (e_gateref2_BackoffFault K).f ds := by kernel_rfl
theorem ok_gateref2_BackoffFault (K : Nat) : FnOK Try.prog T0 71 (e_gateref2_BackoffFault K) :=
  fn_thm (T0 := T0) (T := T_gateref2_BackoffFault K) rfl (hT_of hT0 rfl rfl rfl) (hes_ok (T0 := T0) (T := T_gateref2_BackoffFault K) rfl rfl (⟨ok_gateref2_in K, trivial⟩ : FAll Try.prog T0 [(79, e_gateref2_in K)])) Try.func71 (by decide) rfl (Nat.le_of_ble_eq_true rfl) rfl rfl rfl (tot_none rfl) (cutsOK_none (by rfl)) (q_gateref2_BackoffFault K)
/-! ### 72 gatewarden/gateref2.BudgetFault -/
def f_gateref2_BudgetFault (K : Nat) (b : D) : Option (List D) :=
  bif (bif (bif (!((D.nth (p_gateref2_in (b.at' 0) (D.i 1) (D.i 3600000)) 0).bool)) then true else (!((D.nth (p_gateref2_in (b.at' 1) (D.i 0) (D.i 300)) 0).bool))) then true else (!((D.nth (p_gateref2_in (b.at' 2) (D.i 0) (D.i 1000)) 0).bool))) then
    some [D.i 1]
  else
    some [D.i 0]
def e_gateref2_BudgetFault (K : Nat) : Entry := { n := 1, sh := { sl := [(0, .d 50 false)], ob := [] }, kept := [], rs := [{ sl := [(0, .d 30 true)], ob := [] }], f := fun ds => f_gateref2_BudgetFault K (D.nth ds 0), tot := none }
def T_gateref2_BudgetFault (K : Nat) : Tbl := { T0 with frz := fun s => memN [1] s, ents := entsOf [(79, e_gateref2_in K)], cuts := lk [] }
theorem q_gateref2_BudgetFault (K : Nat) (ds : List D) : evFn (T_gateref2_BudgetFault K) Try.f72 .go (e_gateref2_BudgetFault K) ds = (e_gateref2_BudgetFault K).f ds := by kernel_rfl
theorem ok_gateref2_BudgetFault (K : Nat) : FnOK Try.prog T0 72 (e_gateref2_BudgetFault K) :=
  fn_thm (T0 := T0) (T := T_gateref2_BudgetFault K) rfl (hT_of hT0 rfl rfl rfl) (hes_ok (T0 := T0) (T := T_gateref2_BudgetFault K) rfl rfl (⟨ok_gateref2_in K, trivial⟩ : FAll Try.prog T0 [(79, e_gateref2_in K)])) Try.func72 (by decide) rfl (Nat.le_of_ble_eq_true rfl) rfl rfl rfl (tot_none rfl) (cutsOK_none (by rfl)) (q_gateref2_BudgetFault K)
/-! ### 101 gatewarden/gateref2.Moment -/
def p_gateref2_Moment (vat : D) : List D := [D.nth (p_gateref2_in vat (D.i 0) (D.i 345686399999)) 0]
def e_gateref2_Moment (K : Nat) : Entry := { n := 1, sh := { sl := [(0, .d 3 false)], ob := [] }, kept := [], rs := [{ sl := [(0, .d 4 true)], ob := [] }], f := fun ds => some (p_gateref2_Moment (D.nth ds 0)), tot := some fun ds => p_gateref2_Moment (D.nth ds 0) }
def T_gateref2_Moment (K : Nat) : Tbl := { T0 with ents := entsOf [(79, e_gateref2_in K)], cuts := lk [] }
theorem q_gateref2_Moment (K : Nat) (ds : List D) : evFn (T_gateref2_Moment K) Try.f101 .go (e_gateref2_Moment K) ds = (e_gateref2_Moment K).f ds := by kernel_rfl
theorem ok_gateref2_Moment (K : Nat) : FnOK Try.prog T0 101 (e_gateref2_Moment K) :=
  fn_thm (T0 := T0) (T := T_gateref2_Moment K) rfl (hT_of hT0 rfl rfl rfl) (hes_ok (T0 := T0) (T := T_gateref2_Moment K) rfl rfl (⟨ok_gateref2_in K, trivial⟩ : FAll Try.prog T0 [(79, e_gateref2_in K)])) Try.func101 (by decide) rfl (Nat.le_of_ble_eq_true rfl) rfl rfl rfl (tot_some rfl fun _ => rfl) (cutsOK_none (by rfl)) (q_gateref2_Moment K)
/-! ### 43 gatewarden/gatelaw2.momentFault -/
def f_gatelaw2_momentFault (K : Nat) (vat : D) : Option (List D) :=
  (f_gatelaw2_when K (D.b (!((D.nth (p_gateref2_Moment vat) 0).bool))) (D.i 1)).bind fun t1 =>
  some [D.nth t1 0]
def e_gatelaw2_momentFault (K : Nat) : Entry := { n := 1, sh := { sl := [(0, .d 3 false)], ob := [] }, kept := [], rs := [{ sl := [(0, .d 30 true)], ob := [] }], f := fun ds => f_gatelaw2_momentFault K (D.nth ds 0), tot := none }
def T_gatelaw2_momentFault (K : Nat) : Tbl := { T0 with ents := entsOf [(101, e_gateref2_Moment K), (70, e_gatelaw2_when K)], cuts := lk [] }
theorem q_gatelaw2_momentFault (K : Nat) (ds : List D) : evFn (T_gatelaw2_momentFault K) Try.f43 .go (e_gatelaw2_momentFault K) ds = (e_gatelaw2_momentFault K).f ds := by kernel_rfl
theorem ok_gatelaw2_momentFault (K : Nat) : FnOK Try.prog T0 43 (e_gatelaw2_momentFault K) :=
  fn_thm (T0 := T0) (T := T_gatelaw2_momentFault K) rfl (hT_of hT0 rfl rfl rfl) (hes_ok (T0 := T0) (T := T_gatelaw2_momentFault K) rfl rfl (⟨ok_gateref2_Moment K, ok_gatelaw2_when K, trivial⟩ : FAll Try.prog T0 [(101, e_gateref2_Moment K), (70, e_gatelaw2_when K)])) Try.func43 (by decide) rfl (Nat.le_of_ble_eq_true rfl) rfl rfl rfl (tot_none rfl) (cutsOK_none (by rfl)) (q_gatelaw2_momentFault K)
/-! ### 75 gatewarden/gateref2.PercentileOf -/
def b_gateref2_PercentileOf_1 (K : Nat) (rec : List D → Option (Nat × List D)) (ds : List D) : Option (Nat × List D) :=
  let n := D.nth ds 0
  let many := D.nth ds 1
  let s18 := D.nth ds 2
  let s19 := D.nth ds 3
  let s20 := D.nth ds 4
  bif (ltI s20.int s19.int) then
    bif (inB s20.int s18.list.length) then
      bif (leI ((D.nth s18.list s20.int.toNat).int) n.int) then
        rec [n, D.i (IntKind.i64.wrap (many.int + (1 : Int))), s18, s19, D.i (IntKind.i64.wrap (s20.int + (1 : Int)))]
      else
        rec [n, many, s18, s19, D.i (IntKind.i64.wrap (s20.int + (1 : Int)))]
    else
      none
  else
    some (0, [many])
def c_gateref2_PercentileOf_1 (K : Nat) : Cut := { sh := { sl := [(8, .d 3 true), (9, .d 3 true), (18, .d 22 false), (19, .d 3 true), (20, .d 3 true)], ob := [] }, kept := [], outs := [(.exit 2, { sl := [(9, .d 3 true)], ob := [] })], f := fun ds => fixN (b_gateref2_PercentileOf_1 K) K ds }
def b_gateref2_PercentileOf_0 (K : Nat) (rec : List D → Option (Nat × List D)) (ds : List D) : Option (Nat × List D) :=
  let l := D.nth ds 0
  let part := D.nth ds 1
  let least := D.nth ds 2
  let found := D.nth ds 3
  let s12 := D.nth ds 4
  let s13 := D.nth ds 5
  let s14 := D.nth ds 6
  bif (ltI s14.int s13.int) then
    bif (inB s14.int s12.list.length) then
      (fixN (b_gateref2_PercentileOf_1 K) K [D.nth s12.list s14.int.toNat, D.i 0, l, D.i (l.list.length : Int), D.i 0]).bind fun t1 =>
      bif (bif (geI (IntKind.i64.wrap (((D.nth t1.2 0).int) * (1000 : Int))) (IntKind.i64.wrap (part.int * (l.list.length : Int)))) then (bif (!found.bool) then true else (ltI ((D.nth s12.list s14.int.toNat).int) least.int)) else false) then
        rec [l, part, D.nth s12.list s14.int.toNat, D.b true, s12, s13, D.i (IntKind.i64.wrap (s14.int + (1 : Int)))]
      else
        rec [l, part, least, found, s12, s13, D.i (IntKind.i64.wrap (s14.int + (1 : Int)))]
    else
      none
  else
    some (0, [least])
def c_gateref2_PercentileOf_0 (K : Nat) : Cut := { sh := { sl := [(0, .d 22 false), (1, .d 3 true), (5, .d 3 true), (6, .d 4 true), (12, .d 22 false), (13, .d 3 true), (14, .d 3 true)], ob := [] }, kept := [], outs := [(.exit 0, { sl := [(5, .d 3 true)], ob := [] })], f := fun ds => fixN (b_gateref2_PercentileOf_0 K) K ds }
def f_gateref2_PercentileOf (K : Nat) (l part : D) : Option (List D) :=
  (fixN (b_gateref2_PercentileOf_0 K) K [l, part, D.i 0, D.b false, l, D.i (l.list.length : Int), D.i 0]).bind fun t1 =>
  some [D.nth t1.2 0]
def e_gateref2_PercentileOf (K : Nat) : Entry := { n := 2, sh := { sl := [(0, .d 22 false), (1, .d 3 false)], ob := [] }, kept := [], rs := [{ sl := [(0, .d 3 true)], ob := [] }], f := fun ds => f_gateref2_PercentileOf K (D.nth ds 0) (D.nth ds 1), tot := none }
def T_gateref2_PercentileOf (K : Nat) : Tbl := { T0 with ents := entsOf [], cuts := lk [(0, c_gateref2_PercentileOf_0 K), (1, c_gateref2_PercentileOf_1 K)] }
theorem q_gateref2_PercentileOf_1 (K : Nat) (rec : List D → Option (Nat × List D)) (ds : List D) : evLoop (T_gateref2_PercentileOf K) 49 (sub (codeOf Try.f75) [1, 1, 0, 1, 0, 0, 1, 1, 0, 0, 1, 1, 0, 1, 0, 0]) .go (c_gateref2_PercentileOf_1 K) rec ds = b_gateref2_PercentileOf_1 K rec ds := by kernel_rfl
theorem k_gateref2_PercentileOf_1 (K : Nat) : CutOK Try.prog (T_gateref2_PercentileOf K) 49 (sub (codeOf Try.f75) [1, 1, 0, 1, 0, 0, 1, 1, 0, 0, 1, 1, 0, 1, 0]) (c_gateref2_PercentileOf_1 K) :=
  loop_thm (T := T_gateref2_PercentileOf K) (hT_of hT0 rfl rfl rfl) (hes_ok (T0 := T0) (T := T_gateref2_PercentileOf K) rfl rfl (trivial : FAll Try.prog T0 [])) (by kernel_rfl) rfl rfl rfl (cutsOK_none (by rfl)) rfl (q_gateref2_PercentileOf_1 K)
theorem q_gateref2_PercentileOf_0 (K : Nat) (rec : List D → Option (Nat × List D)) (ds : List D) : evLoop (T_gateref2_PercentileOf K) 49 (sub (codeOf Try.f75) [1, 1, 0, 1, 0, 0]) (.seq .go (.seq .go (.seq (.blk (.seq .go (.seq .go (.seq (.seq .go (.blk (.cut 1))) .go)))) .go))) (c_gateref2_PercentileOf_0 K) rec ds = b_gateref2_PercentileOf_0 K rec ds := by kernel_rfl
theorem k_gateref2_PercentileOf_0 (K : Nat) : CutOK Try.prog (T_gateref2_PercentileOf K) 49 (sub (codeOf Try.f75) [1, 1, 0, 1, 0]) (c_gateref2_PercentileOf_0 K) :=
  loop_thm (T := T_gateref2_PercentileOf K) (hT_of hT0 rfl rfl rfl) (hes_ok (T0 := T0) (T := T_gateref2_PercentileOf K) rfl rfl (trivial : FAll Try.prog T0 [])) (by kernel_rfl) rfl rfl rfl (cutsOK_list (l := [(1, sub (codeOf Try.f75) [1, 1, 0, 1, 0, 0, 1, 1, 0, 0, 1, 1, 0, 1, 0])]) (by kernel_rfl) ⟨cut_one (u := c_gateref2_PercentileOf_1 K) rfl (k_gateref2_PercentileOf_1 K), trivial⟩) rfl (q_gateref2_PercentileOf_0 K)
theorem q_gateref2_PercentileOf (K : Nat) (ds : List D) : evFn (T_gateref2_PercentileOf K) Try.f75 (.seq .go (.seq .go (.seq (.seq .go (.blk (.cut 0))) .go))) (e_gateref2_PercentileOf K) ds = (e_gateref2_PercentileOf K).f ds := by kernel_rfl
theorem ok_gateref2_PercentileOf (K : Nat) : FnOK Try.prog T0 75 (e_gateref2_PercentileOf K) :=
  fn_thm (T0 := T0) (T := T_gateref2_PercentileOf K) rfl (hT_of hT0 rfl rfl rfl) (hes_ok (T0 := T0) (T := T_gateref2_PercentileOf K) rfl rfl (trivial : FAll Try.prog T0 [])) Try.func75 (by decide) rfl (Nat.le_of_ble_eq_true rfl) rfl rfl rfl (tot_none rfl) (cutsOK_list (l := [(0, sub (codeOf Try.f75) [1, 1, 0, 1, 0])]) (by kernel_rfl) ⟨cut_one (u := c_gateref2_PercentileOf_0 K) rfl (k_gateref2_PercentileOf_0 K), trivial⟩) (q_gateref2_PercentileOf K)
/-! ### 76 gatewarden/gateref2.BackoffOf -/
def b_gateref2_BackoffOf_0 (K : Nat) (rec : List D → Option (Nat × List D)) (ds : List D) : Option (Nat × List D) :=
  let wait := D.nth ds 0
  let most := D.nth ds 1
  let s8 := D.nth ds 2
  let s9 := D.nth ds 3
  bif (ltI s9.int s8.int) then
    rec [D.i (minI (IntKind.i64.wrap ((2 : Int) * wait.int)) most.int), most, s8, D.i (IntKind.i64.wrap (s9.int + (1 : Int)))]
  else
    some (0, [wait])
def c_gateref2_BackoffOf_0 (K : Nat) : Cut := { sh := { sl := [(0, .d 3 true), (1, .d 3 true), (8, .d 3 true), (9, .d 3 true)], ob := [] }, kept := [], outs := [(.exit 0, { sl := [(0, .d 3 true)], ob := [] })], f := fun ds => fixN (b_gateref2_BackoffOf_0 K) K ds }
def f_gateref2_BackoffOf (K : Nat) (wait most vtry : D) : Option (List D) :=
  (fixN (b_gateref2_BackoffOf_0 K) K [wait, most, D.i (IntKind.i64.wrap (vtry.int - (2 : Int))), D.i 0]).bind fun t1 =>
  some [D.nth t1.2 0]
def e_gateref2_BackoffOf (K : Nat) : Entry := { n := 3, sh := { sl := [(0, .d 3 false), (1, .d 3 false), (2, .d 3 false)], ob := [] }, kept := [], rs := [{ sl := [(0, .d 3 true)], ob := [] }], f := fun ds => f_gateref2_BackoffOf K (D.nth ds 0) (D.nth ds 1) (D.nth ds 2), tot := none }
def T_gateref2_BackoffOf (K : Nat) : Tbl := { T0 with ents := entsOf [], cuts := lk [(0, c_gateref2_BackoffOf_0 K)] }
theorem q_gateref2_BackoffOf_0 (K : Nat) (rec : List D → Option (Nat × List D)) (ds : List D) : evLoop (T_gateref2_BackoffOf K) 17 (sub (codeOf Try.f76) [1, 0, 1, 0, 0]) .go (c_gateref2_BackoffOf_0 K) rec ds = b_gateref2_BackoffOf_0 K rec ds := by kernel_rfl
theorem k_gateref2_BackoffOf_0 (K : Nat) : CutOK Try.prog (T_gateref2_BackoffOf K) 17 (sub (codeOf Try.f76) [1, 0, 1, 0]) (c_gateref2_BackoffOf_0 K) :=
  loop_thm (T := T_gateref2_BackoffOf K) (hT_of hT0 rfl rfl rfl) (hes_ok (T0 := T0) (T := T_gateref2_BackoffOf K) rfl rfl (trivial : FAll Try.prog T0 [])) (by kernel_rfl) rfl rfl rfl (cutsOK_none (by rfl)) rfl (q_gateref2_BackoffOf_0 K)
theorem q_gateref2_BackoffOf (K : Nat) (ds : List D) : evFn (T_gateref2_BackoffOf K) Try.f76 (.seq .go (.seq (.seq .go (.blk (.cut 0))) .go)) (e_gateref2_BackoffOf K) ds = (e_gateref2_BackoffOf K).f ds := by kernel_rfl
theorem ok_gateref2_BackoffOf (K : Nat) : FnOK Try.prog T0 76 (e_gateref2_BackoffOf K) :=
  fn_thm (T0 := T0) (T := T_gateref2_BackoffOf K) rfl (hT_of hT0 rfl rfl rfl) (hes_ok (T0 := T0) (T := T_gateref2_BackoffOf K) rfl rfl (trivial : FAll Try.prog T0 [])) Try.func76 (by decide) rfl (Nat.le_of_ble_eq_true rfl) rfl rfl rfl (tot_none rfl) (cutsOK_list (l := [(0, sub (codeOf Try.f76) [1, 0, 1, 0])]) (by kernel_rfl) ⟨cut_one (u := c_gateref2_BackoffOf_0 K) rfl (k_gateref2_BackoffOf_0 K), trivial⟩) (q_gateref2_BackoffOf K)
/-! ### 128 gatewarden/gateref2.MayOf$1 -/
def b_gateref2_MayOf_1_0 (K : Nat) (rec : List D → Option (Nat × List D)) (ds : List D) : Option (Nat × List D) :=
  let s1 := D.nth ds 0
  let s2 := D.nth ds 1
  let n := D.nth ds 2
  let s8 := D.nth ds 3
  let s9 := D.nth ds 4
  let s10 := D.nth ds 5
  bif (ltI s10.int s9.int) then
    bif (inB s10.int s8.list.length) then
      bif (D.nth (p_gateref2_in (D.nth s8.list s10.int.toNat) (D.i (IntKind.i64.wrap ((IntKind.i64.wrap (s1.int - ((s2.at' 0).int))) + (1 : Int)))) s1) 0).bool then
        rec [s1, s2, D.i (IntKind.i64.wrap (n.int + (1 : Int))), s8, s9, D.i (IntKind.i64.wrap (s10.int + (1 : Int)))]
      else
        rec [s1, s2, n, s8, s9, D.i (IntKind.i64.wrap (s10.int + (1 : Int)))]
    else
      none
  else
    some (0, [n])
def c_gateref2_MayOf_1_0 (K : Nat) : Cut := { sh := { sl := [(1, .bx 3 false (.d 3 true)), (2, .bx 50 false (.d 50 true)), (5, .d 3 true), (8, .d 22 false), (9, .d 3 true), (10, .d 3 true)], ob := [] }, kept := [], outs := [(.exit 0, { sl := [(5, .d 3 true)], ob := [] })], f := fun ds => fixN (b_gateref2_MayOf_1_0 K) K ds }
def f_gateref2_MayOf_1 (K : Nat) (l s1 s2 : D) : Option (List D) :=
  (fixN (b_gateref2_MayOf_1_0 K) K [s1, s2, D.i 0, l, D.i (l.list.length : Int), D.i 0]).bind fun t1 =>
  some [D.nth t1.2 0]
def e_gateref2_MayOf_1 (K : Nat) : Entry := { n := 3, sh := { sl := [(0, .d 22 false), (1, .bx 3 false (.d 3 false)), (2, .bx 50 false (.d 50 false))], ob := [] }, kept := [], rs := [{ sl := [(0, .d 3 true)], ob := [] }], f := fun ds => f_gateref2_MayOf_1 K (D.nth ds 0) (D.nth ds 1) (D.nth ds 2), tot := none }
def T_gateref2_MayOf_1 (K : Nat) : Tbl := { T0 with ents := entsOf [(79, e_gateref2_in K)], cuts := lk [(0, c_gateref2_MayOf_1_0 K)] }
theorem q_gateref2_MayOf_1_0 (K : Nat) (rec : List D → Option (Nat × List D)) (ds : List D) : evLoop (T_gateref2_MayOf_1 K) 26 (sub (codeOf Try.f128) [1, 1, 0, 1, 0, 0]) .go (c_gateref2_MayOf_1_0 K) rec ds = b_gateref2_MayOf_1_0 K rec ds := by kernel_rfl
theorem k_gateref2_MayOf_1_0 (K : Nat) : CutOK Try.prog (T_gateref2_MayOf_1 K) 26 (sub (codeOf Try.f128) [1, 1, 0, 1, 0]) (c_gateref2_MayOf_1_0 K) :=
  loop_thm (T := T_gateref2_MayOf_1 K) (hT_of hT0 rfl rfl rfl) (hes_ok (T0 := T0) (T := T_gateref2_MayOf_1 K) rfl rfl (⟨ok_gateref2_in K, trivial⟩ : FAll Try.prog T0 [(79, e_gateref2_in K)])) (by kernel_rfl) rfl rfl rfl (cutsOK_none (by rfl)) rfl (q_gateref2_MayOf_1_0 K)
theorem q_gateref2_MayOf_1 (K : Nat) (ds : List D) : evFn (T_gateref2_MayOf_1 K) Try.f128 (.seq .go (.seq .go (.seq (.seq .go (.blk (.cut 0))) .go))) (e_gateref2_MayOf_1 K) ds = (e_gateref2_MayOf_1 K).f ds := by kernel_rfl
theorem ok_gateref2_MayOf_1 (K : Nat) : FnOK Try.prog T0 128 (e_gateref2_MayOf_1 K) :=
  fn_thm (T0 := T0) (T := T_gateref2_MayOf_1 K) rfl (hT_of hT0 rfl rfl rfl) (hes_ok (T0 := T0) (T := T_gateref2_MayOf_1 K) rfl rfl (⟨ok_gateref2_in K, trivial⟩ : FAll Try.prog T0 [(79, e_gateref2_in K)])) Try.func128 (by decide) rfl (Nat.le_of_ble_eq_true rfl) rfl rfl rfl (tot_none rfl) (cutsOK_list (l := [(0, sub (codeOf Try.f128) [1, 1, 0, 1, 0])]) (by kernel_rfl) ⟨cut_one (u := c_gateref2_MayOf_1_0 K) rfl (k_gateref2_MayOf_1_0 K), trivial⟩) (q_gateref2_MayOf_1 K)
/-! ### 77 gatewarden/gateref2.MayOf -/
def f_gateref2_MayOf (K : Nat) (b calls again vat : D) : Option (List D) :=
  (f_gateref2_MayOf_1 K again vat b).bind fun t1 =>
  (f_gateref2_MayOf_1 K calls vat b).bind fun t2 =>
  some [D.b (ltI ((D.nth t1 0).int) (IntKind.i64.wrap (((b.at' 1).int) + (IntKind.i64.wrap (Int.tdiv (IntKind.i64.wrap (((b.at' 2).int) * ((D.nth t2 0).int))) (1000 : Int))))))]
def e_gateref2_MayOf (K : Nat) : Entry := { n := 4, sh := { sl := [(0, .d 50 false), (1, .d 22 false), (2, .d 22 false), (3, .d 3 false)], ob := [] }, kept := [], rs := [{ sl := [(0, .d 4 true)], ob := [] }], f := fun ds => f_gateref2_MayOf K (D.nth ds 0) (D.nth ds 1) (D.nth ds 2) (D.nth ds 3), tot := none }
def T_gateref2_MayOf (K : Nat) : Tbl := { T0 with frz := fun s => memN [4, 7] s, ents := entsOf [(128, e_gateref2_MayOf_1 K)], cuts := lk [] }
theorem q_gateref2_MayOf (K : Nat) (ds : List D) : evFn (T_gateref2_MayOf K) Try.f77 .go (e_gateref2_MayOf K) ds = (e_gateref2_MayOf K).f ds := by kernel_rfl
theorem ok_gateref2_MayOf (K : Nat) : FnOK Try.prog T0 77 (e_gateref2_MayOf K) :=
  fn_thm (T0 := T0) (T := T_gateref2_MayOf K) rfl (hT_of hT0 rfl rfl rfl) (hes_ok (T0 := T0) (T := T_gateref2_MayOf K) rfl rfl (⟨ok_gateref2_MayOf_1 K, trivial⟩ : FAll Try.prog T0 [(128, e_gateref2_MayOf_1 K)])) Try.func77 (by decide) rfl (Nat.le_of_ble_eq_true rfl) rfl rfl rfl (tot_none rfl) (cutsOK_none (by rfl)) (q_gateref2_MayOf K)
/-! ### 97 gatewarden/kit.IsKey -/
def b_kit_IsKey_0 (K : Nat) (rec : List D → Option (Nat × List D)) (ds : List D) : Option (Nat × List D) :=
  let s := D.nth ds 0
  let i := D.nth ds 1
  bif (ltI i.int (s.str.length : Int)) then
    bif (inB i.int s.str.length) then
      bif (!(bif (bif (geI (byteAt s.str i.int.toNat) 97) then (leI (byteAt s.str i.int.toNat) 122) else false) then true else (bif (gtI i.int 0) then (bif (bif (bif (geI (byteAt s.str i.int.toNat) 48) then (leI (byteAt s.str i.int.toNat) 57) else false) then true else ((byteAt s.str i.int.toNat) == (45 : Int))) then true else ((byteAt s.str i.int.toNat) == (95 : Int))) else false))) then
        some (0, [D.b false])
      else
        rec [s, D.i (IntKind.i64.wrap (i.int + (1 : Int)))]
    else
      none
  else
    some (1, [])
def c_kit_IsKey_0 (K : Nat) : Cut := { sh := { sl := [(0, .d 9 true), (3, .d 3 true)], ob := [] }, kept := [], outs := [(.ret, { sl := [(2, .d 4 true)], ob := [] }), (.exit 0, { sl := [], ob := [] })], f := fun ds => fixN (b_kit_IsKey_0 K) K ds }
def f_kit_IsKey (K : Nat) (s : D) : Option (List D) :=
  (fixN (b_kit_IsKey_0 K) K [s, D.i 0]).bind fun t1 =>
  bif (t1.1.beq 0) then
    some [D.nth t1.2 0]
  else
    some [D.b (bif (!(s.str == ([] : List UInt8))) then (leI (s.str.length : Int) 40) else false)]
def e_kit_IsKey (K : Nat) : Entry := { n := 1, sh := { sl := [(0, .d 9 false)], ob := [] }, kept := [], rs := [{ sl := [(0, .d 4 true)], ob := [] }], f := fun ds => f_kit_IsKey K (D.nth ds 0), tot := none }
def T_kit_IsKey (K : Nat) : Tbl := { T0 with ents := entsOf [], cuts := lk [(0, c_kit_IsKey_0 K)] }
theorem q_kit_IsKey_0 (K : Nat) (rec : List D → Option (Nat × List D)) (ds : List D) : evLoop (T_kit_IsKey K) 48 (sub (codeOf Try.f97) [1, 0, 1, 0, 0]) .go (c_kit_IsKey_0 K) rec ds = b_kit_IsKey_0 K rec ds := by kernel_rfl
theorem k_kit_IsKey_0 (K : Nat) : CutOK Try.prog (T_kit_IsKey K) 48 (sub (codeOf Try.f97) [1, 0, 1, 0]) (c_kit_IsKey_0 K) :=
  loop_thm (T := T_kit_IsKey K) (hT_of hT0 rfl rfl rfl) (hes_ok (T0 := T0) (T := T_kit_IsKey K) rfl rfl (trivial : FAll Try.prog T0 [])) (by kernel_rfl) rfl rfl rfl (cutsOK_none (by rfl)) rfl (q_kit_IsKey_0 K)
theorem q_kit_IsKey (K : Nat) (ds : List D) : evFn (T_kit_IsKey K) Try.f97 (.seq .go (.seq (.seq .go (.blk (.cut 0))) .go)) (e_kit_IsKey K) ds = (e_kit_IsKey K).f ds := by kernel_rfl
theorem ok_kit_IsKey (K : Nat) : FnOK Try.prog T0 97 (e_kit_IsKey K) :=
  fn_thm (T0 := T0) (T := T_kit_IsKey K) rfl (hT_of hT0 rfl rfl rfl) (hes_ok (T0 := T0) (T := T_kit_IsKey K) rfl rfl (trivial : FAll Try.prog T0 [])) Try.func97 (by decide) rfl (Nat.le_of_ble_eq_true rfl) rfl rfl rfl (tot_none rfl) (cutsOK_list (l := [(0, sub (codeOf Try.f97) [1, 0, 1, 0])]) (by kernel_rfl) ⟨cut_one (u := c_kit_IsKey_0 K) rfl (k_kit_IsKey_0 K), trivial⟩) (q_kit_IsKey K)
/-! ### 38 gatewarden/upstream.CheckInstances -/
def b_upstream_CheckInstances_0 (K : Nat) (rec : List D → Option (Nat × List D)) (ds : List D) : Option (Nat × List D) :=
  let l := D.nth ds 0
  let s8 := D.nth ds 1
  let s9 := D.nth ds 2
  let s10 := D.nth ds 3
  bif (ltI s10.int s9.int) then
    bif (inB s10.int s8.list.length) then
      (f_kit_IsKey K ((D.nth s8.list s10.int.toNat).at' 0)).bind fun t1 =>
      bif (!((D.nth t1 0).bool)) then
        some (0, [D.i 5])
      else
        bif ((!(gtI s10.int 0)) || (inB (IntKind.i64.wrap (s10.int - (1 : Int))) l.list.length)) then
          bif (bif (gtI s10.int 0) then ((Op.bytesLess (((D.nth s8.list s10.int.toNat).at' 0).str) (((D.nth l.list ((IntKind.i64.wrap (s10.int - (1 : Int))).toNat)).at' 0).str)) || ((((D.nth s8.list s10.int.toNat).at' 0).str) == (((D.nth l.list ((IntKind.i64.wrap (s10.int - (1 : Int))).toNat)).at' 0).str))) else false) then
            some (0, [D.i 7])
          else
            bif (D.nth (p_kit_Outside ((D.nth s8.list s10.int.toNat).at' 1) (D.i 1) (D.i 100)) 0).bool then
              some (0, [D.i 1])
            else
              rec [l, s8, s9, D.i (IntKind.i64.wrap (s10.int + (1 : Int)))]
        else
          none
    else
      none
  else
    some (1, [])
def c_upstream_CheckInstances_0 (K : Nat) : Cut := { sh := { sl := [(0, .d 48 false), (8, .d 48 false), (9, .d 3 true), (10, .d 3 true)], ob := [] }, kept := [], outs := [(.ret, { sl := [(2, .d 30 true)], ob := [] }), (.exit 0, { sl := [], ob := [] })], f := fun ds => fixN (b_upstream_CheckInstances_0 K) K ds }
def f_upstream_CheckInstances (K : Nat) (l : D) : Option (List D) :=
  bif (gtI (l.list.length : Int) 50) then
    some [D.i 2]
  else
    (fixN (b_upstream_CheckInstances_0 K) K [l, l, D.i (l.list.length : Int), D.i 0]).bind fun t1 =>
    bif (t1.1.beq 0) then
      some [D.nth t1.2 0]
    else
      some [D.i 0]
def e_upstream_CheckInstances (K : Nat) : Entry := { n := 1, sh := { sl := [(0, .d 48 false)], ob := [] }, kept := [], rs := [{ sl := [(0, .d 30 true)], ob := [] }], f := fun ds => f_upstream_CheckInstances K (D.nth ds 0), tot := none }
def T_upstream_CheckInstances (K : Nat) : Tbl := { T0 with ents := entsOf [(97, e_kit_IsKey K), (78, e_kit_Outside K)], cuts := lk [(0, c_upstream_CheckInstances_0 K)] }
theorem q_upstream_CheckInstances_0 (K : Nat) (rec : List D → Option (Nat × List D)) (ds : List D) : evLoop (T_upstream_CheckInstances K) 39 (sub (codeOf Try.f38) [1, 1, 0, 1, 0, 0]) .go (c_upstream_CheckInstances_0 K) rec ds = b_upstream_CheckInstances_0 K rec ds := by kernel_rfl
theorem k_upstream_CheckInstances_0 (K : Nat) : CutOK Try.prog (T_upstream_CheckInstances K) 39 (sub (codeOf Try.f38) [1, 1, 0, 1, 0]) (c_upstream_CheckInstances_0 K) :=
  loop_thm (T := T_upstream_CheckInstances K) (hT_of hT0 rfl rfl rfl) (hes_ok (T0 := T0) (T := T_upstream_CheckInstances K) rfl rfl (⟨ok_kit_IsKey K, ok_kit_Outside K, trivial⟩ : FAll Try.prog T0 [(97, e_kit_IsKey K), (78, e_kit_Outside K)])) (by kernel_rfl) rfl rfl rfl (cutsOK_none (by rfl)) rfl (q_upstream_CheckInstances_0 K)
theorem q_upstream_CheckInstances (K : Nat) (ds : List D) : evFn (T_upstream_CheckInstances K) Try.f38 (.seq .go (.seq .go (.seq (.seq .go (.blk (.cut 0))) .go))) (e_upstream_CheckInstances K) ds = (e_upstream_CheckInstances K).f ds := by kernel_rfl
theorem ok_upstream_CheckInstances (K : Nat) : FnOK Try.prog T0 38 (e_upstream_CheckInstances K) :=
  fn_thm (T0 := T0) (T := T_upstream_CheckInstances K) rfl (hT_of hT0 rfl rfl rfl) (hes_ok (T0 := T0) (T := T_upstream_CheckInstances K) rfl rfl (⟨ok_kit_IsKey K, ok_kit_Outside K, trivial⟩ : FAll Try.prog T0 [(97, e_kit_IsKey K), (78, e_kit_Outside K)])) Try.func38 (by decide) rfl (Nat.le_of_ble_eq_true rfl) rfl rfl rfl (tot_none rfl) (cutsOK_list (l := [(0, sub (codeOf Try.f38) [1, 1, 0, 1, 0])]) (by kernel_rfl) ⟨cut_one (u := c_upstream_CheckInstances_0 K) rfl (k_upstream_CheckInstances_0 K), trivial⟩) (q_upstream_CheckInstances K)
/-! ### 129 gatewarden/upstream.weights -/
def b_upstream_weights_0 (K : Nat) (rec : List D → Option (Nat × List D)) (ds : List D) : Option (Nat × List D) :=
  let sum := D.nth ds 0
  let s6 := D.nth ds 1
  let s7 := D.nth ds 2
  let s8 := D.nth ds 3
  bif (ltI s8.int s7.int) then
    bif (inB s8.int s6.list.length) then
      rec [D.i (IntKind.i64.wrap (sum.int + (((D.nth s6.list s8.int.toNat).at' 1).int))), s6, s7, D.i (IntKind.i64.wrap (s8.int + (1 : Int)))]
    else
      none
  else
    some (0, [sum])
def c_upstream_weights_0 (K : Nat) : Cut := { sh := { sl := [(3, .d 3 true), (6, .d 48 false), (7, .d 3 true), (8, .d 3 true)], ob := [] }, kept := [], outs := [(.exit 0, { sl := [(3, .d 3 true)], ob := [] })], f := fun ds => fixN (b_upstream_weights_0 K) K ds }
def f_upstream_weights (K : Nat) (l : D) : Option (List D) :=
  (fixN (b_upstream_weights_0 K) K [D.i 0, l, D.i (l.list.length : Int), D.i 0]).bind fun t1 =>
  some [D.nth t1.2 0]
def e_upstream_weights (K : Nat) : Entry := { n := 1, sh := { sl := [(0, .d 48 false)], ob := [] }, kept := [], rs := [{ sl := [(0, .d 3 true)], ob := [] }], f := fun ds => f_upstream_weights K (D.nth ds 0), tot := none }
def T_upstream_weights (K : Nat) : Tbl := { T0 with ents := entsOf [], cuts := lk [(0, c_upstream_weights_0 K)] }
theorem q_upstream_weights_0 (K : Nat) (rec : List D → Option (Nat × List D)) (ds : List D) : evLoop (T_upstream_weights K) 18 (sub (codeOf Try.f129) [1, 1, 0, 1, 0, 0]) .go (c_upstream_weights_0 K) rec ds = b_upstream_weights_0 K rec ds := by kernel_rfl
theorem k_upstream_weights_0 (K : Nat) : CutOK Try.prog (T_upstream_weights K) 18 (sub (codeOf Try.f129) [1, 1, 0, 1, 0]) (c_upstream_weights_0 K) :=
  loop_thm (T := T_upstream_weights K) (hT_of hT0 rfl rfl rfl) (hes_ok (T0 := T0) (T := T_upstream_weights K) rfl rfl (trivial : FAll Try.prog T0 [])) (by kernel_rfl) rfl rfl rfl (cutsOK_none (by rfl)) rfl (q_upstream_weights_0 K)
theorem q_upstream_weights (K : Nat) (ds : List D) : evFn (T_upstream_weights K) Try.f129 (.seq .go (.seq .go (.seq (.seq .go (.blk (.cut 0))) .go))) (e_upstream_weights K) ds = (e_upstream_weights K).f ds := by kernel_rfl
theorem ok_upstream_weights (K : Nat) : FnOK Try.prog T0 129 (e_upstream_weights K) :=
  fn_thm (T0 := T0) (T := T_upstream_weights K) rfl (hT_of hT0 rfl rfl rfl) (hes_ok (T0 := T0) (T := T_upstream_weights K) rfl rfl (trivial : FAll Try.prog T0 [])) Try.func129 (by decide) rfl (Nat.le_of_ble_eq_true rfl) rfl rfl rfl (tot_none rfl) (cutsOK_list (l := [(0, sub (codeOf Try.f129) [1, 1, 0, 1, 0])]) (by kernel_rfl) ⟨cut_one (u := c_upstream_weights_0 K) rfl (k_upstream_weights_0 K), trivial⟩) (q_upstream_weights K)
/-! ### 80 gatewarden/upstream.Round -/
def b_upstream_Round_1 (K : Nat) (rec : List D → Option (Nat × List D)) (ds : List D) : Option (Nat × List D) :=
  let best := D.nth ds 0
  let s31 := D.nth ds 1
  let s32 := D.nth ds 2
  let s33 := D.nth ds 3
  let r0 := D.nth ds 4
  bif (ltI s33.int s32.int) then
    bif (inB s33.int s31.list.length) then
      bif (inB s33.int r0.list.length) then
        bif (inB s33.int r0.list.length) then
          bif (inB s33.int ((D.setNth r0.list s33.int.toNat (D.i (IntKind.i64.wrap (((D.nth r0.list s33.int.toNat).int) + (((D.nth s31.list s33.int.toNat).at' 1).int))))).length)) then
            bif (inB best.int ((D.setNth r0.list s33.int.toNat (D.i (IntKind.i64.wrap (((D.nth r0.list s33.int.toNat).int) + (((D.nth s31.list s33.int.toNat).at' 1).int))))).length)) then
              bif (gtI ((D.nth (D.setNth r0.list s33.int.toNat (D.i (IntKind.i64.wrap (((D.nth r0.list s33.int.toNat).int) + (((D.nth s31.list s33.int.toNat).at' 1).int))))) s33.int.toNat).int) ((D.nth (D.setNth r0.list s33.int.toNat (D.i (IntKind.i64.wrap (((D.nth r0.list s33.int.toNat).int) + (((D.nth s31.list s33.int.toNat).at' 1).int))))) best.int.toNat).int)) then
                rec [s33, s31, s32, D.i (IntKind.i64.wrap (s33.int + (1 : Int))), D.n (D.setNth r0.list s33.int.toNat (D.i (IntKind.i64.wrap (((D.nth r0.list s33.int.toNat).int) + (((D.nth s31.list s33.int.toNat).at' 1).int)))))]
              else
                rec [best, s31, s32, D.i (IntKind.i64.wrap (s33.int + (1 : Int))), D.n (D.setNth r0.list s33.int.toNat (D.i (IntKind.i64.wrap (((D.nth r0.list s33.int.toNat).int) + (((D.nth s31.list s33.int.toNat).at' 1).int)))))]
            else
              none
          else
            none
        else
          none
      else
        none
    else
      none
  else
    some (0, [best, D.n r0.list])
def c_upstream_Round_1 (K : Nat) : Cut := { sh := { sl := [(7, .own 22 0), (10, .d 3 true), (31, .d 48 false), (32, .d 3 true), (33, .d 3 true)], ob := [(0, .row 3 true)] }, kept := [0], outs := [(.exit 2, { sl := [(10, .d 3 true)], ob := [(0, .row 3 true)] })], f := fun ds => fixN (b_upstream_Round_1 K) K ds }
def b_upstream_Round_0 (K : Nat) (rec : List D → Option (Nat × List D)) (ds : List D) : Option (Nat × List D) :=
  let l := D.nth ds 0
  let sum := D.nth ds 1
  let s28 := D.nth ds 2
  let s29 := D.nth ds 3
  let r0 := D.nth ds 4
  let r1 := D.nth ds 5
  bif (ltI s29.int s28.int) then
    (fixN (b_upstream_Round_1 K) K [D.i 0, l, D.i (l.list.length : Int), D.i 0, D.n r0.list]).bind fun t3 =>
    bif (inB ((D.nth t3.2 0).int) (((D.nth t3.2 1).list).length)) then
      bif (inB ((D.nth t3.2 0).int) (((D.nth t3.2 1).list).length)) then
        bif (inB ((D.nth t3.2 0).int) l.list.length) then
          bif (lim (r1.list.length + 1)) then
            rec [l, sum, s28, D.i (IntKind.i64.wrap (s29.int + (1 : Int))), D.n (D.setNth ((D.nth t3.2 1).list) (((D.nth t3.2 0).int).toNat) (D.i (IntKind.i64.wrap (((D.nth ((D.nth t3.2 1).list) (((D.nth t3.2 0).int).toNat)).int) - sum.int)))), D.n (r1.list ++ [(D.nth l.list (((D.nth t3.2 0).int).toNat)).at' 0])]
          else
            none
        else
          none
      else
        none
    else
      none
  else
    some (0, [D.n r0.list, D.n r1.list])
def c_upstream_Round_0 (K : Nat) : Cut := { sh := { sl := [(0, .d 48 false), (7, .own 22 0), (8, .d 3 true), (9, .own 73 1), (28, .d 3 true), (29, .d 3 true)], ob := [(0, .row 3 true), (1, .row 9 true)] }, kept := [0], outs := [(.exit 0, { sl := [(9, .own 73 1)], ob := [(0, .row 3 true), (1, .row 9 true)] })], f := fun ds => fixN (b_upstream_Round_0 K) K ds }
def f_upstream_Round (K : Nat) (l many : D) : Option (List D) :=
  (f_upstream_CheckInstances K l).bind fun t1 =>
  bif (((D.nth t1 0).int) != (0 : Int)) then
    some [D.nth t1 0, D.n []]
  else
    bif (D.nth (p_kit_Outside many (D.i 0) (D.i 2000)) 0).bool then
      some [D.i 1, D.n []]
    else
      bif ((l.list.length : Int) == (0 : Int)) then
        some [D.i 8, D.n []]
      else
        bif ((leI 0 (l.list.length : Int)) && (lim ((l.list.length : Int).toNat))) then
          (f_upstream_weights K l).bind fun t2 =>
          (fixN (b_upstream_Round_0 K) K [l, D.nth t2 0, many, D.i 0, D.n (List.replicate ((l.list.length : Int).toNat) (D.n [])), D.n []]).bind fun t3 =>
          some [D.i 0, D.n ((D.nth t3.2 1).list)]
        else
          none
def e_upstream_Round (K : Nat) : Entry := { n := 2, sh := { sl := [(0, .d 48 false), (1, .d 3 false)], ob := [] }, kept := [], rs := [{ sl := [(0, .tup [.own 73 0, .d 30 true])], ob := [(0, .row 9 true)] }], f := fun ds => f_upstream_Round K (D.nth ds 0) (D.nth ds 1), tot := none }
def T_upstream_Round (K : Nat) : Tbl := { T0 with ents := entsOf [(38, e_upstream_CheckInstances K), (78, e_kit_Outside K), (129, e_upstream_weights K)], cuts := lk [(0, c_upstream_Round_0 K), (1, c_upstream_Round_1 K)] }
theorem q_upstream_Round_1 (K : Nat) (rec : List D → Option (Nat × List D)) (ds : List D) : evLoop (T_upstream_Round K) 74 (sub (codeOf Try.f80) [1, 1, 1, 1, 1, 1, 1, 0, 1, 0, 0, 1, 1, 0, 0, 1, 0, 1, 0, 0]) .go (c_upstream_Round_1 K) rec ds = b_upstream_Round_1 K rec ds := by kernel_rfl
theorem k_upstream_Round_1 (K : Nat) : CutOK Try.prog (T_upstream_Round K) 74 (sub (codeOf Try.f80) [1, 1, 1, 1, 1, 1, 1, 0, 1, 0, 0, 1, 1, 0, 0, 1, 0, 1, 0]) (c_upstream_Round_1 K) :=
  loop_thm (T := T_upstream_Round K) (hT_of hT0 rfl rfl rfl) (hes_ok (T0 := T0) (T := T_upstream_Round K) rfl rfl (⟨ok_upstream_CheckInstances K, ok_kit_Outside K, ok_upstream_weights K, trivial⟩ : FAll Try.prog T0 [(38, e_upstream_CheckInstances K), (78, e_kit_Outside K), (129, e_upstream_weights K)])) (by kernel_rfl) rfl rfl rfl (cutsOK_none (by rfl)) rfl (q_upstream_Round_1 K)
theorem q_upstream_Round_0 (K : Nat) (rec : List D → Option (Nat × List D)) (ds : List D) : evLoop (T_upstream_Round K) 74 (sub (codeOf Try.f80) [1, 1, 1, 1, 1, 1, 1, 0, 1, 0, 0]) (.seq .go (.seq .go (.seq (.blk (.seq .go (.seq (.seq .go (.blk (.cut 1))) .go))) .go))) (c_upstream_Round_0 K) rec ds = b_upstream_Round_0 K rec ds := by kernel_rfl
theorem k_upstream_Round_0 (K : Nat) : CutOK Try.prog (T_upstream_Round K) 74 (sub (codeOf Try.f80) [1, 1, 1, 1, 1, 1, 1, 0, 1, 0]) (c_upstream_Round_0 K) :=
  loop_thm (T := T_upstream_Round K) (hT_of hT0 rfl rfl rfl) (hes_ok (T0 := T0) (T := T_upstream_Round K) rfl rfl (⟨ok_upstream_CheckInstances K, ok_kit_Outside K, ok_upstream_weights K, trivial⟩ : FAll Try.prog T0 [(38, e_upstream_CheckInstances K), (78, e_kit_Outside K), (129, e_upstream_weights K)])) (by kernel_rfl) rfl rfl rfl (cutsOK_list (l := [(1, sub (codeOf Try.f80) [1, 1, 1, 1, 1, 1, 1, 0, 1, 0, 0, 1, 1, 0, 0, 1, 0, 1, 0])]) (by kernel_rfl) ⟨cut_one (u := c_upstream_Round_1 K) rfl (k_upstream_Round_1 K), trivial⟩) rfl (q_upstream_Round_0 K)
theorem q_upstream_Round (K : Nat) (ds : List D) : evFn (T_upstream_Round K) Try.f80 (.seq .go (.seq .go (.seq .go (.seq .go (.seq .go (.seq .go (.seq .go (.seq (.seq .go (.blk (.cut 0))) .go)))))))) (e_upstream_Round K) ds = (e_upstream_Round K).f ds := by kernel_rfl
theorem ok_upstream_Round (K : Nat) : FnOK Try.prog T0 80 (e_upstream_Round K) :=
  fn_thm (T0 := T0) (T := T_upstream_Round K) rfl (hT_of hT0 rfl rfl rfl) (hes_ok (T0 := T0) (T := T_upstream_Round K) rfl rfl (⟨ok_upstream_CheckInstances K, ok_kit_Outside K, ok_upstream_weights K, trivial⟩ : FAll Try.prog T0 [(38, e_upstream_CheckInstances K), (78, e_kit_Outside K), (129, e_upstream_weights K)])) Try.func80 (by decide) rfl (Nat.le_of_ble_eq_true rfl) rfl rfl rfl (tot_none rfl) (cutsOK_list (l := [(0, sub (codeOf Try.f80) [1, 1, 1, 1, 1, 1, 1, 0, 1, 0])]) (by kernel_rfl) ⟨cut_one (u := c_upstream_Round_0 K) rfl (k_upstream_Round_0 K), trivial⟩) (q_upstream_Round K)
/-! ### 47 slices.Equal[[]string,string] -/
def b_slices_Equal_string_0 (K : Nat) (rec : List D → Option (Nat × List D)) (ds : List D) : Option (Nat × List D) :=
  let s1 := D.nth ds 0
  let s2 := D.nth ds 1
  let s12 := D.nth ds 2
  let s13 := D.nth ds 3
  bif (ltI s13.int s12.int) then
    bif (inB s13.int s1.list.length) then
      bif (inB s13.int s2.list.length) then
        bif (!(((D.nth s1.list s13.int.toNat).str) == ((D.nth s2.list s13.int.toNat).str))) then
          some (0, [D.b false])
        else
          rec [s1, s2, s12, D.i (IntKind.i64.wrap (s13.int + (1 : Int)))]
      else
        none
    else
      none
  else
    some (1, [])
def c_slices_Equal_string_0 (K : Nat) : Cut := { sh := { sl := [(0, .d 73 false), (1, .d 73 false), (12, .d 3 true), (13, .d 3 true)], ob := [] }, kept := [], outs := [(.ret, { sl := [(4, .d 4 true)], ob := [] }), (.exit 0, { sl := [], ob := [] })], f := fun ds => fixN (b_slices_Equal_string_0 K) K ds }
def f_slices_Equal_string (K : Nat) (s1 s2 : D) : Option (List D) :=
  bif ((s1.list.length : Int) != (s2.list.length : Int)) then
    some [D.b false]
  else
    (fixN (b_slices_Equal_string_0 K) K [s1, s2, D.i (s1.list.length : Int), D.i 0]).bind fun t1 =>
    bif (t1.1.beq 0) then
      some [D.nth t1.2 0]
    else
      some [D.b true]
def e_slices_Equal_string (K : Nat) : Entry := { n := 2, sh := { sl := [(0, .d 73 false), (1, .d 73 false)], ob := [] }, kept := [], rs := [{ sl := [(0, .d 4 true)], ob := [] }], f := fun ds => f_slices_Equal_string K (D.nth ds 0) (D.nth ds 1), tot := none }
def T_slices_Equal_string (K : Nat) : Tbl := { T0 with ents := entsOf [], cuts := lk [(0, c_slices_Equal_string_0 K)] }
theorem q_slices_Equal_string_0 (K : Nat) (rec : List D → Option (Nat × List D)) (ds : List D) : evLoop (T_slices_Equal_string K) 26 (sub (codeOf Try.f47) [1, 1, 0, 1, 0, 0]) .go (c_slices_Equal_string_0 K) rec ds = b_slices_Equal_string_0 K rec ds := by kernel_rfl
theorem k_slices_Equal_string_0 (K : Nat) : CutOK Try.prog (T_slices_Equal_string K) 26 (sub (codeOf Try.f47) [1, 1, 0, 1, 0]) (c_slices_Equal_string_0 K) :=
  loop_thm (T := T_slices_Equal_string K) (hT_of hT0 rfl rfl rfl) (hes_ok (T0 := T0) (T := T_slices_Equal_string K) rfl rfl (trivial : FAll Try.prog T0 [])) (by kernel_rfl) rfl rfl rfl (cutsOK_none (by rfl)) rfl (q_slices_Equal_string_0 K)
theorem q_slices_Equal_string (K : Nat) (ds : List D) : evFn (T_slices_Equal_string K) Try.f47 (.seq .go (.seq .go (.seq (.seq .go (.blk (.cut 0))) .go))) (e_slices_Equal_string K) ds = (e_slices_Equal_string K).f ds := by kernel_rfl
theorem ok_slices_Equal_string (K : Nat) : FnOK Try.prog T0 47 (e_slices_Equal_string K) :=
  fn_thm (T0 := T0) (T := T_slices_Equal_string K) rfl (hT_of hT0 rfl rfl rfl) (hes_ok (T0 := T0) (T := T_slices_Equal_string K) rfl rfl (trivial : FAll Try.prog T0 [])) Try.func47 (by decide) rfl (Nat.le_of_ble_eq_true rfl) rfl rfl rfl (tot_none rfl) (cutsOK_list (l := [(0, sub (codeOf Try.f47) [1, 1, 0, 1, 0])]) (by kernel_rfl) ⟨cut_one (u := c_slices_Equal_string_0 K) rfl (k_slices_Equal_string_0 K), trivial⟩) (q_slices_Equal_string K)
/-! ### 12 gatewarden/gatelaw2.balanced -/
def f_gatelaw2_balanced (K : Nat) : Option (List D) :=
  (f_upstream_Round K (D.n [D.n [D.s [97], D.i 1], D.n [D.s [98], D.i 2]]) (D.i 3)).bind fun t1 =>
  bif (((D.nth t1 0).int) == (0 : Int)) then
    (f_slices_Equal_string K (D.n ((D.nth t1 1).list)) (D.n [D.s [98], D.s [97], D.s [98]])).bind fun t2 =>
    some [D.b ((D.nth t2 0).bool)]
  else
    some [D.b false]
def e_gatelaw2_balanced (K : Nat) : Entry := { n := 0, sh := { sl := [], ob := [] }, kept := [], rs := [{ sl := [(0, .d 4 true)], ob := [] }], f := fun ds => f_gatelaw2_balanced K, tot := none }
def T_gatelaw2_balanced (K : Nat) : Tbl := { T0 with ents := entsOf [(80, e_upstream_Round K), (47, e_slices_Equal_string K)], cuts := lk [] }
theorem q_gatelaw2_balanced (K : Nat) (ds : List D) : evFn (T_gatelaw2_balanced K) Try.f12 .go (e_gatelaw2_balanced K) ds = (e_gatelaw2_balanced K).f ds := by kernel_rfl
theorem ok_gatelaw2_balanced (K : Nat) : FnOK Try.prog T0 12 (e_gatelaw2_balanced K) :=
  fn_thm (T0 := T0) (T := T_gatelaw2_balanced K) rfl (hT_of hT0 rfl rfl rfl) (hes_ok (T0 := T0) (T := T_gatelaw2_balanced K) rfl rfl (⟨ok_upstream_Round K, ok_slices_Equal_string K, trivial⟩ : FAll Try.prog T0 [(80, e_upstream_Round K), (47, e_slices_Equal_string K)])) Try.func12 (by decide) rfl (Nat.le_of_ble_eq_true rfl) rfl rfl rfl (tot_none rfl) (cutsOK_none (by rfl)) (q_gatelaw2_balanced K)
/-! ### 8 gatewarden/gatelaw2.TriesAgain -/
def b_gatelaw2_TriesAgain_4 (K : Nat) (ds : List D) : Option (Nat × List D) :=
  let wait := D.nth ds 0
  let most := D.nth ds 1
  let vtry := D.nth ds 2
  let wm := D.nth ds 3
  let s134 := D.nth ds 4
  bif s134.bool then
    (f_gateref2_BackoffOf K wait most vtry).bind fun t25 =>
    some (0, [D.nth t25 0])
  else
    some (0, [wm])
def c_gatelaw2_TriesAgain_4 (K : Nat) : Cut := { sh := { sl := [(6, .d 3 true), (7, .d 3 true), (8, .d 3 true), (25, .d 3 true), (134, .d 4 true)], ob := [] }, kept := [], outs := [(.normal, { sl := [(25, .d 3 true)], ob := [] })], f := b_gatelaw2_TriesAgain_4 K }
def b_gatelaw2_TriesAgain_3 (K : Nat) (ds : List D) : Option (Nat × List D) :=
  let part := D.nth ds 0
  let wn := D.nth ds 1
  let s129 := D.nth ds 2
  let r0 := D.nth ds 3
  bif s129.bool then
    (f_gateref2_PercentileOf K (D.n r0.list) part).bind fun t24 =>
    some (0, [D.nth t24 0, D.n r0.list])
  else
    some (0, [wn, D.n r0.list])
def c_gatelaw2_TriesAgain_3 (K : Nat) : Cut := { sh := { sl := [(4, .own 22 0), (5, .d 3 true), (24, .d 3 true), (129, .d 4 true)], ob := [(0, .row 3 true)] }, kept := [0], outs := [(.normal, { sl := [(24, .d 3 true)], ob := [(0, .row 3 true)] })], f := b_gatelaw2_TriesAgain_3 K }
def b_gatelaw2_TriesAgain_2 (K : Nat) (rec : List D → Option (Nat × List D)) (ds : List D) : Option (Nat × List D) :=
  let three := D.nth ds 0
  let s117 := D.nth ds 1
  let s118 := D.nth ds 2
  let r0 := D.nth ds 3
  bif (ltI s118.int s117.int) then
    bif (inB s118.int r0.list.length) then
      (f_gatelaw2_momentFault K (D.nth r0.list s118.int.toNat)).bind fun t23 =>
      (f_gatelaw2_errs K (D.n [three, D.nth t23 0])).bind fun t24 =>
      rec [D.nth t24 0, s117, D.i (IntKind.i64.wrap (s118.int + (1 : Int))), D.n r0.list]
    else
      none
  else
    some (0, [three, D.n r0.list])
def c_gatelaw2_TriesAgain_2 (K : Nat) : Cut := { sh := { sl := [(21, .d 30 true), (116, .own 22 0), (117, .d 3 true), (118, .d 3 true)], ob := [(0, .row 3 true)] }, kept := [0], outs := [(.exit 2, { sl := [(21, .d 30 true)], ob := [(0, .row 3 true)] })], f := fun ds => fixN (b_gatelaw2_TriesAgain_2 K) K ds }
def b_gatelaw2_TriesAgain_1 (K : Nat) (ds : List D) : Option (Nat × List D) :=
  let wait := D.nth ds 0
  let most := D.nth ds 1
  let s53 := D.nth ds 2
  let o0 := D.nth ds 3
  bif s53.bool then
    (f_gatemake_Stream_Odd K (D.i 0) (D.i 100) o0).bind fun t8 =>
    (f_gatemake_Stream_Odd K (D.i 0) (D.i 3600000) (D.nth t8 1)).bind fun t9 =>
    some (0, [D.nth t8 0, D.nth t9 0, D.nth t9 1])
  else
    some (0, [wait, most, o0])
def c_gatelaw2_TriesAgain_1 (K : Nat) : Cut := { sh := { sl := [(3, .ptr 25 0 []), (6, .d 3 true), (7, .d 3 true), (53, .d 4 true)], ob := [(0, .box 25 (.d 25 false))] }, kept := [0], outs := [(.normal, { sl := [(6, .d 3 true), (7, .d 3 true)], ob := [(0, .box 25 (.d 25 false))] })], f := b_gatelaw2_TriesAgain_1 K }
def b_gatelaw2_TriesAgain_0 (K : Nat) (rec : List D → Option (Nat × List D)) (ds : List D) : Option (Nat × List D) :=
  let s30 := D.nth ds 0
  let s31 := D.nth ds 1
  let o0 := D.nth ds 2
  let r1 := D.nth ds 3
  bif (ltI s31.int s30.int) then
    (f_gatemake_Stream_Pick K o0 (D.n [D.i 0, D.i 1, D.i 2, D.i 5, D.i 9, D.i (-4), D.i 100])).bind fun t2 =>
    bif (lim (r1.list.length + 1)) then
      rec [s30, D.i (IntKind.i64.wrap (s31.int + (1 : Int))), D.nth t2 1, D.n (r1.list ++ [D.nth t2 0])]
    else
      none
  else
    some (0, [o0, D.n r1.list])
def c_gatelaw2_TriesAgain_0 (K : Nat) : Cut := { sh := { sl := [(3, .ptr 25 0 []), (4, .own 22 1), (30, .d 3 true), (31, .d 3 true)], ob := [(0, .box 25 (.d 25 false)), (1, .row 3 true)] }, kept := [0], outs := [(.exit 0, { sl := [(4, .own 22 1)], ob := [(0, .box 25 (.d 25 false)), (1, .row 3 true)] })], f := fun ds => fixN (b_gatelaw2_TriesAgain_0 K) K ds }
def f_gatelaw2_TriesAgain (K : Nat) (l : D) : Option (List D) :=
  (f_gatemake_Stream_Range K (D.i 0) (D.i 8) (D.n [l, D.i 0])).bind fun t1 =>
  (fixN (b_gatelaw2_TriesAgain_0 K) K [D.nth t1 0, D.i 0, D.nth t1 1, D.n []]).bind fun t2 =>
  (f_gatemake_Stream_Pick K (D.nth t2.2 0) (D.n [D.i 1, D.i 250, D.i 500, D.i 501, D.i 900, D.i 999, D.i 1000, D.i 0, D.i 1001])).bind fun t3 =>
  (f_gatemake_Stream_Pick K (D.nth t3 1) (D.n [D.i 0, D.i 1, D.i 10, D.i 100])).bind fun t4 =>
  (f_gatemake_Stream_Pick K (D.nth t4 1) (D.n [D.i 100, D.i 150, D.i 1000, D.i 3600000])).bind fun t5 =>
  (f_gatemake_Stream_Pick K (D.nth t5 1) (D.n [D.i 2, D.i 3, D.i 4, D.i 5, D.i 100, D.i 1, D.i 101])).bind fun t6 =>
  (f_gatemake_Stream_Flip K (D.i 12) (D.nth t6 1)).bind fun t7 =>
  (b_gatelaw2_TriesAgain_1 K [D.nth t4 0, D.nth t5 0, D.nth t7 0, D.nth t7 1]).bind fun t8 =>
  (f_gatemake_Stream_Budget K (D.nth t8.2 2)).bind fun t9 =>
  (f_gatemake_Stream_Times K (D.i 8) (D.nth t9 1)).bind fun t10 =>
  (f_gatemake_Stream_Times K (D.i 6) (D.nth t10 1)).bind fun t11 =>
  (f_gatemake_Stream_Pick K (D.nth t11 1) (D.n [D.i 0, D.i 5, D.i 50, D.i 100, D.i 150, D.i (-1)])).bind fun t12 =>
  (f_upstream_Percentile K (D.n ((D.nth t2.2 1).list)) (D.nth t3 0)).bind fun t13 =>
  (f_upstream_Backoff K (D.nth t8.2 0) (D.nth t8.2 1) (D.nth t6 0)).bind fun t14 =>
  (f_upstream_May K (D.nth t9 0) (D.nth t10 0) (D.nth t11 0) (D.nth t12 0)).bind fun t15 =>
  (f_gatelaw2_when K (D.b ((((D.nth t2.2 1).list).length : Int) == (0 : Int))) (D.i 8)).bind fun t16 =>
  (f_gatelaw2_when K (D.b (bif (ltI ((D.nth t3 0).int) 1) then true else (gtI ((D.nth t3 0).int) 1000))) (D.i 1)).bind fun t17 =>
  (f_gatelaw2_errs K (D.n [D.nth t16 0, D.nth t17 0])).bind fun t18 =>
  (f_gateref2_BackoffFault K (D.nth t8.2 0) (D.nth t8.2 1) (D.nth t6 0)).bind fun t19 =>
  (f_gateref2_BudgetFault K (D.nth t9 0)).bind fun t20 =>
  (f_upstream_CheckBudget K (D.nth t9 0)).bind fun t21 =>
  bif (((D.nth t21 0).int) != ((D.nth t20 0).int)) then
    some [D.b false]
  else
    (f_slices_Concat_int K (D.n [D.nth t10 0, D.nth t11 0, D.n [D.nth t12 0]])).bind fun t22 =>
    (fixN (b_gatelaw2_TriesAgain_2 K) K [D.nth t20 0, D.i (((D.nth t22 0).list).length : Int), D.i 0, D.n ((D.nth t22 0).list)]).bind fun t23 =>
    (b_gatelaw2_TriesAgain_3 K [D.nth t3 0, D.i 0, D.b (((D.nth t18 0).int) == (0 : Int)), D.n ((D.nth t2.2 1).list)]).bind fun t24 =>
    (b_gatelaw2_TriesAgain_4 K [D.nth t8.2 0, D.nth t8.2 1, D.nth t6 0, D.i 0, D.b (((D.nth t19 0).int) == (0 : Int))]).bind fun t25 =>
    bif (bif (bif (bif (bif (((D.nth t13 1).int) == ((D.nth t18 0).int)) then (((D.nth t13 0).int) == ((D.nth t24.2 0).int)) else false) then (((D.nth t14 1).int) == ((D.nth t19 0).int)) else false) then (((D.nth t14 0).int) == ((D.nth t25.2 0).int)) else false) then (((D.nth t15 1).int) == ((D.nth t23.2 0).int)) else false) then
      bif (((D.nth t23.2 0).int) == (0 : Int)) then
        (f_gateref2_MayOf K (D.nth t9 0) (D.nth t10 0) (D.nth t11 0) (D.nth t12 0)).bind fun t26 =>
        bif ((D.nth t15 0).bool == (D.nth t26 0).bool) then
          (f_gatelaw2_balanced K).bind fun t27 =>
          some [D.b ((D.nth t27 0).bool)]
        else
          some [D.b false]
      else
        bif ((D.nth t15 0).bool == false) then
          (f_gatelaw2_balanced K).bind fun t28 =>
          some [D.b ((D.nth t28 0).bool)]
        else
          some [D.b false]
    else
      some [D.b false]
def e_gatelaw2_TriesAgain (K : Nat) : Entry := { n := 1, sh := { sl := [(0, .d 22 false)], ob := [] }, kept := [], rs := [{ sl := [(0, .d 4 true)], ob := [] }], f := fun ds => f_gatelaw2_TriesAgain K (D.nth ds 0), tot := none }
def T_gatelaw2_TriesAgain (K : Nat) : Tbl := { T0 with ents := entsOf [(13, e_gatemake_Stream_Range K), (14, e_gatemake_Stream_Pick K), (15, e_gatemake_Stream_Flip K), (64, e_gatemake_Stream_Odd K), (65, e_gatemake_Stream_Budget K), (66, e_gatemake_Stream_Times K), (67, e_upstream_Percentile K), (68, e_upstream_Backoff K), (69, e_upstream_May K), (70, e_gatelaw2_when K), (40, e_gatelaw2_errs K), (71, e_gateref2_BackoffFault K), (72, e_gateref2_BudgetFault K), (73, e_upstream_CheckBudget K), (74, e_slices_Concat_int K), (43, e_gatelaw2_momentFault K), (75, e_gateref2_PercentileOf K), (76, e_gateref2_BackoffOf K), (77, e_gateref2_MayOf K), (12, e_gatelaw2_balanced K)], cuts := lk [(0, c_gatelaw2_TriesAgain_0 K), (1, c_gatelaw2_TriesAgain_1 K), (2, c_gatelaw2_TriesAgain_2 K), (3, c_gatelaw2_TriesAgain_3 K), (4, c_gatelaw2_TriesAgain_4 K)] }
theorem q_gatelaw2_TriesAgain_4 (K : Nat) (ds : List D) : evPiece (T_gatelaw2_TriesAgain K) 178 (sub (codeOf Try.f8) [1, 1, 1, 1, 1, 1, 1, 1, 1, 1, 1, 1, 1, 1, 1, 1, 0, 1]) .go (c_gatelaw2_TriesAgain_4 K) ds = b_gatelaw2_TriesAgain_4 K ds := by kernel_rfl
theorem k_gatelaw2_TriesAgain_4 (K : Nat) : CutOK Try.prog (T_gatelaw2_TriesAgain K) 178 (sub (codeOf Try.f8) [1, 1, 1, 1, 1, 1, 1, 1, 1, 1, 1, 1, 1, 1, 1, 1, 0, 1]) (c_gatelaw2_TriesAgain_4 K) :=
  piece_thm (T := T_gatelaw2_TriesAgain K) (hT_of hT0 rfl rfl rfl) (hes_ok (T0 := T0) (T := T_gatelaw2_TriesAgain K) rfl rfl (⟨ok_gatemake_Stream_Range K, ok_gatemake_Stream_Pick K, ok_gatemake_Stream_Flip K, ok_gatemake_Stream_Odd K, ok_gatemake_Stream_Budget K, ok_gatemake_Stream_Times K, ok_upstream_Percentile K, ok_upstream_Backoff K, ok_upstream_May K, ok_gatelaw2_when K, ok_gatelaw2_errs K, ok_gateref2_BackoffFault K, ok_gateref2_BudgetFault K, ok_upstream_CheckBudget K, ok_slices_Concat_int K, ok_gatelaw2_momentFault K, ok_gateref2_PercentileOf K, ok_gateref2_BackoffOf K, ok_gateref2_MayOf K, ok_gatelaw2_balanced K, trivial⟩ : FAll Try.prog T0 [(13, e_gatemake_Stream_Range K), (14, e_gatemake_Stream_Pick K), (15, e_gatemake_Stream_Flip K), (64, e_gatemake_Stream_Odd K), (65, e_gatemake_Stream_Budget K), (66, e_gatemake_Stream_Times K), (67, e_upstream_Percentile K), (68, e_upstream_Backoff K), (69, e_upstream_May K), (70, e_gatelaw2_when K), (40, e_gatelaw2_errs K), (71, e_gateref2_BackoffFault K), (72, e_gateref2_BudgetFault K), (73, e_upstream_CheckBudget K), (74, e_slices_Concat_int K), (43, e_gatelaw2_momentFault K), (75, e_gateref2_PercentileOf K), (76, e_gateref2_BackoffOf K), (77, e_gateref2_MayOf K), (12, e_gatelaw2_balanced K)])) rfl rfl rfl (cutsOK_none (by rfl)) (q_gatelaw2_TriesAgain_4 K)
theorem q_gatelaw2_TriesAgain_3 (K : Nat) (ds : List D) : evPiece (T_gatelaw2_TriesAgain K) 178 (sub (codeOf Try.f8) [1, 1, 1, 1, 1, 1, 1, 1, 1, 1, 1, 1, 1, 1, 1, 0, 1]) .go (c_gatelaw2_TriesAgain_3 K) ds = b_gatelaw2_TriesAgain_3 K ds := by kernel_rfl
theorem k_gatelaw2_TriesAgain_3 (K : Nat) : CutOK Try.prog (T_gatelaw2_TriesAgain K) 178 (sub (codeOf Try.f8) [1, 1, 1, 1, 1, 1, 1, 1, 1, 1, 1, 1, 1, 1, 1, 0, 1]) (c_gatelaw2_TriesAgain_3 K) :=
  piece_thm (T := T_gatelaw2_TriesAgain K) (hT_of hT0 rfl rfl rfl) (hes_ok (T0 := T0) (T := T_gatelaw2_TriesAgain K) rfl rfl (⟨ok_gatemake_Stream_Range K, ok_gatemake_Stream_Pick K, ok_gatemake_Stream_Flip K, ok_gatemake_Stream_Odd K, ok_gatemake_Stream_Budget K, ok_gatemake_Stream_Times K, ok_upstream_Percentile K, ok_upstream_Backoff K, ok_upstream_May K, ok_gatelaw2_when K, ok_gatelaw2_errs K, ok_gateref2_BackoffFault K, ok_gateref2_BudgetFault K, ok_upstream_CheckBudget K, ok_slices_Concat_int K, ok_gatelaw2_momentFault K, ok_gateref2_PercentileOf K, ok_gateref2_BackoffOf K, ok_gateref2_MayOf K, ok_gatelaw2_balanced K, trivial⟩ : FAll Try.prog T0 [(13, e_gatemake_Stream_Range K), (14, e_gatemake_Stream_Pick K), (15, e_gatemake_Stream_Flip K), (64, e_gatemake_Stream_Odd K), (65, e_gatemake_Stream_Budget K), (66, e_gatemake_Stream_Times K), (67, e_upstream_Percentile K), (68, e_upstream_Backoff K), (69, e_upstream_May K), (70, e_gatelaw2_when K), (40, e_gatelaw2_errs K), (71, e_gateref2_BackoffFault K), (72, e_gateref2_BudgetFault K), (73, e_upstream_CheckBudget K), (74, e_slices_Concat_int K), (43, e_gatelaw2_momentFault K), (75, e_gateref2_PercentileOf K), (76, e_gateref2_BackoffOf K), (77, e_gateref2_MayOf K), (12, e_gatelaw2_balanced K)])) rfl rfl rfl (cutsOK_none (by rfl)) (q_gatelaw2_TriesAgain_3 K)
theorem q_gatelaw2_TriesAgain_2 (K : Nat) (rec : List D → Option (Nat × List D)) (ds : List D) : evLoop (T_gatelaw2_TriesAgain K) 178 (sub (codeOf Try.f8) [1, 1, 1, 1, 1, 1, 1, 1, 1, 1, 1, 1, 1, 0, 1, 0, 0]) .go (c_gatelaw2_TriesAgain_2 K) rec ds = b_gatelaw2_TriesAgain_2 K rec ds := by kernel_rfl
theorem k_gatelaw2_TriesAgain_2 (K : Nat) : CutOK Try.prog (T_gatelaw2_TriesAgain K) 178 (sub (codeOf Try.f8) [1, 1, 1, 1, 1, 1, 1, 1, 1, 1, 1, 1, 1, 0, 1, 0]) (c_gatelaw2_TriesAgain_2 K) :=
  loop_thm (T := T_gatelaw2_TriesAgain K) (hT_of hT0 rfl rfl rfl) (hes_ok (T0 := T0) (T := T_gatelaw2_TriesAgain K) rfl rfl (⟨ok_gatemake_Stream_Range K, ok_gatemake_Stream_Pick K, ok_gatemake_Stream_Flip K, ok_gatemake_Stream_Odd K, ok_gatemake_Stream_Budget K, ok_gatemake_Stream_Times K, ok_upstream_Percentile K, ok_upstream_Backoff K, ok_upstream_May K, ok_gatelaw2_when K, ok_gatelaw2_errs K, ok_gateref2_BackoffFault K, ok_gateref2_BudgetFault K, ok_upstream_CheckBudget K, ok_slices_Concat_int K, ok_gatelaw2_momentFault K, ok_gateref2_PercentileOf K, ok_gateref2_BackoffOf K, ok_gateref2_MayOf K, ok_gatelaw2_balanced K, trivial⟩ : FAll Try.prog T0 [(13, e_gatemake_Stream_Range K), (14, e_gatemake_Stream_Pick K), (15, e_gatemake_Stream_Flip K), (64, e_gatemake_Stream_Odd K), (65, e_gatemake_Stream_Budget K), (66, e_gatemake_Stream_Times K), (67, e_upstream_Percentile K), (68, e_upstream_Backoff K), (69, e_upstream_May K), (70, e_gatelaw2_when K), (40, e_gatelaw2_errs K), (71, e_gateref2_BackoffFault K), (72, e_gateref2_BudgetFault K), (73, e_upstream_CheckBudget K), (74, e_slices_Concat_int K), (43, e_gatelaw2_momentFault K), (75, e_gateref2_PercentileOf K), (76, e_gateref2_BackoffOf K), (77, e_gateref2_MayOf K), (12, e_gatelaw2_balanced K)])) (by kernel_rfl) rfl rfl rfl (cutsOK_none (by rfl)) rfl (q_gatelaw2_TriesAgain_2 K)
theorem q_gatelaw2_TriesAgain_1 (K : Nat) (ds : List D) : evPiece (T_gatelaw2_TriesAgain K) 178 (sub (codeOf Try.f8) [1, 1, 1, 1, 1, 0, 1]) .go (c_gatelaw2_TriesAgain_1 K) ds = b_gatelaw2_TriesAgain_1 K ds := by kernel_rfl
theorem k_gatelaw2_TriesAgain_1 (K : Nat) : CutOK Try.prog (T_gatelaw2_TriesAgain K) 178 (sub (codeOf Try.f8) [1, 1, 1, 1, 1, 0, 1]) (c_gatelaw2_TriesAgain_1 K) :=
  piece_thm (T := T_gatelaw2_TriesAgain K) (hT_of hT0 rfl rfl rfl) (hes_ok (T0 := T0) (T := T_gatelaw2_TriesAgain K) rfl rfl (⟨ok_gatemake_Stream_Range K, ok_gatemake_Stream_Pick K, ok_gatemake_Stream_Flip K, ok_gatemake_Stream_Odd K, ok_gatemake_Stream_Budget K, ok_gatemake_Stream_Times K, ok_upstream_Percentile K, ok_upstream_Backoff K, ok_upstream_May K, ok_gatelaw2_when K, ok_gatelaw2_errs K, ok_gateref2_BackoffFault K, ok_gateref2_BudgetFault K, ok_upstream_CheckBudget K, ok_slices_Concat_int K, ok_gatelaw2_momentFault K, ok_gateref2_PercentileOf K, ok_gateref2_BackoffOf K, ok_gateref2_MayOf K, ok_gatelaw2_balanced K, trivial⟩ : FAll Try.prog T0 [(13, e_gatemake_Stream_Range K), (14, e_gatemake_Stream_Pick K), (15, e_gatemake_Stream_Flip K), (64, e_gatemake_Stream_Odd K), (65, e_gatemake_Stream_Budget K), (66, e_gatemake_Stream_Times K), (67, e_upstream_Percentile K), (68, e_upstream_Backoff K), (69, e_upstream_May K), (70, e_gatelaw2_when K), (40, e_gatelaw2_errs K), (71, e_gateref2_BackoffFault K), (72, e_gateref2_BudgetFault K), (73, e_upstream_CheckBudget K), (74, e_slices_Concat_int K), (43, e_gatelaw2_momentFault K), (75, e_gateref2_PercentileOf K), (76, e_gateref2_BackoffOf K), (77, e_gateref2_MayOf K), (12, e_gatelaw2_balanced K)])) rfl rfl rfl (cutsOK_none (by rfl)) (q_gatelaw2_TriesAgain_1 K)
theorem q_gatelaw2_TriesAgain_0 (K : Nat) (rec : List D → Option (Nat × List D)) (ds : List D) : evLoop (T_gatelaw2_TriesAgain K) 178 (sub (codeOf Try.f8) [1, 1, 1, 0, 1, 0, 0]) .go (c_gatelaw2_TriesAgain_0 K) rec ds = b_gatelaw2_TriesAgain_0 K rec ds := by kernel_rfl
theorem k_gatelaw2_TriesAgain_0 (K : Nat) : CutOK Try.prog (T_gatelaw2_TriesAgain K) 178 (sub (codeOf Try.f8) [1, 1, 1, 0, 1, 0]) (c_gatelaw2_TriesAgain_0 K) :=
  loop_thm (T := T_gatelaw2_TriesAgain K) (hT_of hT0 rfl rfl rfl) (hes_ok (T0 := T0) (T := T_gatelaw2_TriesAgain K) rfl rfl (⟨ok_gatemake_Stream_Range K, ok_gatemake_Stream_Pick K, ok_gatemake_Stream_Flip K, ok_gatemake_Stream_Odd K, ok_gatemake_Stream_Budget K, ok_gatemake_Stream_Times K, ok_upstream_Percentile K, ok_upstream_Backoff K, ok_upstream_May K, ok_gatelaw2_when K, ok_gatelaw2_errs K, ok_gateref2_BackoffFault K, ok_gateref2_BudgetFault K, ok_upstream_CheckBudget K, ok_slices_Concat_int K, ok_gatelaw2_momentFault K, ok_gateref2_PercentileOf K, ok_gateref2_BackoffOf K, ok_gateref2_MayOf K, ok_gatelaw2_balanced K, trivial⟩ : FAll Try.prog T0 [(13, e_gatemake_Stream_Range K), (14, e_gatemake_Stream_Pick K), (15, e_gatemake_Stream_Flip K), (64, e_gatemake_Stream_Odd K), (65, e_gatemake_Stream_Budget K), (66, e_gatemake_Stream_Times K), (67, e_upstream_Percentile K), (68, e_upstream_Backoff K), (69, e_upstream_May K), (70, e_gatelaw2_when K), (40, e_gatelaw2_errs K), (71, e_gateref2_BackoffFault K), (72, e_gateref2_BudgetFault K), (73, e_upstream_CheckBudget K), (74, e_slices_Concat_int K), (43, e_gatelaw2_momentFault K), (75, e_gateref2_PercentileOf K), (76, e_gateref2_BackoffOf K), (77, e_gateref2_MayOf K), (12, e_gatelaw2_balanced K)])) (by kernel_rfl) rfl rfl rfl (cutsOK_none (by rfl)) rfl (q_gatelaw2_TriesAgain_0 K)
theorem q_gatelaw2_TriesAgain (K : Nat) (ds : List D) : evFn (T_gatelaw2_TriesAgain K) Try.f8 (.seq .go (.seq .go (.seq .go (.seq (.seq .go (.blk (.cut 0))) (.seq .go (.seq (.seq .go (.cut 1)) (.seq .go (.seq .go (.seq .go (.seq .go (.seq .go (.seq .go (.seq .go (.seq (.seq .go (.blk (.cut 2))) (.seq .go (.seq (.seq .go (.cut 3)) (.seq (.seq .go (.cut 4)) .go))))))))))))))))) (e_gatelaw2_TriesAgain K) ds = (e_gatelaw2_TriesAgain K).f ds := by kernel_rfl
theorem ok_gatelaw2_TriesAgain (K : Nat) : FnOK Try.prog T0 8 (e_gatelaw2_TriesAgain K) :=
  fn_thm (T0 := T0) (T := T_gatelaw2_TriesAgain K) rfl (hT_of hT0 rfl rfl rfl) (hes_ok (T0 := T0) (T := T_gatelaw2_TriesAgain K) rfl rfl (⟨ok_gatemake_Stream_Range K, ok_gatemake_Stream_Pick K, ok_gatemake_Stream_Flip K, ok_gatemake_Stream_Odd K, ok_gatemake_Stream_Budget K, ok_gatemake_Stream_Times K, ok_upstream_Percentile K, ok_upstream_Backoff K, ok_upstream_May K, ok_gatelaw2_when K, ok_gatelaw2_errs K, ok_gateref2_BackoffFault K, ok_gateref2_BudgetFault K, ok_upstream_CheckBudget K, ok_slices_Concat_int K, ok_gatelaw2_momentFault K, ok_gateref2_PercentileOf K, ok_gateref2_BackoffOf K, ok_gateref2_MayOf K, ok_gatelaw2_balanced K, trivial⟩ : FAll Try.prog T0 [(13, e_gatemake_Stream_Range K), (14, e_gatemake_Stream_Pick K), (15, e_gatemake_Stream_Flip K), (64, e_gatemake_Stream_Odd K), (65, e_gatemake_Stream_Budget K), (66, e_gatemake_Stream_Times K), (67, e_upstream_Percentile K), (68, e_upstream_Backoff K), (69, e_upstream_May K), (70, e_gatelaw2_when K), (40, e_gatelaw2_errs K), (71, e_gateref2_BackoffFault K), (72, e_gateref2_BudgetFault K), (73, e_upstream_CheckBudget K), (74, e_slices_Concat_int K), (43, e_gatelaw2_momentFault K), (75, e_gateref2_PercentileOf K), (76, e_gateref2_BackoffOf K), (77, e_gateref2_MayOf K), (12, e_gatelaw2_balanced K)])) Try.func8 (by decide) rfl (Nat.le_of_ble_eq_true rfl) rfl rfl rfl (tot_none rfl) (cutsOK_list (l := [(0, sub (codeOf Try.f8) [1, 1, 1, 0, 1, 0]), (1, sub (codeOf Try.f8) [1, 1, 1, 1, 1, 0, 1]), (2, sub (codeOf Try.f8) [1, 1, 1, 1, 1, 1, 1, 1, 1, 1, 1, 1, 1, 0, 1, 0]), (3, sub (codeOf Try.f8) [1, 1, 1, 1, 1, 1, 1, 1, 1, 1, 1, 1, 1, 1, 1, 0, 1]), (4, sub (codeOf Try.f8) [1, 1, 1, 1, 1, 1, 1, 1, 1, 1, 1, 1, 1, 1, 1, 1, 0, 1])]) (by kernel_rfl) ⟨cut_one (u := c_gatelaw2_TriesAgain_0 K) rfl (k_gatelaw2_TriesAgain_0 K), cut_one (u := c_gatelaw2_TriesAgain_1 K) rfl (k_gatelaw2_TriesAgain_1 K), cut_one (u := c_gatelaw2_TriesAgain_2 K) rfl (k_gatelaw2_TriesAgain_2 K), cut_one (u := c_gatelaw2_TriesAgain_3 K) rfl (k_gatelaw2_TriesAgain_3 K), cut_one (u := c_gatelaw2_TriesAgain_4 K) rfl (k_gatelaw2_TriesAgain_4 K), trivial⟩) (q_gatelaw2_TriesAgain K)
end Go.Proofs.YtlogmjgkbfahjaaP
