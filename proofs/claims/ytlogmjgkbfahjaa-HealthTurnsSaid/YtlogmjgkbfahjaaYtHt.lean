/- Printed by gen.py. -/
import Derived.Test.YtlogmjgkbfahjaaProg
import Derived.Test.YtlogmjgkbfahjaaEvKit
import Derived.Test.YtlogmjgkbfahjaaEvClear
import Derived.Test.YtlogmjgkbfahjaaEvFlat
import Derived.Test.YtlogmjgkbfahjaaEvClone
namespace Go.Proofs.YtlogmjgkbfahjaaP
open Go Go.Ev 
set_option linter.unusedVariables false
def tys : List (Nat × K) := [(3, .int .i64), (4, .bool), (5, .int .u8), (9, .str), (22, .slice 3 (.int .i64)), (23, .ptr), (25, .pair 22 (.slice 3 (.int .i64)) (.pair 3 (.int .i64) .unit)), (30, .int .i64), (48, .slice 121 (.pair 9 .str (.pair 3 (.int .i64) .unit))), (66, .pair 3 (.int .i64) (.pair 3 (.int .i64) .unit)), (68, .slice 142 (.pair 3 (.int .i64) (.pair 9 .str (.pair 4 .bool .unit)))), (70, .slice 84 (.pair 3 (.int .i64) (.pair 9 .str (.pair 4 .bool .unit)))), (73, .slice 9 .str), (84, .pair 3 (.int .i64) (.pair 9 .str (.pair 4 .bool .unit))), (121, .pair 9 .str (.pair 3 (.int .i64) .unit)), (135, .map 9 4), (142, .pair 3 (.int .i64) (.pair 9 .str (.pair 4 .bool .unit))), (144, .slice 148 (.pair 4 .bool (.pair 3 (.int .i64) .unit))), (148, .pair 4 .bool (.pair 3 (.int .i64) .unit)), (149, .slice 30 (.int .i64)), (150, .slice 151 (.pd 84 (.pair 3 (.int .i64) (.pair 9 .str (.pair 4 .bool .unit))))), (151, .pd 84 (.pair 3 (.int .i64) (.pair 9 .str (.pair 4 .bool .unit)))), (193, .int .u64)]
def T0 : Tbl := { kd := lk tys, boolT := 4, intT := 3, byteT := 5, frz := fun _ => false, ents := fun _ => [], cuts := fun _ => none }
theorem ty3 : TyOK Try.prog (lk tys) 3 (.int .i64) :=
  tyOK (z := .int .i64 0) (n := 1) (by kernel_rfl) rfl rfl rfl Try.underlying3 rfl (fun _ h => by cases h)
theorem ty4 : TyOK Try.prog (lk tys) 4 .bool :=
  tyOK (z := .bool false) (n := 1) (by kernel_rfl) rfl rfl rfl Try.underlying4 rfl (fun _ h => by cases h)
theorem ty5 : TyOK Try.prog (lk tys) 5 (.int .u8) :=
  tyOK (z := .int .u8 0) (n := 1) (by kernel_rfl) rfl rfl rfl Try.underlying5 rfl (fun _ h => by cases h)
theorem ty9 : TyOK Try.prog (lk tys) 9 .str :=
  tyOK (z := .string ⟨#[]⟩) (n := 1) (by kernel_rfl) rfl rfl rfl Try.underlying9 rfl (fun _ h => by cases h)
theorem ty22 : TyOK Try.prog (lk tys) 22 (.slice 3 (.int .i64)) :=
  tyOK (z := .slice none 0 0) (n := 1) (by kernel_rfl) rfl rfl rfl Try.underlying22 ⟨_, rfl, rfl⟩ (fun _ h => by cases h)
theorem ty23 : TyOK Try.prog (lk tys) 23 .ptr :=
  tyOK (z := .pointer none) (n := 1) (by kernel_rfl) rfl rfl rfl Try.underlying23 (.inl rfl) (fun _ h => by cases h)
theorem ty25 : TyOK Try.prog (lk tys) 25 (.pair 22 (.slice 3 (.int .i64)) (.pair 3 (.int .i64) .unit)) :=
  tyOK (z := .agg #[.slice none 0 0, .int .i64 0]) (n := 2) (by kernel_rfl) rfl ⟨[.slice none 0 0], [.int .i64 0], rfl, rfl, ⟨[.int .i64 0], [], rfl, rfl, rfl⟩⟩ rfl Try.underlying25 ⟨⟨rfl, rfl, rfl, by decide, ⟨rfl, rfl, rfl, by decide, rfl⟩⟩, rfl⟩ (fun h => by cases h)
theorem ty30 : TyOK Try.prog (lk tys) 30 (.int .i64) :=
  tyOK (z := .int .i64 0) (n := 1) (by kernel_rfl) rfl rfl rfl Try.underlying30 rfl (fun _ h => by cases h)
theorem ty48 : TyOK Try.prog (lk tys) 48 (.slice 121 (.pair 9 .str (.pair 3 (.int .i64) .unit))) :=
  tyOK (z := .slice none 0 0) (n := 1) (by kernel_rfl) rfl rfl rfl Try.underlying48 ⟨_, rfl, rfl⟩ (fun _ h => by cases h)
theorem ty66 : TyOK Try.prog (lk tys) 66 (.pair 3 (.int .i64) (.pair 3 (.int .i64) .unit)) :=
  tyOK (z := .agg #[.int .i64 0, .int .i64 0]) (n := 2) (by kernel_rfl) rfl ⟨[.int .i64 0], [.int .i64 0], rfl, rfl, ⟨[.int .i64 0], [], rfl, rfl, rfl⟩⟩ rfl Try.underlying66 ⟨⟨rfl, rfl, rfl, by decide, ⟨rfl, rfl, rfl, by decide, rfl⟩⟩, rfl⟩ (fun _ _ => ⟨by kernel_rfl, by kernel_rfl⟩)
theorem ty68 : TyOK Try.prog (lk tys) 68 (.slice 142 (.pair 3 (.int .i64) (.pair 9 .str (.pair 4 .bool .unit)))) :=
  tyOK (z := .slice none 0 0) (n := 1) (by kernel_rfl) rfl rfl rfl Try.underlying68 ⟨_, rfl, rfl⟩ (fun _ h => by cases h)
theorem ty70 : TyOK Try.prog (lk tys) 70 (.slice 84 (.pair 3 (.int .i64) (.pair 9 .str (.pair 4 .bool .unit)))) :=
  tyOK (z := .slice none 0 0) (n := 1) (by kernel_rfl) rfl rfl rfl Try.underlying70 ⟨_, rfl, rfl⟩ (fun _ h => by cases h)
theorem ty73 : TyOK Try.prog (lk tys) 73 (.slice 9 .str) :=
  tyOK (z := .slice none 0 0) (n := 1) (by kernel_rfl) rfl rfl rfl Try.underlying73 ⟨_, rfl, rfl⟩ (fun _ h => by cases h)
theorem ty84 : TyOK Try.prog (lk tys) 84 (.pair 3 (.int .i64) (.pair 9 .str (.pair 4 .bool .unit))) :=
  tyOK (z := .agg #[.int .i64 0, .string ⟨#[]⟩, .bool false]) (n := 3) (by kernel_rfl) rfl ⟨[.int .i64 0], [.string ⟨#[]⟩, .bool false], rfl, rfl, ⟨[.string ⟨#[]⟩], [.bool false], rfl, rfl, ⟨[.bool false], [], rfl, rfl, rfl⟩⟩⟩ rfl Try.underlying84 ⟨⟨rfl, rfl, rfl, by decide, ⟨rfl, rfl, rfl, by decide, ⟨rfl, rfl, rfl, by decide, rfl⟩⟩⟩, rfl⟩ (fun _ _ => ⟨by kernel_rfl, by kernel_rfl⟩)
theorem ty121 : TyOK Try.prog (lk tys) 121 (.pair 9 .str (.pair 3 (.int .i64) .unit)) :=
  tyOK (z := .agg #[.string ⟨#[]⟩, .int .i64 0]) (n := 2) (by kernel_rfl) rfl ⟨[.string ⟨#[]⟩], [.int .i64 0], rfl, rfl, ⟨[.int .i64 0], [], rfl, rfl, rfl⟩⟩ rfl Try.underlying121 ⟨⟨rfl, rfl, rfl, by decide, ⟨rfl, rfl, rfl, by decide, rfl⟩⟩, rfl⟩ (fun _ _ => ⟨by kernel_rfl, by kernel_rfl⟩)
theorem ty135 : TyOK Try.prog (lk tys) 135 (.map 9 4) :=
  tyOK (z := .map none) (n := 1) (by kernel_rfl) rfl rfl rfl Try.underlying135 rfl (fun _ h => by cases h)
theorem ty142 : TyOK Try.prog (lk tys) 142 (.pair 3 (.int .i64) (.pair 9 .str (.pair 4 .bool .unit))) :=
  tyOK (z := .agg #[.int .i64 0, .string ⟨#[]⟩, .bool false]) (n := 3) (by kernel_rfl) rfl ⟨[.int .i64 0], [.string ⟨#[]⟩, .bool false], rfl, rfl, ⟨[.string ⟨#[]⟩], [.bool false], rfl, rfl, ⟨[.bool false], [], rfl, rfl, rfl⟩⟩⟩ rfl Try.underlying142 ⟨⟨rfl, rfl, rfl, by decide, ⟨rfl, rfl, rfl, by decide, ⟨rfl, rfl, rfl, by decide, rfl⟩⟩⟩, rfl⟩ (fun _ _ => ⟨by kernel_rfl, by kernel_rfl⟩)
theorem ty144 : TyOK Try.prog (lk tys) 144 (.slice 148 (.pair 4 .bool (.pair 3 (.int .i64) .unit))) :=
  tyOK (z := .slice none 0 0) (n := 1) (by kernel_rfl) rfl rfl rfl Try.underlying144 ⟨_, rfl, rfl⟩ (fun _ h => by cases h)
theorem ty148 : TyOK Try.prog (lk tys) 148 (.pair 4 .bool (.pair 3 (.int .i64) .unit)) :=
  tyOK (z := .agg #[.bool false, .int .i64 0]) (n := 2) (by kernel_rfl) rfl ⟨[.bool false], [.int .i64 0], rfl, rfl, ⟨[.int .i64 0], [], rfl, rfl, rfl⟩⟩ rfl Try.underlying148 ⟨⟨rfl, rfl, rfl, by decide, ⟨rfl, rfl, rfl, by decide, rfl⟩⟩, rfl⟩ (fun _ _ => ⟨by kernel_rfl, by kernel_rfl⟩)
theorem ty149 : TyOK Try.prog (lk tys) 149 (.slice 30 (.int .i64)) :=
  tyOK (z := .slice none 0 0) (n := 1) (by kernel_rfl) rfl rfl rfl Try.underlying149 ⟨_, rfl, rfl⟩ (fun _ h => by cases h)
theorem ty150 : TyOK Try.prog (lk tys) 150 (.slice 151 (.pd 84 (.pair 3 (.int .i64) (.pair 9 .str (.pair 4 .bool .unit))))) :=
  tyOK (z := .slice none 0 0) (n := 1) (by kernel_rfl) rfl rfl rfl Try.underlying150 ⟨_, rfl, rfl⟩ (fun _ h => by cases h)
theorem ty151 : TyOK Try.prog (lk tys) 151 (.pd 84 (.pair 3 (.int .i64) (.pair 9 .str (.pair 4 .bool .unit)))) :=
  tyOK (z := .pointer none) (n := 1) (by kernel_rfl) rfl rfl rfl Try.underlying151 (.inr ⟨_, rfl, rfl⟩) (fun _ h => by cases h)
theorem ty193 : TyOK Try.prog (lk tys) 193 (.int .u64) :=
  tyOK (z := .int .u64 0) (n := 1) (by kernel_rfl) rfl rfl rfl Try.underlying193 rfl (fun _ h => by cases h)
theorem hT0 : TblOK Try.prog T0 :=
  ⟨AllTy.get (l := tys) ⟨ty3, ty4, ty5, ty9, ty22, ty23, ty25, ty30, ty48, ty66, ty68, ty70, ty73, ty84, ty121, ty135, ty142, ty144, ty148, ty149, ty150, ty151, ty193, trivial⟩, rfl, rfl, by kernel_rfl⟩
/-! ### 81 gatewarden/gatemake.Below -/
def f_gatemake_Below (K : Nat) (x n : D) : Option (List D) :=
  bif (ltI n.int 1) then
    some [D.i 0]
  else
    bif (!(eqI n.int 0)) then
      bif (ltI (Int.tmod x.int n.int) 0) then
        some [D.i (IntKind.i64.wrap ((Int.tmod x.int n.int) + n.int))]
      else
        some [D.i (Int.tmod x.int n.int)]
    else
      none
def e_gatemake_Below (K : Nat) : Entry := { n := 2, sh := { sl := [(0, .d 3 false), (1, .d 3 false)], ob := [] }, kept := [], rs := [{ sl := [(0, .d 3 true)], ob := [] }], f := fun ds => f_gatemake_Below K (D.nth ds 0) (D.nth ds 1), tot := none }
def T_gatemake_Below (K : Nat) : Tbl := { T0 with ents := entsOf [], cuts := lk [] }
theorem q_gatemake_Below (K : Nat) (ds : List D) : evFn (T_gatemake_Below K) Try.f81 .go (e_gatemake_Below K) ds = (e_gatemake_Below K).f ds := by kernel_rfl
theorem ok_gatemake_Below (K : Nat) : FnOK Try.prog T0 81 (e_gatemake_Below K) :=
  fn_thm (T0 := T0) (T := T_gatemake_Below K) rfl (hT_of hT0 rfl rfl rfl) (hes_ok (T0 := T0) (T := T_gatemake_Below K) rfl rfl (trivial : FAll Try.prog T0 [])) Try.func81 (by decide) rfl (Nat.le_of_ble_eq_true rfl) rfl rfl rfl (tot_none rfl) (cutsOK_none (by rfl)) (q_gatemake_Below K)
/-! ### 16 (*gatewarden/gatemake.Stream).Next -/
def f_gatemake_Stream_Next (K : Nat) (n o0 : D) : Option (List D) :=
  bif ((((o0.at' 0).list).length : Int) == (0 : Int)) then
    (f_gatemake_Below K (D.i (IntKind.i64.wrap ((IntKind.i64.wrap (((o0.at' 1).int) + (1 : Int))) * (7919 : Int)))) n).bind fun t1 =>
    some [D.nth t1 0, D.n [o0.at' 0, D.i (IntKind.i64.wrap (((o0.at' 1).int) + (1 : Int)))]]
  else
    bif (!(eqI (((o0.at' 0).list).length : Int) 0)) then
      bif (!(eqI (((o0.at' 0).list).length : Int) 0)) then
        bif (inB (Int.tmod (IntKind.i64.wrap ((IntKind.i64.wrap (((o0.at' 1).int) + (1 : Int))) - (1 : Int))) (((o0.at' 0).list).length : Int)) (((o0.at' 0).list).length)) then
          (f_gatemake_Below K (D.nth ((o0.at' 0).list) ((Int.tmod (IntKind.i64.wrap ((IntKind.i64.wrap (((o0.at' 1).int) + (1 : Int))) - (1 : Int))) (((o0.at' 0).list).length : Int)).toNat)) (D.i 1073741824)).bind fun t2 =>
          (f_gatemake_Below K (D.i (IntKind.i64.wrap (((D.nth t2 0).int) + (IntKind.i64.wrap ((IntKind.i64.wrap (Int.tdiv (IntKind.i64.wrap ((IntKind.i64.wrap (((o0.at' 1).int) + (1 : Int))) - (1 : Int))) (((o0.at' 0).list).length : Int))) * (IntKind.i64.wrap ((7919 : Int) + (Int.tmod (IntKind.i64.wrap ((IntKind.i64.wrap (((o0.at' 1).int) + (1 : Int))) - (1 : Int))) (((o0.at' 0).list).length : Int))))))))) n).bind fun t3 =>
          some [D.nth t3 0, D.n [o0.at' 0, D.i (IntKind.i64.wrap (((o0.at' 1).int) + (1 : Int)))]]
        else
          none
      else
        none
    else
      none
def e_gatemake_Stream_Next (K : Nat) : Entry := { n := 2, sh := { sl := [(0, .ptr 25 0 []), (1, .d 3 false)], ob := [(0, .box 25 (.d 25 false))] }, kept := [0], rs := [{ sl := [(0, .d 3 true)], ob := [(0, .box 25 (.d 25 false))] }], f := fun ds => f_gatemake_Stream_Next K (D.nth ds 0) (D.nth ds 1), tot := none }
def T_gatemake_Stream_Next (K : Nat) : Tbl := { T0 with ents := entsOf [(81, e_gatemake_Below K)], cuts := lk [] }
theorem q_gatemake_Stream_Next (K : Nat) (ds : List D) : evFn (T_gatemake_Stream_Next K) Try.f16 .go (e_gatemake_Stream_Next K) ds = (e_gatemake_Stream_Next K).f ds := by kernel_rfl
theorem ok_gatemake_Stream_Next (K : Nat) : FnOK Try.prog T0 16 (e_gatemake_Stream_Next K) :=
  fn_thm (T0 := T0) (T := T_gatemake_Stream_Next K) rfl (hT_of hT0 rfl rfl rfl) (hes_ok (T0 := T0) (T := T_gatemake_Stream_Next K) rfl rfl (⟨ok_gatemake_Below K, trivial⟩ : FAll Try.prog T0 [(81, e_gatemake_Below K)])) Try.func16 (by decide) rfl (Nat.le_of_ble_eq_true rfl) rfl rfl rfl (tot_none rfl) (cutsOK_none (by rfl)) (q_gatemake_Stream_Next K)
/-! ### 15 (*gatewarden/gatemake.Stream).Flip -/
def f_gatemake_Stream_Flip (K : Nat) (n o0 : D) : Option (List D) :=
  (f_gatemake_Stream_Next K n o0).bind fun t1 =>
  some [D.b (((D.nth t1 0).int) == (0 : Int)), D.nth t1 1]
def e_gatemake_Stream_Flip (K : Nat) : Entry := { n := 2, sh := { sl := [(0, .ptr 25 0 []), (1, .d 3 false)], ob := [(0, .box 25 (.d 25 false))] }, kept := [0], rs := [{ sl := [(0, .d 4 true)], ob := [(0, .box 25 (.d 25 false))] }], f := fun ds => f_gatemake_Stream_Flip K (D.nth ds 0) (D.nth ds 1), tot := none }
def T_gatemake_Stream_Flip (K : Nat) : Tbl := { T0 with ents := entsOf [(16, e_gatemake_Stream_Next K)], cuts := lk [] }
theorem q_gatemake_Stream_Flip (K : Nat) (ds : List D) : evFn (T_gatemake_Stream_Flip K) Try.f15 .go (e_gatemake_Stream_Flip K) ds = (e_gatemake_Stream_Flip K).f ds := by kernel_rfl
theorem ok_gatemake_Stream_Flip (K : Nat) : FnOK Try.prog T0 15 (e_gatemake_Stream_Flip K) :=
  fn_thm (T0 := T0) (T := T_gatemake_Stream_Flip K) rfl (hT_of hT0 rfl rfl rfl) (hes_ok (T0 := T0) (T := T_gatemake_Stream_Flip K) rfl rfl (⟨ok_gatemake_Stream_Next K, trivial⟩ : FAll Try.prog T0 [(16, e_gatemake_Stream_Next K)])) Try.func15 (by decide) rfl (Nat.le_of_ble_eq_true rfl) rfl rfl rfl (tot_none rfl) (cutsOK_none (by rfl)) (q_gatemake_Stream_Flip K)
/-! ### 14 (*gatewarden/gatemake.Stream).Pick -/
def f_gatemake_Stream_Pick (K : Nat) (o0 r1 : D) : Option (List D) :=
  (f_gatemake_Stream_Next K (D.i (r1.list.length : Int)) o0).bind fun t1 =>
  bif (inB ((D.nth t1 0).int) r1.list.length) then
    some [D.nth r1.list (((D.nth t1 0).int).toNat), D.nth t1 1, D.n r1.list]
  else
    none
def e_gatemake_Stream_Pick (K : Nat) : Entry := { n := 2, sh := { sl := [(0, .ptr 25 0 []), (1, .own 22 1)], ob := [(0, .box 25 (.d 25 false)), (1, .row 3 true)] }, kept := [0, 1], rs := [{ sl := [(0, .d 3 true)], ob := [(0, .box 25 (.d 25 false)), (1, .row 3 true)] }], f := fun ds => f_gatemake_Stream_Pick K (D.nth ds 0) (D.nth ds 1), tot := none }
def T_gatemake_Stream_Pick (K : Nat) : Tbl := { T0 with ents := entsOf [(16, e_gatemake_Stream_Next K)], cuts := lk [] }
theorem q_gatemake_Stream_Pick (K : Nat) (ds : List D) : evFn (T_gatemake_Stream_Pick K) Try.f14 .go (e_gatemake_Stream_Pick K) ds = (e_gatemake_Stream_Pick K).f ds := by kernel_rfl
theorem ok_gatemake_Stream_Pick (K : Nat) : FnOK Try.prog T0 14 (e_gatemake_Stream_Pick K) :=
  fn_thm (T0 := T0) (T := T_gatemake_Stream_Pick K) rfl (hT_of hT0 rfl rfl rfl) (hes_ok (T0 := T0) (T := T_gatemake_Stream_Pick K) rfl rfl (⟨ok_gatemake_Stream_Next K, trivial⟩ : FAll Try.prog T0 [(16, e_gatemake_Stream_Next K)])) Try.func14 (by decide) rfl (Nat.le_of_ble_eq_true rfl) rfl rfl rfl (tot_none rfl) (cutsOK_none (by rfl)) (q_gatemake_Stream_Pick K)
/-! ### 103 (*gatewarden/gatemake.Stream).RightInstances -/
def b_gatemake_Stream_RightInstances_1 (K : Nat) (ds : List D) : Option (Nat × List D) :=
  let key := D.nth ds 0
  let o0 := D.nth ds 1
  let r1 := D.nth ds 2
  bif (!(bif ((r1.list.length : Int) == (0 : Int)) then (key.str == ([105, 100] : List UInt8)) else false)) then
    (f_gatemake_Stream_Flip K (D.i 4) o0).bind fun t1 =>
    some (0, [D.b (!((D.nth t1 0).bool)), D.nth t1 1, D.n r1.list])
  else
    some (0, [D.b true, o0, D.n r1.list])
def c_gatemake_Stream_RightInstances_1 (K : Nat) : Cut := { sh := { sl := [(0, .ptr 25 0 []), (3, .own 48 1), (5, .d 9 true)], ob := [(0, .box 25 (.d 25 false)), (1, .row 121 true)] }, kept := [0, 1], outs := [(.normal, { sl := [(23, .d 4 true)], ob := [(0, .box 25 (.d 25 false)), (1, .row 121 true)] })], f := b_gatemake_Stream_RightInstances_1 K }
def b_gatemake_Stream_RightInstances_0 (K : Nat) (rec : List D → Option (Nat × List D)) (ds : List D) : Option (Nat × List D) :=
  let s7 := D.nth ds 0
  let s8 := D.nth ds 1
  let o0 := D.nth ds 2
  let r1 := D.nth ds 3
  let r2 := D.nth ds 4
  bif (ltI s8.int s7.int) then
    bif (inB s8.int r1.list.length) then
      (b_gatemake_Stream_RightInstances_1 K [D.nth r1.list s8.int.toNat, o0, D.n r2.list]).bind fun t1 =>
      bif (D.nth t1.2 0).bool then
        (f_gatemake_Stream_Pick K (D.nth t1.2 1) (D.n [D.i 1, D.i 1, D.i 2, D.i 3, D.i 5])).bind fun t2 =>
        bif (lim (((D.nth t1.2 2).list).length + 1)) then
          rec [s7, D.i (IntKind.i64.wrap (s8.int + (1 : Int))), D.nth t2 1, D.n r1.list, D.n (((D.nth t1.2 2).list) ++ [D.n [D.nth r1.list s8.int.toNat, D.nth t2 0]])]
        else
          none
      else
        rec [s7, D.i (IntKind.i64.wrap (s8.int + (1 : Int))), D.nth t1.2 1, D.n r1.list, D.n ((D.nth t1.2 2).list)]
    else
      none
  else
    some (0, [o0, D.n r1.list, D.n r2.list])
def c_gatemake_Stream_RightInstances_0 (K : Nat) : Cut := { sh := { sl := [(0, .ptr 25 0 []), (3, .own 48 2), (6, .own 73 1), (7, .d 3 true), (8, .d 3 true)], ob := [(0, .box 25 (.d 25 false)), (1, .row 9 true), (2, .row 121 true)] }, kept := [0, 1], outs := [(.exit 0, { sl := [(3, .own 48 2)], ob := [(0, .box 25 (.d 25 false)), (1, .row 9 true), (2, .row 121 true)] })], f := fun ds => fixN (b_gatemake_Stream_RightInstances_0 K) K ds }
def f_gatemake_Stream_RightInstances (K : Nat) (o0 : D) : Option (List D) :=
  (fixN (b_gatemake_Stream_RightInstances_0 K) K [D.i 4, D.i 0, o0, D.n [D.s [105, 97], D.s [105, 98], D.s [105, 99], D.s [105, 100]], D.n []]).bind fun t1 =>
  some [D.nth t1.2 0, D.n ((D.nth t1.2 2).list)]
def e_gatemake_Stream_RightInstances (K : Nat) : Entry := { n := 1, sh := { sl := [(0, .ptr 25 0 [])], ob := [(0, .box 25 (.d 25 false))] }, kept := [0], rs := [{ sl := [(0, .own 48 1)], ob := [(0, .box 25 (.d 25 false)), (1, .row 121 true)] }], f := fun ds => f_gatemake_Stream_RightInstances K (D.nth ds 0), tot := none }
def T_gatemake_Stream_RightInstances (K : Nat) : Tbl := { T0 with ents := entsOf [(15, e_gatemake_Stream_Flip K), (14, e_gatemake_Stream_Pick K)], cuts := lk [(0, c_gatemake_Stream_RightInstances_0 K), (1, c_gatemake_Stream_RightInstances_1 K)] }
theorem q_gatemake_Stream_RightInstances_1 (K : Nat) (ds : List D) : evPiece (T_gatemake_Stream_RightInstances K) 34 (sub (codeOf Try.f103) [1, 1, 0, 1, 0, 0, 1, 1, 0, 0, 1, 0]) .go (c_gatemake_Stream_RightInstances_1 K) ds = b_gatemake_Stream_RightInstances_1 K ds := by kernel_rfl
theorem k_gatemake_Stream_RightInstances_1 (K : Nat) : CutOK Try.prog (T_gatemake_Stream_RightInstances K) 34 (sub (codeOf Try.f103) [1, 1, 0, 1, 0, 0, 1, 1, 0, 0, 1, 0]) (c_gatemake_Stream_RightInstances_1 K) :=
  piece_thm (T := T_gatemake_Stream_RightInstances K) (hT_of hT0 rfl rfl rfl) (hes_ok (T0 := T0) (T := T_gatemake_Stream_RightInstances K) rfl rfl (⟨ok_gatemake_Stream_Flip K, ok_gatemake_Stream_Pick K, trivial⟩ : FAll Try.prog T0 [(15, e_gatemake_Stream_Flip K), (14, e_gatemake_Stream_Pick K)])) rfl rfl rfl (cutsOK_none (by rfl)) (q_gatemake_Stream_RightInstances_1 K)
theorem q_gatemake_Stream_RightInstances_0 (K : Nat) (rec : List D → Option (Nat × List D)) (ds : List D) : evLoop (T_gatemake_Stream_RightInstances K) 34 (sub (codeOf Try.f103) [1, 1, 0, 1, 0, 0]) (.seq .go (.seq .go (.seq (.blk (.seq .go (.seq (.cut 1) .go))) .go))) (c_gatemake_Stream_RightInstances_0 K) rec ds = b_gatemake_Stream_RightInstances_0 K rec ds := by kernel_rfl
theorem k_gatemake_Stream_RightInstances_0 (K : Nat) : CutOK Try.prog (T_gatemake_Stream_RightInstances K) 34 (sub (codeOf Try.f103) [1, 1, 0, 1, 0]) (c_gatemake_Stream_RightInstances_0 K) :=
  loop_thm (T := T_gatemake_Stream_RightInstances K) (hT_of hT0 rfl rfl rfl) (hes_ok (T0 := T0) (T := T_gatemake_Stream_RightInstances K) rfl rfl (⟨ok_gatemake_Stream_Flip K, ok_gatemake_Stream_Pick K, trivial⟩ : FAll Try.prog T0 [(15, e_gatemake_Stream_Flip K), (14, e_gatemake_Stream_Pick K)])) (by kernel_rfl) rfl rfl rfl (cutsOK_list (l := [(1, sub (codeOf Try.f103) [1, 1, 0, 1, 0, 0, 1, 1, 0, 0, 1, 0])]) (by kernel_rfl) ⟨cut_one (u := c_gatemake_Stream_RightInstances_1 K) rfl (k_gatemake_Stream_RightInstances_1 K), trivial⟩) rfl (q_gatemake_Stream_RightInstances_0 K)
theorem q_gatemake_Stream_RightInstances (K : Nat) (ds : List D) : evFn (T_gatemake_Stream_RightInstances K) Try.f103 (.seq .go (.seq .go (.seq (.seq .go (.blk (.cut 0))) .go))) (e_gatemake_Stream_RightInstances K) ds = (e_gatemake_Stream_RightInstances K).f ds := by kernel_rfl
theorem ok_gatemake_Stream_RightInstances (K : Nat) : FnOK Try.prog T0 103 (e_gatemake_Stream_RightInstances K) :=
  fn_thm (T0 := T0) (T := T_gatemake_Stream_RightInstances K) rfl (hT_of hT0 rfl rfl rfl) (hes_ok (T0 := T0) (T := T_gatemake_Stream_RightInstances K) rfl rfl (⟨ok_gatemake_Stream_Flip K, ok_gatemake_Stream_Pick K, trivial⟩ : FAll Try.prog T0 [(15, e_gatemake_Stream_Flip K), (14, e_gatemake_Stream_Pick K)])) Try.func103 (by decide) rfl (Nat.le_of_ble_eq_true rfl) rfl rfl rfl (tot_none rfl) (cutsOK_list (l := [(0, sub (codeOf Try.f103) [1, 1, 0, 1, 0])]) (by kernel_rfl) ⟨cut_one (u := c_gatemake_Stream_RightInstances_0 K) rfl (k_gatemake_Stream_RightInstances_0 K), trivial⟩) (q_gatemake_Stream_RightInstances K)
/-! ### 56 (*gatewarden/gatemake.Stream).Some -/
def f_gatemake_Stream_Some (K : Nat) (o0 r1 : D) : Option (List D) :=
  (f_gatemake_Stream_Next K (D.i (r1.list.length : Int)) o0).bind fun t1 =>
  bif (inB ((D.nth t1 0).int) r1.list.length) then
    some [D.nth r1.list (((D.nth t1 0).int).toNat), D.nth t1 1, D.n r1.list]
  else
    none
def e_gatemake_Stream_Some (K : Nat) : Entry := { n := 2, sh := { sl := [(0, .ptr 25 0 []), (1, .own 73 1)], ob := [(0, .box 25 (.d 25 false)), (1, .row 9 true)] }, kept := [0, 1], rs := [{ sl := [(0, .d 9 true)], ob := [(0, .box 25 (.d 25 false)), (1, .row 9 true)] }], f := fun ds => f_gatemake_Stream_Some K (D.nth ds 0) (D.nth ds 1), tot := none }
def T_gatemake_Stream_Some (K : Nat) : Tbl := { T0 with ents := entsOf [(16, e_gatemake_Stream_Next K)], cuts := lk [] }
theorem q_gatemake_Stream_Some (K : Nat) (ds : List D) : evFn (T_gatemake_Stream_Some K) Try.f56 .go (e_gatemake_Stream_Some K) ds = (e_gatemake_Stream_Some K).f ds := by kernel_rfl
theorem ok_gatemake_Stream_Some (K : Nat) : FnOK Try.prog T0 56 (e_gatemake_Stream_Some K) :=
  fn_thm (T0 := T0) (T := T_gatemake_Stream_Some K) rfl (hT_of hT0 rfl rfl rfl) (hes_ok (T0 := T0) (T := T_gatemake_Stream_Some K) rfl rfl (⟨ok_gatemake_Stream_Next K, trivial⟩ : FAll Try.prog T0 [(16, e_gatemake_Stream_Next K)])) Try.func56 (by decide) rfl (Nat.le_of_ble_eq_true rfl) rfl rfl rfl (tot_none rfl) (cutsOK_none (by rfl)) (q_gatemake_Stream_Some K)
/-! ### 13 (*gatewarden/gatemake.Stream).Range -/
def f_gatemake_Stream_Range (K : Nat) (low high o0 : D) : Option (List D) :=
  bif (ltI high.int low.int) then
    some [low, o0]
  else
    (f_gatemake_Stream_Next K (D.i (IntKind.i64.wrap ((IntKind.i64.wrap (high.int - low.int)) + (1 : Int)))) o0).bind fun t1 =>
    some [D.i (IntKind.i64.wrap (low.int + ((D.nth t1 0).int))), D.nth t1 1]
def e_gatemake_Stream_Range (K : Nat) : Entry := { n := 3, sh := { sl := [(0, .ptr 25 0 []), (1, .d 3 false), (2, .d 3 false)], ob := [(0, .box 25 (.d 25 false))] }, kept := [0], rs := [{ sl := [(0, .d 3 true)], ob := [(0, .box 25 (.d 25 false))] }], f := fun ds => f_gatemake_Stream_Range K (D.nth ds 0) (D.nth ds 1) (D.nth ds 2), tot := none }
def T_gatemake_Stream_Range (K : Nat) : Tbl := { T0 with ents := entsOf [(16, e_gatemake_Stream_Next K)], cuts := lk [] }
theorem q_gatemake_Stream_Range (K : Nat) (ds : List D) : evFn (T_gatemake_Stream_Range K) Try.f13 .go (e_gatemake_Stream_Range K) ds = (e_gatemake_Stream_Range K).f ds := by kernel_rfl
theorem ok_gatemake_Stream_Range (K : Nat) : FnOK Try.prog T0 13 (e_gatemake_Stream_Range K) :=
  fn_thm (T0 := T0) (T := T_gatemake_Stream_Range K) rfl (hT_of hT0 rfl rfl rfl) (hes_ok (T0 := T0) (T := T_gatemake_Stream_Range K) rfl rfl (⟨ok_gatemake_Stream_Next K, trivial⟩ : FAll Try.prog T0 [(16, e_gatemake_Stream_Next K)])) Try.func13 (by decide) rfl (Nat.le_of_ble_eq_true rfl) rfl rfl rfl (tot_none rfl) (cutsOK_none (by rfl)) (q_gatemake_Stream_Range K)
/-! ### 64 (*gatewarden/gatemake.Stream).Odd -/
def f_gatemake_Stream_Odd (K : Nat) (low high o0 : D) : Option (List D) :=
  (f_gatemake_Stream_Flip K (D.i 12) o0).bind fun t1 =>
  bif (D.nth t1 0).bool then
    (f_gatemake_Stream_Pick K (D.nth t1 1) (D.n [D.i (IntKind.i64.wrap (low.int - (1 : Int))), D.i (IntKind.i64.wrap (high.int + (1 : Int))), low, high, D.i (-1099511627776), D.i 1099511627776])).bind fun t2 =>
    some [D.nth t2 0, D.nth t2 1]
  else
    (f_gatemake_Stream_Range K low high (D.nth t1 1)).bind fun t3 =>
    some [D.nth t3 0, D.nth t3 1]
def e_gatemake_Stream_Odd (K : Nat) : Entry := { n := 3, sh := { sl := [(0, .ptr 25 0 []), (1, .d 3 false), (2, .d 3 false)], ob := [(0, .box 25 (.d 25 false))] }, kept := [0], rs := [{ sl := [(0, .d 3 true)], ob := [(0, .box 25 (.d 25 false))] }], f := fun ds => f_gatemake_Stream_Odd K (D.nth ds 0) (D.nth ds 1) (D.nth ds 2), tot := none }
def T_gatemake_Stream_Odd (K : Nat) : Tbl := { T0 with ents := entsOf [(15, e_gatemake_Stream_Flip K), (14, e_gatemake_Stream_Pick K), (13, e_gatemake_Stream_Range K)], cuts := lk [] }
theorem q_gatemake_Stream_Odd (K : Nat) (ds : List D) : evFn (T_gatemake_Stream_Odd K) Try.f64 .go (e_gatemake_Stream_Odd K) ds = (e_gatemake_Stream_Odd K).f ds := by kernel_rfl
theorem ok_gatemake_Stream_Odd (K : Nat) : FnOK Try.prog T0 64 (e_gatemake_Stream_Odd K) :=
  fn_thm (T0 := T0) (T := T_gatemake_Stream_Odd K) rfl (hT_of hT0 rfl rfl rfl) (hes_ok (T0 := T0) (T := T_gatemake_Stream_Odd K) rfl rfl (⟨ok_gatemake_Stream_Flip K, ok_gatemake_Stream_Pick K, ok_gatemake_Stream_Range K, trivial⟩ : FAll Try.prog T0 [(15, e_gatemake_Stream_Flip K), (14, e_gatemake_Stream_Pick K), (13, e_gatemake_Stream_Range K)])) Try.func64 (by decide) rfl (Nat.le_of_ble_eq_true rfl) rfl rfl rfl (tot_none rfl) (cutsOK_none (by rfl)) (q_gatemake_Stream_Odd K)
/-! ### 33 (*gatewarden/gatemake.Stream).Instances -/
def f_gatemake_Stream_Instances (K : Nat) (o0 : D) : Option (List D) :=
  (f_gatemake_Stream_RightInstances K o0).bind fun t1 =>
  (f_gatemake_Stream_Flip K (D.i 15) (D.nth t1 0)).bind fun t2 =>
  bif (D.nth t2 0).bool then
    (f_gatemake_Stream_Next K (D.i (((D.nth t1 1).list).length : Int)) (D.nth t2 1)).bind fun t3 =>
    bif (inB ((D.nth t3 0).int) (((D.nth t1 1).list).length)) then
      (f_gatemake_Stream_Some K (D.nth t3 1) (D.n [(D.nth ((D.nth t1 1).list) (((D.nth t3 0).int).toNat)).at' 0, D.s [], D.s [65], D.s [105, 97]])).bind fun t4 =>
      (f_gatemake_Stream_Odd K (D.i 1) (D.i 100) (D.nth t4 1)).bind fun t5 =>
      (f_gatemake_Stream_Flip K (D.i 25) (D.nth t5 1)).bind fun t6 =>
      bif (D.nth t6 0).bool then
        some [D.nth t6 1, D.n []]
      else
        some [D.nth t6 1, D.n (D.setNth (D.setNth ((D.nth t1 1).list) (((D.nth t3 0).int).toNat) (D.n (D.setNth ((D.nth ((D.nth t1 1).list) (((D.nth t3 0).int).toNat)).list) 0 (D.nth t4 0)))) (((D.nth t3 0).int).toNat) (D.n (D.setNth ((D.nth (D.setNth ((D.nth t1 1).list) (((D.nth t3 0).int).toNat) (D.n (D.setNth ((D.nth ((D.nth t1 1).list) (((D.nth t3 0).int).toNat)).list) 0 (D.nth t4 0)))) (((D.nth t3 0).int).toNat)).list) 1 (D.nth t5 0))))]
    else
      none
  else
    (f_gatemake_Stream_Flip K (D.i 25) (D.nth t2 1)).bind fun t7 =>
    bif (D.nth t7 0).bool then
      some [D.nth t7 1, D.n []]
    else
      some [D.nth t7 1, D.n ((D.nth t1 1).list)]
def e_gatemake_Stream_Instances (K : Nat) : Entry := { n := 1, sh := { sl := [(0, .ptr 25 0 [])], ob := [(0, .box 25 (.d 25 false))] }, kept := [0], rs := [{ sl := [(0, .own 48 1)], ob := [(0, .box 25 (.d 25 false)), (1, .row 121 true)] }], f := fun ds => f_gatemake_Stream_Instances K (D.nth ds 0), tot := none }
def T_gatemake_Stream_Instances (K : Nat) : Tbl := { T0 with ents := entsOf [(103, e_gatemake_Stream_RightInstances K), (15, e_gatemake_Stream_Flip K), (16, e_gatemake_Stream_Next K), (56, e_gatemake_Stream_Some K), (64, e_gatemake_Stream_Odd K)], cuts := lk [] }
theorem q_gatemake_Stream_Instances (K : Nat) (ds : List D) : evFn (T_gatemake_Stream_Instances K) Try.f33 .go (e_gatemake_Stream_Instances K) ds = (e_gatemake_Stream_Instances K).f ds := by kernel_rfl
theorem ok_gatemake_Stream_Instances (K : Nat) : FnOK Try.prog T0 33 (e_gatemake_Stream_Instances K) :=
  fn_thm (T0 := T0) (T := T_gatemake_Stream_Instances K) rfl (hT_of hT0 rfl rfl rfl) (hes_ok (T0 := T0) (T := T_gatemake_Stream_Instances K) rfl rfl (⟨ok_gatemake_Stream_RightInstances K, ok_gatemake_Stream_Flip K, ok_gatemake_Stream_Next K, ok_gatemake_Stream_Some K, ok_gatemake_Stream_Odd K, trivial⟩ : FAll Try.prog T0 [(103, e_gatemake_Stream_RightInstances K), (15, e_gatemake_Stream_Flip K), (16, e_gatemake_Stream_Next K), (56, e_gatemake_Stream_Some K), (64, e_gatemake_Stream_Odd K)])) Try.func33 (by decide) rfl (Nat.le_of_ble_eq_true rfl) rfl rfl rfl (tot_none rfl) (cutsOK_none (by rfl)) (q_gatemake_Stream_Instances K)
/-! ### 34 (*gatewarden/gatemake.Stream).Health -/
def f_gatemake_Stream_Health (K : Nat) (o0 : D) : Option (List D) :=
  (f_gatemake_Stream_Pick K o0 (D.n [D.i 1, D.i 2, D.i 3])).bind fun t1 =>
  (f_gatemake_Stream_Pick K (D.nth t1 1) (D.n [D.i 1, D.i 2, D.i 3])).bind fun t2 =>
  (f_gatemake_Stream_Flip K (D.i 20) (D.nth t2 1)).bind fun t3 =>
  bif (D.nth t3 0).bool then
    (f_gatemake_Stream_Odd K (D.i 1) (D.i 100) (D.nth t3 1)).bind fun t4 =>
    (f_gatemake_Stream_Odd K (D.i 1) (D.i 100) (D.nth t4 1)).bind fun t5 =>
    some [D.n [D.nth t4 0, D.nth t5 0], D.nth t5 1]
  else
    some [D.n [D.nth t1 0, D.nth t2 0], D.nth t3 1]
def e_gatemake_Stream_Health (K : Nat) : Entry := { n := 1, sh := { sl := [(0, .ptr 25 0 [])], ob := [(0, .box 25 (.d 25 false))] }, kept := [0], rs := [{ sl := [(0, .d 66 true)], ob := [(0, .box 25 (.d 25 false))] }], f := fun ds => f_gatemake_Stream_Health K (D.nth ds 0), tot := none }
def T_gatemake_Stream_Health (K : Nat) : Tbl := { T0 with ents := entsOf [(14, e_gatemake_Stream_Pick K), (15, e_gatemake_Stream_Flip K), (64, e_gatemake_Stream_Odd K)], cuts := lk [] }
theorem q_gatemake_Stream_Health (K : Nat) (ds : List D) : evFn (T_gatemake_Stream_Health K) Try.f34 .go (e_gatemake_Stream_Health K) ds = (e_gatemake_Stream_Health K).f ds := by kernel_rfl
theorem ok_gatemake_Stream_Health (K : Nat) : FnOK Try.prog T0 34 (e_gatemake_Stream_Health K) :=
  fn_thm (T0 := T0) (T := T_gatemake_Stream_Health K) rfl (hT_of hT0 rfl rfl rfl) (hes_ok (T0 := T0) (T := T_gatemake_Stream_Health K) rfl rfl (⟨ok_gatemake_Stream_Pick K, ok_gatemake_Stream_Flip K, ok_gatemake_Stream_Odd K, trivial⟩ : FAll Try.prog T0 [(14, e_gatemake_Stream_Pick K), (15, e_gatemake_Stream_Flip K), (64, e_gatemake_Stream_Odd K)])) Try.func34 (by decide) rfl (Nat.le_of_ble_eq_true rfl) rfl rfl rfl (tot_none rfl) (cutsOK_none (by rfl)) (q_gatemake_Stream_Health K)
/-! ### 104 (*gatewarden/gatemake.Stream).InstanceKey -/
def f_gatemake_Stream_InstanceKey (K : Nat) (o0 : D) : Option (List D) :=
  (f_gatemake_Stream_Flip K (D.i 40) o0).bind fun t1 =>
  bif (D.nth t1 0).bool then
    (f_gatemake_Stream_Some K (D.nth t1 1) (D.n [D.s [], D.s [110, 111, 110, 101]])).bind fun t2 =>
    some [D.nth t2 0, D.nth t2 1]
  else
    (f_gatemake_Stream_Some K (D.nth t1 1) (D.n [D.s [105, 97], D.s [105, 98], D.s [105, 99], D.s [105, 100]])).bind fun t3 =>
    some [D.nth t3 0, D.nth t3 1]
def e_gatemake_Stream_InstanceKey (K : Nat) : Entry := { n := 1, sh := { sl := [(0, .ptr 25 0 [])], ob := [(0, .box 25 (.d 25 false))] }, kept := [0], rs := [{ sl := [(0, .d 9 true)], ob := [(0, .box 25 (.d 25 false))] }], f := fun ds => f_gatemake_Stream_InstanceKey K (D.nth ds 0), tot := none }
def T_gatemake_Stream_InstanceKey (K : Nat) : Tbl := { T0 with ents := entsOf [(15, e_gatemake_Stream_Flip K), (56, e_gatemake_Stream_Some K)], cuts := lk [] }
theorem q_gatemake_Stream_InstanceKey (K : Nat) (ds : List D) : evFn (T_gatemake_Stream_InstanceKey K) Try.f104 .go (e_gatemake_Stream_InstanceKey K) ds = (e_gatemake_Stream_InstanceKey K).f ds := by kernel_rfl
theorem ok_gatemake_Stream_InstanceKey (K : Nat) : FnOK Try.prog T0 104 (e_gatemake_Stream_InstanceKey K) :=
  fn_thm (T0 := T0) (T := T_gatemake_Stream_InstanceKey K) rfl (hT_of hT0 rfl rfl rfl) (hes_ok (T0 := T0) (T := T_gatemake_Stream_InstanceKey K) rfl rfl (⟨ok_gatemake_Stream_Flip K, ok_gatemake_Stream_Some K, trivial⟩ : FAll Try.prog T0 [(15, e_gatemake_Stream_Flip K), (56, e_gatemake_Stream_Some K)])) Try.func104 (by decide) rfl (Nat.le_of_ble_eq_true rfl) rfl rfl rfl (tot_none rfl) (cutsOK_none (by rfl)) (q_gatemake_Stream_InstanceKey K)
/-! ### 35 (*gatewarden/gatemake.Stream).Probes -/
def b_gatemake_Stream_Probes_1 (K : Nat) (ds : List D) : Option (Nat × List D) :=
  let o0 := D.nth ds 0
  let r1 := D.nth ds 1
  bif (gtI (r1.list.length : Int) 0) then
    (f_gatemake_Stream_Flip K (D.i 60) o0).bind fun t5 =>
    some (0, [D.b (!((D.nth t5 0).bool)), D.nth t5 1, D.n r1.list])
  else
    some (0, [D.b false, o0, D.n r1.list])
def c_gatemake_Stream_Probes_1 (K : Nat) : Cut := { sh := { sl := [(0, .ptr 25 0 []), (1, .own 48 1)], ob := [(0, .box 25 (.d 25 false)), (1, .row 121 true)] }, kept := [0, 1], outs := [(.normal, { sl := [(30, .d 4 true)], ob := [(0, .box 25 (.d 25 false)), (1, .row 121 true)] })], f := b_gatemake_Stream_Probes_1 K }
def b_gatemake_Stream_Probes_2 (K : Nat) (ds : List D) : Option (Nat × List D) :=
  let s30 := D.nth ds 0
  let o0 := D.nth ds 1
  let r1 := D.nth ds 2
  let o2 := D.nth ds 3
  bif s30.bool then
    (f_gatemake_Stream_Next K (D.i (r1.list.length : Int)) o0).bind fun t6 =>
    bif (inB ((D.nth t6 0).int) r1.list.length) then
      some (0, [D.nth t6 1, D.n r1.list, D.n [o2.at' 0, (D.nth r1.list (((D.nth t6 0).int).toNat)).at' 0, o2.at' 2]])
    else
      none
  else
    some (0, [o0, D.n r1.list, o2])
def c_gatemake_Stream_Probes_2 (K : Nat) : Cut := { sh := { sl := [(0, .ptr 25 0 []), (1, .own 48 1), (7, .ptr 142 2 []), (30, .d 4 true)], ob := [(0, .box 25 (.d 25 false)), (1, .row 121 true), (2, .box 142 (.d 142 true))] }, kept := [0, 1, 2], outs := [(.normal, { sl := [], ob := [(0, .box 25 (.d 25 false)), (1, .row 121 true), (2, .box 142 (.d 142 true))] })], f := b_gatemake_Stream_Probes_2 K }
def b_gatemake_Stream_Probes_0 (K : Nat) (rec : List D → Option (Nat × List D)) (ds : List D) : Option (Nat × List D) :=
  let vat := D.nth ds 0
  let s9 := D.nth ds 1
  let s10 := D.nth ds 2
  let o0 := D.nth ds 3
  let r1 := D.nth ds 4
  let r2 := D.nth ds 5
  bif (ltI s10.int s9.int) then
    (f_gatemake_Stream_Pick K o0 (D.n [D.i 0, D.i 1, D.i 5, D.i 10])).bind fun t2 =>
    (f_gatemake_Stream_InstanceKey K (D.nth t2 1)).bind fun t3 =>
    (f_gatemake_Stream_Flip K (D.i 2) (D.nth t3 1)).bind fun t4 =>
    (b_gatemake_Stream_Probes_1 K [D.nth t4 1, D.n r1.list]).bind fun t5 =>
    (b_gatemake_Stream_Probes_2 K [D.nth t5.2 0, D.nth t5.2 1, D.n ((D.nth t5.2 2).list), D.n [D.i (IntKind.i64.wrap (vat.int + ((D.nth t2 0).int))), D.nth t3 0, D.nth t4 0]]).bind fun t6 =>
    (f_gatemake_Stream_Flip K (D.i 80) (D.nth t6.2 0)).bind fun t7 =>
    bif (D.nth t7 0).bool then
      (f_gatemake_Stream_Odd K (D.i 0) (D.i 50) (D.nth t7 1)).bind fun t8 =>
      bif (lim (r2.list.length + 1)) then
        rec [D.i (IntKind.i64.wrap (vat.int + ((D.nth t2 0).int))), s9, D.i (IntKind.i64.wrap (s10.int + (1 : Int))), D.nth t8 1, D.n ((D.nth t6.2 1).list), D.n (r2.list ++ [D.n [D.nth t8 0, (D.nth t6.2 2).at' 1, (D.nth t6.2 2).at' 2]])]
      else
        none
    else
      bif (lim (r2.list.length + 1)) then
        rec [D.i (IntKind.i64.wrap (vat.int + ((D.nth t2 0).int))), s9, D.i (IntKind.i64.wrap (s10.int + (1 : Int))), D.nth t7 1, D.n ((D.nth t6.2 1).list), D.n (r2.list ++ [D.nth t6.2 2])]
      else
        none
  else
    some (0, [o0, D.n r1.list, D.n r2.list])
def c_gatemake_Stream_Probes_0 (K : Nat) : Cut := { sh := { sl := [(0, .ptr 25 0 []), (1, .own 48 1), (5, .own 68 2), (6, .d 3 true), (9, .d 3 true), (10, .d 3 true)], ob := [(0, .box 25 (.d 25 false)), (1, .row 121 true), (2, .row 142 true)] }, kept := [0, 1], outs := [(.exit 0, { sl := [(5, .own 68 2)], ob := [(0, .box 25 (.d 25 false)), (1, .row 121 true), (2, .row 142 true)] })], f := fun ds => fixN (b_gatemake_Stream_Probes_0 K) K ds }
def f_gatemake_Stream_Probes (K : Nat) (o0 r1 : D) : Option (List D) :=
  (f_gatemake_Stream_Range K (D.i 0) (D.i 16) o0).bind fun t1 =>
  (fixN (b_gatemake_Stream_Probes_0 K) K [D.i 0, D.nth t1 0, D.i 0, D.nth t1 1, D.n r1.list, D.n []]).bind fun t2 =>
  some [D.nth t2.2 0, D.n ((D.nth t2.2 1).list), D.n ((D.nth t2.2 2).list)]
def e_gatemake_Stream_Probes (K : Nat) : Entry := { n := 2, sh := { sl := [(0, .ptr 25 0 []), (1, .own 48 1)], ob := [(0, .box 25 (.d 25 false)), (1, .row 121 true)] }, kept := [0, 1], rs := [{ sl := [(0, .own 68 2)], ob := [(0, .box 25 (.d 25 false)), (1, .row 121 true), (2, .row 142 true)] }], f := fun ds => f_gatemake_Stream_Probes K (D.nth ds 0) (D.nth ds 1), tot := none }
def T_gatemake_Stream_Probes (K : Nat) : Tbl := { T0 with ents := entsOf [(13, e_gatemake_Stream_Range K), (14, e_gatemake_Stream_Pick K), (104, e_gatemake_Stream_InstanceKey K), (15, e_gatemake_Stream_Flip K), (16, e_gatemake_Stream_Next K), (64, e_gatemake_Stream_Odd K)], cuts := lk [(0, c_gatemake_Stream_Probes_0 K), (1, c_gatemake_Stream_Probes_1 K), (2, c_gatemake_Stream_Probes_2 K)] }
theorem q_gatemake_Stream_Probes_1 (K : Nat) (ds : List D) : evPiece (T_gatemake_Stream_Probes K) 51 (sub (codeOf Try.f35) [1, 1, 1, 0, 1, 0, 0, 1, 1, 0, 0, 1, 1, 0, 0]) .go (c_gatemake_Stream_Probes_1 K) ds = b_gatemake_Stream_Probes_1 K ds := by kernel_rfl
theorem k_gatemake_Stream_Probes_1 (K : Nat) : CutOK Try.prog (T_gatemake_Stream_Probes K) 51 (sub (codeOf Try.f35) [1, 1, 1, 0, 1, 0, 0, 1, 1, 0, 0, 1, 1, 0, 0]) (c_gatemake_Stream_Probes_1 K) :=
  piece_thm (T := T_gatemake_Stream_Probes K) (hT_of hT0 rfl rfl rfl) (hes_ok (T0 := T0) (T := T_gatemake_Stream_Probes K) rfl rfl (⟨ok_gatemake_Stream_Range K, ok_gatemake_Stream_Pick K, ok_gatemake_Stream_InstanceKey K, ok_gatemake_Stream_Flip K, ok_gatemake_Stream_Next K, ok_gatemake_Stream_Odd K, trivial⟩ : FAll Try.prog T0 [(13, e_gatemake_Stream_Range K), (14, e_gatemake_Stream_Pick K), (104, e_gatemake_Stream_InstanceKey K), (15, e_gatemake_Stream_Flip K), (16, e_gatemake_Stream_Next K), (64, e_gatemake_Stream_Odd K)])) rfl rfl rfl (cutsOK_none (by rfl)) (q_gatemake_Stream_Probes_1 K)
theorem q_gatemake_Stream_Probes_2 (K : Nat) (ds : List D) : evPiece (T_gatemake_Stream_Probes K) 51 (sub (codeOf Try.f35) [1, 1, 1, 0, 1, 0, 0, 1, 1, 0, 0, 1, 1, 0, 1]) .go (c_gatemake_Stream_Probes_2 K) ds = b_gatemake_Stream_Probes_2 K ds := by kernel_rfl
theorem k_gatemake_Stream_Probes_2 (K : Nat) : CutOK Try.prog (T_gatemake_Stream_Probes K) 51 (sub (codeOf Try.f35) [1, 1, 1, 0, 1, 0, 0, 1, 1, 0, 0, 1, 1, 0, 1]) (c_gatemake_Stream_Probes_2 K) :=
  piece_thm (T := T_gatemake_Stream_Probes K) (hT_of hT0 rfl rfl rfl) (hes_ok (T0 := T0) (T := T_gatemake_Stream_Probes K) rfl rfl (⟨ok_gatemake_Stream_Range K, ok_gatemake_Stream_Pick K, ok_gatemake_Stream_InstanceKey K, ok_gatemake_Stream_Flip K, ok_gatemake_Stream_Next K, ok_gatemake_Stream_Odd K, trivial⟩ : FAll Try.prog T0 [(13, e_gatemake_Stream_Range K), (14, e_gatemake_Stream_Pick K), (104, e_gatemake_Stream_InstanceKey K), (15, e_gatemake_Stream_Flip K), (16, e_gatemake_Stream_Next K), (64, e_gatemake_Stream_Odd K)])) rfl rfl rfl (cutsOK_none (by rfl)) (q_gatemake_Stream_Probes_2 K)
theorem q_gatemake_Stream_Probes_0 (K : Nat) (rec : List D → Option (Nat × List D)) (ds : List D) : evLoop (T_gatemake_Stream_Probes K) 51 (sub (codeOf Try.f35) [1, 1, 1, 0, 1, 0, 0]) (.seq .go (.seq .go (.seq (.blk (.seq .go (.seq .go (.seq (.seq (.cut 1) (.cut 2)) .go)))) .go))) (c_gatemake_Stream_Probes_0 K) rec ds = b_gatemake_Stream_Probes_0 K rec ds := by kernel_rfl
theorem k_gatemake_Stream_Probes_0 (K : Nat) : CutOK Try.prog (T_gatemake_Stream_Probes K) 51 (sub (codeOf Try.f35) [1, 1, 1, 0, 1, 0]) (c_gatemake_Stream_Probes_0 K) :=
  loop_thm (T := T_gatemake_Stream_Probes K) (hT_of hT0 rfl rfl rfl) (hes_ok (T0 := T0) (T := T_gatemake_Stream_Probes K) rfl rfl (⟨ok_gatemake_Stream_Range K, ok_gatemake_Stream_Pick K, ok_gatemake_Stream_InstanceKey K, ok_gatemake_Stream_Flip K, ok_gatemake_Stream_Next K, ok_gatemake_Stream_Odd K, trivial⟩ : FAll Try.prog T0 [(13, e_gatemake_Stream_Range K), (14, e_gatemake_Stream_Pick K), (104, e_gatemake_Stream_InstanceKey K), (15, e_gatemake_Stream_Flip K), (16, e_gatemake_Stream_Next K), (64, e_gatemake_Stream_Odd K)])) (by kernel_rfl) rfl rfl rfl (cutsOK_list (l := [(1, sub (codeOf Try.f35) [1, 1, 1, 0, 1, 0, 0, 1, 1, 0, 0, 1, 1, 0, 0]), (2, sub (codeOf Try.f35) [1, 1, 1, 0, 1, 0, 0, 1, 1, 0, 0, 1, 1, 0, 1])]) (by kernel_rfl) ⟨cut_one (u := c_gatemake_Stream_Probes_1 K) rfl (k_gatemake_Stream_Probes_1 K), cut_one (u := c_gatemake_Stream_Probes_2 K) rfl (k_gatemake_Stream_Probes_2 K), trivial⟩) rfl (q_gatemake_Stream_Probes_0 K)
theorem q_gatemake_Stream_Probes (K : Nat) (ds : List D) : evFn (T_gatemake_Stream_Probes K) Try.f35 (.seq .go (.seq .go (.seq .go (.seq (.seq .go (.blk (.cut 0))) .go)))) (e_gatemake_Stream_Probes K) ds = (e_gatemake_Stream_Probes K).f ds := by kernel_rfl
theorem ok_gatemake_Stream_Probes (K : Nat) : FnOK Try.prog T0 35 (e_gatemake_Stream_Probes K) :=
  fn_thm (T0 := T0) (T := T_gatemake_Stream_Probes K) rfl (hT_of hT0 rfl rfl rfl) (hes_ok (T0 := T0) (T := T_gatemake_Stream_Probes K) rfl rfl (⟨ok_gatemake_Stream_Range K, ok_gatemake_Stream_Pick K, ok_gatemake_Stream_InstanceKey K, ok_gatemake_Stream_Flip K, ok_gatemake_Stream_Next K, ok_gatemake_Stream_Odd K, trivial⟩ : FAll Try.prog T0 [(13, e_gatemake_Stream_Range K), (14, e_gatemake_Stream_Pick K), (104, e_gatemake_Stream_InstanceKey K), (15, e_gatemake_Stream_Flip K), (16, e_gatemake_Stream_Next K), (64, e_gatemake_Stream_Odd K)])) Try.func35 (by decide) rfl (Nat.le_of_ble_eq_true rfl) rfl rfl rfl (tot_none rfl) (cutsOK_list (l := [(0, sub (codeOf Try.f35) [1, 1, 1, 0, 1, 0])]) (by kernel_rfl) ⟨cut_one (u := c_gatemake_Stream_Probes_0 K) rfl (k_gatemake_Stream_Probes_0 K), trivial⟩) (q_gatemake_Stream_Probes K)
/-! ### 97 gatewarden/kit.IsKey -/
def b_kit_IsKey_0 (K : Nat) (rec : List D → Option (Nat × List D)) (ds : List D) : Option (Nat × List D) :=
  let s := D.nth ds 0
  let i := D.nth ds 1
  bif (ltI i.int (s.str.length : Int)) then
    bif (inB i.int s.str.length) then
      bif (!(bif (bif (geI (byteAt s.str i.int.toNat) 97) then (leI (byteAt s.str i.int.toNat) 122) else false) then true else (bif (gtI i.int 0) then (bif (bif (bif (geI (byteAt s.str i.int.toNat) 48) then (leI (byteAt s.str i.int.toNat) 57) else false) then true else ((byteAt s.str i.int.toNat) == (45 : Int))) then true else ((byteAt s.str i.int.toNat) == (95 : Int))) else false))) then
        some (0, [D.b false])
      else
        rec [s, D.i (IntKind.i64.wrap (i.int + (1 : Int)))]
    else
      none
  else
    some (1, [])
def c_kit_IsKey_0 (K : Nat) : Cut := { sh := { sl := [(0, .d 9 true), (3, .d 3 true)], ob := [] }, kept := [], outs := [(.ret, { sl := [(2, .d 4 true)], ob := [] }), (.exit 0, { sl := [], ob := [] })], f := fun ds => fixN (b_kit_IsKey_0 K) K ds }
def f_kit_IsKey (K : Nat) (s : D) : Option (List D) :=
  (fixN (b_kit_IsKey_0 K) K [s, D.i 0]).bind fun t1 =>
  bif (t1.1.beq 0) then
    some [D.nth t1.2 0]
  else
    some [D.b (bif (!(s.str == ([] : List UInt8))) then (leI (s.str.length : Int) 40) else false)]
def e_kit_IsKey (K : Nat) : Entry := { n := 1, sh := { sl := [(0, .d 9 false)], ob := [] }, kept := [], rs := [{ sl := [(0, .d 4 true)], ob := [] }], f := fun ds => f_kit_IsKey K (D.nth ds 0), tot := none }
def T_kit_IsKey (K : Nat) : Tbl := { T0 with ents := entsOf [], cuts := lk [(0, c_kit_IsKey_0 K)] }
theorem q_kit_IsKey_0 (K : Nat) (rec : List D → Option (Nat × List D)) (ds : List D) : evLoop (T_kit_IsKey K) 48 (sub (codeOf Try.f97) [1, 0, 1, 0, 0]) .go (c_kit_IsKey_0 K) rec ds = b_kit_IsKey_0 K rec ds := by kernel_rfl
theorem k_kit_IsKey_0 (K : Nat) : CutOK Try.prog (T_kit_IsKey K) 48 (sub (codeOf Try.f97) [1, 0, 1, 0]) (c_kit_IsKey_0 K) :=
  loop_thm (T := T_kit_IsKey K) (hT_of hT0 rfl rfl rfl) (hes_ok (T0 := T0) (T := T_kit_IsKey K) rfl rfl (trivial : FAll Try.prog T0 [])) (by kernel_rfl) rfl rfl rfl (cutsOK_none (by rfl)) rfl (q_kit_IsKey_0 K)
theorem q_kit_IsKey (K : Nat) (ds : List D) : evFn (T_kit_IsKey K) Try.f97 (.seq .go (.seq (.seq .go (.blk (.cut 0))) .go)) (e_kit_IsKey K) ds = (e_kit_IsKey K).f ds := by kernel_rfl
theorem ok_kit_IsKey (K : Nat) : FnOK Try.prog T0 97 (e_kit_IsKey K) :=
  fn_thm (T0 := T0) (T := T_kit_IsKey K) rfl (hT_of hT0 rfl rfl rfl) (hes_ok (T0 := T0) (T := T_kit_IsKey K) rfl rfl (trivial : FAll Try.prog T0 [])) Try.func97 (by decide) rfl (Nat.le_of_ble_eq_true rfl) rfl rfl rfl (tot_none rfl) (cutsOK_list (l := [(0, sub (codeOf Try.f97) [1, 0, 1, 0])]) (by kernel_rfl) ⟨cut_one (u := c_kit_IsKey_0 K) rfl (k_kit_IsKey_0 K), trivial⟩) (q_kit_IsKey K)
/-! ### 78 gatewarden/kit.Outside -/
def p_kit_Outside (n low high : D) : List D := [D.b (bif (ltI n.int low.int) then true else (gtI n.int high.int))]
def e_kit_Outside (K : Nat) : Entry := { n := 3, sh := { sl := [(0, .d 3 false), (1, .d 3 false), (2, .d 3 false)], ob := [] }, kept := [], rs := [{ sl := [(0, .d 4 true)], ob := [] }], f := fun ds => some (p_kit_Outside (D.nth ds 0) (D.nth ds 1) (D.nth ds 2)), tot := some fun ds => p_kit_Outside (D.nth ds 0) (D.nth ds 1) (D.nth ds 2) }
def T_kit_Outside (K : Nat) : Tbl := { T0 with ents := entsOf [], cuts := lk [] }
theorem q_kit_Outside (K : Nat) (ds : List D) : evFn (T_kit_Outside K) Try.f78 .go (e_kit_Outside K) ds = (e_kit_Outside K).f ds := by kernel_rfl
theorem ok_kit_Outside (K : Nat) : FnOK Try.prog T0 78 (e_kit_Outside K) :=
  fn_thm (T0 := T0) (T := T_kit_Outside K) rfl (hT_of hT0 rfl rfl rfl) (hes_ok (T0 := T0) (T := T_kit_Outside K) rfl rfl (trivial : FAll Try.prog T0 [])) Try.func78 (by decide) rfl (Nat.le_of_ble_eq_true rfl) rfl rfl rfl (tot_some rfl fun _ => rfl) (cutsOK_none (by rfl)) (q_kit_Outside K)
/-! ### 38 gatewarden/upstream.CheckInstances -/
def b_upstream_CheckInstances_0 (K : Nat) (rec : List D → Option (Nat × List D)) (ds : List D) : Option (Nat × List D) :=
  let l := D.nth ds 0
  let s8 := D.nth ds 1
  let s9 := D.nth ds 2
  let s10 := D.nth ds 3
  bif (ltI s10.int s9.int) then
    bif (inB s10.int s8.list.length) then
      (f_kit_IsKey K ((D.nth s8.list s10.int.toNat).at' 0)).bind fun t1 =>
      bif (!((D.nth t1 0).bool)) then
        some (0, [D.i 5])
      else
        bif ((!(gtI s10.int 0)) || (inB (IntKind.i64.wrap (s10.int - (1 : Int))) l.list.length)) then
          bif (bif (gtI s10.int 0) then ((Op.bytesLess (((D.nth s8.list s10.int.toNat).at' 0).str) (((D.nth l.list ((IntKind.i64.wrap (s10.int - (1 : Int))).toNat)).at' 0).str)) || ((((D.nth s8.list s10.int.toNat).at' 0).str) == (((D.nth l.list ((IntKind.i64.wrap (s10.int - (1 : Int))).toNat)).at' 0).str))) else false) then
            some (0, [D.i 7])
          else
            bif (D.nth (p_kit_Outside ((D.nth s8.list s10.int.toNat).at' 1) (D.i 1) (D.i 100)) 0).bool then
              some (0, [D.i 1])
            else
              rec [l, s8, s9, D.i (IntKind.i64.wrap (s10.int + (1 : Int)))]
        else
          none
    else
      none
  else
    some (1, [])
def c_upstream_CheckInstances_0 (K : Nat) : Cut := { sh := { sl := [(0, .d 48 false), (8, .d 48 false), (9, .d 3 true), (10, .d 3 true)], ob := [] }, kept := [], outs := [(.ret, { sl := [(2, .d 30 true)], ob := [] }), (.exit 0, { sl := [], ob := [] })], f := fun ds => fixN (b_upstream_CheckInstances_0 K) K ds }
def f_upstream_CheckInstances (K : Nat) (l : D) : Option (List D) :=
  bif (gtI (l.list.length : Int) 50) then
    some [D.i 2]
  else
    (fixN (b_upstream_CheckInstances_0 K) K [l, l, D.i (l.list.length : Int), D.i 0]).bind fun t1 =>
    bif (t1.1.beq 0) then
      some [D.nth t1.2 0]
    else
      some [D.i 0]
def e_upstream_CheckInstances (K : Nat) : Entry := { n := 1, sh := { sl := [(0, .d 48 false)], ob := [] }, kept := [], rs := [{ sl := [(0, .d 30 true)], ob := [] }], f := fun ds => f_upstream_CheckInstances K (D.nth ds 0), tot := none }
def T_upstream_CheckInstances (K : Nat) : Tbl := { T0 with ents := entsOf [(97, e_kit_IsKey K), (78, e_kit_Outside K)], cuts := lk [(0, c_upstream_CheckInstances_0 K)] }
theorem q_upstream_CheckInstances_0 (K : Nat) (rec : List D → Option (Nat × List D)) (ds : List D) : evLoop (T_upstream_CheckInstances K) 39 (sub (codeOf Try.f38) [1, 1, 0, 1, 0, 0]) .go (c_upstream_CheckInstances_0 K) rec ds = b_upstream_CheckInstances_0 K rec ds := by kernel_rfl
theorem k_upstream_CheckInstances_0 (K : Nat) : CutOK Try.prog (T_upstream_CheckInstances K) 39 (sub (codeOf Try.f38) [1, 1, 0, 1, 0]) (c_upstream_CheckInstances_0 K) :=
  loop_thm (T := T_upstream_CheckInstances K) (hT_of hT0 rfl rfl rfl) (hes_ok (T0 := T0) (T := T_upstream_CheckInstances K) rfl rfl (⟨ok_kit_IsKey K, ok_kit_Outside K, trivial⟩ : FAll Try.prog T0 [(97, e_kit_IsKey K), (78, e_kit_Outside K)])) (by kernel_rfl) rfl rfl rfl (cutsOK_none (by rfl)) rfl (q_upstream_CheckInstances_0 K)
theorem q_upstream_CheckInstances (K : Nat) (ds : List D) : evFn (T_upstream_CheckInstances K) Try.f38 (.seq .go (.seq .go (.seq (.seq .go (.blk (.cut 0))) .go))) (e_upstream_CheckInstances K) ds = (e_upstream_CheckInstances K).f ds := by kernel_rfl
theorem ok_upstream_CheckInstances (K : Nat) : FnOK Try.prog T0 38 (e_upstream_CheckInstances K) :=
  fn_thm (T0 := T0) (T := T_upstream_CheckInstances K) rfl (hT_of hT0 rfl rfl rfl) (hes_ok (T0 := T0) (T := T_upstream_CheckInstances K) rfl rfl (⟨ok_kit_IsKey K, ok_kit_Outside K, trivial⟩ : FAll Try.prog T0 [(97, e_kit_IsKey K), (78, e_kit_Outside K)])) Try.func38 (by decide) rfl (Nat.le_of_ble_eq_true rfl) rfl rfl rfl (tot_none rfl) (cutsOK_list (l := [(0, sub (codeOf Try.f38) [1, 1, 0, 1, 0])]) (by kernel_rfl) ⟨cut_one (u := c_upstream_CheckInstances_0 K) rfl (k_upstream_CheckInstances_0 K), trivial⟩) (q_upstream_CheckInstances K)
/-! ### 138 gatewarden/upstream.HealthFault -/
def f_upstream_HealthFault (K : Nat) (h : D) : Option (List D) :=
  bif (bif (D.nth (p_kit_Outside (h.at' 0) (D.i 1) (D.i 100)) 0).bool then true else (D.nth (p_kit_Outside (h.at' 1) (D.i 1) (D.i 100)) 0).bool) then
    some [D.i 1]
  else
    some [D.i 0]
def e_upstream_HealthFault (K : Nat) : Entry := { n := 1, sh := { sl := [(0, .d 66 false)], ob := [] }, kept := [], rs := [{ sl := [(0, .d 30 true)], ob := [] }], f := fun ds => f_upstream_HealthFault K (D.nth ds 0), tot := none }
def T_upstream_HealthFault (K : Nat) : Tbl := { T0 with frz := fun s => memN [1] s, ents := entsOf [(78, e_kit_Outside K)], cuts := lk [] }
theorem q_upstream_HealthFault (K : Nat) (ds : List D) : evFn (T_upstream_HealthFault K) Try.f138 .go (e_upstream_HealthFault K) ds = (e_upstream_HealthFault K).f ds := by kernel_rfl
theorem ok_upstream_HealthFault (K : Nat) : FnOK Try.prog T0 138 (e_upstream_HealthFault K) :=
  fn_thm (T0 := T0) (T := T_upstream_HealthFault K) rfl (hT_of hT0 rfl rfl rfl) (hes_ok (T0 := T0) (T := T_upstream_HealthFault K) rfl rfl (⟨ok_kit_Outside K, trivial⟩ : FAll Try.prog T0 [(78, e_kit_Outside K)])) Try.func138 (by decide) rfl (Nat.le_of_ble_eq_true rfl) rfl rfl rfl (tot_none rfl) (cutsOK_none (by rfl)) (q_upstream_HealthFault K)
/-! ### 98 gatewarden/kit.IsMoment -/
def p_kit_IsMoment (n : D) : List D := [D.b (bif (geI n.int 0) then (ltI n.int 345686400000) else false)]
def e_kit_IsMoment (K : Nat) : Entry := { n := 1, sh := { sl := [(0, .d 3 false)], ob := [] }, kept := [], rs := [{ sl := [(0, .d 4 true)], ob := [] }], f := fun ds => some (p_kit_IsMoment (D.nth ds 0)), tot := some fun ds => p_kit_IsMoment (D.nth ds 0) }
def T_kit_IsMoment (K : Nat) : Tbl := { T0 with ents := entsOf [], cuts := lk [] }
theorem q_kit_IsMoment (K : Nat) (ds : List D) : evFn (T_kit_IsMoment K) Try.f98 .go (e_kit_IsMoment K) ds = (e_kit_IsMoment K).f ds := by kernel_rfl
theorem ok_kit_IsMoment (K : Nat) : FnOK Try.prog T0 98 (e_kit_IsMoment K) :=
  fn_thm (T0 := T0) (T := T_kit_IsMoment K) rfl (hT_of hT0 rfl rfl rfl) (hes_ok (T0 := T0) (T := T_kit_IsMoment K) rfl rfl (trivial : FAll Try.prog T0 [])) Try.func98 (by decide) rfl (Nat.le_of_ble_eq_true rfl) rfl rfl rfl (tot_some rfl fun _ => rfl) (cutsOK_none (by rfl)) (q_kit_IsMoment K)
/-! ### 176 internal/bytealg.abigen_runtime_cmpstring -/
def p_bytealg_abigen_runtime_cmpstring (x y : D) : List D := [D.i (Lib.compareBytes x.str y.str)]
def e_bytealg_abigen_runtime_cmpstring (K : Nat) : Entry := flat2 9 9 3 (fun ds => some (p_bytealg_abigen_runtime_cmpstring (D.nth ds 0) (D.nth ds 1))) (some fun ds => p_bytealg_abigen_runtime_cmpstring (D.nth ds 0) (D.nth ds 1))
theorem ok_bytealg_abigen_runtime_cmpstring (K : Nat) : FnOK Try.prog T0 176 (e_bytealg_abigen_runtime_cmpstring K) :=
  cmpStr_ok (T := T0) Try.func176 (by kernel_rfl) (by kernel_rfl) (by kernel_rfl) (by kernel_rfl) rfl rfl rfl
/-! ### 157 internal/bytealg.CompareString -/
def p_bytealg_CompareString (a b : D) : List D := [D.nth (p_bytealg_abigen_runtime_cmpstring a b) 0]
def e_bytealg_CompareString (K : Nat) : Entry := { n := 2, sh := { sl := [(0, .d 9 false), (1, .d 9 false)], ob := [] }, kept := [], rs := [{ sl := [(0, .d 3 true)], ob := [] }], f := fun ds => some (p_bytealg_CompareString (D.nth ds 0) (D.nth ds 1)), tot := some fun ds => p_bytealg_CompareString (D.nth ds 0) (D.nth ds 1) }
def T_bytealg_CompareString (K : Nat) : Tbl := { T0 with ents := entsOf [(176, e_bytealg_abigen_runtime_cmpstring K)], cuts := lk [] }
theorem q_bytealg_CompareString (K : Nat) (ds : List D) : evFn (T_bytealg_CompareString K) Try.f157 .go (e_bytealg_CompareString K) ds = (e_bytealg_CompareString K).f ds := by kernel_rfl
theorem ok_bytealg_CompareString (K : Nat) : FnOK Try.prog T0 157 (e_bytealg_CompareString K) :=
  fn_thm (T0 := T0) (T := T_bytealg_CompareString K) rfl (hT_of hT0 rfl rfl rfl) (hes_ok (T0 := T0) (T := T_bytealg_CompareString K) rfl rfl (⟨ok_bytealg_abigen_runtime_cmpstring K, trivial⟩ : FAll Try.prog T0 [(176, e_bytealg_abigen_runtime_cmpstring K)])) Try.func157 (by decide) rfl (Nat.le_of_ble_eq_true rfl) rfl rfl rfl (tot_some rfl fun _ => rfl) (cutsOK_none (by rfl)) (q_bytealg_CompareString K)
/-! ### 137 strings.Compare -/
def p_strings_Compare (a b : D) : List D := [D.nth (p_bytealg_CompareString a b) 0]
def e_strings_Compare (K : Nat) : Entry := { n := 2, sh := { sl := [(0, .d 9 false), (1, .d 9 false)], ob := [] }, kept := [], rs := [{ sl := [(0, .d 3 true)], ob := [] }], f := fun ds => some (p_strings_Compare (D.nth ds 0) (D.nth ds 1)), tot := some fun ds => p_strings_Compare (D.nth ds 0) (D.nth ds 1) }
def T_strings_Compare (K : Nat) : Tbl := { T0 with ents := entsOf [(157, e_bytealg_CompareString K)], cuts := lk [] }
theorem q_strings_Compare (K : Nat) (ds : List D) : evFn (T_strings_Compare K) Try.f137 .go (e_strings_Compare K) ds = (e_strings_Compare K).f ds := by kernel_rfl
theorem ok_strings_Compare (K : Nat) : FnOK Try.prog T0 137 (e_strings_Compare K) :=
  fn_thm (T0 := T0) (T := T_strings_Compare K) rfl (hT_of hT0 rfl rfl rfl) (hes_ok (T0 := T0) (T := T_strings_Compare K) rfl rfl (⟨ok_bytealg_CompareString K, trivial⟩ : FAll Try.prog T0 [(157, e_bytealg_CompareString K)])) Try.func137 (by decide) rfl (Nat.le_of_ble_eq_true rfl) rfl rfl rfl (tot_some rfl fun _ => rfl) (cutsOK_none (by rfl)) (q_strings_Compare K)
/-! ### 136 gatewarden/upstream.place$1 -/
def p_upstream_place_1 (x k : D) : List D := [D.nth (p_strings_Compare (x.at' 0) k) 0]
def e_upstream_place_1 (K : Nat) : Entry := { n := 2, sh := { sl := [(0, .d 121 false), (1, .d 9 false)], ob := [] }, kept := [], rs := [{ sl := [(0, .d 3 true)], ob := [] }], f := fun ds => some (p_upstream_place_1 (D.nth ds 0) (D.nth ds 1)), tot := some fun ds => p_upstream_place_1 (D.nth ds 0) (D.nth ds 1) }
def T_upstream_place_1 (K : Nat) : Tbl := { T0 with frz := fun s => memN [2] s, ents := entsOf [(137, e_strings_Compare K)], cuts := lk [] }
theorem q_upstream_place_1 (K : Nat) (ds : List D) : evFn (T_upstream_place_1 K) Try.f136 .go (e_upstream_place_1 K) ds = (e_upstream_place_1 K).f ds := by kernel_rfl
theorem ok_upstream_place_1 (K : Nat) : FnOK Try.prog T0 136 (e_upstream_place_1 K) :=
  fn_thm (T0 := T0) (T := T_upstream_place_1 K) rfl (hT_of hT0 rfl rfl rfl) (hes_ok (T0 := T0) (T := T_upstream_place_1 K) rfl rfl (⟨ok_strings_Compare K, trivial⟩ : FAll Try.prog T0 [(137, e_strings_Compare K)])) Try.func136 (by decide) rfl (Nat.le_of_ble_eq_true rfl) rfl rfl rfl (tot_some rfl fun _ => rfl) (cutsOK_none (by rfl)) (q_upstream_place_1 K)
/-! ### 135 slices.BinarySearchFunc[[]gatewarden/api.Instance,gatewarden/api.Instance,string] -/
def b_slices_BinarySearchFunc_string_0 (K : Nat) (rec : List D → Option (Nat × List D)) (ds : List D) : Option (Nat × List D) :=
  let x := D.nth ds 0
  let target := D.nth ds 1
  let i := D.nth ds 2
  let j := D.nth ds 3
  bif (ltI i.int j.int) then
    bif (inB (IntKind.i64.wrap (shr .u64 (IntKind.u64.wrap (IntKind.i64.wrap (i.int + j.int))) 1)) x.list.length) then
      bif (ltI ((D.nth (p_upstream_place_1 (D.nth x.list ((IntKind.i64.wrap (shr .u64 (IntKind.u64.wrap (IntKind.i64.wrap (i.int + j.int))) 1)).toNat)) target) 0).int) 0) then
        rec [x, target, D.i (IntKind.i64.wrap ((IntKind.i64.wrap (shr .u64 (IntKind.u64.wrap (IntKind.i64.wrap (i.int + j.int))) 1)) + (1 : Int))), j]
      else
        rec [x, target, i, D.i (IntKind.i64.wrap (shr .u64 (IntKind.u64.wrap (IntKind.i64.wrap (i.int + j.int))) 1))]
    else
      none
  else
    some (0, [i])
def c_slices_BinarySearchFunc_string_0 (K : Nat) : Cut := { sh := { sl := [(0, .d 48 false), (1, .d 9 true), (2, .fn 136 []), (9, .d 3 true), (10, .d 3 true)], ob := [] }, kept := [], outs := [(.exit 0, { sl := [(9, .d 3 true)], ob := [] })], f := fun ds => fixN (b_slices_BinarySearchFunc_string_0 K) K ds }
def f_slices_BinarySearchFunc_string (K : Nat) (x target : D) : Option (List D) :=
  (fixN (b_slices_BinarySearchFunc_string_0 K) K [x, target, D.i 0, D.i (x.list.length : Int)]).bind fun t1 =>
  bif ((!(ltI ((D.nth t1.2 0).int) (x.list.length : Int))) || (inB ((D.nth t1.2 0).int) x.list.length)) then
    bif (ltI ((D.nth t1.2 0).int) (x.list.length : Int)) then
      some [D.nth t1.2 0, D.b (((D.nth (p_upstream_place_1 (D.nth x.list (((D.nth t1.2 0).int).toNat)) target) 0).int) == (0 : Int))]
    else
      some [D.nth t1.2 0, D.b false]
  else
    none
def e_slices_BinarySearchFunc_string (K : Nat) : Entry := { n := 3, sh := { sl := [(0, .d 48 false), (1, .d 9 false), (2, .fn 136 [])], ob := [] }, kept := [], rs := [{ sl := [(0, .tup [.d 3 true, .d 4 true])], ob := [] }], f := fun ds => f_slices_BinarySearchFunc_string K (D.nth ds 0) (D.nth ds 1), tot := none }
def T_slices_BinarySearchFunc_string (K : Nat) : Tbl := { T0 with ents := entsOf [(136, e_upstream_place_1 K)], cuts := lk [(0, c_slices_BinarySearchFunc_string_0 K)] }
theorem q_slices_BinarySearchFunc_string_0 (K : Nat) (rec : List D → Option (Nat × List D)) (ds : List D) : evLoop (T_slices_BinarySearchFunc_string K) 49 (sub (codeOf Try.f135) [1, 1, 1, 0, 0, 0]) .go (c_slices_BinarySearchFunc_string_0 K) rec ds = b_slices_BinarySearchFunc_string_0 K rec ds := by kernel_rfl
theorem k_slices_BinarySearchFunc_string_0 (K : Nat) : CutOK Try.prog (T_slices_BinarySearchFunc_string K) 49 (sub (codeOf Try.f135) [1, 1, 1, 0, 0]) (c_slices_BinarySearchFunc_string_0 K) :=
  loop_thm (T := T_slices_BinarySearchFunc_string K) (hT_of hT0 rfl rfl rfl) (hes_ok (T0 := T0) (T := T_slices_BinarySearchFunc_string K) rfl rfl (⟨ok_upstream_place_1 K, trivial⟩ : FAll Try.prog T0 [(136, e_upstream_place_1 K)])) (by kernel_rfl) rfl rfl rfl (cutsOK_none (by rfl)) rfl (q_slices_BinarySearchFunc_string_0 K)
theorem q_slices_BinarySearchFunc_string (K : Nat) (ds : List D) : evFn (T_slices_BinarySearchFunc_string K) Try.f135 (.seq .go (.seq .go (.seq .go (.seq (.blk (.cut 0)) .go)))) (e_slices_BinarySearchFunc_string K) ds = (e_slices_BinarySearchFunc_string K).f ds := by kernel_rfl
theorem ok_slices_BinarySearchFunc_string (K : Nat) : FnOK Try.prog T0 135 (e_slices_BinarySearchFunc_string K) :=
  fn_thm (T0 := T0) (T := T_slices_BinarySearchFunc_string K) rfl (hT_of hT0 rfl rfl rfl) (hes_ok (T0 := T0) (T := T_slices_BinarySearchFunc_string K) rfl rfl (⟨ok_upstream_place_1 K, trivial⟩ : FAll Try.prog T0 [(136, e_upstream_place_1 K)])) Try.func135 (by decide) rfl (Nat.le_of_ble_eq_true rfl) rfl rfl rfl (tot_none rfl) (cutsOK_list (l := [(0, sub (codeOf Try.f135) [1, 1, 1, 0, 0])]) (by kernel_rfl) ⟨cut_one (u := c_slices_BinarySearchFunc_string_0 K) rfl (k_slices_BinarySearchFunc_string_0 K), trivial⟩) (q_slices_BinarySearchFunc_string K)
/-! ### 102 gatewarden/upstream.place -/
def f_upstream_place (K : Nat) (l key : D) : Option (List D) :=
  (f_slices_BinarySearchFunc_string K l key).bind fun t1 =>
  some [D.nth t1 0, D.nth t1 1]
def e_upstream_place (K : Nat) : Entry := { n := 2, sh := { sl := [(0, .d 48 false), (1, .d 9 false)], ob := [] }, kept := [], rs := [{ sl := [(0, .tup [.d 3 true, .d 4 true])], ob := [] }], f := fun ds => f_upstream_place K (D.nth ds 0) (D.nth ds 1), tot := none }
def T_upstream_place (K : Nat) : Tbl := { T0 with ents := entsOf [(135, e_slices_BinarySearchFunc_string K)], cuts := lk [] }
theorem q_upstream_place (K : Nat) (ds : List D) : evFn (T_upstream_place K) Try.f102 .go (e_upstream_place K) ds = (e_upstream_place K).f ds := by kernel_rfl
theorem ok_upstream_place (K : Nat) : FnOK Try.prog T0 102 (e_upstream_place K) :=
  fn_thm (T0 := T0) (T := T_upstream_place K) rfl (hT_of hT0 rfl rfl rfl) (hes_ok (T0 := T0) (T := T_upstream_place K) rfl rfl (⟨ok_slices_BinarySearchFunc_string K, trivial⟩ : FAll Try.prog T0 [(135, e_slices_BinarySearchFunc_string K)])) Try.func102 (by decide) rfl (Nat.le_of_ble_eq_true rfl) rfl rfl rfl (tot_none rfl) (cutsOK_none (by rfl)) (q_upstream_place K)
/-! ### 39 gatewarden/upstream.CheckProbes -/
def b_upstream_CheckProbes_0 (K : Nat) (rec : List D → Option (Nat × List D)) (ds : List D) : Option (Nat × List D) :=
  let l := D.nth ds 0
  let p := D.nth ds 1
  let s18 := D.nth ds 2
  let s19 := D.nth ds 3
  let s20 := D.nth ds 4
  bif (ltI s20.int s19.int) then
    bif (inB s20.int s18.list.length) then
      bif (!((D.nth (p_kit_IsMoment ((D.nth s18.list s20.int.toNat).at' 0)) 0).bool)) then
        some (0, [D.i 1])
      else
        (f_upstream_place K l ((D.nth s18.list s20.int.toNat).at' 1)).bind fun t2 =>
        bif (!((D.nth t2 1).bool)) then
          some (0, [D.i 8])
        else
          bif ((!(gtI s20.int 0)) || (inB (IntKind.i64.wrap (s20.int - (1 : Int))) p.list.length)) then
            bif (bif (gtI s20.int 0) then (ltI (((D.nth s18.list s20.int.toNat).at' 0).int) (((D.nth p.list ((IntKind.i64.wrap (s20.int - (1 : Int))).toNat)).at' 0).int)) else false) then
              some (0, [D.i 7])
            else
              rec [l, p, s18, s19, D.i (IntKind.i64.wrap (s20.int + (1 : Int)))]
          else
            none
    else
      none
  else
    some (1, [])
def c_upstream_CheckProbes_0 (K : Nat) : Cut := { sh := { sl := [(0, .d 48 false), (1, .d 68 false), (18, .d 68 false), (19, .d 3 true), (20, .d 3 true)], ob := [] }, kept := [], outs := [(.ret, { sl := [(4, .d 30 true)], ob := [] }), (.exit 0, { sl := [], ob := [] })], f := fun ds => fixN (b_upstream_CheckProbes_0 K) K ds }
def f_upstream_CheckProbes (K : Nat) (l p : D) : Option (List D) :=
  (f_upstream_CheckInstances K l).bind fun t1 =>
  bif (((D.nth t1 0).int) != (0 : Int)) then
    some [D.nth t1 0]
  else
    bif (gtI (p.list.length : Int) 2000) then
      some [D.i 2]
    else
      (fixN (b_upstream_CheckProbes_0 K) K [l, p, p, D.i (p.list.length : Int), D.i 0]).bind fun t2 =>
      bif (t2.1.beq 0) then
        some [D.nth t2.2 0]
      else
        some [D.i 0]
def e_upstream_CheckProbes (K : Nat) : Entry := { n := 2, sh := { sl := [(0, .d 48 false), (1, .d 68 false)], ob := [] }, kept := [], rs := [{ sl := [(0, .d 30 true)], ob := [] }], f := fun ds => f_upstream_CheckProbes K (D.nth ds 0) (D.nth ds 1), tot := none }
def T_upstream_CheckProbes (K : Nat) : Tbl := { T0 with ents := entsOf [(38, e_upstream_CheckInstances K), (98, e_kit_IsMoment K), (102, e_upstream_place K)], cuts := lk [(0, c_upstream_CheckProbes_0 K)] }
theorem q_upstream_CheckProbes_0 (K : Nat) (rec : List D → Option (Nat × List D)) (ds : List D) : evLoop (T_upstream_CheckProbes K) 52 (sub (codeOf Try.f39) [1, 1, 1, 0, 1, 0, 0]) .go (c_upstream_CheckProbes_0 K) rec ds = b_upstream_CheckProbes_0 K rec ds := by kernel_rfl
theorem k_upstream_CheckProbes_0 (K : Nat) : CutOK Try.prog (T_upstream_CheckProbes K) 52 (sub (codeOf Try.f39) [1, 1, 1, 0, 1, 0]) (c_upstream_CheckProbes_0 K) :=
  loop_thm (T := T_upstream_CheckProbes K) (hT_of hT0 rfl rfl rfl) (hes_ok (T0 := T0) (T := T_upstream_CheckProbes K) rfl rfl (⟨ok_upstream_CheckInstances K, ok_kit_IsMoment K, ok_upstream_place K, trivial⟩ : FAll Try.prog T0 [(38, e_upstream_CheckInstances K), (98, e_kit_IsMoment K), (102, e_upstream_place K)])) (by kernel_rfl) rfl rfl rfl (cutsOK_none (by rfl)) rfl (q_upstream_CheckProbes_0 K)
theorem q_upstream_CheckProbes (K : Nat) (ds : List D) : evFn (T_upstream_CheckProbes K) Try.f39 (.seq .go (.seq .go (.seq .go (.seq (.seq .go (.blk (.cut 0))) .go)))) (e_upstream_CheckProbes K) ds = (e_upstream_CheckProbes K).f ds := by kernel_rfl
theorem ok_upstream_CheckProbes (K : Nat) : FnOK Try.prog T0 39 (e_upstream_CheckProbes K) :=
  fn_thm (T0 := T0) (T := T_upstream_CheckProbes K) rfl (hT_of hT0 rfl rfl rfl) (hes_ok (T0 := T0) (T := T_upstream_CheckProbes K) rfl rfl (⟨ok_upstream_CheckInstances K, ok_kit_IsMoment K, ok_upstream_place K, trivial⟩ : FAll Try.prog T0 [(38, e_upstream_CheckInstances K), (98, e_kit_IsMoment K), (102, e_upstream_place K)])) Try.func39 (by decide) rfl (Nat.le_of_ble_eq_true rfl) rfl rfl rfl (tot_none rfl) (cutsOK_list (l := [(0, sub (codeOf Try.f39) [1, 1, 1, 0, 1, 0])]) (by kernel_rfl) ⟨cut_one (u := c_upstream_CheckProbes_0 K) rfl (k_upstream_CheckProbes_0 K), trivial⟩) (q_upstream_CheckProbes K)
/-! ### 105 gatewarden/upstream.healthFault -/
def f_upstream_healthFault (K : Nat) (l h p : D) : Option (List D) :=
  (f_upstream_CheckInstances K l).bind fun t1 =>
  bif (((D.nth t1 0).int) != (0 : Int)) then
    some [D.nth t1 0]
  else
    (f_upstream_HealthFault K h).bind fun t2 =>
    bif (((D.nth t2 0).int) != (0 : Int)) then
      some [D.nth t2 0]
    else
      (f_upstream_CheckProbes K l p).bind fun t3 =>
      some [D.nth t3 0]
def e_upstream_healthFault (K : Nat) : Entry := { n := 3, sh := { sl := [(0, .d 48 false), (1, .d 66 false), (2, .d 68 false)], ob := [] }, kept := [], rs := [{ sl := [(0, .d 30 true)], ob := [] }], f := fun ds => f_upstream_healthFault K (D.nth ds 0) (D.nth ds 1) (D.nth ds 2), tot := none }
def T_upstream_healthFault (K : Nat) : Tbl := { T0 with frz := fun s => memN [4] s, ents := entsOf [(38, e_upstream_CheckInstances K), (138, e_upstream_HealthFault K), (39, e_upstream_CheckProbes K)], cuts := lk [] }
theorem q_upstream_healthFault (K : Nat) (ds : List D) : evFn (T_upstream_healthFault K) Try.f105 .go (e_upstream_healthFault K) ds = (e_upstream_healthFault K).f ds := by kernel_rfl
theorem ok_upstream_healthFault (K : Nat) : FnOK Try.prog T0 105 (e_upstream_healthFault K) :=
  fn_thm (T0 := T0) (T := T_upstream_healthFault K) rfl (hT_of hT0 rfl rfl rfl) (hes_ok (T0 := T0) (T := T_upstream_healthFault K) rfl rfl (⟨ok_upstream_CheckInstances K, ok_upstream_HealthFault K, ok_upstream_CheckProbes K, trivial⟩ : FAll Try.prog T0 [(38, e_upstream_CheckInstances K), (138, e_upstream_HealthFault K), (39, e_upstream_CheckProbes K)])) Try.func105 (by decide) rfl (Nat.le_of_ble_eq_true rfl) rfl rfl rfl (tot_none rfl) (cutsOK_none (by rfl)) (q_upstream_healthFault K)
/-! ### 139 (*gatewarden/upstream.health).probed -/
def b_upstream_health_probed_0 (K : Nat) (ds : List D) : Option (Nat × List D) :=
  let h := D.nth ds 0
  let most := D.nth ds 1
  let s29 := D.nth ds 2
  bif s29.bool then
    some (0, [h.at' 0])
  else
    some (0, [most])
def c_upstream_health_probed_0 (K : Nat) : Cut := { sh := { sl := [(4, .bx 66 true (.d 66 true)), (7, .d 3 true), (29, .d 4 true)], ob := [] }, kept := [], outs := [(.normal, { sl := [(7, .d 3 true)], ob := [] })], f := b_upstream_health_probed_0 K }
def f_upstream_health_probed (K : Nat) (x h good r0 : D) : Option (List D) :=
  bif (!(good.bool == ((D.nth r0.list x.int.toNat).at' 0).bool)) then
    some [D.b false, D.n (D.setNth r0.list x.int.toNat (D.n (D.setNth ((D.nth r0.list x.int.toNat).list) 1 (D.i 0))))]
  else
    (b_upstream_health_probed_0 K [h, h.at' 1, (D.nth (D.setNth r0.list x.int.toNat (D.n (D.setNth ((D.nth r0.list x.int.toNat).list) 1 (D.i (IntKind.i64.wrap ((((D.nth r0.list x.int.toNat).at' 1).int) + (1 : Int))))))) x.int.toNat).at' 0]).bind fun t1 =>
    bif (ltI (((D.nth (D.setNth r0.list x.int.toNat (D.n (D.setNth ((D.nth r0.list x.int.toNat).list) 1 (D.i (IntKind.i64.wrap ((((D.nth r0.list x.int.toNat).at' 1).int) + (1 : Int))))))) x.int.toNat).at' 1).int) ((D.nth t1.2 0).int)) then
      some [D.b false, D.n (D.setNth r0.list x.int.toNat (D.n (D.setNth ((D.nth r0.list x.int.toNat).list) 1 (D.i (IntKind.i64.wrap ((((D.nth r0.list x.int.toNat).at' 1).int) + (1 : Int)))))))]
    else
      some [D.b true, D.n (D.setNth (D.setNth (D.setNth r0.list x.int.toNat (D.n (D.setNth ((D.nth r0.list x.int.toNat).list) 1 (D.i (IntKind.i64.wrap ((((D.nth r0.list x.int.toNat).at' 1).int) + (1 : Int))))))) x.int.toNat (D.n (D.setNth ((D.nth (D.setNth r0.list x.int.toNat (D.n (D.setNth ((D.nth r0.list x.int.toNat).list) 1 (D.i (IntKind.i64.wrap ((((D.nth r0.list x.int.toNat).at' 1).int) + (1 : Int))))))) x.int.toNat).list) 0 (D.b (!(((D.nth (D.setNth r0.list x.int.toNat (D.n (D.setNth ((D.nth r0.list x.int.toNat).list) 1 (D.i (IntKind.i64.wrap ((((D.nth r0.list x.int.toNat).at' 1).int) + (1 : Int))))))) x.int.toNat).at' 0).bool)))))) x.int.toNat (D.n (D.setNth ((D.nth (D.setNth (D.setNth r0.list x.int.toNat (D.n (D.setNth ((D.nth r0.list x.int.toNat).list) 1 (D.i (IntKind.i64.wrap ((((D.nth r0.list x.int.toNat).at' 1).int) + (1 : Int))))))) x.int.toNat (D.n (D.setNth ((D.nth (D.setNth r0.list x.int.toNat (D.n (D.setNth ((D.nth r0.list x.int.toNat).list) 1 (D.i (IntKind.i64.wrap ((((D.nth r0.list x.int.toNat).at' 1).int) + (1 : Int))))))) x.int.toNat).list) 0 (D.b (!(((D.nth (D.setNth r0.list x.int.toNat (D.n (D.setNth ((D.nth r0.list x.int.toNat).list) 1 (D.i (IntKind.i64.wrap ((((D.nth r0.list x.int.toNat).at' 1).int) + (1 : Int))))))) x.int.toNat).at' 0).bool)))))) x.int.toNat).list) 1 (D.i 0))))]
def e_upstream_health_probed (K : Nat) : Entry := { n := 3, sh := { sl := [(0, .optr 148 0 []), (1, .d 66 false), (2, .d 4 false)], ob := [(0, .row 148 true)] }, kept := [0], rs := [{ sl := [(0, .d 4 true)], ob := [(0, .row 148 true)] }], f := fun ds => f_upstream_health_probed K (D.nth ds 0) (D.nth ds 1) (D.nth ds 2) (D.nth ds 3), tot := none }
def T_upstream_health_probed (K : Nat) : Tbl := { T0 with frz := fun s => memN [4] s, ents := entsOf [], cuts := lk [(0, c_upstream_health_probed_0 K)] }
theorem q_upstream_health_probed_0 (K : Nat) (ds : List D) : evPiece (T_upstream_health_probed K) 49 (sub (codeOf Try.f139) [1, 1, 1, 1, 0, 1]) .go (c_upstream_health_probed_0 K) ds = b_upstream_health_probed_0 K ds := by kernel_rfl
theorem k_upstream_health_probed_0 (K : Nat) : CutOK Try.prog (T_upstream_health_probed K) 49 (sub (codeOf Try.f139) [1, 1, 1, 1, 0, 1]) (c_upstream_health_probed_0 K) :=
  piece_thm (T := T_upstream_health_probed K) (hT_of hT0 rfl rfl rfl) (hes_ok (T0 := T0) (T := T_upstream_health_probed K) rfl rfl (trivial : FAll Try.prog T0 [])) rfl rfl rfl (cutsOK_none (by rfl)) (q_upstream_health_probed_0 K)
theorem q_upstream_health_probed (K : Nat) (ds : List D) : evFn (T_upstream_health_probed K) Try.f139 (.seq .go (.seq .go (.seq .go (.seq .go (.seq (.seq .go (.cut 0)) .go))))) (e_upstream_health_probed K) ds = (e_upstream_health_probed K).f ds := by kernel_rfl
theorem ok_upstream_health_probed (K : Nat) : FnOK Try.prog T0 139 (e_upstream_health_probed K) :=
  fn_thm (T0 := T0) (T := T_upstream_health_probed K) rfl (hT_of hT0 rfl rfl rfl) (hes_ok (T0 := T0) (T := T_upstream_health_probed K) rfl rfl (trivial : FAll Try.prog T0 [])) Try.func139 (by decide) rfl (Nat.le_of_ble_eq_true rfl) rfl rfl rfl (tot_none rfl) (cutsOK_list (l := [(0, sub (codeOf Try.f139) [1, 1, 1, 1, 0, 1])]) (by kernel_rfl) ⟨cut_one (u := c_upstream_health_probed_0 K) rfl (k_upstream_health_probed_0 K), trivial⟩) (q_upstream_health_probed K)
/-! ### 106 gatewarden/upstream.turns -/
def b_upstream_turns_0 (K : Nat) (rec : List D → Option (Nat × List D)) (ds : List D) : Option (Nat × List D) :=
  let l := D.nth ds 0
  let vat := D.nth ds 1
  let h := D.nth ds 2
  let s19 := D.nth ds 3
  let s20 := D.nth ds 4
  let s21 := D.nth ds 5
  let r0 := D.nth ds 6
  let r1 := D.nth ds 7
  bif (ltI s21.int s20.int) then
    bif (inB s21.int s19.list.length) then
      bif (gtI (((D.nth s19.list s21.int.toNat).at' 0).int) vat.int) then
        some (0, [D.n r0.list, D.n r1.list])
      else
        (f_upstream_place K l ((D.nth s19.list s21.int.toNat).at' 1)).bind fun t1 =>
        bif (inB ((D.nth t1 0).int) r0.list.length) then
          (f_upstream_health_probed K (D.i ((D.nth t1 0).int)) h ((D.nth s19.list s21.int.toNat).at' 2) (D.n r0.list)).bind fun t2 =>
          bif (D.nth t2 0).bool then
            bif (inB ((D.nth t1 0).int) (((D.nth t2 1).list).length)) then
              bif (lim (r1.list.length + 1)) then
                rec [l, vat, h, s19, s20, D.i (IntKind.i64.wrap (s21.int + (1 : Int))), D.n ((D.nth t2 1).list), D.n (r1.list ++ [D.n [(D.nth s19.list s21.int.toNat).at' 0, (D.nth s19.list s21.int.toNat).at' 1, D.b (!(((D.nth ((D.nth t2 1).list) (((D.nth t1 0).int).toNat)).at' 0).bool))]])]
              else
                none
            else
              none
          else
            rec [l, vat, h, s19, s20, D.i (IntKind.i64.wrap (s21.int + (1 : Int))), D.n ((D.nth t2 1).list), D.n r1.list]
        else
          none
    else
      none
  else
    some (0, [D.n r0.list, D.n r1.list])
def c_upstream_turns_0 (K : Nat) : Cut := { sh := { sl := [(0, .d 48 false), (3, .d 3 true), (5, .bx 66 true (.d 66 true)), (10, .own 144 0), (11, .own 70 1), (19, .d 68 false), (20, .d 3 true), (21, .d 3 true)], ob := [(0, .row 148 true), (1, .row 84 true)] }, kept := [0], outs := [(.exit 0, { sl := [(11, .own 70 1)], ob := [(0, .row 148 true), (1, .row 84 true)] })], f := fun ds => fixN (b_upstream_turns_0 K) K ds }
def f_upstream_turns (K : Nat) (l h p vat : D) : Option (List D) :=
  bif ((leI 0 (l.list.length : Int)) && (lim ((l.list.length : Int).toNat))) then
    (fixN (b_upstream_turns_0 K) K [l, vat, h, p, D.i (p.list.length : Int), D.i 0, D.n (List.replicate ((l.list.length : Int).toNat) (D.n [])), D.n []]).bind fun t1 =>
    some [D.n ((D.nth t1.2 1).list), D.n ((D.nth t1.2 0).list)]
  else
    none
def e_upstream_turns (K : Nat) : Entry := { n := 4, sh := { sl := [(0, .d 48 false), (1, .d 66 false), (2, .d 68 false), (3, .d 3 false)], ob := [] }, kept := [], rs := [{ sl := [(0, .tup [.own 70 0, .own 144 1])], ob := [(0, .row 84 true), (1, .row 148 true)] }], f := fun ds => f_upstream_turns K (D.nth ds 0) (D.nth ds 1) (D.nth ds 2) (D.nth ds 3), tot := none }
def T_upstream_turns (K : Nat) : Tbl := { T0 with frz := fun s => memN [5] s, ents := entsOf [(102, e_upstream_place K), (139, e_upstream_health_probed K)], cuts := lk [(0, c_upstream_turns_0 K)] }
theorem q_upstream_turns_0 (K : Nat) (rec : List D → Option (Nat × List D)) (ds : List D) : evLoop (T_upstream_turns K) 60 (sub (codeOf Try.f106) [1, 1, 1, 0, 1, 0, 0]) .go (c_upstream_turns_0 K) rec ds = b_upstream_turns_0 K rec ds := by kernel_rfl
theorem k_upstream_turns_0 (K : Nat) : CutOK Try.prog (T_upstream_turns K) 60 (sub (codeOf Try.f106) [1, 1, 1, 0, 1, 0]) (c_upstream_turns_0 K) :=
  loop_thm (T := T_upstream_turns K) (hT_of hT0 rfl rfl rfl) (hes_ok (T0 := T0) (T := T_upstream_turns K) rfl rfl (⟨ok_upstream_place K, ok_upstream_health_probed K, trivial⟩ : FAll Try.prog T0 [(102, e_upstream_place K), (139, e_upstream_health_probed K)])) (by kernel_rfl) rfl rfl rfl (cutsOK_none (by rfl)) rfl (q_upstream_turns_0 K)
theorem q_upstream_turns (K : Nat) (ds : List D) : evFn (T_upstream_turns K) Try.f106 (.seq .go (.seq .go (.seq .go (.seq (.seq .go (.blk (.cut 0))) .go)))) (e_upstream_turns K) ds = (e_upstream_turns K).f ds := by kernel_rfl
theorem ok_upstream_turns (K : Nat) : FnOK Try.prog T0 106 (e_upstream_turns K) :=
  fn_thm (T0 := T0) (T := T_upstream_turns K) rfl (hT_of hT0 rfl rfl rfl) (hes_ok (T0 := T0) (T := T_upstream_turns K) rfl rfl (⟨ok_upstream_place K, ok_upstream_health_probed K, trivial⟩ : FAll Try.prog T0 [(102, e_upstream_place K), (139, e_upstream_health_probed K)])) Try.func106 (by decide) rfl (Nat.le_of_ble_eq_true rfl) rfl rfl rfl (tot_none rfl) (cutsOK_list (l := [(0, sub (codeOf Try.f106) [1, 1, 1, 0, 1, 0])]) (by kernel_rfl) ⟨cut_one (u := c_upstream_turns_0 K) rfl (k_upstream_turns_0 K), trivial⟩) (q_upstream_turns K)
/-! ### 36 gatewarden/upstream.Turns -/
def f_upstream_Turns (K : Nat) (l h p : D) : Option (List D) :=
  (f_upstream_healthFault K l h p).bind fun t1 =>
  bif (((D.nth t1 0).int) != (0 : Int)) then
    some [D.nth t1 0, D.n []]
  else
    (f_upstream_turns K l h p (D.i 345686400000)).bind fun t2 =>
    some [D.i 0, D.n ((D.nth t2 0).list)]
def e_upstream_Turns (K : Nat) : Entry := { n := 3, sh := { sl := [(0, .d 48 false), (1, .d 66 false), (2, .d 68 false)], ob := [] }, kept := [], rs := [{ sl := [(0, .tup [.own 70 0, .d 30 true])], ob := [(0, .row 84 true)] }], f := fun ds => f_upstream_Turns K (D.nth ds 0) (D.nth ds 1) (D.nth ds 2), tot := none }
def T_upstream_Turns (K : Nat) : Tbl := { T0 with frz := fun s => memN [4] s, ents := entsOf [(105, e_upstream_healthFault K), (106, e_upstream_turns K)], cuts := lk [] }
theorem q_upstream_Turns (K : Nat) (ds : List D) : evFn (T_upstream_Turns K) Try.f36 .go (e_upstream_Turns K) ds = (e_upstream_Turns K).f ds := by kernel_rfl
theorem ok_upstream_Turns (K : Nat) : FnOK Try.prog T0 36 (e_upstream_Turns K) :=
  fn_thm (T0 := T0) (T := T_upstream_Turns K) rfl (hT_of hT0 rfl rfl rfl) (hes_ok (T0 := T0) (T := T_upstream_Turns K) rfl rfl (⟨ok_upstream_healthFault K, ok_upstream_turns K, trivial⟩ : FAll Try.prog T0 [(105, e_upstream_healthFault K), (106, e_upstream_turns K)])) Try.func36 (by decide) rfl (Nat.le_of_ble_eq_true rfl) rfl rfl rfl (tot_none rfl) (cutsOK_none (by rfl)) (q_upstream_Turns K)
/-! ### 37 gatewarden/upstream.Up -/
def b_upstream_Up_0 (K : Nat) (rec : List D → Option (Nat × List D)) (ds : List D) : Option (Nat × List D) :=
  let s34 := D.nth ds 0
  let s35 := D.nth ds 1
  let s36 := D.nth ds 2
  let r0 := D.nth ds 3
  let r1 := D.nth ds 4
  bif (ltI s36.int s35.int) then
    bif (inB s36.int s34.list.length) then
      bif (inB s36.int r0.list.length) then
        bif (!(((D.nth r0.list s36.int.toNat).at' 0).bool)) then
          bif (lim (r1.list.length + 1)) then
            rec [s34, s35, D.i (IntKind.i64.wrap (s36.int + (1 : Int))), D.n r0.list, D.n (r1.list ++ [(D.nth s34.list s36.int.toNat).at' 0])]
          else
            none
        else
          rec [s34, s35, D.i (IntKind.i64.wrap (s36.int + (1 : Int))), D.n r0.list, D.n r1.list]
      else
        none
    else
      none
  else
    some (0, [D.n r0.list, D.n r1.list])
def c_upstream_Up_0 (K : Nat) : Cut := { sh := { sl := [(12, .own 144 0), (13, .own 73 1), (34, .d 48 false), (35, .d 3 true), (36, .d 3 true)], ob := [(0, .row 148 true), (1, .row 9 true)] }, kept := [0], outs := [(.exit 0, { sl := [(13, .own 73 1)], ob := [(0, .row 148 true), (1, .row 9 true)] })], f := fun ds => fixN (b_upstream_Up_0 K) K ds }
def f_upstream_Up (K : Nat) (l h p vat : D) : Option (List D) :=
  (f_upstream_healthFault K l h p).bind fun t1 =>
  bif (((D.nth t1 0).int) != (0 : Int)) then
    some [D.nth t1 0, D.n []]
  else
    bif (!((D.nth (p_kit_IsMoment vat) 0).bool)) then
      some [D.i 1, D.n []]
    else
      (f_upstream_turns K l h p vat).bind fun t2 =>
      (fixN (b_upstream_Up_0 K) K [l, D.i (l.list.length : Int), D.i 0, D.n ((D.nth t2 1).list), D.n []]).bind fun t3 =>
      some [D.i 0, D.n ((D.nth t3.2 1).list)]
def e_upstream_Up (K : Nat) : Entry := { n := 4, sh := { sl := [(0, .d 48 false), (1, .d 66 false), (2, .d 68 false), (3, .d 3 false)], ob := [] }, kept := [], rs := [{ sl := [(0, .tup [.own 73 0, .d 30 true])], ob := [(0, .row 9 true)] }], f := fun ds => f_upstream_Up K (D.nth ds 0) (D.nth ds 1) (D.nth ds 2) (D.nth ds 3), tot := none }
def T_upstream_Up (K : Nat) : Tbl := { T0 with frz := fun s => memN [5] s, ents := entsOf [(105, e_upstream_healthFault K), (98, e_kit_IsMoment K), (106, e_upstream_turns K)], cuts := lk [(0, c_upstream_Up_0 K)] }
theorem q_upstream_Up_0 (K : Nat) (rec : List D → Option (Nat × List D)) (ds : List D) : evLoop (T_upstream_Up K) 54 (sub (codeOf Try.f37) [1, 1, 1, 1, 1, 0, 1, 0, 0]) .go (c_upstream_Up_0 K) rec ds = b_upstream_Up_0 K rec ds := by kernel_rfl
theorem k_upstream_Up_0 (K : Nat) : CutOK Try.prog (T_upstream_Up K) 54 (sub (codeOf Try.f37) [1, 1, 1, 1, 1, 0, 1, 0]) (c_upstream_Up_0 K) :=
  loop_thm (T := T_upstream_Up K) (hT_of hT0 rfl rfl rfl) (hes_ok (T0 := T0) (T := T_upstream_Up K) rfl rfl (⟨ok_upstream_healthFault K, ok_kit_IsMoment K, ok_upstream_turns K, trivial⟩ : FAll Try.prog T0 [(105, e_upstream_healthFault K), (98, e_kit_IsMoment K), (106, e_upstream_turns K)])) (by kernel_rfl) rfl rfl rfl (cutsOK_none (by rfl)) rfl (q_upstream_Up_0 K)
theorem q_upstream_Up (K : Nat) (ds : List D) : evFn (T_upstream_Up K) Try.f37 (.seq .go (.seq .go (.seq .go (.seq .go (.seq .go (.seq (.seq .go (.blk (.cut 0))) .go)))))) (e_upstream_Up K) ds = (e_upstream_Up K).f ds := by kernel_rfl
theorem ok_upstream_Up (K : Nat) : FnOK Try.prog T0 37 (e_upstream_Up K) :=
  fn_thm (T0 := T0) (T := T_upstream_Up K) rfl (hT_of hT0 rfl rfl rfl) (hes_ok (T0 := T0) (T := T_upstream_Up K) rfl rfl (⟨ok_upstream_healthFault K, ok_kit_IsMoment K, ok_upstream_turns K, trivial⟩ : FAll Try.prog T0 [(105, e_upstream_healthFault K), (98, e_kit_IsMoment K), (106, e_upstream_turns K)])) Try.func37 (by decide) rfl (Nat.le_of_ble_eq_true rfl) rfl rfl rfl (tot_none rfl) (cutsOK_list (l := [(0, sub (codeOf Try.f37) [1, 1, 1, 1, 1, 0, 1, 0])]) (by kernel_rfl) ⟨cut_one (u := c_upstream_Up_0 K) rfl (k_upstream_Up_0 K), trivial⟩) (q_upstream_Up K)
/-! ### 79 gatewarden/gateref2.in -/
def p_gateref2_in (n low high : D) : List D := [D.b (bif (leI low.int n.int) then (leI n.int high.int) else false)]
def e_gateref2_in (K : Nat) : Entry := { n := 3, sh := { sl := [(0, .d 3 false), (1, .d 3 false), (2, .d 3 false)], ob := [] }, kept := [], rs := [{ sl := [(0, .d 4 true)], ob := [] }], f := fun ds => some (p_gateref2_in (D.nth ds 0) (D.nth ds 1) (D.nth ds 2)), tot := some fun ds => p_gateref2_in (D.nth ds 0) (D.nth ds 1) (D.nth ds 2) }
def T_gateref2_in (K : Nat) : Tbl := { T0 with ents := entsOf [], cuts := lk [] }
theorem q_gateref2_in (K : Nat) (ds : List D) : evFn (T_gateref2_in K) Try.f79 .go (e_gateref2_in K) ds = (e_gateref2_in K).f ds := by kernel_rfl
theorem ok_gateref2_in (K : Nat) : FnOK Try.prog T0 79 (e_gateref2_in K) :=
  fn_thm (T0 := T0) (T := T_gateref2_in K) rfl (hT_of hT0 rfl rfl rfl) (hes_ok (T0 := T0) (T := T_gateref2_in K) rfl rfl (trivial : FAll Try.prog T0 [])) Try.func79 (by decide) rfl (Nat.le_of_ble_eq_true rfl) rfl rfl rfl (tot_some rfl fun _ => rfl) (cutsOK_none (by rfl)) (q_gateref2_in K)
/-! ### 186 internal/bytealg.IndexByteString -/
def p_bytealg_IndexByteString (x y : D) : List D := [D.i (Lib.indexByte x.str y.int.toNat.toUInt8)]
def e_bytealg_IndexByteString (K : Nat) : Entry := flat2 9 5 3 (fun ds => some (p_bytealg_IndexByteString (D.nth ds 0) (D.nth ds 1))) (some fun ds => p_bytealg_IndexByteString (D.nth ds 0) (D.nth ds 1))
theorem ok_bytealg_IndexByteString (K : Nat) : FnOK Try.prog T0 186 (e_bytealg_IndexByteString K) :=
  idxByte_ok (T := T0) Try.func186 (by kernel_rfl) (by kernel_rfl) (by kernel_rfl) (by kernel_rfl) rfl rfl rfl
/-! ### 175 internal/stringslite.IndexByte -/
def p_stringslite_IndexByte (s c : D) : List D := [D.nth (p_bytealg_IndexByteString s c) 0]
def e_stringslite_IndexByte (K : Nat) : Entry := { n := 2, sh := { sl := [(0, .d 9 false), (1, .d 5 false)], ob := [] }, kept := [], rs := [{ sl := [(0, .d 3 true)], ob := [] }], f := fun ds => some (p_stringslite_IndexByte (D.nth ds 0) (D.nth ds 1)), tot := some fun ds => p_stringslite_IndexByte (D.nth ds 0) (D.nth ds 1) }
def T_stringslite_IndexByte (K : Nat) : Tbl := { T0 with ents := entsOf [(186, e_bytealg_IndexByteString K)], cuts := lk [] }
theorem q_stringslite_IndexByte (K : Nat) (ds : List D) : evFn (T_stringslite_IndexByte K) Try.f175 .go (e_stringslite_IndexByte K) ds = (e_stringslite_IndexByte K).f ds := by kernel_rfl
theorem ok_stringslite_IndexByte (K : Nat) : FnOK Try.prog T0 175 (e_stringslite_IndexByte K) :=
  fn_thm (T0 := T0) (T := T_stringslite_IndexByte K) rfl (hT_of hT0 rfl rfl rfl) (hes_ok (T0 := T0) (T := T_stringslite_IndexByte K) rfl rfl (⟨ok_bytealg_IndexByteString K, trivial⟩ : FAll Try.prog T0 [(186, e_bytealg_IndexByteString K)])) Try.func175 (by decide) rfl (Nat.le_of_ble_eq_true rfl) rfl rfl rfl (tot_some rfl fun _ => rfl) (cutsOK_none (by rfl)) (q_stringslite_IndexByte K)
/-! ### 156 strings.IndexByte -/
def p_strings_IndexByte (s c : D) : List D := [D.nth (p_stringslite_IndexByte s c) 0]
def e_strings_IndexByte (K : Nat) : Entry := { n := 2, sh := { sl := [(0, .d 9 false), (1, .d 5 false)], ob := [] }, kept := [], rs := [{ sl := [(0, .d 3 true)], ob := [] }], f := fun ds => some (p_strings_IndexByte (D.nth ds 0) (D.nth ds 1)), tot := some fun ds => p_strings_IndexByte (D.nth ds 0) (D.nth ds 1) }
def T_strings_IndexByte (K : Nat) : Tbl := { T0 with ents := entsOf [(175, e_stringslite_IndexByte K)], cuts := lk [] }
theorem q_strings_IndexByte (K : Nat) (ds : List D) : evFn (T_strings_IndexByte K) Try.f156 .go (e_strings_IndexByte K) ds = (e_strings_IndexByte K).f ds := by kernel_rfl
theorem ok_strings_IndexByte (K : Nat) : FnOK Try.prog T0 156 (e_strings_IndexByte K) :=
  fn_thm (T0 := T0) (T := T_strings_IndexByte K) rfl (hT_of hT0 rfl rfl rfl) (hes_ok (T0 := T0) (T := T_strings_IndexByte K) rfl rfl (⟨ok_stringslite_IndexByte K, trivial⟩ : FAll Try.prog T0 [(175, e_stringslite_IndexByte K)])) Try.func156 (by decide) rfl (Nat.le_of_ble_eq_true rfl) rfl rfl rfl (tot_some rfl fun _ => rfl) (cutsOK_none (by rfl)) (q_strings_IndexByte K)
/-! ### 131 gatewarden/gateref2.only -/
def b_gateref2_only_0 (K : Nat) (rec : List D → Option (Nat × List D)) (ds : List D) : Option (Nat × List D) :=
  let s := D.nth ds 0
  let vsome := D.nth ds 1
  let s7 := D.nth ds 2
  let s8 := D.nth ds 3
  bif (ltI s8.int s7.int) then
    bif (inB s8.int s.str.length) then
      bif (ltI ((D.nth (p_strings_IndexByte vsome (D.i (byteAt s.str s8.int.toNat))) 0).int) 0) then
        some (0, [D.b false])
      else
        rec [s, vsome, s7, D.i (IntKind.i64.wrap (s8.int + (1 : Int)))]
    else
      none
  else
    some (1, [])
def c_gateref2_only_0 (K : Nat) : Cut := { sh := { sl := [(0, .d 9 true), (1, .d 9 true), (7, .d 3 true), (8, .d 3 true)], ob := [] }, kept := [], outs := [(.ret, { sl := [(4, .d 4 true)], ob := [] }), (.exit 0, { sl := [], ob := [] })], f := fun ds => fixN (b_gateref2_only_0 K) K ds }
def f_gateref2_only (K : Nat) (s vsome : D) : Option (List D) :=
  (fixN (b_gateref2_only_0 K) K [s, vsome, D.i (s.str.length : Int), D.i 0]).bind fun t1 =>
  bif (t1.1.beq 0) then
    some [D.nth t1.2 0]
  else
    some [D.b true]
def e_gateref2_only (K : Nat) : Entry := { n := 2, sh := { sl := [(0, .d 9 false), (1, .d 9 false)], ob := [] }, kept := [], rs := [{ sl := [(0, .d 4 true)], ob := [] }], f := fun ds => f_gateref2_only K (D.nth ds 0) (D.nth ds 1), tot := none }
def T_gateref2_only (K : Nat) : Tbl := { T0 with ents := entsOf [(156, e_strings_IndexByte K)], cuts := lk [(0, c_gateref2_only_0 K)] }
theorem q_gateref2_only_0 (K : Nat) (rec : List D → Option (Nat × List D)) (ds : List D) : evLoop (T_gateref2_only K) 18 (sub (codeOf Try.f131) [1, 0, 1, 0, 0]) .go (c_gateref2_only_0 K) rec ds = b_gateref2_only_0 K rec ds := by kernel_rfl
theorem k_gateref2_only_0 (K : Nat) : CutOK Try.prog (T_gateref2_only K) 18 (sub (codeOf Try.f131) [1, 0, 1, 0]) (c_gateref2_only_0 K) :=
  loop_thm (T := T_gateref2_only K) (hT_of hT0 rfl rfl rfl) (hes_ok (T0 := T0) (T := T_gateref2_only K) rfl rfl (⟨ok_strings_IndexByte K, trivial⟩ : FAll Try.prog T0 [(156, e_strings_IndexByte K)])) (by kernel_rfl) rfl rfl rfl (cutsOK_none (by rfl)) rfl (q_gateref2_only_0 K)
theorem q_gateref2_only (K : Nat) (ds : List D) : evFn (T_gateref2_only K) Try.f131 (.seq .go (.seq (.seq .go (.blk (.cut 0))) .go)) (e_gateref2_only K) ds = (e_gateref2_only K).f ds := by kernel_rfl
theorem ok_gateref2_only (K : Nat) : FnOK Try.prog T0 131 (e_gateref2_only K) :=
  fn_thm (T0 := T0) (T := T_gateref2_only K) rfl (hT_of hT0 rfl rfl rfl) (hes_ok (T0 := T0) (T := T_gateref2_only K) rfl rfl (⟨ok_strings_IndexByte K, trivial⟩ : FAll Try.prog T0 [(156, e_strings_IndexByte K)])) Try.func131 (by decide) rfl (Nat.le_of_ble_eq_true rfl) rfl rfl rfl (tot_none rfl) (cutsOK_list (l := [(0, sub (codeOf Try.f131) [1, 0, 1, 0])]) (by kernel_rfl) ⟨cut_one (u := c_gateref2_only_0 K) rfl (k_gateref2_only_0 K), trivial⟩) (q_gateref2_only K)
/-! ### 94 gatewarden/gateref2.Key -/
def f_gateref2_Key (K : Nat) (s : D) : Option (List D) :=
  bif ((!((D.nth (p_gateref2_in (D.i (s.str.length : Int)) (D.i 1) (D.i 40)) 0).bool)) || (inB 1 (s.str.length + 1))) then
    bif (D.nth (p_gateref2_in (D.i (s.str.length : Int)) (D.i 1) (D.i 40)) 0).bool then
      (f_gateref2_only K (D.s (s.str.take 1)) (D.s [97, 98, 99, 100, 101, 102, 103, 104, 105, 106, 107, 108, 109, 110, 111, 112, 113, 114, 115, 116, 117, 118, 119, 120, 121, 122])).bind fun t1 =>
      bif (D.nth t1 0).bool then
        (f_gateref2_only K s (D.s [97, 98, 99, 100, 101, 102, 103, 104, 105, 106, 107, 108, 109, 110, 111, 112, 113, 114, 115, 116, 117, 118, 119, 120, 121, 122, 48, 49, 50, 51, 52, 53, 54, 55, 56, 57, 45, 95])).bind fun t2 =>
        some [D.b ((D.nth t2 0).bool)]
      else
        some [D.b false]
    else
      some [D.b false]
  else
    none
def e_gateref2_Key (K : Nat) : Entry := { n := 1, sh := { sl := [(0, .d 9 false)], ob := [] }, kept := [], rs := [{ sl := [(0, .d 4 true)], ob := [] }], f := fun ds => f_gateref2_Key K (D.nth ds 0), tot := none }
def T_gateref2_Key (K : Nat) : Tbl := { T0 with ents := entsOf [(79, e_gateref2_in K), (131, e_gateref2_only K)], cuts := lk [] }
theorem q_gateref2_Key (K : Nat) (ds : List D) : evFn (T_gateref2_Key K) Try.f94 .go (e_gateref2_Key K) ds = (e_gateref2_Key K).f ds := by kernel_rfl
theorem ok_gateref2_Key (K : Nat) : FnOK Try.prog T0 94 (e_gateref2_Key K) :=
  fn_thm (T0 := T0) (T := T_gateref2_Key K) rfl (hT_of hT0 rfl rfl rfl) (hes_ok (T0 := T0) (T := T_gateref2_Key K) rfl rfl (⟨ok_gateref2_in K, ok_gateref2_only K, trivial⟩ : FAll Try.prog T0 [(79, e_gateref2_in K), (131, e_gateref2_only K)])) Try.func94 (by decide) rfl (Nat.le_of_ble_eq_true rfl) rfl rfl rfl (tot_none rfl) (cutsOK_none (by rfl)) (q_gateref2_Key K)
/-! ### 26 gatewarden/gateref2.InstancesFault -/
def b_gateref2_InstancesFault_0 (K : Nat) (rec : List D → Option (Nat × List D)) (ds : List D) : Option (Nat × List D) :=
  let last := D.nth ds 0
  let s9 := D.nth ds 1
  let s10 := D.nth ds 2
  let s11 := D.nth ds 3
  bif (ltI s11.int s10.int) then
    bif (inB s11.int s9.list.length) then
      (f_gateref2_Key K ((D.nth s9.list s11.int.toNat).at' 0)).bind fun t1 =>
      bif (!((D.nth t1 0).bool)) then
        some (0, [D.i 5])
      else
        bif ((Op.bytesLess (((D.nth s9.list s11.int.toNat).at' 0).str) last.str) || ((((D.nth s9.list s11.int.toNat).at' 0).str) == last.str)) then
          some (0, [D.i 7])
        else
          bif (!((D.nth (p_gateref2_in ((D.nth s9.list s11.int.toNat).at' 1) (D.i 1) (D.i 100)) 0).bool)) then
            some (0, [D.i 1])
          else
            rec [(D.nth s9.list s11.int.toNat).at' 0, s9, s10, D.i (IntKind.i64.wrap (s11.int + (1 : Int)))]
    else
      none
  else
    some (1, [])
def c_gateref2_InstancesFault_0 (K : Nat) : Cut := { sh := { sl := [(3, .d 9 true), (9, .d 48 false), (10, .d 3 true), (11, .d 3 true)], ob := [] }, kept := [], outs := [(.ret, { sl := [(2, .d 30 true)], ob := [] }), (.exit 0, { sl := [], ob := [] })], f := fun ds => fixN (b_gateref2_InstancesFault_0 K) K ds }
def f_gateref2_InstancesFault (K : Nat) (l : D) : Option (List D) :=
  bif (gtI (l.list.length : Int) 50) then
    some [D.i 2]
  else
    (fixN (b_gateref2_InstancesFault_0 K) K [D.s [], l, D.i (l.list.length : Int), D.i 0]).bind fun t1 =>
    bif (t1.1.beq 0) then
      some [D.nth t1.2 0]
    else
      some [D.i 0]
def e_gateref2_InstancesFault (K : Nat) : Entry := { n := 1, sh := { sl := [(0, .d 48 false)], ob := [] }, kept := [], rs := [{ sl := [(0, .d 30 true)], ob := [] }], f := fun ds => f_gateref2_InstancesFault K (D.nth ds 0), tot := none }
def T_gateref2_InstancesFault (K : Nat) : Tbl := { T0 with ents := entsOf [(94, e_gateref2_Key K), (79, e_gateref2_in K)], cuts := lk [(0, c_gateref2_InstancesFault_0 K)] }
theorem q_gateref2_InstancesFault_0 (K : Nat) (rec : List D → Option (Nat × List D)) (ds : List D) : evLoop (T_gateref2_InstancesFault K) 33 (sub (codeOf Try.f26) [1, 1, 1, 0, 1, 0, 0]) .go (c_gateref2_InstancesFault_0 K) rec ds = b_gateref2_InstancesFault_0 K rec ds := by kernel_rfl
theorem k_gateref2_InstancesFault_0 (K : Nat) : CutOK Try.prog (T_gateref2_InstancesFault K) 33 (sub (codeOf Try.f26) [1, 1, 1, 0, 1, 0]) (c_gateref2_InstancesFault_0 K) :=
  loop_thm (T := T_gateref2_InstancesFault K) (hT_of hT0 rfl rfl rfl) (hes_ok (T0 := T0) (T := T_gateref2_InstancesFault K) rfl rfl (⟨ok_gateref2_Key K, ok_gateref2_in K, trivial⟩ : FAll Try.prog T0 [(94, e_gateref2_Key K), (79, e_gateref2_in K)])) (by kernel_rfl) rfl rfl rfl (cutsOK_none (by rfl)) rfl (q_gateref2_InstancesFault_0 K)
theorem q_gateref2_InstancesFault (K : Nat) (ds : List D) : evFn (T_gateref2_InstancesFault K) Try.f26 (.seq .go (.seq .go (.seq .go (.seq (.seq .go (.blk (.cut 0))) .go)))) (e_gateref2_InstancesFault K) ds = (e_gateref2_InstancesFault K).f ds := by kernel_rfl
theorem ok_gateref2_InstancesFault (K : Nat) : FnOK Try.prog T0 26 (e_gateref2_InstancesFault K) :=
  fn_thm (T0 := T0) (T := T_gateref2_InstancesFault K) rfl (hT_of hT0 rfl rfl rfl) (hes_ok (T0 := T0) (T := T_gateref2_InstancesFault K) rfl rfl (⟨ok_gateref2_Key K, ok_gateref2_in K, trivial⟩ : FAll Try.prog T0 [(94, e_gateref2_Key K), (79, e_gateref2_in K)])) Try.func26 (by decide) rfl (Nat.le_of_ble_eq_true rfl) rfl rfl rfl (tot_none rfl) (cutsOK_list (l := [(0, sub (codeOf Try.f26) [1, 1, 1, 0, 1, 0])]) (by kernel_rfl) ⟨cut_one (u := c_gateref2_InstancesFault_0 K) rfl (k_gateref2_InstancesFault_0 K), trivial⟩) (q_gateref2_InstancesFault K)
/-! ### 101 gatewarden/gateref2.Moment -/
def p_gateref2_Moment (vat : D) : List D := [D.nth (p_gateref2_in vat (D.i 0) (D.i 345686399999)) 0]
def e_gateref2_Moment (K : Nat) : Entry := { n := 1, sh := { sl := [(0, .d 3 false)], ob := [] }, kept := [], rs := [{ sl := [(0, .d 4 true)], ob := [] }], f := fun ds => some (p_gateref2_Moment (D.nth ds 0)), tot := some fun ds => p_gateref2_Moment (D.nth ds 0) }
def T_gateref2_Moment (K : Nat) : Tbl := { T0 with ents := entsOf [(79, e_gateref2_in K)], cuts := lk [] }
theorem q_gateref2_Moment (K : Nat) (ds : List D) : evFn (T_gateref2_Moment K) Try.f101 .go (e_gateref2_Moment K) ds = (e_gateref2_Moment K).f ds := by kernel_rfl
theorem ok_gateref2_Moment (K : Nat) : FnOK Try.prog T0 101 (e_gateref2_Moment K) :=
  fn_thm (T0 := T0) (T := T_gateref2_Moment K) rfl (hT_of hT0 rfl rfl rfl) (hes_ok (T0 := T0) (T := T_gateref2_Moment K) rfl rfl (⟨ok_gateref2_in K, trivial⟩ : FAll Try.prog T0 [(79, e_gateref2_in K)])) Try.func101 (by decide) rfl (Nat.le_of_ble_eq_true rfl) rfl rfl rfl (tot_some rfl fun _ => rfl) (cutsOK_none (by rfl)) (q_gateref2_Moment K)
/-! ### 133 gatewarden/gateref2.InstanceAt$1 -/
def p_gateref2_InstanceAt_1 (x s1 : D) : List D := [D.b (((x.at' 0).str) == s1.str)]
def e_gateref2_InstanceAt_1 (K : Nat) : Entry := { n := 2, sh := { sl := [(0, .d 121 false), (1, .bx 9 false (.d 9 false))], ob := [] }, kept := [], rs := [{ sl := [(0, .d 4 true)], ob := [] }], f := fun ds => some (p_gateref2_InstanceAt_1 (D.nth ds 0) (D.nth ds 1)), tot := some fun ds => p_gateref2_InstanceAt_1 (D.nth ds 0) (D.nth ds 1) }
def T_gateref2_InstanceAt_1 (K : Nat) : Tbl := { T0 with frz := fun s => memN [2] s, ents := entsOf [], cuts := lk [] }
theorem q_gateref2_InstanceAt_1 (K : Nat) (ds : List D) : evFn (T_gateref2_InstanceAt_1 K) Try.f133 .go (e_gateref2_InstanceAt_1 K) ds = (e_gateref2_InstanceAt_1 K).f ds := by kernel_rfl
theorem ok_gateref2_InstanceAt_1 (K : Nat) : FnOK Try.prog T0 133 (e_gateref2_InstanceAt_1 K) :=
  fn_thm (T0 := T0) (T := T_gateref2_InstanceAt_1 K) rfl (hT_of hT0 rfl rfl rfl) (hes_ok (T0 := T0) (T := T_gateref2_InstanceAt_1 K) rfl rfl (trivial : FAll Try.prog T0 [])) Try.func133 (by decide) rfl (Nat.le_of_ble_eq_true rfl) rfl rfl rfl (tot_some rfl fun _ => rfl) (cutsOK_none (by rfl)) (q_gateref2_InstanceAt_1 K)
/-! ### 132 slices.IndexFunc[[]gatewarden/api.Instance,gatewarden/api.Instance] -/
def b_slices_IndexFunc_api_Instance_0 (K : Nat) (rec : List D → Option (Nat × List D)) (ds : List D) : Option (Nat × List D) :=
  let s := D.nth ds 0
  let f_0 := D.nth ds 1
  let s7 := D.nth ds 2
  let s8 := D.nth ds 3
  bif (ltI s8.int s7.int) then
    bif (inB s8.int s.list.length) then
      bif (D.nth (p_gateref2_InstanceAt_1 (D.nth s.list s8.int.toNat) f_0) 0).bool then
        some (0, [s8])
      else
        rec [s, f_0, s7, D.i (IntKind.i64.wrap (s8.int + (1 : Int)))]
    else
      none
  else
    some (1, [])
def c_slices_IndexFunc_api_Instance_0 (K : Nat) : Cut := { sh := { sl := [(0, .d 48 false), (1, .fn 133 [.bx 9 false (.d 9 true)]), (7, .d 3 true), (8, .d 3 true)], ob := [] }, kept := [], outs := [(.ret, { sl := [(4, .d 3 true)], ob := [] }), (.exit 0, { sl := [], ob := [] })], f := fun ds => fixN (b_slices_IndexFunc_api_Instance_0 K) K ds }
def f_slices_IndexFunc_api_Instance (K : Nat) (s f_0 : D) : Option (List D) :=
  (fixN (b_slices_IndexFunc_api_Instance_0 K) K [s, f_0, D.i (s.list.length : Int), D.i 0]).bind fun t1 =>
  bif (t1.1.beq 0) then
    some [D.nth t1.2 0]
  else
    some [D.i (-1)]
def e_slices_IndexFunc_api_Instance (K : Nat) : Entry := { n := 2, sh := { sl := [(0, .d 48 false), (1, .fn 133 [.bx 9 false (.d 9 false)])], ob := [] }, kept := [], rs := [{ sl := [(0, .d 3 true)], ob := [] }], f := fun ds => f_slices_IndexFunc_api_Instance K (D.nth ds 0) (D.nth ds 1), tot := none }
def T_slices_IndexFunc_api_Instance (K : Nat) : Tbl := { T0 with ents := entsOf [(133, e_gateref2_InstanceAt_1 K)], cuts := lk [(0, c_slices_IndexFunc_api_Instance_0 K)] }
theorem q_slices_IndexFunc_api_Instance_0 (K : Nat) (rec : List D → Option (Nat × List D)) (ds : List D) : evLoop (T_slices_IndexFunc_api_Instance K) 19 (sub (codeOf Try.f132) [1, 0, 1, 0, 0]) .go (c_slices_IndexFunc_api_Instance_0 K) rec ds = b_slices_IndexFunc_api_Instance_0 K rec ds := by kernel_rfl
theorem k_slices_IndexFunc_api_Instance_0 (K : Nat) : CutOK Try.prog (T_slices_IndexFunc_api_Instance K) 19 (sub (codeOf Try.f132) [1, 0, 1, 0]) (c_slices_IndexFunc_api_Instance_0 K) :=
  loop_thm (T := T_slices_IndexFunc_api_Instance K) (hT_of hT0 rfl rfl rfl) (hes_ok (T0 := T0) (T := T_slices_IndexFunc_api_Instance K) rfl rfl (⟨ok_gateref2_InstanceAt_1 K, trivial⟩ : FAll Try.prog T0 [(133, e_gateref2_InstanceAt_1 K)])) (by kernel_rfl) rfl rfl rfl (cutsOK_none (by rfl)) rfl (q_slices_IndexFunc_api_Instance_0 K)
theorem q_slices_IndexFunc_api_Instance (K : Nat) (ds : List D) : evFn (T_slices_IndexFunc_api_Instance K) Try.f132 (.seq .go (.seq (.seq .go (.blk (.cut 0))) .go)) (e_slices_IndexFunc_api_Instance K) ds = (e_slices_IndexFunc_api_Instance K).f ds := by kernel_rfl
theorem ok_slices_IndexFunc_api_Instance (K : Nat) : FnOK Try.prog T0 132 (e_slices_IndexFunc_api_Instance K) :=
  fn_thm (T0 := T0) (T := T_slices_IndexFunc_api_Instance K) rfl (hT_of hT0 rfl rfl rfl) (hes_ok (T0 := T0) (T := T_slices_IndexFunc_api_Instance K) rfl rfl (⟨ok_gateref2_InstanceAt_1 K, trivial⟩ : FAll Try.prog T0 [(133, e_gateref2_InstanceAt_1 K)])) Try.func132 (by decide) rfl (Nat.le_of_ble_eq_true rfl) rfl rfl rfl (tot_none rfl) (cutsOK_list (l := [(0, sub (codeOf Try.f132) [1, 0, 1, 0])]) (by kernel_rfl) ⟨cut_one (u := c_slices_IndexFunc_api_Instance_0 K) rfl (k_slices_IndexFunc_api_Instance_0 K), trivial⟩) (q_slices_IndexFunc_api_Instance K)
/-! ### 95 gatewarden/gateref2.InstanceAt -/
def f_gateref2_InstanceAt (K : Nat) (l key : D) : Option (List D) :=
  (f_slices_IndexFunc_api_Instance K l key).bind fun t1 =>
  some [D.nth t1 0]
def e_gateref2_InstanceAt (K : Nat) : Entry := { n := 2, sh := { sl := [(0, .d 48 false), (1, .d 9 false)], ob := [] }, kept := [], rs := [{ sl := [(0, .d 3 true)], ob := [] }], f := fun ds => f_gateref2_InstanceAt K (D.nth ds 0) (D.nth ds 1), tot := none }
def T_gateref2_InstanceAt (K : Nat) : Tbl := { T0 with frz := fun s => memN [3] s, ents := entsOf [(132, e_slices_IndexFunc_api_Instance K)], cuts := lk [] }
theorem q_gateref2_InstanceAt (K : Nat) (ds : List D) : evFn (T_gateref2_InstanceAt K) Try.f95 .go (e_gateref2_InstanceAt K) ds = (e_gateref2_InstanceAt K).f ds := by kernel_rfl
theorem ok_gateref2_InstanceAt (K : Nat) : FnOK Try.prog T0 95 (e_gateref2_InstanceAt K) :=
  fn_thm (T0 := T0) (T := T_gateref2_InstanceAt K) rfl (hT_of hT0 rfl rfl rfl) (hes_ok (T0 := T0) (T := T_gateref2_InstanceAt K) rfl rfl (⟨ok_slices_IndexFunc_api_Instance K, trivial⟩ : FAll Try.prog T0 [(132, e_slices_IndexFunc_api_Instance K)])) Try.func95 (by decide) rfl (Nat.le_of_ble_eq_true rfl) rfl rfl rfl (tot_none rfl) (cutsOK_none (by rfl)) (q_gateref2_InstanceAt K)
/-! ### 41 gatewarden/gateref2.ProbesFault -/
def b_gateref2_ProbesFault_0 (K : Nat) (rec : List D → Option (Nat × List D)) (ds : List D) : Option (Nat × List D) :=
  let l := D.nth ds 0
  let p := D.nth ds 1
  let s10 := D.nth ds 2
  let s11 := D.nth ds 3
  let s12 := D.nth ds 4
  bif (ltI s12.int s11.int) then
    bif (inB s12.int s10.list.length) then
      bif (!((D.nth (p_gateref2_Moment ((D.nth s10.list s12.int.toNat).at' 0)) 0).bool)) then
        some (0, [D.i 1])
      else
        (f_gateref2_InstanceAt K l ((D.nth s10.list s12.int.toNat).at' 1)).bind fun t1 =>
        bif (ltI ((D.nth t1 0).int) 0) then
          some (0, [D.i 8])
        else
          bif ((!(gtI s12.int 0)) || (inB (IntKind.i64.wrap (s12.int - (1 : Int))) p.list.length)) then
            bif (bif (gtI s12.int 0) then (ltI (((D.nth s10.list s12.int.toNat).at' 0).int) (((D.nth p.list ((IntKind.i64.wrap (s12.int - (1 : Int))).toNat)).at' 0).int)) else false) then
              some (0, [D.i 7])
            else
              rec [l, p, s10, s11, D.i (IntKind.i64.wrap (s12.int + (1 : Int)))]
          else
            none
    else
      none
  else
    some (1, [])
def c_gateref2_ProbesFault_0 (K : Nat) : Cut := { sh := { sl := [(0, .d 48 false), (1, .d 68 false), (10, .d 68 false), (11, .d 3 true), (12, .d 3 true)], ob := [] }, kept := [], outs := [(.ret, { sl := [(4, .d 30 true)], ob := [] }), (.exit 0, { sl := [], ob := [] })], f := fun ds => fixN (b_gateref2_ProbesFault_0 K) K ds }
def f_gateref2_ProbesFault (K : Nat) (l p : D) : Option (List D) :=
  bif (gtI (p.list.length : Int) 2000) then
    some [D.i 2]
  else
    (fixN (b_gateref2_ProbesFault_0 K) K [l, p, p, D.i (p.list.length : Int), D.i 0]).bind fun t1 =>
    bif (t1.1.beq 0) then
      some [D.nth t1.2 0]
    else
      some [D.i 0]
def e_gateref2_ProbesFault (K : Nat) : Entry := { n := 2, sh := { sl := [(0, .d 48 false), (1, .d 68 false)], ob := [] }, kept := [], rs := [{ sl := [(0, .d 30 true)], ob := [] }], f := fun ds => f_gateref2_ProbesFault K (D.nth ds 0) (D.nth ds 1), tot := none }
def T_gateref2_ProbesFault (K : Nat) : Tbl := { T0 with ents := entsOf [(101, e_gateref2_Moment K), (95, e_gateref2_InstanceAt K)], cuts := lk [(0, c_gateref2_ProbesFault_0 K)] }
theorem q_gateref2_ProbesFault_0 (K : Nat) (rec : List D → Option (Nat × List D)) (ds : List D) : evLoop (T_gateref2_ProbesFault K) 43 (sub (codeOf Try.f41) [1, 1, 0, 1, 0, 0]) .go (c_gateref2_ProbesFault_0 K) rec ds = b_gateref2_ProbesFault_0 K rec ds := by kernel_rfl
theorem k_gateref2_ProbesFault_0 (K : Nat) : CutOK Try.prog (T_gateref2_ProbesFault K) 43 (sub (codeOf Try.f41) [1, 1, 0, 1, 0]) (c_gateref2_ProbesFault_0 K) :=
  loop_thm (T := T_gateref2_ProbesFault K) (hT_of hT0 rfl rfl rfl) (hes_ok (T0 := T0) (T := T_gateref2_ProbesFault K) rfl rfl (⟨ok_gateref2_Moment K, ok_gateref2_InstanceAt K, trivial⟩ : FAll Try.prog T0 [(101, e_gateref2_Moment K), (95, e_gateref2_InstanceAt K)])) (by kernel_rfl) rfl rfl rfl (cutsOK_none (by rfl)) rfl (q_gateref2_ProbesFault_0 K)
theorem q_gateref2_ProbesFault (K : Nat) (ds : List D) : evFn (T_gateref2_ProbesFault K) Try.f41 (.seq .go (.seq .go (.seq (.seq .go (.blk (.cut 0))) .go))) (e_gateref2_ProbesFault K) ds = (e_gateref2_ProbesFault K).f ds := by kernel_rfl
theorem ok_gateref2_ProbesFault (K : Nat) : FnOK Try.prog T0 41 (e_gateref2_ProbesFault K) :=
  fn_thm (T0 := T0) (T := T_gateref2_ProbesFault K) rfl (hT_of hT0 rfl rfl rfl) (hes_ok (T0 := T0) (T := T_gateref2_ProbesFault K) rfl rfl (⟨ok_gateref2_Moment K, ok_gateref2_InstanceAt K, trivial⟩ : FAll Try.prog T0 [(101, e_gateref2_Moment K), (95, e_gateref2_InstanceAt K)])) Try.func41 (by decide) rfl (Nat.le_of_ble_eq_true rfl) rfl rfl rfl (tot_none rfl) (cutsOK_list (l := [(0, sub (codeOf Try.f41) [1, 1, 0, 1, 0])]) (by kernel_rfl) ⟨cut_one (u := c_gateref2_ProbesFault_0 K) rfl (k_gateref2_ProbesFault_0 K), trivial⟩) (q_gateref2_ProbesFault K)
/-! ### 40 gatewarden/gatelaw2.errs -/
def b_gatelaw2_errs_0 (K : Nat) (rec : List D → Option (Nat × List D)) (ds : List D) : Option (Nat × List D) :=
  let s5 := D.nth ds 0
  let s6 := D.nth ds 1
  let s7 := D.nth ds 2
  bif (ltI s7.int s6.int) then
    bif (inB s7.int s5.list.length) then
      bif (((D.nth s5.list s7.int.toNat).int) != (0 : Int)) then
        some (0, [D.nth s5.list s7.int.toNat])
      else
        rec [s5, s6, D.i (IntKind.i64.wrap (s7.int + (1 : Int)))]
    else
      none
  else
    some (1, [])
def c_gatelaw2_errs_0 (K : Nat) : Cut := { sh := { sl := [(5, .d 149 false), (6, .d 3 true), (7, .d 3 true)], ob := [] }, kept := [], outs := [(.ret, { sl := [(2, .d 30 true)], ob := [] }), (.exit 0, { sl := [], ob := [] })], f := fun ds => fixN (b_gatelaw2_errs_0 K) K ds }
def f_gatelaw2_errs (K : Nat) (l : D) : Option (List D) :=
  (fixN (b_gatelaw2_errs_0 K) K [l, D.i (l.list.length : Int), D.i 0]).bind fun t1 =>
  bif (t1.1.beq 0) then
    some [D.nth t1.2 0]
  else
    some [D.i 0]
def e_gatelaw2_errs (K : Nat) : Entry := { n := 1, sh := { sl := [(0, .d 149 false)], ob := [] }, kept := [], rs := [{ sl := [(0, .d 30 true)], ob := [] }], f := fun ds => f_gatelaw2_errs K (D.nth ds 0), tot := none }
def T_gatelaw2_errs (K : Nat) : Tbl := { T0 with ents := entsOf [], cuts := lk [(0, c_gatelaw2_errs_0 K)] }
theorem q_gatelaw2_errs_0 (K : Nat) (rec : List D → Option (Nat × List D)) (ds : List D) : evLoop (T_gatelaw2_errs K) 15 (sub (codeOf Try.f40) [1, 0, 1, 0, 0]) .go (c_gatelaw2_errs_0 K) rec ds = b_gatelaw2_errs_0 K rec ds := by kernel_rfl
theorem k_gatelaw2_errs_0 (K : Nat) : CutOK Try.prog (T_gatelaw2_errs K) 15 (sub (codeOf Try.f40) [1, 0, 1, 0]) (c_gatelaw2_errs_0 K) :=
  loop_thm (T := T_gatelaw2_errs K) (hT_of hT0 rfl rfl rfl) (hes_ok (T0 := T0) (T := T_gatelaw2_errs K) rfl rfl (trivial : FAll Try.prog T0 [])) (by kernel_rfl) rfl rfl rfl (cutsOK_none (by rfl)) rfl (q_gatelaw2_errs_0 K)
theorem q_gatelaw2_errs (K : Nat) (ds : List D) : evFn (T_gatelaw2_errs K) Try.f40 (.seq .go (.seq (.seq .go (.blk (.cut 0))) .go)) (e_gatelaw2_errs K) ds = (e_gatelaw2_errs K).f ds := by kernel_rfl
theorem ok_gatelaw2_errs (K : Nat) : FnOK Try.prog T0 40 (e_gatelaw2_errs K) :=
  fn_thm (T0 := T0) (T := T_gatelaw2_errs K) rfl (hT_of hT0 rfl rfl rfl) (hes_ok (T0 := T0) (T := T_gatelaw2_errs K) rfl rfl (trivial : FAll Try.prog T0 [])) Try.func40 (by decide) rfl (Nat.le_of_ble_eq_true rfl) rfl rfl rfl (tot_none rfl) (cutsOK_list (l := [(0, sub (codeOf Try.f40) [1, 0, 1, 0])]) (by kernel_rfl) ⟨cut_one (u := c_gatelaw2_errs_0 K) rfl (k_gatelaw2_errs_0 K), trivial⟩) (q_gatelaw2_errs K)
/-! ### 42 gatewarden/gateref2.HealthFault -/
def f_gateref2_HealthFault (K : Nat) (h : D) : Option (List D) :=
  bif (bif (!((D.nth (p_gateref2_in (h.at' 0) (D.i 1) (D.i 100)) 0).bool)) then true else (!((D.nth (p_gateref2_in (h.at' 1) (D.i 1) (D.i 100)) 0).bool))) then
    some [D.i 1]
  else
    some [D.i 0]
def e_gateref2_HealthFault (K : Nat) : Entry := { n := 1, sh := { sl := [(0, .d 66 false)], ob := [] }, kept := [], rs := [{ sl := [(0, .d 30 true)], ob := [] }], f := fun ds => f_gateref2_HealthFault K (D.nth ds 0), tot := none }
def T_gateref2_HealthFault (K : Nat) : Tbl := { T0 with frz := fun s => memN [1] s, ents := entsOf [(79, e_gateref2_in K)], cuts := lk [] }
theorem q_gateref2_HealthFault (K : Nat) (ds : List D) : evFn (T_gateref2_HealthFault K) Try.f42 .go (e_gateref2_HealthFault K) ds = (e_gateref2_HealthFault K).f ds := by kernel_rfl
theorem ok_gateref2_HealthFault (K : Nat) : FnOK Try.prog T0 42 (e_gateref2_HealthFault K) :=
  fn_thm (T0 := T0) (T := T_gateref2_HealthFault K) rfl (hT_of hT0 rfl rfl rfl) (hes_ok (T0 := T0) (T := T_gateref2_HealthFault K) rfl rfl (⟨ok_gateref2_in K, trivial⟩ : FAll Try.prog T0 [(79, e_gateref2_in K)])) Try.func42 (by decide) rfl (Nat.le_of_ble_eq_true rfl) rfl rfl rfl (tot_none rfl) (cutsOK_none (by rfl)) (q_gateref2_HealthFault K)
/-! ### 70 gatewarden/gatelaw2.when -/
def f_gatelaw2_when (K : Nat) (is e : D) : Option (List D) :=
  bif is.bool then
    some [e]
  else
    some [D.i 0]
def e_gatelaw2_when (K : Nat) : Entry := { n := 2, sh := { sl := [(0, .d 4 false), (1, .d 30 false)], ob := [] }, kept := [], rs := [{ sl := [(0, .d 30 true)], ob := [] }], f := fun ds => f_gatelaw2_when K (D.nth ds 0) (D.nth ds 1), tot := none }
def T_gatelaw2_when (K : Nat) : Tbl := { T0 with ents := entsOf [], cuts := lk [] }
theorem q_gatelaw2_when (K : Nat) (ds : List D) : evFn (T_gatelaw2_when K) Try.f70 .go (e_gatelaw2_when K) ds = (e_gatelaw2_when K).f ds := by kernel_rfl
theorem ok_gatelaw2_when (K : Nat) : FnOK Try.prog T0 70 (e_gatelaw2_when K) :=
  fn_thm (T0 := T0) (T := T_gatelaw2_when K) rfl (hT_of hT0 rfl rfl rfl) (hes_ok (T0 := T0) (T := T_gatelaw2_when K) rfl rfl (trivial : FAll Try.prog T0 [])) Try.func70 (by decide) rfl (Nat.le_of_ble_eq_true rfl) rfl rfl rfl (tot_none rfl) (cutsOK_none (by rfl)) (q_gatelaw2_when K)
/-! ### 43 gatewarden/gatelaw2.momentFault -/
def f_gatelaw2_momentFault (K : Nat) (vat : D) : Option (List D) :=
  (f_gatelaw2_when K (D.b (!((D.nth (p_gateref2_Moment vat) 0).bool))) (D.i 1)).bind fun t1 =>
  some [D.nth t1 0]
def e_gatelaw2_momentFault (K : Nat) : Entry := { n := 1, sh := { sl := [(0, .d 3 false)], ob := [] }, kept := [], rs := [{ sl := [(0, .d 30 true)], ob := [] }], f := fun ds => f_gatelaw2_momentFault K (D.nth ds 0), tot := none }
def T_gatelaw2_momentFault (K : Nat) : Tbl := { T0 with ents := entsOf [(101, e_gateref2_Moment K), (70, e_gatelaw2_when K)], cuts := lk [] }
theorem q_gatelaw2_momentFault (K : Nat) (ds : List D) : evFn (T_gatelaw2_momentFault K) Try.f43 .go (e_gatelaw2_momentFault K) ds = (e_gatelaw2_momentFault K).f ds := by kernel_rfl
theorem ok_gatelaw2_momentFault (K : Nat) : FnOK Try.prog T0 43 (e_gatelaw2_momentFault K) :=
  fn_thm (T0 := T0) (T := T_gatelaw2_momentFault K) rfl (hT_of hT0 rfl rfl rfl) (hes_ok (T0 := T0) (T := T_gatelaw2_momentFault K) rfl rfl (⟨ok_gateref2_Moment K, ok_gatelaw2_when K, trivial⟩ : FAll Try.prog T0 [(101, e_gateref2_Moment K), (70, e_gatelaw2_when K)])) Try.func43 (by decide) rfl (Nat.le_of_ble_eq_true rfl) rfl rfl rfl (tot_none rfl) (cutsOK_none (by rfl)) (q_gatelaw2_momentFault K)
/-! ### 44 gatewarden/gateref2.TurnsOf -/
def b_gateref2_TurnsOf_1 (K : Nat) (rec : List D → Option (Nat × List D)) (ds : List D) : Option (Nat × List D) :=
  let h := D.nth ds 0
  let up := D.nth ds 1
  let row := D.nth ds 2
  let s26 := D.nth ds 3
  let s27 := D.nth ds 4
  let s28 := D.nth ds 5
  let r0 := D.nth ds 6
  let o1 := D.nth ds 7
  bif (ltI s28.int s27.int) then
    bif (inB s28.int s26.list.length) then
      bif (!((((D.nth s26.list s28.int.toNat).at' 1).str) == ((o1.at' 0).str))) then
        rec [h, up, row, s26, s27, D.i (IntKind.i64.wrap (s28.int + (1 : Int))), D.n r0.list, o1]
      else
        bif (((D.nth s26.list s28.int.toNat).at' 2).bool == up.bool) then
          rec [h, up, D.i 0, s26, s27, D.i (IntKind.i64.wrap (s28.int + (1 : Int))), D.n r0.list, o1]
        else
          bif (bif (bif up.bool then ((IntKind.i64.wrap (row.int + (1 : Int))) == ((h.at' 1).int)) else false) then true else (bif (!up.bool) then ((IntKind.i64.wrap (row.int + (1 : Int))) == ((h.at' 0).int)) else false)) then
            bif (inB s28.int r0.list.length) then
              rec [h, D.b (!up.bool), D.i 0, s26, s27, D.i (IntKind.i64.wrap (s28.int + (1 : Int))), D.n (D.setNth r0.list s28.int.toNat (D.n [D.n [(D.nth s26.list s28.int.toNat).at' 0, o1.at' 0, D.b (!up.bool)]])), o1]
            else
              none
          else
            rec [h, up, D.i (IntKind.i64.wrap (row.int + (1 : Int))), s26, s27, D.i (IntKind.i64.wrap (s28.int + (1 : Int))), D.n r0.list, o1]
    else
      none
  else
    some (0, [D.n r0.list, o1])
def c_gateref2_TurnsOf_1 (K : Nat) : Cut := { sh := { sl := [(4, .bx 66 true (.d 66 true)), (7, .own 150 0), (9, .ptr 121 1 []), (10, .d 4 true), (11, .d 3 true), (26, .d 68 false), (27, .d 3 true), (28, .d 3 true)], ob := [(0, .row 151 false), (1, .box 121 (.d 121 true))] }, kept := [0, 1], outs := [(.exit 2, { sl := [], ob := [(0, .row 151 false), (1, .box 121 (.d 121 true))] })], f := fun ds => fixN (b_gateref2_TurnsOf_1 K) K ds }
def b_gateref2_TurnsOf_2 (K : Nat) (rec : List D → Option (Nat × List D)) (ds : List D) : Option (Nat × List D) :=
  let s76 := D.nth ds 0
  let s77 := D.nth ds 1
  let r0 := D.nth ds 2
  let r1 := D.nth ds 3
  bif (ltI s77.int s76.int) then
    bif (inB s77.int r0.list.length) then
      bif (!(((D.nth r0.list s77.int.toNat).list).isEmpty)) then
        bif (!(((D.nth r0.list s77.int.toNat).list).isEmpty)) then
          bif (lim (r1.list.length + 1)) then
            rec [s76, D.i (IntKind.i64.wrap (s77.int + (1 : Int))), D.n r0.list, D.n (r1.list ++ [D.nth ((D.nth r0.list s77.int.toNat).list) 0])]
          else
            none
        else
          none
      else
        rec [s76, D.i (IntKind.i64.wrap (s77.int + (1 : Int))), D.n r0.list, D.n r1.list]
    else
      none
  else
    some (0, [D.n r0.list, D.n r1.list])
def c_gateref2_TurnsOf_2 (K : Nat) : Cut := { sh := { sl := [(14, .own 70 1), (75, .own 150 0), (76, .d 3 true), (77, .d 3 true)], ob := [(0, .row 151 false), (1, .row 84 true)] }, kept := [0], outs := [(.exit 4, { sl := [(14, .own 70 1)], ob := [(0, .row 151 false), (1, .row 84 true)] })], f := fun ds => fixN (b_gateref2_TurnsOf_2 K) K ds }
def b_gateref2_TurnsOf_0 (K : Nat) (rec : List D → Option (Nat × List D)) (ds : List D) : Option (Nat × List D) :=
  let p := D.nth ds 0
  let h := D.nth ds 1
  let s20 := D.nth ds 2
  let s21 := D.nth ds 3
  let s22 := D.nth ds 4
  let r0 := D.nth ds 5
  bif (ltI s22.int s21.int) then
    bif (inB s22.int s20.list.length) then
      (fixN (b_gateref2_TurnsOf_1 K) K [h, D.b true, D.i 0, p, D.i (p.list.length : Int), D.i 0, D.n r0.list, D.nth s20.list s22.int.toNat]).bind fun t1 =>
      rec [p, h, s20, s21, D.i (IntKind.i64.wrap (s22.int + (1 : Int))), D.n ((D.nth t1.2 0).list)]
    else
      none
  else
    some (0, [D.n r0.list])
def c_gateref2_TurnsOf_0 (K : Nat) : Cut := { sh := { sl := [(2, .d 68 false), (4, .bx 66 true (.d 66 true)), (7, .own 150 0), (20, .d 48 false), (21, .d 3 true), (22, .d 3 true)], ob := [(0, .row 151 false)] }, kept := [0], outs := [(.exit 0, { sl := [], ob := [(0, .row 151 false)] })], f := fun ds => fixN (b_gateref2_TurnsOf_0 K) K ds }
def f_gateref2_TurnsOf (K : Nat) (l h p : D) : Option (List D) :=
  bif ((leI 0 (p.list.length : Int)) && (lim ((p.list.length : Int).toNat))) then
    (fixN (b_gateref2_TurnsOf_0 K) K [p, h, l, D.i (l.list.length : Int), D.i 0, D.n (List.replicate ((p.list.length : Int).toNat) (D.n []))]).bind fun t1 =>
    (fixN (b_gateref2_TurnsOf_2 K) K [D.i (((D.nth t1.2 0).list).length : Int), D.i 0, D.n ((D.nth t1.2 0).list), D.n []]).bind fun t2 =>
    some [D.n ((D.nth t2.2 1).list)]
  else
    none
def e_gateref2_TurnsOf (K : Nat) : Entry := { n := 3, sh := { sl := [(0, .d 48 false), (1, .d 66 false), (2, .d 68 false)], ob := [] }, kept := [], rs := [{ sl := [(0, .own 70 0)], ob := [(0, .row 84 true)] }], f := fun ds => f_gateref2_TurnsOf K (D.nth ds 0) (D.nth ds 1) (D.nth ds 2), tot := none }
def T_gateref2_TurnsOf (K : Nat) : Tbl := { T0 with frz := fun s => memN [4] s, ents := entsOf [], cuts := lk [(0, c_gateref2_TurnsOf_0 K), (1, c_gateref2_TurnsOf_1 K), (2, c_gateref2_TurnsOf_2 K)] }
theorem q_gateref2_TurnsOf_1 (K : Nat) (rec : List D → Option (Nat × List D)) (ds : List D) : evLoop (T_gateref2_TurnsOf K) 91 (sub (codeOf Try.f44) [1, 1, 0, 1, 0, 0, 1, 1, 0, 0, 1, 1, 1, 0, 0]) .go (c_gateref2_TurnsOf_1 K) rec ds = b_gateref2_TurnsOf_1 K rec ds := by kernel_rfl
theorem k_gateref2_TurnsOf_1 (K : Nat) : CutOK Try.prog (T_gateref2_TurnsOf K) 91 (sub (codeOf Try.f44) [1, 1, 0, 1, 0, 0, 1, 1, 0, 0, 1, 1, 1, 0]) (c_gateref2_TurnsOf_1 K) :=
  loop_thm (T := T_gateref2_TurnsOf K) (hT_of hT0 rfl rfl rfl) (hes_ok (T0 := T0) (T := T_gateref2_TurnsOf K) rfl rfl (trivial : FAll Try.prog T0 [])) (by kernel_rfl) rfl rfl rfl (cutsOK_none (by rfl)) rfl (q_gateref2_TurnsOf_1 K)
theorem q_gateref2_TurnsOf_2 (K : Nat) (rec : List D → Option (Nat × List D)) (ds : List D) : evLoop (T_gateref2_TurnsOf K) 91 (sub (codeOf Try.f44) [1, 1, 1, 1, 0, 1, 0, 0]) .go (c_gateref2_TurnsOf_2 K) rec ds = b_gateref2_TurnsOf_2 K rec ds := by kernel_rfl
theorem k_gateref2_TurnsOf_2 (K : Nat) : CutOK Try.prog (T_gateref2_TurnsOf K) 91 (sub (codeOf Try.f44) [1, 1, 1, 1, 0, 1, 0]) (c_gateref2_TurnsOf_2 K) :=
  loop_thm (T := T_gateref2_TurnsOf K) (hT_of hT0 rfl rfl rfl) (hes_ok (T0 := T0) (T := T_gateref2_TurnsOf K) rfl rfl (trivial : FAll Try.prog T0 [])) (by kernel_rfl) rfl rfl rfl (cutsOK_none (by rfl)) rfl (q_gateref2_TurnsOf_2 K)
theorem q_gateref2_TurnsOf_0 (K : Nat) (rec : List D → Option (Nat × List D)) (ds : List D) : evLoop (T_gateref2_TurnsOf K) 91 (sub (codeOf Try.f44) [1, 1, 0, 1, 0, 0]) (.seq .go (.seq .go (.seq (.blk (.seq .go (.seq .go (.seq .go (.blk (.cut 1)))))) .go))) (c_gateref2_TurnsOf_0 K) rec ds = b_gateref2_TurnsOf_0 K rec ds := by kernel_rfl
theorem k_gateref2_TurnsOf_0 (K : Nat) : CutOK Try.prog (T_gateref2_TurnsOf K) 91 (sub (codeOf Try.f44) [1, 1, 0, 1, 0]) (c_gateref2_TurnsOf_0 K) :=
  loop_thm (T := T_gateref2_TurnsOf K) (hT_of hT0 rfl rfl rfl) (hes_ok (T0 := T0) (T := T_gateref2_TurnsOf K) rfl rfl (trivial : FAll Try.prog T0 [])) (by kernel_rfl) rfl rfl rfl (cutsOK_list (l := [(1, sub (codeOf Try.f44) [1, 1, 0, 1, 0, 0, 1, 1, 0, 0, 1, 1, 1, 0])]) (by kernel_rfl) ⟨cut_one (u := c_gateref2_TurnsOf_1 K) rfl (k_gateref2_TurnsOf_1 K), trivial⟩) rfl (q_gateref2_TurnsOf_0 K)
theorem q_gateref2_TurnsOf (K : Nat) (ds : List D) : evFn (T_gateref2_TurnsOf K) Try.f44 (.seq .go (.seq .go (.seq (.seq .go (.blk (.cut 0))) (.seq .go (.seq (.seq .go (.blk (.cut 2))) .go))))) (e_gateref2_TurnsOf K) ds = (e_gateref2_TurnsOf K).f ds := by kernel_rfl
theorem ok_gateref2_TurnsOf (K : Nat) : FnOK Try.prog T0 44 (e_gateref2_TurnsOf K) :=
  fn_thm (T0 := T0) (T := T_gateref2_TurnsOf K) rfl (hT_of hT0 rfl rfl rfl) (hes_ok (T0 := T0) (T := T_gateref2_TurnsOf K) rfl rfl (trivial : FAll Try.prog T0 [])) Try.func44 (by decide) rfl (Nat.le_of_ble_eq_true rfl) rfl rfl rfl (tot_none rfl) (cutsOK_list (l := [(0, sub (codeOf Try.f44) [1, 1, 0, 1, 0]), (2, sub (codeOf Try.f44) [1, 1, 1, 1, 0, 1, 0])]) (by kernel_rfl) ⟨cut_one (u := c_gateref2_TurnsOf_0 K) rfl (k_gateref2_TurnsOf_0 K), cut_one (u := c_gateref2_TurnsOf_2 K) rfl (k_gateref2_TurnsOf_2 K), trivial⟩) (q_gateref2_TurnsOf K)
/-! ### 45 gatewarden/gateref2.UpOf -/
def b_gateref2_UpOf_1 (K : Nat) (rec : List D → Option (Nat × List D)) (ds : List D) : Option (Nat × List D) :=
  let s36 := D.nth ds 0
  let s37 := D.nth ds 1
  let s38 := D.nth ds 2
  let r0 := D.nth ds 3
  let r1 := D.nth ds 4
  bif (ltI s38.int s37.int) then
    bif (inB s38.int s36.list.length) then
      bif (!((mapGet .str ((D.nth s36.list s38.int.toNat).at' 0) r0.list).bool)) then
        bif (lim (r1.list.length + 1)) then
          rec [s36, s37, D.i (IntKind.i64.wrap (s38.int + (1 : Int))), D.n r0.list, D.n (r1.list ++ [(D.nth s36.list s38.int.toNat).at' 0])]
        else
          none
      else
        rec [s36, s37, D.i (IntKind.i64.wrap (s38.int + (1 : Int))), D.n r0.list, D.n r1.list]
    else
      none
  else
    some (0, [D.n r0.list, D.n r1.list])
def c_gateref2_UpOf_1 (K : Nat) : Cut := { sh := { sl := [(9, .own 135 0), (12, .own 73 1), (36, .d 48 false), (37, .d 3 true), (38, .d 3 true)], ob := [(0, .map 135 true), (1, .row 9 true)] }, kept := [0], outs := [(.exit 2, { sl := [(12, .own 73 1)], ob := [(0, .map 135 true), (1, .row 9 true)] })], f := fun ds => fixN (b_gateref2_UpOf_1 K) K ds }
def b_gateref2_UpOf_0 (K : Nat) (rec : List D → Option (Nat × List D)) (ds : List D) : Option (Nat × List D) :=
  let vat := D.nth ds 0
  let s20 := D.nth ds 1
  let s21 := D.nth ds 2
  let r0 := D.nth ds 3
  let r1 := D.nth ds 4
  bif (ltI s21.int s20.int) then
    bif (inB s21.int r1.list.length) then
      bif (leI (((D.nth r1.list s21.int.toNat).at' 0).int) vat.int) then
        rec [vat, s20, D.i (IntKind.i64.wrap (s21.int + (1 : Int))), D.n (mapSet .str ((D.nth r1.list s21.int.toNat).at' 1) (D.b (!(((D.nth r1.list s21.int.toNat).at' 2).bool))) r0.list), D.n r1.list]
      else
        rec [vat, s20, D.i (IntKind.i64.wrap (s21.int + (1 : Int))), D.n r0.list, D.n r1.list]
    else
      none
  else
    some (0, [D.n r0.list, D.n r1.list])
def c_gateref2_UpOf_0 (K : Nat) : Cut := { sh := { sl := [(3, .d 3 true), (9, .own 135 0), (19, .own 70 1), (20, .d 3 true), (21, .d 3 true)], ob := [(0, .map 135 true), (1, .row 84 true)] }, kept := [0, 1], outs := [(.exit 0, { sl := [], ob := [(0, .map 135 true), (1, .row 84 true)] })], f := fun ds => fixN (b_gateref2_UpOf_0 K) K ds }
def f_gateref2_UpOf (K : Nat) (l h p vat : D) : Option (List D) :=
  (f_gateref2_TurnsOf K l h p).bind fun t1 =>
  (fixN (b_gateref2_UpOf_0 K) K [vat, D.i (((D.nth t1 0).list).length : Int), D.i 0, D.n [], D.n ((D.nth t1 0).list)]).bind fun t2 =>
  (fixN (b_gateref2_UpOf_1 K) K [l, D.i (l.list.length : Int), D.i 0, D.n ((D.nth t2.2 0).list), D.n []]).bind fun t3 =>
  some [D.n ((D.nth t3.2 1).list)]
def e_gateref2_UpOf (K : Nat) : Entry := { n := 4, sh := { sl := [(0, .d 48 false), (1, .d 66 false), (2, .d 68 false), (3, .d 3 false)], ob := [] }, kept := [], rs := [{ sl := [(0, .own 73 0)], ob := [(0, .row 9 true)] }], f := fun ds => f_gateref2_UpOf K (D.nth ds 0) (D.nth ds 1) (D.nth ds 2) (D.nth ds 3), tot := none }
def T_gateref2_UpOf (K : Nat) : Tbl := { T0 with frz := fun s => memN [5] s, ents := entsOf [(44, e_gateref2_TurnsOf K)], cuts := lk [(0, c_gateref2_UpOf_0 K), (1, c_gateref2_UpOf_1 K)] }
theorem q_gateref2_UpOf_1 (K : Nat) (rec : List D → Option (Nat × List D)) (ds : List D) : evLoop (T_gateref2_UpOf K) 54 (sub (codeOf Try.f45) [1, 1, 1, 1, 0, 1, 0, 0]) .go (c_gateref2_UpOf_1 K) rec ds = b_gateref2_UpOf_1 K rec ds := by kernel_rfl
theorem k_gateref2_UpOf_1 (K : Nat) : CutOK Try.prog (T_gateref2_UpOf K) 54 (sub (codeOf Try.f45) [1, 1, 1, 1, 0, 1, 0]) (c_gateref2_UpOf_1 K) :=
  loop_thm (T := T_gateref2_UpOf K) (hT_of hT0 rfl rfl rfl) (hes_ok (T0 := T0) (T := T_gateref2_UpOf K) rfl rfl (⟨ok_gateref2_TurnsOf K, trivial⟩ : FAll Try.prog T0 [(44, e_gateref2_TurnsOf K)])) (by kernel_rfl) rfl rfl rfl (cutsOK_none (by rfl)) rfl (q_gateref2_UpOf_1 K)
theorem q_gateref2_UpOf_0 (K : Nat) (rec : List D → Option (Nat × List D)) (ds : List D) : evLoop (T_gateref2_UpOf K) 54 (sub (codeOf Try.f45) [1, 1, 0, 1, 0, 0]) .go (c_gateref2_UpOf_0 K) rec ds = b_gateref2_UpOf_0 K rec ds := by kernel_rfl
theorem k_gateref2_UpOf_0 (K : Nat) : CutOK Try.prog (T_gateref2_UpOf K) 54 (sub (codeOf Try.f45) [1, 1, 0, 1, 0]) (c_gateref2_UpOf_0 K) :=
  loop_thm (T := T_gateref2_UpOf K) (hT_of hT0 rfl rfl rfl) (hes_ok (T0 := T0) (T := T_gateref2_UpOf K) rfl rfl (⟨ok_gateref2_TurnsOf K, trivial⟩ : FAll Try.prog T0 [(44, e_gateref2_TurnsOf K)])) (by kernel_rfl) rfl rfl rfl (cutsOK_none (by rfl)) rfl (q_gateref2_UpOf_0 K)
theorem q_gateref2_UpOf (K : Nat) (ds : List D) : evFn (T_gateref2_UpOf K) Try.f45 (.seq .go (.seq .go (.seq (.seq .go (.blk (.cut 0))) (.seq .go (.seq (.seq .go (.blk (.cut 1))) .go))))) (e_gateref2_UpOf K) ds = (e_gateref2_UpOf K).f ds := by kernel_rfl
theorem ok_gateref2_UpOf (K : Nat) : FnOK Try.prog T0 45 (e_gateref2_UpOf K) :=
  fn_thm (T0 := T0) (T := T_gateref2_UpOf K) rfl (hT_of hT0 rfl rfl rfl) (hes_ok (T0 := T0) (T := T_gateref2_UpOf K) rfl rfl (⟨ok_gateref2_TurnsOf K, trivial⟩ : FAll Try.prog T0 [(44, e_gateref2_TurnsOf K)])) Try.func45 (by decide) rfl (Nat.le_of_ble_eq_true rfl) rfl rfl rfl (tot_none rfl) (cutsOK_list (l := [(0, sub (codeOf Try.f45) [1, 1, 0, 1, 0]), (1, sub (codeOf Try.f45) [1, 1, 1, 1, 0, 1, 0])]) (by kernel_rfl) ⟨cut_one (u := c_gateref2_UpOf_0 K) rfl (k_gateref2_UpOf_0 K), cut_one (u := c_gateref2_UpOf_1 K) rfl (k_gateref2_UpOf_1 K), trivial⟩) (q_gateref2_UpOf K)
/-! ### 46 slices.Equal[[]gatewarden/api.Turn,gatewarden/api.Turn] -/
def b_slices_Equal_api_Turn_0 (K : Nat) (rec : List D → Option (Nat × List D)) (ds : List D) : Option (Nat × List D) :=
  let s1 := D.nth ds 0
  let s2 := D.nth ds 1
  let s12 := D.nth ds 2
  let s13 := D.nth ds 3
  bif (ltI s13.int s12.int) then
    bif (inB s13.int s1.list.length) then
      bif (inB s13.int s2.list.length) then
        bif (!(eqK (.pair 3 (.int .i64) (.pair 9 .str (.pair 4 .bool .unit))) (D.nth s1.list s13.int.toNat) (D.nth s2.list s13.int.toNat))) then
          some (0, [D.b false])
        else
          rec [s1, s2, s12, D.i (IntKind.i64.wrap (s13.int + (1 : Int)))]
      else
        none
    else
      none
  else
    some (1, [])
def c_slices_Equal_api_Turn_0 (K : Nat) : Cut := { sh := { sl := [(0, .d 70 false), (1, .d 70 false), (12, .d 3 true), (13, .d 3 true)], ob := [] }, kept := [], outs := [(.ret, { sl := [(4, .d 4 true)], ob := [] }), (.exit 0, { sl := [], ob := [] })], f := fun ds => fixN (b_slices_Equal_api_Turn_0 K) K ds }
def f_slices_Equal_api_Turn (K : Nat) (s1 s2 : D) : Option (List D) :=
  bif ((s1.list.length : Int) != (s2.list.length : Int)) then
    some [D.b false]
  else
    (fixN (b_slices_Equal_api_Turn_0 K) K [s1, s2, D.i (s1.list.length : Int), D.i 0]).bind fun t1 =>
    bif (t1.1.beq 0) then
      some [D.nth t1.2 0]
    else
      some [D.b true]
def e_slices_Equal_api_Turn (K : Nat) : Entry := { n := 2, sh := { sl := [(0, .d 70 false), (1, .d 70 false)], ob := [] }, kept := [], rs := [{ sl := [(0, .d 4 true)], ob := [] }], f := fun ds => f_slices_Equal_api_Turn K (D.nth ds 0) (D.nth ds 1), tot := none }
def T_slices_Equal_api_Turn (K : Nat) : Tbl := { T0 with ents := entsOf [], cuts := lk [(0, c_slices_Equal_api_Turn_0 K)] }
theorem q_slices_Equal_api_Turn_0 (K : Nat) (rec : List D → Option (Nat × List D)) (ds : List D) : evLoop (T_slices_Equal_api_Turn K) 26 (sub (codeOf Try.f46) [1, 1, 0, 1, 0, 0]) .go (c_slices_Equal_api_Turn_0 K) rec ds = b_slices_Equal_api_Turn_0 K rec ds := by kernel_rfl
theorem k_slices_Equal_api_Turn_0 (K : Nat) : CutOK Try.prog (T_slices_Equal_api_Turn K) 26 (sub (codeOf Try.f46) [1, 1, 0, 1, 0]) (c_slices_Equal_api_Turn_0 K) :=
  loop_thm (T := T_slices_Equal_api_Turn K) (hT_of hT0 rfl rfl rfl) (hes_ok (T0 := T0) (T := T_slices_Equal_api_Turn K) rfl rfl (trivial : FAll Try.prog T0 [])) (by kernel_rfl) rfl rfl rfl (cutsOK_none (by rfl)) rfl (q_slices_Equal_api_Turn_0 K)
theorem q_slices_Equal_api_Turn (K : Nat) (ds : List D) : evFn (T_slices_Equal_api_Turn K) Try.f46 (.seq .go (.seq .go (.seq (.seq .go (.blk (.cut 0))) .go))) (e_slices_Equal_api_Turn K) ds = (e_slices_Equal_api_Turn K).f ds := by kernel_rfl
theorem ok_slices_Equal_api_Turn (K : Nat) : FnOK Try.prog T0 46 (e_slices_Equal_api_Turn K) :=
  fn_thm (T0 := T0) (T := T_slices_Equal_api_Turn K) rfl (hT_of hT0 rfl rfl rfl) (hes_ok (T0 := T0) (T := T_slices_Equal_api_Turn K) rfl rfl (trivial : FAll Try.prog T0 [])) Try.func46 (by decide) rfl (Nat.le_of_ble_eq_true rfl) rfl rfl rfl (tot_none rfl) (cutsOK_list (l := [(0, sub (codeOf Try.f46) [1, 1, 0, 1, 0])]) (by kernel_rfl) ⟨cut_one (u := c_slices_Equal_api_Turn_0 K) rfl (k_slices_Equal_api_Turn_0 K), trivial⟩) (q_slices_Equal_api_Turn K)
/-! ### 47 slices.Equal[[]string,string] -/
def b_slices_Equal_string_0 (K : Nat) (rec : List D → Option (Nat × List D)) (ds : List D) : Option (Nat × List D) :=
  let s1 := D.nth ds 0
  let s2 := D.nth ds 1
  let s12 := D.nth ds 2
  let s13 := D.nth ds 3
  bif (ltI s13.int s12.int) then
    bif (inB s13.int s1.list.length) then
      bif (inB s13.int s2.list.length) then
        bif (!(((D.nth s1.list s13.int.toNat).str) == ((D.nth s2.list s13.int.toNat).str))) then
          some (0, [D.b false])
        else
          rec [s1, s2, s12, D.i (IntKind.i64.wrap (s13.int + (1 : Int)))]
      else
        none
    else
      none
  else
    some (1, [])
def c_slices_Equal_string_0 (K : Nat) : Cut := { sh := { sl := [(0, .d 73 false), (1, .d 73 false), (12, .d 3 true), (13, .d 3 true)], ob := [] }, kept := [], outs := [(.ret, { sl := [(4, .d 4 true)], ob := [] }), (.exit 0, { sl := [], ob := [] })], f := fun ds => fixN (b_slices_Equal_string_0 K) K ds }
def f_slices_Equal_string (K : Nat) (s1 s2 : D) : Option (List D) :=
  bif ((s1.list.length : Int) != (s2.list.length : Int)) then
    some [D.b false]
  else
    (fixN (b_slices_Equal_string_0 K) K [s1, s2, D.i (s1.list.length : Int), D.i 0]).bind fun t1 =>
    bif (t1.1.beq 0) then
      some [D.nth t1.2 0]
    else
      some [D.b true]
def e_slices_Equal_string (K : Nat) : Entry := { n := 2, sh := { sl := [(0, .d 73 false), (1, .d 73 false)], ob := [] }, kept := [], rs := [{ sl := [(0, .d 4 true)], ob := [] }], f := fun ds => f_slices_Equal_string K (D.nth ds 0) (D.nth ds 1), tot := none }
def T_slices_Equal_string (K : Nat) : Tbl := { T0 with ents := entsOf [], cuts := lk [(0, c_slices_Equal_string_0 K)] }
theorem q_slices_Equal_string_0 (K : Nat) (rec : List D → Option (Nat × List D)) (ds : List D) : evLoop (T_slices_Equal_string K) 26 (sub (codeOf Try.f47) [1, 1, 0, 1, 0, 0]) .go (c_slices_Equal_string_0 K) rec ds = b_slices_Equal_string_0 K rec ds := by kernel_rfl
theorem k_slices_Equal_string_0 (K : Nat) : CutOK Try.prog (T_slices_Equal_string K) 26 (sub (codeOf Try.f47) [1, 1, 0, 1, 0]) (c_slices_Equal_string_0 K) :=
  loop_thm (T := T_slices_Equal_string K) (hT_of hT0 rfl rfl rfl) (hes_ok (T0 := T0) (T := T_slices_Equal_string K) rfl rfl (trivial : FAll Try.prog T0 [])) (by kernel_rfl) rfl rfl rfl (cutsOK_none (by rfl)) rfl (q_slices_Equal_string_0 K)
theorem q_slices_Equal_string (K : Nat) (ds : List D) : evFn (T_slices_Equal_string K) Try.f47 (.seq .go (.seq .go (.seq (.seq .go (.blk (.cut 0))) .go))) (e_slices_Equal_string K) ds = (e_slices_Equal_string K).f ds := by kernel_rfl
theorem ok_slices_Equal_string (K : Nat) : FnOK Try.prog T0 47 (e_slices_Equal_string K) :=
  fn_thm (T0 := T0) (T := T_slices_Equal_string K) rfl (hT_of hT0 rfl rfl rfl) (hes_ok (T0 := T0) (T := T_slices_Equal_string K) rfl rfl (trivial : FAll Try.prog T0 [])) Try.func47 (by decide) rfl (Nat.le_of_ble_eq_true rfl) rfl rfl rfl (tot_none rfl) (cutsOK_list (l := [(0, sub (codeOf Try.f47) [1, 1, 0, 1, 0])]) (by kernel_rfl) ⟨cut_one (u := c_slices_Equal_string_0 K) rfl (k_slices_Equal_string_0 K), trivial⟩) (q_slices_Equal_string K)
/-! ### 129 gatewarden/upstream.weights -/
def b_upstream_weights_0 (K : Nat) (rec : List D → Option (Nat × List D)) (ds : List D) : Option (Nat × List D) :=
  let sum := D.nth ds 0
  let s6 := D.nth ds 1
  let s7 := D.nth ds 2
  let s8 := D.nth ds 3
  bif (ltI s8.int s7.int) then
    bif (inB s8.int s6.list.length) then
      rec [D.i (IntKind.i64.wrap (sum.int + (((D.nth s6.list s8.int.toNat).at' 1).int))), s6, s7, D.i (IntKind.i64.wrap (s8.int + (1 : Int)))]
    else
      none
  else
    some (0, [sum])
def c_upstream_weights_0 (K : Nat) : Cut := { sh := { sl := [(3, .d 3 true), (6, .d 48 false), (7, .d 3 true), (8, .d 3 true)], ob := [] }, kept := [], outs := [(.exit 0, { sl := [(3, .d 3 true)], ob := [] })], f := fun ds => fixN (b_upstream_weights_0 K) K ds }
def f_upstream_weights (K : Nat) (l : D) : Option (List D) :=
  (fixN (b_upstream_weights_0 K) K [D.i 0, l, D.i (l.list.length : Int), D.i 0]).bind fun t1 =>
  some [D.nth t1.2 0]
def e_upstream_weights (K : Nat) : Entry := { n := 1, sh := { sl := [(0, .d 48 false)], ob := [] }, kept := [], rs := [{ sl := [(0, .d 3 true)], ob := [] }], f := fun ds => f_upstream_weights K (D.nth ds 0), tot := none }
def T_upstream_weights (K : Nat) : Tbl := { T0 with ents := entsOf [], cuts := lk [(0, c_upstream_weights_0 K)] }
theorem q_upstream_weights_0 (K : Nat) (rec : List D → Option (Nat × List D)) (ds : List D) : evLoop (T_upstream_weights K) 18 (sub (codeOf Try.f129) [1, 1, 0, 1, 0, 0]) .go (c_upstream_weights_0 K) rec ds = b_upstream_weights_0 K rec ds := by kernel_rfl
theorem k_upstream_weights_0 (K : Nat) : CutOK Try.prog (T_upstream_weights K) 18 (sub (codeOf Try.f129) [1, 1, 0, 1, 0]) (c_upstream_weights_0 K) :=
  loop_thm (T := T_upstream_weights K) (hT_of hT0 rfl rfl rfl) (hes_ok (T0 := T0) (T := T_upstream_weights K) rfl rfl (trivial : FAll Try.prog T0 [])) (by kernel_rfl) rfl rfl rfl (cutsOK_none (by rfl)) rfl (q_upstream_weights_0 K)
theorem q_upstream_weights (K : Nat) (ds : List D) : evFn (T_upstream_weights K) Try.f129 (.seq .go (.seq .go (.seq (.seq .go (.blk (.cut 0))) .go))) (e_upstream_weights K) ds = (e_upstream_weights K).f ds := by kernel_rfl
theorem ok_upstream_weights (K : Nat) : FnOK Try.prog T0 129 (e_upstream_weights K) :=
  fn_thm (T0 := T0) (T := T_upstream_weights K) rfl (hT_of hT0 rfl rfl rfl) (hes_ok (T0 := T0) (T := T_upstream_weights K) rfl rfl (trivial : FAll Try.prog T0 [])) Try.func129 (by decide) rfl (Nat.le_of_ble_eq_true rfl) rfl rfl rfl (tot_none rfl) (cutsOK_list (l := [(0, sub (codeOf Try.f129) [1, 1, 0, 1, 0])]) (by kernel_rfl) ⟨cut_one (u := c_upstream_weights_0 K) rfl (k_upstream_weights_0 K), trivial⟩) (q_upstream_weights K)
/-! ### 80 gatewarden/upstream.Round -/
def b_upstream_Round_1 (K : Nat) (rec : List D → Option (Nat × List D)) (ds : List D) : Option (Nat × List D) :=
  let best := D.nth ds 0
  let s31 := D.nth ds 1
  let s32 := D.nth ds 2
  let s33 := D.nth ds 3
  let r0 := D.nth ds 4
  bif (ltI s33.int s32.int) then
    bif (inB s33.int s31.list.length) then
      bif (inB s33.int r0.list.length) then
        bif (inB s33.int r0.list.length) then
          bif (inB s33.int ((D.setNth r0.list s33.int.toNat (D.i (IntKind.i64.wrap (((D.nth r0.list s33.int.toNat).int) + (((D.nth s31.list s33.int.toNat).at' 1).int))))).length)) then
            bif (inB best.int ((D.setNth r0.list s33.int.toNat (D.i (IntKind.i64.wrap (((D.nth r0.list s33.int.toNat).int) + (((D.nth s31.list s33.int.toNat).at' 1).int))))).length)) then
              bif (gtI ((D.nth (D.setNth r0.list s33.int.toNat (D.i (IntKind.i64.wrap (((D.nth r0.list s33.int.toNat).int) + (((D.nth s31.list s33.int.toNat).at' 1).int))))) s33.int.toNat).int) ((D.nth (D.setNth r0.list s33.int.toNat (D.i (IntKind.i64.wrap (((D.nth r0.list s33.int.toNat).int) + (((D.nth s31.list s33.int.toNat).at' 1).int))))) best.int.toNat).int)) then
                rec [s33, s31, s32, D.i (IntKind.i64.wrap (s33.int + (1 : Int))), D.n (D.setNth r0.list s33.int.toNat (D.i (IntKind.i64.wrap (((D.nth r0.list s33.int.toNat).int) + (((D.nth s31.list s33.int.toNat).at' 1).int)))))]
              else
                rec [best, s31, s32, D.i (IntKind.i64.wrap (s33.int + (1 : Int))), D.n (D.setNth r0.list s33.int.toNat (D.i (IntKind.i64.wrap (((D.nth r0.list s33.int.toNat).int) + (((D.nth s31.list s33.int.toNat).at' 1).int)))))]
            else
              none
          else
            none
        else
          none
      else
        none
    else
      none
  else
    some (0, [best, D.n r0.list])
def c_upstream_Round_1 (K : Nat) : Cut := { sh := { sl := [(7, .own 22 0), (10, .d 3 true), (31, .d 48 false), (32, .d 3 true), (33, .d 3 true)], ob := [(0, .row 3 true)] }, kept := [0], outs := [(.exit 2, { sl := [(10, .d 3 true)], ob := [(0, .row 3 true)] })], f := fun ds => fixN (b_upstream_Round_1 K) K ds }
def b_upstream_Round_0 (K : Nat) (rec : List D → Option (Nat × List D)) (ds : List D) : Option (Nat × List D) :=
  let l := D.nth ds 0
  let sum := D.nth ds 1
  let s28 := D.nth ds 2
  let s29 := D.nth ds 3
  let r0 := D.nth ds 4
  let r1 := D.nth ds 5
  bif (ltI s29.int s28.int) then
    (fixN (b_upstream_Round_1 K) K [D.i 0, l, D.i (l.list.length : Int), D.i 0, D.n r0.list]).bind fun t3 =>
    bif (inB ((D.nth t3.2 0).int) (((D.nth t3.2 1).list).length)) then
      bif (inB ((D.nth t3.2 0).int) (((D.nth t3.2 1).list).length)) then
        bif (inB ((D.nth t3.2 0).int) l.list.length) then
          bif (lim (r1.list.length + 1)) then
            rec [l, sum, s28, D.i (IntKind.i64.wrap (s29.int + (1 : Int))), D.n (D.setNth ((D.nth t3.2 1).list) (((D.nth t3.2 0).int).toNat) (D.i (IntKind.i64.wrap (((D.nth ((D.nth t3.2 1).list) (((D.nth t3.2 0).int).toNat)).int) - sum.int)))), D.n (r1.list ++ [(D.nth l.list (((D.nth t3.2 0).int).toNat)).at' 0])]
          else
            none
        else
          none
      else
        none
    else
      none
  else
    some (0, [D.n r0.list, D.n r1.list])
def c_upstream_Round_0 (K : Nat) : Cut := { sh := { sl := [(0, .d 48 false), (7, .own 22 0), (8, .d 3 true), (9, .own 73 1), (28, .d 3 true), (29, .d 3 true)], ob := [(0, .row 3 true), (1, .row 9 true)] }, kept := [0], outs := [(.exit 0, { sl := [(9, .own 73 1)], ob := [(0, .row 3 true), (1, .row 9 true)] })], f := fun ds => fixN (b_upstream_Round_0 K) K ds }
def f_upstream_Round (K : Nat) (l many : D) : Option (List D) :=
  (f_upstream_CheckInstances K l).bind fun t1 =>
  bif (((D.nth t1 0).int) != (0 : Int)) then
    some [D.nth t1 0, D.n []]
  else
    bif (D.nth (p_kit_Outside many (D.i 0) (D.i 2000)) 0).bool then
      some [D.i 1, D.n []]
    else
      bif ((l.list.length : Int) == (0 : Int)) then
        some [D.i 8, D.n []]
      else
        bif ((leI 0 (l.list.length : Int)) && (lim ((l.list.length : Int).toNat))) then
          (f_upstream_weights K l).bind fun t2 =>
          (fixN (b_upstream_Round_0 K) K [l, D.nth t2 0, many, D.i 0, D.n (List.replicate ((l.list.length : Int).toNat) (D.n [])), D.n []]).bind fun t3 =>
          some [D.i 0, D.n ((D.nth t3.2 1).list)]
        else
          none
def e_upstream_Round (K : Nat) : Entry := { n := 2, sh := { sl := [(0, .d 48 false), (1, .d 3 false)], ob := [] }, kept := [], rs := [{ sl := [(0, .tup [.own 73 0, .d 30 true])], ob := [(0, .row 9 true)] }], f := fun ds => f_upstream_Round K (D.nth ds 0) (D.nth ds 1), tot := none }
def T_upstream_Round (K : Nat) : Tbl := { T0 with ents := entsOf [(38, e_upstream_CheckInstances K), (78, e_kit_Outside K), (129, e_upstream_weights K)], cuts := lk [(0, c_upstream_Round_0 K), (1, c_upstream_Round_1 K)] }
theorem q_upstream_Round_1 (K : Nat) (rec : List D → Option (Nat × List D)) (ds : List D) : evLoop (T_upstream_Round K) 74 (sub (codeOf Try.f80) [1, 1, 1, 1, 1, 1, 1, 0, 1, 0, 0, 1, 1, 0, 0, 1, 0, 1, 0, 0]) .go (c_upstream_Round_1 K) rec ds = b_upstream_Round_1 K rec ds := by kernel_rfl
theorem k_upstream_Round_1 (K : Nat) : CutOK Try.prog (T_upstream_Round K) 74 (sub (codeOf Try.f80) [1, 1, 1, 1, 1, 1, 1, 0, 1, 0, 0, 1, 1, 0, 0, 1, 0, 1, 0]) (c_upstream_Round_1 K) :=
  loop_thm (T := T_upstream_Round K) (hT_of hT0 rfl rfl rfl) (hes_ok (T0 := T0) (T := T_upstream_Round K) rfl rfl (⟨ok_upstream_CheckInstances K, ok_kit_Outside K, ok_upstream_weights K, trivial⟩ : FAll Try.prog T0 [(38, e_upstream_CheckInstances K), (78, e_kit_Outside K), (129, e_upstream_weights K)])) (by kernel_rfl) rfl rfl rfl (cutsOK_none (by rfl)) rfl (q_upstream_Round_1 K)
theorem q_upstream_Round_0 (K : Nat) (rec : List D → Option (Nat × List D)) (ds : List D) : evLoop (T_upstream_Round K) 74 (sub (codeOf Try.f80) [1, 1, 1, 1, 1, 1, 1, 0, 1, 0, 0]) (.seq .go (.seq .go (.seq (.blk (.seq .go (.seq (.seq .go (.blk (.cut 1))) .go))) .go))) (c_upstream_Round_0 K) rec ds = b_upstream_Round_0 K rec ds := by kernel_rfl
theorem k_upstream_Round_0 (K : Nat) : CutOK Try.prog (T_upstream_Round K) 74 (sub (codeOf Try.f80) [1, 1, 1, 1, 1, 1, 1, 0, 1, 0]) (c_upstream_Round_0 K) :=
  loop_thm (T := T_upstream_Round K) (hT_of hT0 rfl rfl rfl) (hes_ok (T0 := T0) (T := T_upstream_Round K) rfl rfl (⟨ok_upstream_CheckInstances K, ok_kit_Outside K, ok_upstream_weights K, trivial⟩ : FAll Try.prog T0 [(38, e_upstream_CheckInstances K), (78, e_kit_Outside K), (129, e_upstream_weights K)])) (by kernel_rfl) rfl rfl rfl (cutsOK_list (l := [(1, sub (codeOf Try.f80) [1, 1, 1, 1, 1, 1, 1, 0, 1, 0, 0, 1, 1, 0, 0, 1, 0, 1, 0])]) (by kernel_rfl) ⟨cut_one (u := c_upstream_Round_1 K) rfl (k_upstream_Round_1 K), trivial⟩) rfl (q_upstream_Round_0 K)
theorem q_upstream_Round (K : Nat) (ds : List D) : evFn (T_upstream_Round K) Try.f80 (.seq .go (.seq .go (.seq .go (.seq .go (.seq .go (.seq .go (.seq .go (.seq (.seq .go (.blk (.cut 0))) .go)))))))) (e_upstream_Round K) ds = (e_upstream_Round K).f ds := by kernel_rfl
theorem ok_upstream_Round (K : Nat) : FnOK Try.prog T0 80 (e_upstream_Round K) :=
  fn_thm (T0 := T0) (T := T_upstream_Round K) rfl (hT_of hT0 rfl rfl rfl) (hes_ok (T0 := T0) (T := T_upstream_Round K) rfl rfl (⟨ok_upstream_CheckInstances K, ok_kit_Outside K, ok_upstream_weights K, trivial⟩ : FAll Try.prog T0 [(38, e_upstream_CheckInstances K), (78, e_kit_Outside K), (129, e_upstream_weights K)])) Try.func80 (by decide) rfl (Nat.le_of_ble_eq_true rfl) rfl rfl rfl (tot_none rfl) (cutsOK_list (l := [(0, sub (codeOf Try.f80) [1, 1, 1, 1, 1, 1, 1, 0, 1, 0])]) (by kernel_rfl) ⟨cut_one (u := c_upstream_Round_0 K) rfl (k_upstream_Round_0 K), trivial⟩) (q_upstream_Round K)
/-! ### 12 gatewarden/gatelaw2.balanced -/
def f_gatelaw2_balanced (K : Nat) : Option (List D) :=
  (f_upstream_Round K (D.n [D.n [D.s [97], D.i 1], D.n [D.s [98], D.i 2]]) (D.i 3)).bind fun t1 =>
  bif (((D.nth t1 0).int) == (0 : Int)) then
    (f_slices_Equal_string K (D.n ((D.nth t1 1).list)) (D.n [D.s [98], D.s [97], D.s [98]])).bind fun t2 =>
    some [D.b ((D.nth t2 0).bool)]
  else
    some [D.b false]
def e_gatelaw2_balanced (K : Nat) : Entry := { n := 0, sh := { sl := [], ob := [] }, kept := [], rs := [{ sl := [(0, .d 4 true)], ob := [] }], f := fun ds => f_gatelaw2_balanced K, tot := none }
def T_gatelaw2_balanced (K : Nat) : Tbl := { T0 with ents := entsOf [(80, e_upstream_Round K), (47, e_slices_Equal_string K)], cuts := lk [] }
theorem q_gatelaw2_balanced (K : Nat) (ds : List D) : evFn (T_gatelaw2_balanced K) Try.f12 .go (e_gatelaw2_balanced K) ds = (e_gatelaw2_balanced K).f ds := by kernel_rfl
theorem ok_gatelaw2_balanced (K : Nat) : FnOK Try.prog T0 12 (e_gatelaw2_balanced K) :=
  fn_thm (T0 := T0) (T := T_gatelaw2_balanced K) rfl (hT_of hT0 rfl rfl rfl) (hes_ok (T0 := T0) (T := T_gatelaw2_balanced K) rfl rfl (⟨ok_upstream_Round K, ok_slices_Equal_string K, trivial⟩ : FAll Try.prog T0 [(80, e_upstream_Round K), (47, e_slices_Equal_string K)])) Try.func12 (by decide) rfl (Nat.le_of_ble_eq_true rfl) rfl rfl rfl (tot_none rfl) (cutsOK_none (by rfl)) (q_gatelaw2_balanced K)
/-! ### 5 gatewarden/gatelaw2.HealthTurns -/
def b_gatelaw2_HealthTurns_3 (K : Nat) (ds : List D) : Option (Nat × List D) :=
  let vat := D.nth ds 0
  let s85 := D.nth ds 1
  let r0 := D.nth ds 2
  let o1 := D.nth ds 3
  let r2 := D.nth ds 4
  bif s85.bool then
    (f_gateref2_UpOf K (D.n r0.list) o1 (D.n r2.list) vat).bind fun t15 =>
    some (0, [D.n r0.list, o1, D.n r2.list, D.n ((D.nth t15 0).list)])
  else
    some (0, [D.n r0.list, o1, D.n r2.list, D.n []])
def c_gatelaw2_HealthTurns_3 (K : Nat) : Cut := { sh := { sl := [(4, .own 48 0), (5, .ptr 66 1 []), (6, .d 3 true), (7, .own 68 2), (16, .nil 73), (85, .d 4 true)], ob := [(0, .row 121 true), (1, .box 66 (.d 66 true)), (2, .row 142 true)] }, kept := [0, 1, 2], outs := [(.normal, { sl := [(16, .own 73 3)], ob := [(0, .row 121 true), (1, .box 66 (.d 66 true)), (2, .row 142 true), (3, .row 9 true)] })], f := b_gatelaw2_HealthTurns_3 K }
def b_gatelaw2_HealthTurns_2 (K : Nat) (ds : List D) : Option (Nat × List D) :=
  let s79 := D.nth ds 0
  let r0 := D.nth ds 1
  let o1 := D.nth ds 2
  let r2 := D.nth ds 3
  bif s79.bool then
    (f_gateref2_TurnsOf K (D.n r0.list) o1 (D.n r2.list)).bind fun t14 =>
    some (0, [D.n r0.list, o1, D.n r2.list, D.n ((D.nth t14 0).list)])
  else
    some (0, [D.n r0.list, o1, D.n r2.list, D.n []])
def c_gatelaw2_HealthTurns_2 (K : Nat) : Cut := { sh := { sl := [(4, .own 48 0), (5, .ptr 66 1 []), (7, .own 68 2), (15, .nil 70), (79, .d 4 true)], ob := [(0, .row 121 true), (1, .box 66 (.d 66 true)), (2, .row 142 true)] }, kept := [0, 1, 2], outs := [(.normal, { sl := [(15, .own 70 3)], ob := [(0, .row 121 true), (1, .box 66 (.d 66 true)), (2, .row 142 true), (3, .row 84 true)] })], f := b_gatelaw2_HealthTurns_2 K }
def b_gatelaw2_HealthTurns_1 (K : Nat) (ds : List D) : Option (Nat × List D) :=
  let one := D.nth ds 0
  let s69 := D.nth ds 1
  let r0 := D.nth ds 2
  let r1 := D.nth ds 3
  bif s69.bool then
    (f_gateref2_ProbesFault K (D.n r0.list) (D.n r1.list)).bind fun t11 =>
    some (0, [D.nth t11 0, D.n r0.list, D.n r1.list])
  else
    some (0, [one, D.n r0.list, D.n r1.list])
def c_gatelaw2_HealthTurns_1 (K : Nat) : Cut := { sh := { sl := [(4, .own 48 0), (7, .own 68 1), (13, .d 30 true), (69, .d 4 true)], ob := [(0, .row 121 true), (1, .row 142 true)] }, kept := [0, 1], outs := [(.normal, { sl := [(13, .d 30 true)], ob := [(0, .row 121 true), (1, .row 142 true)] })], f := b_gatelaw2_HealthTurns_1 K }
def b_gatelaw2_HealthTurns_0 (K : Nat) (ds : List D) : Option (Nat × List D) :=
  let fault := D.nth ds 0
  let r0 := D.nth ds 1
  let r1 := D.nth ds 2
  (f_upstream_CheckInstances K (D.n r0.list)).bind fun t8 =>
  bif (!(((D.nth t8 0).int) != fault.int)) then
    (f_upstream_CheckProbes K (D.n r0.list) (D.n r1.list)).bind fun t9 =>
    (f_gateref2_ProbesFault K (D.n r0.list) (D.n r1.list)).bind fun t10 =>
    (f_gatelaw2_errs K (D.n [fault, D.nth t10 0])).bind fun t11 =>
    some (0, [D.b (((D.nth t9 0).int) != ((D.nth t11 0).int)), D.n r0.list, D.n r1.list])
  else
    some (0, [D.b true, D.n r0.list, D.n r1.list])
def c_gatelaw2_HealthTurns_0 (K : Nat) : Cut := { sh := { sl := [(4, .own 48 0), (7, .own 68 1), (12, .d 30 true)], ob := [(0, .row 121 true), (1, .row 142 true)] }, kept := [0, 1], outs := [(.normal, { sl := [(62, .d 4 true)], ob := [(0, .row 121 true), (1, .row 142 true)] })], f := b_gatelaw2_HealthTurns_0 K }
def f_gatelaw2_HealthTurns (K : Nat) (l : D) : Option (List D) :=
  (f_gatemake_Stream_Instances K (D.n [l, D.i 0])).bind fun t1 =>
  (f_gatemake_Stream_Health K (D.nth t1 0)).bind fun t2 =>
  (f_gatemake_Stream_Pick K (D.nth t2 1) (D.n [D.i 0, D.i 5, D.i 20, D.i 50, D.i 100, D.i (-1)])).bind fun t3 =>
  (f_gatemake_Stream_Probes K (D.nth t3 1) (D.n ((D.nth t1 1).list))).bind fun t4 =>
  (f_upstream_Turns K (D.n ((D.nth t4 1).list)) (D.nth t2 0) (D.n ((D.nth t4 2).list))).bind fun t5 =>
  (f_upstream_Up K (D.n ((D.nth t4 1).list)) (D.nth t2 0) (D.n ((D.nth t4 2).list)) (D.nth t3 0)).bind fun t6 =>
  (f_gateref2_InstancesFault K (D.n ((D.nth t4 1).list))).bind fun t7 =>
  (b_gatelaw2_HealthTurns_0 K [D.nth t7 0, D.n ((D.nth t4 1).list), D.n ((D.nth t4 2).list)]).bind fun t8 =>
  bif (D.nth t8.2 0).bool then
    some [D.b false]
  else
    (f_gateref2_HealthFault K (D.nth t2 0)).bind fun t9 =>
    (f_gatelaw2_errs K (D.n [D.nth t7 0, D.nth t9 0])).bind fun t10 =>
    (b_gatelaw2_HealthTurns_1 K [D.nth t10 0, D.b (((D.nth t10 0).int) == (0 : Int)), D.n ((D.nth t8.2 1).list), D.n ((D.nth t8.2 2).list)]).bind fun t11 =>
    (f_gatelaw2_momentFault K (D.nth t3 0)).bind fun t12 =>
    (f_gatelaw2_errs K (D.n [D.nth t11.2 0, D.nth t12 0])).bind fun t13 =>
    (b_gatelaw2_HealthTurns_2 K [D.b (((D.nth t11.2 0).int) == (0 : Int)), D.n ((D.nth t11.2 1).list), D.nth t2 0, D.n ((D.nth t11.2 2).list)]).bind fun t14 =>
    (b_gatelaw2_HealthTurns_3 K [D.nth t3 0, D.b (((D.nth t13 0).int) == (0 : Int)), D.n ((D.nth t14.2 0).list), D.nth t14.2 1, D.n ((D.nth t14.2 2).list)]).bind fun t15 =>
    bif (((D.nth t5 0).int) == ((D.nth t11.2 0).int)) then
      (f_slices_Equal_api_Turn K (D.n ((D.nth t5 1).list)) (D.n ((D.nth t14.2 3).list))).bind fun t16 =>
      bif (bif (D.nth t16 0).bool then (((D.nth t6 0).int) == ((D.nth t13 0).int)) else false) then
        (f_slices_Equal_string K (D.n ((D.nth t6 1).list)) (D.n ((D.nth t15.2 3).list))).bind fun t17 =>
        bif (D.nth t17 0).bool then
          (f_gatelaw2_balanced K).bind fun t18 =>
          some [D.b ((D.nth t18 0).bool)]
        else
          some [D.b false]
      else
        some [D.b false]
    else
      some [D.b false]
def e_gatelaw2_HealthTurns (K : Nat) : Entry := { n := 1, sh := { sl := [(0, .d 22 false)], ob := [] }, kept := [], rs := [{ sl := [(0, .d 4 true)], ob := [] }], f := fun ds => f_gatelaw2_HealthTurns K (D.nth ds 0), tot := none }
def T_gatelaw2_HealthTurns (K : Nat) : Tbl := { T0 with ents := entsOf [(33, e_gatemake_Stream_Instances K), (34, e_gatemake_Stream_Health K), (14, e_gatemake_Stream_Pick K), (35, e_gatemake_Stream_Probes K), (36, e_upstream_Turns K), (37, e_upstream_Up K), (26, e_gateref2_InstancesFault K), (38, e_upstream_CheckInstances K), (39, e_upstream_CheckProbes K), (41, e_gateref2_ProbesFault K), (40, e_gatelaw2_errs K), (42, e_gateref2_HealthFault K), (43, e_gatelaw2_momentFault K), (44, e_gateref2_TurnsOf K), (45, e_gateref2_UpOf K), (46, e_slices_Equal_api_Turn K), (47, e_slices_Equal_string K), (12, e_gatelaw2_balanced K)], cuts := lk [(0, c_gatelaw2_HealthTurns_0 K), (1, c_gatelaw2_HealthTurns_1 K), (2, c_gatelaw2_HealthTurns_2 K), (3, c_gatelaw2_HealthTurns_3 K)] }
theorem q_gatelaw2_HealthTurns_3 (K : Nat) (ds : List D) : evPiece (T_gatelaw2_HealthTurns K) 112 (sub (codeOf Try.f5) [1, 1, 1, 1, 1, 1, 1, 1, 1, 1, 1, 1, 1, 1, 0, 1]) .go (c_gatelaw2_HealthTurns_3 K) ds = b_gatelaw2_HealthTurns_3 K ds := by kernel_rfl
theorem k_gatelaw2_HealthTurns_3 (K : Nat) : CutOK Try.prog (T_gatelaw2_HealthTurns K) 112 (sub (codeOf Try.f5) [1, 1, 1, 1, 1, 1, 1, 1, 1, 1, 1, 1, 1, 1, 0, 1]) (c_gatelaw2_HealthTurns_3 K) :=
  piece_thm (T := T_gatelaw2_HealthTurns K) (hT_of hT0 rfl rfl rfl) (hes_ok (T0 := T0) (T := T_gatelaw2_HealthTurns K) rfl rfl (⟨ok_gatemake_Stream_Instances K, ok_gatemake_Stream_Health K, ok_gatemake_Stream_Pick K, ok_gatemake_Stream_Probes K, ok_upstream_Turns K, ok_upstream_Up K, ok_gateref2_InstancesFault K, ok_upstream_CheckInstances K, ok_upstream_CheckProbes K, ok_gateref2_ProbesFault K, ok_gatelaw2_errs K, ok_gateref2_HealthFault K, ok_gatelaw2_momentFault K, ok_gateref2_TurnsOf K, ok_gateref2_UpOf K, ok_slices_Equal_api_Turn K, ok_slices_Equal_string K, ok_gatelaw2_balanced K, trivial⟩ : FAll Try.prog T0 [(33, e_gatemake_Stream_Instances K), (34, e_gatemake_Stream_Health K), (14, e_gatemake_Stream_Pick K), (35, e_gatemake_Stream_Probes K), (36, e_upstream_Turns K), (37, e_upstream_Up K), (26, e_gateref2_InstancesFault K), (38, e_upstream_CheckInstances K), (39, e_upstream_CheckProbes K), (41, e_gateref2_ProbesFault K), (40, e_gatelaw2_errs K), (42, e_gateref2_HealthFault K), (43, e_gatelaw2_momentFault K), (44, e_gateref2_TurnsOf K), (45, e_gateref2_UpOf K), (46, e_slices_Equal_api_Turn K), (47, e_slices_Equal_string K), (12, e_gatelaw2_balanced K)])) rfl rfl rfl (cutsOK_none (by rfl)) (q_gatelaw2_HealthTurns_3 K)
theorem q_gatelaw2_HealthTurns_2 (K : Nat) (ds : List D) : evPiece (T_gatelaw2_HealthTurns K) 112 (sub (codeOf Try.f5) [1, 1, 1, 1, 1, 1, 1, 1, 1, 1, 1, 1, 1, 0, 1]) .go (c_gatelaw2_HealthTurns_2 K) ds = b_gatelaw2_HealthTurns_2 K ds := by kernel_rfl
theorem k_gatelaw2_HealthTurns_2 (K : Nat) : CutOK Try.prog (T_gatelaw2_HealthTurns K) 112 (sub (codeOf Try.f5) [1, 1, 1, 1, 1, 1, 1, 1, 1, 1, 1, 1, 1, 0, 1]) (c_gatelaw2_HealthTurns_2 K) :=
  piece_thm (T := T_gatelaw2_HealthTurns K) (hT_of hT0 rfl rfl rfl) (hes_ok (T0 := T0) (T := T_gatelaw2_HealthTurns K) rfl rfl (⟨ok_gatemake_Stream_Instances K, ok_gatemake_Stream_Health K, ok_gatemake_Stream_Pick K, ok_gatemake_Stream_Probes K, ok_upstream_Turns K, ok_upstream_Up K, ok_gateref2_InstancesFault K, ok_upstream_CheckInstances K, ok_upstream_CheckProbes K, ok_gateref2_ProbesFault K, ok_gatelaw2_errs K, ok_gateref2_HealthFault K, ok_gatelaw2_momentFault K, ok_gateref2_TurnsOf K, ok_gateref2_UpOf K, ok_slices_Equal_api_Turn K, ok_slices_Equal_string K, ok_gatelaw2_balanced K, trivial⟩ : FAll Try.prog T0 [(33, e_gatemake_Stream_Instances K), (34, e_gatemake_Stream_Health K), (14, e_gatemake_Stream_Pick K), (35, e_gatemake_Stream_Probes K), (36, e_upstream_Turns K), (37, e_upstream_Up K), (26, e_gateref2_InstancesFault K), (38, e_upstream_CheckInstances K), (39, e_upstream_CheckProbes K), (41, e_gateref2_ProbesFault K), (40, e_gatelaw2_errs K), (42, e_gateref2_HealthFault K), (43, e_gatelaw2_momentFault K), (44, e_gateref2_TurnsOf K), (45, e_gateref2_UpOf K), (46, e_slices_Equal_api_Turn K), (47, e_slices_Equal_string K), (12, e_gatelaw2_balanced K)])) rfl rfl rfl (cutsOK_none (by rfl)) (q_gatelaw2_HealthTurns_2 K)
theorem q_gatelaw2_HealthTurns_1 (K : Nat) (ds : List D) : evPiece (T_gatelaw2_HealthTurns K) 112 (sub (codeOf Try.f5) [1, 1, 1, 1, 1, 1, 1, 1, 1, 0, 1]) .go (c_gatelaw2_HealthTurns_1 K) ds = b_gatelaw2_HealthTurns_1 K ds := by kernel_rfl
theorem k_gatelaw2_HealthTurns_1 (K : Nat) : CutOK Try.prog (T_gatelaw2_HealthTurns K) 112 (sub (codeOf Try.f5) [1, 1, 1, 1, 1, 1, 1, 1, 1, 0, 1]) (c_gatelaw2_HealthTurns_1 K) :=
  piece_thm (T := T_gatelaw2_HealthTurns K) (hT_of hT0 rfl rfl rfl) (hes_ok (T0 := T0) (T := T_gatelaw2_HealthTurns K) rfl rfl (⟨ok_gatemake_Stream_Instances K, ok_gatemake_Stream_Health K, ok_gatemake_Stream_Pick K, ok_gatemake_Stream_Probes K, ok_upstream_Turns K, ok_upstream_Up K, ok_gateref2_InstancesFault K, ok_upstream_CheckInstances K, ok_upstream_CheckProbes K, ok_gateref2_ProbesFault K, ok_gatelaw2_errs K, ok_gateref2_HealthFault K, ok_gatelaw2_momentFault K, ok_gateref2_TurnsOf K, ok_gateref2_UpOf K, ok_slices_Equal_api_Turn K, ok_slices_Equal_string K, ok_gatelaw2_balanced K, trivial⟩ : FAll Try.prog T0 [(33, e_gatemake_Stream_Instances K), (34, e_gatemake_Stream_Health K), (14, e_gatemake_Stream_Pick K), (35, e_gatemake_Stream_Probes K), (36, e_upstream_Turns K), (37, e_upstream_Up K), (26, e_gateref2_InstancesFault K), (38, e_upstream_CheckInstances K), (39, e_upstream_CheckProbes K), (41, e_gateref2_ProbesFault K), (40, e_gatelaw2_errs K), (42, e_gateref2_HealthFault K), (43, e_gatelaw2_momentFault K), (44, e_gateref2_TurnsOf K), (45, e_gateref2_UpOf K), (46, e_slices_Equal_api_Turn K), (47, e_slices_Equal_string K), (12, e_gatelaw2_balanced K)])) rfl rfl rfl (cutsOK_none (by rfl)) (q_gatelaw2_HealthTurns_1 K)
theorem q_gatelaw2_HealthTurns_0 (K : Nat) (ds : List D) : evPiece (T_gatelaw2_HealthTurns K) 112 (sub (codeOf Try.f5) [1, 1, 1, 1, 1, 1, 1, 0, 0]) .go (c_gatelaw2_HealthTurns_0 K) ds = b_gatelaw2_HealthTurns_0 K ds := by kernel_rfl
theorem k_gatelaw2_HealthTurns_0 (K : Nat) : CutOK Try.prog (T_gatelaw2_HealthTurns K) 112 (sub (codeOf Try.f5) [1, 1, 1, 1, 1, 1, 1, 0, 0]) (c_gatelaw2_HealthTurns_0 K) :=
  piece_thm (T := T_gatelaw2_HealthTurns K) (hT_of hT0 rfl rfl rfl) (hes_ok (T0 := T0) (T := T_gatelaw2_HealthTurns K) rfl rfl (⟨ok_gatemake_Stream_Instances K, ok_gatemake_Stream_Health K, ok_gatemake_Stream_Pick K, ok_gatemake_Stream_Probes K, ok_upstream_Turns K, ok_upstream_Up K, ok_gateref2_InstancesFault K, ok_upstream_CheckInstances K, ok_upstream_CheckProbes K, ok_gateref2_ProbesFault K, ok_gatelaw2_errs K, ok_gateref2_HealthFault K, ok_gatelaw2_momentFault K, ok_gateref2_TurnsOf K, ok_gateref2_UpOf K, ok_slices_Equal_api_Turn K, ok_slices_Equal_string K, ok_gatelaw2_balanced K, trivial⟩ : FAll Try.prog T0 [(33, e_gatemake_Stream_Instances K), (34, e_gatemake_Stream_Health K), (14, e_gatemake_Stream_Pick K), (35, e_gatemake_Stream_Probes K), (36, e_upstream_Turns K), (37, e_upstream_Up K), (26, e_gateref2_InstancesFault K), (38, e_upstream_CheckInstances K), (39, e_upstream_CheckProbes K), (41, e_gateref2_ProbesFault K), (40, e_gatelaw2_errs K), (42, e_gateref2_HealthFault K), (43, e_gatelaw2_momentFault K), (44, e_gateref2_TurnsOf K), (45, e_gateref2_UpOf K), (46, e_slices_Equal_api_Turn K), (47, e_slices_Equal_string K), (12, e_gatelaw2_balanced K)])) rfl rfl rfl (cutsOK_none (by rfl)) (q_gatelaw2_HealthTurns_0 K)
theorem q_gatelaw2_HealthTurns (K : Nat) (ds : List D) : evFn (T_gatelaw2_HealthTurns K) Try.f5 (.seq .go (.seq .go (.seq .go (.seq .go (.seq .go (.seq .go (.seq .go (.seq (.seq (.cut 0) .go) (.seq .go (.seq (.seq .go (.cut 1)) (.seq .go (.seq .go (.seq .go (.seq (.seq .go (.cut 2)) (.seq (.seq .go (.cut 3)) .go))))))))))))))) (e_gatelaw2_HealthTurns K) ds = (e_gatelaw2_HealthTurns K).f ds := by kernel_rfl
theorem ok_gatelaw2_HealthTurns (K : Nat) : FnOK Try.prog T0 5 (e_gatelaw2_HealthTurns K) :=
  fn_thm (T0 := T0) (T := T_gatelaw2_HealthTurns K) rfl (hT_of hT0 rfl rfl rfl) (hes_ok (T0 := T0) (T := T_gatelaw2_HealthTurns K) rfl rfl (⟨ok_gatemake_Stream_Instances K, ok_gatemake_Stream_Health K, ok_gatemake_Stream_Pick K, ok_gatemake_Stream_Probes K, ok_upstream_Turns K, ok_upstream_Up K, ok_gateref2_InstancesFault K, ok_upstream_CheckInstances K, ok_upstream_CheckProbes K, ok_gateref2_ProbesFault K, ok_gatelaw2_errs K, ok_gateref2_HealthFault K, ok_gatelaw2_momentFault K, ok_gateref2_TurnsOf K, ok_gateref2_UpOf K, ok_slices_Equal_api_Turn K, ok_slices_Equal_string K, ok_gatelaw2_balanced K, trivial⟩ : FAll Try.prog T0 [(33, e_gatemake_Stream_Instances K), (34, e_gatemake_Stream_Health K), (14, e_gatemake_Stream_Pick K), (35, e_gatemake_Stream_Probes K), (36, e_upstream_Turns K), (37, e_upstream_Up K), (26, e_gateref2_InstancesFault K), (38, e_upstream_CheckInstances K), (39, e_upstream_CheckProbes K), (41, e_gateref2_ProbesFault K), (40, e_gatelaw2_errs K), (42, e_gateref2_HealthFault K), (43, e_gatelaw2_momentFault K), (44, e_gateref2_TurnsOf K), (45, e_gateref2_UpOf K), (46, e_slices_Equal_api_Turn K), (47, e_slices_Equal_string K), (12, e_gatelaw2_balanced K)])) Try.func5 (by decide) rfl (Nat.le_of_ble_eq_true rfl) rfl rfl rfl (tot_none rfl) (cutsOK_list (l := [(0, sub (codeOf Try.f5) [1, 1, 1, 1, 1, 1, 1, 0, 0]), (1, sub (codeOf Try.f5) [1, 1, 1, 1, 1, 1, 1, 1, 1, 0, 1]), (2, sub (codeOf Try.f5) [1, 1, 1, 1, 1, 1, 1, 1, 1, 1, 1, 1, 1, 0, 1]), (3, sub (codeOf Try.f5) [1, 1, 1, 1, 1, 1, 1, 1, 1, 1, 1, 1, 1, 1, 0, 1])]) (by kernel_rfl) ⟨cut_one (u := c_gatelaw2_HealthTurns_0 K) rfl (k_gatelaw2_HealthTurns_0 K), cut_one (u := c_gatelaw2_HealthTurns_1 K) rfl (k_gatelaw2_HealthTurns_1 K), cut_one (u := c_gatelaw2_HealthTurns_2 K) rfl (k_gatelaw2_HealthTurns_2 K), cut_one (u := c_gatelaw2_HealthTurns_3 K) rfl (k_gatelaw2_HealthTurns_3 K), trivial⟩) (q_gatelaw2_HealthTurns K)
end Go.Proofs.YtlogmjgkbfahjaaP
