/- Printed by gen.py. -/
import Derived.Test.YtmppogdbjklapaaGreatProg
import Derived.Test.YtmppogdbjklapaaGreatEvKit
import Derived.Test.YtmppogdbjklapaaGreatEvClear
import Derived.Test.YtmppogdbjklapaaGreatEvFlat
import Derived.Test.YtmppogdbjklapaaGreatEvClone
import Derived.Shelf.Strings.Repeat
import Derived.Test.YtmppogdbjklapaaGreatEvJoin
namespace Go.Proofs.YtmppogdbjklapaaGreatP
open Go Go.Ev Go.RowKit Go.Shelf
set_option linter.unusedVariables false
def tys : List (Nat × K) := [(3, .int .i64), (4, .bool), (5, .int .u8), (9, .str), (22, .slice 3 (.int .i64)), (23, .ptr), (25, .pair 22 (.slice 3 (.int .i64)) (.pair 3 (.int .i64) .unit)), (26, .slice 55 (.pair 9 .str (.pair 3 (.int .i64) .unit))), (30, .slice 61 (.pair 9 .str (.pair 3 (.int .i64) .unit))), (32, .slice 9 .str), (33, .int .i64), (55, .pair 9 .str (.pair 3 (.int .i64) .unit)), (61, .pair 9 .str (.pair 3 (.int .i64) .unit)), (71, .slice 33 (.int .i64)), (73, .map 9 3), (74, .int .u64), (76, .int .u64)]
def T0 : Tbl := { kd := lk tys, boolT := 4, intT := 3, byteT := 5, frz := fun _ => false, ents := fun _ => [], cuts := fun _ => none, arr := memN [] }
theorem ty3 : TyOK Tryz.prog (lk tys) 3 (.int .i64) :=
  tyOK (z := .int .i64 0) (n := 1) (by kernel_rfl) rfl rfl rfl Tryz.underlying3 rfl (fun _ h => by cases h)
theorem ty4 : TyOK Tryz.prog (lk tys) 4 .bool :=
  tyOK (z := .bool false) (n := 1) (by kernel_rfl) rfl rfl rfl Tryz.underlying4 rfl (fun _ h => by cases h)
theorem ty5 : TyOK Tryz.prog (lk tys) 5 (.int .u8) :=
  tyOK (z := .int .u8 0) (n := 1) (by kernel_rfl) rfl rfl rfl Tryz.underlying5 rfl (fun _ h => by cases h)
theorem ty9 : TyOK Tryz.prog (lk tys) 9 .str :=
  tyOK (z := .string ⟨#[]⟩) (n := 1) (by kernel_rfl) rfl rfl rfl Tryz.underlying9 rfl (fun _ h => by cases h)
theorem ty22 : TyOK Tryz.prog (lk tys) 22 (.slice 3 (.int .i64)) :=
  tyOK (z := .slice none 0 0) (n := 1) (by kernel_rfl) rfl rfl rfl Tryz.underlying22 ⟨_, rfl, rfl⟩ (fun _ h => by cases h)
theorem ty23 : TyOK Tryz.prog (lk tys) 23 .ptr :=
  tyOK (z := .pointer none) (n := 1) (by kernel_rfl) rfl rfl rfl Tryz.underlying23 (.inl rfl) (fun _ h => by cases h)
theorem ty25 : TyOK Tryz.prog (lk tys) 25 (.pair 22 (.slice 3 (.int .i64)) (.pair 3 (.int .i64) .unit)) :=
  tyOK (z := .agg #[.slice none 0 0, .int .i64 0]) (n := 2) (by kernel_rfl) rfl ⟨[.slice none 0 0], [.int .i64 0], rfl, rfl, ⟨[.int .i64 0], [], rfl, rfl, rfl⟩⟩ rfl Tryz.underlying25 ⟨⟨rfl, rfl, rfl, by decide, ⟨rfl, rfl, rfl, by decide, rfl⟩⟩, rfl⟩ (fun h => by cases h)
theorem ty26 : TyOK Tryz.prog (lk tys) 26 (.slice 55 (.pair 9 .str (.pair 3 (.int .i64) .unit))) :=
  tyOK (z := .slice none 0 0) (n := 1) (by kernel_rfl) rfl rfl rfl Tryz.underlying26 ⟨_, rfl, rfl⟩ (fun _ h => by cases h)
theorem ty30 : TyOK Tryz.prog (lk tys) 30 (.slice 61 (.pair 9 .str (.pair 3 (.int .i64) .unit))) :=
  tyOK (z := .slice none 0 0) (n := 1) (by kernel_rfl) rfl rfl rfl Tryz.underlying30 ⟨_, rfl, rfl⟩ (fun _ h => by cases h)
theorem ty32 : TyOK Tryz.prog (lk tys) 32 (.slice 9 .str) :=
  tyOK (z := .slice none 0 0) (n := 1) (by kernel_rfl) rfl rfl rfl Tryz.underlying32 ⟨_, rfl, rfl⟩ (fun _ h => by cases h)
theorem ty33 : TyOK Tryz.prog (lk tys) 33 (.int .i64) :=
  tyOK (z := .int .i64 0) (n := 1) (by kernel_rfl) rfl rfl rfl Tryz.underlying33 rfl (fun _ h => by cases h)
theorem ty55 : TyOK Tryz.prog (lk tys) 55 (.pair 9 .str (.pair 3 (.int .i64) .unit)) :=
  tyOK (z := .agg #[.string ⟨#[]⟩, .int .i64 0]) (n := 2) (by kernel_rfl) rfl ⟨[.string ⟨#[]⟩], [.int .i64 0], rfl, rfl, ⟨[.int .i64 0], [], rfl, rfl, rfl⟩⟩ rfl Tryz.underlying55 ⟨⟨rfl, rfl, rfl, by decide, ⟨rfl, rfl, rfl, by decide, rfl⟩⟩, rfl⟩ (fun _ _ => ⟨by kernel_rfl, by kernel_rfl⟩)
theorem ty61 : TyOK Tryz.prog (lk tys) 61 (.pair 9 .str (.pair 3 (.int .i64) .unit)) :=
  tyOK (z := .agg #[.string ⟨#[]⟩, .int .i64 0]) (n := 2) (by kernel_rfl) rfl ⟨[.string ⟨#[]⟩], [.int .i64 0], rfl, rfl, ⟨[.int .i64 0], [], rfl, rfl, rfl⟩⟩ rfl Tryz.underlying61 ⟨⟨rfl, rfl, rfl, by decide, ⟨rfl, rfl, rfl, by decide, rfl⟩⟩, rfl⟩ (fun _ _ => ⟨by kernel_rfl, by kernel_rfl⟩)
theorem ty71 : TyOK Tryz.prog (lk tys) 71 (.slice 33 (.int .i64)) :=
  tyOK (z := .slice none 0 0) (n := 1) (by kernel_rfl) rfl rfl rfl Tryz.underlying71 ⟨_, rfl, rfl⟩ (fun _ h => by cases h)
theorem ty73 : TyOK Tryz.prog (lk tys) 73 (.map 9 3) :=
  tyOK (z := .map none) (n := 1) (by kernel_rfl) rfl rfl rfl Tryz.underlying73 rfl (fun _ h => by cases h)
theorem ty74 : TyOK Tryz.prog (lk tys) 74 (.int .u64) :=
  tyOK (z := .int .u64 0) (n := 1) (by kernel_rfl) rfl rfl rfl Tryz.underlying74 rfl (fun _ h => by cases h)
theorem ty76 : TyOK Tryz.prog (lk tys) 76 (.int .u64) :=
  tyOK (z := .int .u64 0) (n := 1) (by kernel_rfl) rfl rfl rfl Tryz.underlying76 rfl (fun _ h => by cases h)
theorem hT0 : TblOK Tryz.prog T0 :=
  ⟨AllTy.get (l := tys) ⟨ty3, ty4, ty5, ty9, ty22, ty23, ty25, ty26, ty30, ty32, ty33, ty55, ty61, ty71, ty73, ty74, ty76, trivial⟩, rfl, rfl, by kernel_rfl, arrs_ok (by kernel_rfl)⟩
/-! ### 46 gatewarden/gatemake.Below -/
def f_gatemake_Below (K : Nat) (x n : D) : Option (List D) :=
  bif (ltI n.int 1) then
    some [D.i 0]
  else
    bif (!(eqI n.int 0)) then
      bif (ltI (Int.tmod x.int n.int) 0) then
        some [D.i (IntKind.i64.wrap ((Int.tmod x.int n.int) + n.int))]
      else
        some [D.i (Int.tmod x.int n.int)]
    else
      none
def e_gatemake_Below (K : Nat) : Entry := { n := 2, sh := { sl := [(0, .d 3 false), (1, .d 3 false)], ob := [] }, kept := [], rs := [{ sl := [(0, .d 3 true)], ob := [] }], f := fun ds => f_gatemake_Below K (D.nth ds 0) (D.nth ds 1), tot := none }
def T_gatemake_Below (K : Nat) : Tbl := { T0 with ents := entsOf [], cuts := lk [] }
theorem q_gatemake_Below (K : Nat) (ds : List D) : evFn (T_gatemake_Below K) Tryz.f46 .go (e_gatemake_Below K) ds = (e_gatemake_Below K).f ds := by kernel_rfl
theorem ok_gatemake_Below (K : Nat) : FnOK Tryz.prog T0 46 (e_gatemake_Below K) :=
  fn_thm (T0 := T0) (T := T_gatemake_Below K) rfl (hT_of hT0 rfl rfl rfl) (hes_ok (T0 := T0) (T := T_gatemake_Below K) rfl rfl (trivial : FAll Tryz.prog T0 [])) Tryz.func46 (by decide) rfl (Nat.le_of_ble_eq_true rfl) rfl rfl rfl (tot_none rfl) (cutsOK_none (by rfl)) (q_gatemake_Below K)
/-! ### 25 (*gatewarden/gatemake.Stream).Next -/
def f_gatemake_Stream_Next (K : Nat) (n o0 : D) : Option (List D) :=
  bif ((((o0.at' 0).list).length : Int) == (0 : Int)) then
    (f_gatemake_Below K (D.i (IntKind.i64.wrap ((IntKind.i64.wrap (((o0.at' 1).int) + (1 : Int))) * (7919 : Int)))) n).bind fun t1 =>
    some [D.nth t1 0, D.n [o0.at' 0, D.i (IntKind.i64.wrap (((o0.at' 1).int) + (1 : Int)))]]
  else
    bif (!(eqI (((o0.at' 0).list).length : Int) 0)) then
      bif (!(eqI (((o0.at' 0).list).length : Int) 0)) then
        bif (inB (Int.tmod (IntKind.i64.wrap ((IntKind.i64.wrap (((o0.at' 1).int) + (1 : Int))) - (1 : Int))) (((o0.at' 0).list).length : Int)) (((o0.at' 0).list).length)) then
          (f_gatemake_Below K (D.nth ((o0.at' 0).list) ((Int.tmod (IntKind.i64.wrap ((IntKind.i64.wrap (((o0.at' 1).int) + (1 : Int))) - (1 : Int))) (((o0.at' 0).list).length : Int)).toNat)) (D.i 1073741824)).bind fun t2 =>
          (f_gatemake_Below K (D.i (IntKind.i64.wrap (((D.nth t2 0).int) + (IntKind.i64.wrap ((IntKind.i64.wrap (Int.tdiv (IntKind.i64.wrap ((IntKind.i64.wrap (((o0.at' 1).int) + (1 : Int))) - (1 : Int))) (((o0.at' 0).list).length : Int))) * (IntKind.i64.wrap ((7919 : Int) + (Int.tmod (IntKind.i64.wrap ((IntKind.i64.wrap (((o0.at' 1).int) + (1 : Int))) - (1 : Int))) (((o0.at' 0).list).length : Int))))))))) n).bind fun t3 =>
          some [D.nth t3 0, D.n [o0.at' 0, D.i (IntKind.i64.wrap (((o0.at' 1).int) + (1 : Int)))]]
        else
          none
      else
        none
    else
      none
def e_gatemake_Stream_Next (K : Nat) : Entry := { n := 2, sh := { sl := [(0, .ptr 25 0 []), (1, .d 3 false)], ob := [(0, .box 25 (.d 25 false))] }, kept := [0], rs := [{ sl := [(0, .d 3 true)], ob := [(0, .box 25 (.d 25 false))] }], f := fun ds => f_gatemake_Stream_Next K (D.nth ds 0) (D.nth ds 1), tot := none }
def T_gatemake_Stream_Next (K : Nat) : Tbl := { T0 with ents := entsOf [(46, e_gatemake_Below K)], cuts := lk [] }
theorem q_gatemake_Stream_Next (K : Nat) (ds : List D) : evFn (T_gatemake_Stream_Next K) Tryz.f25 .go (e_gatemake_Stream_Next K) ds = (e_gatemake_Stream_Next K).f ds := by kernel_rfl
theorem ok_gatemake_Stream_Next (K : Nat) : FnOK Tryz.prog T0 25 (e_gatemake_Stream_Next K) :=
  fn_thm (T0 := T0) (T := T_gatemake_Stream_Next K) rfl (hT_of hT0 rfl rfl rfl) (hes_ok (T0 := T0) (T := T_gatemake_Stream_Next K) rfl rfl (⟨ok_gatemake_Below K, trivial⟩ : FAll Tryz.prog T0 [(46, e_gatemake_Below K)])) Tryz.func25 (by decide) rfl (Nat.le_of_ble_eq_true rfl) rfl rfl rfl (tot_none rfl) (cutsOK_none (by rfl)) (q_gatemake_Stream_Next K)
/-! ### 24 (*gatewarden/gatemake.Stream).Flip -/
def f_gatemake_Stream_Flip (K : Nat) (n o0 : D) : Option (List D) :=
  (f_gatemake_Stream_Next K n o0).bind fun t1 =>
  some [D.b (((D.nth t1 0).int) == (0 : Int)), D.nth t1 1]
def e_gatemake_Stream_Flip (K : Nat) : Entry := { n := 2, sh := { sl := [(0, .ptr 25 0 []), (1, .d 3 false)], ob := [(0, .box 25 (.d 25 false))] }, kept := [0], rs := [{ sl := [(0, .d 4 true)], ob := [(0, .box 25 (.d 25 false))] }], f := fun ds => f_gatemake_Stream_Flip K (D.nth ds 0) (D.nth ds 1), tot := none }
def T_gatemake_Stream_Flip (K : Nat) : Tbl := { T0 with ents := entsOf [(25, e_gatemake_Stream_Next K)], cuts := lk [] }
theorem q_gatemake_Stream_Flip (K : Nat) (ds : List D) : evFn (T_gatemake_Stream_Flip K) Tryz.f24 .go (e_gatemake_Stream_Flip K) ds = (e_gatemake_Stream_Flip K).f ds := by kernel_rfl
theorem ok_gatemake_Stream_Flip (K : Nat) : FnOK Tryz.prog T0 24 (e_gatemake_Stream_Flip K) :=
  fn_thm (T0 := T0) (T := T_gatemake_Stream_Flip K) rfl (hT_of hT0 rfl rfl rfl) (hes_ok (T0 := T0) (T := T_gatemake_Stream_Flip K) rfl rfl (⟨ok_gatemake_Stream_Next K, trivial⟩ : FAll Tryz.prog T0 [(25, e_gatemake_Stream_Next K)])) Tryz.func24 (by decide) rfl (Nat.le_of_ble_eq_true rfl) rfl rfl rfl (tot_none rfl) (cutsOK_none (by rfl)) (q_gatemake_Stream_Flip K)
/-! ### 5 (*gatewarden/gatemake.Stream).Pick -/
def f_gatemake_Stream_Pick (K : Nat) (o0 r1 : D) : Option (List D) :=
  (f_gatemake_Stream_Next K (D.i (r1.list.length : Int)) o0).bind fun t1 =>
  bif (inB ((D.nth t1 0).int) r1.list.length) then
    some [D.nth r1.list (((D.nth t1 0).int).toNat), D.nth t1 1, D.n r1.list]
  else
    none
def e_gatemake_Stream_Pick (K : Nat) : Entry := { n := 2, sh := { sl := [(0, .ptr 25 0 []), (1, .own 22 1)], ob := [(0, .box 25 (.d 25 false)), (1, .row 3 true)] }, kept := [0, 1], rs := [{ sl := [(0, .d 3 true)], ob := [(0, .box 25 (.d 25 false)), (1, .row 3 true)] }], f := fun ds => f_gatemake_Stream_Pick K (D.nth ds 0) (D.nth ds 1), tot := none }
def T_gatemake_Stream_Pick (K : Nat) : Tbl := { T0 with ents := entsOf [(25, e_gatemake_Stream_Next K)], cuts := lk [] }
theorem q_gatemake_Stream_Pick (K : Nat) (ds : List D) : evFn (T_gatemake_Stream_Pick K) Tryz.f5 .go (e_gatemake_Stream_Pick K) ds = (e_gatemake_Stream_Pick K).f ds := by kernel_rfl
theorem ok_gatemake_Stream_Pick (K : Nat) : FnOK Tryz.prog T0 5 (e_gatemake_Stream_Pick K) :=
  fn_thm (T0 := T0) (T := T_gatemake_Stream_Pick K) rfl (hT_of hT0 rfl rfl rfl) (hes_ok (T0 := T0) (T := T_gatemake_Stream_Pick K) rfl rfl (⟨ok_gatemake_Stream_Next K, trivial⟩ : FAll Tryz.prog T0 [(25, e_gatemake_Stream_Next K)])) Tryz.func5 (by decide) rfl (Nat.le_of_ble_eq_true rfl) rfl rfl rfl (tot_none rfl) (cutsOK_none (by rfl)) (q_gatemake_Stream_Pick K)
/-! ### 23 (*gatewarden/gatemake.Stream).RightInstances -/
def b_gatemake_Stream_RightInstances_1 (K : Nat) (ds : List D) : Option (Nat × List D) :=
  let key := D.nth ds 0
  let o0 := D.nth ds 1
  let r1 := D.nth ds 2
  bif (!(bif ((r1.list.length : Int) == (0 : Int)) then (key.str == ([105, 100] : List UInt8)) else false)) then
    (f_gatemake_Stream_Flip K (D.i 4) o0).bind fun t1 =>
    some (0, [D.b (!((D.nth t1 0).bool)), D.nth t1 1, D.n r1.list])
  else
    some (0, [D.b true, o0, D.n r1.list])
def c_gatemake_Stream_RightInstances_1 (K : Nat) : Cut := { sh := { sl := [(0, .ptr 25 0 []), (3, .own 26 1), (5, .d 9 true)], ob := [(0, .box 25 (.d 25 false)), (1, .row 55 true)] }, kept := [0, 1], outs := [(.normal, { sl := [(23, .d 4 true)], ob := [(0, .box 25 (.d 25 false)), (1, .row 55 true)] })], f := b_gatemake_Stream_RightInstances_1 K }
def b_gatemake_Stream_RightInstances_0 (K : Nat) (rec : List D → Option (Nat × List D)) (ds : List D) : Option (Nat × List D) :=
  let s7 := D.nth ds 0
  let s8 := D.nth ds 1
  let o0 := D.nth ds 2
  let r1 := D.nth ds 3
  let r2 := D.nth ds 4
  bif (ltI s8.int s7.int) then
    bif (inB s8.int r1.list.length) then
      (b_gatemake_Stream_RightInstances_1 K [D.nth r1.list s8.int.toNat, o0, D.n r2.list]).bind fun t1 =>
      bif (D.nth t1.2 0).bool then
        (f_gatemake_Stream_Pick K (D.nth t1.2 1) (D.n [D.i 1, D.i 1, D.i 2, D.i 3, D.i 5])).bind fun t2 =>
        bif (lim (((D.nth t1.2 2).list).length + 1)) then
          rec [s7, D.i (IntKind.i64.wrap (s8.int + (1 : Int))), D.nth t2 1, D.n r1.list, D.n (((D.nth t1.2 2).list) ++ [D.n [D.nth r1.list s8.int.toNat, D.nth t2 0]])]
        else
          none
      else
        rec [s7, D.i (IntKind.i64.wrap (s8.int + (1 : Int))), D.nth t1.2 1, D.n r1.list, D.n ((D.nth t1.2 2).list)]
    else
      none
  else
    some (0, [o0, D.n r1.list, D.n r2.list])
def c_gatemake_Stream_RightInstances_0 (K : Nat) : Cut := { sh := { sl := [(0, .ptr 25 0 []), (3, .own 26 2), (6, .own 32 1), (7, .d 3 true), (8, .d 3 true)], ob := [(0, .box 25 (.d 25 false)), (1, .row 9 true), (2, .row 55 true)] }, kept := [0, 1], outs := [(.exit 0, { sl := [(3, .own 26 2)], ob := [(0, .box 25 (.d 25 false)), (1, .row 9 true), (2, .row 55 true)] })], f := fun ds => fixN (b_gatemake_Stream_RightInstances_0 K) K ds }
def f_gatemake_Stream_RightInstances (K : Nat) (o0 : D) : Option (List D) :=
  (fixN (b_gatemake_Stream_RightInstances_0 K) K [D.i 4, D.i 0, o0, D.n [D.s [105, 97], D.s [105, 98], D.s [105, 99], D.s [105, 100]], D.n []]).bind fun t1 =>
  some [D.nth t1.2 0, D.n ((D.nth t1.2 2).list)]
def e_gatemake_Stream_RightInstances (K : Nat) : Entry := { n := 1, sh := { sl := [(0, .ptr 25 0 [])], ob := [(0, .box 25 (.d 25 false))] }, kept := [0], rs := [{ sl := [(0, .own 26 1)], ob := [(0, .box 25 (.d 25 false)), (1, .row 55 true)] }], f := fun ds => f_gatemake_Stream_RightInstances K (D.nth ds 0), tot := none }
def T_gatemake_Stream_RightInstances (K : Nat) : Tbl := { T0 with ents := entsOf [(24, e_gatemake_Stream_Flip K), (5, e_gatemake_Stream_Pick K)], cuts := lk [(0, c_gatemake_Stream_RightInstances_0 K), (1, c_gatemake_Stream_RightInstances_1 K)] }
theorem q_gatemake_Stream_RightInstances_1 (K : Nat) (ds : List D) : evPiece (T_gatemake_Stream_RightInstances K) 34 (sub (codeOf Tryz.f23) [1, 1, 0, 1, 0, 0, 1, 1, 0, 0, 1, 0]) .go (c_gatemake_Stream_RightInstances_1 K) ds = b_gatemake_Stream_RightInstances_1 K ds := by kernel_rfl
theorem k_gatemake_Stream_RightInstances_1 (K : Nat) : CutOK Tryz.prog (T_gatemake_Stream_RightInstances K) 34 (sub (codeOf Tryz.f23) [1, 1, 0, 1, 0, 0, 1, 1, 0, 0, 1, 0]) (c_gatemake_Stream_RightInstances_1 K) :=
  piece_thm (T := T_gatemake_Stream_RightInstances K) (hT_of hT0 rfl rfl rfl) (hes_ok (T0 := T0) (T := T_gatemake_Stream_RightInstances K) rfl rfl (⟨ok_gatemake_Stream_Flip K, ok_gatemake_Stream_Pick K, trivial⟩ : FAll Tryz.prog T0 [(24, e_gatemake_Stream_Flip K), (5, e_gatemake_Stream_Pick K)])) rfl rfl rfl (cutsOK_none (by rfl)) (q_gatemake_Stream_RightInstances_1 K)
theorem q_gatemake_Stream_RightInstances_0 (K : Nat) (rec : List D → Option (Nat × List D)) (ds : List D) : evLoop (T_gatemake_Stream_RightInstances K) 34 (sub (codeOf Tryz.f23) [1, 1, 0, 1, 0, 0]) (.seq .go (.seq .go (.seq (.blk (.seq .go (.seq (.cut 1) .go))) .go))) (c_gatemake_Stream_RightInstances_0 K) rec ds = b_gatemake_Stream_RightInstances_0 K rec ds := by kernel_rfl
theorem k_gatemake_Stream_RightInstances_0 (K : Nat) : CutOK Tryz.prog (T_gatemake_Stream_RightInstances K) 34 (sub (codeOf Tryz.f23) [1, 1, 0, 1, 0]) (c_gatemake_Stream_RightInstances_0 K) :=
  loop_thm (T := T_gatemake_Stream_RightInstances K) (hT_of hT0 rfl rfl rfl) (hes_ok (T0 := T0) (T := T_gatemake_Stream_RightInstances K) rfl rfl (⟨ok_gatemake_Stream_Flip K, ok_gatemake_Stream_Pick K, trivial⟩ : FAll Tryz.prog T0 [(24, e_gatemake_Stream_Flip K), (5, e_gatemake_Stream_Pick K)])) (by kernel_rfl) rfl rfl rfl (cutsOK_list (l := [(1, sub (codeOf Tryz.f23) [1, 1, 0, 1, 0, 0, 1, 1, 0, 0, 1, 0])]) (by kernel_rfl) ⟨cut_one (u := c_gatemake_Stream_RightInstances_1 K) rfl (k_gatemake_Stream_RightInstances_1 K), trivial⟩) rfl (q_gatemake_Stream_RightInstances_0 K)
theorem q_gatemake_Stream_RightInstances (K : Nat) (ds : List D) : evFn (T_gatemake_Stream_RightInstances K) Tryz.f23 (.seq .go (.seq .go (.seq (.seq .go (.blk (.cut 0))) .go))) (e_gatemake_Stream_RightInstances K) ds = (e_gatemake_Stream_RightInstances K).f ds := by kernel_rfl
theorem ok_gatemake_Stream_RightInstances (K : Nat) : FnOK Tryz.prog T0 23 (e_gatemake_Stream_RightInstances K) :=
  fn_thm (T0 := T0) (T := T_gatemake_Stream_RightInstances K) rfl (hT_of hT0 rfl rfl rfl) (hes_ok (T0 := T0) (T := T_gatemake_Stream_RightInstances K) rfl rfl (⟨ok_gatemake_Stream_Flip K, ok_gatemake_Stream_Pick K, trivial⟩ : FAll Tryz.prog T0 [(24, e_gatemake_Stream_Flip K), (5, e_gatemake_Stream_Pick K)])) Tryz.func23 (by decide) rfl (Nat.le_of_ble_eq_true rfl) rfl rfl rfl (tot_none rfl) (cutsOK_list (l := [(0, sub (codeOf Tryz.f23) [1, 1, 0, 1, 0])]) (by kernel_rfl) ⟨cut_one (u := c_gatemake_Stream_RightInstances_0 K) rfl (k_gatemake_Stream_RightInstances_0 K), trivial⟩) (q_gatemake_Stream_RightInstances K)
/-! ### 26 (*gatewarden/gatemake.Stream).Some -/
def f_gatemake_Stream_Some (K : Nat) (o0 r1 : D) : Option (List D) :=
  (f_gatemake_Stream_Next K (D.i (r1.list.length : Int)) o0).bind fun t1 =>
  bif (inB ((D.nth t1 0).int) r1.list.length) then
    some [D.nth r1.list (((D.nth t1 0).int).toNat), D.nth t1 1, D.n r1.list]
  else
    none
def e_gatemake_Stream_Some (K : Nat) : Entry := { n := 2, sh := { sl := [(0, .ptr 25 0 []), (1, .own 32 1)], ob := [(0, .box 25 (.d 25 false)), (1, .row 9 true)] }, kept := [0, 1], rs := [{ sl := [(0, .d 9 true)], ob := [(0, .box 25 (.d 25 false)), (1, .row 9 true)] }], f := fun ds => f_gatemake_Stream_Some K (D.nth ds 0) (D.nth ds 1), tot := none }
def T_gatemake_Stream_Some (K : Nat) : Tbl := { T0 with ents := entsOf [(25, e_gatemake_Stream_Next K)], cuts := lk [] }
theorem q_gatemake_Stream_Some (K : Nat) (ds : List D) : evFn (T_gatemake_Stream_Some K) Tryz.f26 .go (e_gatemake_Stream_Some K) ds = (e_gatemake_Stream_Some K).f ds := by kernel_rfl
theorem ok_gatemake_Stream_Some (K : Nat) : FnOK Tryz.prog T0 26 (e_gatemake_Stream_Some K) :=
  fn_thm (T0 := T0) (T := T_gatemake_Stream_Some K) rfl (hT_of hT0 rfl rfl rfl) (hes_ok (T0 := T0) (T := T_gatemake_Stream_Some K) rfl rfl (⟨ok_gatemake_Stream_Next K, trivial⟩ : FAll Tryz.prog T0 [(25, e_gatemake_Stream_Next K)])) Tryz.func26 (by decide) rfl (Nat.le_of_ble_eq_true rfl) rfl rfl rfl (tot_none rfl) (cutsOK_none (by rfl)) (q_gatemake_Stream_Some K)
/-! ### 47 (*gatewarden/gatemake.Stream).Range -/
def f_gatemake_Stream_Range (K : Nat) (low high o0 : D) : Option (List D) :=
  bif (ltI high.int low.int) then
    some [low, o0]
  else
    (f_gatemake_Stream_Next K (D.i (IntKind.i64.wrap ((IntKind.i64.wrap (high.int - low.int)) + (1 : Int)))) o0).bind fun t1 =>
    some [D.i (IntKind.i64.wrap (low.int + ((D.nth t1 0).int))), D.nth t1 1]
def e_gatemake_Stream_Range (K : Nat) : Entry := { n := 3, sh := { sl := [(0, .ptr 25 0 []), (1, .d 3 false), (2, .d 3 false)], ob := [(0, .box 25 (.d 25 false))] }, kept := [0], rs := [{ sl := [(0, .d 3 true)], ob := [(0, .box 25 (.d 25 false))] }], f := fun ds => f_gatemake_Stream_Range K (D.nth ds 0) (D.nth ds 1) (D.nth ds 2), tot := none }
def T_gatemake_Stream_Range (K : Nat) : Tbl := { T0 with ents := entsOf [(25, e_gatemake_Stream_Next K)], cuts := lk [] }
theorem q_gatemake_Stream_Range (K : Nat) (ds : List D) : evFn (T_gatemake_Stream_Range K) Tryz.f47 .go (e_gatemake_Stream_Range K) ds = (e_gatemake_Stream_Range K).f ds := by kernel_rfl
theorem ok_gatemake_Stream_Range (K : Nat) : FnOK Tryz.prog T0 47 (e_gatemake_Stream_Range K) :=
  fn_thm (T0 := T0) (T := T_gatemake_Stream_Range K) rfl (hT_of hT0 rfl rfl rfl) (hes_ok (T0 := T0) (T := T_gatemake_Stream_Range K) rfl rfl (⟨ok_gatemake_Stream_Next K, trivial⟩ : FAll Tryz.prog T0 [(25, e_gatemake_Stream_Next K)])) Tryz.func47 (by decide) rfl (Nat.le_of_ble_eq_true rfl) rfl rfl rfl (tot_none rfl) (cutsOK_none (by rfl)) (q_gatemake_Stream_Range K)
/-! ### 27 (*gatewarden/gatemake.Stream).Odd -/
def f_gatemake_Stream_Odd (K : Nat) (low high o0 : D) : Option (List D) :=
  (f_gatemake_Stream_Flip K (D.i 12) o0).bind fun t1 =>
  bif (D.nth t1 0).bool then
    (f_gatemake_Stream_Pick K (D.nth t1 1) (D.n [D.i (IntKind.i64.wrap (low.int - (1 : Int))), D.i (IntKind.i64.wrap (high.int + (1 : Int))), low, high, D.i (-1099511627776), D.i 1099511627776])).bind fun t2 =>
    some [D.nth t2 0, D.nth t2 1]
  else
    (f_gatemake_Stream_Range K low high (D.nth t1 1)).bind fun t3 =>
    some [D.nth t3 0, D.nth t3 1]
def e_gatemake_Stream_Odd (K : Nat) : Entry := { n := 3, sh := { sl := [(0, .ptr 25 0 []), (1, .d 3 false), (2, .d 3 false)], ob := [(0, .box 25 (.d 25 false))] }, kept := [0], rs := [{ sl := [(0, .d 3 true)], ob := [(0, .box 25 (.d 25 false))] }], f := fun ds => f_gatemake_Stream_Odd K (D.nth ds 0) (D.nth ds 1) (D.nth ds 2), tot := none }
def T_gatemake_Stream_Odd (K : Nat) : Tbl := { T0 with ents := entsOf [(24, e_gatemake_Stream_Flip K), (5, e_gatemake_Stream_Pick K), (47, e_gatemake_Stream_Range K)], cuts := lk [] }
theorem q_gatemake_Stream_Odd (K : Nat) (ds : List D) : evFn (T_gatemake_Stream_Odd K) Tryz.f27 .go (e_gatemake_Stream_Odd K) ds = (e_gatemake_Stream_Odd K).f ds := by kernel_rfl
theorem ok_gatemake_Stream_Odd (K : Nat) : FnOK Tryz.prog T0 27 (e_gatemake_Stream_Odd K) :=
  fn_thm (T0 := T0) (T := T_gatemake_Stream_Odd K) rfl (hT_of hT0 rfl rfl rfl) (hes_ok (T0 := T0) (T := T_gatemake_Stream_Odd K) rfl rfl (⟨ok_gatemake_Stream_Flip K, ok_gatemake_Stream_Pick K, ok_gatemake_Stream_Range K, trivial⟩ : FAll Tryz.prog T0 [(24, e_gatemake_Stream_Flip K), (5, e_gatemake_Stream_Pick K), (47, e_gatemake_Stream_Range K)])) Tryz.func27 (by decide) rfl (Nat.le_of_ble_eq_true rfl) rfl rfl rfl (tot_none rfl) (cutsOK_none (by rfl)) (q_gatemake_Stream_Odd K)
/-! ### 4 (*gatewarden/gatemake.Stream).Instances -/
def f_gatemake_Stream_Instances (K : Nat) (o0 : D) : Option (List D) :=
  (f_gatemake_Stream_RightInstances K o0).bind fun t1 =>
  (f_gatemake_Stream_Flip K (D.i 15) (D.nth t1 0)).bind fun t2 =>
  bif (D.nth t2 0).bool then
    (f_gatemake_Stream_Next K (D.i (((D.nth t1 1).list).length : Int)) (D.nth t2 1)).bind fun t3 =>
    bif (inB ((D.nth t3 0).int) (((D.nth t1 1).list).length)) then
      (f_gatemake_Stream_Some K (D.nth t3 1) (D.n [(D.nth ((D.nth t1 1).list) (((D.nth t3 0).int).toNat)).at' 0, D.s [], D.s [65], D.s [105, 97]])).bind fun t4 =>
      (f_gatemake_Stream_Odd K (D.i 1) (D.i 100) (D.nth t4 1)).bind fun t5 =>
      (f_gatemake_Stream_Flip K (D.i 25) (D.nth t5 1)).bind fun t6 =>
      bif (D.nth t6 0).bool then
        some [D.nth t6 1, D.n []]
      else
        some [D.nth t6 1, D.n (D.setNth (D.setNth ((D.nth t1 1).list) (((D.nth t3 0).int).toNat) (D.n (D.setNth ((D.nth ((D.nth t1 1).list) (((D.nth t3 0).int).toNat)).list) 0 (D.nth t4 0)))) (((D.nth t3 0).int).toNat) (D.n (D.setNth ((D.nth (D.setNth ((D.nth t1 1).list) (((D.nth t3 0).int).toNat) (D.n (D.setNth ((D.nth ((D.nth t1 1).list) (((D.nth t3 0).int).toNat)).list) 0 (D.nth t4 0)))) (((D.nth t3 0).int).toNat)).list) 1 (D.nth t5 0))))]
    else
      none
  else
    (f_gatemake_Stream_Flip K (D.i 25) (D.nth t2 1)).bind fun t7 =>
    bif (D.nth t7 0).bool then
      some [D.nth t7 1, D.n []]
    else
      some [D.nth t7 1, D.n ((D.nth t1 1).list)]
def e_gatemake_Stream_Instances (K : Nat) : Entry := { n := 1, sh := { sl := [(0, .ptr 25 0 [])], ob := [(0, .box 25 (.d 25 false))] }, kept := [0], rs := [{ sl := [(0, .own 26 1)], ob := [(0, .box 25 (.d 25 false)), (1, .row 55 true)] }], f := fun ds => f_gatemake_Stream_Instances K (D.nth ds 0), tot := none }
def T_gatemake_Stream_Instances (K : Nat) : Tbl := { T0 with ents := entsOf [(23, e_gatemake_Stream_RightInstances K), (24, e_gatemake_Stream_Flip K), (25, e_gatemake_Stream_Next K), (26, e_gatemake_Stream_Some K), (27, e_gatemake_Stream_Odd K)], cuts := lk [] }
theorem q_gatemake_Stream_Instances (K : Nat) (ds : List D) : evFn (T_gatemake_Stream_Instances K) Tryz.f4 .go (e_gatemake_Stream_Instances K) ds = (e_gatemake_Stream_Instances K).f ds := by kernel_rfl
theorem ok_gatemake_Stream_Instances (K : Nat) : FnOK Tryz.prog T0 4 (e_gatemake_Stream_Instances K) :=
  fn_thm (T0 := T0) (T := T_gatemake_Stream_Instances K) rfl (hT_of hT0 rfl rfl rfl) (hes_ok (T0 := T0) (T := T_gatemake_Stream_Instances K) rfl rfl (⟨ok_gatemake_Stream_RightInstances K, ok_gatemake_Stream_Flip K, ok_gatemake_Stream_Next K, ok_gatemake_Stream_Some K, ok_gatemake_Stream_Odd K, trivial⟩ : FAll Tryz.prog T0 [(23, e_gatemake_Stream_RightInstances K), (24, e_gatemake_Stream_Flip K), (25, e_gatemake_Stream_Next K), (26, e_gatemake_Stream_Some K), (27, e_gatemake_Stream_Odd K)])) Tryz.func4 (by decide) rfl (Nat.le_of_ble_eq_true rfl) rfl rfl rfl (tot_none rfl) (cutsOK_none (by rfl)) (q_gatemake_Stream_Instances K)
/-! ### 28 strings.Repeat -/
def lays_strings_Repeat_ren : Go.Shelf.Ren := ⟨fun | 105 => 28 | 212 => 48 | 99 => 49 | 165 => 50 | 166 => 51 | 170 => 52 | 169 => 53 | 263 => 69 | 264 => 70 | 206 => 71 | 240 => 72 | 241 => 73 | 276 => 81 | 277 => 82 | n => n, fun | 9 => 9 | 3 => 3 | 4 => 4 | 20 => 20 | 0 => 0 | 46 => 76 | 109 => 80 | 5 => 5 | 72 => 86 | 76 => 90 | 51 => 103 | 146 => 104 | 53 => 74 | 148 => 106 | 70 => 83 | 37 => 84 | 75 => 89 | 127 => 108 | 164 => 114 | 80 => 29 | n => n, fun | n => n⟩
theorem lays_strings_Repeat : Go.Proofs.Lays.n105 Tryz.prog lays_strings_Repeat_ren where
  mixed := by kernel_rfl
  f99 := Tryz.func49.trans (congrArg some (by kernel_rfl))
  f105 := Tryz.func28.trans (congrArg some (by kernel_rfl))
  f165 := Tryz.func50.trans (congrArg some (by kernel_rfl))
  f166 := Tryz.func51.trans (congrArg some (by kernel_rfl))
  f169 := Tryz.func53.trans (congrArg some (by kernel_rfl))
  f170 := Tryz.func52.trans (congrArg some (by kernel_rfl))
  f206 := Tryz.func71.trans (congrArg some (by kernel_rfl))
  f212 := Tryz.func48.trans (congrArg some (by kernel_rfl))
  f240 := Tryz.func72.trans (congrArg some (by kernel_rfl))
  f241 := Tryz.func73.trans (congrArg some (by kernel_rfl))
  f263 := Tryz.func69.trans (congrArg some (by kernel_rfl))
  f264 := Tryz.func70.trans (congrArg some (by kernel_rfl))
  f276 := Tryz.func81.trans (congrArg some (by kernel_rfl))
  f277 := Tryz.func82.trans (congrArg some (by kernel_rfl))
  t0 := Tryz.underlying0
  a0 := Tryz.isAgg0
  z0 := Tryz.sizeOf0
  v0 := Tryz.zeroValue0
  t3 := Tryz.underlying3
  a3 := Tryz.isAgg3
  z3 := Tryz.sizeOf3
  v3 := Tryz.zeroValue3
  t4 := Tryz.underlying4
  a4 := Tryz.isAgg4
  z4 := Tryz.sizeOf4
  v4 := Tryz.zeroValue4
  t5 := Tryz.underlying5
  a5 := Tryz.isAgg5
  z5 := Tryz.sizeOf5
  v5 := Tryz.zeroValue5
  t9 := Tryz.underlying9
  a9 := Tryz.isAgg9
  z9 := Tryz.sizeOf9
  v9 := Tryz.zeroValue9
  t20 := Tryz.underlying20
  a20 := Tryz.isAgg20
  z20 := Tryz.sizeOf20
  v20 := Tryz.zeroValue20
  t37 := Tryz.underlying84
  a37 := Tryz.isAgg84
  z37 := Tryz.sizeOf84
  v37 := Tryz.zeroValue84
  t46 := Tryz.underlying76
  a46 := Tryz.isAgg76
  z46 := Tryz.sizeOf76
  v46 := Tryz.zeroValue76
  t51 := Tryz.underlying103
  a51 := Tryz.isAgg103
  z51 := Tryz.sizeOf103
  v51 := Tryz.zeroValue103
  t53 := Tryz.underlying74
  a53 := Tryz.isAgg74
  z53 := Tryz.sizeOf74
  v53 := Tryz.zeroValue74
  t70 := Tryz.underlying83
  a70 := Tryz.isAgg83
  z70 := Tryz.sizeOf83
  v70 := Tryz.zeroValue83
  t72 := Tryz.underlying86
  a72 := Tryz.isAgg86
  z72 := Tryz.sizeOf86
  v72 := Tryz.zeroValue86
  t75 := Tryz.underlying89
  a75 := Tryz.isAgg89
  z75 := Tryz.sizeOf89
  v75 := Tryz.zeroValue89
  t76 := Tryz.underlying90
  a76 := Tryz.isAgg90
  z76 := Tryz.sizeOf90
  v76 := Tryz.zeroValue90
  t109 := Tryz.underlying80
  a109 := Tryz.isAgg80
  z109 := Tryz.sizeOf80
  v109 := Tryz.zeroValue80
  t127 := Tryz.underlying108
  a127 := Tryz.isAgg108
  z127 := Tryz.sizeOf108
  v127 := Tryz.zeroValue108
  t146 := Tryz.underlying104
  a146 := Tryz.isAgg104
  z146 := Tryz.sizeOf104
  v146 := Tryz.zeroValue104
  t148 := Tryz.underlying106
  a148 := Tryz.isAgg106
  z148 := Tryz.sizeOf106
  v148 := Tryz.zeroValue106
  t164 := Tryz.underlying114
  a164 := Tryz.isAgg114
  z164 := Tryz.sizeOf114
  v164 := Tryz.zeroValue114
theorem lays_strings_Repeat_x : Builder.Extra Tryz.prog lays_strings_Repeat_ren where
  sizeBuilder := by kernel_rfl
  liesBuilder := by kernel_rfl
  t5 := lays_strings_Repeat.t5
  a5 := lays_strings_Repeat.a5
  z5 := lays_strings_Repeat.z5
  v5 := lays_strings_Repeat.v5
  infoByte := by kernel_rfl
  cellsByte := by kernel_rfl
  sizeByte := by kernel_rfl
  neB5 := by decide
def f_strings_Repeat (x y : D) : Option (List D) := repF x y
def e_strings_Repeat (K : Nat) : Entry := flat2 9 3 9 (fun ds => f_strings_Repeat (D.nth ds 0) (D.nth ds 1)) none
theorem ok_strings_Repeat (K : Nat) : FnOK Tryz.prog T0 28 (e_strings_Repeat K) :=
  repeat_ok (T := T0) Tryz.func28 rfl (by decide) rfl rfl rfl (fun s n w hn hl => Any.strings_Repeat lays_strings_Repeat lays_strings_Repeat_x s n w hn hl)
/-! ### 6 (*gatewarden/gatemake.Stream).HashKey -/
def f_gatemake_Stream_HashKey (K : Nat) (o0 : D) : Option (List D) :=
  (f_strings_Repeat (D.s [107]) (D.i 41)).bind fun t1 =>
  (f_gatemake_Stream_Some K o0 (D.n [D.s [107, 49], D.s [107, 50], D.s [107, 51], D.s [117, 115, 101, 114, 45, 55], D.s [65, 32, 98], D.s [0], D.s [], D.nth t1 0])).bind fun t2 =>
  some [D.nth t2 0, D.nth t2 1]
def e_gatemake_Stream_HashKey (K : Nat) : Entry := { n := 1, sh := { sl := [(0, .ptr 25 0 [])], ob := [(0, .box 25 (.d 25 false))] }, kept := [0], rs := [{ sl := [(0, .d 9 true)], ob := [(0, .box 25 (.d 25 false))] }], f := fun ds => f_gatemake_Stream_HashKey K (D.nth ds 0), tot := none }
def T_gatemake_Stream_HashKey (K : Nat) : Tbl := { T0 with ents := entsOf [(28, e_strings_Repeat K), (26, e_gatemake_Stream_Some K)], cuts := lk [] }
theorem q_gatemake_Stream_HashKey (K : Nat) (ds : List D) : evFn (T_gatemake_Stream_HashKey K) Tryz.f6 .go (e_gatemake_Stream_HashKey K) ds = (e_gatemake_Stream_HashKey K).f ds := by kernel_rfl
theorem ok_gatemake_Stream_HashKey (K : Nat) : FnOK Tryz.prog T0 6 (e_gatemake_Stream_HashKey K) :=
  fn_thm (T0 := T0) (T := T_gatemake_Stream_HashKey K) rfl (hT_of hT0 rfl rfl rfl) (hes_ok (T0 := T0) (T := T_gatemake_Stream_HashKey K) rfl rfl (⟨ok_strings_Repeat K, ok_gatemake_Stream_Some K, trivial⟩ : FAll Tryz.prog T0 [(28, e_strings_Repeat K), (26, e_gatemake_Stream_Some K)])) Tryz.func6 (by decide) rfl (Nat.le_of_ble_eq_true rfl) rfl rfl rfl (tot_none rfl) (cutsOK_none (by rfl)) (q_gatemake_Stream_HashKey K)
/-! ### 7 (*gatewarden/gatemake.Stream).Loads -/
def b_gatemake_Stream_Loads_0 (K : Nat) (rec : List D → Option (Nat × List D)) (ds : List D) : Option (Nat × List D) :=
  let s9 := D.nth ds 0
  let s10 := D.nth ds 1
  let o0 := D.nth ds 2
  let r1 := D.nth ds 3
  let r2 := D.nth ds 4
  bif (ltI s10.int s9.int) then
    bif (inB s10.int r1.list.length) then
      (f_gatemake_Stream_Flip K (D.i 3) o0).bind fun t1 =>
      bif (!((D.nth t1 0).bool)) then
        (f_gatemake_Stream_Pick K (D.nth t1 1) (D.n [D.i 0, D.i 0, D.i 1, D.i 2, D.i 3, D.i 7, D.i 20])).bind fun t2 =>
        bif (lim (r2.list.length + 1)) then
          rec [s9, D.i (IntKind.i64.wrap (s10.int + (1 : Int))), D.nth t2 1, D.n r1.list, D.n (r2.list ++ [D.n [(D.nth r1.list s10.int.toNat).at' 0, D.nth t2 0]])]
        else
          none
      else
        rec [s9, D.i (IntKind.i64.wrap (s10.int + (1 : Int))), D.nth t1 1, D.n r1.list, D.n r2.list]
    else
      none
  else
    some (0, [o0, D.n r1.list, D.n r2.list])
def c_gatemake_Stream_Loads_0 (K : Nat) : Cut := { sh := { sl := [(0, .ptr 25 0 []), (5, .own 30 2), (8, .own 26 1), (9, .d 3 true), (10, .d 3 true)], ob := [(0, .box 25 (.d 25 false)), (1, .row 55 true), (2, .row 61 true)] }, kept := [0, 1], outs := [(.exit 0, { sl := [(5, .own 30 2)], ob := [(0, .box 25 (.d 25 false)), (1, .row 55 true), (2, .row 61 true)] })], f := fun ds => fixN (b_gatemake_Stream_Loads_0 K) K ds }
def f_gatemake_Stream_Loads (K : Nat) (o0 r1 : D) : Option (List D) :=
  (fixN (b_gatemake_Stream_Loads_0 K) K [D.i (r1.list.length : Int), D.i 0, o0, D.n r1.list, D.n []]).bind fun t1 =>
  (f_gatemake_Stream_Flip K (D.i 15) (D.nth t1.2 0)).bind fun t2 =>
  bif (D.nth t2 0).bool then
    (f_gatemake_Stream_Some K (D.nth t2 1) (D.n [D.s [105, 97], D.s [110, 111, 110, 101], D.s [105, 100]])).bind fun t3 =>
    (f_gatemake_Stream_Odd K (D.i 0) (D.i 1000000) (D.nth t3 1)).bind fun t4 =>
    bif (lim (((D.nth t1.2 2).list).length + 1)) then
      some [D.nth t4 1, D.n ((D.nth t1.2 1).list), D.n (((D.nth t1.2 2).list) ++ [D.n [D.nth t3 0, D.nth t4 0]])]
    else
      none
  else
    some [D.nth t2 1, D.n ((D.nth t1.2 1).list), D.n ((D.nth t1.2 2).list)]
def e_gatemake_Stream_Loads (K : Nat) : Entry := { n := 2, sh := { sl := [(0, .ptr 25 0 []), (1, .own 26 1)], ob := [(0, .box 25 (.d 25 false)), (1, .row 55 true)] }, kept := [0, 1], rs := [{ sl := [(0, .own 30 2)], ob := [(0, .box 25 (.d 25 false)), (1, .row 55 true), (2, .row 61 true)] }], f := fun ds => f_gatemake_Stream_Loads K (D.nth ds 0) (D.nth ds 1), tot := none }
def T_gatemake_Stream_Loads (K : Nat) : Tbl := { T0 with ents := entsOf [(24, e_gatemake_Stream_Flip K), (5, e_gatemake_Stream_Pick K), (26, e_gatemake_Stream_Some K), (27, e_gatemake_Stream_Odd K)], cuts := lk [(0, c_gatemake_Stream_Loads_0 K)] }
theorem q_gatemake_Stream_Loads_0 (K : Nat) (rec : List D → Option (Nat × List D)) (ds : List D) : evLoop (T_gatemake_Stream_Loads K) 39 (sub (codeOf Tryz.f7) [1, 1, 0, 1, 0, 0]) .go (c_gatemake_Stream_Loads_0 K) rec ds = b_gatemake_Stream_Loads_0 K rec ds := by kernel_rfl
theorem k_gatemake_Stream_Loads_0 (K : Nat) : CutOK Tryz.prog (T_gatemake_Stream_Loads K) 39 (sub (codeOf Tryz.f7) [1, 1, 0, 1, 0]) (c_gatemake_Stream_Loads_0 K) :=
  loop_thm (T := T_gatemake_Stream_Loads K) (hT_of hT0 rfl rfl rfl) (hes_ok (T0 := T0) (T := T_gatemake_Stream_Loads K) rfl rfl (⟨ok_gatemake_Stream_Flip K, ok_gatemake_Stream_Pick K, ok_gatemake_Stream_Some K, ok_gatemake_Stream_Odd K, trivial⟩ : FAll Tryz.prog T0 [(24, e_gatemake_Stream_Flip K), (5, e_gatemake_Stream_Pick K), (26, e_gatemake_Stream_Some K), (27, e_gatemake_Stream_Odd K)])) (by kernel_rfl) rfl rfl rfl (cutsOK_none (by rfl)) rfl (q_gatemake_Stream_Loads_0 K)
theorem q_gatemake_Stream_Loads (K : Nat) (ds : List D) : evFn (T_gatemake_Stream_Loads K) Tryz.f7 (.seq .go (.seq .go (.seq (.seq .go (.blk (.cut 0))) .go))) (e_gatemake_Stream_Loads K) ds = (e_gatemake_Stream_Loads K).f ds := by kernel_rfl
theorem ok_gatemake_Stream_Loads (K : Nat) : FnOK Tryz.prog T0 7 (e_gatemake_Stream_Loads K) :=
  fn_thm (T0 := T0) (T := T_gatemake_Stream_Loads K) rfl (hT_of hT0 rfl rfl rfl) (hes_ok (T0 := T0) (T := T_gatemake_Stream_Loads K) rfl rfl (⟨ok_gatemake_Stream_Flip K, ok_gatemake_Stream_Pick K, ok_gatemake_Stream_Some K, ok_gatemake_Stream_Odd K, trivial⟩ : FAll Tryz.prog T0 [(24, e_gatemake_Stream_Flip K), (5, e_gatemake_Stream_Pick K), (26, e_gatemake_Stream_Some K), (27, e_gatemake_Stream_Odd K)])) Tryz.func7 (by decide) rfl (Nat.le_of_ble_eq_true rfl) rfl rfl rfl (tot_none rfl) (cutsOK_list (l := [(0, sub (codeOf Tryz.f7) [1, 1, 0, 1, 0])]) (by kernel_rfl) ⟨cut_one (u := c_gatemake_Stream_Loads_0 K) rfl (k_gatemake_Stream_Loads_0 K), trivial⟩) (q_gatemake_Stream_Loads K)
/-! ### 54 gatewarden/kit.IsKey -/
def b_kit_IsKey_0 (K : Nat) (rec : List D → Option (Nat × List D)) (ds : List D) : Option (Nat × List D) :=
  let s := D.nth ds 0
  let i := D.nth ds 1
  bif (ltI i.int (s.str.length : Int)) then
    bif (inB i.int s.str.length) then
      bif (!(bif (bif (geI (byteAt s.str i.int.toNat) 97) then (leI (byteAt s.str i.int.toNat) 122) else false) then true else (bif (gtI i.int 0) then (bif (bif (bif (geI (byteAt s.str i.int.toNat) 48) then (leI (byteAt s.str i.int.toNat) 57) else false) then true else ((byteAt s.str i.int.toNat) == (45 : Int))) then true else ((byteAt s.str i.int.toNat) == (95 : Int))) else false))) then
        some (0, [D.b false])
      else
        rec [s, D.i (IntKind.i64.wrap (i.int + (1 : Int)))]
    else
      none
  else
    some (1, [])
def c_kit_IsKey_0 (K : Nat) : Cut := { sh := { sl := [(0, .d 9 true), (3, .d 3 true)], ob := [] }, kept := [], outs := [(.ret, { sl := [(2, .d 4 true)], ob := [] }), (.exit 0, { sl := [], ob := [] })], f := fun ds => fixN (b_kit_IsKey_0 K) K ds }
def f_kit_IsKey (K : Nat) (s : D) : Option (List D) :=
  (fixN (b_kit_IsKey_0 K) K [s, D.i 0]).bind fun t1 =>
  bif (t1.1.beq 0) then
    some [D.nth t1.2 0]
  else
    some [D.b (bif (!(s.str == ([] : List UInt8))) then (leI (s.str.length : Int) 40) else false)]
def e_kit_IsKey (K : Nat) : Entry := { n := 1, sh := { sl := [(0, .d 9 false)], ob := [] }, kept := [], rs := [{ sl := [(0, .d 4 true)], ob := [] }], f := fun ds => f_kit_IsKey K (D.nth ds 0), tot := none }
def T_kit_IsKey (K : Nat) : Tbl := { T0 with ents := entsOf [], cuts := lk [(0, c_kit_IsKey_0 K)] }
theorem q_kit_IsKey_0 (K : Nat) (rec : List D → Option (Nat × List D)) (ds : List D) : evLoop (T_kit_IsKey K) 48 (sub (codeOf Tryz.f54) [1, 0, 1, 0, 0]) .go (c_kit_IsKey_0 K) rec ds = b_kit_IsKey_0 K rec ds := by kernel_rfl
theorem k_kit_IsKey_0 (K : Nat) : CutOK Tryz.prog (T_kit_IsKey K) 48 (sub (codeOf Tryz.f54) [1, 0, 1, 0]) (c_kit_IsKey_0 K) :=
  loop_thm (T := T_kit_IsKey K) (hT_of hT0 rfl rfl rfl) (hes_ok (T0 := T0) (T := T_kit_IsKey K) rfl rfl (trivial : FAll Tryz.prog T0 [])) (by kernel_rfl) rfl rfl rfl (cutsOK_none (by rfl)) rfl (q_kit_IsKey_0 K)
theorem q_kit_IsKey (K : Nat) (ds : List D) : evFn (T_kit_IsKey K) Tryz.f54 (.seq .go (.seq (.seq .go (.blk (.cut 0))) .go)) (e_kit_IsKey K) ds = (e_kit_IsKey K).f ds := by kernel_rfl
theorem ok_kit_IsKey (K : Nat) : FnOK Tryz.prog T0 54 (e_kit_IsKey K) :=
  fn_thm (T0 := T0) (T := T_kit_IsKey K) rfl (hT_of hT0 rfl rfl rfl) (hes_ok (T0 := T0) (T := T_kit_IsKey K) rfl rfl (trivial : FAll Tryz.prog T0 [])) Tryz.func54 (by decide) rfl (Nat.le_of_ble_eq_true rfl) rfl rfl rfl (tot_none rfl) (cutsOK_list (l := [(0, sub (codeOf Tryz.f54) [1, 0, 1, 0])]) (by kernel_rfl) ⟨cut_one (u := c_kit_IsKey_0 K) rfl (k_kit_IsKey_0 K), trivial⟩) (q_kit_IsKey K)
/-! ### 30 gatewarden/kit.Outside -/
def p_kit_Outside (n low high : D) : List D := [D.b (bif (ltI n.int low.int) then true else (gtI n.int high.int))]
def e_kit_Outside (K : Nat) : Entry := { n := 3, sh := { sl := [(0, .d 3 false), (1, .d 3 false), (2, .d 3 false)], ob := [] }, kept := [], rs := [{ sl := [(0, .d 4 true)], ob := [] }], f := fun ds => some (p_kit_Outside (D.nth ds 0) (D.nth ds 1) (D.nth ds 2)), tot := some fun ds => p_kit_Outside (D.nth ds 0) (D.nth ds 1) (D.nth ds 2) }
def T_kit_Outside (K : Nat) : Tbl := { T0 with ents := entsOf [], cuts := lk [] }
theorem q_kit_Outside (K : Nat) (ds : List D) : evFn (T_kit_Outside K) Tryz.f30 .go (e_kit_Outside K) ds = (e_kit_Outside K).f ds := by kernel_rfl
theorem ok_kit_Outside (K : Nat) : FnOK Tryz.prog T0 30 (e_kit_Outside K) :=
  fn_thm (T0 := T0) (T := T_kit_Outside K) rfl (hT_of hT0 rfl rfl rfl) (hes_ok (T0 := T0) (T := T_kit_Outside K) rfl rfl (trivial : FAll Tryz.prog T0 [])) Tryz.func30 (by decide) rfl (Nat.le_of_ble_eq_true rfl) rfl rfl rfl (tot_some rfl fun _ => rfl) (cutsOK_none (by rfl)) (q_kit_Outside K)
/-! ### 29 gatewarden/upstream.CheckInstances -/
def b_upstream_CheckInstances_0 (K : Nat) (rec : List D → Option (Nat × List D)) (ds : List D) : Option (Nat × List D) :=
  let l := D.nth ds 0
  let s8 := D.nth ds 1
  let s9 := D.nth ds 2
  let s10 := D.nth ds 3
  bif (ltI s10.int s9.int) then
    bif (inB s10.int s8.list.length) then
      (f_kit_IsKey K ((D.nth s8.list s10.int.toNat).at' 0)).bind fun t1 =>
      bif (!((D.nth t1 0).bool)) then
        some (0, [D.i 5])
      else
        bif ((!(gtI s10.int 0)) || (inB (IntKind.i64.wrap (s10.int - (1 : Int))) l.list.length)) then
          bif (bif (gtI s10.int 0) then ((Op.bytesLess (((D.nth s8.list s10.int.toNat).at' 0).str) (((D.nth l.list ((IntKind.i64.wrap (s10.int - (1 : Int))).toNat)).at' 0).str)) || ((((D.nth s8.list s10.int.toNat).at' 0).str) == (((D.nth l.list ((IntKind.i64.wrap (s10.int - (1 : Int))).toNat)).at' 0).str))) else false) then
            some (0, [D.i 7])
          else
            bif (D.nth (p_kit_Outside ((D.nth s8.list s10.int.toNat).at' 1) (D.i 1) (D.i 100)) 0).bool then
              some (0, [D.i 1])
            else
              rec [l, s8, s9, D.i (IntKind.i64.wrap (s10.int + (1 : Int)))]
        else
          none
    else
      none
  else
    some (1, [])
def c_upstream_CheckInstances_0 (K : Nat) : Cut := { sh := { sl := [(0, .d 26 false), (8, .d 26 false), (9, .d 3 true), (10, .d 3 true)], ob := [] }, kept := [], outs := [(.ret, { sl := [(2, .d 33 true)], ob := [] }), (.exit 0, { sl := [], ob := [] })], f := fun ds => fixN (b_upstream_CheckInstances_0 K) K ds }
def f_upstream_CheckInstances (K : Nat) (l : D) : Option (List D) :=
  bif (gtI (l.list.length : Int) 50) then
    some [D.i 2]
  else
    (fixN (b_upstream_CheckInstances_0 K) K [l, l, D.i (l.list.length : Int), D.i 0]).bind fun t1 =>
    bif (t1.1.beq 0) then
      some [D.nth t1.2 0]
    else
      some [D.i 0]
def e_upstream_CheckInstances (K : Nat) : Entry := { n := 1, sh := { sl := [(0, .d 26 false)], ob := [] }, kept := [], rs := [{ sl := [(0, .d 33 true)], ob := [] }], f := fun ds => f_upstream_CheckInstances K (D.nth ds 0), tot := none }
def T_upstream_CheckInstances (K : Nat) : Tbl := { T0 with ents := entsOf [(54, e_kit_IsKey K), (30, e_kit_Outside K)], cuts := lk [(0, c_upstream_CheckInstances_0 K)] }
theorem q_upstream_CheckInstances_0 (K : Nat) (rec : List D → Option (Nat × List D)) (ds : List D) : evLoop (T_upstream_CheckInstances K) 39 (sub (codeOf Tryz.f29) [1, 1, 0, 1, 0, 0]) .go (c_upstream_CheckInstances_0 K) rec ds = b_upstream_CheckInstances_0 K rec ds := by kernel_rfl
theorem k_upstream_CheckInstances_0 (K : Nat) : CutOK Tryz.prog (T_upstream_CheckInstances K) 39 (sub (codeOf Tryz.f29) [1, 1, 0, 1, 0]) (c_upstream_CheckInstances_0 K) :=
  loop_thm (T := T_upstream_CheckInstances K) (hT_of hT0 rfl rfl rfl) (hes_ok (T0 := T0) (T := T_upstream_CheckInstances K) rfl rfl (⟨ok_kit_IsKey K, ok_kit_Outside K, trivial⟩ : FAll Tryz.prog T0 [(54, e_kit_IsKey K), (30, e_kit_Outside K)])) (by kernel_rfl) rfl rfl rfl (cutsOK_none (by rfl)) rfl (q_upstream_CheckInstances_0 K)
theorem q_upstream_CheckInstances (K : Nat) (ds : List D) : evFn (T_upstream_CheckInstances K) Tryz.f29 (.seq .go (.seq .go (.seq (.seq .go (.blk (.cut 0))) .go))) (e_upstream_CheckInstances K) ds = (e_upstream_CheckInstances K).f ds := by kernel_rfl
theorem ok_upstream_CheckInstances (K : Nat) : FnOK Tryz.prog T0 29 (e_upstream_CheckInstances K) :=
  fn_thm (T0 := T0) (T := T_upstream_CheckInstances K) rfl (hT_of hT0 rfl rfl rfl) (hes_ok (T0 := T0) (T := T_upstream_CheckInstances K) rfl rfl (⟨ok_kit_IsKey K, ok_kit_Outside K, trivial⟩ : FAll Tryz.prog T0 [(54, e_kit_IsKey K), (30, e_kit_Outside K)])) Tryz.func29 (by decide) rfl (Nat.le_of_ble_eq_true rfl) rfl rfl rfl (tot_none rfl) (cutsOK_list (l := [(0, sub (codeOf Tryz.f29) [1, 1, 0, 1, 0])]) (by kernel_rfl) ⟨cut_one (u := c_upstream_CheckInstances_0 K) rfl (k_upstream_CheckInstances_0 K), trivial⟩) (q_upstream_CheckInstances K)
/-! ### 31 gatewarden/upstream.weights -/
def b_upstream_weights_0 (K : Nat) (rec : List D → Option (Nat × List D)) (ds : List D) : Option (Nat × List D) :=
  let sum := D.nth ds 0
  let s6 := D.nth ds 1
  let s7 := D.nth ds 2
  let s8 := D.nth ds 3
  bif (ltI s8.int s7.int) then
    bif (inB s8.int s6.list.length) then
      rec [D.i (IntKind.i64.wrap (sum.int + (((D.nth s6.list s8.int.toNat).at' 1).int))), s6, s7, D.i (IntKind.i64.wrap (s8.int + (1 : Int)))]
    else
      none
  else
    some (0, [sum])
def c_upstream_weights_0 (K : Nat) : Cut := { sh := { sl := [(3, .d 3 true), (6, .d 26 false), (7, .d 3 true), (8, .d 3 true)], ob := [] }, kept := [], outs := [(.exit 0, { sl := [(3, .d 3 true)], ob := [] })], f := fun ds => fixN (b_upstream_weights_0 K) K ds }
def f_upstream_weights (K : Nat) (l : D) : Option (List D) :=
  (fixN (b_upstream_weights_0 K) K [D.i 0, l, D.i (l.list.length : Int), D.i 0]).bind fun t1 =>
  some [D.nth t1.2 0]
def e_upstream_weights (K : Nat) : Entry := { n := 1, sh := { sl := [(0, .d 26 false)], ob := [] }, kept := [], rs := [{ sl := [(0, .d 3 true)], ob := [] }], f := fun ds => f_upstream_weights K (D.nth ds 0), tot := none }
def T_upstream_weights (K : Nat) : Tbl := { T0 with ents := entsOf [], cuts := lk [(0, c_upstream_weights_0 K)] }
theorem q_upstream_weights_0 (K : Nat) (rec : List D → Option (Nat × List D)) (ds : List D) : evLoop (T_upstream_weights K) 18 (sub (codeOf Tryz.f31) [1, 1, 0, 1, 0, 0]) .go (c_upstream_weights_0 K) rec ds = b_upstream_weights_0 K rec ds := by kernel_rfl
theorem k_upstream_weights_0 (K : Nat) : CutOK Tryz.prog (T_upstream_weights K) 18 (sub (codeOf Tryz.f31) [1, 1, 0, 1, 0]) (c_upstream_weights_0 K) :=
  loop_thm (T := T_upstream_weights K) (hT_of hT0 rfl rfl rfl) (hes_ok (T0 := T0) (T := T_upstream_weights K) rfl rfl (trivial : FAll Tryz.prog T0 [])) (by kernel_rfl) rfl rfl rfl (cutsOK_none (by rfl)) rfl (q_upstream_weights_0 K)
theorem q_upstream_weights (K : Nat) (ds : List D) : evFn (T_upstream_weights K) Tryz.f31 (.seq .go (.seq .go (.seq (.seq .go (.blk (.cut 0))) .go))) (e_upstream_weights K) ds = (e_upstream_weights K).f ds := by kernel_rfl
theorem ok_upstream_weights (K : Nat) : FnOK Tryz.prog T0 31 (e_upstream_weights K) :=
  fn_thm (T0 := T0) (T := T_upstream_weights K) rfl (hT_of hT0 rfl rfl rfl) (hes_ok (T0 := T0) (T := T_upstream_weights K) rfl rfl (trivial : FAll Tryz.prog T0 [])) Tryz.func31 (by decide) rfl (Nat.le_of_ble_eq_true rfl) rfl rfl rfl (tot_none rfl) (cutsOK_list (l := [(0, sub (codeOf Tryz.f31) [1, 1, 0, 1, 0])]) (by kernel_rfl) ⟨cut_one (u := c_upstream_weights_0 K) rfl (k_upstream_weights_0 K), trivial⟩) (q_upstream_weights K)
/-! ### 8 gatewarden/upstream.Round -/
def b_upstream_Round_1 (K : Nat) (rec : List D → Option (Nat × List D)) (ds : List D) : Option (Nat × List D) :=
  let best := D.nth ds 0
  let s31 := D.nth ds 1
  let s32 := D.nth ds 2
  let s33 := D.nth ds 3
  let r0 := D.nth ds 4
  bif (ltI s33.int s32.int) then
    bif (inB s33.int s31.list.length) then
      bif (inB s33.int r0.list.length) then
        bif (inB s33.int r0.list.length) then
          bif (inB s33.int ((D.setNth r0.list s33.int.toNat (D.i (IntKind.i64.wrap (((D.nth r0.list s33.int.toNat).int) + (((D.nth s31.list s33.int.toNat).at' 1).int))))).length)) then
            bif (inB best.int ((D.setNth r0.list s33.int.toNat (D.i (IntKind.i64.wrap (((D.nth r0.list s33.int.toNat).int) + (((D.nth s31.list s33.int.toNat).at' 1).int))))).length)) then
              bif (gtI ((D.nth (D.setNth r0.list s33.int.toNat (D.i (IntKind.i64.wrap (((D.nth r0.list s33.int.toNat).int) + (((D.nth s31.list s33.int.toNat).at' 1).int))))) s33.int.toNat).int) ((D.nth (D.setNth r0.list s33.int.toNat (D.i (IntKind.i64.wrap (((D.nth r0.list s33.int.toNat).int) + (((D.nth s31.list s33.int.toNat).at' 1).int))))) best.int.toNat).int)) then
                rec [s33, s31, s32, D.i (IntKind.i64.wrap (s33.int + (1 : Int))), D.n (D.setNth r0.list s33.int.toNat (D.i (IntKind.i64.wrap (((D.nth r0.list s33.int.toNat).int) + (((D.nth s31.list s33.int.toNat).at' 1).int)))))]
              else
                rec [best, s31, s32, D.i (IntKind.i64.wrap (s33.int + (1 : Int))), D.n (D.setNth r0.list s33.int.toNat (D.i (IntKind.i64.wrap (((D.nth r0.list s33.int.toNat).int) + (((D.nth s31.list s33.int.toNat).at' 1).int)))))]
            else
              none
          else
            none
        else
          none
      else
        none
    else
      none
  else
    some (0, [best, D.n r0.list])
def c_upstream_Round_1 (K : Nat) : Cut := { sh := { sl := [(7, .own 22 0), (10, .d 3 true), (31, .d 26 false), (32, .d 3 true), (33, .d 3 true)], ob := [(0, .row 3 true)] }, kept := [0], outs := [(.exit 2, { sl := [(10, .d 3 true)], ob := [(0, .row 3 true)] })], f := fun ds => fixN (b_upstream_Round_1 K) K ds }
def b_upstream_Round_0 (K : Nat) (rec : List D → Option (Nat × List D)) (ds : List D) : Option (Nat × List D) :=
  let l := D.nth ds 0
  let sum := D.nth ds 1
  let s28 := D.nth ds 2
  let s29 := D.nth ds 3
  let r0 := D.nth ds 4
  let r1 := D.nth ds 5
  bif (ltI s29.int s28.int) then
    (fixN (b_upstream_Round_1 K) K [D.i 0, l, D.i (l.list.length : Int), D.i 0, D.n r0.list]).bind fun t3 =>
    bif (inB ((D.nth t3.2 0).int) (((D.nth t3.2 1).list).length)) then
      bif (inB ((D.nth t3.2 0).int) (((D.nth t3.2 1).list).length)) then
        bif (inB ((D.nth t3.2 0).int) l.list.length) then
          bif (lim (r1.list.length + 1)) then
            rec [l, sum, s28, D.i (IntKind.i64.wrap (s29.int + (1 : Int))), D.n (D.setNth ((D.nth t3.2 1).list) (((D.nth t3.2 0).int).toNat) (D.i (IntKind.i64.wrap (((D.nth ((D.nth t3.2 1).list) (((D.nth t3.2 0).int).toNat)).int) - sum.int)))), D.n (r1.list ++ [(D.nth l.list (((D.nth t3.2 0).int).toNat)).at' 0])]
          else
            none
        else
          none
      else
        none
    else
      none
  else
    some (0, [D.n r0.list, D.n r1.list])
def c_upstream_Round_0 (K : Nat) : Cut := { sh := { sl := [(0, .d 26 false), (7, .own 22 0), (8, .d 3 true), (9, .own 32 1), (28, .d 3 true), (29, .d 3 true)], ob := [(0, .row 3 true), (1, .row 9 true)] }, kept := [0], outs := [(.exit 0, { sl := [(9, .own 32 1)], ob := [(0, .row 3 true), (1, .row 9 true)] })], f := fun ds => fixN (b_upstream_Round_0 K) K ds }
def f_upstream_Round (K : Nat) (l many : D) : Option (List D) :=
  (f_upstream_CheckInstances K l).bind fun t1 =>
  bif (((D.nth t1 0).int) != (0 : Int)) then
    some [D.nth t1 0, D.n []]
  else
    bif (D.nth (p_kit_Outside many (D.i 0) (D.i 2000)) 0).bool then
      some [D.i 1, D.n []]
    else
      bif ((l.list.length : Int) == (0 : Int)) then
        some [D.i 8, D.n []]
      else
        bif ((leI 0 (l.list.length : Int)) && (lim ((l.list.length : Int).toNat))) then
          (f_upstream_weights K l).bind fun t2 =>
          (fixN (b_upstream_Round_0 K) K [l, D.nth t2 0, many, D.i 0, D.n (List.replicate ((l.list.length : Int).toNat) (D.n [])), D.n []]).bind fun t3 =>
          some [D.i 0, D.n ((D.nth t3.2 1).list)]
        else
          none
def e_upstream_Round (K : Nat) : Entry := { n := 2, sh := { sl := [(0, .d 26 false), (1, .d 3 false)], ob := [] }, kept := [], rs := [{ sl := [(0, .tup [.own 32 0, .d 33 true])], ob := [(0, .row 9 true)] }], f := fun ds => f_upstream_Round K (D.nth ds 0) (D.nth ds 1), tot := none }
def T_upstream_Round (K : Nat) : Tbl := { T0 with ents := entsOf [(29, e_upstream_CheckInstances K), (30, e_kit_Outside K), (31, e_upstream_weights K)], cuts := lk [(0, c_upstream_Round_0 K), (1, c_upstream_Round_1 K)] }
theorem q_upstream_Round_1 (K : Nat) (rec : List D → Option (Nat × List D)) (ds : List D) : evLoop (T_upstream_Round K) 74 (sub (codeOf Tryz.f8) [1, 1, 1, 1, 1, 1, 1, 0, 1, 0, 0, 1, 1, 0, 0, 1, 0, 1, 0, 0]) .go (c_upstream_Round_1 K) rec ds = b_upstream_Round_1 K rec ds := by kernel_rfl
theorem k_upstream_Round_1 (K : Nat) : CutOK Tryz.prog (T_upstream_Round K) 74 (sub (codeOf Tryz.f8) [1, 1, 1, 1, 1, 1, 1, 0, 1, 0, 0, 1, 1, 0, 0, 1, 0, 1, 0]) (c_upstream_Round_1 K) :=
  loop_thm (T := T_upstream_Round K) (hT_of hT0 rfl rfl rfl) (hes_ok (T0 := T0) (T := T_upstream_Round K) rfl rfl (⟨ok_upstream_CheckInstances K, ok_kit_Outside K, ok_upstream_weights K, trivial⟩ : FAll Tryz.prog T0 [(29, e_upstream_CheckInstances K), (30, e_kit_Outside K), (31, e_upstream_weights K)])) (by kernel_rfl) rfl rfl rfl (cutsOK_none (by rfl)) rfl (q_upstream_Round_1 K)
theorem q_upstream_Round_0 (K : Nat) (rec : List D → Option (Nat × List D)) (ds : List D) : evLoop (T_upstream_Round K) 74 (sub (codeOf Tryz.f8) [1, 1, 1, 1, 1, 1, 1, 0, 1, 0, 0]) (.seq .go (.seq .go (.seq (.blk (.seq .go (.seq (.seq .go (.blk (.cut 1))) .go))) .go))) (c_upstream_Round_0 K) rec ds = b_upstream_Round_0 K rec ds := by kernel_rfl
theorem k_upstream_Round_0 (K : Nat) : CutOK Tryz.prog (T_upstream_Round K) 74 (sub (codeOf Tryz.f8) [1, 1, 1, 1, 1, 1, 1, 0, 1, 0]) (c_upstream_Round_0 K) :=
  loop_thm (T := T_upstream_Round K) (hT_of hT0 rfl rfl rfl) (hes_ok (T0 := T0) (T := T_upstream_Round K) rfl rfl (⟨ok_upstream_CheckInstances K, ok_kit_Outside K, ok_upstream_weights K, trivial⟩ : FAll Tryz.prog T0 [(29, e_upstream_CheckInstances K), (30, e_kit_Outside K), (31, e_upstream_weights K)])) (by kernel_rfl) rfl rfl rfl (cutsOK_list (l := [(1, sub (codeOf Tryz.f8) [1, 1, 1, 1, 1, 1, 1, 0, 1, 0, 0, 1, 1, 0, 0, 1, 0, 1, 0])]) (by kernel_rfl) ⟨cut_one (u := c_upstream_Round_1 K) rfl (k_upstream_Round_1 K), trivial⟩) rfl (q_upstream_Round_0 K)
theorem q_upstream_Round (K : Nat) (ds : List D) : evFn (T_upstream_Round K) Tryz.f8 (.seq .go (.seq .go (.seq .go (.seq .go (.seq .go (.seq .go (.seq .go (.seq (.seq .go (.blk (.cut 0))) .go)))))))) (e_upstream_Round K) ds = (e_upstream_Round K).f ds := by kernel_rfl
theorem ok_upstream_Round (K : Nat) : FnOK Tryz.prog T0 8 (e_upstream_Round K) :=
  fn_thm (T0 := T0) (T := T_upstream_Round K) rfl (hT_of hT0 rfl rfl rfl) (hes_ok (T0 := T0) (T := T_upstream_Round K) rfl rfl (⟨ok_upstream_CheckInstances K, ok_kit_Outside K, ok_upstream_weights K, trivial⟩ : FAll Tryz.prog T0 [(29, e_upstream_CheckInstances K), (30, e_kit_Outside K), (31, e_upstream_weights K)])) Tryz.func8 (by decide) rfl (Nat.le_of_ble_eq_true rfl) rfl rfl rfl (tot_none rfl) (cutsOK_list (l := [(0, sub (codeOf Tryz.f8) [1, 1, 1, 1, 1, 1, 1, 0, 1, 0])]) (by kernel_rfl) ⟨cut_one (u := c_upstream_Round_0 K) rfl (k_upstream_Round_0 K), trivial⟩) (q_upstream_Round K)
/-! ### 32 gatewarden/upstream.keyFault -/
def f_upstream_keyFault (K : Nat) (key : D) : Option (List D) :=
  bif (bif (key.str == ([] : List UInt8)) then true else (gtI (key.str.length : Int) 40)) then
    some [D.i 5]
  else
    some [D.i 0]
def e_upstream_keyFault (K : Nat) : Entry := { n := 1, sh := { sl := [(0, .d 9 false)], ob := [] }, kept := [], rs := [{ sl := [(0, .d 33 true)], ob := [] }], f := fun ds => f_upstream_keyFault K (D.nth ds 0), tot := none }
def T_upstream_keyFault (K : Nat) : Tbl := { T0 with ents := entsOf [], cuts := lk [] }
theorem q_upstream_keyFault (K : Nat) (ds : List D) : evFn (T_upstream_keyFault K) Tryz.f32 .go (e_upstream_keyFault K) ds = (e_upstream_keyFault K).f ds := by kernel_rfl
theorem ok_upstream_keyFault (K : Nat) : FnOK Tryz.prog T0 32 (e_upstream_keyFault K) :=
  fn_thm (T0 := T0) (T := T_upstream_keyFault K) rfl (hT_of hT0 rfl rfl rfl) (hes_ok (T0 := T0) (T := T_upstream_keyFault K) rfl rfl (trivial : FAll Tryz.prog T0 [])) Tryz.func32 (by decide) rfl (Nat.le_of_ble_eq_true rfl) rfl rfl rfl (tot_none rfl) (cutsOK_none (by rfl)) (q_upstream_keyFault K)
/-! ### 55 gatewarden/upstream.Hash -/
def b_upstream_Hash_0 (K : Nat) (rec : List D → Option (Nat × List D)) (ds : List D) : Option (Nat × List D) :=
  let s := D.nth ds 0
  let h := D.nth ds 1
  let s6 := D.nth ds 2
  let s7 := D.nth ds 3
  bif (ltI s7.int s6.int) then
    bif (inB s7.int s.str.length) then
      rec [s, D.i (IntKind.u64.wrap ((bitsI .xor .u64 h.int (IntKind.u64.wrap (byteAt s.str s7.int.toNat))) * (1099511628211 : Int))), s6, D.i (IntKind.i64.wrap (s7.int + (1 : Int)))]
    else
      none
  else
    some (0, [h])
def c_upstream_Hash_0 (K : Nat) : Cut := { sh := { sl := [(0, .d 9 true), (3, .d 74 true), (6, .d 3 true), (7, .d 3 true)], ob := [] }, kept := [], outs := [(.exit 0, { sl := [(3, .d 74 true)], ob := [] })], f := fun ds => fixN (b_upstream_Hash_0 K) K ds }
def f_upstream_Hash (K : Nat) (s : D) : Option (List D) :=
  (fixN (b_upstream_Hash_0 K) K [s, D.i 14695981039346656037, D.i (s.str.length : Int), D.i 0]).bind fun t1 =>
  some [D.i (bitsI .xor .u64 ((D.nth t1.2 0).int) (shr .u64 ((D.nth t1.2 0).int) 32))]
def e_upstream_Hash (K : Nat) : Entry := { n := 1, sh := { sl := [(0, .d 9 false)], ob := [] }, kept := [], rs := [{ sl := [(0, .d 74 true)], ob := [] }], f := fun ds => f_upstream_Hash K (D.nth ds 0), tot := none }
def T_upstream_Hash (K : Nat) : Tbl := { T0 with ents := entsOf [], cuts := lk [(0, c_upstream_Hash_0 K)] }
theorem q_upstream_Hash_0 (K : Nat) (rec : List D → Option (Nat × List D)) (ds : List D) : evLoop (T_upstream_Hash K) 22 (sub (codeOf Tryz.f55) [1, 1, 0, 1, 0, 0]) .go (c_upstream_Hash_0 K) rec ds = b_upstream_Hash_0 K rec ds := by kernel_rfl
theorem k_upstream_Hash_0 (K : Nat) : CutOK Tryz.prog (T_upstream_Hash K) 22 (sub (codeOf Tryz.f55) [1, 1, 0, 1, 0]) (c_upstream_Hash_0 K) :=
  loop_thm (T := T_upstream_Hash K) (hT_of hT0 rfl rfl rfl) (hes_ok (T0 := T0) (T := T_upstream_Hash K) rfl rfl (trivial : FAll Tryz.prog T0 [])) (by kernel_rfl) rfl rfl rfl (cutsOK_none (by rfl)) rfl (q_upstream_Hash_0 K)
theorem q_upstream_Hash (K : Nat) (ds : List D) : evFn (T_upstream_Hash K) Tryz.f55 (.seq .go (.seq .go (.seq (.seq .go (.blk (.cut 0))) .go))) (e_upstream_Hash K) ds = (e_upstream_Hash K).f ds := by kernel_rfl
theorem ok_upstream_Hash (K : Nat) : FnOK Tryz.prog T0 55 (e_upstream_Hash K) :=
  fn_thm (T0 := T0) (T := T_upstream_Hash K) rfl (hT_of hT0 rfl rfl rfl) (hes_ok (T0 := T0) (T := T_upstream_Hash K) rfl rfl (trivial : FAll Tryz.prog T0 [])) Tryz.func55 (by decide) rfl (Nat.le_of_ble_eq_true rfl) rfl rfl rfl (tot_none rfl) (cutsOK_list (l := [(0, sub (codeOf Tryz.f55) [1, 1, 0, 1, 0])]) (by kernel_rfl) ⟨cut_one (u := c_upstream_Hash_0 K) rfl (k_upstream_Hash_0 K), trivial⟩) (q_upstream_Hash K)
/-! ### 56 slices.Clone[[]gatewarden/api.Instance,gatewarden/api.Instance] -/
def b_slices_Clone_api_Instance_0 (K : Nat) (ds : List D) : Option (Nat × List D) :=
  let s := D.nth ds 0
  bif (lim (0 + s.list.length)) then
    some (0, [D.n s.list])
  else
    none
def c_slices_Clone_api_Instance_0 (K : Nat) : Cut := { sh := { sl := [(0, .d 26 false)], ob := [] }, kept := [], outs := [(.ret, { sl := [(2, .own 26 0)], ob := [(0, .row 55 true)] })], f := b_slices_Clone_api_Instance_0 K }
def f_slices_Clone_api_Instance (K : Nat) (s : D) : Option (List D) :=
  (b_slices_Clone_api_Instance_0 K [s]).bind fun t1 =>
  some [D.n ((D.nth t1.2 0).list)]
def e_slices_Clone_api_Instance (K : Nat) : Entry := { n := 1, sh := { sl := [(0, .d 26 false)], ob := [] }, kept := [], rs := [{ sl := [(0, .own 26 0)], ob := [(0, .row 55 true)] }], f := fun ds => f_slices_Clone_api_Instance K (D.nth ds 0), tot := none }
def T_slices_Clone_api_Instance (K : Nat) : Tbl := { T0 with ents := entsOf [], cuts := lk [(0, c_slices_Clone_api_Instance_0 K)] }
theorem q_slices_Clone_api_Instance_0 (K : Nat) (ds : List D) : evPiece (T_slices_Clone_api_Instance K) 8 (sub (codeOf Tryz.f56) [1, 1]) .go (c_slices_Clone_api_Instance_0 K) ds = b_slices_Clone_api_Instance_0 K ds := by kernel_rfl
theorem k_slices_Clone_api_Instance_0 (K : Nat) : CutOK Tryz.prog (T_slices_Clone_api_Instance K) 8 (sub (codeOf Tryz.f56) [1]) (c_slices_Clone_api_Instance_0 K) :=
  clone_thm (T := T_slices_Clone_api_Instance K) (rest := sub (codeOf Tryz.f56) [1, 1]) (hT_of hT0 rfl rfl rfl) rfl (piece_thm (T := T_slices_Clone_api_Instance K) (hT_of hT0 rfl rfl rfl) (hes_ok (T0 := T0) (T := T_slices_Clone_api_Instance K) rfl rfl (trivial : FAll Tryz.prog T0 [])) rfl rfl rfl (cutsOK_none (by rfl)) (q_slices_Clone_api_Instance_0 K)) rfl rfl rfl (fun ds out h0 h => clone_f h0 h) rfl rfl
theorem q_slices_Clone_api_Instance (K : Nat) (ds : List D) : evFn (T_slices_Clone_api_Instance K) Tryz.f56 (.seq .go (.cut 0)) (e_slices_Clone_api_Instance K) ds = (e_slices_Clone_api_Instance K).f ds := by kernel_rfl
theorem ok_slices_Clone_api_Instance (K : Nat) : FnOK Tryz.prog T0 56 (e_slices_Clone_api_Instance K) :=
  fn_thm (T0 := T0) (T := T_slices_Clone_api_Instance K) rfl (hT_of hT0 rfl rfl rfl) (hes_ok (T0 := T0) (T := T_slices_Clone_api_Instance K) rfl rfl (trivial : FAll Tryz.prog T0 [])) Tryz.func56 (by decide) rfl (Nat.le_of_ble_eq_true rfl) rfl rfl rfl (tot_none rfl) (cutsOK_list (l := [(0, sub (codeOf Tryz.f56) [1])]) (by kernel_rfl) ⟨cut_one (u := c_slices_Clone_api_Instance_0 K) rfl (k_slices_Clone_api_Instance_0 K), trivial⟩) (q_slices_Clone_api_Instance K)
/-! ### 92 math/bits.Len64 -/
def b_bits_Len64_1 (K : Nat) (ds : List D) : Option (Nat × List D) :=
  let x := D.nth ds 0
  let n := D.nth ds 1
  let s8 := D.nth ds 2
  bif s8.bool then
    some (0, [D.i (shr .u64 x.int 16), D.i (IntKind.i64.wrap (n.int + (16 : Int)))])
  else
    some (0, [x, n])
def c_bits_Len64_1 (K : Nat) : Cut := { sh := { sl := [(0, .d 76 true), (2, .d 3 true), (8, .d 4 true)], ob := [] }, kept := [], outs := [(.normal, { sl := [(0, .d 76 true), (2, .d 3 true)], ob := [] })], f := b_bits_Len64_1 K }
def b_bits_Len64_0 (K : Nat) (ds : List D) : Option (Nat × List D) :=
  let x := D.nth ds 0
  let n := D.nth ds 1
  let s4 := D.nth ds 2
  bif s4.bool then
    some (0, [D.i (shr .u64 x.int 32), D.i 32])
  else
    some (0, [x, n])
def c_bits_Len64_0 (K : Nat) : Cut := { sh := { sl := [(0, .d 76 true), (2, .d 3 true), (4, .d 4 true)], ob := [] }, kept := [], outs := [(.normal, { sl := [(0, .d 76 true), (2, .d 3 true)], ob := [] })], f := b_bits_Len64_0 K }
def f_bits_Len64 (K : Nat) (x : D) : Option (List D) :=
  (b_bits_Len64_0 K [x, D.i 0, D.b (geI x.int 4294967296)]).bind fun t1 =>
  (b_bits_Len64_1 K [D.nth t1.2 0, D.nth t1.2 1, D.b (geI ((D.nth t1.2 0).int) 65536)]).bind fun t2 =>
  bif (geI ((D.nth t2.2 0).int) 256) then
    bif (inB (IntKind.u8.wrap (shr .u64 ((D.nth t2.2 0).int) 8)) ([0, 1, 2, 2, 3, 3, 3, 3, 4, 4, 4, 4, 4, 4, 4, 4, 5, 5, 5, 5, 5, 5, 5, 5, 5, 5, 5, 5, 5, 5, 5, 5, 6, 6, 6, 6, 6, 6, 6, 6, 6, 6, 6, 6, 6, 6, 6, 6, 6, 6, 6, 6, 6, 6, 6, 6, 6, 6, 6, 6, 6, 6, 6, 6, 7, 7, 7, 7, 7, 7, 7, 7, 7, 7, 7, 7, 7, 7, 7, 7, 7, 7, 7, 7, 7, 7, 7, 7, 7, 7, 7, 7, 7, 7, 7, 7, 7, 7, 7, 7, 7, 7, 7, 7, 7, 7, 7, 7, 7, 7, 7, 7, 7, 7, 7, 7, 7, 7, 7, 7, 7, 7, 7, 7, 7, 7, 7, 7, 8, 8, 8, 8, 8, 8, 8, 8, 8, 8, 8, 8, 8, 8, 8, 8, 8, 8, 8, 8, 8, 8, 8, 8, 8, 8, 8, 8, 8, 8, 8, 8, 8, 8, 8, 8, 8, 8, 8, 8, 8, 8, 8, 8, 8, 8, 8, 8, 8, 8, 8, 8, 8, 8, 8, 8, 8, 8, 8, 8, 8, 8, 8, 8, 8, 8, 8, 8, 8, 8, 8, 8, 8, 8, 8, 8, 8, 8, 8, 8, 8, 8, 8, 8, 8, 8, 8, 8, 8, 8, 8, 8, 8, 8, 8, 8, 8, 8, 8, 8, 8, 8, 8, 8, 8, 8, 8, 8, 8, 8, 8, 8, 8, 8, 8, 8, 8, 8, 8, 8, 8, 8, 8, 8, 8, 8, 8, 8].length)) then
      some [D.i (IntKind.i64.wrap ((IntKind.i64.wrap (((D.nth t2.2 1).int) + (8 : Int))) + (IntKind.i64.wrap (byteAt [0, 1, 2, 2, 3, 3, 3, 3, 4, 4, 4, 4, 4, 4, 4, 4, 5, 5, 5, 5, 5, 5, 5, 5, 5, 5, 5, 5, 5, 5, 5, 5, 6, 6, 6, 6, 6, 6, 6, 6, 6, 6, 6, 6, 6, 6, 6, 6, 6, 6, 6, 6, 6, 6, 6, 6, 6, 6, 6, 6, 6, 6, 6, 6, 7, 7, 7, 7, 7, 7, 7, 7, 7, 7, 7, 7, 7, 7, 7, 7, 7, 7, 7, 7, 7, 7, 7, 7, 7, 7, 7, 7, 7, 7, 7, 7, 7, 7, 7, 7, 7, 7, 7, 7, 7, 7, 7, 7, 7, 7, 7, 7, 7, 7, 7, 7, 7, 7, 7, 7, 7, 7, 7, 7, 7, 7, 7, 7, 8, 8, 8, 8, 8, 8, 8, 8, 8, 8, 8, 8, 8, 8, 8, 8, 8, 8, 8, 8, 8, 8, 8, 8, 8, 8, 8, 8, 8, 8, 8, 8, 8, 8, 8, 8, 8, 8, 8, 8, 8, 8, 8, 8, 8, 8, 8, 8, 8, 8, 8, 8, 8, 8, 8, 8, 8, 8, 8, 8, 8, 8, 8, 8, 8, 8, 8, 8, 8, 8, 8, 8, 8, 8, 8, 8, 8, 8, 8, 8, 8, 8, 8, 8, 8, 8, 8, 8, 8, 8, 8, 8, 8, 8, 8, 8, 8, 8, 8, 8, 8, 8, 8, 8, 8, 8, 8, 8, 8, 8, 8, 8, 8, 8, 8, 8, 8, 8, 8, 8, 8, 8, 8, 8, 8, 8, 8, 8] ((IntKind.u8.wrap (shr .u64 ((D.nth t2.2 0).int) 8)).toNat)))))]
    else
      none
  else
    bif (inB (IntKind.u8.wrap ((D.nth t2.2 0).int)) ([0, 1, 2, 2, 3, 3, 3, 3, 4, 4, 4, 4, 4, 4, 4, 4, 5, 5, 5, 5, 5, 5, 5, 5, 5, 5, 5, 5, 5, 5, 5, 5, 6, 6, 6, 6, 6, 6, 6, 6, 6, 6, 6, 6, 6, 6, 6, 6, 6, 6, 6, 6, 6, 6, 6, 6, 6, 6, 6, 6, 6, 6, 6, 6, 7, 7, 7, 7, 7, 7, 7, 7, 7, 7, 7, 7, 7, 7, 7, 7, 7, 7, 7, 7, 7, 7, 7, 7, 7, 7, 7, 7, 7, 7, 7, 7, 7, 7, 7, 7, 7, 7, 7, 7, 7, 7, 7, 7, 7, 7, 7, 7, 7, 7, 7, 7, 7, 7, 7, 7, 7, 7, 7, 7, 7, 7, 7, 7, 8, 8, 8, 8, 8, 8, 8, 8, 8, 8, 8, 8, 8, 8, 8, 8, 8, 8, 8, 8, 8, 8, 8, 8, 8, 8, 8, 8, 8, 8, 8, 8, 8, 8, 8, 8, 8, 8, 8, 8, 8, 8, 8, 8, 8, 8, 8, 8, 8, 8, 8, 8, 8, 8, 8, 8, 8, 8, 8, 8, 8, 8, 8, 8, 8, 8, 8, 8, 8, 8, 8, 8, 8, 8, 8, 8, 8, 8, 8, 8, 8, 8, 8, 8, 8, 8, 8, 8, 8, 8, 8, 8, 8, 8, 8, 8, 8, 8, 8, 8, 8, 8, 8, 8, 8, 8, 8, 8, 8, 8, 8, 8, 8, 8, 8, 8, 8, 8, 8, 8, 8, 8, 8, 8, 8, 8, 8, 8].length)) then
      some [D.i (IntKind.i64.wrap (((D.nth t2.2 1).int) + (IntKind.i64.wrap (byteAt [0, 1, 2, 2, 3, 3, 3, 3, 4, 4, 4, 4, 4, 4, 4, 4, 5, 5, 5, 5, 5, 5, 5, 5, 5, 5, 5, 5, 5, 5, 5, 5, 6, 6, 6, 6, 6, 6, 6, 6, 6, 6, 6, 6, 6, 6, 6, 6, 6, 6, 6, 6, 6, 6, 6, 6, 6, 6, 6, 6, 6, 6, 6, 6, 7, 7, 7, 7, 7, 7, 7, 7, 7, 7, 7, 7, 7, 7, 7, 7, 7, 7, 7, 7, 7, 7, 7, 7, 7, 7, 7, 7, 7, 7, 7, 7, 7, 7, 7, 7, 7, 7, 7, 7, 7, 7, 7, 7, 7, 7, 7, 7, 7, 7, 7, 7, 7, 7, 7, 7, 7, 7, 7, 7, 7, 7, 7, 7, 8, 8, 8, 8, 8, 8, 8, 8, 8, 8, 8, 8, 8, 8, 8, 8, 8, 8, 8, 8, 8, 8, 8, 8, 8, 8, 8, 8, 8, 8, 8, 8, 8, 8, 8, 8, 8, 8, 8, 8, 8, 8, 8, 8, 8, 8, 8, 8, 8, 8, 8, 8, 8, 8, 8, 8, 8, 8, 8, 8, 8, 8, 8, 8, 8, 8, 8, 8, 8, 8, 8, 8, 8, 8, 8, 8, 8, 8, 8, 8, 8, 8, 8, 8, 8, 8, 8, 8, 8, 8, 8, 8, 8, 8, 8, 8, 8, 8, 8, 8, 8, 8, 8, 8, 8, 8, 8, 8, 8, 8, 8, 8, 8, 8, 8, 8, 8, 8, 8, 8, 8, 8, 8, 8, 8, 8, 8, 8] ((IntKind.u8.wrap ((D.nth t2.2 0).int)).toNat)))))]
    else
      none
def e_bits_Len64 (K : Nat) : Entry := { n := 1, sh := { sl := [(0, .d 76 false)], ob := [] }, kept := [], rs := [{ sl := [(0, .d 3 true)], ob := [] }], f := fun ds => f_bits_Len64 K (D.nth ds 0), tot := none }
def T_bits_Len64 (K : Nat) : Tbl := { T0 with ents := entsOf [], cuts := lk [(0, c_bits_Len64_0 K), (1, c_bits_Len64_1 K)] }
theorem q_bits_Len64_1 (K : Nat) (ds : List D) : evPiece (T_bits_Len64 K) 25 (sub (codeOf Tryz.f92) [1, 1, 0, 1]) .go (c_bits_Len64_1 K) ds = b_bits_Len64_1 K ds := by kernel_rfl
theorem k_bits_Len64_1 (K : Nat) : CutOK Tryz.prog (T_bits_Len64 K) 25 (sub (codeOf Tryz.f92) [1, 1, 0, 1]) (c_bits_Len64_1 K) :=
  piece_thm (T := T_bits_Len64 K) (hT_of hT0 rfl rfl rfl) (hes_ok (T0 := T0) (T := T_bits_Len64 K) rfl rfl (trivial : FAll Tryz.prog T0 [])) rfl rfl rfl (cutsOK_none (by rfl)) (q_bits_Len64_1 K)
theorem q_bits_Len64_0 (K : Nat) (ds : List D) : evPiece (T_bits_Len64 K) 25 (sub (codeOf Tryz.f92) [1, 0, 1]) .go (c_bits_Len64_0 K) ds = b_bits_Len64_0 K ds := by kernel_rfl
theorem k_bits_Len64_0 (K : Nat) : CutOK Tryz.prog (T_bits_Len64 K) 25 (sub (codeOf Tryz.f92) [1, 0, 1]) (c_bits_Len64_0 K) :=
  piece_thm (T := T_bits_Len64 K) (hT_of hT0 rfl rfl rfl) (hes_ok (T0 := T0) (T := T_bits_Len64 K) rfl rfl (trivial : FAll Tryz.prog T0 [])) rfl rfl rfl (cutsOK_none (by rfl)) (q_bits_Len64_0 K)
theorem q_bits_Len64 (K : Nat) (ds : List D) : evFn (T_bits_Len64 K) Tryz.f92 (.seq .go (.seq (.seq .go (.cut 0)) (.seq (.seq .go (.cut 1)) .go))) (e_bits_Len64 K) ds = (e_bits_Len64 K).f ds := by kernel_rfl
theorem ok_bits_Len64 (K : Nat) : FnOK Tryz.prog T0 92 (e_bits_Len64 K) :=
  fn_thm (T0 := T0) (T := T_bits_Len64 K) rfl (hT_of hT0 rfl rfl rfl) (hes_ok (T0 := T0) (T := T_bits_Len64 K) rfl rfl (trivial : FAll Tryz.prog T0 [])) Tryz.func92 (by decide) rfl (Nat.le_of_ble_eq_true rfl) rfl rfl rfl (tot_none rfl) (cutsOK_list (l := [(0, sub (codeOf Tryz.f92) [1, 0, 1]), (1, sub (codeOf Tryz.f92) [1, 1, 0, 1])]) (by kernel_rfl) ⟨cut_one (u := c_bits_Len64_0 K) rfl (k_bits_Len64_0 K), cut_one (u := c_bits_Len64_1 K) rfl (k_bits_Len64_1 K), trivial⟩) (q_bits_Len64 K)
/-! ### 75 math/bits.Len -/
def f_bits_Len (K : Nat) (x : D) : Option (List D) :=
  (f_bits_Len64 K x).bind fun t1 =>
  some [D.nth t1 0]
def e_bits_Len (K : Nat) : Entry := { n := 1, sh := { sl := [(0, .d 76 false)], ob := [] }, kept := [], rs := [{ sl := [(0, .d 3 true)], ob := [] }], f := fun ds => f_bits_Len K (D.nth ds 0), tot := none }
def T_bits_Len (K : Nat) : Tbl := { T0 with ents := entsOf [(92, e_bits_Len64 K)], cuts := lk [] }
theorem q_bits_Len (K : Nat) (ds : List D) : evFn (T_bits_Len K) Tryz.f75 .go (e_bits_Len K) ds = (e_bits_Len K).f ds := by kernel_rfl
theorem ok_bits_Len (K : Nat) : FnOK Tryz.prog T0 75 (e_bits_Len K) :=
  fn_thm (T0 := T0) (T := T_bits_Len K) rfl (hT_of hT0 rfl rfl rfl) (hes_ok (T0 := T0) (T := T_bits_Len K) rfl rfl (⟨ok_bits_Len64 K, trivial⟩ : FAll Tryz.prog T0 [(92, e_bits_Len64 K)])) Tryz.func75 (by decide) rfl (Nat.le_of_ble_eq_true rfl) rfl rfl rfl (tot_none rfl) (cutsOK_none (by rfl)) (q_bits_Len K)
/-! ### 76 cmp.isNaN[int] -/
def p_cmp_isNaN_int (x : D) : List D := [D.b (x.int != x.int)]
def e_cmp_isNaN_int (K : Nat) : Entry := { n := 1, sh := { sl := [(0, .d 3 false)], ob := [] }, kept := [], rs := [{ sl := [(0, .d 4 true)], ob := [] }], f := fun ds => some (p_cmp_isNaN_int (D.nth ds 0)), tot := some fun ds => p_cmp_isNaN_int (D.nth ds 0) }
def T_cmp_isNaN_int (K : Nat) : Tbl := { T0 with ents := entsOf [], cuts := lk [] }
theorem q_cmp_isNaN_int (K : Nat) (ds : List D) : evFn (T_cmp_isNaN_int K) Tryz.f76 .go (e_cmp_isNaN_int K) ds = (e_cmp_isNaN_int K).f ds := by kernel_rfl
theorem ok_cmp_isNaN_int (K : Nat) : FnOK Tryz.prog T0 76 (e_cmp_isNaN_int K) :=
  fn_thm (T0 := T0) (T := T_cmp_isNaN_int K) rfl (hT_of hT0 rfl rfl rfl) (hes_ok (T0 := T0) (T := T_cmp_isNaN_int K) rfl rfl (trivial : FAll Tryz.prog T0 [])) Tryz.func76 (by decide) rfl (Nat.le_of_ble_eq_true rfl) rfl rfl rfl (tot_some rfl fun _ => rfl) (cutsOK_none (by rfl)) (q_cmp_isNaN_int K)
/-! ### 60 cmp.Compare[int] -/
def f_cmp_Compare_int (K : Nat) (x y : D) : Option (List D) :=
  bif (D.nth (p_cmp_isNaN_int x) 0).bool then
    bif (D.nth (p_cmp_isNaN_int y) 0).bool then
      some [D.i 0]
    else
      some [D.i (-1)]
  else
    bif (D.nth (p_cmp_isNaN_int y) 0).bool then
      some [D.i 1]
    else
      bif (ltI x.int y.int) then
        some [D.i (-1)]
      else
        bif (gtI x.int y.int) then
          some [D.i 1]
        else
          some [D.i 0]
def e_cmp_Compare_int (K : Nat) : Entry := { n := 2, sh := { sl := [(0, .d 3 false), (1, .d 3 false)], ob := [] }, kept := [], rs := [{ sl := [(0, .d 3 true)], ob := [] }], f := fun ds => f_cmp_Compare_int K (D.nth ds 0) (D.nth ds 1), tot := none }
def T_cmp_Compare_int (K : Nat) : Tbl := { T0 with ents := entsOf [(76, e_cmp_isNaN_int K)], cuts := lk [] }
theorem q_cmp_Compare_int (K : Nat) (ds : List D) : evFn (T_cmp_Compare_int K) Tryz.f60 .go (e_cmp_Compare_int K) ds = (e_cmp_Compare_int K).f ds := by kernel_rfl
theorem ok_cmp_Compare_int (K : Nat) : FnOK Tryz.prog T0 60 (e_cmp_Compare_int K) :=
  fn_thm (T0 := T0) (T := T_cmp_Compare_int K) rfl (hT_of hT0 rfl rfl rfl) (hes_ok (T0 := T0) (T := T_cmp_Compare_int K) rfl rfl (⟨ok_cmp_isNaN_int K, trivial⟩ : FAll Tryz.prog T0 [(76, e_cmp_isNaN_int K)])) Tryz.func60 (by decide) rfl (Nat.le_of_ble_eq_true rfl) rfl rfl rfl (tot_none rfl) (cutsOK_none (by rfl)) (q_cmp_Compare_int K)
/-! ### 93 internal/bytealg.abigen_runtime_cmpstring -/
def p_bytealg_abigen_runtime_cmpstring (x y : D) : List D := [D.i (Lib.compareBytes x.str y.str)]
def e_bytealg_abigen_runtime_cmpstring (K : Nat) : Entry := flat2 9 9 3 (fun ds => some (p_bytealg_abigen_runtime_cmpstring (D.nth ds 0) (D.nth ds 1))) (some fun ds => p_bytealg_abigen_runtime_cmpstring (D.nth ds 0) (D.nth ds 1))
theorem ok_bytealg_abigen_runtime_cmpstring (K : Nat) : FnOK Tryz.prog T0 93 (e_bytealg_abigen_runtime_cmpstring K) :=
  cmpStr_ok (T := T0) Tryz.func93 (by kernel_rfl) (by kernel_rfl) (by kernel_rfl) (by kernel_rfl) rfl rfl rfl
/-! ### 77 internal/bytealg.CompareString -/
def p_bytealg_CompareString (a b : D) : List D := [D.nth (p_bytealg_abigen_runtime_cmpstring a b) 0]
def e_bytealg_CompareString (K : Nat) : Entry := { n := 2, sh := { sl := [(0, .d 9 false), (1, .d 9 false)], ob := [] }, kept := [], rs := [{ sl := [(0, .d 3 true)], ob := [] }], f := fun ds => some (p_bytealg_CompareString (D.nth ds 0) (D.nth ds 1)), tot := some fun ds => p_bytealg_CompareString (D.nth ds 0) (D.nth ds 1) }
def T_bytealg_CompareString (K : Nat) : Tbl := { T0 with ents := entsOf [(93, e_bytealg_abigen_runtime_cmpstring K)], cuts := lk [] }
theorem q_bytealg_CompareString (K : Nat) (ds : List D) : evFn (T_bytealg_CompareString K) Tryz.f77 .go (e_bytealg_CompareString K) ds = (e_bytealg_CompareString K).f ds := by kernel_rfl
theorem ok_bytealg_CompareString (K : Nat) : FnOK Tryz.prog T0 77 (e_bytealg_CompareString K) :=
  fn_thm (T0 := T0) (T := T_bytealg_CompareString K) rfl (hT_of hT0 rfl rfl rfl) (hes_ok (T0 := T0) (T := T_bytealg_CompareString K) rfl rfl (⟨ok_bytealg_abigen_runtime_cmpstring K, trivial⟩ : FAll Tryz.prog T0 [(93, e_bytealg_abigen_runtime_cmpstring K)])) Tryz.func77 (by decide) rfl (Nat.le_of_ble_eq_true rfl) rfl rfl rfl (tot_some rfl fun _ => rfl) (cutsOK_none (by rfl)) (q_bytealg_CompareString K)
/-! ### 61 strings.Compare -/
def p_strings_Compare (a b : D) : List D := [D.nth (p_bytealg_CompareString a b) 0]
def e_strings_Compare (K : Nat) : Entry := { n := 2, sh := { sl := [(0, .d 9 false), (1, .d 9 false)], ob := [] }, kept := [], rs := [{ sl := [(0, .d 3 true)], ob := [] }], f := fun ds => some (p_strings_Compare (D.nth ds 0) (D.nth ds 1)), tot := some fun ds => p_strings_Compare (D.nth ds 0) (D.nth ds 1) }
def T_strings_Compare (K : Nat) : Tbl := { T0 with ents := entsOf [(77, e_bytealg_CompareString K)], cuts := lk [] }
theorem q_strings_Compare (K : Nat) (ds : List D) : evFn (T_strings_Compare K) Tryz.f61 .go (e_strings_Compare K) ds = (e_strings_Compare K).f ds := by kernel_rfl
theorem ok_strings_Compare (K : Nat) : FnOK Tryz.prog T0 61 (e_strings_Compare K) :=
  fn_thm (T0 := T0) (T := T_strings_Compare K) rfl (hT_of hT0 rfl rfl rfl) (hes_ok (T0 := T0) (T := T_strings_Compare K) rfl rfl (⟨ok_bytealg_CompareString K, trivial⟩ : FAll Tryz.prog T0 [(77, e_bytealg_CompareString K)])) Tryz.func61 (by decide) rfl (Nat.le_of_ble_eq_true rfl) rfl rfl rfl (tot_some rfl fun _ => rfl) (cutsOK_none (by rfl)) (q_strings_Compare K)
/-! ### 59 cmp.Or[int] -/
def b_cmp_Or_int_0 (K : Nat) (rec : List D → Option (Nat × List D)) (ds : List D) : Option (Nat × List D) :=
  let zero := D.nth ds 0
  let s6 := D.nth ds 1
  let s7 := D.nth ds 2
  let s8 := D.nth ds 3
  bif (ltI s8.int s7.int) then
    bif (inB s8.int s6.list.length) then
      bif (((D.nth s6.list s8.int.toNat).int) != zero.int) then
        some (0, [D.nth s6.list s8.int.toNat])
      else
        rec [zero, s6, s7, D.i (IntKind.i64.wrap (s8.int + (1 : Int)))]
    else
      none
  else
    some (1, [])
def c_cmp_Or_int_0 (K : Nat) : Cut := { sh := { sl := [(3, .d 3 true), (6, .d 22 false), (7, .d 3 true), (8, .d 3 true)], ob := [] }, kept := [], outs := [(.ret, { sl := [(2, .d 3 true)], ob := [] }), (.exit 0, { sl := [], ob := [] })], f := fun ds => fixN (b_cmp_Or_int_0 K) K ds }
def f_cmp_Or_int (K : Nat) (vals : D) : Option (List D) :=
  (fixN (b_cmp_Or_int_0 K) K [D.i 0, vals, D.i (vals.list.length : Int), D.i 0]).bind fun t1 =>
  bif (t1.1.beq 0) then
    some [D.nth t1.2 0]
  else
    some [D.i 0]
def e_cmp_Or_int (K : Nat) : Entry := { n := 1, sh := { sl := [(0, .d 22 false)], ob := [] }, kept := [], rs := [{ sl := [(0, .d 3 true)], ob := [] }], f := fun ds => f_cmp_Or_int K (D.nth ds 0), tot := none }
def T_cmp_Or_int (K : Nat) : Tbl := { T0 with ents := entsOf [], cuts := lk [(0, c_cmp_Or_int_0 K)] }
theorem q_cmp_Or_int_0 (K : Nat) (rec : List D → Option (Nat × List D)) (ds : List D) : evLoop (T_cmp_Or_int K) 18 (sub (codeOf Tryz.f59) [1, 1, 0, 1, 0, 0]) .go (c_cmp_Or_int_0 K) rec ds = b_cmp_Or_int_0 K rec ds := by kernel_rfl
theorem k_cmp_Or_int_0 (K : Nat) : CutOK Tryz.prog (T_cmp_Or_int K) 18 (sub (codeOf Tryz.f59) [1, 1, 0, 1, 0]) (c_cmp_Or_int_0 K) :=
  loop_thm (T := T_cmp_Or_int K) (hT_of hT0 rfl rfl rfl) (hes_ok (T0 := T0) (T := T_cmp_Or_int K) rfl rfl (trivial : FAll Tryz.prog T0 [])) (by kernel_rfl) rfl rfl rfl (cutsOK_none (by rfl)) rfl (q_cmp_Or_int_0 K)
theorem q_cmp_Or_int (K : Nat) (ds : List D) : evFn (T_cmp_Or_int K) Tryz.f59 (.seq .go (.seq .go (.seq (.seq .go (.blk (.cut 0))) .go))) (e_cmp_Or_int K) ds = (e_cmp_Or_int K).f ds := by kernel_rfl
theorem ok_cmp_Or_int (K : Nat) : FnOK Tryz.prog T0 59 (e_cmp_Or_int K) :=
  fn_thm (T0 := T0) (T := T_cmp_Or_int K) rfl (hT_of hT0 rfl rfl rfl) (hes_ok (T0 := T0) (T := T_cmp_Or_int K) rfl rfl (trivial : FAll Tryz.prog T0 [])) Tryz.func59 (by decide) rfl (Nat.le_of_ble_eq_true rfl) rfl rfl rfl (tot_none rfl) (cutsOK_list (l := [(0, sub (codeOf Tryz.f59) [1, 1, 0, 1, 0])]) (by kernel_rfl) ⟨cut_one (u := c_cmp_Or_int_0 K) rfl (k_cmp_Or_int_0 K), trivial⟩) (q_cmp_Or_int K)
/-! ### 58 gatewarden/upstream.ordered$1 -/
def f_upstream_ordered_1 (K : Nat) (a b r1 : D) : Option (List D) :=
  (f_cmp_Compare_int K (mapGet .str (b.at' 0) r1.list) (mapGet .str (a.at' 0) r1.list)).bind fun t1 =>
  (f_cmp_Or_int K (D.n [D.nth t1 0, D.nth (p_strings_Compare (a.at' 0) (b.at' 0)) 0])).bind fun t2 =>
  some [D.nth t2 0, D.n r1.list]
def e_upstream_ordered_1 (K : Nat) : Entry := { n := 3, sh := { sl := [(0, .d 55 false), (1, .d 55 false), (2, .ptr 73 0 [])], ob := [(0, .box 73 (.own 73 1)), (1, .map 73 true)] }, kept := [0, 1], rs := [{ sl := [(0, .d 3 true)], ob := [(0, .box 73 (.own 73 1)), (1, .map 73 true)] }], f := fun ds => f_upstream_ordered_1 K (D.nth ds 0) (D.nth ds 1) (D.nth ds 2), tot := none }
def T_upstream_ordered_1 (K : Nat) : Tbl := { T0 with frz := fun s => memN [3, 4] s, ents := entsOf [(60, e_cmp_Compare_int K), (61, e_strings_Compare K), (59, e_cmp_Or_int K)], cuts := lk [] }
theorem q_upstream_ordered_1 (K : Nat) (ds : List D) : evFn (T_upstream_ordered_1 K) Tryz.f58 .go (e_upstream_ordered_1 K) ds = (e_upstream_ordered_1 K).f ds := by kernel_rfl
theorem ok_upstream_ordered_1 (K : Nat) : FnOK Tryz.prog T0 58 (e_upstream_ordered_1 K) :=
  fn_thm (T0 := T0) (T := T_upstream_ordered_1 K) rfl (hT_of hT0 rfl rfl rfl) (hes_ok (T0 := T0) (T := T_upstream_ordered_1 K) rfl rfl (⟨ok_cmp_Compare_int K, ok_strings_Compare K, ok_cmp_Or_int K, trivial⟩ : FAll Tryz.prog T0 [(60, e_cmp_Compare_int K), (61, e_strings_Compare K), (59, e_cmp_Or_int K)])) Tryz.func58 (by decide) rfl (Nat.le_of_ble_eq_true rfl) rfl rfl rfl (tot_none rfl) (cutsOK_none (by rfl)) (q_upstream_ordered_1 K)
/-! ### 83 slices.insertionSortCmpFunc[gatewarden/api.Instance] -/
def b_slices_insertionSortCmpFunc_api_Instance_2 (K : Nat) (ds : List D) : Option (Nat × List D) :=
  let a := D.nth ds 0
  let j := D.nth ds 1
  let r0 := D.nth ds 2
  let r2 := D.nth ds 3
  bif ((!(gtI j.int a.int)) || (inB j.int r0.list.length)) then
    bif ((!(gtI j.int a.int)) || (inB (IntKind.i64.wrap (j.int - (1 : Int))) r0.list.length)) then
      bif (gtI j.int a.int) then
        (f_upstream_ordered_1 K (D.nth r0.list j.int.toNat) (D.nth r0.list ((IntKind.i64.wrap (j.int - (1 : Int))).toNat)) (D.n r2.list)).bind fun t1 =>
        some (0, [D.b (ltI ((D.nth t1 0).int) 0), D.n r0.list, D.n ((D.nth t1 1).list)])
      else
        some (0, [D.b false, D.n r0.list, D.n r2.list])
    else
      none
  else
    none
def c_slices_insertionSortCmpFunc_api_Instance_2 (K : Nat) : Cut := { sh := { sl := [(0, .own 26 0), (1, .d 3 true), (3, .fn 58 [.ptr 73 1 []]), (9, .d 3 true)], ob := [(0, .row 55 true), (1, .box 73 (.own 73 2)), (2, .map 73 true)] }, kept := [0, 1, 2], outs := [(.normal, { sl := [(34, .d 4 true)], ob := [(0, .row 55 true), (1, .box 73 (.own 73 2)), (2, .map 73 true)] })], f := b_slices_insertionSortCmpFunc_api_Instance_2 K }
def b_slices_insertionSortCmpFunc_api_Instance_1 (K : Nat) (rec : List D → Option (Nat × List D)) (ds : List D) : Option (Nat × List D) :=
  let a := D.nth ds 0
  let j := D.nth ds 1
  let r0 := D.nth ds 2
  let r2 := D.nth ds 3
  (b_slices_insertionSortCmpFunc_api_Instance_2 K [a, j, D.n r0.list, D.n r2.list]).bind fun t1 =>
  bif (D.nth t1.2 0).bool then
    bif (inB (IntKind.i64.wrap (j.int - (1 : Int))) (((D.nth t1.2 1).list).length)) then
      bif (inB j.int (((D.nth t1.2 1).list).length)) then
        bif (inB j.int (((D.nth t1.2 1).list).length)) then
          bif (inB (IntKind.i64.wrap (j.int - (1 : Int))) ((D.setNth ((D.nth t1.2 1).list) j.int.toNat (D.nth ((D.nth t1.2 1).list) ((IntKind.i64.wrap (j.int - (1 : Int))).toNat))).length)) then
            rec [a, D.i (IntKind.i64.wrap (j.int - (1 : Int))), D.n (D.setNth (D.setNth ((D.nth t1.2 1).list) j.int.toNat (D.nth ((D.nth t1.2 1).list) ((IntKind.i64.wrap (j.int - (1 : Int))).toNat))) ((IntKind.i64.wrap (j.int - (1 : Int))).toNat) (D.nth ((D.nth t1.2 1).list) j.int.toNat)), D.n ((D.nth t1.2 2).list)]
          else
            none
        else
          none
      else
        none
    else
      none
  else
    some (0, [D.n ((D.nth t1.2 1).list), D.n ((D.nth t1.2 2).list)])
def c_slices_insertionSortCmpFunc_api_Instance_1 (K : Nat) : Cut := { sh := { sl := [(0, .own 26 0), (1, .d 3 true), (3, .fn 58 [.ptr 73 1 []]), (9, .d 3 true)], ob := [(0, .row 55 true), (1, .box 73 (.own 73 2)), (2, .map 73 true)] }, kept := [0, 1, 2], outs := [(.exit 2, { sl := [], ob := [(0, .row 55 true), (1, .box 73 (.own 73 2)), (2, .map 73 true)] })], f := fun ds => fixN (b_slices_insertionSortCmpFunc_api_Instance_1 K) K ds }
def b_slices_insertionSortCmpFunc_api_Instance_0 (K : Nat) (rec : List D → Option (Nat × List D)) (ds : List D) : Option (Nat × List D) :=
  let a := D.nth ds 0
  let b := D.nth ds 1
  let i := D.nth ds 2
  let r0 := D.nth ds 3
  let r2 := D.nth ds 4
  bif (ltI i.int b.int) then
    (fixN (b_slices_insertionSortCmpFunc_api_Instance_1 K) K [a, i, D.n r0.list, D.n r2.list]).bind fun t1 =>
    rec [a, b, D.i (IntKind.i64.wrap (i.int + (1 : Int))), D.n ((D.nth t1.2 0).list), D.n ((D.nth t1.2 1).list)]
  else
    some (0, [D.n r0.list, D.n r2.list])
def c_slices_insertionSortCmpFunc_api_Instance_0 (K : Nat) : Cut := { sh := { sl := [(0, .own 26 0), (1, .d 3 true), (2, .d 3 true), (3, .fn 58 [.ptr 73 1 []]), (8, .d 3 true)], ob := [(0, .row 55 true), (1, .box 73 (.own 73 2)), (2, .map 73 true)] }, kept := [0, 1, 2], outs := [(.exit 0, { sl := [], ob := [(0, .row 55 true), (1, .box 73 (.own 73 2)), (2, .map 73 true)] })], f := fun ds => fixN (b_slices_insertionSortCmpFunc_api_Instance_0 K) K ds }
def f_slices_insertionSortCmpFunc_api_Instance (K : Nat) (a b r0 r2 : D) : Option (List D) :=
  (fixN (b_slices_insertionSortCmpFunc_api_Instance_0 K) K [a, b, D.i (IntKind.i64.wrap (a.int + (1 : Int))), D.n r0.list, D.n r2.list]).bind fun t1 =>
  some [D.n ((D.nth t1.2 0).list), D.n ((D.nth t1.2 1).list)]
def e_slices_insertionSortCmpFunc_api_Instance (K : Nat) : Entry := { n := 4, sh := { sl := [(0, .own 26 0), (1, .d 3 false), (2, .d 3 false), (3, .fn 58 [.ptr 73 1 []])], ob := [(0, .row 55 true), (1, .box 73 (.own 73 2)), (2, .map 73 true)] }, kept := [0, 1, 2], rs := [{ sl := [(0, .tup [])], ob := [(0, .row 55 true), (1, .box 73 (.own 73 2)), (2, .map 73 true)] }], f := fun ds => f_slices_insertionSortCmpFunc_api_Instance K (D.nth ds 0) (D.nth ds 1) (D.nth ds 2) (D.nth ds 3), tot := none }
def T_slices_insertionSortCmpFunc_api_Instance (K : Nat) : Tbl := { T0 with ents := entsOf [(58, e_upstream_ordered_1 K)], cuts := lk [(0, c_slices_insertionSortCmpFunc_api_Instance_0 K), (1, c_slices_insertionSortCmpFunc_api_Instance_1 K), (2, c_slices_insertionSortCmpFunc_api_Instance_2 K)] }
theorem q_slices_insertionSortCmpFunc_api_Instance_2 (K : Nat) (ds : List D) : evPiece (T_slices_insertionSortCmpFunc_api_Instance K) 53 (sub (codeOf Tryz.f83) [1, 0, 0, 1, 0, 0, 1, 0, 0, 0, 0]) .go (c_slices_insertionSortCmpFunc_api_Instance_2 K) ds = b_slices_insertionSortCmpFunc_api_Instance_2 K ds := by kernel_rfl
theorem k_slices_insertionSortCmpFunc_api_Instance_2 (K : Nat) : CutOK Tryz.prog (T_slices_insertionSortCmpFunc_api_Instance K) 53 (sub (codeOf Tryz.f83) [1, 0, 0, 1, 0, 0, 1, 0, 0, 0, 0]) (c_slices_insertionSortCmpFunc_api_Instance_2 K) :=
  piece_thm (T := T_slices_insertionSortCmpFunc_api_Instance K) (hT_of hT0 rfl rfl rfl) (hes_ok (T0 := T0) (T := T_slices_insertionSortCmpFunc_api_Instance K) rfl rfl (⟨ok_upstream_ordered_1 K, trivial⟩ : FAll Tryz.prog T0 [(58, e_upstream_ordered_1 K)])) rfl rfl rfl (cutsOK_none (by rfl)) (q_slices_insertionSortCmpFunc_api_Instance_2 K)
theorem q_slices_insertionSortCmpFunc_api_Instance_1 (K : Nat) (rec : List D → Option (Nat × List D)) (ds : List D) : evLoop (T_slices_insertionSortCmpFunc_api_Instance K) 53 (sub (codeOf Tryz.f83) [1, 0, 0, 1, 0, 0, 1, 0, 0]) (.seq (.seq (.cut 2) .go) .go) (c_slices_insertionSortCmpFunc_api_Instance_1 K) rec ds = b_slices_insertionSortCmpFunc_api_Instance_1 K rec ds := by kernel_rfl
theorem k_slices_insertionSortCmpFunc_api_Instance_1 (K : Nat) : CutOK Tryz.prog (T_slices_insertionSortCmpFunc_api_Instance K) 53 (sub (codeOf Tryz.f83) [1, 0, 0, 1, 0, 0, 1, 0]) (c_slices_insertionSortCmpFunc_api_Instance_1 K) :=
  loop_thm (T := T_slices_insertionSortCmpFunc_api_Instance K) (hT_of hT0 rfl rfl rfl) (hes_ok (T0 := T0) (T := T_slices_insertionSortCmpFunc_api_Instance K) rfl rfl (⟨ok_upstream_ordered_1 K, trivial⟩ : FAll Tryz.prog T0 [(58, e_upstream_ordered_1 K)])) (by kernel_rfl) rfl rfl rfl (cutsOK_list (l := [(2, sub (codeOf Tryz.f83) [1, 0, 0, 1, 0, 0, 1, 0, 0, 0, 0])]) (by kernel_rfl) ⟨cut_one (u := c_slices_insertionSortCmpFunc_api_Instance_2 K) rfl (k_slices_insertionSortCmpFunc_api_Instance_2 K), trivial⟩) rfl (q_slices_insertionSortCmpFunc_api_Instance_1 K)
theorem q_slices_insertionSortCmpFunc_api_Instance_0 (K : Nat) (rec : List D → Option (Nat × List D)) (ds : List D) : evLoop (T_slices_insertionSortCmpFunc_api_Instance K) 53 (sub (codeOf Tryz.f83) [1, 0, 0]) (.seq .go (.seq (.blk (.seq .go (.blk (.cut 1)))) .go)) (c_slices_insertionSortCmpFunc_api_Instance_0 K) rec ds = b_slices_insertionSortCmpFunc_api_Instance_0 K rec ds := by kernel_rfl
theorem k_slices_insertionSortCmpFunc_api_Instance_0 (K : Nat) : CutOK Tryz.prog (T_slices_insertionSortCmpFunc_api_Instance K) 53 (sub (codeOf Tryz.f83) [1, 0]) (c_slices_insertionSortCmpFunc_api_Instance_0 K) :=
  loop_thm (T := T_slices_insertionSortCmpFunc_api_Instance K) (hT_of hT0 rfl rfl rfl) (hes_ok (T0 := T0) (T := T_slices_insertionSortCmpFunc_api_Instance K) rfl rfl (⟨ok_upstream_ordered_1 K, trivial⟩ : FAll Tryz.prog T0 [(58, e_upstream_ordered_1 K)])) (by kernel_rfl) rfl rfl rfl (cutsOK_list (l := [(1, sub (codeOf Tryz.f83) [1, 0, 0, 1, 0, 0, 1, 0])]) (by kernel_rfl) ⟨cut_one (u := c_slices_insertionSortCmpFunc_api_Instance_1 K) rfl (k_slices_insertionSortCmpFunc_api_Instance_1 K), trivial⟩) rfl (q_slices_insertionSortCmpFunc_api_Instance_0 K)
theorem q_slices_insertionSortCmpFunc_api_Instance (K : Nat) (ds : List D) : evFn (T_slices_insertionSortCmpFunc_api_Instance K) Tryz.f83 (.seq .go (.blk (.cut 0))) (e_slices_insertionSortCmpFunc_api_Instance K) ds = (e_slices_insertionSortCmpFunc_api_Instance K).f ds := by kernel_rfl
theorem ok_slices_insertionSortCmpFunc_api_Instance (K : Nat) : FnOK Tryz.prog T0 83 (e_slices_insertionSortCmpFunc_api_Instance K) :=
  fn_thm (T0 := T0) (T := T_slices_insertionSortCmpFunc_api_Instance K) rfl (hT_of hT0 rfl rfl rfl) (hes_ok (T0 := T0) (T := T_slices_insertionSortCmpFunc_api_Instance K) rfl rfl (⟨ok_upstream_ordered_1 K, trivial⟩ : FAll Tryz.prog T0 [(58, e_upstream_ordered_1 K)])) Tryz.func83 (by decide) rfl (Nat.le_of_ble_eq_true rfl) rfl rfl rfl (tot_none rfl) (cutsOK_list (l := [(0, sub (codeOf Tryz.f83) [1, 0])]) (by kernel_rfl) ⟨cut_one (u := c_slices_insertionSortCmpFunc_api_Instance_0 K) rfl (k_slices_insertionSortCmpFunc_api_Instance_0 K), trivial⟩) (q_slices_insertionSortCmpFunc_api_Instance K)
/-! ### 74 slices.pdqsortCmpFunc[gatewarden/api.Instance] -/
def b_slices_pdqsortCmpFunc_api_Instance_1 (K : Nat) (ds : List D) : Option (Nat × List D) :=
  let limit := D.nth ds 2
  let s39 := D.nth ds 3
  let r0 := D.nth ds 4
  let r2 := D.nth ds 5
  bif s39.bool then
    none
  else
    some (0, [limit, D.n r0.list, D.n r2.list])
def c_slices_pdqsortCmpFunc_api_Instance_1 (K : Nat) : Cut := { sh := { sl := [(0, .own 26 0), (1, .d 3 true), (2, .d 3 true), (3, .d 3 true), (4, .fn 58 [.ptr 73 1 []]), (39, .d 4 true)], ob := [(0, .row 55 true), (1, .box 73 (.own 73 2)), (2, .map 73 true)] }, kept := [0, 1, 2], outs := [(.normal, { sl := [(3, .d 3 true)], ob := [(0, .row 55 true), (1, .box 73 (.own 73 2)), (2, .map 73 true)] })], f := b_slices_pdqsortCmpFunc_api_Instance_1 K }
def b_slices_pdqsortCmpFunc_api_Instance_0 (K : Nat) (rec : List D → Option (Nat × List D)) (ds : List D) : Option (Nat × List D) :=
  let a := D.nth ds 0
  let b := D.nth ds 1
  let limit := D.nth ds 2
  let wasBalanced := D.nth ds 3
  let r0 := D.nth ds 5
  let r2 := D.nth ds 6
  bif (leI (IntKind.i64.wrap (b.int - a.int)) 12) then
    (f_slices_insertionSortCmpFunc_api_Instance K a b (D.n r0.list) (D.n r2.list)).bind fun t1 =>
    some (0, [D.n ((D.nth t1 0).list), D.n ((D.nth t1 1).list)])
  else
    bif (limit.int == (0 : Int)) then
      none
    else
      (b_slices_pdqsortCmpFunc_api_Instance_1 K [a, b, limit, D.b (!wasBalanced.bool), D.n r0.list, D.n r2.list]).bind fun t2 =>
      none
def c_slices_pdqsortCmpFunc_api_Instance_0 (K : Nat) : Cut := { sh := { sl := [(0, .own 26 0), (1, .d 3 true), (2, .d 3 true), (3, .d 3 true), (4, .fn 58 [.ptr 73 1 []]), (10, .d 4 true), (11, .d 4 true)], ob := [(0, .row 55 true), (1, .box 73 (.own 73 2)), (2, .map 73 true)] }, kept := [0, 1, 2], outs := [(.ret, { sl := [], ob := [(0, .row 55 true), (1, .box 73 (.own 73 2)), (2, .map 73 true)] })], f := fun ds => fixN (b_slices_pdqsortCmpFunc_api_Instance_0 K) K ds }
def f_slices_pdqsortCmpFunc_api_Instance (K : Nat) (a b limit r0 r2 : D) : Option (List D) :=
  (fixN (b_slices_pdqsortCmpFunc_api_Instance_0 K) K [a, b, limit, D.b true, D.b true, D.n r0.list, D.n r2.list]).bind fun t1 =>
  some [D.n ((D.nth t1.2 0).list), D.n ((D.nth t1.2 1).list)]
def e_slices_pdqsortCmpFunc_api_Instance (K : Nat) : Entry := { n := 5, sh := { sl := [(0, .own 26 0), (1, .d 3 false), (2, .d 3 false), (3, .d 3 false), (4, .fn 58 [.ptr 73 1 []])], ob := [(0, .row 55 true), (1, .box 73 (.own 73 2)), (2, .map 73 true)] }, kept := [0, 1, 2], rs := [{ sl := [(0, .tup [])], ob := [(0, .row 55 true), (1, .box 73 (.own 73 2)), (2, .map 73 true)] }], f := fun ds => f_slices_pdqsortCmpFunc_api_Instance K (D.nth ds 0) (D.nth ds 1) (D.nth ds 2) (D.nth ds 3) (D.nth ds 4), tot := none }
def T_slices_pdqsortCmpFunc_api_Instance (K : Nat) : Tbl := { T0 with ents := entsOf [(83, e_slices_insertionSortCmpFunc_api_Instance K)], cuts := lk [(0, c_slices_pdqsortCmpFunc_api_Instance_0 K), (1, c_slices_pdqsortCmpFunc_api_Instance_1 K)] }
theorem q_slices_pdqsortCmpFunc_api_Instance_1 (K : Nat) (ds : List D) : evPiece (T_slices_pdqsortCmpFunc_api_Instance K) 148 (sub (codeOf Tryz.f74) [1, 1, 0, 0, 0, 1, 1, 1, 0, 1]) .go (c_slices_pdqsortCmpFunc_api_Instance_1 K) ds = b_slices_pdqsortCmpFunc_api_Instance_1 K ds := by kernel_rfl
theorem k_slices_pdqsortCmpFunc_api_Instance_1 (K : Nat) : CutOK Tryz.prog (T_slices_pdqsortCmpFunc_api_Instance K) 148 (sub (codeOf Tryz.f74) [1, 1, 0, 0, 0, 1, 1, 1, 0, 1]) (c_slices_pdqsortCmpFunc_api_Instance_1 K) :=
  piece_thm (T := T_slices_pdqsortCmpFunc_api_Instance K) (hT_of hT0 rfl rfl rfl) (hes_ok (T0 := T0) (T := T_slices_pdqsortCmpFunc_api_Instance K) rfl rfl (⟨ok_slices_insertionSortCmpFunc_api_Instance K, trivial⟩ : FAll Tryz.prog T0 [(83, e_slices_insertionSortCmpFunc_api_Instance K)])) rfl rfl rfl (cutsOK_none (by rfl)) (q_slices_pdqsortCmpFunc_api_Instance_1 K)
theorem q_slices_pdqsortCmpFunc_api_Instance_0 (K : Nat) (rec : List D → Option (Nat × List D)) (ds : List D) : evLoop (T_slices_pdqsortCmpFunc_api_Instance K) 148 (sub (codeOf Tryz.f74) [1, 1, 0, 0]) (.blk (.seq .go (.seq .go (.seq .go (.seq (.seq .go (.cut 1)) (.seq .go (.seq (.seq .go (.cut 2)) (.seq (.seq .go (.cut 3)) (.seq (.seq (.cut 4) .go) .go))))))))) (c_slices_pdqsortCmpFunc_api_Instance_0 K) rec ds = b_slices_pdqsortCmpFunc_api_Instance_0 K rec ds := by kernel_rfl
theorem k_slices_pdqsortCmpFunc_api_Instance_0 (K : Nat) : CutOK Tryz.prog (T_slices_pdqsortCmpFunc_api_Instance K) 148 (sub (codeOf Tryz.f74) [1, 1, 0]) (c_slices_pdqsortCmpFunc_api_Instance_0 K) :=
  loop_thm (T := T_slices_pdqsortCmpFunc_api_Instance K) (hT_of hT0 rfl rfl rfl) (hes_ok (T0 := T0) (T := T_slices_pdqsortCmpFunc_api_Instance K) rfl rfl (⟨ok_slices_insertionSortCmpFunc_api_Instance K, trivial⟩ : FAll Tryz.prog T0 [(83, e_slices_insertionSortCmpFunc_api_Instance K)])) (by kernel_rfl) rfl rfl rfl (cutsOK_list (l := [(1, sub (codeOf Tryz.f74) [1, 1, 0, 0, 0, 1, 1, 1, 0, 1]), (2, sub (codeOf Tryz.f74) [1, 1, 0, 0, 0, 1, 1, 1, 1, 1, 0, 1]), (3, sub (codeOf Tryz.f74) [1, 1, 0, 0, 0, 1, 1, 1, 1, 1, 1, 0, 1]), (4, sub (codeOf Tryz.f74) [1, 1, 0, 0, 0, 1, 1, 1, 1, 1, 1, 1, 0, 0])]) (by kernel_rfl) ⟨cut_one (u := c_slices_pdqsortCmpFunc_api_Instance_1 K) rfl (k_slices_pdqsortCmpFunc_api_Instance_1 K), cut_no rfl, cut_no rfl, cut_no rfl, trivial⟩) rfl (q_slices_pdqsortCmpFunc_api_Instance_0 K)
theorem q_slices_pdqsortCmpFunc_api_Instance (K : Nat) (ds : List D) : evFn (T_slices_pdqsortCmpFunc_api_Instance K) Tryz.f74 (.seq .go (.seq .go (.blk (.cut 0)))) (e_slices_pdqsortCmpFunc_api_Instance K) ds = (e_slices_pdqsortCmpFunc_api_Instance K).f ds := by kernel_rfl
theorem ok_slices_pdqsortCmpFunc_api_Instance (K : Nat) : FnOK Tryz.prog T0 74 (e_slices_pdqsortCmpFunc_api_Instance K) :=
  fn_thm (T0 := T0) (T := T_slices_pdqsortCmpFunc_api_Instance K) rfl (hT_of hT0 rfl rfl rfl) (hes_ok (T0 := T0) (T := T_slices_pdqsortCmpFunc_api_Instance K) rfl rfl (⟨ok_slices_insertionSortCmpFunc_api_Instance K, trivial⟩ : FAll Tryz.prog T0 [(83, e_slices_insertionSortCmpFunc_api_Instance K)])) Tryz.func74 (by decide) rfl (Nat.le_of_ble_eq_true rfl) rfl rfl rfl (tot_none rfl) (cutsOK_list (l := [(0, sub (codeOf Tryz.f74) [1, 1, 0])]) (by kernel_rfl) ⟨cut_one (u := c_slices_pdqsortCmpFunc_api_Instance_0 K) rfl (k_slices_pdqsortCmpFunc_api_Instance_0 K), trivial⟩) (q_slices_pdqsortCmpFunc_api_Instance K)
/-! ### 57 slices.SortFunc[[]gatewarden/api.Instance,gatewarden/api.Instance] -/
def f_slices_SortFunc_api_Instance (K : Nat) (r0 r2 : D) : Option (List D) :=
  (f_bits_Len K (D.i (IntKind.u64.wrap (r0.list.length : Int)))).bind fun t1 =>
  (f_slices_pdqsortCmpFunc_api_Instance K (D.i 0) (D.i (r0.list.length : Int)) (D.nth t1 0) (D.n r0.list) (D.n r2.list)).bind fun t2 =>
  some [D.n ((D.nth t2 0).list), D.n ((D.nth t2 1).list)]
def e_slices_SortFunc_api_Instance (K : Nat) : Entry := { n := 2, sh := { sl := [(0, .own 26 0), (1, .fn 58 [.ptr 73 1 []])], ob := [(0, .row 55 true), (1, .box 73 (.own 73 2)), (2, .map 73 true)] }, kept := [0, 1, 2], rs := [{ sl := [(0, .tup [])], ob := [(0, .row 55 true), (1, .box 73 (.own 73 2)), (2, .map 73 true)] }], f := fun ds => f_slices_SortFunc_api_Instance K (D.nth ds 0) (D.nth ds 1), tot := none }
def T_slices_SortFunc_api_Instance (K : Nat) : Tbl := { T0 with ents := entsOf [(75, e_bits_Len K), (74, e_slices_pdqsortCmpFunc_api_Instance K)], cuts := lk [] }
theorem q_slices_SortFunc_api_Instance (K : Nat) (ds : List D) : evFn (T_slices_SortFunc_api_Instance K) Tryz.f57 .go (e_slices_SortFunc_api_Instance K) ds = (e_slices_SortFunc_api_Instance K).f ds := by kernel_rfl
theorem ok_slices_SortFunc_api_Instance (K : Nat) : FnOK Tryz.prog T0 57 (e_slices_SortFunc_api_Instance K) :=
  fn_thm (T0 := T0) (T := T_slices_SortFunc_api_Instance K) rfl (hT_of hT0 rfl rfl rfl) (hes_ok (T0 := T0) (T := T_slices_SortFunc_api_Instance K) rfl rfl (⟨ok_bits_Len K, ok_slices_pdqsortCmpFunc_api_Instance K, trivial⟩ : FAll Tryz.prog T0 [(75, e_bits_Len K), (74, e_slices_pdqsortCmpFunc_api_Instance K)])) Tryz.func57 (by decide) rfl (Nat.le_of_ble_eq_true rfl) rfl rfl rfl (tot_none rfl) (cutsOK_none (by rfl)) (q_slices_SortFunc_api_Instance K)
/-! ### 33 gatewarden/upstream.ordered -/
def b_upstream_ordered_0 (K : Nat) (rec : List D → Option (Nat × List D)) (ds : List D) : Option (Nat × List D) :=
  let key := D.nth ds 0
  let s9 := D.nth ds 1
  let s10 := D.nth ds 2
  let s11 := D.nth ds 3
  let r1 := D.nth ds 4
  bif (ltI s11.int s10.int) then
    bif (inB s11.int s9.list.length) then
      bif (lim (key.str.length + [0].length)) then
        bif (lim ((key.str ++ [0]).length + (((D.nth s9.list s11.int.toNat).at' 0).str).length)) then
          (f_upstream_Hash K (D.s ((key.str ++ [0]) ++ (((D.nth s9.list s11.int.toNat).at' 0).str)))).bind fun t1 =>
          rec [key, s9, s10, D.i (IntKind.i64.wrap (s11.int + (1 : Int))), D.n (mapSet .str ((D.nth s9.list s11.int.toNat).at' 0) (D.i (IntKind.i64.wrap ((IntKind.i64.wrap (Int.tmod ((D.nth t1 0).int) (1000003 : Int))) * (((D.nth s9.list s11.int.toNat).at' 1).int)))) r1.list)]
        else
          none
      else
        none
    else
      none
  else
    some (0, [D.n r1.list])
def c_upstream_ordered_0 (K : Nat) : Cut := { sh := { sl := [(1, .d 9 true), (5, .ptr 73 0 []), (9, .d 26 false), (10, .d 3 true), (11, .d 3 true)], ob := [(0, .box 73 (.own 73 1)), (1, .map 73 true)] }, kept := [0, 1], outs := [(.exit 0, { sl := [], ob := [(0, .box 73 (.own 73 1)), (1, .map 73 true)] })], f := fun ds => fixN (b_upstream_ordered_0 K) K ds }
def f_upstream_ordered (K : Nat) (l key : D) : Option (List D) :=
  (fixN (b_upstream_ordered_0 K) K [key, l, D.i (l.list.length : Int), D.i 0, D.n []]).bind fun t1 =>
  (f_slices_Clone_api_Instance K l).bind fun t2 =>
  (f_slices_SortFunc_api_Instance K (D.n ((D.nth t2 0).list)) (D.n ((D.nth t1.2 0).list))).bind fun t3 =>
  some [D.n ((D.nth t3 0).list)]
def e_upstream_ordered (K : Nat) : Entry := { n := 2, sh := { sl := [(0, .d 26 false), (1, .d 9 false)], ob := [] }, kept := [], rs := [{ sl := [(0, .own 26 0)], ob := [(0, .row 55 true)] }], f := fun ds => f_upstream_ordered K (D.nth ds 0) (D.nth ds 1), tot := none }
def T_upstream_ordered (K : Nat) : Tbl := { T0 with ents := entsOf [(55, e_upstream_Hash K), (56, e_slices_Clone_api_Instance K), (57, e_slices_SortFunc_api_Instance K)], cuts := lk [(0, c_upstream_ordered_0 K)] }
theorem q_upstream_ordered_0 (K : Nat) (rec : List D → Option (Nat × List D)) (ds : List D) : evLoop (T_upstream_ordered K) 36 (sub (codeOf Tryz.f33) [1, 1, 0, 1, 0, 0]) .go (c_upstream_ordered_0 K) rec ds = b_upstream_ordered_0 K rec ds := by kernel_rfl
theorem k_upstream_ordered_0 (K : Nat) : CutOK Tryz.prog (T_upstream_ordered K) 36 (sub (codeOf Tryz.f33) [1, 1, 0, 1, 0]) (c_upstream_ordered_0 K) :=
  loop_thm (T := T_upstream_ordered K) (hT_of hT0 rfl rfl rfl) (hes_ok (T0 := T0) (T := T_upstream_ordered K) rfl rfl (⟨ok_upstream_Hash K, ok_slices_Clone_api_Instance K, ok_slices_SortFunc_api_Instance K, trivial⟩ : FAll Tryz.prog T0 [(55, e_upstream_Hash K), (56, e_slices_Clone_api_Instance K), (57, e_slices_SortFunc_api_Instance K)])) (by kernel_rfl) rfl rfl rfl (cutsOK_none (by rfl)) rfl (q_upstream_ordered_0 K)
theorem q_upstream_ordered (K : Nat) (ds : List D) : evFn (T_upstream_ordered K) Tryz.f33 (.seq .go (.seq .go (.seq (.seq .go (.blk (.cut 0))) .go))) (e_upstream_ordered K) ds = (e_upstream_ordered K).f ds := by kernel_rfl
theorem ok_upstream_ordered (K : Nat) : FnOK Tryz.prog T0 33 (e_upstream_ordered K) :=
  fn_thm (T0 := T0) (T := T_upstream_ordered K) rfl (hT_of hT0 rfl rfl rfl) (hes_ok (T0 := T0) (T := T_upstream_ordered K) rfl rfl (⟨ok_upstream_Hash K, ok_slices_Clone_api_Instance K, ok_slices_SortFunc_api_Instance K, trivial⟩ : FAll Tryz.prog T0 [(55, e_upstream_Hash K), (56, e_slices_Clone_api_Instance K), (57, e_slices_SortFunc_api_Instance K)])) Tryz.func33 (by decide) rfl (Nat.le_of_ble_eq_true rfl) rfl rfl rfl (tot_none rfl) (cutsOK_list (l := [(0, sub (codeOf Tryz.f33) [1, 1, 0, 1, 0])]) (by kernel_rfl) ⟨cut_one (u := c_upstream_ordered_0 K) rfl (k_upstream_ordered_0 K), trivial⟩) (q_upstream_ordered K)
/-! ### 9 gatewarden/upstream.Order -/
def b_upstream_Order_0 (K : Nat) (rec : List D → Option (Nat × List D)) (ds : List D) : Option (Nat × List D) :=
  let s24 := D.nth ds 0
  let s25 := D.nth ds 1
  let r0 := D.nth ds 2
  let r1 := D.nth ds 3
  bif (ltI s25.int s24.int) then
    bif (inB s25.int r0.list.length) then
      bif (lim (r1.list.length + 1)) then
        rec [s24, D.i (IntKind.i64.wrap (s25.int + (1 : Int))), D.n r0.list, D.n (r1.list ++ [(D.nth r0.list s25.int.toNat).at' 0])]
      else
        none
    else
      none
  else
    some (0, [D.n r0.list, D.n r1.list])
def c_upstream_Order_0 (K : Nat) : Cut := { sh := { sl := [(8, .own 32 1), (23, .own 26 0), (24, .d 3 true), (25, .d 3 true)], ob := [(0, .row 55 true), (1, .row 9 true)] }, kept := [0], outs := [(.exit 0, { sl := [(8, .own 32 1)], ob := [(0, .row 55 true), (1, .row 9 true)] })], f := fun ds => fixN (b_upstream_Order_0 K) K ds }
def f_upstream_Order (K : Nat) (l key : D) : Option (List D) :=
  (f_upstream_CheckInstances K l).bind fun t1 =>
  bif (((D.nth t1 0).int) != (0 : Int)) then
    some [D.nth t1 0, D.n []]
  else
    (f_upstream_keyFault K key).bind fun t2 =>
    bif (((D.nth t2 0).int) != (0 : Int)) then
      some [D.nth t2 0, D.n []]
    else
      (f_upstream_ordered K l key).bind fun t3 =>
      (fixN (b_upstream_Order_0 K) K [D.i (((D.nth t3 0).list).length : Int), D.i 0, D.n ((D.nth t3 0).list), D.n []]).bind fun t4 =>
      some [D.i 0, D.n ((D.nth t4.2 1).list)]
def e_upstream_Order (K : Nat) : Entry := { n := 2, sh := { sl := [(0, .d 26 false), (1, .d 9 false)], ob := [] }, kept := [], rs := [{ sl := [(0, .tup [.own 32 0, .d 33 true])], ob := [(0, .row 9 true)] }], f := fun ds => f_upstream_Order K (D.nth ds 0) (D.nth ds 1), tot := none }
def T_upstream_Order (K : Nat) : Tbl := { T0 with ents := entsOf [(29, e_upstream_CheckInstances K), (32, e_upstream_keyFault K), (33, e_upstream_ordered K)], cuts := lk [(0, c_upstream_Order_0 K)] }
theorem q_upstream_Order_0 (K : Nat) (rec : List D → Option (Nat × List D)) (ds : List D) : evLoop (T_upstream_Order K) 36 (sub (codeOf Tryz.f9) [1, 1, 1, 1, 0, 1, 0, 0]) .go (c_upstream_Order_0 K) rec ds = b_upstream_Order_0 K rec ds := by kernel_rfl
theorem k_upstream_Order_0 (K : Nat) : CutOK Tryz.prog (T_upstream_Order K) 36 (sub (codeOf Tryz.f9) [1, 1, 1, 1, 0, 1, 0]) (c_upstream_Order_0 K) :=
  loop_thm (T := T_upstream_Order K) (hT_of hT0 rfl rfl rfl) (hes_ok (T0 := T0) (T := T_upstream_Order K) rfl rfl (⟨ok_upstream_CheckInstances K, ok_upstream_keyFault K, ok_upstream_ordered K, trivial⟩ : FAll Tryz.prog T0 [(29, e_upstream_CheckInstances K), (32, e_upstream_keyFault K), (33, e_upstream_ordered K)])) (by kernel_rfl) rfl rfl rfl (cutsOK_none (by rfl)) rfl (q_upstream_Order_0 K)
theorem q_upstream_Order (K : Nat) (ds : List D) : evFn (T_upstream_Order K) Tryz.f9 (.seq .go (.seq .go (.seq .go (.seq .go (.seq (.seq .go (.blk (.cut 0))) .go))))) (e_upstream_Order K) ds = (e_upstream_Order K).f ds := by kernel_rfl
theorem ok_upstream_Order (K : Nat) : FnOK Tryz.prog T0 9 (e_upstream_Order K) :=
  fn_thm (T0 := T0) (T := T_upstream_Order K) rfl (hT_of hT0 rfl rfl rfl) (hes_ok (T0 := T0) (T := T_upstream_Order K) rfl rfl (⟨ok_upstream_CheckInstances K, ok_upstream_keyFault K, ok_upstream_ordered K, trivial⟩ : FAll Tryz.prog T0 [(29, e_upstream_CheckInstances K), (32, e_upstream_keyFault K), (33, e_upstream_ordered K)])) Tryz.func9 (by decide) rfl (Nat.le_of_ble_eq_true rfl) rfl rfl rfl (tot_none rfl) (cutsOK_list (l := [(0, sub (codeOf Tryz.f9) [1, 1, 1, 1, 0, 1, 0])]) (by kernel_rfl) ⟨cut_one (u := c_upstream_Order_0 K) rfl (k_upstream_Order_0 K), trivial⟩) (q_upstream_Order K)
/-! ### 63 gatewarden/upstream.place$1 -/
def p_upstream_place_1 (x k : D) : List D := [D.nth (p_strings_Compare (x.at' 0) k) 0]
def e_upstream_place_1 (K : Nat) : Entry := { n := 2, sh := { sl := [(0, .d 55 false), (1, .d 9 false)], ob := [] }, kept := [], rs := [{ sl := [(0, .d 3 true)], ob := [] }], f := fun ds => some (p_upstream_place_1 (D.nth ds 0) (D.nth ds 1)), tot := some fun ds => p_upstream_place_1 (D.nth ds 0) (D.nth ds 1) }
def T_upstream_place_1 (K : Nat) : Tbl := { T0 with frz := fun s => memN [2] s, ents := entsOf [(61, e_strings_Compare K)], cuts := lk [] }
theorem q_upstream_place_1 (K : Nat) (ds : List D) : evFn (T_upstream_place_1 K) Tryz.f63 .go (e_upstream_place_1 K) ds = (e_upstream_place_1 K).f ds := by kernel_rfl
theorem ok_upstream_place_1 (K : Nat) : FnOK Tryz.prog T0 63 (e_upstream_place_1 K) :=
  fn_thm (T0 := T0) (T := T_upstream_place_1 K) rfl (hT_of hT0 rfl rfl rfl) (hes_ok (T0 := T0) (T := T_upstream_place_1 K) rfl rfl (⟨ok_strings_Compare K, trivial⟩ : FAll Tryz.prog T0 [(61, e_strings_Compare K)])) Tryz.func63 (by decide) rfl (Nat.le_of_ble_eq_true rfl) rfl rfl rfl (tot_some rfl fun _ => rfl) (cutsOK_none (by rfl)) (q_upstream_place_1 K)
/-! ### 62 slices.BinarySearchFunc[[]gatewarden/api.Instance,gatewarden/api.Instance,string] -/
def b_slices_BinarySearchFunc_string_0 (K : Nat) (rec : List D → Option (Nat × List D)) (ds : List D) : Option (Nat × List D) :=
  let x := D.nth ds 0
  let target := D.nth ds 1
  let i := D.nth ds 2
  let j := D.nth ds 3
  bif (ltI i.int j.int) then
    bif (inB (IntKind.i64.wrap (shr .u64 (IntKind.u64.wrap (IntKind.i64.wrap (i.int + j.int))) 1)) x.list.length) then
      bif (ltI ((D.nth (p_upstream_place_1 (D.nth x.list ((IntKind.i64.wrap (shr .u64 (IntKind.u64.wrap (IntKind.i64.wrap (i.int + j.int))) 1)).toNat)) target) 0).int) 0) then
        rec [x, target, D.i (IntKind.i64.wrap ((IntKind.i64.wrap (shr .u64 (IntKind.u64.wrap (IntKind.i64.wrap (i.int + j.int))) 1)) + (1 : Int))), j]
      else
        rec [x, target, i, D.i (IntKind.i64.wrap (shr .u64 (IntKind.u64.wrap (IntKind.i64.wrap (i.int + j.int))) 1))]
    else
      none
  else
    some (0, [i])
def c_slices_BinarySearchFunc_string_0 (K : Nat) : Cut := { sh := { sl := [(0, .d 26 false), (1, .d 9 true), (2, .fn 63 []), (9, .d 3 true), (10, .d 3 true)], ob := [] }, kept := [], outs := [(.exit 0, { sl := [(9, .d 3 true)], ob := [] })], f := fun ds => fixN (b_slices_BinarySearchFunc_string_0 K) K ds }
def f_slices_BinarySearchFunc_string (K : Nat) (x target : D) : Option (List D) :=
  (fixN (b_slices_BinarySearchFunc_string_0 K) K [x, target, D.i 0, D.i (x.list.length : Int)]).bind fun t1 =>
  bif ((!(ltI ((D.nth t1.2 0).int) (x.list.length : Int))) || (inB ((D.nth t1.2 0).int) x.list.length)) then
    bif (ltI ((D.nth t1.2 0).int) (x.list.length : Int)) then
      some [D.nth t1.2 0, D.b (((D.nth (p_upstream_place_1 (D.nth x.list (((D.nth t1.2 0).int).toNat)) target) 0).int) == (0 : Int))]
    else
      some [D.nth t1.2 0, D.b false]
  else
    none
def e_slices_BinarySearchFunc_string (K : Nat) : Entry := { n := 3, sh := { sl := [(0, .d 26 false), (1, .d 9 false), (2, .fn 63 [])], ob := [] }, kept := [], rs := [{ sl := [(0, .tup [.d 3 true, .d 4 true])], ob := [] }], f := fun ds => f_slices_BinarySearchFunc_string K (D.nth ds 0) (D.nth ds 1), tot := none }
def T_slices_BinarySearchFunc_string (K : Nat) : Tbl := { T0 with ents := entsOf [(63, e_upstream_place_1 K)], cuts := lk [(0, c_slices_BinarySearchFunc_string_0 K)] }
theorem q_slices_BinarySearchFunc_string_0 (K : Nat) (rec : List D → Option (Nat × List D)) (ds : List D) : evLoop (T_slices_BinarySearchFunc_string K) 49 (sub (codeOf Tryz.f62) [1, 1, 1, 0, 0, 0]) .go (c_slices_BinarySearchFunc_string_0 K) rec ds = b_slices_BinarySearchFunc_string_0 K rec ds := by kernel_rfl
theorem k_slices_BinarySearchFunc_string_0 (K : Nat) : CutOK Tryz.prog (T_slices_BinarySearchFunc_string K) 49 (sub (codeOf Tryz.f62) [1, 1, 1, 0, 0]) (c_slices_BinarySearchFunc_string_0 K) :=
  loop_thm (T := T_slices_BinarySearchFunc_string K) (hT_of hT0 rfl rfl rfl) (hes_ok (T0 := T0) (T := T_slices_BinarySearchFunc_string K) rfl rfl (⟨ok_upstream_place_1 K, trivial⟩ : FAll Tryz.prog T0 [(63, e_upstream_place_1 K)])) (by kernel_rfl) rfl rfl rfl (cutsOK_none (by rfl)) rfl (q_slices_BinarySearchFunc_string_0 K)
theorem q_slices_BinarySearchFunc_string (K : Nat) (ds : List D) : evFn (T_slices_BinarySearchFunc_string K) Tryz.f62 (.seq .go (.seq .go (.seq .go (.seq (.blk (.cut 0)) .go)))) (e_slices_BinarySearchFunc_string K) ds = (e_slices_BinarySearchFunc_string K).f ds := by kernel_rfl
theorem ok_slices_BinarySearchFunc_string (K : Nat) : FnOK Tryz.prog T0 62 (e_slices_BinarySearchFunc_string K) :=
  fn_thm (T0 := T0) (T := T_slices_BinarySearchFunc_string K) rfl (hT_of hT0 rfl rfl rfl) (hes_ok (T0 := T0) (T := T_slices_BinarySearchFunc_string K) rfl rfl (⟨ok_upstream_place_1 K, trivial⟩ : FAll Tryz.prog T0 [(63, e_upstream_place_1 K)])) Tryz.func62 (by decide) rfl (Nat.le_of_ble_eq_true rfl) rfl rfl rfl (tot_none rfl) (cutsOK_list (l := [(0, sub (codeOf Tryz.f62) [1, 1, 1, 0, 0])]) (by kernel_rfl) ⟨cut_one (u := c_slices_BinarySearchFunc_string_0 K) rfl (k_slices_BinarySearchFunc_string_0 K), trivial⟩) (q_slices_BinarySearchFunc_string K)
/-! ### 37 gatewarden/upstream.place -/
def f_upstream_place (K : Nat) (l key : D) : Option (List D) :=
  (f_slices_BinarySearchFunc_string K l key).bind fun t1 =>
  some [D.nth t1 0, D.nth t1 1]
def e_upstream_place (K : Nat) : Entry := { n := 2, sh := { sl := [(0, .d 26 false), (1, .d 9 false)], ob := [] }, kept := [], rs := [{ sl := [(0, .tup [.d 3 true, .d 4 true])], ob := [] }], f := fun ds => f_upstream_place K (D.nth ds 0) (D.nth ds 1), tot := none }
def T_upstream_place (K : Nat) : Tbl := { T0 with ents := entsOf [(62, e_slices_BinarySearchFunc_string K)], cuts := lk [] }
theorem q_upstream_place (K : Nat) (ds : List D) : evFn (T_upstream_place K) Tryz.f37 .go (e_upstream_place K) ds = (e_upstream_place K).f ds := by kernel_rfl
theorem ok_upstream_place (K : Nat) : FnOK Tryz.prog T0 37 (e_upstream_place K) :=
  fn_thm (T0 := T0) (T := T_upstream_place K) rfl (hT_of hT0 rfl rfl rfl) (hes_ok (T0 := T0) (T := T_upstream_place K) rfl rfl (⟨ok_slices_BinarySearchFunc_string K, trivial⟩ : FAll Tryz.prog T0 [(62, e_slices_BinarySearchFunc_string K)])) Tryz.func37 (by decide) rfl (Nat.le_of_ble_eq_true rfl) rfl rfl rfl (tot_none rfl) (cutsOK_none (by rfl)) (q_upstream_place K)
/-! ### 34 gatewarden/upstream.loadsOf -/
def b_upstream_loadsOf_0 (K : Nat) (rec : List D → Option (Nat × List D)) (ds : List D) : Option (Nat × List D) :=
  let l := D.nth ds 0
  let loads := D.nth ds 1
  let s23 := D.nth ds 2
  let s24 := D.nth ds 3
  let s25 := D.nth ds 4
  let r0 := D.nth ds 5
  bif (ltI s25.int s24.int) then
    bif (inB s25.int s23.list.length) then
      (f_upstream_place K l ((D.nth s23.list s25.int.toNat).at' 0)).bind fun t2 =>
      bif (!((D.nth t2 1).bool)) then
        some (0, [D.i 8, D.n r0.list])
      else
        bif ((!(gtI s25.int 0)) || (inB (IntKind.i64.wrap (s25.int - (1 : Int))) loads.list.length)) then
          bif (bif (gtI s25.int 0) then ((Op.bytesLess (((D.nth s23.list s25.int.toNat).at' 0).str) (((D.nth loads.list ((IntKind.i64.wrap (s25.int - (1 : Int))).toNat)).at' 0).str)) || ((((D.nth s23.list s25.int.toNat).at' 0).str) == (((D.nth loads.list ((IntKind.i64.wrap (s25.int - (1 : Int))).toNat)).at' 0).str))) else false) then
            some (0, [D.i 7, D.n r0.list])
          else
            bif (D.nth (p_kit_Outside ((D.nth s23.list s25.int.toNat).at' 1) (D.i 0) (D.i 1000000)) 0).bool then
              some (0, [D.i 1, D.n r0.list])
            else
              bif (inB ((D.nth t2 0).int) r0.list.length) then
                rec [l, loads, s23, s24, D.i (IntKind.i64.wrap (s25.int + (1 : Int))), D.n (D.setNth r0.list (((D.nth t2 0).int).toNat) ((D.nth s23.list s25.int.toNat).at' 1))]
              else
                none
        else
          none
    else
      none
  else
    some (1, [D.n r0.list])
def c_upstream_loadsOf_0 (K : Nat) : Cut := { sh := { sl := [(0, .d 26 false), (1, .d 30 false), (7, .own 22 0), (23, .d 30 false), (24, .d 3 true), (25, .d 3 true)], ob := [(0, .row 3 true)] }, kept := [0], outs := [(.ret, { sl := [(4, .nil 22), (5, .d 33 true)], ob := [(0, .row 3 true)] }), (.exit 0, { sl := [], ob := [(0, .row 3 true)] })], f := fun ds => fixN (b_upstream_loadsOf_0 K) K ds }
def f_upstream_loadsOf (K : Nat) (l loads : D) : Option (List D) :=
  (f_upstream_CheckInstances K l).bind fun t1 =>
  bif (((D.nth t1 0).int) != (0 : Int)) then
    some [D.nth t1 0, D.n []]
  else
    bif (gtI (loads.list.length : Int) 50) then
      some [D.i 2, D.n []]
    else
      bif ((leI 0 (l.list.length : Int)) && (lim ((l.list.length : Int).toNat))) then
        (fixN (b_upstream_loadsOf_0 K) K [l, loads, loads, D.i (loads.list.length : Int), D.i 0, D.n (List.replicate ((l.list.length : Int).toNat) (D.n []))]).bind fun t2 =>
        bif (t2.1.beq 0) then
          some [D.nth t2.2 0, D.n []]
        else
          some [D.i 0, D.n ((D.nth t2.2 0).list)]
      else
        none
def e_upstream_loadsOf (K : Nat) : Entry := { n := 2, sh := { sl := [(0, .d 26 false), (1, .d 30 false)], ob := [] }, kept := [], rs := [{ sl := [(0, .tup [.own 22 0, .d 33 true])], ob := [(0, .row 3 true)] }], f := fun ds => f_upstream_loadsOf K (D.nth ds 0) (D.nth ds 1), tot := none }
def T_upstream_loadsOf (K : Nat) : Tbl := { T0 with ents := entsOf [(29, e_upstream_CheckInstances K), (37, e_upstream_place K), (30, e_kit_Outside K)], cuts := lk [(0, c_upstream_loadsOf_0 K)] }
theorem q_upstream_loadsOf_0 (K : Nat) (rec : List D → Option (Nat × List D)) (ds : List D) : evLoop (T_upstream_loadsOf K) 65 (sub (codeOf Tryz.f34) [1, 1, 1, 1, 0, 1, 0, 0]) .go (c_upstream_loadsOf_0 K) rec ds = b_upstream_loadsOf_0 K rec ds := by kernel_rfl
theorem k_upstream_loadsOf_0 (K : Nat) : CutOK Tryz.prog (T_upstream_loadsOf K) 65 (sub (codeOf Tryz.f34) [1, 1, 1, 1, 0, 1, 0]) (c_upstream_loadsOf_0 K) :=
  loop_thm (T := T_upstream_loadsOf K) (hT_of hT0 rfl rfl rfl) (hes_ok (T0 := T0) (T := T_upstream_loadsOf K) rfl rfl (⟨ok_upstream_CheckInstances K, ok_upstream_place K, ok_kit_Outside K, trivial⟩ : FAll Tryz.prog T0 [(29, e_upstream_CheckInstances K), (37, e_upstream_place K), (30, e_kit_Outside K)])) (by kernel_rfl) rfl rfl rfl (cutsOK_none (by rfl)) rfl (q_upstream_loadsOf_0 K)
theorem q_upstream_loadsOf (K : Nat) (ds : List D) : evFn (T_upstream_loadsOf K) Tryz.f34 (.seq .go (.seq .go (.seq .go (.seq .go (.seq (.seq .go (.blk (.cut 0))) .go))))) (e_upstream_loadsOf K) ds = (e_upstream_loadsOf K).f ds := by kernel_rfl
theorem ok_upstream_loadsOf (K : Nat) : FnOK Tryz.prog T0 34 (e_upstream_loadsOf K) :=
  fn_thm (T0 := T0) (T := T_upstream_loadsOf K) rfl (hT_of hT0 rfl rfl rfl) (hes_ok (T0 := T0) (T := T_upstream_loadsOf K) rfl rfl (⟨ok_upstream_CheckInstances K, ok_upstream_place K, ok_kit_Outside K, trivial⟩ : FAll Tryz.prog T0 [(29, e_upstream_CheckInstances K), (37, e_upstream_place K), (30, e_kit_Outside K)])) Tryz.func34 (by decide) rfl (Nat.le_of_ble_eq_true rfl) rfl rfl rfl (tot_none rfl) (cutsOK_list (l := [(0, sub (codeOf Tryz.f34) [1, 1, 1, 1, 0, 1, 0])]) (by kernel_rfl) ⟨cut_one (u := c_upstream_loadsOf_0 K) rfl (k_upstream_loadsOf_0 K), trivial⟩) (q_upstream_loadsOf K)
/-! ### 36 gatewarden/upstream.anyOne -/
def p_upstream_anyOne (s0 : D) : List D := [D.b true]
def e_upstream_anyOne (K : Nat) : Entry := { n := 1, sh := { sl := [(0, .d 3 false)], ob := [] }, kept := [], rs := [{ sl := [(0, .d 4 true)], ob := [] }], f := fun ds => some (p_upstream_anyOne (D.nth ds 0)), tot := some fun ds => p_upstream_anyOne (D.nth ds 0) }
def T_upstream_anyOne (K : Nat) : Tbl := { T0 with ents := entsOf [], cuts := lk [] }
theorem q_upstream_anyOne (K : Nat) (ds : List D) : evFn (T_upstream_anyOne K) Tryz.f36 .go (e_upstream_anyOne K) ds = (e_upstream_anyOne K).f ds := by kernel_rfl
theorem ok_upstream_anyOne (K : Nat) : FnOK Tryz.prog T0 36 (e_upstream_anyOne K) :=
  fn_thm (T0 := T0) (T := T_upstream_anyOne K) rfl (hT_of hT0 rfl rfl rfl) (hes_ok (T0 := T0) (T := T_upstream_anyOne K) rfl rfl (trivial : FAll Tryz.prog T0 [])) Tryz.func36 (by decide) rfl (Nat.le_of_ble_eq_true rfl) rfl rfl rfl (tot_some rfl fun _ => rfl) (cutsOK_none (by rfl)) (q_upstream_anyOne K)
/-! ### 35 gatewarden/upstream.least -/
def b_upstream_least_0 (K : Nat) (rec : List D → Option (Nat × List D)) (ds : List D) : Option (Nat × List D) :=
  let l := D.nth ds 0
  let loads := D.nth ds 1
  let best := D.nth ds 2
  let s10 := D.nth ds 3
  let s11 := D.nth ds 4
  let s12 := D.nth ds 5
  bif (ltI s12.int s11.int) then
    bif (inB s12.int s10.list.length) then
      bif ((!(!(ltI best.int 0))) || (inB s12.int loads.list.length)) then
        bif ((!(!(ltI best.int 0))) || (inB best.int l.list.length)) then
          bif ((!(!(ltI best.int 0))) || (inB best.int loads.list.length)) then
            bif (bif (ltI best.int 0) then true else (ltI (IntKind.i64.wrap ((IntKind.i64.wrap (((D.nth loads.list s12.int.toNat).int) + (1 : Int))) * (((D.nth l.list best.int.toNat).at' 1).int))) (IntKind.i64.wrap ((IntKind.i64.wrap (((D.nth loads.list best.int.toNat).int) + (1 : Int))) * (((D.nth s10.list s12.int.toNat).at' 1).int))))) then
              rec [l, loads, s12, s10, s11, D.i (IntKind.i64.wrap (s12.int + (1 : Int)))]
            else
              rec [l, loads, best, s10, s11, D.i (IntKind.i64.wrap (s12.int + (1 : Int)))]
          else
            none
        else
          none
      else
        none
    else
      none
  else
    some (0, [best])
def c_upstream_least_0 (K : Nat) : Cut := { sh := { sl := [(0, .d 26 false), (1, .d 22 false), (2, .fn 36 []), (7, .d 3 true), (10, .d 26 false), (11, .d 3 true), (12, .d 3 true)], ob := [] }, kept := [], outs := [(.exit 0, { sl := [(7, .d 3 true)], ob := [] })], f := fun ds => fixN (b_upstream_least_0 K) K ds }
def f_upstream_least (K : Nat) (l loads : D) : Option (List D) :=
  (fixN (b_upstream_least_0 K) K [l, loads, D.i (-1), l, D.i (l.list.length : Int), D.i 0]).bind fun t1 =>
  some [D.nth t1.2 0]
def e_upstream_least (K : Nat) : Entry := { n := 3, sh := { sl := [(0, .d 26 false), (1, .d 22 false), (2, .fn 36 [])], ob := [] }, kept := [], rs := [{ sl := [(0, .d 3 true)], ob := [] }], f := fun ds => f_upstream_least K (D.nth ds 0) (D.nth ds 1), tot := none }
def T_upstream_least (K : Nat) : Tbl := { T0 with ents := entsOf [(36, e_upstream_anyOne K)], cuts := lk [(0, c_upstream_least_0 K)] }
theorem q_upstream_least_0 (K : Nat) (rec : List D → Option (Nat × List D)) (ds : List D) : evLoop (T_upstream_least K) 49 (sub (codeOf Tryz.f35) [1, 1, 0, 1, 0, 0]) .go (c_upstream_least_0 K) rec ds = b_upstream_least_0 K rec ds := by kernel_rfl
theorem k_upstream_least_0 (K : Nat) : CutOK Tryz.prog (T_upstream_least K) 49 (sub (codeOf Tryz.f35) [1, 1, 0, 1, 0]) (c_upstream_least_0 K) :=
  loop_thm (T := T_upstream_least K) (hT_of hT0 rfl rfl rfl) (hes_ok (T0 := T0) (T := T_upstream_least K) rfl rfl (⟨ok_upstream_anyOne K, trivial⟩ : FAll Tryz.prog T0 [(36, e_upstream_anyOne K)])) (by kernel_rfl) rfl rfl rfl (cutsOK_none (by rfl)) rfl (q_upstream_least_0 K)
theorem q_upstream_least (K : Nat) (ds : List D) : evFn (T_upstream_least K) Tryz.f35 (.seq .go (.seq .go (.seq (.seq .go (.blk (.cut 0))) .go))) (e_upstream_least K) ds = (e_upstream_least K).f ds := by kernel_rfl
theorem ok_upstream_least (K : Nat) : FnOK Tryz.prog T0 35 (e_upstream_least K) :=
  fn_thm (T0 := T0) (T := T_upstream_least K) rfl (hT_of hT0 rfl rfl rfl) (hes_ok (T0 := T0) (T := T_upstream_least K) rfl rfl (⟨ok_upstream_anyOne K, trivial⟩ : FAll Tryz.prog T0 [(36, e_upstream_anyOne K)])) Tryz.func35 (by decide) rfl (Nat.le_of_ble_eq_true rfl) rfl rfl rfl (tot_none rfl) (cutsOK_list (l := [(0, sub (codeOf Tryz.f35) [1, 1, 0, 1, 0])]) (by kernel_rfl) ⟨cut_one (u := c_upstream_least_0 K) rfl (k_upstream_least_0 K), trivial⟩) (q_upstream_least K)
/-! ### 10 gatewarden/upstream.Least -/
def f_upstream_Least (K : Nat) (l loads : D) : Option (List D) :=
  (f_upstream_loadsOf K l loads).bind fun t1 =>
  bif (((D.nth t1 0).int) != (0 : Int)) then
    some [D.s [], D.nth t1 0]
  else
    bif ((l.list.length : Int) == (0 : Int)) then
      some [D.s [], D.i 8]
    else
      (f_upstream_least K l (D.n ((D.nth t1 1).list))).bind fun t2 =>
      bif (inB ((D.nth t2 0).int) l.list.length) then
        some [(D.nth l.list (((D.nth t2 0).int).toNat)).at' 0, D.i 0]
      else
        none
def e_upstream_Least (K : Nat) : Entry := { n := 2, sh := { sl := [(0, .d 26 false), (1, .d 30 false)], ob := [] }, kept := [], rs := [{ sl := [(0, .tup [.d 9 true, .d 33 true])], ob := [] }], f := fun ds => f_upstream_Least K (D.nth ds 0) (D.nth ds 1), tot := none }
def T_upstream_Least (K : Nat) : Tbl := { T0 with ents := entsOf [(34, e_upstream_loadsOf K), (35, e_upstream_least K)], cuts := lk [] }
theorem q_upstream_Least (K : Nat) (ds : List D) : evFn (T_upstream_Least K) Tryz.f10 .go (e_upstream_Least K) ds = (e_upstream_Least K).f ds := by kernel_rfl
theorem ok_upstream_Least (K : Nat) : FnOK Tryz.prog T0 10 (e_upstream_Least K) :=
  fn_thm (T0 := T0) (T := T_upstream_Least K) rfl (hT_of hT0 rfl rfl rfl) (hes_ok (T0 := T0) (T := T_upstream_Least K) rfl rfl (⟨ok_upstream_loadsOf K, ok_upstream_least K, trivial⟩ : FAll Tryz.prog T0 [(34, e_upstream_loadsOf K), (35, e_upstream_least K)])) Tryz.func10 (by decide) rfl (Nat.le_of_ble_eq_true rfl) rfl rfl rfl (tot_none rfl) (cutsOK_none (by rfl)) (q_upstream_Least K)
/-! ### 11 gatewarden/upstream.Bounded -/
def b_upstream_Bounded_1 (K : Nat) (rec : List D → Option (Nat × List D)) (ds : List D) : Option (Nat × List D) :=
  let l := D.nth ds 0
  let factor := D.nth ds 1
  let sum := D.nth ds 2
  let s52 := D.nth ds 3
  let s53 := D.nth ds 4
  let r0 := D.nth ds 5
  let r1 := D.nth ds 6
  bif (ltI s53.int s52.int) then
    bif (inB s53.int r1.list.length) then
      (f_upstream_place K l ((D.nth r1.list s53.int.toNat).at' 0)).bind fun t5 =>
      bif (inB ((D.nth t5 0).int) r0.list.length) then
        (f_upstream_weights K l).bind fun t6 =>
        bif (leI (IntKind.i64.wrap ((IntKind.i64.wrap ((IntKind.i64.wrap (((D.nth r0.list (((D.nth t5 0).int).toNat)).int) + (1 : Int))) * (1000 : Int))) * ((D.nth t6 0).int))) (IntKind.i64.wrap ((IntKind.i64.wrap (factor.int * (((D.nth r1.list s53.int.toNat).at' 1).int))) * (IntKind.i64.wrap (sum.int + (1 : Int)))))) then
          some (0, [(D.nth r1.list s53.int.toNat).at' 0, D.i 0, D.n r0.list, D.n r1.list])
        else
          rec [l, factor, sum, s52, D.i (IntKind.i64.wrap (s53.int + (1 : Int))), D.n r0.list, D.n r1.list]
      else
        none
    else
      none
  else
    some (1, [D.n r0.list, D.n r1.list])
def c_upstream_Bounded_1 (K : Nat) : Cut := { sh := { sl := [(0, .d 26 false), (3, .d 3 true), (10, .own 22 0), (13, .d 3 true), (51, .own 26 1), (52, .d 3 true), (53, .d 3 true)], ob := [(0, .row 3 true), (1, .row 55 true)] }, kept := [0, 1], outs := [(.ret, { sl := [(8, .d 9 true), (9, .d 33 true)], ob := [(0, .row 3 true), (1, .row 55 true)] }), (.exit 2, { sl := [], ob := [(0, .row 3 true), (1, .row 55 true)] })], f := fun ds => fixN (b_upstream_Bounded_1 K) K ds }
def b_upstream_Bounded_0 (K : Nat) (rec : List D → Option (Nat × List D)) (ds : List D) : Option (Nat × List D) :=
  let sum := D.nth ds 0
  let s40 := D.nth ds 1
  let s41 := D.nth ds 2
  let r0 := D.nth ds 3
  bif (ltI s41.int s40.int) then
    bif (inB s41.int r0.list.length) then
      rec [D.i (IntKind.i64.wrap (sum.int + ((D.nth r0.list s41.int.toNat).int))), s40, D.i (IntKind.i64.wrap (s41.int + (1 : Int))), D.n r0.list]
    else
      none
  else
    some (0, [sum, D.n r0.list])
def c_upstream_Bounded_0 (K : Nat) : Cut := { sh := { sl := [(13, .d 3 true), (39, .own 22 0), (40, .d 3 true), (41, .d 3 true)], ob := [(0, .row 3 true)] }, kept := [0], outs := [(.exit 0, { sl := [(13, .d 3 true)], ob := [(0, .row 3 true)] })], f := fun ds => fixN (b_upstream_Bounded_0 K) K ds }
def f_upstream_Bounded (K : Nat) (l loads key factor : D) : Option (List D) :=
  (f_upstream_loadsOf K l loads).bind fun t1 =>
  bif (((D.nth t1 0).int) != (0 : Int)) then
    some [D.s [], D.nth t1 0]
  else
    bif (D.nth (p_kit_Outside factor (D.i 1000) (D.i 1000000)) 0).bool then
      some [D.s [], D.i 1]
    else
      (f_upstream_keyFault K key).bind fun t2 =>
      bif (((D.nth t2 0).int) != (0 : Int)) then
        some [D.s [], D.nth t2 0]
      else
        bif ((l.list.length : Int) == (0 : Int)) then
          some [D.s [], D.i 8]
        else
          (fixN (b_upstream_Bounded_0 K) K [D.i 0, D.i (((D.nth t1 1).list).length : Int), D.i 0, D.n ((D.nth t1 1).list)]).bind fun t3 =>
          (f_upstream_ordered K l key).bind fun t4 =>
          (fixN (b_upstream_Bounded_1 K) K [l, factor, D.nth t3.2 0, D.i (((D.nth t4 0).list).length : Int), D.i 0, D.n ((D.nth t3.2 1).list), D.n ((D.nth t4 0).list)]).bind fun t5 =>
          bif (t5.1.beq 0) then
            some [D.nth t5.2 0, D.nth t5.2 1]
          else
            (f_upstream_least K l (D.n ((D.nth t5.2 0).list))).bind fun t6 =>
            bif (inB ((D.nth t6 0).int) l.list.length) then
              some [(D.nth l.list (((D.nth t6 0).int).toNat)).at' 0, D.i 0]
            else
              none
def e_upstream_Bounded (K : Nat) : Entry := { n := 4, sh := { sl := [(0, .d 26 false), (1, .d 30 false), (2, .d 9 false), (3, .d 3 false)], ob := [] }, kept := [], rs := [{ sl := [(0, .tup [.d 9 true, .d 33 true])], ob := [] }], f := fun ds => f_upstream_Bounded K (D.nth ds 0) (D.nth ds 1) (D.nth ds 2) (D.nth ds 3), tot := none }
def T_upstream_Bounded (K : Nat) : Tbl := { T0 with ents := entsOf [(34, e_upstream_loadsOf K), (30, e_kit_Outside K), (32, e_upstream_keyFault K), (33, e_upstream_ordered K), (37, e_upstream_place K), (31, e_upstream_weights K), (35, e_upstream_least K)], cuts := lk [(0, c_upstream_Bounded_0 K), (1, c_upstream_Bounded_1 K)] }
theorem q_upstream_Bounded_1 (K : Nat) (rec : List D → Option (Nat × List D)) (ds : List D) : evLoop (T_upstream_Bounded K) 91 (sub (codeOf Tryz.f11) [1, 1, 1, 1, 1, 1, 1, 1, 0, 1, 0, 0]) .go (c_upstream_Bounded_1 K) rec ds = b_upstream_Bounded_1 K rec ds := by kernel_rfl
theorem k_upstream_Bounded_1 (K : Nat) : CutOK Tryz.prog (T_upstream_Bounded K) 91 (sub (codeOf Tryz.f11) [1, 1, 1, 1, 1, 1, 1, 1, 0, 1, 0]) (c_upstream_Bounded_1 K) :=
  loop_thm (T := T_upstream_Bounded K) (hT_of hT0 rfl rfl rfl) (hes_ok (T0 := T0) (T := T_upstream_Bounded K) rfl rfl (⟨ok_upstream_loadsOf K, ok_kit_Outside K, ok_upstream_keyFault K, ok_upstream_ordered K, ok_upstream_place K, ok_upstream_weights K, ok_upstream_least K, trivial⟩ : FAll Tryz.prog T0 [(34, e_upstream_loadsOf K), (30, e_kit_Outside K), (32, e_upstream_keyFault K), (33, e_upstream_ordered K), (37, e_upstream_place K), (31, e_upstream_weights K), (35, e_upstream_least K)])) (by kernel_rfl) rfl rfl rfl (cutsOK_none (by rfl)) rfl (q_upstream_Bounded_1 K)
theorem q_upstream_Bounded_0 (K : Nat) (rec : List D → Option (Nat × List D)) (ds : List D) : evLoop (T_upstream_Bounded K) 91 (sub (codeOf Tryz.f11) [1, 1, 1, 1, 1, 1, 1, 0, 1, 0, 0]) .go (c_upstream_Bounded_0 K) rec ds = b_upstream_Bounded_0 K rec ds := by kernel_rfl
theorem k_upstream_Bounded_0 (K : Nat) : CutOK Tryz.prog (T_upstream_Bounded K) 91 (sub (codeOf Tryz.f11) [1, 1, 1, 1, 1, 1, 1, 0, 1, 0]) (c_upstream_Bounded_0 K) :=
  loop_thm (T := T_upstream_Bounded K) (hT_of hT0 rfl rfl rfl) (hes_ok (T0 := T0) (T := T_upstream_Bounded K) rfl rfl (⟨ok_upstream_loadsOf K, ok_kit_Outside K, ok_upstream_keyFault K, ok_upstream_ordered K, ok_upstream_place K, ok_upstream_weights K, ok_upstream_least K, trivial⟩ : FAll Tryz.prog T0 [(34, e_upstream_loadsOf K), (30, e_kit_Outside K), (32, e_upstream_keyFault K), (33, e_upstream_ordered K), (37, e_upstream_place K), (31, e_upstream_weights K), (35, e_upstream_least K)])) (by kernel_rfl) rfl rfl rfl (cutsOK_none (by rfl)) rfl (q_upstream_Bounded_0 K)
theorem q_upstream_Bounded (K : Nat) (ds : List D) : evFn (T_upstream_Bounded K) Tryz.f11 (.seq .go (.seq .go (.seq .go (.seq .go (.seq .go (.seq .go (.seq .go (.seq (.seq .go (.blk (.cut 0))) (.seq (.seq .go (.blk (.cut 1))) .go))))))))) (e_upstream_Bounded K) ds = (e_upstream_Bounded K).f ds := by kernel_rfl
theorem ok_upstream_Bounded (K : Nat) : FnOK Tryz.prog T0 11 (e_upstream_Bounded K) :=
  fn_thm (T0 := T0) (T := T_upstream_Bounded K) rfl (hT_of hT0 rfl rfl rfl) (hes_ok (T0 := T0) (T := T_upstream_Bounded K) rfl rfl (⟨ok_upstream_loadsOf K, ok_kit_Outside K, ok_upstream_keyFault K, ok_upstream_ordered K, ok_upstream_place K, ok_upstream_weights K, ok_upstream_least K, trivial⟩ : FAll Tryz.prog T0 [(34, e_upstream_loadsOf K), (30, e_kit_Outside K), (32, e_upstream_keyFault K), (33, e_upstream_ordered K), (37, e_upstream_place K), (31, e_upstream_weights K), (35, e_upstream_least K)])) Tryz.func11 (by decide) rfl (Nat.le_of_ble_eq_true rfl) rfl rfl rfl (tot_none rfl) (cutsOK_list (l := [(0, sub (codeOf Tryz.f11) [1, 1, 1, 1, 1, 1, 1, 0, 1, 0]), (1, sub (codeOf Tryz.f11) [1, 1, 1, 1, 1, 1, 1, 1, 0, 1, 0])]) (by kernel_rfl) ⟨cut_one (u := c_upstream_Bounded_0 K) rfl (k_upstream_Bounded_0 K), cut_one (u := c_upstream_Bounded_1 K) rfl (k_upstream_Bounded_1 K), trivial⟩) (q_upstream_Bounded K)
/-! ### 39 gatewarden/gateref2.in -/
def p_gateref2_in (n low high : D) : List D := [D.b (bif (leI low.int n.int) then (leI n.int high.int) else false)]
def e_gateref2_in (K : Nat) : Entry := { n := 3, sh := { sl := [(0, .d 3 false), (1, .d 3 false), (2, .d 3 false)], ob := [] }, kept := [], rs := [{ sl := [(0, .d 4 true)], ob := [] }], f := fun ds => some (p_gateref2_in (D.nth ds 0) (D.nth ds 1) (D.nth ds 2)), tot := some fun ds => p_gateref2_in (D.nth ds 0) (D.nth ds 1) (D.nth ds 2) }
def T_gateref2_in (K : Nat) : Tbl := { T0 with ents := entsOf [], cuts := lk [] }
theorem q_gateref2_in (K : Nat) (ds : List D) : evFn (T_gateref2_in K) Tryz.f39 .go (e_gateref2_in K) ds = (e_gateref2_in K).f ds := by kernel_rfl
theorem ok_gateref2_in (K : Nat) : FnOK Tryz.prog T0 39 (e_gateref2_in K) :=
  fn_thm (T0 := T0) (T := T_gateref2_in K) rfl (hT_of hT0 rfl rfl rfl) (hes_ok (T0 := T0) (T := T_gateref2_in K) rfl rfl (trivial : FAll Tryz.prog T0 [])) Tryz.func39 (by decide) rfl (Nat.le_of_ble_eq_true rfl) rfl rfl rfl (tot_some rfl fun _ => rfl) (cutsOK_none (by rfl)) (q_gateref2_in K)
/-! ### 101 internal/bytealg.IndexByteString -/
def p_bytealg_IndexByteString (x y : D) : List D := [D.i (Lib.indexByte x.str y.int.toNat.toUInt8)]
def e_bytealg_IndexByteString (K : Nat) : Entry := flat2 9 5 3 (fun ds => some (p_bytealg_IndexByteString (D.nth ds 0) (D.nth ds 1))) (some fun ds => p_bytealg_IndexByteString (D.nth ds 0) (D.nth ds 1))
theorem ok_bytealg_IndexByteString (K : Nat) : FnOK Tryz.prog T0 101 (e_bytealg_IndexByteString K) :=
  idxByte_ok (T := T0) Tryz.func101 (by kernel_rfl) (by kernel_rfl) (by kernel_rfl) (by kernel_rfl) rfl rfl rfl
/-! ### 94 internal/stringslite.IndexByte -/
def p_stringslite_IndexByte (s c : D) : List D := [D.nth (p_bytealg_IndexByteString s c) 0]
def e_stringslite_IndexByte (K : Nat) : Entry := { n := 2, sh := { sl := [(0, .d 9 false), (1, .d 5 false)], ob := [] }, kept := [], rs := [{ sl := [(0, .d 3 true)], ob := [] }], f := fun ds => some (p_stringslite_IndexByte (D.nth ds 0) (D.nth ds 1)), tot := some fun ds => p_stringslite_IndexByte (D.nth ds 0) (D.nth ds 1) }
def T_stringslite_IndexByte (K : Nat) : Tbl := { T0 with ents := entsOf [(101, e_bytealg_IndexByteString K)], cuts := lk [] }
theorem q_stringslite_IndexByte (K : Nat) (ds : List D) : evFn (T_stringslite_IndexByte K) Tryz.f94 .go (e_stringslite_IndexByte K) ds = (e_stringslite_IndexByte K).f ds := by kernel_rfl
theorem ok_stringslite_IndexByte (K : Nat) : FnOK Tryz.prog T0 94 (e_stringslite_IndexByte K) :=
  fn_thm (T0 := T0) (T := T_stringslite_IndexByte K) rfl (hT_of hT0 rfl rfl rfl) (hes_ok (T0 := T0) (T := T_stringslite_IndexByte K) rfl rfl (⟨ok_bytealg_IndexByteString K, trivial⟩ : FAll Tryz.prog T0 [(101, e_bytealg_IndexByteString K)])) Tryz.func94 (by decide) rfl (Nat.le_of_ble_eq_true rfl) rfl rfl rfl (tot_some rfl fun _ => rfl) (cutsOK_none (by rfl)) (q_stringslite_IndexByte K)
/-! ### 78 strings.IndexByte -/
def p_strings_IndexByte (s c : D) : List D := [D.nth (p_stringslite_IndexByte s c) 0]
def e_strings_IndexByte (K : Nat) : Entry := { n := 2, sh := { sl := [(0, .d 9 false), (1, .d 5 false)], ob := [] }, kept := [], rs := [{ sl := [(0, .d 3 true)], ob := [] }], f := fun ds => some (p_strings_IndexByte (D.nth ds 0) (D.nth ds 1)), tot := some fun ds => p_strings_IndexByte (D.nth ds 0) (D.nth ds 1) }
def T_strings_IndexByte (K : Nat) : Tbl := { T0 with ents := entsOf [(94, e_stringslite_IndexByte K)], cuts := lk [] }
theorem q_strings_IndexByte (K : Nat) (ds : List D) : evFn (T_strings_IndexByte K) Tryz.f78 .go (e_strings_IndexByte K) ds = (e_strings_IndexByte K).f ds := by kernel_rfl
theorem ok_strings_IndexByte (K : Nat) : FnOK Tryz.prog T0 78 (e_strings_IndexByte K) :=
  fn_thm (T0 := T0) (T := T_strings_IndexByte K) rfl (hT_of hT0 rfl rfl rfl) (hes_ok (T0 := T0) (T := T_strings_IndexByte K) rfl rfl (⟨ok_stringslite_IndexByte K, trivial⟩ : FAll Tryz.prog T0 [(94, e_stringslite_IndexByte K)])) Tryz.func78 (by decide) rfl (Nat.le_of_ble_eq_true rfl) rfl rfl rfl (tot_some rfl fun _ => rfl) (cutsOK_none (by rfl)) (q_strings_IndexByte K)
/-! ### 64 gatewarden/gateref2.only -/
def b_gateref2_only_0 (K : Nat) (rec : List D → Option (Nat × List D)) (ds : List D) : Option (Nat × List D) :=
  let s := D.nth ds 0
  let vsome := D.nth ds 1
  let s7 := D.nth ds 2
  let s8 := D.nth ds 3
  bif (ltI s8.int s7.int) then
    bif (inB s8.int s.str.length) then
      bif (ltI ((D.nth (p_strings_IndexByte vsome (D.i (byteAt s.str s8.int.toNat))) 0).int) 0) then
        some (0, [D.b false])
      else
        rec [s, vsome, s7, D.i (IntKind.i64.wrap (s8.int + (1 : Int)))]
    else
      none
  else
    some (1, [])
def c_gateref2_only_0 (K : Nat) : Cut := { sh := { sl := [(0, .d 9 true), (1, .d 9 true), (7, .d 3 true), (8, .d 3 true)], ob := [] }, kept := [], outs := [(.ret, { sl := [(4, .d 4 true)], ob := [] }), (.exit 0, { sl := [], ob := [] })], f := fun ds => fixN (b_gateref2_only_0 K) K ds }
def f_gateref2_only (K : Nat) (s vsome : D) : Option (List D) :=
  (fixN (b_gateref2_only_0 K) K [s, vsome, D.i (s.str.length : Int), D.i 0]).bind fun t1 =>
  bif (t1.1.beq 0) then
    some [D.nth t1.2 0]
  else
    some [D.b true]
def e_gateref2_only (K : Nat) : Entry := { n := 2, sh := { sl := [(0, .d 9 false), (1, .d 9 false)], ob := [] }, kept := [], rs := [{ sl := [(0, .d 4 true)], ob := [] }], f := fun ds => f_gateref2_only K (D.nth ds 0) (D.nth ds 1), tot := none }
def T_gateref2_only (K : Nat) : Tbl := { T0 with ents := entsOf [(78, e_strings_IndexByte K)], cuts := lk [(0, c_gateref2_only_0 K)] }
theorem q_gateref2_only_0 (K : Nat) (rec : List D → Option (Nat × List D)) (ds : List D) : evLoop (T_gateref2_only K) 18 (sub (codeOf Tryz.f64) [1, 0, 1, 0, 0]) .go (c_gateref2_only_0 K) rec ds = b_gateref2_only_0 K rec ds := by kernel_rfl
theorem k_gateref2_only_0 (K : Nat) : CutOK Tryz.prog (T_gateref2_only K) 18 (sub (codeOf Tryz.f64) [1, 0, 1, 0]) (c_gateref2_only_0 K) :=
  loop_thm (T := T_gateref2_only K) (hT_of hT0 rfl rfl rfl) (hes_ok (T0 := T0) (T := T_gateref2_only K) rfl rfl (⟨ok_strings_IndexByte K, trivial⟩ : FAll Tryz.prog T0 [(78, e_strings_IndexByte K)])) (by kernel_rfl) rfl rfl rfl (cutsOK_none (by rfl)) rfl (q_gateref2_only_0 K)
theorem q_gateref2_only (K : Nat) (ds : List D) : evFn (T_gateref2_only K) Tryz.f64 (.seq .go (.seq (.seq .go (.blk (.cut 0))) .go)) (e_gateref2_only K) ds = (e_gateref2_only K).f ds := by kernel_rfl
theorem ok_gateref2_only (K : Nat) : FnOK Tryz.prog T0 64 (e_gateref2_only K) :=
  fn_thm (T0 := T0) (T := T_gateref2_only K) rfl (hT_of hT0 rfl rfl rfl) (hes_ok (T0 := T0) (T := T_gateref2_only K) rfl rfl (⟨ok_strings_IndexByte K, trivial⟩ : FAll Tryz.prog T0 [(78, e_strings_IndexByte K)])) Tryz.func64 (by decide) rfl (Nat.le_of_ble_eq_true rfl) rfl rfl rfl (tot_none rfl) (cutsOK_list (l := [(0, sub (codeOf Tryz.f64) [1, 0, 1, 0])]) (by kernel_rfl) ⟨cut_one (u := c_gateref2_only_0 K) rfl (k_gateref2_only_0 K), trivial⟩) (q_gateref2_only K)
/-! ### 38 gatewarden/gateref2.Key -/
def f_gateref2_Key (K : Nat) (s : D) : Option (List D) :=
  bif ((!((D.nth (p_gateref2_in (D.i (s.str.length : Int)) (D.i 1) (D.i 40)) 0).bool)) || (inB 1 (s.str.length + 1))) then
    bif (D.nth (p_gateref2_in (D.i (s.str.length : Int)) (D.i 1) (D.i 40)) 0).bool then
      (f_gateref2_only K (D.s (s.str.take 1)) (D.s [97, 98, 99, 100, 101, 102, 103, 104, 105, 106, 107, 108, 109, 110, 111, 112, 113, 114, 115, 116, 117, 118, 119, 120, 121, 122])).bind fun t1 =>
      bif (D.nth t1 0).bool then
        (f_gateref2_only K s (D.s [97, 98, 99, 100, 101, 102, 103, 104, 105, 106, 107, 108, 109, 110, 111, 112, 113, 114, 115, 116, 117, 118, 119, 120, 121, 122, 48, 49, 50, 51, 52, 53, 54, 55, 56, 57, 45, 95])).bind fun t2 =>
        some [D.b ((D.nth t2 0).bool)]
      else
        some [D.b false]
    else
      some [D.b false]
  else
    none
def e_gateref2_Key (K : Nat) : Entry := { n := 1, sh := { sl := [(0, .d 9 false)], ob := [] }, kept := [], rs := [{ sl := [(0, .d 4 true)], ob := [] }], f := fun ds => f_gateref2_Key K (D.nth ds 0), tot := none }
def T_gateref2_Key (K : Nat) : Tbl := { T0 with ents := entsOf [(39, e_gateref2_in K), (64, e_gateref2_only K)], cuts := lk [] }
theorem q_gateref2_Key (K : Nat) (ds : List D) : evFn (T_gateref2_Key K) Tryz.f38 .go (e_gateref2_Key K) ds = (e_gateref2_Key K).f ds := by kernel_rfl
theorem ok_gateref2_Key (K : Nat) : FnOK Tryz.prog T0 38 (e_gateref2_Key K) :=
  fn_thm (T0 := T0) (T := T_gateref2_Key K) rfl (hT_of hT0 rfl rfl rfl) (hes_ok (T0 := T0) (T := T_gateref2_Key K) rfl rfl (⟨ok_gateref2_in K, ok_gateref2_only K, trivial⟩ : FAll Tryz.prog T0 [(39, e_gateref2_in K), (64, e_gateref2_only K)])) Tryz.func38 (by decide) rfl (Nat.le_of_ble_eq_true rfl) rfl rfl rfl (tot_none rfl) (cutsOK_none (by rfl)) (q_gateref2_Key K)
/-! ### 12 gatewarden/gateref2.InstancesFault -/
def b_gateref2_InstancesFault_0 (K : Nat) (rec : List D → Option (Nat × List D)) (ds : List D) : Option (Nat × List D) :=
  let last := D.nth ds 0
  let s9 := D.nth ds 1
  let s10 := D.nth ds 2
  let s11 := D.nth ds 3
  bif (ltI s11.int s10.int) then
    bif (inB s11.int s9.list.length) then
      (f_gateref2_Key K ((D.nth s9.list s11.int.toNat).at' 0)).bind fun t1 =>
      bif (!((D.nth t1 0).bool)) then
        some (0, [D.i 5])
      else
        bif ((Op.bytesLess (((D.nth s9.list s11.int.toNat).at' 0).str) last.str) || ((((D.nth s9.list s11.int.toNat).at' 0).str) == last.str)) then
          some (0, [D.i 7])
        else
          bif (!((D.nth (p_gateref2_in ((D.nth s9.list s11.int.toNat).at' 1) (D.i 1) (D.i 100)) 0).bool)) then
            some (0, [D.i 1])
          else
            rec [(D.nth s9.list s11.int.toNat).at' 0, s9, s10, D.i (IntKind.i64.wrap (s11.int + (1 : Int)))]
    else
      none
  else
    some (1, [])
def c_gateref2_InstancesFault_0 (K : Nat) : Cut := { sh := { sl := [(3, .d 9 true), (9, .d 26 false), (10, .d 3 true), (11, .d 3 true)], ob := [] }, kept := [], outs := [(.ret, { sl := [(2, .d 33 true)], ob := [] }), (.exit 0, { sl := [], ob := [] })], f := fun ds => fixN (b_gateref2_InstancesFault_0 K) K ds }
def f_gateref2_InstancesFault (K : Nat) (l : D) : Option (List D) :=
  bif (gtI (l.list.length : Int) 50) then
    some [D.i 2]
  else
    (fixN (b_gateref2_InstancesFault_0 K) K [D.s [], l, D.i (l.list.length : Int), D.i 0]).bind fun t1 =>
    bif (t1.1.beq 0) then
      some [D.nth t1.2 0]
    else
      some [D.i 0]
def e_gateref2_InstancesFault (K : Nat) : Entry := { n := 1, sh := { sl := [(0, .d 26 false)], ob := [] }, kept := [], rs := [{ sl := [(0, .d 33 true)], ob := [] }], f := fun ds => f_gateref2_InstancesFault K (D.nth ds 0), tot := none }
def T_gateref2_InstancesFault (K : Nat) : Tbl := { T0 with ents := entsOf [(38, e_gateref2_Key K), (39, e_gateref2_in K)], cuts := lk [(0, c_gateref2_InstancesFault_0 K)] }
theorem q_gateref2_InstancesFault_0 (K : Nat) (rec : List D → Option (Nat × List D)) (ds : List D) : evLoop (T_gateref2_InstancesFault K) 33 (sub (codeOf Tryz.f12) [1, 1, 1, 0, 1, 0, 0]) .go (c_gateref2_InstancesFault_0 K) rec ds = b_gateref2_InstancesFault_0 K rec ds := by kernel_rfl
theorem k_gateref2_InstancesFault_0 (K : Nat) : CutOK Tryz.prog (T_gateref2_InstancesFault K) 33 (sub (codeOf Tryz.f12) [1, 1, 1, 0, 1, 0]) (c_gateref2_InstancesFault_0 K) :=
  loop_thm (T := T_gateref2_InstancesFault K) (hT_of hT0 rfl rfl rfl) (hes_ok (T0 := T0) (T := T_gateref2_InstancesFault K) rfl rfl (⟨ok_gateref2_Key K, ok_gateref2_in K, trivial⟩ : FAll Tryz.prog T0 [(38, e_gateref2_Key K), (39, e_gateref2_in K)])) (by kernel_rfl) rfl rfl rfl (cutsOK_none (by rfl)) rfl (q_gateref2_InstancesFault_0 K)
theorem q_gateref2_InstancesFault (K : Nat) (ds : List D) : evFn (T_gateref2_InstancesFault K) Tryz.f12 (.seq .go (.seq .go (.seq .go (.seq (.seq .go (.blk (.cut 0))) .go)))) (e_gateref2_InstancesFault K) ds = (e_gateref2_InstancesFault K).f ds := by kernel_rfl
theorem ok_gateref2_InstancesFault (K : Nat) : FnOK Tryz.prog T0 12 (e_gateref2_InstancesFault K) :=
  fn_thm (T0 := T0) (T := T_gateref2_InstancesFault K) rfl (hT_of hT0 rfl rfl rfl) (hes_ok (T0 := T0) (T := T_gateref2_InstancesFault K) rfl rfl (⟨ok_gateref2_Key K, ok_gateref2_in K, trivial⟩ : FAll Tryz.prog T0 [(38, e_gateref2_Key K), (39, e_gateref2_in K)])) Tryz.func12 (by decide) rfl (Nat.le_of_ble_eq_true rfl) rfl rfl rfl (tot_none rfl) (cutsOK_list (l := [(0, sub (codeOf Tryz.f12) [1, 1, 1, 0, 1, 0])]) (by kernel_rfl) ⟨cut_one (u := c_gateref2_InstancesFault_0 K) rfl (k_gateref2_InstancesFault_0 K), trivial⟩) (q_gateref2_InstancesFault K)
/-! ### 13 gatewarden/gatelaw2.when -/
def f_gatelaw2_when (K : Nat) (is e : D) : Option (List D) :=
  bif is.bool then
    some [e]
  else
    some [D.i 0]
def e_gatelaw2_when (K : Nat) : Entry := { n := 2, sh := { sl := [(0, .d 4 false), (1, .d 33 false)], ob := [] }, kept := [], rs := [{ sl := [(0, .d 33 true)], ob := [] }], f := fun ds => f_gatelaw2_when K (D.nth ds 0) (D.nth ds 1), tot := none }
def T_gatelaw2_when (K : Nat) : Tbl := { T0 with ents := entsOf [], cuts := lk [] }
theorem q_gatelaw2_when (K : Nat) (ds : List D) : evFn (T_gatelaw2_when K) Tryz.f13 .go (e_gatelaw2_when K) ds = (e_gatelaw2_when K).f ds := by kernel_rfl
theorem ok_gatelaw2_when (K : Nat) : FnOK Tryz.prog T0 13 (e_gatelaw2_when K) :=
  fn_thm (T0 := T0) (T := T_gatelaw2_when K) rfl (hT_of hT0 rfl rfl rfl) (hes_ok (T0 := T0) (T := T_gatelaw2_when K) rfl rfl (trivial : FAll Tryz.prog T0 [])) Tryz.func13 (by decide) rfl (Nat.le_of_ble_eq_true rfl) rfl rfl rfl (tot_none rfl) (cutsOK_none (by rfl)) (q_gatelaw2_when K)
/-! ### 14 gatewarden/gatelaw2.errs -/
def b_gatelaw2_errs_0 (K : Nat) (rec : List D → Option (Nat × List D)) (ds : List D) : Option (Nat × List D) :=
  let s5 := D.nth ds 0
  let s6 := D.nth ds 1
  let s7 := D.nth ds 2
  bif (ltI s7.int s6.int) then
    bif (inB s7.int s5.list.length) then
      bif (((D.nth s5.list s7.int.toNat).int) != (0 : Int)) then
        some (0, [D.nth s5.list s7.int.toNat])
      else
        rec [s5, s6, D.i (IntKind.i64.wrap (s7.int + (1 : Int)))]
    else
      none
  else
    some (1, [])
def c_gatelaw2_errs_0 (K : Nat) : Cut := { sh := { sl := [(5, .d 71 false), (6, .d 3 true), (7, .d 3 true)], ob := [] }, kept := [], outs := [(.ret, { sl := [(2, .d 33 true)], ob := [] }), (.exit 0, { sl := [], ob := [] })], f := fun ds => fixN (b_gatelaw2_errs_0 K) K ds }
def f_gatelaw2_errs (K : Nat) (l : D) : Option (List D) :=
  (fixN (b_gatelaw2_errs_0 K) K [l, D.i (l.list.length : Int), D.i 0]).bind fun t1 =>
  bif (t1.1.beq 0) then
    some [D.nth t1.2 0]
  else
    some [D.i 0]
def e_gatelaw2_errs (K : Nat) : Entry := { n := 1, sh := { sl := [(0, .d 71 false)], ob := [] }, kept := [], rs := [{ sl := [(0, .d 33 true)], ob := [] }], f := fun ds => f_gatelaw2_errs K (D.nth ds 0), tot := none }
def T_gatelaw2_errs (K : Nat) : Tbl := { T0 with ents := entsOf [], cuts := lk [(0, c_gatelaw2_errs_0 K)] }
theorem q_gatelaw2_errs_0 (K : Nat) (rec : List D → Option (Nat × List D)) (ds : List D) : evLoop (T_gatelaw2_errs K) 15 (sub (codeOf Tryz.f14) [1, 0, 1, 0, 0]) .go (c_gatelaw2_errs_0 K) rec ds = b_gatelaw2_errs_0 K rec ds := by kernel_rfl
theorem k_gatelaw2_errs_0 (K : Nat) : CutOK Tryz.prog (T_gatelaw2_errs K) 15 (sub (codeOf Tryz.f14) [1, 0, 1, 0]) (c_gatelaw2_errs_0 K) :=
  loop_thm (T := T_gatelaw2_errs K) (hT_of hT0 rfl rfl rfl) (hes_ok (T0 := T0) (T := T_gatelaw2_errs K) rfl rfl (trivial : FAll Tryz.prog T0 [])) (by kernel_rfl) rfl rfl rfl (cutsOK_none (by rfl)) rfl (q_gatelaw2_errs_0 K)
theorem q_gatelaw2_errs (K : Nat) (ds : List D) : evFn (T_gatelaw2_errs K) Tryz.f14 (.seq .go (.seq (.seq .go (.blk (.cut 0))) .go)) (e_gatelaw2_errs K) ds = (e_gatelaw2_errs K).f ds := by kernel_rfl
theorem ok_gatelaw2_errs (K : Nat) : FnOK Tryz.prog T0 14 (e_gatelaw2_errs K) :=
  fn_thm (T0 := T0) (T := T_gatelaw2_errs K) rfl (hT_of hT0 rfl rfl rfl) (hes_ok (T0 := T0) (T := T_gatelaw2_errs K) rfl rfl (trivial : FAll Tryz.prog T0 [])) Tryz.func14 (by decide) rfl (Nat.le_of_ble_eq_true rfl) rfl rfl rfl (tot_none rfl) (cutsOK_list (l := [(0, sub (codeOf Tryz.f14) [1, 0, 1, 0])]) (by kernel_rfl) ⟨cut_one (u := c_gatelaw2_errs_0 K) rfl (k_gatelaw2_errs_0 K), trivial⟩) (q_gatelaw2_errs K)
/-! ### 15 gatewarden/gateref2.OrderKey -/
def f_gateref2_OrderKey (K : Nat) (key : D) : Option (List D) :=
  bif (!((D.nth (p_gateref2_in (D.i (key.str.length : Int)) (D.i 1) (D.i 40)) 0).bool)) then
    some [D.i 5]
  else
    some [D.i 0]
def e_gateref2_OrderKey (K : Nat) : Entry := { n := 1, sh := { sl := [(0, .d 9 false)], ob := [] }, kept := [], rs := [{ sl := [(0, .d 33 true)], ob := [] }], f := fun ds => f_gateref2_OrderKey K (D.nth ds 0), tot := none }
def T_gateref2_OrderKey (K : Nat) : Tbl := { T0 with ents := entsOf [(39, e_gateref2_in K)], cuts := lk [] }
theorem q_gateref2_OrderKey (K : Nat) (ds : List D) : evFn (T_gateref2_OrderKey K) Tryz.f15 .go (e_gateref2_OrderKey K) ds = (e_gateref2_OrderKey K).f ds := by kernel_rfl
theorem ok_gateref2_OrderKey (K : Nat) : FnOK Tryz.prog T0 15 (e_gateref2_OrderKey K) :=
  fn_thm (T0 := T0) (T := T_gateref2_OrderKey K) rfl (hT_of hT0 rfl rfl rfl) (hes_ok (T0 := T0) (T := T_gateref2_OrderKey K) rfl rfl (⟨ok_gateref2_in K, trivial⟩ : FAll Tryz.prog T0 [(39, e_gateref2_in K)])) Tryz.func15 (by decide) rfl (Nat.le_of_ble_eq_true rfl) rfl rfl rfl (tot_none rfl) (cutsOK_none (by rfl)) (q_gateref2_OrderKey K)
/-! ### 66 gatewarden/gateref2.InstanceAt$1 -/
def p_gateref2_InstanceAt_1 (x s1 : D) : List D := [D.b (((x.at' 0).str) == s1.str)]
def e_gateref2_InstanceAt_1 (K : Nat) : Entry := { n := 2, sh := { sl := [(0, .d 55 false), (1, .bx 9 false (.d 9 false))], ob := [] }, kept := [], rs := [{ sl := [(0, .d 4 true)], ob := [] }], f := fun ds => some (p_gateref2_InstanceAt_1 (D.nth ds 0) (D.nth ds 1)), tot := some fun ds => p_gateref2_InstanceAt_1 (D.nth ds 0) (D.nth ds 1) }
def T_gateref2_InstanceAt_1 (K : Nat) : Tbl := { T0 with frz := fun s => memN [2] s, ents := entsOf [], cuts := lk [] }
theorem q_gateref2_InstanceAt_1 (K : Nat) (ds : List D) : evFn (T_gateref2_InstanceAt_1 K) Tryz.f66 .go (e_gateref2_InstanceAt_1 K) ds = (e_gateref2_InstanceAt_1 K).f ds := by kernel_rfl
theorem ok_gateref2_InstanceAt_1 (K : Nat) : FnOK Tryz.prog T0 66 (e_gateref2_InstanceAt_1 K) :=
  fn_thm (T0 := T0) (T := T_gateref2_InstanceAt_1 K) rfl (hT_of hT0 rfl rfl rfl) (hes_ok (T0 := T0) (T := T_gateref2_InstanceAt_1 K) rfl rfl (trivial : FAll Tryz.prog T0 [])) Tryz.func66 (by decide) rfl (Nat.le_of_ble_eq_true rfl) rfl rfl rfl (tot_some rfl fun _ => rfl) (cutsOK_none (by rfl)) (q_gateref2_InstanceAt_1 K)
/-! ### 65 slices.IndexFunc[[]gatewarden/api.Instance,gatewarden/api.Instance] -/
def b_slices_IndexFunc_api_Instance_0 (K : Nat) (rec : List D → Option (Nat × List D)) (ds : List D) : Option (Nat × List D) :=
  let s := D.nth ds 0
  let f_0 := D.nth ds 1
  let s7 := D.nth ds 2
  let s8 := D.nth ds 3
  bif (ltI s8.int s7.int) then
    bif (inB s8.int s.list.length) then
      bif (D.nth (p_gateref2_InstanceAt_1 (D.nth s.list s8.int.toNat) f_0) 0).bool then
        some (0, [s8])
      else
        rec [s, f_0, s7, D.i (IntKind.i64.wrap (s8.int + (1 : Int)))]
    else
      none
  else
    some (1, [])
def c_slices_IndexFunc_api_Instance_0 (K : Nat) : Cut := { sh := { sl := [(0, .d 26 false), (1, .fn 66 [.bx 9 false (.d 9 true)]), (7, .d 3 true), (8, .d 3 true)], ob := [] }, kept := [], outs := [(.ret, { sl := [(4, .d 3 true)], ob := [] }), (.exit 0, { sl := [], ob := [] })], f := fun ds => fixN (b_slices_IndexFunc_api_Instance_0 K) K ds }
def f_slices_IndexFunc_api_Instance (K : Nat) (s f_0 : D) : Option (List D) :=
  (fixN (b_slices_IndexFunc_api_Instance_0 K) K [s, f_0, D.i (s.list.length : Int), D.i 0]).bind fun t1 =>
  bif (t1.1.beq 0) then
    some [D.nth t1.2 0]
  else
    some [D.i (-1)]
def e_slices_IndexFunc_api_Instance (K : Nat) : Entry := { n := 2, sh := { sl := [(0, .d 26 false), (1, .fn 66 [.bx 9 false (.d 9 false)])], ob := [] }, kept := [], rs := [{ sl := [(0, .d 3 true)], ob := [] }], f := fun ds => f_slices_IndexFunc_api_Instance K (D.nth ds 0) (D.nth ds 1), tot := none }
def T_slices_IndexFunc_api_Instance (K : Nat) : Tbl := { T0 with ents := entsOf [(66, e_gateref2_InstanceAt_1 K)], cuts := lk [(0, c_slices_IndexFunc_api_Instance_0 K)] }
theorem q_slices_IndexFunc_api_Instance_0 (K : Nat) (rec : List D → Option (Nat × List D)) (ds : List D) : evLoop (T_slices_IndexFunc_api_Instance K) 19 (sub (codeOf Tryz.f65) [1, 0, 1, 0, 0]) .go (c_slices_IndexFunc_api_Instance_0 K) rec ds = b_slices_IndexFunc_api_Instance_0 K rec ds := by kernel_rfl
theorem k_slices_IndexFunc_api_Instance_0 (K : Nat) : CutOK Tryz.prog (T_slices_IndexFunc_api_Instance K) 19 (sub (codeOf Tryz.f65) [1, 0, 1, 0]) (c_slices_IndexFunc_api_Instance_0 K) :=
  loop_thm (T := T_slices_IndexFunc_api_Instance K) (hT_of hT0 rfl rfl rfl) (hes_ok (T0 := T0) (T := T_slices_IndexFunc_api_Instance K) rfl rfl (⟨ok_gateref2_InstanceAt_1 K, trivial⟩ : FAll Tryz.prog T0 [(66, e_gateref2_InstanceAt_1 K)])) (by kernel_rfl) rfl rfl rfl (cutsOK_none (by rfl)) rfl (q_slices_IndexFunc_api_Instance_0 K)
theorem q_slices_IndexFunc_api_Instance (K : Nat) (ds : List D) : evFn (T_slices_IndexFunc_api_Instance K) Tryz.f65 (.seq .go (.seq (.seq .go (.blk (.cut 0))) .go)) (e_slices_IndexFunc_api_Instance K) ds = (e_slices_IndexFunc_api_Instance K).f ds := by kernel_rfl
theorem ok_slices_IndexFunc_api_Instance (K : Nat) : FnOK Tryz.prog T0 65 (e_slices_IndexFunc_api_Instance K) :=
  fn_thm (T0 := T0) (T := T_slices_IndexFunc_api_Instance K) rfl (hT_of hT0 rfl rfl rfl) (hes_ok (T0 := T0) (T := T_slices_IndexFunc_api_Instance K) rfl rfl (⟨ok_gateref2_InstanceAt_1 K, trivial⟩ : FAll Tryz.prog T0 [(66, e_gateref2_InstanceAt_1 K)])) Tryz.func65 (by decide) rfl (Nat.le_of_ble_eq_true rfl) rfl rfl rfl (tot_none rfl) (cutsOK_list (l := [(0, sub (codeOf Tryz.f65) [1, 0, 1, 0])]) (by kernel_rfl) ⟨cut_one (u := c_slices_IndexFunc_api_Instance_0 K) rfl (k_slices_IndexFunc_api_Instance_0 K), trivial⟩) (q_slices_IndexFunc_api_Instance K)
/-! ### 40 gatewarden/gateref2.InstanceAt -/
def f_gateref2_InstanceAt (K : Nat) (l key : D) : Option (List D) :=
  (f_slices_IndexFunc_api_Instance K l key).bind fun t1 =>
  some [D.nth t1 0]
def e_gateref2_InstanceAt (K : Nat) : Entry := { n := 2, sh := { sl := [(0, .d 26 false), (1, .d 9 false)], ob := [] }, kept := [], rs := [{ sl := [(0, .d 3 true)], ob := [] }], f := fun ds => f_gateref2_InstanceAt K (D.nth ds 0) (D.nth ds 1), tot := none }
def T_gateref2_InstanceAt (K : Nat) : Tbl := { T0 with frz := fun s => memN [3] s, ents := entsOf [(65, e_slices_IndexFunc_api_Instance K)], cuts := lk [] }
theorem q_gateref2_InstanceAt (K : Nat) (ds : List D) : evFn (T_gateref2_InstanceAt K) Tryz.f40 .go (e_gateref2_InstanceAt K) ds = (e_gateref2_InstanceAt K).f ds := by kernel_rfl
theorem ok_gateref2_InstanceAt (K : Nat) : FnOK Tryz.prog T0 40 (e_gateref2_InstanceAt K) :=
  fn_thm (T0 := T0) (T := T_gateref2_InstanceAt K) rfl (hT_of hT0 rfl rfl rfl) (hes_ok (T0 := T0) (T := T_gateref2_InstanceAt K) rfl rfl (⟨ok_slices_IndexFunc_api_Instance K, trivial⟩ : FAll Tryz.prog T0 [(65, e_slices_IndexFunc_api_Instance K)])) Tryz.func40 (by decide) rfl (Nat.le_of_ble_eq_true rfl) rfl rfl rfl (tot_none rfl) (cutsOK_none (by rfl)) (q_gateref2_InstanceAt K)
/-! ### 16 gatewarden/gateref2.LoadsFault -/
def b_gateref2_LoadsFault_0 (K : Nat) (rec : List D → Option (Nat × List D)) (ds : List D) : Option (Nat × List D) :=
  let l := D.nth ds 0
  let last := D.nth ds 1
  let s11 := D.nth ds 2
  let s12 := D.nth ds 3
  let s13 := D.nth ds 4
  bif (ltI s13.int s12.int) then
    bif (inB s13.int s11.list.length) then
      (f_gateref2_InstanceAt K l ((D.nth s11.list s13.int.toNat).at' 0)).bind fun t1 =>
      bif (ltI ((D.nth t1 0).int) 0) then
        some (0, [D.i 8])
      else
        bif ((Op.bytesLess (((D.nth s11.list s13.int.toNat).at' 0).str) last.str) || ((((D.nth s11.list s13.int.toNat).at' 0).str) == last.str)) then
          some (0, [D.i 7])
        else
          bif (!((D.nth (p_gateref2_in ((D.nth s11.list s13.int.toNat).at' 1) (D.i 0) (D.i 1000000)) 0).bool)) then
            some (0, [D.i 1])
          else
            rec [l, (D.nth s11.list s13.int.toNat).at' 0, s11, s12, D.i (IntKind.i64.wrap (s13.int + (1 : Int)))]
    else
      none
  else
    some (1, [])
def c_gateref2_LoadsFault_0 (K : Nat) : Cut := { sh := { sl := [(0, .d 26 false), (5, .d 9 true), (11, .d 30 false), (12, .d 3 true), (13, .d 3 true)], ob := [] }, kept := [], outs := [(.ret, { sl := [(4, .d 33 true)], ob := [] }), (.exit 0, { sl := [], ob := [] })], f := fun ds => fixN (b_gateref2_LoadsFault_0 K) K ds }
def f_gateref2_LoadsFault (K : Nat) (l loads : D) : Option (List D) :=
  bif (gtI (loads.list.length : Int) 50) then
    some [D.i 2]
  else
    (fixN (b_gateref2_LoadsFault_0 K) K [l, D.s [], loads, D.i (loads.list.length : Int), D.i 0]).bind fun t1 =>
    bif (t1.1.beq 0) then
      some [D.nth t1.2 0]
    else
      some [D.i 0]
def e_gateref2_LoadsFault (K : Nat) : Entry := { n := 2, sh := { sl := [(0, .d 26 false), (1, .d 30 false)], ob := [] }, kept := [], rs := [{ sl := [(0, .d 33 true)], ob := [] }], f := fun ds => f_gateref2_LoadsFault K (D.nth ds 0) (D.nth ds 1), tot := none }
def T_gateref2_LoadsFault (K : Nat) : Tbl := { T0 with ents := entsOf [(40, e_gateref2_InstanceAt K), (39, e_gateref2_in K)], cuts := lk [(0, c_gateref2_LoadsFault_0 K)] }
theorem q_gateref2_LoadsFault_0 (K : Nat) (rec : List D → Option (Nat × List D)) (ds : List D) : evLoop (T_gateref2_LoadsFault K) 36 (sub (codeOf Tryz.f16) [1, 1, 1, 0, 1, 0, 0]) .go (c_gateref2_LoadsFault_0 K) rec ds = b_gateref2_LoadsFault_0 K rec ds := by kernel_rfl
theorem k_gateref2_LoadsFault_0 (K : Nat) : CutOK Tryz.prog (T_gateref2_LoadsFault K) 36 (sub (codeOf Tryz.f16) [1, 1, 1, 0, 1, 0]) (c_gateref2_LoadsFault_0 K) :=
  loop_thm (T := T_gateref2_LoadsFault K) (hT_of hT0 rfl rfl rfl) (hes_ok (T0 := T0) (T := T_gateref2_LoadsFault K) rfl rfl (⟨ok_gateref2_InstanceAt K, ok_gateref2_in K, trivial⟩ : FAll Tryz.prog T0 [(40, e_gateref2_InstanceAt K), (39, e_gateref2_in K)])) (by kernel_rfl) rfl rfl rfl (cutsOK_none (by rfl)) rfl (q_gateref2_LoadsFault_0 K)
theorem q_gateref2_LoadsFault (K : Nat) (ds : List D) : evFn (T_gateref2_LoadsFault K) Tryz.f16 (.seq .go (.seq .go (.seq .go (.seq (.seq .go (.blk (.cut 0))) .go)))) (e_gateref2_LoadsFault K) ds = (e_gateref2_LoadsFault K).f ds := by kernel_rfl
theorem ok_gateref2_LoadsFault (K : Nat) : FnOK Tryz.prog T0 16 (e_gateref2_LoadsFault K) :=
  fn_thm (T0 := T0) (T := T_gateref2_LoadsFault K) rfl (hT_of hT0 rfl rfl rfl) (hes_ok (T0 := T0) (T := T_gateref2_LoadsFault K) rfl rfl (⟨ok_gateref2_InstanceAt K, ok_gateref2_in K, trivial⟩ : FAll Tryz.prog T0 [(40, e_gateref2_InstanceAt K), (39, e_gateref2_in K)])) Tryz.func16 (by decide) rfl (Nat.le_of_ble_eq_true rfl) rfl rfl rfl (tot_none rfl) (cutsOK_list (l := [(0, sub (codeOf Tryz.f16) [1, 1, 1, 0, 1, 0])]) (by kernel_rfl) ⟨cut_one (u := c_gateref2_LoadsFault_0 K) rfl (k_gateref2_LoadsFault_0 K), trivial⟩) (q_gateref2_LoadsFault K)
/-! ### 18 gatewarden/gateref2.RoundOf -/
def b_gateref2_RoundOf_2 (K : Nat) (rec : List D → Option (Nat × List D)) (ds : List D) : Option (Nat × List D) :=
  let sum := D.nth ds 0
  let k := D.nth ds 1
  let best := D.nth ds 2
  let most := D.nth ds 3
  let s34 := D.nth ds 4
  let s35 := D.nth ds 5
  let s36 := D.nth ds 6
  let r0 := D.nth ds 7
  bif (ltI s36.int s35.int) then
    bif (inB s36.int s34.list.length) then
      bif (inB s36.int r0.list.length) then
        bif (bif (s36.int == (0 : Int)) then true else (gtI (IntKind.i64.wrap ((IntKind.i64.wrap ((IntKind.i64.wrap (k.int + (1 : Int))) * (((D.nth s34.list s36.int.toNat).at' 1).int))) - (IntKind.i64.wrap (((D.nth r0.list s36.int.toNat).int) * sum.int)))) most.int)) then
          rec [sum, k, s36, D.i (IntKind.i64.wrap ((IntKind.i64.wrap ((IntKind.i64.wrap (k.int + (1 : Int))) * (((D.nth s34.list s36.int.toNat).at' 1).int))) - (IntKind.i64.wrap (((D.nth r0.list s36.int.toNat).int) * sum.int)))), s34, s35, D.i (IntKind.i64.wrap (s36.int + (1 : Int))), D.n r0.list]
        else
          rec [sum, k, best, most, s34, s35, D.i (IntKind.i64.wrap (s36.int + (1 : Int))), D.n r0.list]
      else
        none
    else
      none
  else
    some (0, [best, D.n r0.list])
def c_gateref2_RoundOf_2 (K : Nat) : Cut := { sh := { sl := [(5, .d 3 true), (8, .own 22 0), (10, .d 3 true), (11, .d 3 true), (12, .d 3 true), (34, .d 26 false), (35, .d 3 true), (36, .d 3 true)], ob := [(0, .row 3 true)] }, kept := [0], outs := [(.exit 4, { sl := [(11, .d 3 true)], ob := [(0, .row 3 true)] })], f := fun ds => fixN (b_gateref2_RoundOf_2 K) K ds }
def b_gateref2_RoundOf_1 (K : Nat) (rec : List D → Option (Nat × List D)) (ds : List D) : Option (Nat × List D) :=
  let l := D.nth ds 0
  let sum := D.nth ds 1
  let s30 := D.nth ds 2
  let s31 := D.nth ds 3
  let r0 := D.nth ds 4
  let r1 := D.nth ds 5
  bif (ltI s31.int s30.int) then
    (fixN (b_gateref2_RoundOf_2 K) K [sum, s31, D.i 0, D.i 0, l, D.i (l.list.length : Int), D.i 0, D.n r0.list]).bind fun t2 =>
    bif (inB ((D.nth t2.2 0).int) (((D.nth t2.2 1).list).length)) then
      bif (inB ((D.nth t2.2 0).int) (((D.nth t2.2 1).list).length)) then
        bif (inB ((D.nth t2.2 0).int) l.list.length) then
          bif (lim (r1.list.length + 1)) then
            rec [l, sum, s30, D.i (IntKind.i64.wrap (s31.int + (1 : Int))), D.n (D.setNth ((D.nth t2.2 1).list) (((D.nth t2.2 0).int).toNat) (D.i (IntKind.i64.wrap (((D.nth ((D.nth t2.2 1).list) (((D.nth t2.2 0).int).toNat)).int) + (1 : Int))))), D.n (r1.list ++ [(D.nth l.list (((D.nth t2.2 0).int).toNat)).at' 0])]
          else
            none
        else
          none
      else
        none
    else
      none
  else
    some (0, [D.n r0.list, D.n r1.list])
def c_gateref2_RoundOf_1 (K : Nat) : Cut := { sh := { sl := [(0, .d 26 false), (5, .d 3 true), (8, .own 22 0), (9, .own 32 1), (30, .d 3 true), (31, .d 3 true)], ob := [(0, .row 3 true), (1, .row 9 true)] }, kept := [0], outs := [(.exit 2, { sl := [(9, .own 32 1)], ob := [(0, .row 3 true), (1, .row 9 true)] })], f := fun ds => fixN (b_gateref2_RoundOf_1 K) K ds }
def b_gateref2_RoundOf_0 (K : Nat) (rec : List D → Option (Nat × List D)) (ds : List D) : Option (Nat × List D) :=
  let sum := D.nth ds 0
  let s16 := D.nth ds 1
  let s17 := D.nth ds 2
  let s18 := D.nth ds 3
  bif (ltI s18.int s17.int) then
    bif (inB s18.int s16.list.length) then
      rec [D.i (IntKind.i64.wrap (sum.int + (((D.nth s16.list s18.int.toNat).at' 1).int))), s16, s17, D.i (IntKind.i64.wrap (s18.int + (1 : Int)))]
    else
      none
  else
    some (0, [sum])
def c_gateref2_RoundOf_0 (K : Nat) : Cut := { sh := { sl := [(5, .d 3 true), (16, .d 26 false), (17, .d 3 true), (18, .d 3 true)], ob := [] }, kept := [], outs := [(.exit 0, { sl := [(5, .d 3 true)], ob := [] })], f := fun ds => fixN (b_gateref2_RoundOf_0 K) K ds }
def f_gateref2_RoundOf (K : Nat) (l many : D) : Option (List D) :=
  (fixN (b_gateref2_RoundOf_0 K) K [D.i 0, l, D.i (l.list.length : Int), D.i 0]).bind fun t1 =>
  bif ((leI 0 (l.list.length : Int)) && (lim ((l.list.length : Int).toNat))) then
    (fixN (b_gateref2_RoundOf_1 K) K [l, D.nth t1.2 0, many, D.i 0, D.n (List.replicate ((l.list.length : Int).toNat) (D.n [])), D.n []]).bind fun t2 =>
    some [D.n ((D.nth t2.2 1).list)]
  else
    none
def e_gateref2_RoundOf (K : Nat) : Entry := { n := 2, sh := { sl := [(0, .d 26 false), (1, .d 3 false)], ob := [] }, kept := [], rs := [{ sl := [(0, .own 32 0)], ob := [(0, .row 9 true)] }], f := fun ds => f_gateref2_RoundOf K (D.nth ds 0) (D.nth ds 1), tot := none }
def T_gateref2_RoundOf (K : Nat) : Tbl := { T0 with ents := entsOf [], cuts := lk [(0, c_gateref2_RoundOf_0 K), (1, c_gateref2_RoundOf_1 K), (2, c_gateref2_RoundOf_2 K)] }
theorem q_gateref2_RoundOf_2 (K : Nat) (rec : List D → Option (Nat × List D)) (ds : List D) : evLoop (T_gateref2_RoundOf K) 79 (sub (codeOf Tryz.f18) [1, 1, 1, 1, 1, 0, 1, 0, 0, 1, 1, 0, 0, 1, 1, 0, 1, 0, 0]) .go (c_gateref2_RoundOf_2 K) rec ds = b_gateref2_RoundOf_2 K rec ds := by kernel_rfl
theorem k_gateref2_RoundOf_2 (K : Nat) : CutOK Tryz.prog (T_gateref2_RoundOf K) 79 (sub (codeOf Tryz.f18) [1, 1, 1, 1, 1, 0, 1, 0, 0, 1, 1, 0, 0, 1, 1, 0, 1, 0]) (c_gateref2_RoundOf_2 K) :=
  loop_thm (T := T_gateref2_RoundOf K) (hT_of hT0 rfl rfl rfl) (hes_ok (T0 := T0) (T := T_gateref2_RoundOf K) rfl rfl (trivial : FAll Tryz.prog T0 [])) (by kernel_rfl) rfl rfl rfl (cutsOK_none (by rfl)) rfl (q_gateref2_RoundOf_2 K)
theorem q_gateref2_RoundOf_1 (K : Nat) (rec : List D → Option (Nat × List D)) (ds : List D) : evLoop (T_gateref2_RoundOf K) 79 (sub (codeOf Tryz.f18) [1, 1, 1, 1, 1, 0, 1, 0, 0]) (.seq .go (.seq .go (.seq (.blk (.seq .go (.seq .go (.seq (.seq .go (.blk (.cut 2))) .go)))) .go))) (c_gateref2_RoundOf_1 K) rec ds = b_gateref2_RoundOf_1 K rec ds := by kernel_rfl
theorem k_gateref2_RoundOf_1 (K : Nat) : CutOK Tryz.prog (T_gateref2_RoundOf K) 79 (sub (codeOf Tryz.f18) [1, 1, 1, 1, 1, 0, 1, 0]) (c_gateref2_RoundOf_1 K) :=
  loop_thm (T := T_gateref2_RoundOf K) (hT_of hT0 rfl rfl rfl) (hes_ok (T0 := T0) (T := T_gateref2_RoundOf K) rfl rfl (trivial : FAll Tryz.prog T0 [])) (by kernel_rfl) rfl rfl rfl (cutsOK_list (l := [(2, sub (codeOf Tryz.f18) [1, 1, 1, 1, 1, 0, 1, 0, 0, 1, 1, 0, 0, 1, 1, 0, 1, 0])]) (by kernel_rfl) ⟨cut_one (u := c_gateref2_RoundOf_2 K) rfl (k_gateref2_RoundOf_2 K), trivial⟩) rfl (q_gateref2_RoundOf_1 K)
theorem q_gateref2_RoundOf_0 (K : Nat) (rec : List D → Option (Nat × List D)) (ds : List D) : evLoop (T_gateref2_RoundOf K) 79 (sub (codeOf Tryz.f18) [1, 1, 0, 1, 0, 0]) .go (c_gateref2_RoundOf_0 K) rec ds = b_gateref2_RoundOf_0 K rec ds := by kernel_rfl
theorem k_gateref2_RoundOf_0 (K : Nat) : CutOK Tryz.prog (T_gateref2_RoundOf K) 79 (sub (codeOf Tryz.f18) [1, 1, 0, 1, 0]) (c_gateref2_RoundOf_0 K) :=
  loop_thm (T := T_gateref2_RoundOf K) (hT_of hT0 rfl rfl rfl) (hes_ok (T0 := T0) (T := T_gateref2_RoundOf K) rfl rfl (trivial : FAll Tryz.prog T0 [])) (by kernel_rfl) rfl rfl rfl (cutsOK_none (by rfl)) rfl (q_gateref2_RoundOf_0 K)
theorem q_gateref2_RoundOf (K : Nat) (ds : List D) : evFn (T_gateref2_RoundOf K) Tryz.f18 (.seq .go (.seq .go (.seq (.seq .go (.blk (.cut 0))) (.seq .go (.seq .go (.seq (.seq .go (.blk (.cut 1))) .go)))))) (e_gateref2_RoundOf K) ds = (e_gateref2_RoundOf K).f ds := by kernel_rfl
theorem ok_gateref2_RoundOf (K : Nat) : FnOK Tryz.prog T0 18 (e_gateref2_RoundOf K) :=
  fn_thm (T0 := T0) (T := T_gateref2_RoundOf K) rfl (hT_of hT0 rfl rfl rfl) (hes_ok (T0 := T0) (T := T_gateref2_RoundOf K) rfl rfl (trivial : FAll Tryz.prog T0 [])) Tryz.func18 (by decide) rfl (Nat.le_of_ble_eq_true rfl) rfl rfl rfl (tot_none rfl) (cutsOK_list (l := [(0, sub (codeOf Tryz.f18) [1, 1, 0, 1, 0]), (1, sub (codeOf Tryz.f18) [1, 1, 1, 1, 1, 0, 1, 0])]) (by kernel_rfl) ⟨cut_one (u := c_gateref2_RoundOf_0 K) rfl (k_gateref2_RoundOf_0 K), cut_one (u := c_gateref2_RoundOf_1 K) rfl (k_gateref2_RoundOf_1 K), trivial⟩) (q_gateref2_RoundOf K)
/-! ### 17 slices.Equal[[]string,string] -/
def b_slices_Equal_string_0 (K : Nat) (rec : List D → Option (Nat × List D)) (ds : List D) : Option (Nat × List D) :=
  let s1 := D.nth ds 0
  let s2 := D.nth ds 1
  let s12 := D.nth ds 2
  let s13 := D.nth ds 3
  bif (ltI s13.int s12.int) then
    bif (inB s13.int s1.list.length) then
      bif (inB s13.int s2.list.length) then
        bif (!(((D.nth s1.list s13.int.toNat).str) == ((D.nth s2.list s13.int.toNat).str))) then
          some (0, [D.b false])
        else
          rec [s1, s2, s12, D.i (IntKind.i64.wrap (s13.int + (1 : Int)))]
      else
        none
    else
      none
  else
    some (1, [])
def c_slices_Equal_string_0 (K : Nat) : Cut := { sh := { sl := [(0, .d 32 false), (1, .d 32 false), (12, .d 3 true), (13, .d 3 true)], ob := [] }, kept := [], outs := [(.ret, { sl := [(4, .d 4 true)], ob := [] }), (.exit 0, { sl := [], ob := [] })], f := fun ds => fixN (b_slices_Equal_string_0 K) K ds }
def f_slices_Equal_string (K : Nat) (s1 s2 : D) : Option (List D) :=
  bif ((s1.list.length : Int) != (s2.list.length : Int)) then
    some [D.b false]
  else
    (fixN (b_slices_Equal_string_0 K) K [s1, s2, D.i (s1.list.length : Int), D.i 0]).bind fun t1 =>
    bif (t1.1.beq 0) then
      some [D.nth t1.2 0]
    else
      some [D.b true]
def e_slices_Equal_string (K : Nat) : Entry := { n := 2, sh := { sl := [(0, .d 32 false), (1, .d 32 false)], ob := [] }, kept := [], rs := [{ sl := [(0, .d 4 true)], ob := [] }], f := fun ds => f_slices_Equal_string K (D.nth ds 0) (D.nth ds 1), tot := none }
def T_slices_Equal_string (K : Nat) : Tbl := { T0 with ents := entsOf [], cuts := lk [(0, c_slices_Equal_string_0 K)] }
theorem q_slices_Equal_string_0 (K : Nat) (rec : List D → Option (Nat × List D)) (ds : List D) : evLoop (T_slices_Equal_string K) 26 (sub (codeOf Tryz.f17) [1, 1, 0, 1, 0, 0]) .go (c_slices_Equal_string_0 K) rec ds = b_slices_Equal_string_0 K rec ds := by kernel_rfl
theorem k_slices_Equal_string_0 (K : Nat) : CutOK Tryz.prog (T_slices_Equal_string K) 26 (sub (codeOf Tryz.f17) [1, 1, 0, 1, 0]) (c_slices_Equal_string_0 K) :=
  loop_thm (T := T_slices_Equal_string K) (hT_of hT0 rfl rfl rfl) (hes_ok (T0 := T0) (T := T_slices_Equal_string K) rfl rfl (trivial : FAll Tryz.prog T0 [])) (by kernel_rfl) rfl rfl rfl (cutsOK_none (by rfl)) rfl (q_slices_Equal_string_0 K)
theorem q_slices_Equal_string (K : Nat) (ds : List D) : evFn (T_slices_Equal_string K) Tryz.f17 (.seq .go (.seq .go (.seq (.seq .go (.blk (.cut 0))) .go))) (e_slices_Equal_string K) ds = (e_slices_Equal_string K).f ds := by kernel_rfl
theorem ok_slices_Equal_string (K : Nat) : FnOK Tryz.prog T0 17 (e_slices_Equal_string K) :=
  fn_thm (T0 := T0) (T := T_slices_Equal_string K) rfl (hT_of hT0 rfl rfl rfl) (hes_ok (T0 := T0) (T := T_slices_Equal_string K) rfl rfl (trivial : FAll Tryz.prog T0 [])) Tryz.func17 (by decide) rfl (Nat.le_of_ble_eq_true rfl) rfl rfl rfl (tot_none rfl) (cutsOK_list (l := [(0, sub (codeOf Tryz.f17) [1, 1, 0, 1, 0])]) (by kernel_rfl) ⟨cut_one (u := c_slices_Equal_string_0 K) rfl (k_slices_Equal_string_0 K), trivial⟩) (q_slices_Equal_string K)
/-! ### 67 strings.Join -/
def lays_strings_Join_ren : Go.Shelf.Ren := ⟨fun | 156 => 67 | 165 => 50 | 166 => 51 | 169 => 53 | 240 => 72 | 241 => 73 | 276 => 81 | 277 => 82 | n => n, fun | 31 => 32 | 9 => 9 | 3 => 3 | 4 => 4 | 0 => 0 | 20 => 20 | 72 => 86 | 76 => 90 | 70 => 83 | 37 => 84 | 75 => 89 | 127 => 108 | 164 => 114 | 5 => 5 | 80 => 29 | n => n, fun | n => n⟩
theorem lays_strings_Join : Go.Proofs.Lays.n156 Tryz.prog lays_strings_Join_ren where
  mixed := by kernel_rfl
  f156 := Tryz.func67.trans (congrArg some (by kernel_rfl))
  f165 := Tryz.func50.trans (congrArg some (by kernel_rfl))
  f166 := Tryz.func51.trans (congrArg some (by kernel_rfl))
  f169 := Tryz.func53.trans (congrArg some (by kernel_rfl))
  f240 := Tryz.func72.trans (congrArg some (by kernel_rfl))
  f241 := Tryz.func73.trans (congrArg some (by kernel_rfl))
  f276 := Tryz.func81.trans (congrArg some (by kernel_rfl))
  f277 := Tryz.func82.trans (congrArg some (by kernel_rfl))
  t0 := Tryz.underlying0
  a0 := Tryz.isAgg0
  z0 := Tryz.sizeOf0
  v0 := Tryz.zeroValue0
  t3 := Tryz.underlying3
  a3 := Tryz.isAgg3
  z3 := Tryz.sizeOf3
  v3 := Tryz.zeroValue3
  t4 := Tryz.underlying4
  a4 := Tryz.isAgg4
  z4 := Tryz.sizeOf4
  v4 := Tryz.zeroValue4
  t9 := Tryz.underlying9
  a9 := Tryz.isAgg9
  z9 := Tryz.sizeOf9
  v9 := Tryz.zeroValue9
  t20 := Tryz.underlying20
  a20 := Tryz.isAgg20
  z20 := Tryz.sizeOf20
  v20 := Tryz.zeroValue20
  t31 := Tryz.underlying32
  a31 := Tryz.isAgg32
  z31 := Tryz.sizeOf32
  v31 := Tryz.zeroValue32
  t37 := Tryz.underlying84
  a37 := Tryz.isAgg84
  z37 := Tryz.sizeOf84
  v37 := Tryz.zeroValue84
  t70 := Tryz.underlying83
  a70 := Tryz.isAgg83
  z70 := Tryz.sizeOf83
  v70 := Tryz.zeroValue83
  t72 := Tryz.underlying86
  a72 := Tryz.isAgg86
  z72 := Tryz.sizeOf86
  v72 := Tryz.zeroValue86
  t75 := Tryz.underlying89
  a75 := Tryz.isAgg89
  z75 := Tryz.sizeOf89
  v75 := Tryz.zeroValue89
  t76 := Tryz.underlying90
  a76 := Tryz.isAgg90
  z76 := Tryz.sizeOf90
  v76 := Tryz.zeroValue90
  t127 := Tryz.underlying108
  a127 := Tryz.isAgg108
  z127 := Tryz.sizeOf108
  v127 := Tryz.zeroValue108
  t164 := Tryz.underlying114
  a164 := Tryz.isAgg114
  z164 := Tryz.sizeOf114
  v164 := Tryz.zeroValue114
theorem lays_strings_Join_x : Builder.Extra Tryz.prog lays_strings_Join_ren where
  sizeBuilder := by kernel_rfl
  liesBuilder := by kernel_rfl
  t5 := Tryz.underlying5
  a5 := Tryz.isAgg5
  z5 := Tryz.sizeOf5
  v5 := Tryz.zeroValue5
  infoByte := by kernel_rfl
  cellsByte := by kernel_rfl
  sizeByte := by kernel_rfl
  neB5 := by decide
def f_strings_Join (x y : D) : Option (List D) := joinF x y
def e_strings_Join (K : Nat) : Entry := flat2 32 9 9 (fun ds => f_strings_Join (D.nth ds 0) (D.nth ds 1)) none
theorem ok_strings_Join (K : Nat) : FnOK Tryz.prog T0 67 (e_strings_Join K) :=
  join_ok (T := T0) Tryz.func67 rfl (by decide) rfl rfl rfl (fun bk o c xs sep w h1 h2 h3 h4 h5 h6 => Any.strings_Join_many lays_strings_Join lays_strings_Join_x bk o c xs sep w h1 h2 h3 h4 h5 h6)
/-! ### 41 gatewarden/gateref2.hashed -/
def b_gateref2_hashed_0 (K : Nat) (rec : List D → Option (Nat × List D)) (ds : List D) : Option (Nat × List D) :=
  let h := D.nth ds 0
  let s := D.nth ds 1
  let s9 := D.nth ds 2
  let s10 := D.nth ds 3
  bif (ltI s10.int s9.int) then
    bif (inB s10.int s.str.length) then
      rec [D.i (IntKind.u64.wrap ((bitsI .xor .u64 h.int (IntKind.u64.wrap (byteAt s.str s10.int.toNat))) * (1099511628211 : Int))), s, s9, D.i (IntKind.i64.wrap (s10.int + (1 : Int)))]
    else
      none
  else
    some (0, [h])
def c_gateref2_hashed_0 (K : Nat) : Cut := { sh := { sl := [(3, .d 74 true), (4, .d 9 true), (9, .d 3 true), (10, .d 3 true)], ob := [] }, kept := [], outs := [(.exit 0, { sl := [(3, .d 74 true)], ob := [] })], f := fun ds => fixN (b_gateref2_hashed_0 K) K ds }
def f_gateref2_hashed (K : Nat) (l : D) : Option (List D) :=
  (f_strings_Join l (D.s [0])).bind fun t1 =>
  (fixN (b_gateref2_hashed_0 K) K [D.i 14695981039346656037, D.nth t1 0, D.i (((D.nth t1 0).str).length : Int), D.i 0]).bind fun t2 =>
  some [D.nth t2.2 0]
def e_gateref2_hashed (K : Nat) : Entry := { n := 1, sh := { sl := [(0, .d 32 false)], ob := [] }, kept := [], rs := [{ sl := [(0, .d 74 true)], ob := [] }], f := fun ds => f_gateref2_hashed K (D.nth ds 0), tot := none }
def T_gateref2_hashed (K : Nat) : Tbl := { T0 with ents := entsOf [(67, e_strings_Join K)], cuts := lk [(0, c_gateref2_hashed_0 K)] }
theorem q_gateref2_hashed_0 (K : Nat) (rec : List D → Option (Nat × List D)) (ds : List D) : evLoop (T_gateref2_hashed K) 22 (sub (codeOf Tryz.f41) [1, 1, 1, 0, 1, 0, 0]) .go (c_gateref2_hashed_0 K) rec ds = b_gateref2_hashed_0 K rec ds := by kernel_rfl
theorem k_gateref2_hashed_0 (K : Nat) : CutOK Tryz.prog (T_gateref2_hashed K) 22 (sub (codeOf Tryz.f41) [1, 1, 1, 0, 1, 0]) (c_gateref2_hashed_0 K) :=
  loop_thm (T := T_gateref2_hashed K) (hT_of hT0 rfl rfl rfl) (hes_ok (T0 := T0) (T := T_gateref2_hashed K) rfl rfl (⟨ok_strings_Join K, trivial⟩ : FAll Tryz.prog T0 [(67, e_strings_Join K)])) (by kernel_rfl) rfl rfl rfl (cutsOK_none (by rfl)) rfl (q_gateref2_hashed_0 K)
theorem q_gateref2_hashed (K : Nat) (ds : List D) : evFn (T_gateref2_hashed K) Tryz.f41 (.seq .go (.seq .go (.seq .go (.seq (.seq .go (.blk (.cut 0))) .go)))) (e_gateref2_hashed K) ds = (e_gateref2_hashed K).f ds := by kernel_rfl
theorem ok_gateref2_hashed (K : Nat) : FnOK Tryz.prog T0 41 (e_gateref2_hashed K) :=
  fn_thm (T0 := T0) (T := T_gateref2_hashed K) rfl (hT_of hT0 rfl rfl rfl) (hes_ok (T0 := T0) (T := T_gateref2_hashed K) rfl rfl (⟨ok_strings_Join K, trivial⟩ : FAll Tryz.prog T0 [(67, e_strings_Join K)])) Tryz.func41 (by decide) rfl (Nat.le_of_ble_eq_true rfl) rfl rfl rfl (tot_none rfl) (cutsOK_list (l := [(0, sub (codeOf Tryz.f41) [1, 1, 1, 0, 1, 0])]) (by kernel_rfl) ⟨cut_one (u := c_gateref2_hashed_0 K) rfl (k_gateref2_hashed_0 K), trivial⟩) (q_gateref2_hashed K)
/-! ### 44 gatewarden/gateref2.sign -/
def f_gateref2_sign (K : Nat) (n : D) : Option (List D) :=
  bif (ltI n.int 0) then
    some [D.i (-1)]
  else
    bif (gtI n.int 0) then
      some [D.i 1]
    else
      some [D.i 0]
def e_gateref2_sign (K : Nat) : Entry := { n := 1, sh := { sl := [(0, .d 3 false)], ob := [] }, kept := [], rs := [{ sl := [(0, .d 3 true)], ob := [] }], f := fun ds => f_gateref2_sign K (D.nth ds 0), tot := none }
def T_gateref2_sign (K : Nat) : Tbl := { T0 with ents := entsOf [], cuts := lk [] }
theorem q_gateref2_sign (K : Nat) (ds : List D) : evFn (T_gateref2_sign K) Tryz.f44 .go (e_gateref2_sign K) ds = (e_gateref2_sign K).f ds := by kernel_rfl
theorem ok_gateref2_sign (K : Nat) : FnOK Tryz.prog T0 44 (e_gateref2_sign K) :=
  fn_thm (T0 := T0) (T := T_gateref2_sign K) rfl (hT_of hT0 rfl rfl rfl) (hes_ok (T0 := T0) (T := T_gateref2_sign K) rfl rfl (trivial : FAll Tryz.prog T0 [])) Tryz.func44 (by decide) rfl (Nat.le_of_ble_eq_true rfl) rfl rfl rfl (tot_none rfl) (cutsOK_none (by rfl)) (q_gateref2_sign K)
/-! ### 43 gatewarden/gateref2.OrderOf$1 -/
def f_gateref2_OrderOf_1 (K : Nat) (a b r1 : D) : Option (List D) :=
  (f_gateref2_sign K (D.i (IntKind.i64.wrap (((mapGet .str b r1.list).int) - ((mapGet .str a r1.list).int))))).bind fun t1 =>
  some [D.nth t1 0, D.n r1.list]
def e_gateref2_OrderOf_1 (K : Nat) : Entry := { n := 3, sh := { sl := [(0, .d 9 false), (1, .d 9 false), (2, .ptr 73 0 [])], ob := [(0, .box 73 (.own 73 1)), (1, .map 73 true)] }, kept := [0, 1], rs := [{ sl := [(0, .d 3 true)], ob := [(0, .box 73 (.own 73 1)), (1, .map 73 true)] }], f := fun ds => f_gateref2_OrderOf_1 K (D.nth ds 0) (D.nth ds 1) (D.nth ds 2), tot := none }
def T_gateref2_OrderOf_1 (K : Nat) : Tbl := { T0 with ents := entsOf [(44, e_gateref2_sign K)], cuts := lk [] }
theorem q_gateref2_OrderOf_1 (K : Nat) (ds : List D) : evFn (T_gateref2_OrderOf_1 K) Tryz.f43 .go (e_gateref2_OrderOf_1 K) ds = (e_gateref2_OrderOf_1 K).f ds := by kernel_rfl
theorem ok_gateref2_OrderOf_1 (K : Nat) : FnOK Tryz.prog T0 43 (e_gateref2_OrderOf_1 K) :=
  fn_thm (T0 := T0) (T := T_gateref2_OrderOf_1 K) rfl (hT_of hT0 rfl rfl rfl) (hes_ok (T0 := T0) (T := T_gateref2_OrderOf_1 K) rfl rfl (⟨ok_gateref2_sign K, trivial⟩ : FAll Tryz.prog T0 [(44, e_gateref2_sign K)])) Tryz.func43 (by decide) rfl (Nat.le_of_ble_eq_true rfl) rfl rfl rfl (tot_none rfl) (cutsOK_none (by rfl)) (q_gateref2_OrderOf_1 K)
/-! ### 79 slices.insertionSortCmpFunc[string] -/
def b_slices_insertionSortCmpFunc_string_2 (K : Nat) (ds : List D) : Option (Nat × List D) :=
  let a := D.nth ds 0
  let j := D.nth ds 1
  let r0 := D.nth ds 2
  let r2 := D.nth ds 3
  bif ((!(gtI j.int a.int)) || (inB j.int r0.list.length)) then
    bif ((!(gtI j.int a.int)) || (inB (IntKind.i64.wrap (j.int - (1 : Int))) r0.list.length)) then
      bif (gtI j.int a.int) then
        (f_gateref2_OrderOf_1 K (D.nth r0.list j.int.toNat) (D.nth r0.list ((IntKind.i64.wrap (j.int - (1 : Int))).toNat)) (D.n r2.list)).bind fun t1 =>
        some (0, [D.b (ltI ((D.nth t1 0).int) 0), D.n r0.list, D.n ((D.nth t1 1).list)])
      else
        some (0, [D.b false, D.n r0.list, D.n r2.list])
    else
      none
  else
    none
def c_slices_insertionSortCmpFunc_string_2 (K : Nat) : Cut := { sh := { sl := [(0, .own 32 0), (1, .d 3 true), (3, .fn 43 [.ptr 73 1 []]), (9, .d 3 true)], ob := [(0, .row 9 true), (1, .box 73 (.own 73 2)), (2, .map 73 true)] }, kept := [0, 1, 2], outs := [(.normal, { sl := [(34, .d 4 true)], ob := [(0, .row 9 true), (1, .box 73 (.own 73 2)), (2, .map 73 true)] })], f := b_slices_insertionSortCmpFunc_string_2 K }
def b_slices_insertionSortCmpFunc_string_1 (K : Nat) (rec : List D → Option (Nat × List D)) (ds : List D) : Option (Nat × List D) :=
  let a := D.nth ds 0
  let j := D.nth ds 1
  let r0 := D.nth ds 2
  let r2 := D.nth ds 3
  (b_slices_insertionSortCmpFunc_string_2 K [a, j, D.n r0.list, D.n r2.list]).bind fun t1 =>
  bif (D.nth t1.2 0).bool then
    bif (inB (IntKind.i64.wrap (j.int - (1 : Int))) (((D.nth t1.2 1).list).length)) then
      bif (inB j.int (((D.nth t1.2 1).list).length)) then
        bif (inB j.int (((D.nth t1.2 1).list).length)) then
          bif (inB (IntKind.i64.wrap (j.int - (1 : Int))) ((D.setNth ((D.nth t1.2 1).list) j.int.toNat (D.nth ((D.nth t1.2 1).list) ((IntKind.i64.wrap (j.int - (1 : Int))).toNat))).length)) then
            rec [a, D.i (IntKind.i64.wrap (j.int - (1 : Int))), D.n (D.setNth (D.setNth ((D.nth t1.2 1).list) j.int.toNat (D.nth ((D.nth t1.2 1).list) ((IntKind.i64.wrap (j.int - (1 : Int))).toNat))) ((IntKind.i64.wrap (j.int - (1 : Int))).toNat) (D.nth ((D.nth t1.2 1).list) j.int.toNat)), D.n ((D.nth t1.2 2).list)]
          else
            none
        else
          none
      else
        none
    else
      none
  else
    some (0, [D.n ((D.nth t1.2 1).list), D.n ((D.nth t1.2 2).list)])
def c_slices_insertionSortCmpFunc_string_1 (K : Nat) : Cut := { sh := { sl := [(0, .own 32 0), (1, .d 3 true), (3, .fn 43 [.ptr 73 1 []]), (9, .d 3 true)], ob := [(0, .row 9 true), (1, .box 73 (.own 73 2)), (2, .map 73 true)] }, kept := [0, 1, 2], outs := [(.exit 2, { sl := [], ob := [(0, .row 9 true), (1, .box 73 (.own 73 2)), (2, .map 73 true)] })], f := fun ds => fixN (b_slices_insertionSortCmpFunc_string_1 K) K ds }
def b_slices_insertionSortCmpFunc_string_0 (K : Nat) (rec : List D → Option (Nat × List D)) (ds : List D) : Option (Nat × List D) :=
  let a := D.nth ds 0
  let b := D.nth ds 1
  let i := D.nth ds 2
  let r0 := D.nth ds 3
  let r2 := D.nth ds 4
  bif (ltI i.int b.int) then
    (fixN (b_slices_insertionSortCmpFunc_string_1 K) K [a, i, D.n r0.list, D.n r2.list]).bind fun t1 =>
    rec [a, b, D.i (IntKind.i64.wrap (i.int + (1 : Int))), D.n ((D.nth t1.2 0).list), D.n ((D.nth t1.2 1).list)]
  else
    some (0, [D.n r0.list, D.n r2.list])
def c_slices_insertionSortCmpFunc_string_0 (K : Nat) : Cut := { sh := { sl := [(0, .own 32 0), (1, .d 3 true), (2, .d 3 true), (3, .fn 43 [.ptr 73 1 []]), (8, .d 3 true)], ob := [(0, .row 9 true), (1, .box 73 (.own 73 2)), (2, .map 73 true)] }, kept := [0, 1, 2], outs := [(.exit 0, { sl := [], ob := [(0, .row 9 true), (1, .box 73 (.own 73 2)), (2, .map 73 true)] })], f := fun ds => fixN (b_slices_insertionSortCmpFunc_string_0 K) K ds }
def f_slices_insertionSortCmpFunc_string (K : Nat) (a b r0 r2 : D) : Option (List D) :=
  (fixN (b_slices_insertionSortCmpFunc_string_0 K) K [a, b, D.i (IntKind.i64.wrap (a.int + (1 : Int))), D.n r0.list, D.n r2.list]).bind fun t1 =>
  some [D.n ((D.nth t1.2 0).list), D.n ((D.nth t1.2 1).list)]
def e_slices_insertionSortCmpFunc_string (K : Nat) : Entry := { n := 4, sh := { sl := [(0, .own 32 0), (1, .d 3 false), (2, .d 3 false), (3, .fn 43 [.ptr 73 1 []])], ob := [(0, .row 9 true), (1, .box 73 (.own 73 2)), (2, .map 73 true)] }, kept := [0, 1, 2], rs := [{ sl := [(0, .tup [])], ob := [(0, .row 9 true), (1, .box 73 (.own 73 2)), (2, .map 73 true)] }], f := fun ds => f_slices_insertionSortCmpFunc_string K (D.nth ds 0) (D.nth ds 1) (D.nth ds 2) (D.nth ds 3), tot := none }
def T_slices_insertionSortCmpFunc_string (K : Nat) : Tbl := { T0 with ents := entsOf [(43, e_gateref2_OrderOf_1 K)], cuts := lk [(0, c_slices_insertionSortCmpFunc_string_0 K), (1, c_slices_insertionSortCmpFunc_string_1 K), (2, c_slices_insertionSortCmpFunc_string_2 K)] }
theorem q_slices_insertionSortCmpFunc_string_2 (K : Nat) (ds : List D) : evPiece (T_slices_insertionSortCmpFunc_string K) 53 (sub (codeOf Tryz.f79) [1, 0, 0, 1, 0, 0, 1, 0, 0, 0, 0]) .go (c_slices_insertionSortCmpFunc_string_2 K) ds = b_slices_insertionSortCmpFunc_string_2 K ds := by kernel_rfl
theorem k_slices_insertionSortCmpFunc_string_2 (K : Nat) : CutOK Tryz.prog (T_slices_insertionSortCmpFunc_string K) 53 (sub (codeOf Tryz.f79) [1, 0, 0, 1, 0, 0, 1, 0, 0, 0, 0]) (c_slices_insertionSortCmpFunc_string_2 K) :=
  piece_thm (T := T_slices_insertionSortCmpFunc_string K) (hT_of hT0 rfl rfl rfl) (hes_ok (T0 := T0) (T := T_slices_insertionSortCmpFunc_string K) rfl rfl (⟨ok_gateref2_OrderOf_1 K, trivial⟩ : FAll Tryz.prog T0 [(43, e_gateref2_OrderOf_1 K)])) rfl rfl rfl (cutsOK_none (by rfl)) (q_slices_insertionSortCmpFunc_string_2 K)
theorem q_slices_insertionSortCmpFunc_string_1 (K : Nat) (rec : List D → Option (Nat × List D)) (ds : List D) : evLoop (T_slices_insertionSortCmpFunc_string K) 53 (sub (codeOf Tryz.f79) [1, 0, 0, 1, 0, 0, 1, 0, 0]) (.seq (.seq (.cut 2) .go) .go) (c_slices_insertionSortCmpFunc_string_1 K) rec ds = b_slices_insertionSortCmpFunc_string_1 K rec ds := by kernel_rfl
theorem k_slices_insertionSortCmpFunc_string_1 (K : Nat) : CutOK Tryz.prog (T_slices_insertionSortCmpFunc_string K) 53 (sub (codeOf Tryz.f79) [1, 0, 0, 1, 0, 0, 1, 0]) (c_slices_insertionSortCmpFunc_string_1 K) :=
  loop_thm (T := T_slices_insertionSortCmpFunc_string K) (hT_of hT0 rfl rfl rfl) (hes_ok (T0 := T0) (T := T_slices_insertionSortCmpFunc_string K) rfl rfl (⟨ok_gateref2_OrderOf_1 K, trivial⟩ : FAll Tryz.prog T0 [(43, e_gateref2_OrderOf_1 K)])) (by kernel_rfl) rfl rfl rfl (cutsOK_list (l := [(2, sub (codeOf Tryz.f79) [1, 0, 0, 1, 0, 0, 1, 0, 0, 0, 0])]) (by kernel_rfl) ⟨cut_one (u := c_slices_insertionSortCmpFunc_string_2 K) rfl (k_slices_insertionSortCmpFunc_string_2 K), trivial⟩) rfl (q_slices_insertionSortCmpFunc_string_1 K)
theorem q_slices_insertionSortCmpFunc_string_0 (K : Nat) (rec : List D → Option (Nat × List D)) (ds : List D) : evLoop (T_slices_insertionSortCmpFunc_string K) 53 (sub (codeOf Tryz.f79) [1, 0, 0]) (.seq .go (.seq (.blk (.seq .go (.blk (.cut 1)))) .go)) (c_slices_insertionSortCmpFunc_string_0 K) rec ds = b_slices_insertionSortCmpFunc_string_0 K rec ds := by kernel_rfl
theorem k_slices_insertionSortCmpFunc_string_0 (K : Nat) : CutOK Tryz.prog (T_slices_insertionSortCmpFunc_string K) 53 (sub (codeOf Tryz.f79) [1, 0]) (c_slices_insertionSortCmpFunc_string_0 K) :=
  loop_thm (T := T_slices_insertionSortCmpFunc_string K) (hT_of hT0 rfl rfl rfl) (hes_ok (T0 := T0) (T := T_slices_insertionSortCmpFunc_string K) rfl rfl (⟨ok_gateref2_OrderOf_1 K, trivial⟩ : FAll Tryz.prog T0 [(43, e_gateref2_OrderOf_1 K)])) (by kernel_rfl) rfl rfl rfl (cutsOK_list (l := [(1, sub (codeOf Tryz.f79) [1, 0, 0, 1, 0, 0, 1, 0])]) (by kernel_rfl) ⟨cut_one (u := c_slices_insertionSortCmpFunc_string_1 K) rfl (k_slices_insertionSortCmpFunc_string_1 K), trivial⟩) rfl (q_slices_insertionSortCmpFunc_string_0 K)
theorem q_slices_insertionSortCmpFunc_string (K : Nat) (ds : List D) : evFn (T_slices_insertionSortCmpFunc_string K) Tryz.f79 (.seq .go (.blk (.cut 0))) (e_slices_insertionSortCmpFunc_string K) ds = (e_slices_insertionSortCmpFunc_string K).f ds := by kernel_rfl
theorem ok_slices_insertionSortCmpFunc_string (K : Nat) : FnOK Tryz.prog T0 79 (e_slices_insertionSortCmpFunc_string K) :=
  fn_thm (T0 := T0) (T := T_slices_insertionSortCmpFunc_string K) rfl (hT_of hT0 rfl rfl rfl) (hes_ok (T0 := T0) (T := T_slices_insertionSortCmpFunc_string K) rfl rfl (⟨ok_gateref2_OrderOf_1 K, trivial⟩ : FAll Tryz.prog T0 [(43, e_gateref2_OrderOf_1 K)])) Tryz.func79 (by decide) rfl (Nat.le_of_ble_eq_true rfl) rfl rfl rfl (tot_none rfl) (cutsOK_list (l := [(0, sub (codeOf Tryz.f79) [1, 0])]) (by kernel_rfl) ⟨cut_one (u := c_slices_insertionSortCmpFunc_string_0 K) rfl (k_slices_insertionSortCmpFunc_string_0 K), trivial⟩) (q_slices_insertionSortCmpFunc_string K)
/-! ### 68 slices.stableCmpFunc[string] -/
def b_slices_stableCmpFunc_string_2 (K : Nat) (rec : List D → Option (Nat × List D)) (ds : List D) : Option (Nat × List D) :=
  let n := D.nth ds 0
  let a := D.nth ds 2
  let b := D.nth ds 3
  let r0 := D.nth ds 4
  let r2 := D.nth ds 5
  bif (leI b.int n.int) then
    none
  else
    some (0, [a, D.n r0.list, D.n r2.list])
def c_slices_stableCmpFunc_string_2 (K : Nat) : Cut := { sh := { sl := [(0, .own 32 0), (1, .d 3 true), (2, .fn 43 [.ptr 73 1 []]), (6, .d 3 true), (7, .d 3 true), (8, .d 3 true)], ob := [(0, .row 9 true), (1, .box 73 (.own 73 2)), (2, .map 73 true)] }, kept := [0, 1, 2], outs := [(.exit 4, { sl := [(7, .d 3 true)], ob := [(0, .row 9 true), (1, .box 73 (.own 73 2)), (2, .map 73 true)] })], f := fun ds => fixN (b_slices_stableCmpFunc_string_2 K) K ds }
def b_slices_stableCmpFunc_string_1 (K : Nat) (rec : List D → Option (Nat × List D)) (ds : List D) : Option (Nat × List D) :=
  let n := D.nth ds 0
  let blockSize := D.nth ds 1
  let r0 := D.nth ds 2
  let r2 := D.nth ds 3
  bif (ltI blockSize.int n.int) then
    (fixN (b_slices_stableCmpFunc_string_2 K) K [n, blockSize, D.i 0, D.i (IntKind.i64.wrap ((2 : Int) * blockSize.int)), D.n r0.list, D.n r2.list]).bind fun t3 =>
    bif (ltI (IntKind.i64.wrap (((D.nth t3.2 0).int) + blockSize.int)) n.int) then
      none
    else
      rec [n, D.i (IntKind.i64.wrap (blockSize.int * (2 : Int))), D.n ((D.nth t3.2 1).list), D.n ((D.nth t3.2 2).list)]
  else
    some (0, [D.n r0.list, D.n r2.list])
def c_slices_stableCmpFunc_string_1 (K : Nat) : Cut := { sh := { sl := [(0, .own 32 0), (1, .d 3 true), (2, .fn 43 [.ptr 73 1 []]), (6, .d 3 true)], ob := [(0, .row 9 true), (1, .box 73 (.own 73 2)), (2, .map 73 true)] }, kept := [0, 1, 2], outs := [(.exit 2, { sl := [], ob := [(0, .row 9 true), (1, .box 73 (.own 73 2)), (2, .map 73 true)] })], f := fun ds => fixN (b_slices_stableCmpFunc_string_1 K) K ds }
def b_slices_stableCmpFunc_string_0 (K : Nat) (rec : List D → Option (Nat × List D)) (ds : List D) : Option (Nat × List D) :=
  let n := D.nth ds 0
  let blockSize := D.nth ds 1
  let a := D.nth ds 2
  let b := D.nth ds 3
  let r0 := D.nth ds 4
  let r2 := D.nth ds 5
  bif (leI b.int n.int) then
    (f_slices_insertionSortCmpFunc_string K a b (D.n r0.list) (D.n r2.list)).bind fun t1 =>
    rec [n, blockSize, b, D.i (IntKind.i64.wrap (b.int + blockSize.int)), D.n ((D.nth t1 0).list), D.n ((D.nth t1 1).list)]
  else
    some (0, [a, D.n r0.list, D.n r2.list])
def c_slices_stableCmpFunc_string_0 (K : Nat) : Cut := { sh := { sl := [(0, .own 32 0), (1, .d 3 true), (2, .fn 43 [.ptr 73 1 []]), (6, .d 3 true), (7, .d 3 true), (8, .d 3 true)], ob := [(0, .row 9 true), (1, .box 73 (.own 73 2)), (2, .map 73 true)] }, kept := [0, 1, 2], outs := [(.exit 0, { sl := [(7, .d 3 true)], ob := [(0, .row 9 true), (1, .box 73 (.own 73 2)), (2, .map 73 true)] })], f := fun ds => fixN (b_slices_stableCmpFunc_string_0 K) K ds }
def f_slices_stableCmpFunc_string (K : Nat) (n r0 r2 : D) : Option (List D) :=
  (fixN (b_slices_stableCmpFunc_string_0 K) K [n, D.i 20, D.i 0, D.i 20, D.n r0.list, D.n r2.list]).bind fun t1 =>
  (f_slices_insertionSortCmpFunc_string K (D.nth t1.2 0) n (D.n ((D.nth t1.2 1).list)) (D.n ((D.nth t1.2 2).list))).bind fun t2 =>
  (fixN (b_slices_stableCmpFunc_string_1 K) K [n, D.i 20, D.n ((D.nth t2 0).list), D.n ((D.nth t2 1).list)]).bind fun t3 =>
  some [D.n ((D.nth t3.2 0).list), D.n ((D.nth t3.2 1).list)]
def e_slices_stableCmpFunc_string (K : Nat) : Entry := { n := 3, sh := { sl := [(0, .own 32 0), (1, .d 3 false), (2, .fn 43 [.ptr 73 1 []])], ob := [(0, .row 9 true), (1, .box 73 (.own 73 2)), (2, .map 73 true)] }, kept := [0, 1, 2], rs := [{ sl := [(0, .tup [])], ob := [(0, .row 9 true), (1, .box 73 (.own 73 2)), (2, .map 73 true)] }], f := fun ds => f_slices_stableCmpFunc_string K (D.nth ds 0) (D.nth ds 1) (D.nth ds 2), tot := none }
def T_slices_stableCmpFunc_string (K : Nat) : Tbl := { T0 with ents := entsOf [(79, e_slices_insertionSortCmpFunc_string K)], cuts := lk [(0, c_slices_stableCmpFunc_string_0 K), (1, c_slices_stableCmpFunc_string_1 K), (2, c_slices_stableCmpFunc_string_2 K)] }
theorem q_slices_stableCmpFunc_string_2 (K : Nat) (rec : List D → Option (Nat × List D)) (ds : List D) : evLoop (T_slices_stableCmpFunc_string K) 63 (sub (codeOf Tryz.f68) [1, 1, 1, 1, 0, 0, 1, 0, 1, 0, 0, 0]) .go (c_slices_stableCmpFunc_string_2 K) rec ds = b_slices_stableCmpFunc_string_2 K rec ds := by kernel_rfl
theorem k_slices_stableCmpFunc_string_2 (K : Nat) : CutOK Tryz.prog (T_slices_stableCmpFunc_string K) 63 (sub (codeOf Tryz.f68) [1, 1, 1, 1, 0, 0, 1, 0, 1, 0, 0]) (c_slices_stableCmpFunc_string_2 K) :=
  loop_thm (T := T_slices_stableCmpFunc_string K) (hT_of hT0 rfl rfl rfl) (hes_ok (T0 := T0) (T := T_slices_stableCmpFunc_string K) rfl rfl (⟨ok_slices_insertionSortCmpFunc_string K, trivial⟩ : FAll Tryz.prog T0 [(79, e_slices_insertionSortCmpFunc_string K)])) (by kernel_rfl) rfl rfl rfl (cutsOK_none (by rfl)) rfl (q_slices_stableCmpFunc_string_2 K)
theorem q_slices_stableCmpFunc_string_1 (K : Nat) (rec : List D → Option (Nat × List D)) (ds : List D) : evLoop (T_slices_stableCmpFunc_string K) 63 (sub (codeOf Tryz.f68) [1, 1, 1, 1, 0, 0]) (.seq .go (.blk (.seq .go (.seq (.blk (.cut 2)) .go)))) (c_slices_stableCmpFunc_string_1 K) rec ds = b_slices_stableCmpFunc_string_1 K rec ds := by kernel_rfl
theorem k_slices_stableCmpFunc_string_1 (K : Nat) : CutOK Tryz.prog (T_slices_stableCmpFunc_string K) 63 (sub (codeOf Tryz.f68) [1, 1, 1, 1, 0]) (c_slices_stableCmpFunc_string_1 K) :=
  loop_thm (T := T_slices_stableCmpFunc_string K) (hT_of hT0 rfl rfl rfl) (hes_ok (T0 := T0) (T := T_slices_stableCmpFunc_string K) rfl rfl (⟨ok_slices_insertionSortCmpFunc_string K, trivial⟩ : FAll Tryz.prog T0 [(79, e_slices_insertionSortCmpFunc_string K)])) (by kernel_rfl) rfl rfl rfl (cutsOK_list (l := [(2, sub (codeOf Tryz.f68) [1, 1, 1, 1, 0, 0, 1, 0, 1, 0, 0])]) (by kernel_rfl) ⟨cut_one (u := c_slices_stableCmpFunc_string_2 K) rfl (k_slices_stableCmpFunc_string_2 K), trivial⟩) rfl (q_slices_stableCmpFunc_string_1 K)
theorem q_slices_stableCmpFunc_string_0 (K : Nat) (rec : List D → Option (Nat × List D)) (ds : List D) : evLoop (T_slices_stableCmpFunc_string K) 63 (sub (codeOf Tryz.f68) [1, 1, 0, 0, 0]) .go (c_slices_stableCmpFunc_string_0 K) rec ds = b_slices_stableCmpFunc_string_0 K rec ds := by kernel_rfl
theorem k_slices_stableCmpFunc_string_0 (K : Nat) : CutOK Tryz.prog (T_slices_stableCmpFunc_string K) 63 (sub (codeOf Tryz.f68) [1, 1, 0, 0]) (c_slices_stableCmpFunc_string_0 K) :=
  loop_thm (T := T_slices_stableCmpFunc_string K) (hT_of hT0 rfl rfl rfl) (hes_ok (T0 := T0) (T := T_slices_stableCmpFunc_string K) rfl rfl (⟨ok_slices_insertionSortCmpFunc_string K, trivial⟩ : FAll Tryz.prog T0 [(79, e_slices_insertionSortCmpFunc_string K)])) (by kernel_rfl) rfl rfl rfl (cutsOK_none (by rfl)) rfl (q_slices_stableCmpFunc_string_0 K)
theorem q_slices_stableCmpFunc_string (K : Nat) (ds : List D) : evFn (T_slices_stableCmpFunc_string K) Tryz.f68 (.seq .go (.seq .go (.seq (.blk (.cut 0)) (.seq .go (.blk (.cut 1)))))) (e_slices_stableCmpFunc_string K) ds = (e_slices_stableCmpFunc_string K).f ds := by kernel_rfl
theorem ok_slices_stableCmpFunc_string (K : Nat) : FnOK Tryz.prog T0 68 (e_slices_stableCmpFunc_string K) :=
  fn_thm (T0 := T0) (T := T_slices_stableCmpFunc_string K) rfl (hT_of hT0 rfl rfl rfl) (hes_ok (T0 := T0) (T := T_slices_stableCmpFunc_string K) rfl rfl (⟨ok_slices_insertionSortCmpFunc_string K, trivial⟩ : FAll Tryz.prog T0 [(79, e_slices_insertionSortCmpFunc_string K)])) Tryz.func68 (by decide) rfl (Nat.le_of_ble_eq_true rfl) rfl rfl rfl (tot_none rfl) (cutsOK_list (l := [(0, sub (codeOf Tryz.f68) [1, 1, 0, 0]), (1, sub (codeOf Tryz.f68) [1, 1, 1, 1, 0])]) (by kernel_rfl) ⟨cut_one (u := c_slices_stableCmpFunc_string_0 K) rfl (k_slices_stableCmpFunc_string_0 K), cut_one (u := c_slices_stableCmpFunc_string_1 K) rfl (k_slices_stableCmpFunc_string_1 K), trivial⟩) (q_slices_stableCmpFunc_string K)
/-! ### 42 slices.SortStableFunc[[]string,string] -/
def f_slices_SortStableFunc_string (K : Nat) (r0 r2 : D) : Option (List D) :=
  (f_slices_stableCmpFunc_string K (D.i (r0.list.length : Int)) (D.n r0.list) (D.n r2.list)).bind fun t1 =>
  some [D.n ((D.nth t1 0).list), D.n ((D.nth t1 1).list)]
def e_slices_SortStableFunc_string (K : Nat) : Entry := { n := 2, sh := { sl := [(0, .own 32 0), (1, .fn 43 [.ptr 73 1 []])], ob := [(0, .row 9 true), (1, .box 73 (.own 73 2)), (2, .map 73 true)] }, kept := [0, 1, 2], rs := [{ sl := [(0, .tup [])], ob := [(0, .row 9 true), (1, .box 73 (.own 73 2)), (2, .map 73 true)] }], f := fun ds => f_slices_SortStableFunc_string K (D.nth ds 0) (D.nth ds 1), tot := none }
def T_slices_SortStableFunc_string (K : Nat) : Tbl := { T0 with ents := entsOf [(68, e_slices_stableCmpFunc_string K)], cuts := lk [] }
theorem q_slices_SortStableFunc_string (K : Nat) (ds : List D) : evFn (T_slices_SortStableFunc_string K) Tryz.f42 .go (e_slices_SortStableFunc_string K) ds = (e_slices_SortStableFunc_string K).f ds := by kernel_rfl
theorem ok_slices_SortStableFunc_string (K : Nat) : FnOK Tryz.prog T0 42 (e_slices_SortStableFunc_string K) :=
  fn_thm (T0 := T0) (T := T_slices_SortStableFunc_string K) rfl (hT_of hT0 rfl rfl rfl) (hes_ok (T0 := T0) (T := T_slices_SortStableFunc_string K) rfl rfl (⟨ok_slices_stableCmpFunc_string K, trivial⟩ : FAll Tryz.prog T0 [(68, e_slices_stableCmpFunc_string K)])) Tryz.func42 (by decide) rfl (Nat.le_of_ble_eq_true rfl) rfl rfl rfl (tot_none rfl) (cutsOK_none (by rfl)) (q_slices_SortStableFunc_string K)
/-! ### 19 gatewarden/gateref2.OrderOf -/
def b_gateref2_OrderOf_0 (K : Nat) (rec : List D → Option (Nat × List D)) (ds : List D) : Option (Nat × List D) :=
  let key := D.nth ds 0
  let s11 := D.nth ds 1
  let s12 := D.nth ds 2
  let s13 := D.nth ds 3
  let r1 := D.nth ds 4
  let r2 := D.nth ds 5
  bif (ltI s13.int s12.int) then
    bif (inB s13.int s11.list.length) then
      (f_gateref2_hashed K (D.n [key, (D.nth s11.list s13.int.toNat).at' 0])).bind fun t1 =>
      bif (lim (r2.list.length + 1)) then
        rec [key, s11, s12, D.i (IntKind.i64.wrap (s13.int + (1 : Int))), D.n (mapSet .str ((D.nth s11.list s13.int.toNat).at' 0) (D.i (IntKind.i64.wrap ((IntKind.i64.wrap (Int.tmod (bitsI .xor .u64 ((D.nth t1 0).int) (shr .u64 ((D.nth t1 0).int) 32)) (1000003 : Int))) * (((D.nth s11.list s13.int.toNat).at' 1).int)))) r1.list), D.n (r2.list ++ [(D.nth s11.list s13.int.toNat).at' 0])]
      else
        none
    else
      none
  else
    some (0, [D.n r1.list, D.n r2.list])
def c_gateref2_OrderOf_0 (K : Nat) : Cut := { sh := { sl := [(1, .d 9 true), (5, .ptr 73 0 []), (6, .own 32 2), (11, .d 26 false), (12, .d 3 true), (13, .d 3 true)], ob := [(0, .box 73 (.own 73 1)), (1, .map 73 true), (2, .row 9 true)] }, kept := [0, 1], outs := [(.exit 0, { sl := [(6, .own 32 2)], ob := [(0, .box 73 (.own 73 1)), (1, .map 73 true), (2, .row 9 true)] })], f := fun ds => fixN (b_gateref2_OrderOf_0 K) K ds }
def f_gateref2_OrderOf (K : Nat) (l key : D) : Option (List D) :=
  (fixN (b_gateref2_OrderOf_0 K) K [key, l, D.i (l.list.length : Int), D.i 0, D.n [], D.n []]).bind fun t1 =>
  (f_slices_SortStableFunc_string K (D.n ((D.nth t1.2 1).list)) (D.n ((D.nth t1.2 0).list))).bind fun t2 =>
  some [D.n ((D.nth t2 0).list)]
def e_gateref2_OrderOf (K : Nat) : Entry := { n := 2, sh := { sl := [(0, .d 26 false), (1, .d 9 false)], ob := [] }, kept := [], rs := [{ sl := [(0, .own 32 0)], ob := [(0, .row 9 true)] }], f := fun ds => f_gateref2_OrderOf K (D.nth ds 0) (D.nth ds 1), tot := none }
def T_gateref2_OrderOf (K : Nat) : Tbl := { T0 with ents := entsOf [(41, e_gateref2_hashed K), (42, e_slices_SortStableFunc_string K)], cuts := lk [(0, c_gateref2_OrderOf_0 K)] }
theorem q_gateref2_OrderOf_0 (K : Nat) (rec : List D → Option (Nat × List D)) (ds : List D) : evLoop (T_gateref2_OrderOf K) 45 (sub (codeOf Tryz.f19) [1, 1, 1, 0, 1, 0, 0]) .go (c_gateref2_OrderOf_0 K) rec ds = b_gateref2_OrderOf_0 K rec ds := by kernel_rfl
theorem k_gateref2_OrderOf_0 (K : Nat) : CutOK Tryz.prog (T_gateref2_OrderOf K) 45 (sub (codeOf Tryz.f19) [1, 1, 1, 0, 1, 0]) (c_gateref2_OrderOf_0 K) :=
  loop_thm (T := T_gateref2_OrderOf K) (hT_of hT0 rfl rfl rfl) (hes_ok (T0 := T0) (T := T_gateref2_OrderOf K) rfl rfl (⟨ok_gateref2_hashed K, ok_slices_SortStableFunc_string K, trivial⟩ : FAll Tryz.prog T0 [(41, e_gateref2_hashed K), (42, e_slices_SortStableFunc_string K)])) (by kernel_rfl) rfl rfl rfl (cutsOK_none (by rfl)) rfl (q_gateref2_OrderOf_0 K)
theorem q_gateref2_OrderOf (K : Nat) (ds : List D) : evFn (T_gateref2_OrderOf K) Tryz.f19 (.seq .go (.seq .go (.seq .go (.seq (.seq .go (.blk (.cut 0))) .go)))) (e_gateref2_OrderOf K) ds = (e_gateref2_OrderOf K).f ds := by kernel_rfl
theorem ok_gateref2_OrderOf (K : Nat) : FnOK Tryz.prog T0 19 (e_gateref2_OrderOf K) :=
  fn_thm (T0 := T0) (T := T_gateref2_OrderOf K) rfl (hT_of hT0 rfl rfl rfl) (hes_ok (T0 := T0) (T := T_gateref2_OrderOf K) rfl rfl (⟨ok_gateref2_hashed K, ok_slices_SortStableFunc_string K, trivial⟩ : FAll Tryz.prog T0 [(41, e_gateref2_hashed K), (42, e_slices_SortStableFunc_string K)])) Tryz.func19 (by decide) rfl (Nat.le_of_ble_eq_true rfl) rfl rfl rfl (tot_none rfl) (cutsOK_list (l := [(0, sub (codeOf Tryz.f19) [1, 1, 1, 0, 1, 0])]) (by kernel_rfl) ⟨cut_one (u := c_gateref2_OrderOf_0 K) rfl (k_gateref2_OrderOf_0 K), trivial⟩) (q_gateref2_OrderOf K)
/-! ### 45 gatewarden/gateref2.loadOf -/
def b_gateref2_loadOf_0 (K : Nat) (rec : List D → Option (Nat × List D)) (ds : List D) : Option (Nat × List D) :=
  let key := D.nth ds 0
  let s7 := D.nth ds 1
  let s8 := D.nth ds 2
  let s9 := D.nth ds 3
  bif (ltI s9.int s8.int) then
    bif (inB s9.int s7.list.length) then
      bif ((((D.nth s7.list s9.int.toNat).at' 0).str) == key.str) then
        some (0, [(D.nth s7.list s9.int.toNat).at' 1])
      else
        rec [key, s7, s8, D.i (IntKind.i64.wrap (s9.int + (1 : Int)))]
    else
      none
  else
    some (1, [])
def c_gateref2_loadOf_0 (K : Nat) : Cut := { sh := { sl := [(1, .d 9 true), (7, .d 30 false), (8, .d 3 true), (9, .d 3 true)], ob := [] }, kept := [], outs := [(.ret, { sl := [(4, .d 3 true)], ob := [] }), (.exit 0, { sl := [], ob := [] })], f := fun ds => fixN (b_gateref2_loadOf_0 K) K ds }
def f_gateref2_loadOf (K : Nat) (loads key : D) : Option (List D) :=
  (fixN (b_gateref2_loadOf_0 K) K [key, loads, D.i (loads.list.length : Int), D.i 0]).bind fun t1 =>
  bif (t1.1.beq 0) then
    some [D.nth t1.2 0]
  else
    some [D.i 0]
def e_gateref2_loadOf (K : Nat) : Entry := { n := 2, sh := { sl := [(0, .d 30 false), (1, .d 9 false)], ob := [] }, kept := [], rs := [{ sl := [(0, .d 3 true)], ob := [] }], f := fun ds => f_gateref2_loadOf K (D.nth ds 0) (D.nth ds 1), tot := none }
def T_gateref2_loadOf (K : Nat) : Tbl := { T0 with ents := entsOf [], cuts := lk [(0, c_gateref2_loadOf_0 K)] }
theorem q_gateref2_loadOf_0 (K : Nat) (rec : List D → Option (Nat × List D)) (ds : List D) : evLoop (T_gateref2_loadOf K) 20 (sub (codeOf Tryz.f45) [1, 0, 1, 0, 0]) .go (c_gateref2_loadOf_0 K) rec ds = b_gateref2_loadOf_0 K rec ds := by kernel_rfl
theorem k_gateref2_loadOf_0 (K : Nat) : CutOK Tryz.prog (T_gateref2_loadOf K) 20 (sub (codeOf Tryz.f45) [1, 0, 1, 0]) (c_gateref2_loadOf_0 K) :=
  loop_thm (T := T_gateref2_loadOf K) (hT_of hT0 rfl rfl rfl) (hes_ok (T0 := T0) (T := T_gateref2_loadOf K) rfl rfl (trivial : FAll Tryz.prog T0 [])) (by kernel_rfl) rfl rfl rfl (cutsOK_none (by rfl)) rfl (q_gateref2_loadOf_0 K)
theorem q_gateref2_loadOf (K : Nat) (ds : List D) : evFn (T_gateref2_loadOf K) Tryz.f45 (.seq .go (.seq (.seq .go (.blk (.cut 0))) .go)) (e_gateref2_loadOf K) ds = (e_gateref2_loadOf K).f ds := by kernel_rfl
theorem ok_gateref2_loadOf (K : Nat) : FnOK Tryz.prog T0 45 (e_gateref2_loadOf K) :=
  fn_thm (T0 := T0) (T := T_gateref2_loadOf K) rfl (hT_of hT0 rfl rfl rfl) (hes_ok (T0 := T0) (T := T_gateref2_loadOf K) rfl rfl (trivial : FAll Tryz.prog T0 [])) Tryz.func45 (by decide) rfl (Nat.le_of_ble_eq_true rfl) rfl rfl rfl (tot_none rfl) (cutsOK_list (l := [(0, sub (codeOf Tryz.f45) [1, 0, 1, 0])]) (by kernel_rfl) ⟨cut_one (u := c_gateref2_loadOf_0 K) rfl (k_gateref2_loadOf_0 K), trivial⟩) (q_gateref2_loadOf K)
/-! ### 20 gatewarden/gateref2.LeastLoad -/
def b_gateref2_LeastLoad_0 (K : Nat) (rec : List D → Option (Nat × List D)) (ds : List D) : Option (Nat × List D) :=
  let loads := D.nth ds 0
  let s11 := D.nth ds 1
  let s12 := D.nth ds 2
  let s13 := D.nth ds 3
  let o0 := D.nth ds 4
  bif (ltI s13.int s12.int) then
    bif (inB s13.int s11.list.length) then
      (f_gateref2_loadOf K loads ((D.nth s11.list s13.int.toNat).at' 0)).bind fun t1 =>
      (f_gateref2_loadOf K loads (o0.at' 0)).bind fun t2 =>
      bif (ltI (IntKind.i64.wrap ((IntKind.i64.wrap (((D.nth t1 0).int) + (1 : Int))) * ((o0.at' 1).int))) (IntKind.i64.wrap ((IntKind.i64.wrap (((D.nth t2 0).int) + (1 : Int))) * (((D.nth s11.list s13.int.toNat).at' 1).int)))) then
        rec [loads, s11, s12, D.i (IntKind.i64.wrap (s13.int + (1 : Int))), D.nth s11.list s13.int.toNat]
      else
        rec [loads, s11, s12, D.i (IntKind.i64.wrap (s13.int + (1 : Int))), o0]
    else
      none
  else
    some (0, [o0])
def c_gateref2_LeastLoad_0 (K : Nat) : Cut := { sh := { sl := [(1, .d 30 false), (5, .ptr 55 0 []), (11, .d 26 false), (12, .d 3 true), (13, .d 3 true)], ob := [(0, .box 55 (.d 55 true))] }, kept := [0], outs := [(.exit 0, { sl := [], ob := [(0, .box 55 (.d 55 true))] })], f := fun ds => fixN (b_gateref2_LeastLoad_0 K) K ds }
def f_gateref2_LeastLoad (K : Nat) (l loads : D) : Option (List D) :=
  bif (inB 0 l.list.length) then
    (fixN (b_gateref2_LeastLoad_0 K) K [loads, l, D.i (l.list.length : Int), D.i 0, D.nth l.list 0]).bind fun t1 =>
    some [(D.nth t1.2 0).at' 0]
  else
    none
def e_gateref2_LeastLoad (K : Nat) : Entry := { n := 2, sh := { sl := [(0, .d 26 false), (1, .d 30 false)], ob := [] }, kept := [], rs := [{ sl := [(0, .d 9 true)], ob := [] }], f := fun ds => f_gateref2_LeastLoad K (D.nth ds 0) (D.nth ds 1), tot := none }
def T_gateref2_LeastLoad (K : Nat) : Tbl := { T0 with ents := entsOf [(45, e_gateref2_loadOf K)], cuts := lk [(0, c_gateref2_LeastLoad_0 K)] }
theorem q_gateref2_LeastLoad_0 (K : Nat) (rec : List D → Option (Nat × List D)) (ds : List D) : evLoop (T_gateref2_LeastLoad K) 38 (sub (codeOf Tryz.f20) [1, 1, 0, 1, 0, 0]) .go (c_gateref2_LeastLoad_0 K) rec ds = b_gateref2_LeastLoad_0 K rec ds := by kernel_rfl
theorem k_gateref2_LeastLoad_0 (K : Nat) : CutOK Tryz.prog (T_gateref2_LeastLoad K) 38 (sub (codeOf Tryz.f20) [1, 1, 0, 1, 0]) (c_gateref2_LeastLoad_0 K) :=
  loop_thm (T := T_gateref2_LeastLoad K) (hT_of hT0 rfl rfl rfl) (hes_ok (T0 := T0) (T := T_gateref2_LeastLoad K) rfl rfl (⟨ok_gateref2_loadOf K, trivial⟩ : FAll Tryz.prog T0 [(45, e_gateref2_loadOf K)])) (by kernel_rfl) rfl rfl rfl (cutsOK_none (by rfl)) rfl (q_gateref2_LeastLoad_0 K)
theorem q_gateref2_LeastLoad (K : Nat) (ds : List D) : evFn (T_gateref2_LeastLoad K) Tryz.f20 (.seq .go (.seq .go (.seq (.seq .go (.blk (.cut 0))) .go))) (e_gateref2_LeastLoad K) ds = (e_gateref2_LeastLoad K).f ds := by kernel_rfl
theorem ok_gateref2_LeastLoad (K : Nat) : FnOK Tryz.prog T0 20 (e_gateref2_LeastLoad K) :=
  fn_thm (T0 := T0) (T := T_gateref2_LeastLoad K) rfl (hT_of hT0 rfl rfl rfl) (hes_ok (T0 := T0) (T := T_gateref2_LeastLoad K) rfl rfl (⟨ok_gateref2_loadOf K, trivial⟩ : FAll Tryz.prog T0 [(45, e_gateref2_loadOf K)])) Tryz.func20 (by decide) rfl (Nat.le_of_ble_eq_true rfl) rfl rfl rfl (tot_none rfl) (cutsOK_list (l := [(0, sub (codeOf Tryz.f20) [1, 1, 0, 1, 0])]) (by kernel_rfl) ⟨cut_one (u := c_gateref2_LeastLoad_0 K) rfl (k_gateref2_LeastLoad_0 K), trivial⟩) (q_gateref2_LeastLoad K)
/-! ### 21 gatewarden/gateref2.BoundedOf -/
def b_gateref2_BoundedOf_1 (K : Nat) (rec : List D → Option (Nat × List D)) (ds : List D) : Option (Nat × List D) :=
  let l := D.nth ds 0
  let loads := D.nth ds 1
  let factor := D.nth ds 2
  let weights := D.nth ds 3
  let all := D.nth ds 4
  let s35 := D.nth ds 5
  let s36 := D.nth ds 6
  let r0 := D.nth ds 7
  bif (ltI s36.int s35.int) then
    bif (inB s36.int r0.list.length) then
      (f_gateref2_loadOf K loads (D.nth r0.list s36.int.toNat)).bind fun t3 =>
      (f_gateref2_InstanceAt K l (D.nth r0.list s36.int.toNat)).bind fun t4 =>
      bif (inB ((D.nth t4 0).int) l.list.length) then
        bif (leI (IntKind.i64.wrap ((IntKind.i64.wrap ((IntKind.i64.wrap (((D.nth t3 0).int) + (1 : Int))) * (1000 : Int))) * weights.int)) (IntKind.i64.wrap ((IntKind.i64.wrap (factor.int * (((D.nth l.list (((D.nth t4 0).int).toNat)).at' 1).int))) * all.int))) then
          some (0, [D.nth r0.list s36.int.toNat, D.n r0.list])
        else
          rec [l, loads, factor, weights, all, s35, D.i (IntKind.i64.wrap (s36.int + (1 : Int))), D.n r0.list]
      else
        none
    else
      none
  else
    some (1, [D.n r0.list])
def c_gateref2_BoundedOf_1 (K : Nat) : Cut := { sh := { sl := [(0, .d 26 false), (1, .d 30 false), (3, .d 3 true), (9, .d 3 true), (10, .d 3 true), (34, .own 32 0), (35, .d 3 true), (36, .d 3 true)], ob := [(0, .row 9 true)] }, kept := [0], outs := [(.ret, { sl := [(8, .d 9 true)], ob := [(0, .row 9 true)] }), (.exit 2, { sl := [], ob := [(0, .row 9 true)] })], f := fun ds => fixN (b_gateref2_BoundedOf_1 K) K ds }
def b_gateref2_BoundedOf_0 (K : Nat) (rec : List D → Option (Nat × List D)) (ds : List D) : Option (Nat × List D) :=
  let loads := D.nth ds 0
  let weights := D.nth ds 1
  let all := D.nth ds 2
  let s15 := D.nth ds 3
  let s16 := D.nth ds 4
  let s17 := D.nth ds 5
  bif (ltI s17.int s16.int) then
    bif (inB s17.int s15.list.length) then
      (f_gateref2_loadOf K loads ((D.nth s15.list s17.int.toNat).at' 0)).bind fun t1 =>
      rec [loads, D.i (IntKind.i64.wrap (weights.int + (((D.nth s15.list s17.int.toNat).at' 1).int))), D.i (IntKind.i64.wrap (all.int + ((D.nth t1 0).int))), s15, s16, D.i (IntKind.i64.wrap (s17.int + (1 : Int)))]
    else
      none
  else
    some (0, [weights, all])
def c_gateref2_BoundedOf_0 (K : Nat) : Cut := { sh := { sl := [(1, .d 30 false), (9, .d 3 true), (10, .d 3 true), (15, .d 26 false), (16, .d 3 true), (17, .d 3 true)], ob := [] }, kept := [], outs := [(.exit 0, { sl := [(9, .d 3 true), (10, .d 3 true)], ob := [] })], f := fun ds => fixN (b_gateref2_BoundedOf_0 K) K ds }
def f_gateref2_BoundedOf (K : Nat) (l loads key factor : D) : Option (List D) :=
  (fixN (b_gateref2_BoundedOf_0 K) K [loads, D.i 0, D.i 1, l, D.i (l.list.length : Int), D.i 0]).bind fun t1 =>
  (f_gateref2_OrderOf K l key).bind fun t2 =>
  (fixN (b_gateref2_BoundedOf_1 K) K [l, loads, factor, D.nth t1.2 0, D.nth t1.2 1, D.i (((D.nth t2 0).list).length : Int), D.i 0, D.n ((D.nth t2 0).list)]).bind fun t3 =>
  bif (t3.1.beq 0) then
    some [D.nth t3.2 0]
  else
    (f_gateref2_LeastLoad K l loads).bind fun t4 =>
    some [D.nth t4 0]
def e_gateref2_BoundedOf (K : Nat) : Entry := { n := 4, sh := { sl := [(0, .d 26 false), (1, .d 30 false), (2, .d 9 false), (3, .d 3 false)], ob := [] }, kept := [], rs := [{ sl := [(0, .d 9 true)], ob := [] }], f := fun ds => f_gateref2_BoundedOf K (D.nth ds 0) (D.nth ds 1) (D.nth ds 2) (D.nth ds 3), tot := none }
def T_gateref2_BoundedOf (K : Nat) : Tbl := { T0 with ents := entsOf [(45, e_gateref2_loadOf K), (19, e_gateref2_OrderOf K), (40, e_gateref2_InstanceAt K), (20, e_gateref2_LeastLoad K)], cuts := lk [(0, c_gateref2_BoundedOf_0 K), (1, c_gateref2_BoundedOf_1 K)] }
theorem q_gateref2_BoundedOf_1 (K : Nat) (rec : List D → Option (Nat × List D)) (ds : List D) : evLoop (T_gateref2_BoundedOf K) 64 (sub (codeOf Tryz.f21) [1, 1, 1, 0, 1, 0, 0]) .go (c_gateref2_BoundedOf_1 K) rec ds = b_gateref2_BoundedOf_1 K rec ds := by kernel_rfl
theorem k_gateref2_BoundedOf_1 (K : Nat) : CutOK Tryz.prog (T_gateref2_BoundedOf K) 64 (sub (codeOf Tryz.f21) [1, 1, 1, 0, 1, 0]) (c_gateref2_BoundedOf_1 K) :=
  loop_thm (T := T_gateref2_BoundedOf K) (hT_of hT0 rfl rfl rfl) (hes_ok (T0 := T0) (T := T_gateref2_BoundedOf K) rfl rfl (⟨ok_gateref2_loadOf K, ok_gateref2_OrderOf K, ok_gateref2_InstanceAt K, ok_gateref2_LeastLoad K, trivial⟩ : FAll Tryz.prog T0 [(45, e_gateref2_loadOf K), (19, e_gateref2_OrderOf K), (40, e_gateref2_InstanceAt K), (20, e_gateref2_LeastLoad K)])) (by kernel_rfl) rfl rfl rfl (cutsOK_none (by rfl)) rfl (q_gateref2_BoundedOf_1 K)
theorem q_gateref2_BoundedOf_0 (K : Nat) (rec : List D → Option (Nat × List D)) (ds : List D) : evLoop (T_gateref2_BoundedOf K) 64 (sub (codeOf Tryz.f21) [1, 1, 0, 1, 0, 0]) .go (c_gateref2_BoundedOf_0 K) rec ds = b_gateref2_BoundedOf_0 K rec ds := by kernel_rfl
theorem k_gateref2_BoundedOf_0 (K : Nat) : CutOK Tryz.prog (T_gateref2_BoundedOf K) 64 (sub (codeOf Tryz.f21) [1, 1, 0, 1, 0]) (c_gateref2_BoundedOf_0 K) :=
  loop_thm (T := T_gateref2_BoundedOf K) (hT_of hT0 rfl rfl rfl) (hes_ok (T0 := T0) (T := T_gateref2_BoundedOf K) rfl rfl (⟨ok_gateref2_loadOf K, ok_gateref2_OrderOf K, ok_gateref2_InstanceAt K, ok_gateref2_LeastLoad K, trivial⟩ : FAll Tryz.prog T0 [(45, e_gateref2_loadOf K), (19, e_gateref2_OrderOf K), (40, e_gateref2_InstanceAt K), (20, e_gateref2_LeastLoad K)])) (by kernel_rfl) rfl rfl rfl (cutsOK_none (by rfl)) rfl (q_gateref2_BoundedOf_0 K)
theorem q_gateref2_BoundedOf (K : Nat) (ds : List D) : evFn (T_gateref2_BoundedOf K) Tryz.f21 (.seq .go (.seq .go (.seq (.seq .go (.blk (.cut 0))) (.seq (.seq .go (.blk (.cut 1))) .go)))) (e_gateref2_BoundedOf K) ds = (e_gateref2_BoundedOf K).f ds := by kernel_rfl
theorem ok_gateref2_BoundedOf (K : Nat) : FnOK Tryz.prog T0 21 (e_gateref2_BoundedOf K) :=
  fn_thm (T0 := T0) (T := T_gateref2_BoundedOf K) rfl (hT_of hT0 rfl rfl rfl) (hes_ok (T0 := T0) (T := T_gateref2_BoundedOf K) rfl rfl (⟨ok_gateref2_loadOf K, ok_gateref2_OrderOf K, ok_gateref2_InstanceAt K, ok_gateref2_LeastLoad K, trivial⟩ : FAll Tryz.prog T0 [(45, e_gateref2_loadOf K), (19, e_gateref2_OrderOf K), (40, e_gateref2_InstanceAt K), (20, e_gateref2_LeastLoad K)])) Tryz.func21 (by decide) rfl (Nat.le_of_ble_eq_true rfl) rfl rfl rfl (tot_none rfl) (cutsOK_list (l := [(0, sub (codeOf Tryz.f21) [1, 1, 0, 1, 0]), (1, sub (codeOf Tryz.f21) [1, 1, 1, 0, 1, 0])]) (by kernel_rfl) ⟨cut_one (u := c_gateref2_BoundedOf_0 K) rfl (k_gateref2_BoundedOf_0 K), cut_one (u := c_gateref2_BoundedOf_1 K) rfl (k_gateref2_BoundedOf_1 K), trivial⟩) (q_gateref2_BoundedOf K)
/-! ### 22 gatewarden/gatelaw2.balanced -/
def f_gatelaw2_balanced (K : Nat) : Option (List D) :=
  (f_upstream_Round K (D.n [D.n [D.s [97], D.i 1], D.n [D.s [98], D.i 2]]) (D.i 3)).bind fun t1 =>
  bif (((D.nth t1 0).int) == (0 : Int)) then
    (f_slices_Equal_string K (D.n ((D.nth t1 1).list)) (D.n [D.s [98], D.s [97], D.s [98]])).bind fun t2 =>
    some [D.b ((D.nth t2 0).bool)]
  else
    some [D.b false]
def e_gatelaw2_balanced (K : Nat) : Entry := { n := 0, sh := { sl := [], ob := [] }, kept := [], rs := [{ sl := [(0, .d 4 true)], ob := [] }], f := fun ds => f_gatelaw2_balanced K, tot := none }
def T_gatelaw2_balanced (K : Nat) : Tbl := { T0 with ents := entsOf [(8, e_upstream_Round K), (17, e_slices_Equal_string K)], cuts := lk [] }
theorem q_gatelaw2_balanced (K : Nat) (ds : List D) : evFn (T_gatelaw2_balanced K) Tryz.f22 .go (e_gatelaw2_balanced K) ds = (e_gatelaw2_balanced K).f ds := by kernel_rfl
theorem ok_gatelaw2_balanced (K : Nat) : FnOK Tryz.prog T0 22 (e_gatelaw2_balanced K) :=
  fn_thm (T0 := T0) (T := T_gatelaw2_balanced K) rfl (hT_of hT0 rfl rfl rfl) (hes_ok (T0 := T0) (T := T_gatelaw2_balanced K) rfl rfl (⟨ok_upstream_Round K, ok_slices_Equal_string K, trivial⟩ : FAll Tryz.prog T0 [(8, e_upstream_Round K), (17, e_slices_Equal_string K)])) Tryz.func22 (by decide) rfl (Nat.le_of_ble_eq_true rfl) rfl rfl rfl (tot_none rfl) (cutsOK_none (by rfl)) (q_gatelaw2_balanced K)
/-! ### 3 gatewarden/gatelaw2.InstancesPicked -/
def b_gatelaw2_InstancesPicked_3 (K : Nat) (ds : List D) : Option (Nat × List D) :=
  let key := D.nth ds 0
  let factor := D.nth ds 1
  let wd := D.nth ds 2
  let s160 := D.nth ds 3
  let r0 := D.nth ds 4
  let r1 := D.nth ds 5
  bif s160.bool then
    (f_gateref2_BoundedOf K (D.n r0.list) (D.n r1.list) key factor).bind fun t19 =>
    some (0, [D.nth t19 0, D.n r0.list, D.n r1.list])
  else
    some (0, [wd, D.n r0.list, D.n r1.list])
def c_gatelaw2_InstancesPicked_3 (K : Nat) : Cut := { sh := { sl := [(4, .own 26 0), (6, .d 9 true), (7, .d 3 true), (8, .own 30 1), (24, .d 9 true), (160, .d 4 true)], ob := [(0, .row 55 true), (1, .row 61 true)] }, kept := [0, 1], outs := [(.normal, { sl := [(24, .d 9 true)], ob := [(0, .row 55 true), (1, .row 61 true)] })], f := b_gatelaw2_InstancesPicked_3 K }
def b_gatelaw2_InstancesPicked_2 (K : Nat) (ds : List D) : Option (Nat × List D) :=
  let wc := D.nth ds 0
  let s155 := D.nth ds 1
  let r0 := D.nth ds 2
  let r1 := D.nth ds 3
  bif s155.bool then
    (f_gateref2_LeastLoad K (D.n r0.list) (D.n r1.list)).bind fun t18 =>
    some (0, [D.nth t18 0, D.n r0.list, D.n r1.list])
  else
    some (0, [wc, D.n r0.list, D.n r1.list])
def c_gatelaw2_InstancesPicked_2 (K : Nat) : Cut := { sh := { sl := [(4, .own 26 0), (8, .own 30 1), (23, .d 9 true), (155, .d 4 true)], ob := [(0, .row 55 true), (1, .row 61 true)] }, kept := [0, 1], outs := [(.normal, { sl := [(23, .d 9 true)], ob := [(0, .row 55 true), (1, .row 61 true)] })], f := b_gatelaw2_InstancesPicked_2 K }
def b_gatelaw2_InstancesPicked_1 (K : Nat) (ds : List D) : Option (Nat × List D) :=
  let many := D.nth ds 0
  let key := D.nth ds 1
  let one := D.nth ds 2
  let two := D.nth ds 3
  let r0 := D.nth ds 4
  let r1 := D.nth ds 5
  let r2 := D.nth ds 6
  bif (one.int == (0 : Int)) then
    (f_gateref2_RoundOf K (D.n r0.list) many).bind fun t17 =>
    (f_slices_Equal_string K (D.n r1.list) (D.n ((D.nth t17 0).list))).bind fun t18 =>
    bif (!(!((D.nth t18 0).bool))) then
      bif (two.int == (0 : Int)) then
        (f_gateref2_OrderOf K (D.n r0.list) key).bind fun t19 =>
        (f_slices_Equal_string K (D.n r2.list) (D.n ((D.nth t19 0).list))).bind fun t20 =>
        some (0, [D.b (!((D.nth t20 0).bool)), D.n r0.list, D.n r1.list, D.n r2.list])
      else
        some (0, [D.b false, D.n r0.list, D.n r1.list, D.n r2.list])
    else
      some (0, [D.b true, D.n r0.list, D.n r1.list, D.n r2.list])
  else
    bif (two.int == (0 : Int)) then
      (f_gateref2_OrderOf K (D.n r0.list) key).bind fun t21 =>
      (f_slices_Equal_string K (D.n r2.list) (D.n ((D.nth t21 0).list))).bind fun t22 =>
      some (0, [D.b (!((D.nth t22 0).bool)), D.n r0.list, D.n r1.list, D.n r2.list])
    else
      some (0, [D.b false, D.n r0.list, D.n r1.list, D.n r2.list])
def c_gatelaw2_InstancesPicked_1 (K : Nat) : Cut := { sh := { sl := [(4, .own 26 0), (5, .d 3 true), (6, .d 9 true), (9, .own 32 1), (11, .own 32 2), (19, .d 33 true), (20, .d 33 true)], ob := [(0, .row 55 true), (1, .row 9 true), (2, .row 9 true)] }, kept := [0, 1, 2], outs := [(.normal, { sl := [(153, .d 4 true)], ob := [(0, .row 55 true), (1, .row 9 true), (2, .row 9 true)] })], f := b_gatelaw2_InstancesPicked_1 K }
def b_gatelaw2_InstancesPicked_0 (K : Nat) (ds : List D) : Option (Nat × List D) :=
  let key := D.nth ds 0
  let factor := D.nth ds 1
  let vnone := D.nth ds 2
  let three := D.nth ds 3
  let four := D.nth ds 4
  let s92 := D.nth ds 5
  let r0 := D.nth ds 6
  let r1 := D.nth ds 7
  bif s92.bool then
    (f_gateref2_LoadsFault K (D.n r0.list) (D.n r1.list)).bind fun t16 =>
    (f_gatelaw2_errs K (D.n [D.nth t16 0, vnone])).bind fun t17 =>
    (f_gateref2_LoadsFault K (D.n r0.list) (D.n r1.list)).bind fun t18 =>
    (f_gatelaw2_when K (D.b (bif (ltI factor.int 1000) then true else (gtI factor.int 1000000))) (D.i 1)).bind fun t19 =>
    (f_gateref2_OrderKey K key).bind fun t20 =>
    (f_gatelaw2_errs K (D.n [D.nth t18 0, D.nth t19 0, D.nth t20 0, vnone])).bind fun t21 =>
    some (0, [D.nth t17 0, D.nth t21 0, D.n r0.list, D.n r1.list])
  else
    some (0, [three, four, D.n r0.list, D.n r1.list])
def c_gatelaw2_InstancesPicked_0 (K : Nat) : Cut := { sh := { sl := [(4, .own 26 0), (6, .d 9 true), (7, .d 3 true), (8, .own 30 1), (18, .d 33 true), (21, .d 33 true), (22, .d 33 true), (92, .d 4 true)], ob := [(0, .row 55 true), (1, .row 61 true)] }, kept := [0, 1], outs := [(.normal, { sl := [(21, .d 33 true), (22, .d 33 true)], ob := [(0, .row 55 true), (1, .row 61 true)] })], f := b_gatelaw2_InstancesPicked_0 K }
def f_gatelaw2_InstancesPicked (K : Nat) (l : D) : Option (List D) :=
  (f_gatemake_Stream_Instances K (D.n [l, D.i 0])).bind fun t1 =>
  (f_gatemake_Stream_Pick K (D.nth t1 0) (D.n [D.i 0, D.i 1, D.i 7, D.i 12, D.i 30, D.i (-1), D.i 2001])).bind fun t2 =>
  (f_gatemake_Stream_HashKey K (D.nth t2 1)).bind fun t3 =>
  (f_gatemake_Stream_Pick K (D.nth t3 1) (D.n [D.i 1000, D.i 1100, D.i 1500, D.i 3000, D.i 1000000, D.i 999, D.i 1000001])).bind fun t4 =>
  (f_gatemake_Stream_Loads K (D.nth t4 1) (D.n ((D.nth t1 1).list))).bind fun t5 =>
  (f_upstream_Round K (D.n ((D.nth t5 1).list)) (D.nth t2 0)).bind fun t6 =>
  (f_upstream_Order K (D.n ((D.nth t5 1).list)) (D.nth t3 0)).bind fun t7 =>
  (f_upstream_Least K (D.n ((D.nth t5 1).list)) (D.n ((D.nth t5 2).list))).bind fun t8 =>
  (f_upstream_Bounded K (D.n ((D.nth t5 1).list)) (D.n ((D.nth t5 2).list)) (D.nth t3 0) (D.nth t4 0)).bind fun t9 =>
  (f_gateref2_InstancesFault K (D.n ((D.nth t5 1).list))).bind fun t10 =>
  (f_gatelaw2_when K (D.b ((((D.nth t5 1).list).length : Int) == (0 : Int))) (D.i 8)).bind fun t11 =>
  (f_gatelaw2_when K (D.b (bif (ltI ((D.nth t2 0).int) 0) then true else (gtI ((D.nth t2 0).int) 2000))) (D.i 1)).bind fun t12 =>
  (f_gatelaw2_errs K (D.n [D.nth t10 0, D.nth t12 0, D.nth t11 0])).bind fun t13 =>
  (f_gateref2_OrderKey K (D.nth t3 0)).bind fun t14 =>
  (f_gatelaw2_errs K (D.n [D.nth t10 0, D.nth t14 0])).bind fun t15 =>
  (b_gatelaw2_InstancesPicked_0 K [D.nth t3 0, D.nth t4 0, D.nth t11 0, D.nth t10 0, D.nth t10 0, D.b (((D.nth t10 0).int) == (0 : Int)), D.n ((D.nth t5 1).list), D.n ((D.nth t5 2).list)]).bind fun t16 =>
  bif (bif (bif (bif (((D.nth t6 0).int) != ((D.nth t13 0).int)) then true else (((D.nth t7 0).int) != ((D.nth t15 0).int))) then true else (((D.nth t8 1).int) != ((D.nth t16.2 0).int))) then true else (((D.nth t9 1).int) != ((D.nth t16.2 1).int))) then
    some [D.b false]
  else
    (b_gatelaw2_InstancesPicked_1 K [D.nth t2 0, D.nth t3 0, D.nth t13 0, D.nth t15 0, D.n ((D.nth t16.2 2).list), D.n ((D.nth t6 1).list), D.n ((D.nth t7 1).list)]).bind fun t17 =>
    bif (D.nth t17.2 0).bool then
      some [D.b false]
    else
      (b_gatelaw2_InstancesPicked_2 K [D.s [], D.b (((D.nth t16.2 0).int) == (0 : Int)), D.n ((D.nth t17.2 1).list), D.n ((D.nth t16.2 3).list)]).bind fun t18 =>
      (b_gatelaw2_InstancesPicked_3 K [D.nth t3 0, D.nth t4 0, D.s [], D.b (((D.nth t16.2 1).int) == (0 : Int)), D.n ((D.nth t18.2 1).list), D.n ((D.nth t18.2 2).list)]).bind fun t19 =>
      bif (bif (bif (bif (((D.nth t8 0).str) == ((D.nth t18.2 0).str)) then (((D.nth t9 0).str) == ((D.nth t19.2 0).str)) else false) then (bif (((D.nth t13 0).int) == (0 : Int)) then true else ((((D.nth t17.2 2).list).length : Int) == (0 : Int))) else false) then (bif (((D.nth t15 0).int) == (0 : Int)) then true else ((((D.nth t17.2 3).list).length : Int) == (0 : Int))) else false) then
        (f_gatelaw2_balanced K).bind fun t20 =>
        some [D.b ((D.nth t20 0).bool)]
      else
        some [D.b false]
def e_gatelaw2_InstancesPicked (K : Nat) : Entry := { n := 1, sh := { sl := [(0, .d 22 false)], ob := [] }, kept := [], rs := [{ sl := [(0, .d 4 true)], ob := [] }], f := fun ds => f_gatelaw2_InstancesPicked K (D.nth ds 0), tot := none }
def T_gatelaw2_InstancesPicked (K : Nat) : Tbl := { T0 with ents := entsOf [(4, e_gatemake_Stream_Instances K), (5, e_gatemake_Stream_Pick K), (6, e_gatemake_Stream_HashKey K), (7, e_gatemake_Stream_Loads K), (8, e_upstream_Round K), (9, e_upstream_Order K), (10, e_upstream_Least K), (11, e_upstream_Bounded K), (12, e_gateref2_InstancesFault K), (13, e_gatelaw2_when K), (14, e_gatelaw2_errs K), (15, e_gateref2_OrderKey K), (16, e_gateref2_LoadsFault K), (18, e_gateref2_RoundOf K), (17, e_slices_Equal_string K), (19, e_gateref2_OrderOf K), (20, e_gateref2_LeastLoad K), (21, e_gateref2_BoundedOf K), (22, e_gatelaw2_balanced K)], cuts := lk [(0, c_gatelaw2_InstancesPicked_0 K), (1, c_gatelaw2_InstancesPicked_1 K), (2, c_gatelaw2_InstancesPicked_2 K), (3, c_gatelaw2_InstancesPicked_3 K)] }
theorem q_gatelaw2_InstancesPicked_3 (K : Nat) (ds : List D) : evPiece (T_gatelaw2_InstancesPicked K) 195 (sub (codeOf Tryz.f3) [1, 1, 1, 1, 1, 1, 1, 1, 1, 1, 1, 1, 1, 1, 1, 1, 1, 1, 0, 1]) .go (c_gatelaw2_InstancesPicked_3 K) ds = b_gatelaw2_InstancesPicked_3 K ds := by kernel_rfl
theorem k_gatelaw2_InstancesPicked_3 (K : Nat) : CutOK Tryz.prog (T_gatelaw2_InstancesPicked K) 195 (sub (codeOf Tryz.f3) [1, 1, 1, 1, 1, 1, 1, 1, 1, 1, 1, 1, 1, 1, 1, 1, 1, 1, 0, 1]) (c_gatelaw2_InstancesPicked_3 K) :=
  piece_thm (T := T_gatelaw2_InstancesPicked K) (hT_of hT0 rfl rfl rfl) (hes_ok (T0 := T0) (T := T_gatelaw2_InstancesPicked K) rfl rfl (⟨ok_gatemake_Stream_Instances K, ok_gatemake_Stream_Pick K, ok_gatemake_Stream_HashKey K, ok_gatemake_Stream_Loads K, ok_upstream_Round K, ok_upstream_Order K, ok_upstream_Least K, ok_upstream_Bounded K, ok_gateref2_InstancesFault K, ok_gatelaw2_when K, ok_gatelaw2_errs K, ok_gateref2_OrderKey K, ok_gateref2_LoadsFault K, ok_gateref2_RoundOf K, ok_slices_Equal_string K, ok_gateref2_OrderOf K, ok_gateref2_LeastLoad K, ok_gateref2_BoundedOf K, ok_gatelaw2_balanced K, trivial⟩ : FAll Tryz.prog T0 [(4, e_gatemake_Stream_Instances K), (5, e_gatemake_Stream_Pick K), (6, e_gatemake_Stream_HashKey K), (7, e_gatemake_Stream_Loads K), (8, e_upstream_Round K), (9, e_upstream_Order K), (10, e_upstream_Least K), (11, e_upstream_Bounded K), (12, e_gateref2_InstancesFault K), (13, e_gatelaw2_when K), (14, e_gatelaw2_errs K), (15, e_gateref2_OrderKey K), (16, e_gateref2_LoadsFault K), (18, e_gateref2_RoundOf K), (17, e_slices_Equal_string K), (19, e_gateref2_OrderOf K), (20, e_gateref2_LeastLoad K), (21, e_gateref2_BoundedOf K), (22, e_gatelaw2_balanced K)])) rfl rfl rfl (cutsOK_none (by rfl)) (q_gatelaw2_InstancesPicked_3 K)
theorem q_gatelaw2_InstancesPicked_2 (K : Nat) (ds : List D) : evPiece (T_gatelaw2_InstancesPicked K) 195 (sub (codeOf Tryz.f3) [1, 1, 1, 1, 1, 1, 1, 1, 1, 1, 1, 1, 1, 1, 1, 1, 1, 0, 1]) .go (c_gatelaw2_InstancesPicked_2 K) ds = b_gatelaw2_InstancesPicked_2 K ds := by kernel_rfl
theorem k_gatelaw2_InstancesPicked_2 (K : Nat) : CutOK Tryz.prog (T_gatelaw2_InstancesPicked K) 195 (sub (codeOf Tryz.f3) [1, 1, 1, 1, 1, 1, 1, 1, 1, 1, 1, 1, 1, 1, 1, 1, 1, 0, 1]) (c_gatelaw2_InstancesPicked_2 K) :=
  piece_thm (T := T_gatelaw2_InstancesPicked K) (hT_of hT0 rfl rfl rfl) (hes_ok (T0 := T0) (T := T_gatelaw2_InstancesPicked K) rfl rfl (⟨ok_gatemake_Stream_Instances K, ok_gatemake_Stream_Pick K, ok_gatemake_Stream_HashKey K, ok_gatemake_Stream_Loads K, ok_upstream_Round K, ok_upstream_Order K, ok_upstream_Least K, ok_upstream_Bounded K, ok_gateref2_InstancesFault K, ok_gatelaw2_when K, ok_gatelaw2_errs K, ok_gateref2_OrderKey K, ok_gateref2_LoadsFault K, ok_gateref2_RoundOf K, ok_slices_Equal_string K, ok_gateref2_OrderOf K, ok_gateref2_LeastLoad K, ok_gateref2_BoundedOf K, ok_gatelaw2_balanced K, trivial⟩ : FAll Tryz.prog T0 [(4, e_gatemake_Stream_Instances K), (5, e_gatemake_Stream_Pick K), (6, e_gatemake_Stream_HashKey K), (7, e_gatemake_Stream_Loads K), (8, e_upstream_Round K), (9, e_upstream_Order K), (10, e_upstream_Least K), (11, e_upstream_Bounded K), (12, e_gateref2_InstancesFault K), (13, e_gatelaw2_when K), (14, e_gatelaw2_errs K), (15, e_gateref2_OrderKey K), (16, e_gateref2_LoadsFault K), (18, e_gateref2_RoundOf K), (17, e_slices_Equal_string K), (19, e_gateref2_OrderOf K), (20, e_gateref2_LeastLoad K), (21, e_gateref2_BoundedOf K), (22, e_gatelaw2_balanced K)])) rfl rfl rfl (cutsOK_none (by rfl)) (q_gatelaw2_InstancesPicked_2 K)
theorem q_gatelaw2_InstancesPicked_1 (K : Nat) (ds : List D) : evPiece (T_gatelaw2_InstancesPicked K) 195 (sub (codeOf Tryz.f3) [1, 1, 1, 1, 1, 1, 1, 1, 1, 1, 1, 1, 1, 1, 1, 0, 0]) .go (c_gatelaw2_InstancesPicked_1 K) ds = b_gatelaw2_InstancesPicked_1 K ds := by kernel_rfl
theorem k_gatelaw2_InstancesPicked_1 (K : Nat) : CutOK Tryz.prog (T_gatelaw2_InstancesPicked K) 195 (sub (codeOf Tryz.f3) [1, 1, 1, 1, 1, 1, 1, 1, 1, 1, 1, 1, 1, 1, 1, 0, 0]) (c_gatelaw2_InstancesPicked_1 K) :=
  piece_thm (T := T_gatelaw2_InstancesPicked K) (hT_of hT0 rfl rfl rfl) (hes_ok (T0 := T0) (T := T_gatelaw2_InstancesPicked K) rfl rfl (⟨ok_gatemake_Stream_Instances K, ok_gatemake_Stream_Pick K, ok_gatemake_Stream_HashKey K, ok_gatemake_Stream_Loads K, ok_upstream_Round K, ok_upstream_Order K, ok_upstream_Least K, ok_upstream_Bounded K, ok_gateref2_InstancesFault K, ok_gatelaw2_when K, ok_gatelaw2_errs K, ok_gateref2_OrderKey K, ok_gateref2_LoadsFault K, ok_gateref2_RoundOf K, ok_slices_Equal_string K, ok_gateref2_OrderOf K, ok_gateref2_LeastLoad K, ok_gateref2_BoundedOf K, ok_gatelaw2_balanced K, trivial⟩ : FAll Tryz.prog T0 [(4, e_gatemake_Stream_Instances K), (5, e_gatemake_Stream_Pick K), (6, e_gatemake_Stream_HashKey K), (7, e_gatemake_Stream_Loads K), (8, e_upstream_Round K), (9, e_upstream_Order K), (10, e_upstream_Least K), (11, e_upstream_Bounded K), (12, e_gateref2_InstancesFault K), (13, e_gatelaw2_when K), (14, e_gatelaw2_errs K), (15, e_gateref2_OrderKey K), (16, e_gateref2_LoadsFault K), (18, e_gateref2_RoundOf K), (17, e_slices_Equal_string K), (19, e_gateref2_OrderOf K), (20, e_gateref2_LeastLoad K), (21, e_gateref2_BoundedOf K), (22, e_gatelaw2_balanced K)])) rfl rfl rfl (cutsOK_none (by rfl)) (q_gatelaw2_InstancesPicked_1 K)
theorem q_gatelaw2_InstancesPicked_0 (K : Nat) (ds : List D) : evPiece (T_gatelaw2_InstancesPicked K) 195 (sub (codeOf Tryz.f3) [1, 1, 1, 1, 1, 1, 1, 1, 1, 1, 1, 1, 1, 0, 1]) .go (c_gatelaw2_InstancesPicked_0 K) ds = b_gatelaw2_InstancesPicked_0 K ds := by kernel_rfl
theorem k_gatelaw2_InstancesPicked_0 (K : Nat) : CutOK Tryz.prog (T_gatelaw2_InstancesPicked K) 195 (sub (codeOf Tryz.f3) [1, 1, 1, 1, 1, 1, 1, 1, 1, 1, 1, 1, 1, 0, 1]) (c_gatelaw2_InstancesPicked_0 K) :=
  piece_thm (T := T_gatelaw2_InstancesPicked K) (hT_of hT0 rfl rfl rfl) (hes_ok (T0 := T0) (T := T_gatelaw2_InstancesPicked K) rfl rfl (⟨ok_gatemake_Stream_Instances K, ok_gatemake_Stream_Pick K, ok_gatemake_Stream_HashKey K, ok_gatemake_Stream_Loads K, ok_upstream_Round K, ok_upstream_Order K, ok_upstream_Least K, ok_upstream_Bounded K, ok_gateref2_InstancesFault K, ok_gatelaw2_when K, ok_gatelaw2_errs K, ok_gateref2_OrderKey K, ok_gateref2_LoadsFault K, ok_gateref2_RoundOf K, ok_slices_Equal_string K, ok_gateref2_OrderOf K, ok_gateref2_LeastLoad K, ok_gateref2_BoundedOf K, ok_gatelaw2_balanced K, trivial⟩ : FAll Tryz.prog T0 [(4, e_gatemake_Stream_Instances K), (5, e_gatemake_Stream_Pick K), (6, e_gatemake_Stream_HashKey K), (7, e_gatemake_Stream_Loads K), (8, e_upstream_Round K), (9, e_upstream_Order K), (10, e_upstream_Least K), (11, e_upstream_Bounded K), (12, e_gateref2_InstancesFault K), (13, e_gatelaw2_when K), (14, e_gatelaw2_errs K), (15, e_gateref2_OrderKey K), (16, e_gateref2_LoadsFault K), (18, e_gateref2_RoundOf K), (17, e_slices_Equal_string K), (19, e_gateref2_OrderOf K), (20, e_gateref2_LeastLoad K), (21, e_gateref2_BoundedOf K), (22, e_gatelaw2_balanced K)])) rfl rfl rfl (cutsOK_none (by rfl)) (q_gatelaw2_InstancesPicked_0 K)
theorem q_gatelaw2_InstancesPicked (K : Nat) (ds : List D) : evFn (T_gatelaw2_InstancesPicked K) Tryz.f3 (.seq .go (.seq .go (.seq .go (.seq .go (.seq .go (.seq .go (.seq .go (.seq .go (.seq .go (.seq .go (.seq .go (.seq .go (.seq .go (.seq (.seq .go (.cut 0)) (.seq .go (.seq (.seq (.cut 1) .go) (.seq .go (.seq (.seq .go (.cut 2)) (.seq (.seq .go (.cut 3)) .go))))))))))))))))))) (e_gatelaw2_InstancesPicked K) ds = (e_gatelaw2_InstancesPicked K).f ds := by kernel_rfl
theorem ok_gatelaw2_InstancesPicked (K : Nat) : FnOK Tryz.prog T0 3 (e_gatelaw2_InstancesPicked K) :=
  fn_thm (T0 := T0) (T := T_gatelaw2_InstancesPicked K) rfl (hT_of hT0 rfl rfl rfl) (hes_ok (T0 := T0) (T := T_gatelaw2_InstancesPicked K) rfl rfl (⟨ok_gatemake_Stream_Instances K, ok_gatemake_Stream_Pick K, ok_gatemake_Stream_HashKey K, ok_gatemake_Stream_Loads K, ok_upstream_Round K, ok_upstream_Order K, ok_upstream_Least K, ok_upstream_Bounded K, ok_gateref2_InstancesFault K, ok_gatelaw2_when K, ok_gatelaw2_errs K, ok_gateref2_OrderKey K, ok_gateref2_LoadsFault K, ok_gateref2_RoundOf K, ok_slices_Equal_string K, ok_gateref2_OrderOf K, ok_gateref2_LeastLoad K, ok_gateref2_BoundedOf K, ok_gatelaw2_balanced K, trivial⟩ : FAll Tryz.prog T0 [(4, e_gatemake_Stream_Instances K), (5, e_gatemake_Stream_Pick K), (6, e_gatemake_Stream_HashKey K), (7, e_gatemake_Stream_Loads K), (8, e_upstream_Round K), (9, e_upstream_Order K), (10, e_upstream_Least K), (11, e_upstream_Bounded K), (12, e_gateref2_InstancesFault K), (13, e_gatelaw2_when K), (14, e_gatelaw2_errs K), (15, e_gateref2_OrderKey K), (16, e_gateref2_LoadsFault K), (18, e_gateref2_RoundOf K), (17, e_slices_Equal_string K), (19, e_gateref2_OrderOf K), (20, e_gateref2_LeastLoad K), (21, e_gateref2_BoundedOf K), (22, e_gatelaw2_balanced K)])) Tryz.func3 (by decide) rfl (Nat.le_of_ble_eq_true rfl) rfl rfl rfl (tot_none rfl) (cutsOK_list (l := [(0, sub (codeOf Tryz.f3) [1, 1, 1, 1, 1, 1, 1, 1, 1, 1, 1, 1, 1, 0, 1]), (1, sub (codeOf Tryz.f3) [1, 1, 1, 1, 1, 1, 1, 1, 1, 1, 1, 1, 1, 1, 1, 0, 0]), (2, sub (codeOf Tryz.f3) [1, 1, 1, 1, 1, 1, 1, 1, 1, 1, 1, 1, 1, 1, 1, 1, 1, 0, 1]), (3, sub (codeOf Tryz.f3) [1, 1, 1, 1, 1, 1, 1, 1, 1, 1, 1, 1, 1, 1, 1, 1, 1, 1, 0, 1])]) (by kernel_rfl) ⟨cut_one (u := c_gatelaw2_InstancesPicked_0 K) rfl (k_gatelaw2_InstancesPicked_0 K), cut_one (u := c_gatelaw2_InstancesPicked_1 K) rfl (k_gatelaw2_InstancesPicked_1 K), cut_one (u := c_gatelaw2_InstancesPicked_2 K) rfl (k_gatelaw2_InstancesPicked_2 K), cut_one (u := c_gatelaw2_InstancesPicked_3 K) rfl (k_gatelaw2_InstancesPicked_3 K), trivial⟩) (q_gatelaw2_InstancesPicked K)
end Go.Proofs.YtmppogdbjklapaaGreatP
