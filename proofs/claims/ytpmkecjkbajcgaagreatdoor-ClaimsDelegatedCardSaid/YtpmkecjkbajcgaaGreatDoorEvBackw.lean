/- The evaluator: the iterator of slices.Backward: whatever the rounds do, so they keep what they are asked. -/
import Derived.Test.YtpmkecjkbajcgaaGreatDoorEvClear
namespace Go.Ev
open Go
set_option linter.unusedVariables false
set_option linter.unusedSimpArgs false
section
variable {P : Program} {T : Tbl}
/-- The contract of such an iterator: the rounds come with n - 1, .., 0. -/
def IterOK (P : Program) (gB : FuncId) (ke : K) : Prop :=
  ∀ (l : Nat) (cap : Value) (n : Nat) (J : Nat → World → Prop) (Jx : World → Prop) (W : World), n ≤ maxLen →
    (∀ k W, J k W → ∃ ad A c, cap = .pointer (some ad) ∧ ad.spot = none ∧ At W ad [.slice A n c]) →
    (∀ k W, k < n → J (k + 1) W → ∀ ad A c, cap = .pointer (some ad) → At W ad [.slice A n c] → ∃ b cs, A = some b ∧ b.spot = none ∧ cs.length = ke.size ∧ (ke.agg = false → ∃ u, cs = [u] ∧ aggV u = false) ∧ At W (shift b (k * ke.size)) cs ∧
      ∃ r, W.heap[l]? = some (.loop r) ∧ r.params.size = 2 ∧ ∀ xv : Value, xv.cells.toList = cs → aggV xv = ke.agg →
        RoundIn (FW none) 0 P l r.fn ((r.params.zip #[.int .i64 (k : Int), xv]).foldl (fun t (p, v) => t.setIfInBounds p v) r.tmps) r.assign r.body W fun ee W' => (ee = .returned (.bool true) ∧ J k W') ∨ (ee = .returned (.bool false) ∧ Jx W')) →
    J n W → CallsIn (FW none) 0 P gB #[.func (.yield l) #[] #[], cap] W fun ee W' => (∃ u, ee = .returned u) ∧ (J 0 W' ∨ Jx W')
theorem list_step {ro : Option Nat} {ops : Array Oper} {rest : List Oper} {d : Nat} {op : Op} {ty : TypeId} {pos : String} {af : Array Edge} {a : Act} {w : World} {Q : Exit → Act → World → Prop} {v : Value} (hnd : ∀ c, op ≠ .defer c) (hd : d < a.tmps.size) (hr : (execOp a.eval ⟨some d, op, ty, pos, af, none⟩).run P w = .ok (.value v) w)
    (h : ∀ a' : Act, a'.tmps.size = a.tmps.size → a'.defers = a.defers → a'.eval (.tmp d) = v → (∀ q : Nat, q ≠ d → a'.eval (.tmp q) = a.eval (.tmp q)) → wpListIn (FW ro) 0 P ops Q rest a' w) : wpListIn (FW ro) 0 P ops Q (⟨some d, op, ty, pos, af, none⟩ :: rest) a w :=
  wpListIn_plain rfl fun K hK => opIn ro hnd (by
    unfold Oper.wp
    rw [hr]
    refine hK _ _ (h _ put_size put_defers' (put_get hd) fun q hq => ?_)
    show (a.put (some d) v).tmps.getD q undef = a.tmps.getD q undef
    rw [Array.getD_eq_getD_getElem?, Array.getD_eq_getD_getElem?, put_other (by simpa using Ne.symm hq)])
theorem move_run {x : Operand} {dst : Option Nat} {ty : TypeId} {pos : String} {af : Array Edge} {ρ : Operand → Value} {v : Value} {w : World} (h : ρ x = v) : (execOp ρ ⟨dst, .move x, ty, pos, af, none⟩).run P w = .ok (.value v) w := by rw [← h]; rfl
theorem assign_run {x : Operand} {dst : Option Nat} {ty : TypeId} {pos : String} {af : Array Edge} {ρ : Operand → Value} {v : Value} {w : World} (h : ρ x = v) : (execOp ρ ⟨dst, .assign x, ty, pos, af, none⟩).run P w = .ok (.value v) w := by rw [← h]; rfl
theorem not_run {x : Operand} {t : TypeId} {dst : Option Nat} {ty : TypeId} {pos : String} {af : Array Edge} {ρ : Operand → Value} {b : Bool} {w : World} (h : ρ x = .bool b) : (execOp ρ ⟨dst, .unOp .not t x, ty, pos, af, none⟩).run P w = .ok (.value (.bool (!b))) w := by
  simp only [execOp, h]
  rfl
theorem len_run {x : Operand} {t e : TypeId} {dst : Option Nat} {ty : TypeId} {pos : String} {af : Array Edge} {ρ : Operand → Value} {A : Option Addr} {m c : Nat} {w : World} (ht : P.underlying t = some (.slice e)) (h : ρ x = .slice A m c) :
    (execOp ρ ⟨dst, .call ⟨.builtin .len, #[x], #[t]⟩, ty, pos, af, none⟩).run P w = .ok (.value (.int .i64 m)) w := by
  rw [exec_builtin rfl rfl]
  have : (Builtin.len_ #[t] ty #[Value.slice A m c]).run P w = .ok (goInt m) w := by simp [Builtin.len_, run_underlying ht]
  simp only [builtin, Sem.run_bind, List.map_toArray, List.map_cons, List.map_nil, h, this, Result.andThen_ok, Sem.run_pure]
  rfl
theorem bin_run {op : BinOp} {t : TypeId} {ox oy : Operand} {dst : Option Nat} {ty : TypeId} {pos : String} {af : Array Edge} {ρ : Operand → Value} {u : TypeId} {v : Value} {w : World} (h : binRun P op t ox oy (ρ ox) (ρ oy) w = .ok v w) :
    (execOp ρ ⟨dst, .binOp op t ox oy u, ty, pos, af, none⟩).run P w = .ok (.value v) w := by
  unfold binRun at h
  simp only [execOp]
  rw [Sem.run_bind, h]
  rfl
theorem load_run {t : TypeId} {x : Operand} {dst : Option Nat} {ty : TypeId} {pos : String} {af : Array Edge} {ρ : Operand → Value} {v : Value} {w : World} (h : (Instr.loadAt t (ρ x)).run P w = .ok v w) :
    (execOp ρ ⟨dst, .load t x, ty, pos, af, none⟩).run P w = .ok (.value v) w := by
  simp only [execOp]
  rw [Sem.run_bind, h]
  rfl
theorem index_run {t : TypeId} {x y : Operand} {dst : Option Nat} {ty : TypeId} {pos : String} {af : Array Edge} {ρ : Operand → Value} {v : Value} {w : World} (h : (Instr.indexAt t (ρ x) (ρ y)).run P w = .ok v w) :
    (execOp ρ ⟨dst, .indexAddr t x y, ty, pos, af, none⟩).run P w = .ok (.value v) w := by
  simp only [execOp]
  rw [Sem.run_bind, h]
  rfl
theorem yield_run {f x y : Operand} {tys : Array TypeId} {dst : Option Nat} {ty : TypeId} {pos : String} {af : Array Edge} {ρ : Operand → Value} {l : Nat} {r : Loop} {w : World} (hf : ρ f = .func (.yield l) #[] #[]) (h : w.heap[l]? = some (.loop r)) (hp : r.params.size = 2) :
    (execOp ρ ⟨dst, .call ⟨.value f, #[x, y], tys⟩, ty, pos, af, none⟩).run P w = .ok (.round l r.fn ((r.params.zip #[ρ x, ρ y]).foldl (fun t (p, v) => t.setIfInBounds p v) r.tmps) r.assign r.body) w := by
  have h1 := run_yield (P := P) (args := #[ρ x, ρ y]) h (by simp [hp])
  have h2 : (Go.resolve ρ ⟨.value f, #[x, y], tys⟩ ty).run P w = .ok { target := .fn (.yield l) #[], args := #[ρ x, ρ y] } w := by
    unfold Go.resolve
    simp only [hf, List.map_toArray, List.map_cons, List.map_nil]
    simp [Deferred.ofValue]
  show ((do let d ← Go.resolve ρ ⟨.value f, #[x, y], tys⟩ ty; invoke d.target d.args : Sem Next)).run P w = _
  rw [Sem.run_bind, h2, Result.andThen_ok]
  exact h1
theorem back_r3 {ct e : TypeId} {ke : K} (hTc : TyOK P T.kd ct (.slice e ke)) (hTe : TyOK P T.kd e ke) {i3 : Nat} {bt : TypeId} {y6 y7 y8 y9 y10 y11 y12 y13 : TypeId} {p6 p7 p8 p9 p10 p11 p12 p13 : String} {a6 a7 a8 a9 a10 a11 a12 a13 : Array Edge} {tys : Array TypeId}
    {l n k c : Nat} {b : Addr} {cs : List Value} {cap : Value} {J : World → Prop} {Jx : World → Prop} {QQ : Exit → Act → World → Prop} {b1 : Act} {w : World} {r : Loop} (hk : k < n) (hb1s : b1.tmps.size = 19) (hb10 : b1.eval (.tmp 0) = .func (.yield l) #[] #[]) (hb11 : b1.eval (.tmp 1) = cap) (hb13 : b1.eval (.tmp 3) = .int .i64 (k : Int)) (hb1d : b1.defers = [])
    (hc3 : (Instr.loadAt ct cap).run P w = .ok (.slice (some b) n c) w) (hbs : b.spot = none) (hcl : cs.length = ke.size) (hone : ke.agg = false → ∃ u, cs = [u] ∧ aggV u = false) (hat : At w (shift b (k * ke.size)) cs) (hl : w.heap[l]? = some (.loop r)) (hp : r.params.size = 2)
    (hrnd : ∀ xv : Value, xv.cells.toList = cs → aggV xv = ke.agg → RoundIn (FW none) 0 P l r.fn ((r.params.zip #[.int .i64 (k : Int), xv]).foldl (fun t (p, v) => t.setIfInBounds p v) r.tmps) r.assign r.body w fun ee W' => (ee = .returned (.bool true) ∧ J W') ∨ (ee = .returned (.bool false) ∧ Jx W'))
    (hQ1 : ∀ (a' : Act) (w' : World), a'.tmps.size = 19 → a'.eval (.tmp 0) = .func (.yield l) #[] #[] → a'.eval (.tmp 1) = cap → a'.eval (.tmp 3) = .int .i64 (k : Int) → a'.defers = [] → J w' → QQ .normal a' w')
    (hQ2 : ∀ (a' : Act) (w' : World), a'.defers = [] → Jx w' → QQ .ret a' w') :
    (Code.seq (.region i3 #[⟨some 11, .move (.tmp 0), y6, p6, a6, none⟩, ⟨some 12, .move (.tmp 3), y7, p7, a7, none⟩, ⟨some 13, .load ct (.tmp 1), y8, p8, a8, none⟩, ⟨some 14, .move (.tmp 3), y9, p9, a9, none⟩, ⟨some 15, .indexAddr ct (.tmp 13) (.tmp 14), y10, p10, a10, none⟩, ⟨some 16, .load e (.tmp 15), y11, p11, a11, none⟩,
      ⟨some 17, .call ⟨.value (.tmp 11), #[.tmp 12, .tmp 16], tys⟩, y12, p12, a12, none⟩, ⟨some 18, .unOp .not bt (.tmp 17), y13, p13, a13, none⟩] false) (.cond (.tmp 18) .ret .skip)).wpIn (FW none) 0 P QQ b1 w := by
  refine wpIn_seq (wpIn_region_list ?_)
  refine list_step (fun _ h => by cases h) (by omega) (move_run hb10) fun c1 s1 d1 v1 o1 => ?_
  refine list_step (fun _ h => by cases h) (by omega) (move_run ((o1 3 (by omega)).trans hb13)) fun c2 s2 d2 v2 o2 => ?_
  refine list_step (fun _ h => by cases h) (by omega) (load_run (by rw [o2 1 (by omega), o1 1 (by omega), hb11]; exact hc3)) fun c3 s3 d3 v3 o3 => ?_
  refine list_step (fun _ h => by cases h) (by omega) (move_run (by rw [o3 3 (by omega), o2 3 (by omega), o1 3 (by omega), hb13])) fun c4 s4 d4 v4 o4 => ?_
  have hidx := run_indexAt (P := P) hTc hTe w b n c .i64 (k : Int) ⟨by omega, by omega⟩
  rw [Int.toNat_natCast, add_shift hbs] at hidx
  refine list_step (fun _ h => by cases h) (by omega) (index_run (by rw [o4 13 (by omega), v3, v4]; exact hidx)) fun c5 s5 d5 v5 o5 => ?_
  obtain ⟨xv, hx1, hx2, hx3⟩ := run_loadAt (P := P) hTe hcl hone (ad := shift b (k * ke.size)) rfl hat
  refine list_step (fun _ h => by cases h) (by omega) (load_run (by rw [v5]; exact hx1)) fun b2 s6 d6 v6 o6 => ?_
  have hb2s : b2.tmps.size = 19 := by omega
  have hb2d : b2.defers = [] := by rw [d6, d5, d4, d3, d2, d1]; exact hb1d
  have h0 : ∀ q : Nat, q ≠ 11 → q ≠ 12 → q ≠ 13 → q ≠ 14 → q ≠ 15 → q ≠ 16 → b2.eval (.tmp q) = b1.eval (.tmp q) := fun q q1 q2 q3 q4 q5 q6 => by rw [o6 q q6, o5 q q5, o4 q q4, o3 q q3, o2 q q2, o1 q q1]
  have e11 : b2.eval (.tmp 11) = .func (.yield l) #[] #[] := by rw [o6 11 (by omega), o5 11 (by omega), o4 11 (by omega), o3 11 (by omega), o2 11 (by omega), v1]
  have e12 : b2.eval (.tmp 12) = .int .i64 (k : Int) := by rw [o6 12 (by omega), o5 12 (by omega), o4 12 (by omega), o3 12 (by omega), v2]
  refine wpListIn_plain rfl fun K hK => ?_
  unfold Oper.wpIn
  refine ⟨fun _ _ => trivial, ?_⟩
  have hy := yield_run (P := P) (f := .tmp 11) (x := .tmp 12) (y := .tmp 16) (tys := tys) (dst := some 17) (ty := y12) (pos := p12) (af := a12) (ρ := b2.eval) e11 hl hp
  simp only [show (FW none).round = none from rfl, Oper.semAt_none]
  rw [hy, Oper.uponIn_round]
  refine ⟨fun h => (by cases h), ?_⟩
  rw [e12, v6]
  refine (hrnd xv hx2 hx3).mono ?_
  have hput : ∀ (bb : Bool), (b2.put (some 17) (.bool bb)).eval (.tmp 17) = .bool bb ∧ (b2.put (some 17) (.bool bb)).tmps.size = 19 ∧ (b2.put (some 17) (.bool bb)).defers = [] ∧ ∀ q : Nat, q ≠ 17 → (b2.put (some 17) (.bool bb)).eval (.tmp q) = b2.eval (.tmp q) := fun bb => by
    refine ⟨put_get (by omega), by rw [put_size]; exact hb2s, by rw [put_defers']; exact hb2d, fun q hq => ?_⟩
    show (b2.put (some 17) (.bool bb)).tmps.getD q undef = b2.tmps.getD q undef
    rw [Array.getD_eq_getD_getElem?, Array.getD_eq_getD_getElem?, put_other (by simpa using Ne.symm hq)]
  rintro ee w' (⟨rfl, hJ'⟩ | ⟨rfl, hJ'⟩)
  · refine hK _ _ ?_
    obtain ⟨f1, f2, f3, f4⟩ := hput true
    generalize (b2.put (some 17) (.bool true)) = b3 at f1 f2 f3 f4 ⊢
    refine list_step (fun _ h => by cases h) (by omega) (not_run f1) fun b4 s8 d8 v8 o8 => wpListIn_nil ?_
    refine wpIn_cond_false v8 (wpIn_skip (hQ1 _ _ (by omega) ?_ ?_ ?_ (by rw [d8]; exact f3) hJ'))
    · rw [o8 0 (by omega), f4 0 (by omega), h0 0 (by omega) (by omega) (by omega) (by omega) (by omega) (by omega)]; exact hb10
    · rw [o8 1 (by omega), f4 1 (by omega), h0 1 (by omega) (by omega) (by omega) (by omega) (by omega) (by omega)]; exact hb11
    · rw [o8 3 (by omega), f4 3 (by omega), h0 3 (by omega) (by omega) (by omega) (by omega) (by omega) (by omega)]; exact hb13
  · refine hK _ _ ?_
    obtain ⟨f1, f2, f3, f4⟩ := hput false
    generalize (b2.put (some 17) (.bool false)) = b3 at f1 f2 f3 f4 ⊢
    refine list_step (fun _ h => by cases h) (by omega) (not_run f1) fun b4 s8 d8 v8 o8 => wpListIn_nil ?_
    exact wpIn_cond_true v8 (wpIn_ret (hQ2 _ _ (by rw [d8]; exact f3) hJ'))
theorem back_ok (hT : TblOK P T) {gB : FuncId} {fn : Func} (hfn : P.funcs[gB]? = some fn) {ct e : TypeId} {ke : K} (hct : T.kd ct = some (.slice e ke)) (hnt : fn.ntmps = 19) (hres : fn.results = #[])
    {i0 i1 i2 i3 : Nat} {it bt : TypeId} {y0 y1 y2 y3 y4 y5 y6 y7 y8 y9 y10 y11 y12 y13 y14 y15 y16 u1 u2 u3 : TypeId} {p0 p1 p2 p3 p4 p5 p6 p7 p8 p9 p10 p11 p12 p13 p14 p15 p16 : String} {a0 a1 a2 a3 a4 a5 a6 a7 a8 a9 a10 a11 a12 a13 a14 a15 a16 : Array Edge} {tys : Array TypeId}
    (hbody : fn.body = some (.seq (.region i0 #[⟨some 4, .load ct (.tmp 1), y0, p0, a0, none⟩, ⟨some 5, .call ⟨.builtin .len, #[.tmp 4], #[ct]⟩, y1, p1, a1, none⟩, ⟨some 6, .binOp .sub it (.tmp 5) (.const (.int .i64 1)) u1, y2, p2, a2, none⟩, ⟨some 3, .assign (.tmp 6), y3, p3, a3, none⟩] false)
      (.block 0 (.loop (.seq (.seq (.region i1 #[⟨some 7, .move (.tmp 3), y4, p4, a4, none⟩, ⟨some 8, .binOp .geq it (.tmp 7) (.const (.int .i64 0)) u2, y5, p5, a5, none⟩] false) (.cond (.tmp 8) .skip (.exit 0)))
        (.seq (.block 1 (.seq (.region i3 #[⟨some 11, .move (.tmp 0), y6, p6, a6, none⟩, ⟨some 12, .move (.tmp 3), y7, p7, a7, none⟩, ⟨some 13, .load ct (.tmp 1), y8, p8, a8, none⟩, ⟨some 14, .move (.tmp 3), y9, p9, a9, none⟩, ⟨some 15, .indexAddr ct (.tmp 13) (.tmp 14), y10, p10, a10, none⟩, ⟨some 16, .load e (.tmp 15), y11, p11, a11, none⟩,
            ⟨some 17, .call ⟨.value (.tmp 11), #[.tmp 12, .tmp 16], tys⟩, y12, p12, a12, none⟩, ⟨some 18, .unOp .not bt (.tmp 17), y13, p13, a13, none⟩] false) (.cond (.tmp 18) .ret .skip)))
          (.region i2 #[⟨some 9, .move (.tmp 3), y14, p14, a14, none⟩, ⟨some 10, .binOp .sub it (.tmp 9) (.const (.int .i64 1)) u3, y15, p15, a15, none⟩, ⟨some 3, .assign (.tmp 10), y16, p16, a16, none⟩] false))))))) : IterOK P gB ke := by
  have hes := slice_elem (hT.ty _ _ hct)
  have hTc := hT.ty _ _ hct
  have hTe := hT.ty _ _ hes.2
  intro l cap n J Jx W hn hcap hround h0
  refine callsIn_of_wp hfn hbody trivial ?_
  have hload : ∀ k W, J k W → ∃ ad A c, cap = .pointer (some ad) ∧ At W ad [.slice A n c] ∧ (Instr.loadAt ct cap).run P W = .ok (.slice A n c) W := fun k W hJ => by
    obtain ⟨ad, A, c, h1, h2, h3⟩ := hcap k W hJ
    obtain ⟨v, h4, h5, h6⟩ := run_loadAt hTc (ds := [.slice A n c]) rfl (fun _ => ⟨_, rfl, rfl⟩) h2 h3
    have := cells_one h5 h6
    subst this
    exact ⟨ad, A, c, h1, h3, by rw [h1]; exact h4⟩
  rw [hnt]
  generalize hb0 : ({ tmps := #[.func (.yield l) #[] #[], cap] ++ Array.replicate (19 - (#[Value.func (.yield l) #[] #[], cap] : Array Value).size) undef, defers := [] } : Act) = b0
  have hb0s : b0.tmps.size = 19 := by rw [← hb0]; simp
  have hb00 : b0.eval (.tmp 0) = .func (.yield l) #[] #[] := by rw [← hb0]; simp [Act.eval]
  have hb01 : b0.eval (.tmp 1) = cap := by rw [← hb0]; simp [Act.eval]
  have hb0d : b0.defers = [] := by rw [← hb0]
  clear hb0
  have hsub : ∀ (ρ : Operand → Value) (x : Operand) (w : World) (m : Nat), m ≤ maxLen → ρ x = .int .i64 m → ρ (.const (.int .i64 1)) = .int .i64 1 → binRun P .sub it x (.const (.int .i64 1)) (ρ x) (ρ (.const (.int .i64 1))) w = .ok (.int .i64 ((m : Int) - 1)) w := fun ρ x w m hm h1 h2 => by
    rw [h1, h2, bin_int _ _ _ _ _ _ _ _ (by simp) (by simp)]
    have : IntKind.i64.wrap ((m : Int) - 1) = (m : Int) - 1 := by
      unfold maxLen at hm
      simp only [IntKind.wrap, IntKind.bits, IntKind.signed]
      simp
      omega
    simp only [this]
  refine wpIn_seq (wpIn_region_list ?_)
  obtain ⟨ad, A, c, hc1, hc2, hc3⟩ := hload n W h0
  refine list_step (fun _ h => by cases h) (by omega) (load_run (v := .slice A n c) (by rw [hb01]; exact hc3)) fun c1 s1 d1 v1 o1 => ?_
  refine list_step (fun _ h => by cases h) (by omega) (len_run hes.1 v1) fun c2 s2 d2 v2 o2 => ?_
  refine list_step (fun _ h => by cases h) (by omega) (bin_run (hsub _ (.tmp 5) _ n hn v2 rfl)) fun c3 s3 d3 v3 o3 => ?_
  refine list_step (fun _ h => by cases h) (by omega) (assign_run v3) fun c4 s4 d4 v4 o4 => ?_
  refine wpListIn_nil ?_
  show (Code.block 0 _).wpIn (FW none) 0 P _ _ W
  refine wpIn_block ?_
  let I : Act → World → Prop := fun a w => ∃ k : Nat, k ≤ n ∧ a.tmps.size = 19 ∧ a.eval (.tmp 0) = .func (.yield l) #[] #[] ∧ a.eval (.tmp 1) = cap ∧ a.eval (.tmp 3) = .int .i64 ((k : Int) - 1) ∧ a.defers = [] ∧ J k w
  let μ : Act → World → Nat := fun a _ => match a.eval (.tmp 3) with
    | .int _ i => (i + 1).toNat
    | _ => 0
  have hend : ∀ (a : Act) (w : World) (e0 : Exit), (e0 = .normal ∨ e0 = .ret) → a.defers = [] → (J 0 w ∨ Jx w) → bodyPost P fn (fun ee W' => (∃ u, ee = .returned u) ∧ (J 0 W' ∨ Jx W')) e0 a w := fun a w e0 he hd hj => by
    rcases he with rfl | rfl
    · exact ⟨hd, _, results_none hres _ _ _, ⟨_, rfl⟩, hj⟩
    · exact ⟨hd, _, results_none hres _ _ _, ⟨_, rfl⟩, hj⟩
  refine wpIn_loop I μ ⟨n, Nat.le_refl _, by omega, ?_, ?_, v4, by rw [d4, d3, d2, d1]; exact hb0d, h0⟩ ?_
  · rw [o4 0 (by omega), o3 0 (by omega), o2 0 (by omega), o1 0 (by omega)]; exact hb00
  · rw [o4 1 (by omega), o3 1 (by omega), o2 1 (by omega), o1 1 (by omega)]; exact hb01
  rintro a w ⟨k, hk, hsz, ha0, ha1, ha3, had, hJ⟩
  refine wpIn_seq (wpIn_seq (wpIn_region_list ?_))
  refine list_step (fun _ h => by cases h) (by omega) (move_run ha3) fun e1 t1 u1 w1 r1 => ?_
  refine list_step (fun _ h => by cases h) (by omega) (bin_run (v := .bool (decide ((k : Int) - 1 ≥ 0))) (by rw [w1]; exact bin_int _ _ _ _ _ _ _ _ (by simp) (by simp))) fun b1 t2 u2 h8 r2 => ?_
  refine wpListIn_nil ?_
  show (Code.cond (.tmp 8) .skip (.exit 0)).wpIn (FW none) 0 P _ _ w
  have hb1s : b1.tmps.size = 19 := by omega
  have hb10 : b1.eval (.tmp 0) = .func (.yield l) #[] #[] := by rw [r2 0 (by omega), r1 0 (by omega)]; exact ha0
  have hb11 : b1.eval (.tmp 1) = cap := by rw [r2 1 (by omega), r1 1 (by omega)]; exact ha1
  have hb13 : b1.eval (.tmp 3) = .int .i64 ((k : Int) - 1) := by rw [r2 3 (by omega), r1 3 (by omega)]; exact ha3
  have hb1d : b1.defers = [] := by rw [u2, u1]; exact had
  cases k with
  | zero =>
    refine wpIn_cond_false h8 (wpIn_exit ?_)
    exact hend b1 w .normal (.inl rfl) hb1d (.inl hJ)
  | succ k =>
    have hkk : ((k + 1 : Nat) : Int) - 1 = (k : Int) := by omega
    rw [hkk] at h8 hb13
    refine wpIn_cond_true (by rw [h8]; simp) (wpIn_skip ?_)
    obtain ⟨ad, A, c, hc1, hc2, hc3⟩ := hload _ w hJ
    obtain ⟨b, cs, hA, hbs, hcl, hone, hat, r, hl, hp, hrnd⟩ := hround k w (by omega) hJ ad A c hc1 hc2
    subst hA
    refine wpIn_seq (wpIn_block ?_)
    refine back_r3 hTc hTe (by omega) hb1s hb10 hb11 hb13 hb1d hc3 hbs hcl hone hat hl hp hrnd (fun a' w' s1 s2 s3 s4 s5 hJ' => ?_) (fun a' w' s5 hJ' => ?_)
    · show (Code.region i2 _ false).wpIn (FW none) 0 P _ a' w'
      refine wpIn_region_list ?_
      refine list_step (fun _ h => by cases h) (by omega) (move_run s4) fun g1 x1 y1 z1 q1 => ?_
      refine list_step (fun _ h => by cases h) (by omega) (bin_run (hsub _ (.tmp 9) _ k (by omega) z1 rfl)) fun g2 x2 y2 z2 q2 => ?_
      refine list_step (fun _ h => by cases h) (by omega) (assign_run z2) fun g3 x3 y3 z3 q3 => wpListIn_nil ?_
      refine ⟨⟨k, by omega, by omega, ?_, ?_, z3, by rw [y3, y2, y1]; exact s5, hJ'⟩, ?_⟩
      · rw [q3 0 (by omega), q2 0 (by omega), q1 0 (by omega)]; exact s2
      · rw [q3 1 (by omega), q2 1 (by omega), q1 1 (by omega)]; exact s3
      · show (match g3.eval (.tmp 3) with | .int _ i => (i + 1).toNat | _ => 0) < (match a.eval (.tmp 3) with | .int _ i => (i + 1).toNat | _ => 0)
        rw [z3, ha3]
        simp only
        omega
    · exact hend _ _ _ (.inr rfl) s5 (.inr hJ')
end
end Go.Ev
