/- The evaluator: one operation that hands back a value and turns nothing. -/
import Derived.Test.YtpmkecjkbajcgaaGreatDoorEvMem
namespace Go.Ev
open Go
set_option linter.unusedSimpArgs false
set_option linter.unusedVariables false

def tmpsOf (op : Op) : List Nat := op.operands.toList.filterMap fun | .tmp t => some t | _ => none
def Opn (C : Ctx) (a : Act) (U : Nat → Prop) (lks : Nat → Option AV) (ts : List Nat) : Prop :=
  ∀ t ∈ ts, ∀ av, lks t = some av → SlotRel C a.tmps t av ∧ av.In U
def updF (hp : HpF) : Upd → HpF
  | [] => hp
  | (i, o) :: u => updF (fun j => if j = i then o else hp j) u
def OpSound (P : Program) (T : Tbl) (o : Oper) (lks : Nat → Option AV) (hp : HpF) (nid : Nat) (av : AV) (u : Upd) (seen : List Nat) : Prop :=
  ∀ (E : Ent) (U : Nat → Prop) (lkf : Nat → Option AV) (hpf : HpF) (σ : Nat → Hd) (a : Act) (w : World) (K : Act → World → Prop) (Q : Exit → Act → World → Prop),
    SRel T.kd E U lkf hpf σ a w → Opn (ctx T.kd E hpf σ w) a U lks (tmpsOf o.op) → (∀ i ∈ seen, hpf i = hp i) → (∀ c, c < 16 → ¬ U (nid + c)) →
    (∀ v w' σ' U', SRel T.kd E U' lkf (updF hpf u) σ' a w' → VRel (ctx T.kd E (updF hpf u) σ' w') av v → av.In U' → (∀ i, U i → U' i) → (∀ i, U' i → U i ∨ (nid ≤ i ∧ i < nid + 16)) → (∀ i, U i → σ' i = σ i) → K (a.put o.dst v) w') →
    o.wp P a w K Q
section
variable {P : Program} {T : Tbl} {o : Oper} {lks : Nat → Option AV} {hp : HpF} {nid : Nat} {R : Type}
theorem OpSound.val {av : AV} {seen : List Nat}
    (h : ∀ (E : Ent) (U : Nat → Prop) (lkf : Nat → Option AV) (hpf : HpF) (σ : Nat → Hd) (a : Act) (w : World), SRel T.kd E U lkf hpf σ a w → Opn (ctx T.kd E hpf σ w) a U lks (tmpsOf o.op) → (∀ i ∈ seen, hpf i = hp i) →
      ∃ v, (execOp a.eval o).run P w = .ok (.value v) w ∧ VRel (ctx T.kd E hpf σ w) av v ∧ av.In U) : OpSound P T o lks hp nid av [] seen := by
  intro E U lkf hpf σ a w K Q hs ho hseen hfr hK
  obtain ⟨v, hrun, hv, hi⟩ := h E U lkf hpf σ a w hs ho hseen
  unfold Oper.wp
  rw [hrun]
  exact hK v w σ U hs hv hi (fun _ h => h) (fun _ h => .inl h) (fun _ _ => rfl)
/-- What a call of the evaluator's continuation says. -/
def Res (P : Program) (T : Tbl) (o : Oper) (lks : Nat → Option AV) (hp : HpF) (nid : Nat) (g : Option Bool) (k : OK R) (r : R) : Prop :=
  ∃ av u seen, k av u seen = some r ∧ ((g = none ∨ g = some true) → OpSound P T o lks hp nid av u seen)
theorem chk_some {g : Option Bool} {c : Bool} {x : Option R} {r : R} (h : chk g c x = some r) : x = some r ∧ ((g = none ∨ g = some true) → c = true) := by
  unfold chk at h
  cases g with
  | none => cases c <;> simp_all
  | some p => cases p <;> cases c <;> simp_all
theorem cond_some {c : Bool} {x : Option R} {r : R} (h : cond c x none = some r) : x = some r ∧ c = true := by
  cases c <;> simp_all

/-! ### 1. Operands -/
theorem slot_val {C : Ctx} {tmps : Array Value} {t : Nat} {av : AV} (hw : ∀ s b c v, av ≠ .w s b c v) (h : SlotRel C tmps t av) : ∃ v, tmps[t]? = some v ∧ VRel C av v := by
  cases av with
  | w s b c v => exact absurd rfl (hw s b c v)
  | _ => exact h
theorem const_rel {C : Ctx} (hkd : C.kd = T.kd) {t : TypeId} {v : Value} {av : AV} (h : constAV T t v = some av) : VRel C av v ∧ ∀ U, av.In U := by
  unfold constAV at h
  split at h
  · split at h
    · rename_i k n _ k' hk
      split at h
      · rename_i e
        subst e
        cases h
        have hk' : C.kd t = some (.int k) := by rw [hkd]; exact hk
        exact ⟨⟨⟨.int k, hk', rfl⟩, by simp [aggV, AV.aggB, hk', K.agg]⟩, fun _ => trivial⟩
      · cases h
    · cases h
  · split at h
    · rename_i hk
      cases h
      have hk' : C.kd t = some .bool := by rw [hkd]; exact hk
      exact ⟨⟨⟨.bool, hk', rfl⟩, by simp [aggV, AV.aggB, hk', K.agg]⟩, fun _ => trivial⟩
    · cases h
  · split at h
    · rename_i s _ hk
      cases h
      have hk' : C.kd t = some .str := by rw [hkd]; exact hk
      exact ⟨⟨⟨.str, hk', rfl⟩, by simp [aggV, AV.aggB, hk', K.agg]⟩, fun _ => trivial⟩
    · cases h
  · split at h
    · rename_i hk
      cases h
      exact ⟨⟨⟨rfl, _, _, by rw [hkd]; exact hk⟩, rfl⟩, fun _ => trivial⟩
    · cases h
  · cases h
    exact ⟨⟨rfl, rfl⟩, fun _ => trivial⟩
  · cases h
theorem opd_rel {C : Ctx} (hkd : C.kd = T.kd) {a : Act} {U : Nat → Prop} {ts : List Nat} (hO : Opn C a U lks ts) {t : TypeId} {x : Operand} {av : AV} (hx : ∀ s, x = .tmp s → s ∈ ts) (h : opd T lks t x = some av) :
    VRel C av (a.eval x) ∧ av.In U := by
  cases x with
  | tmp s =>
    simp only [opd] at h
    cases hl : lks s with
    | none => simp [hl] at h
    | some b =>
      have hw : ∀ s' b' c v, b ≠ .w s' b' c v := by rintro s' b' c v rfl; simp [hl] at h
      have : some b = some av := by
        cases b <;> simp_all
      cases this
      obtain ⟨h1, h2⟩ := hO s (hx s rfl) av hl
      obtain ⟨v, hv, hr⟩ := slot_val hw h1
      refine ⟨?_, h2⟩
      have : a.eval (.tmp s) = v := by simp [Act.eval, Array.getD_eq_getD_getElem?, hv]
      rw [this]
      exact hr
  | const v =>
    have := const_rel hkd (show constAV T t v = some av from h)
    exact ⟨this.1, this.2 U⟩
  | func f =>
    simp only [opd, Option.some.injEq] at h
    subst h
    exact ⟨⟨⟨[], rfl, rfl⟩, rfl⟩, trivial⟩
  | global g => simp [opd] at h
theorem v1_of_d {C : Ctx} {t : TypeId} {fr : Bool} {x : D} {v : Value} {k : K} (hk : C.kd t = some k) (h : VRel C (.d t fr x) v) : RepC (C.F fr) C.w k x v.cells.toList ∧ aggV v = k.agg := by
  obtain ⟨⟨k', hk', hr⟩, hg⟩ := h
  rw [hk] at hk'
  cases hk'
  exact ⟨hr, by simpa [AV.aggB, hk] using hg⟩
theorem d_of_rep {C : Ctx} {t : TypeId} {fr : Bool} {x : D} {v : Value} {k : K} (hk : C.kd t = some k) (h : RepC (C.F fr) C.w k x v.cells.toList) (hg : aggV v = k.agg) : VRel C (.d t fr x) v :=
  ⟨⟨k, hk, h⟩, by simp [AV.aggB, hk, hg]⟩
theorem cells_one {v u : Value} (h : v.cells.toList = [u]) (hg : aggV v = false) : v = u := by
  cases v <;> simp_all [Value.cells, aggV]
theorem rep_int {C : Ctx} {t : TypeId} {fr : Bool} {x : D} {v : Value} {k : IntKind} (hk : C.kd t = some (.int k)) (h : VRel C (.d t fr x) v) : v = .int k x.int := by
  obtain ⟨h1, h2⟩ := v1_of_d hk h
  exact cells_one (by simpa only [RepC] using h1) h2
theorem rep_bool {C : Ctx} {t : TypeId} {fr : Bool} {x : D} {v : Value} (hk : C.kd t = some .bool) (h : VRel C (.d t fr x) v) : v = .bool x.bool := by
  obtain ⟨h1, h2⟩ := v1_of_d hk h
  exact cells_one (by simpa only [RepC] using h1) h2
theorem rep_str {C : Ctx} {t : TypeId} {fr : Bool} {x : D} {v : Value} (hk : C.kd t = some .str) (h : VRel C (.d t fr x) v) : v = .string ⟨x.str.toArray⟩ := by
  obtain ⟨h1, h2⟩ := v1_of_d hk h
  exact cells_one (by simpa only [RepC] using h1) h2
theorem mk_int {C : Ctx} {t : TypeId} {fr : Bool} {x : D} {k : IntKind} (hk : C.kd t = some (.int k)) : VRel C (.d t fr x) (.int k x.int) := d_of_rep hk rfl rfl
theorem mk_bool {C : Ctx} {t : TypeId} {fr : Bool} {x : D} (hk : C.kd t = some .bool) : VRel C (.d t fr x) (.bool x.bool) := d_of_rep hk rfl rfl
theorem mk_str {C : Ctx} {t : TypeId} {fr : Bool} {x : D} (hk : C.kd t = some .str) : VRel C (.d t fr x) (.string ⟨x.str.toArray⟩) := d_of_rep hk rfl rfl

/-! ### 2. Binary operators -/
theorem toList_mk (l : List UInt8) : (⟨l.toArray⟩ : ByteArray).toList = l := by
  simp
theorem size_mk (l : List UInt8) : (⟨l.toArray⟩ : ByteArray).size = l.length := rfl
theorem append_mk (l m : List UInt8) : (⟨l.toArray⟩ : ByteArray) ++ ⟨m.toArray⟩ = ⟨(l ++ m).toArray⟩ := by
  apply ByteArray.ext
  simp
theorem lim_le {n : Nat} (h : lim n = true) : n ≤ 68719476736 := by simpa [lim] using h
def binRun (P : Program) (op : BinOp) (t : TypeId) (ox oy : Operand) (x y : Value) (w : World) : Result Value := (do eqGuard op t ox oy x y; binOp op t x y : Sem Value).run P w
theorem bin_int (op : BinOp) (t : TypeId) (ox oy : Operand) (k : IntKind) (a b : Int) (w : World) (h1 : op ≠ .shl) (h2 : op ≠ .shr) :
    binRun P op t ox oy (.int k a) (.int k b) w = (match op with
      | .add => .ok (.int k (k.wrap (a + b))) w | .sub => .ok (.int k (k.wrap (a - b))) w | .mul => .ok (.int k (k.wrap (a * b))) w
      | .and | .or | .xor | .andNot => .ok (.int k (bitsI op k a b)) w
      | .eql => .ok (.bool (a == b)) w | .neq => .ok (.bool (a != b)) w | .lss => .ok (.bool (decide (a < b))) w | .leq => .ok (.bool (decide (a ≤ b))) w
      | .gtr => .ok (.bool (decide (a > b))) w | .geq => .ok (.bool (decide (a ≥ b))) w
      | _ => binRun P op t ox oy (.int k a) (.int k b) w) := by
  cases op <;> first | rfl | exact absurd rfl h1 | exact absurd rfl h2 | (simp [binRun, eqGuard, binOp, Op.intArith, Op.intBits, Op.intCmp, bitsI])
theorem bin_str (op : BinOp) (t : TypeId) (ox oy : Operand) (a b : List UInt8) (w : World) (hl : op = .add → lim (a.length + b.length) = true) :
    binRun P op t ox oy (.string ⟨a.toArray⟩) (.string ⟨b.toArray⟩) w = (match op with
      | .add => .ok (.string ⟨(a ++ b).toArray⟩) w
      | .eql => .ok (.bool (a == b)) w | .neq => .ok (.bool (!(a == b))) w | .lss => .ok (.bool (Op.bytesLess a b)) w | .leq => .ok (.bool (Op.bytesLess a b || a == b)) w
      | .gtr => .ok (.bool (!(Op.bytesLess a b || a == b))) w | .geq => .ok (.bool (!(Op.bytesLess a b))) w
      | _ => binRun P op t ox oy (.string ⟨a.toArray⟩) (.string ⟨b.toArray⟩) w) := by
  cases op with
  | add =>
    have := lim_le (hl rfl)
    have h9 : (a.length : Int) + (b.length : Int) ≤ 9223372036854775807 := by omega
    simp [binRun, eqGuard, binOp, Op.stringOp, size_mk, append_mk, h9]
  | _ => first | rfl | simp [binRun, eqGuard, binOp, Op.stringOp]
end
end Go.Ev
namespace Go.Ev
open Go
section
variable {P : Program} {T : Tbl} {R : Type}
theorem run_part {kd : TypeId → Option K} {t : TypeId} {k : K} (h : TyOK P kd t k) (c0 c1 c2 : List Value) (hl : c1.length = k.size) (hone : k.agg = false → ∃ u, c1 = [u] ∧ aggV u = false) (w : World) :
    ∃ v, (part t (c0 ++ c1 ++ c2).toArray c0.length).run P w = .ok v w ∧ v.cells.toList = c1 ∧ aggV v = k.agg := by
  unfold part
  rw [Sem.run_bind, h.isAgg w]
  simp only [Result.andThen_ok]
  cases hg : k.agg with
  | true =>
    simp only [if_true, Sem.run_bind, h.sizeOf w, Result.andThen_ok, Sem.run_pure]
    have : (c0 ++ c1 ++ c2).toArray.extract c0.length (c0.length + k.size) = c1.toArray := by
      apply Array.ext'
      simp [← hl, List.append_assoc]
    rw [this]
    exact ⟨_, rfl, by simp [Value.cells], rfl⟩
  | false =>
    obtain ⟨u, rfl, hu⟩ := hone hg
    simp only [Bool.false_eq_true, if_false]
    have : (c0 ++ [u] ++ c2).toArray[c0.length]? = some u := by simp
    rw [this]
    refine ⟨u, rfl, ?_, hu⟩
    cases u <;> first | rfl | simp [aggV] at hu
theorem rep_single {F : Nat → Prop} {w : World} {k : K} {x : D} {cs : List Value} (h : RepC F w k x cs) (hg : k.agg = false) : ∃ u, cs = [u] ∧ aggV u = false := by
  cases k with
  | slice e k => simp only [RepC] at h; obtain ⟨A, c, rfl, _⟩ := h; exact ⟨_, rfl, rfl⟩
  | unit => simp [K.agg] at hg
  | pair => simp [K.agg] at hg
  | ptr => simp [RepC] at h
  | opq => simp [RepC] at h
  | pd e k => simp only [RepC] at h; rcases h with ⟨_, rfl⟩ | ⟨_, _, _, _, _, rfl, _⟩ <;> exact ⟨_, rfl, rfl⟩
  | _ => simp only [RepC] at h; exact ⟨_, h, rfl⟩
theorem TyOK.cellsOf {kd : TypeId → Option K} {t : TypeId} {k : K} (h : TyOK P kd t k) : P.cellsOf t = k.size := by
  obtain ⟨i, z, hi, hs, _⟩ := h.info
  simp [Program.cellsOf, hi, hs]
/-- '==' of two arrays, part by part. -/
theorem run_eqArr {kd : TypeId → Option K} {F F' : Nat → Prop} {w : World} {d : Nat} {e : TypeId} {ke : K} (hty : TyOK P kd e ke)
    (hE : ∀ (x y : D) (vx vy : Value), RepC F w ke x vx.cells.toList → aggV vx = ke.agg → RepC F' w ke y vy.cells.toList → aggV vy = ke.agg → (Op.equalIn d e vx vy).run P w = .ok (eqK ke x y) w) :
    ∀ (m j : Nat) (x y : D) (c0 e0 cs es : List Value), c0.length = j * ke.size → e0.length = c0.length → RepF F w (K.arrK e ke m) j x cs → RepF F' w (K.arrK e ke m) j y es →
      (Op.eqItems d e ke.size (c0 ++ cs).toArray (e0 ++ es).toArray (List.range' j m)).run P w = .ok (eqF (K.arrK e ke m) j x y) w
  | 0, j, x, y, c0, e0, cs, es, _, _, _, _ => rfl
  | m + 1, j, x, y, c0, e0, cs, es, h0, hle, hx, hy => by
    simp only [K.arrK, RepF] at hx hy
    obtain ⟨c1, c2, rfl, hx1, hx2⟩ := hx
    obtain ⟨e1, e2, rfl, hy1, hy2⟩ := hy
    obtain ⟨v1, hr1, hc1, hg1⟩ := run_part hty c0 c1 c2 (rep_len hx1) (rep_single hx1) w
    obtain ⟨v2, hr2, hc2, hg2⟩ := run_part hty e0 e1 e2 (rep_len hy1) (rep_single hy1) w
    rw [hle] at hr2
    rw [h0] at hr1 hr2
    have heq := hE (x.at' j) (y.at' j) v1 v2 (by rw [hc1]; exact hx1) hg1 (by rw [hc2]; exact hy1) hg2
    simp only [List.append_assoc] at hr1 hr2
    simp only [List.range'_succ, Op.eqItems, Sem.run_bind, hr1, Result.andThen_ok, hr2, heq]
    have ih := run_eqArr hty hE m (j + 1) x y (c0 ++ c1) (e0 ++ e1) c2 e2 (by rw [List.length_append, rep_len hx1, h0, Nat.succ_mul]) (by simp [hle, rep_len hx1, rep_len hy1]) hx2 hy2
    simp only [List.append_assoc] at ih
    cases hb : eqK ke (x.at' j) (y.at' j) with
    | false => simp [K.arrK, eqF, hb]
    | true => simp [K.arrK, eqF, hb, ih]
/-- '==' of two data of a kind. -/
theorem run_eqK {kd : TypeId → Option K} (hT : ∀ t k, kd t = some k → TyOK P kd t k) {F F' : Nat → Prop} {w : World} (k : K) :
    (∀ (d : Nat) (t : TypeId) (x y : D) (vx vy : Value), kd t = some k → k.cmp = true → k.depth < d → RepC F w k x vx.cells.toList → aggV vx = k.agg → RepC F' w k y vy.cells.toList → aggV vy = k.agg →
      (Op.equalIn d t vx vy).run P w = .ok (eqK k x y) w) ∧
    (∀ (d j : Nat) (fs : List Field) (x y : D) (c0 e0 cs es : List Value), FieldsOK kd fs k c0.length → e0.length = c0.length → k.cmp = true → k.depth ≤ d → RepF F w k j x cs → RepF F' w k j y es →
      (Op.eqFields d (c0 ++ cs).toArray (e0 ++ es).toArray fs).run P w = .ok (eqF k j x y) w) := by
  induction k with
  | int k =>
    refine ⟨fun d t x y vx vy ht hc hd hx hax hy hay => ?_, fun d j fs x y c0 e0 cs es _ _ _ _ hx _ => by simp [RepF] at hx⟩
    obtain ⟨d, rfl⟩ : ∃ m, d = m + 1 := ⟨d - 1, by omega⟩
    have h1 := cells_one (by simpa only [RepC] using hx) hax
    have h2 := cells_one (by simpa only [RepC] using hy) hay
    subst h1 h2
    obtain ⟨ds, hds, hdk⟩ := (hT t _ ht).desc
    have : ds = .int k := by cases ds <;> simp_all [DescOK, K.agg]
    subst this
    rw [run_equalIn_int w d t k k _ _ hds]
    rfl
  | bool =>
    refine ⟨fun d t x y vx vy ht hc hd hx hax hy hay => ?_, fun d j fs x y c0 e0 cs es _ _ _ _ hx _ => by simp [RepF] at hx⟩
    obtain ⟨d, rfl⟩ : ∃ m, d = m + 1 := ⟨d - 1, by omega⟩
    have h1 := cells_one (by simpa only [RepC] using hx) hax
    have h2 := cells_one (by simpa only [RepC] using hy) hay
    subst h1 h2
    obtain ⟨ds, hds, hdk⟩ := (hT t _ ht).desc
    have : ds = .bool := by cases ds <;> simp_all [DescOK, K.agg]
    subst this
    rw [run_equalIn_bool' w d t _ _ hds]
    rfl
  | str =>
    refine ⟨fun d t x y vx vy ht hc hd hx hax hy hay => ?_, fun d j fs x y c0 e0 cs es _ _ _ _ hx _ => by simp [RepF] at hx⟩
    obtain ⟨d, rfl⟩ : ∃ m, d = m + 1 := ⟨d - 1, by omega⟩
    have h1 := cells_one (by simpa only [RepC] using hx) hax
    have h2 := cells_one (by simpa only [RepC] using hy) hay
    subst h1 h2
    obtain ⟨ds, hds, hdk⟩ := (hT t _ ht).desc
    have : ds = .string := by cases ds <;> simp_all [DescOK, K.agg]
    subst this
    rw [run_equalIn_string w d t _ _ hds, toList_mk, toList_mk]
    rfl
  | slice e k ih => exact ⟨fun d t x y vx vy ht hc => by simp [K.cmp] at hc, fun d j fs x y c0 e0 cs es _ _ hc => by simp [K.cmp] at hc⟩
  | ptr => exact ⟨fun d t x y vx vy ht hc => by simp [K.cmp] at hc, fun d j fs x y c0 e0 cs es _ _ hc => by simp [K.cmp] at hc⟩
  | opq => exact ⟨fun d t x y vx vy ht hc => by simp [K.cmp] at hc, fun d j fs x y c0 e0 cs es _ _ hc => by simp [K.cmp] at hc⟩
  | map kt vt => exact ⟨fun d t x y vx vy ht hc => by simp [K.cmp] at hc, fun d j fs x y c0 e0 cs es _ _ hc => by simp [K.cmp] at hc⟩
  | pd e k ih => exact ⟨fun d t x y vx vy ht hc => by simp [K.cmp] at hc, fun d j fs x y c0 e0 cs es _ _ hc => by simp [K.cmp] at hc⟩
  | unit =>
    refine ⟨fun d t x y vx vy ht hc hd hx hax hy hay => ?_, fun d j fs x y c0 e0 cs es hf _ _ _ _ _ => ?_⟩
    · obtain ⟨d, rfl⟩ : ∃ m, d = m + 1 := ⟨d - 1, by omega⟩
      obtain ⟨ds, hds, hdk⟩ := (hT t _ ht).desc
      obtain ⟨hst, _⟩ := (hT t _ ht).eq hc rfl
      cases vx <;> simp [aggV, K.agg] at hax
      cases vy <;> simp [aggV, K.agg] at hay
      cases ds with
      | struct fs =>
        have hfo : P.underlying t = some (.struct (P.fieldsOf t)) := by simp [Program.fieldsOf, hds]
        rw [run_equalIn_agg w d t _ _ hfo hst]
        have : (P.fieldsOf t).toList = [] := by
          simp only [Program.fieldsOf, hds]
          cases hfl : fs.toList with
          | nil => rfl
          | cons f l => simp [DescOK, hfl, FieldsOK] at hdk
        rw [this]
        rfl
      | array n e =>
        obtain ⟨ke, hke, hkk, -⟩ := hdk
        cases n with
        | zero =>
          obtain ⟨i, z, hi, _⟩ := (hT _ _ hke).info
          rw [run_equalIn_array w d _ _ hds hi]
          rfl
        | succ n => simp [K.arrK] at hkk
      | _ => simp_all [DescOK]
    · cases fs with
      | nil => rfl
      | cons f l => simp [FieldsOK] at hf
  | pair t' k r ihk ihr =>
    have hF : ∀ (d j : Nat) (fs : List Field) (x y : D) (c0 e0 cs es : List Value), FieldsOK kd fs (.pair t' k r) c0.length → e0.length = c0.length → (K.pair t' k r).cmp = true → (K.pair t' k r).depth ≤ d → RepF F w (.pair t' k r) j x cs → RepF F' w (.pair t' k r) j y es →
        (Op.eqFields d (c0 ++ cs).toArray (e0 ++ es).toArray fs).run P w = .ok (eqF (.pair t' k r) j x y) w := by
      intro d j fs x y c0 e0 cs es hf hle hc hd hx hy
      simp only [RepF] at hx hy
      obtain ⟨c1, c2, rfl, hx1, hx2⟩ := hx
      obtain ⟨e1, e2, rfl, hy1, hy2⟩ := hy
      simp only [K.cmp, Bool.and_eq_true] at hc
      simp only [K.depth] at hd
      cases fs with
      | nil => simp [FieldsOK] at hf
      | cons f fs =>
        simp only [FieldsOK] at hf
        obtain ⟨hft, hkd, hoff, hname, hrest⟩ := hf
        have hty := hT _ _ hkd
        obtain ⟨v1, hr1, hc1, hg1⟩ := run_part hty c0 c1 c2 (rep_len hx1) (rep_single hx1) w
        obtain ⟨v2, hr2, hc2, hg2⟩ := run_part hty e0 e1 e2 (rep_len hy1) (rep_single hy1) w
        rw [hle] at hr2
        have heq := ihk.1 d t' (x.at' j) (y.at' j) v1 v2 hkd hc.1 (by omega) (by rw [hc1]; exact hx1) hg1 (by rw [hc2]; exact hy1) hg2
        simp only [List.append_assoc] at hr1 hr2
        simp only [Op.eqFields, hname, ne_eq, not_false_eq_true, if_true, Sem.run_bind, hft, hoff, hr1, Result.andThen_ok, hr2, heq]
        have ih := ihr.2 d (j + 1) fs x y (c0 ++ c1) (e0 ++ e1) c2 e2 (by rw [List.length_append, rep_len hx1]; exact hrest) (by simp [hle, rep_len hx1, rep_len hy1]) hc.2 (by omega) hx2 hy2
        simp only [List.append_assoc] at ih
        cases hb : eqK k (x.at' j) (y.at' j) with
        | false => simp [eqF, hb]
        | true => simp [eqF, hb, ih]
    refine ⟨fun d t x y vx vy ht hc hd hx hax hy hay => ?_, hF⟩
    obtain ⟨d, rfl⟩ : ∃ m, d = m + 1 := ⟨d - 1, by omega⟩
    obtain ⟨ds, hds, hdk⟩ := (hT t _ ht).desc
    obtain ⟨hst, _⟩ := (hT t _ ht).eq hc rfl
    cases vx <;> simp [aggV, K.agg] at hax
    cases vy <;> simp [aggV, K.agg] at hay
    cases ds with
    | struct fs =>
      have hfo : P.underlying t = some (.struct (P.fieldsOf t)) := by simp [Program.fieldsOf, hds]
      have hfe : P.fieldsOf t = fs := by simp [Program.fieldsOf, hds]
      rw [run_equalIn_agg w d t _ _ hfo hst, hfe]
      rename_i xs ys
      have := hF d 0 fs.toList x y [] [] xs.toList ys.toList hdk.1 rfl hc (by omega) hx hy
      show _ = Result.ok (eqF (K.pair t' k r) 0 x y) w
      simpa using this
    | array n e =>
      obtain ⟨ke, hke, hkk, -⟩ := hdk
      cases n with
      | zero => simp [K.arrK] at hkk
      | succ n =>
        simp only [K.arrK, K.pair.injEq] at hkk
        obtain ⟨rfl, rfl, rfl⟩ := hkk
        rename_i xs ys
        obtain ⟨i, z, hi, _⟩ := (hT _ _ hke).info
        simp only [K.cmp, Bool.and_eq_true] at hc
        simp only [K.depth] at hd
        rw [run_equalIn_array w d _ _ hds hi, (hT _ _ hke).cellsOf, List.range_eq_range']
        have := run_eqArr (d := d) (hT _ _ hke) (fun x y vx vy h1 h2 h3 h4 => ihk.1 d _ x y vx vy hke hc.1 (by omega) h1 h2 h3 h4) (n + 1) 0 x y [] [] xs.toList ys.toList (by simp) rfl hx hy
        show _ = Result.ok (eqF (K.arrK _ _ (n + 1)) 0 x y) w
        simpa using this
    | _ => simp_all [DescOK]
end

section
variable {P : Program} {T : Tbl} {R : Type}
/-- What a step with a value, and without any change, says. -/
def Val (C : Ctx) (run : Result Value) (w : World) (av : AV) : Prop := ∃ v, run = .ok v w ∧ VRel C av v
theorem run_eqPtr {xT : TypeId} {e : TypeId} (hds : P.underlying xT = some (.pointer e)) (p q : Option Addr) (hpq : p = none ∨ q = none) (d : Nat) (w : World) :
    (Op.equalIn (d + 1) xT (.pointer p) (.pointer q)).run P w = .ok (p == q) w := by
  cases p <;> cases q <;> first | (simp at hpq; done) | (simp [Op.equalIn, run_underlying hds]; done)
theorem evBin_sound (hT : TblOK P T) {g : Option Bool} {op : BinOp} {xT : TypeId} {x y : AV} {k : OK R} {r : R} (h : evBin T g op xT x y k = some r) :
    ∃ av, k av [] [] = some r ∧ (∀ U, av.In U) ∧ ((g = none ∨ g = some true) → ∀ (C : Ctx) (ox oy : Operand) (vx vy : Value) (w : World), C.kd = T.kd → C.w = w → VRel C x vx → VRel C y vy → Val C (binRun P op xT ox oy vx vy w) w av) := by
  unfold evBin at h
  split at h
  · rename_i t fx a t' fy b
    split at h
    · rename_i ka kb hka hkb
      have ints : ∀ (C : Ctx) (vx vy : Value), C.kd = T.kd → VRel C (.d t fx a) vx → VRel C (.d t' fy b) vy → vx = .int ka a.int ∧ vy = .int kb b.int := fun C vx vy hC h1 h2 =>
        ⟨rep_int (by rw [hC]; exact hka) h1, rep_int (by rw [hC]; exact hkb) h2⟩
      have mkI : ∀ (C : Ctx) (n : Int), C.kd = T.kd → VRel C (.d t true (.i n)) (.int ka n) := fun C n hC => mk_int (x := .i n) (by rw [hC]; exact hka)
      have mkB : ∀ (C : Ctx) (c : Bool), C.kd = T.kd → VRel C (.d T.boolT true (.b c)) (.bool c) := fun C c hC => mk_bool (x := .b c) (by rw [hC]; exact hT.boolT)
      split at h
      · obtain ⟨hk, hg⟩ := chk_some h
        refine ⟨_, hk, fun _ => trivial, fun hg' C ox oy vx vy w hC _ h1 h2 => ?_⟩
        obtain ⟨rfl, rfl⟩ := ints C vx vy hC h1 h2
        have hn : ¬ b.int < 0 := by simpa using hg hg'
        exact ⟨_, by simp [binRun, eqGuard, binOp, Op.shift, hn, shl], mkI C _ hC⟩
      · obtain ⟨hk, hg⟩ := chk_some h
        refine ⟨_, hk, fun _ => trivial, fun hg' C ox oy vx vy w hC _ h1 h2 => ?_⟩
        obtain ⟨rfl, rfl⟩ := ints C vx vy hC h1 h2
        have hn : ¬ b.int < 0 := by simpa using hg hg'
        exact ⟨_, by simp [binRun, eqGuard, binOp, Op.shift, hn, shr], mkI C _ hC⟩
      · rename_i hshl hshr
        split at h
        · rename_i hkk
          subst hkk
          have go : ∀ (av : AV) (v : Value) (hop : ∀ ox oy w, binRun P op xT ox oy (.int ka a.int) (.int ka b.int) w = .ok v w) (hv : ∀ C : Ctx, C.kd = T.kd → VRel C av v),
              (∀ (C : Ctx) (ox oy : Operand) (vx vy : Value) (w : World), C.kd = T.kd → C.w = w → VRel C (.d t fx a) vx → VRel C (.d t' fy b) vy → Val C (binRun P op xT ox oy vx vy w) w av) := by
            intro av v hop hv C ox oy vx vy w hC _ h1 h2
            obtain ⟨rfl, rfl⟩ := ints C vx vy hC h1 h2
            exact ⟨v, hop ox oy w, hv C hC⟩
          split at h
          · exact ⟨_, h, fun _ => trivial, fun _ => go _ _ (fun ox oy w => by rw [bin_int _ _ _ _ _ _ _ _ hshl hshr]) (fun C hC => mkI C _ hC)⟩
          · exact ⟨_, h, fun _ => trivial, fun _ => go _ _ (fun ox oy w => by rw [bin_int _ _ _ _ _ _ _ _ hshl hshr]) (fun C hC => mkI C _ hC)⟩
          · exact ⟨_, h, fun _ => trivial, fun _ => go _ _ (fun ox oy w => by rw [bin_int _ _ _ _ _ _ _ _ hshl hshr]) (fun C hC => mkI C _ hC)⟩
          · obtain ⟨hk, hg⟩ := chk_some h
            refine ⟨_, hk, fun _ => trivial, fun hg' => go _ (.int ka (ka.wrap (a.int.tdiv b.int))) (fun ox oy w => ?_) (fun C hC => mkI C _ hC)⟩
            have hn : ¬ b.int = 0 := by simpa using hg hg'
            simp [binRun, eqGuard, binOp, Op.intDiv, hn]
          · obtain ⟨hk, hg⟩ := chk_some h
            refine ⟨_, hk, fun _ => trivial, fun hg' => go _ (.int ka (a.int.tmod b.int)) (fun ox oy w => ?_) (fun C hC => mkI C _ hC)⟩
            have hn : ¬ b.int = 0 := by simpa using hg hg'
            simp [binRun, eqGuard, binOp, Op.intDiv, hn]
          · exact ⟨_, h, fun _ => trivial, fun _ => go _ _ (fun ox oy w => by rw [bin_int _ _ _ _ _ _ _ _ hshl hshr]) (fun C hC => mkI C _ hC)⟩
          · exact ⟨_, h, fun _ => trivial, fun _ => go _ _ (fun ox oy w => by rw [bin_int _ _ _ _ _ _ _ _ hshl hshr]) (fun C hC => mkI C _ hC)⟩
          · exact ⟨_, h, fun _ => trivial, fun _ => go _ _ (fun ox oy w => by rw [bin_int _ _ _ _ _ _ _ _ hshl hshr]) (fun C hC => mkI C _ hC)⟩
          · exact ⟨_, h, fun _ => trivial, fun _ => go _ _ (fun ox oy w => by rw [bin_int _ _ _ _ _ _ _ _ hshl hshr]) (fun C hC => mkI C _ hC)⟩
          · exact ⟨_, h, fun _ => trivial, fun _ => go _ _ (fun ox oy w => by rw [bin_int _ _ _ _ _ _ _ _ hshl hshr]) (fun C hC => mkB C _ hC)⟩
          · exact ⟨_, h, fun _ => trivial, fun _ => go _ _ (fun ox oy w => by rw [bin_int _ _ _ _ _ _ _ _ hshl hshr]) (fun C hC => mkB C _ hC)⟩
          · exact ⟨_, h, fun _ => trivial, fun _ => go _ _ (fun ox oy w => by rw [bin_int _ _ _ _ _ _ _ _ hshl hshr]) (fun C hC => mkB C _ hC)⟩
          · exact ⟨_, h, fun _ => trivial, fun _ => go _ _ (fun ox oy w => by rw [bin_int _ _ _ _ _ _ _ _ hshl hshr]) (fun C hC => mkB C _ hC)⟩
          · exact ⟨_, h, fun _ => trivial, fun _ => go _ _ (fun ox oy w => by rw [bin_int _ _ _ _ _ _ _ _ hshl hshr]) (fun C hC => mkB C _ hC)⟩
          · exact ⟨_, h, fun _ => trivial, fun _ => go _ _ (fun ox oy w => by rw [bin_int _ _ _ _ _ _ _ _ hshl hshr]) (fun C hC => mkB C _ hC)⟩
          · cases h
        · cases h
    · rename_i hka hkb
      have strs : ∀ (C : Ctx) (vx vy : Value), C.kd = T.kd → VRel C (.d t fx a) vx → VRel C (.d t' fy b) vy → vx = .string ⟨a.str.toArray⟩ ∧ vy = .string ⟨b.str.toArray⟩ := fun C vx vy hC h1 h2 =>
        ⟨rep_str (by rw [hC]; exact hka) h1, rep_str (by rw [hC]; exact hkb) h2⟩
      have mkB : ∀ (C : Ctx) (c : Bool), C.kd = T.kd → VRel C (.d T.boolT true (.b c)) (.bool c) := fun C c hC => mk_bool (x := .b c) (by rw [hC]; exact hT.boolT)
      have go : ∀ (av : AV) (v : Value) (hop : ∀ ox oy w, binRun P op xT ox oy (.string ⟨a.str.toArray⟩) (.string ⟨b.str.toArray⟩) w = .ok v w) (hv : ∀ C : Ctx, C.kd = T.kd → VRel C av v),
          (∀ (C : Ctx) (ox oy : Operand) (vx vy : Value) (w : World), C.kd = T.kd → C.w = w → VRel C (.d t fx a) vx → VRel C (.d t' fy b) vy → Val C (binRun P op xT ox oy vx vy w) w av) := by
        intro av v hop hv C ox oy vx vy w hC _ h1 h2
        obtain ⟨rfl, rfl⟩ := strs C vx vy hC h1 h2
        exact ⟨v, hop ox oy w, hv C hC⟩
      split at h
      · obtain ⟨hk, hg⟩ := chk_some h
        exact ⟨_, hk, fun _ => trivial, fun hg' => go _ _ (fun ox oy w => bin_str (P := P) .add xT ox oy a.str b.str w fun _ => hg hg') (fun C hC => mk_str (x := .s (a.str ++ b.str)) (by rw [hC]; exact hka))⟩
      · exact ⟨_, h, fun _ => trivial, fun _ => go _ _ (fun ox oy w => by rw [bin_str _ _ _ _ _ _ _ (by simp)]) (fun C hC => mkB C _ hC)⟩
      · exact ⟨_, h, fun _ => trivial, fun _ => go _ _ (fun ox oy w => by rw [bin_str _ _ _ _ _ _ _ (by simp)]) (fun C hC => mkB C _ hC)⟩
      · exact ⟨_, h, fun _ => trivial, fun _ => go _ _ (fun ox oy w => by rw [bin_str _ _ _ _ _ _ _ (by simp)]) (fun C hC => mkB C _ hC)⟩
      · exact ⟨_, h, fun _ => trivial, fun _ => go _ _ (fun ox oy w => by rw [bin_str _ _ _ _ _ _ _ (by simp)]) (fun C hC => mkB C _ hC)⟩
      · exact ⟨_, h, fun _ => trivial, fun _ => go _ _ (fun ox oy w => by rw [bin_str _ _ _ _ _ _ _ (by simp)]) (fun C hC => mkB C _ hC)⟩
      · exact ⟨_, h, fun _ => trivial, fun _ => go _ _ (fun ox oy w => by rw [bin_str _ _ _ _ _ _ _ (by simp)]) (fun C hC => mkB C _ hC)⟩
      · cases h
    · rename_i hka hkb
      have mkB : ∀ (C : Ctx) (c : Bool), C.kd = T.kd → VRel C (.d T.boolT true (.b c)) (.bool c) := fun C c hC => mk_bool (x := .b c) (by rw [hC]; exact hT.boolT)
      split at h
      · rename_i hxT
        obtain ⟨ds, hds, hdk⟩ := (hT.ty _ _ hxT).desc
        have hds' : P.underlying xT = some .bool := by rw [hds]; cases ds <;> simp_all [DescOK, K.agg]
        have heq : ∀ (p q : Bool) (w : World), (Op.equal xT (.bool p) (.bool q)).run P w = .ok (p == q) w := fun p q w => run_equalIn_bool' w 9999 xT p q hds'
        split at h
        · refine ⟨_, h, fun _ => trivial, fun _ C ox oy vx vy w hC _ h1 h2 => ?_⟩
          have e1 := rep_bool (by rw [hC]; exact hka) h1
          have e2 := rep_bool (by rw [hC]; exact hkb) h2
          subst e1 e2
          exact ⟨_, by simp [binRun, eqGuard, binOp, heq], mkB C _ hC⟩
        · refine ⟨_, h, fun _ => trivial, fun _ C ox oy vx vy w hC _ h1 h2 => ?_⟩
          have e1 := rep_bool (by rw [hC]; exact hka) h1
          have e2 := rep_bool (by rw [hC]; exact hkb) h2
          subst e1 e2
          exact ⟨_, by simp [binRun, eqGuard, binOp, heq], mkB C _ hC⟩
        · cases h
      · cases h
    · rename_i u ka ra u' ka' ra' hka hkb
      have mkB : ∀ (C : Ctx) (c : Bool), C.kd = T.kd → VRel C (.d T.boolT true (.b c)) (.bool c) := fun C c hC => mk_bool (x := .b c) (by rw [hC]; exact hT.boolT)
      split at h
      · rename_i hc
        simp only [Bool.and_eq_true, Nat.beq_eq] at hc
        obtain ⟨⟨⟨rfl, rfl⟩, hcmp⟩, hdep⟩ := hc
        have hdep' : (K.pair u ka ra).depth < 10000 := by
          have : (K.pair u ka ra).depth ≤ 99 := by simpa [Nat.blt] using hdep
          omega
        rw [hka] at hkb
        cases hkb
        have heq : ∀ (C : Ctx) (vx vy : Value), C.kd = T.kd → VRel C (.d t' fx a) vx → VRel C (.d t' fy b) vy → ∃ cx cy, vx = .agg cx ∧ vy = .agg cy ∧
            (Op.equalIn 10000 t' (.agg cx) (.agg cy)).run P C.w = .ok (eqK (.pair u ka ra) a b) C.w := fun C vx vy hC h1 h2 => by
          obtain ⟨r1, g1⟩ := v1_of_d (by rw [hC]; exact hka) h1
          obtain ⟨r2, g2⟩ := v1_of_d (by rw [hC]; exact hka) h2
          cases vx <;> simp [aggV, K.agg] at g1
          cases vy <;> simp [aggV, K.agg] at g2
          exact ⟨_, _, rfl, rfl, (run_eqK hT.ty _).1 10000 t' a b _ _ hka hcmp hdep' r1 rfl r2 rfl⟩
        have hguard := ((hT.ty _ _ hka).eq hcmp rfl).2
        split at h
        · refine ⟨_, h, fun _ => trivial, fun _ C ox oy vx vy w hC hw h1 h2 => ?_⟩
          obtain ⟨cx, cy, rfl, rfl, hrun⟩ := heq C vx vy hC h1 h2
          subst hw
          refine ⟨.bool (eqK (.pair u ka ra) a b), ?_, mkB C _ hC⟩
          simp only [binRun, Sem.run_bind, run_eqGuard_agg (P := P) C.w .eql t' ox oy cx cy hguard, Result.andThen_ok, run_eql_struct, hrun]
        · refine ⟨_, h, fun _ => trivial, fun _ C ox oy vx vy w hC hw h1 h2 => ?_⟩
          obtain ⟨cx, cy, rfl, rfl, hrun⟩ := heq C vx vy hC h1 h2
          subst hw
          refine ⟨.bool (!eqK (.pair u ka ra) a b), ?_, mkB C _ hC⟩
          simp only [binRun, Sem.run_bind, run_eqGuard_agg (P := P) C.w .neq t' ox oy cx cy hguard, Result.andThen_ok, run_neq_struct, hrun]
        · cases h
      · cases h
    · cases h
  · rename_i t i p
    have mkB : ∀ (C : Ctx) (c : Bool), C.kd = T.kd → VRel C (.d T.boolT true (.b c)) (.bool c) := fun C c hC => mk_bool (x := .b c) (by rw [hC]; exact hT.boolT)
    split at h
    · rename_i hxT
      obtain ⟨ds, hds, hdk⟩ := (hT.ty _ _ hxT).desc
      obtain ⟨e, rfl⟩ : ∃ e, ds = .pointer e := by cases ds <;> simp_all [DescOK, K.agg]
      have heq : ∀ (ad : Addr) (w : World), (Op.equal xT (.pointer (some ad)) (.pointer none)).run P w = .ok false w := fun ad w => run_eqPtr hds _ _ (by simp) 9999 w
      split at h
      · refine ⟨_, h, fun _ => trivial, fun _ C ox oy vx vy w hC hw h1 h2 => ?_⟩
        obtain ⟨⟨g, o, _, _, hc⟩, ha⟩ := h1
        have e1 := cells_one hc ha
        obtain ⟨hc2, ha2⟩ := h2
        have e2 := cells_one hc2 ha2
        subst e1 e2
        exact ⟨_, by simp [binRun, eqGuard, binOp, heq], mkB C _ hC⟩
      · refine ⟨_, h, fun _ => trivial, fun _ C ox oy vx vy w hC hw h1 h2 => ?_⟩
        obtain ⟨⟨g, o, _, _, hc⟩, ha⟩ := h1
        have e1 := cells_one hc ha
        obtain ⟨hc2, ha2⟩ := h2
        have e2 := cells_one hc2 ha2
        subst e1 e2
        exact ⟨_, by simp [binRun, eqGuard, binOp, heq], mkB C _ hC⟩
      · cases h
    · cases h
  · rename_i t i p
    have mkB : ∀ (C : Ctx) (c : Bool), C.kd = T.kd → VRel C (.d T.boolT true (.b c)) (.bool c) := fun C c hC => mk_bool (x := .b c) (by rw [hC]; exact hT.boolT)
    split at h
    · rename_i hxT
      obtain ⟨ds, hds, hdk⟩ := (hT.ty _ _ hxT).desc
      obtain ⟨e, rfl⟩ : ∃ e, ds = .pointer e := by cases ds <;> simp_all [DescOK, K.agg]
      have heq : ∀ (ad : Addr) (w : World), (Op.equal xT (.pointer none) (.pointer (some ad))).run P w = .ok false w := fun ad w => run_eqPtr hds _ _ (by simp) 9999 w
      split at h
      · refine ⟨_, h, fun _ => trivial, fun _ C ox oy vx vy w hC hw h1 h2 => ?_⟩
        obtain ⟨hc2, ha2⟩ := h1
        have e2 := cells_one hc2 ha2
        obtain ⟨⟨g, o, _, _, hc⟩, ha⟩ := h2
        have e1 := cells_one hc ha
        subst e1 e2
        exact ⟨_, by simp [binRun, eqGuard, binOp, heq], mkB C _ hC⟩
      · refine ⟨_, h, fun _ => trivial, fun _ C ox oy vx vy w hC hw h1 h2 => ?_⟩
        obtain ⟨hc2, ha2⟩ := h1
        have e2 := cells_one hc2 ha2
        obtain ⟨⟨g, o, _, _, hc⟩, ha⟩ := h2
        have e1 := cells_one hc ha
        subst e1 e2
        exact ⟨_, by simp [binRun, eqGuard, binOp, heq], mkB C _ hC⟩
      · cases h
    · cases h
  · have mkB : ∀ (C : Ctx) (c : Bool), C.kd = T.kd → VRel C (.d T.boolT true (.b c)) (.bool c) := fun C c hC => mk_bool (x := .b c) (by rw [hC]; exact hT.boolT)
    split at h
    · rename_i hxT
      obtain ⟨ds, hds, hdk⟩ := (hT.ty _ _ hxT).desc
      obtain ⟨e, rfl⟩ : ∃ e, ds = .pointer e := by cases ds <;> simp_all [DescOK, K.agg]
      have heq : ∀ (w : World), (Op.equal xT (.pointer none) (.pointer none)).run P w = .ok true w := fun w => run_eqPtr hds _ _ (by simp) 9999 w
      split at h
      · refine ⟨_, h, fun _ => trivial, fun _ C ox oy vx vy w hC hw h1 h2 => ?_⟩
        obtain ⟨hc, ha⟩ := h1
        have e1 := cells_one hc ha
        obtain ⟨hc2, ha2⟩ := h2
        have e2 := cells_one hc2 ha2
        subst e1 e2
        exact ⟨_, by simp [binRun, eqGuard, binOp, heq], mkB C _ hC⟩
      · refine ⟨_, h, fun _ => trivial, fun _ C ox oy vx vy w hC hw h1 h2 => ?_⟩
        obtain ⟨hc, ha⟩ := h1
        have e1 := cells_one hc ha
        obtain ⟨hc2, ha2⟩ := h2
        have e2 := cells_one hc2 ha2
        subst e1 e2
        exact ⟨_, by simp [binRun, eqGuard, binOp, heq], mkB C _ hC⟩
      · cases h
    · cases h
  · rename_i t fx a
    have mkB : ∀ (C : Ctx) (c : Bool), C.kd = T.kd → VRel C (.d T.boolT true (.b c)) (.bool c) := fun C c hC => mk_bool (x := .b c) (by rw [hC]; exact hT.boolT)
    split at h
    · rename_i e0 k0 e1 k1 hkt hxT
      obtain ⟨ds, hds, hdk⟩ := (hT.ty _ _ hxT).desc
      obtain ⟨e, rfl⟩ : ∃ e, ds = .pointer e := by cases ds <;> simp_all [DescOK, K.agg]
      have ptrs : ∀ (C : Ctx) (vx : Value), C.kd = T.kd → VRel C (.d t fx a) vx → ∃ p, vx = .pointer p ∧ (p == none) = a.list.isEmpty := fun C vx hC h1 => by
        obtain ⟨r1, g1⟩ := v1_of_d (by rw [hC]; exact hkt) h1
        simp only [RepC] at r1
        rcases r1 with ⟨h1, h2⟩ | ⟨y, l, ad, ds, h1, h2, _⟩
        · exact ⟨none, cells_one h2 g1, by rw [h1]; rfl⟩
        · exact ⟨some ad, cells_one h2 g1, by rw [h1]; rfl⟩
      have heq : ∀ (p : Option Addr) (w : World), (Op.equal xT (.pointer p) (.pointer none)).run P w = .ok (p == none) w := fun p w => run_eqPtr hds _ _ (by simp) 9999 w
      split at h
      · refine ⟨_, h, fun _ => trivial, fun _ C ox oy vx vy w hC hw h1 h2 => ?_⟩
        obtain ⟨p, rfl, hp⟩ := ptrs C vx hC h1
        obtain ⟨hc2, ha2⟩ := h2
        have e2 := cells_one hc2 ha2
        subst e2
        rw [← hp]
        exact ⟨_, by simp [binRun, eqGuard, binOp, heq], mkB C _ hC⟩
      · refine ⟨_, h, fun _ => trivial, fun _ C ox oy vx vy w hC hw h1 h2 => ?_⟩
        obtain ⟨p, rfl, hp⟩ := ptrs C vx hC h1
        obtain ⟨hc2, ha2⟩ := h2
        have e2 := cells_one hc2 ha2
        subst e2
        rw [← hp]
        exact ⟨_, by simp [binRun, eqGuard, binOp, heq], mkB C _ hC⟩
      · cases h
    · cases h
  · cases h
end
end Go.Ev
