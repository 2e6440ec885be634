/- The evaluator: functions over strings and numbers that are proved by hand: from what a call does to 'FnOK'. -/
import Derived.Test.YtpmkecjkbajcgaaGreatDoorEvClear
import Derived.Below
import Derived.Lib.Bytealg
import Derived.Lib.Repeat
namespace Go.Ev
open Go
set_option linter.unusedVariables false
set_option linter.unusedSimpArgs false
section
variable {P : Program} {T : Tbl}
/-- The end of such a call. -/
theorem sr_flat {kd : TypeId → Option K} {E : Ent} {σ : Nat → Hd} {w' : World} {v : Value} {t : TypeId} {fr : Bool} {y : D} (hg : Grew E.w0 w' E.T0) (h0 : E.d0 = []) (hv : VRel (ctx kd E (lk []) σ w') (.d t fr y) v) :
    SRel kd E (· < 16) (lk [(0, .d t fr y)]) (lk []) σ { tmps := #[v], defers := [] } w' := by
  refine ⟨fun s av h => ?_, fun i o h => by simp [lk] at h, fun i j oi oj b h => by simp [lk] at h, fun i o b h => by simp [lk] at h, hg, ⟨[], by simp [h0], trivial⟩⟩
  rw [lk_cons] at h
  split at h
  · rename_i e
    cases h
    subst e
    exact ⟨⟨v, rfl, hv⟩, trivial⟩
  · simp [lk] at h
theorem grew_below {w0 w' : World} {T0 : Nat → Prop} (h : RowKit.Below w0.heap.size w0 w') : Grew w0 w' T0 := ⟨h.os, h.tape, h.output, h.size, fun b hb _ => h.block b hb⟩
/-- What an argument holds. -/
theorem arg_at {kd : TypeId → Option K} {E : Ent} {U : Nat → Prop} {lks : Nat → Option AV} {hp : HpF} {σ : Nat → Hd} {vals : Array Value} {w : World} (hs : SRel kd E U lks hp σ { tmps := vals, defers := [] } w) {s : Nat} {t : TypeId} {fr : Bool} {x : D} (hl : lks s = some (.d t fr x)) :
    ∃ v, vals[s]? = some v ∧ VRel (ctx kd E hp σ w) (.d t fr x) v := (hs.slot s _ hl).1
theorem str_arg {C : Ctx} {t : TypeId} {fr : Bool} {x : D} {v : Value} (hk : C.kd t = some .str) (h : VRel C (.d t fr x) v) : v = .string ⟨x.str.toArray⟩ := rep_str hk h
theorem int_arg {C : Ctx} {t : TypeId} {ik : IntKind} {fr : Bool} {x : D} {v : Value} (hk : C.kd t = some (.int ik)) (h : VRel C (.d t fr x) v) : v = .int ik x.int := rep_int hk h
theorem str_res {C : Ctx} {t : TypeId} {fr : Bool} {l : List UInt8} (hk : C.kd t = some .str) : VRel C (.d t fr (.s l)) (.string ⟨l.toArray⟩) := ⟨⟨.str, hk, rfl⟩, by simp [AV.aggB, hk, aggV, K.agg]⟩
theorem int_res {C : Ctx} {t : TypeId} {ik : IntKind} {fr : Bool} {n : Int} (hk : C.kd t = some (.int ik)) : VRel C (.d t fr (.i n)) (.int ik n) := ⟨⟨.int ik, hk, rfl⟩, by simp [AV.aggB, hk, aggV, K.agg]⟩
theorem bool_res {C : Ctx} {t : TypeId} {fr : Bool} {b : Bool} (hk : C.kd t = some .bool) : VRel C (.d t fr (.b b)) (.bool b) := ⟨⟨.bool, hk, rfl⟩, by simp [AV.aggB, hk, aggV, K.agg]⟩
/-- Two arguments, one result, all of them flat. -/
def flat2 (t0 t1 tr : TypeId) (f : List D → Option (List D)) (tot : Option (List D → List D)) : Entry := { n := 2, sh := { sl := [(0, .d t0 false), (1, .d t1 false)], ob := [] }, kept := [], rs := [{ sl := [(0, .d tr true)], ob := [] }], f := f, tot := tot }
theorem flat2_ok {g : FuncId} {t0 t1 tr : TypeId} {f : List D → Option (List D)} {tot : Option (List D → List D)} (htot : ∀ p, tot = some p → ∀ ds, f ds = some (p ds))
    (h : ∀ ds out, f ds = some out → ∀ (C : Ctx) (v0 v1 : Value) (w : World), C.kd = T.kd → VRel C (.d t0 false (D.nth ds 0)) v0 → VRel C (.d t1 false (D.nth ds 1)) v1 →
      Runs P g #[v0, v1] w fun v w' => RowKit.Below w.heap.size w w' ∧ ∀ C' : Ctx, C'.kd = T.kd → VRel C' (.d tr true (D.nth out 0)) v) : FnOK P T g (flat2 t0 t1 tr f tot) := by
  refine ⟨rfl, fun s hs => ?_, htot, fun ds out hout E σ vals w hn hw hs => ?_⟩
  · simp only [flat2, List.mem_singleton] at hs
    subst hs
    rfl
  · obtain ⟨v0, h0, hv0⟩ := arg_at hs (s := 0) (t := t0) (fr := false) (x := D.nth ds 0) rfl
    obtain ⟨v1, h1, hv1⟩ := arg_at hs (s := 1) (t := t1) (fr := false) (x := D.nth ds 1) rfl
    have hvals : vals = #[v0, v1] := by
      have hn : vals.size = 2 := hn
      apply Array.ext
      · simpa using hn
      · intro i hi1 hi2
        have : i = 0 ∨ i = 1 := by simp at hi2; omega
        rcases this with rfl | rfl
        · simpa [Array.getElem?_eq_getElem hi1] using h0
        · simpa [Array.getElem?_eq_getElem hi1] using h1
    subst hvals
    subst hw
    refine (h ds out hout _ v0 v1 E.w0 rfl hv0 hv1).mono fun v w' ⟨hb, hv⟩ => ⟨_, rfl, σ, fun i hi => by simp [flat2] at hi, ?_⟩
    exact sr_flat (grew_below hb) hs.d0 (hv _ rfl)
/-- A machine's own function. -/
theorem runs_value {g : FuncId} {vals : Array Value} {w w' : World} {v : Value} {Q : Value → World → Prop} (h : (callFunc g vals).run P w = .ok (.value v) w') (hq : Q v w') : Runs P g vals w Q := by
  unfold Runs; rw [h]; exact hq
theorem runs_calls {g : FuncId} {fn : Func} {c : Code} {vals : Array Value} {w : World} {Q : Value → World → Prop} (hfn : P.funcs[g]? = some fn) (hbody : fn.body = some c) (hname : fn.name ≠ "runtime.NumGoroutine") (h : Calls P g vals w fun e w' => ∃ v, e = .returned v ∧ Q v w') : Runs P g vals w Q := by
  have hcall : (callFunc g vals).run P w = .ok (.enter g vals) w := by
    unfold callFunc
    simp only [Sem.run_bind, run_program, Result.andThen_ok, hfn, hbody]
    have : (fn.name == "runtime.NumGoroutine") = false := by simpa using hname
    simp [this]
  unfold Runs
  rw [hcall]
  refine h.mono fun e w' ⟨v, he, hq⟩ => ?_
  subst he
  exact hq
theorem idxByte_ok {g : FuncId} {fn : Func} {t0 t1 tr : TypeId} (hfn : P.funcs[g]? = some fn) (h1 : (fn.name == "runtime.NumGoroutine") = false) (h2 : fn.body.isNone = true) (h3 : (Extern.findNext fn).isNone = true) (h4 : Extern.find fn = some Extern.BytealgIndexByte.indexByte)
    (k0 : T.kd t0 = some .str) (k1 : T.kd t1 = some (.int .u8)) (kr : T.kd tr = some (.int .i64)) : FnOK P T g (flat2 t0 t1 tr (fun ds => some [D.i (Lib.indexByte (D.nth ds 0).str (D.nth ds 1).int.toNat.toUInt8)]) (some fun ds => [D.i (Lib.indexByte (D.nth ds 0).str (D.nth ds 1).int.toNat.toUInt8)])) := by
  refine flat2_ok (fun p hp ds => by cases hp; rfl) fun ds out hout C v0 v1 w hC hv0 hv1 => ?_
  cases hout
  rw [str_arg (by rw [hC]; exact k0) hv0, int_arg (by rw [hC]; exact k1) hv1]
  refine runs_value (w' := w) (v := .int .i64 (Lib.indexByte (D.nth ds 0).str (D.nth ds 1).int.toNat.toUInt8)) ?_ ⟨RowKit.Below.refl _ _, fun C' hC' => int_res (by rw [hC']; exact kr)⟩
  rw [run_callFunc_extern hfn h1 h2 (by simpa using h3) h4, Lib.run_indexByteString]
  rfl
theorem cmpStr_ok {g : FuncId} {fn : Func} {t0 t1 tr : TypeId} (hfn : P.funcs[g]? = some fn) (h1 : (fn.name == "runtime.NumGoroutine") = false) (h2 : fn.body.isNone = true) (h3 : (Extern.findNext fn).isNone = true) (h4 : Extern.find fn = some Extern.BytealgCompare.compare)
    (k0 : T.kd t0 = some .str) (k1 : T.kd t1 = some .str) (kr : T.kd tr = some (.int .i64)) : FnOK P T g (flat2 t0 t1 tr (fun ds => some [D.i (Lib.compareBytes (D.nth ds 0).str (D.nth ds 1).str)]) (some fun ds => [D.i (Lib.compareBytes (D.nth ds 0).str (D.nth ds 1).str)])) := by
  refine flat2_ok (fun p hp ds => by cases hp; rfl) fun ds out hout C v0 v1 w hC hv0 hv1 => ?_
  cases hout
  rw [str_arg (by rw [hC]; exact k0) hv0, str_arg (by rw [hC]; exact k1) hv1]
  refine runs_value (w' := w) (v := .int .i64 (Lib.compareBytes (D.nth ds 0).str (D.nth ds 1).str)) ?_ ⟨RowKit.Below.refl _ _, fun C' hC' => int_res (by rw [hC']; exact kr)⟩
  rw [run_callFunc_extern hfn h1 h2 (by simpa using h3) h4, Lib.run_compareString]
  rfl
/-- strings.Repeat. -/
def repF (x y : D) : Option (List D) := cond (leI 0 y.int && (Nat.ble y.int.toNat 9223372036854775807 && Nat.ble (x.str.length * y.int.toNat) 140737488355328)) (some [D.s (Lib.repeatL x.str y.int.toNat)]) none
theorem repeat_ok {g : FuncId} {fn : Func} {c : Code} {t0 t1 tr : TypeId} (hfn : P.funcs[g]? = some fn) (hbody : fn.body = some c) (hname : fn.name ≠ "runtime.NumGoroutine") (k0 : T.kd t0 = some .str) (k1 : T.kd t1 = some (.int .i64)) (kr : T.kd tr = some .str)
    (hcall : ∀ (s : ByteArray) (n : Nat) (w : World), n ≤ 9223372036854775807 → s.size * n ≤ 140737488355328 → Calls P g #[.string s, .int .i64 n] w fun e w' => e = .returned (.string ⟨(Lib.repeatL s.data.toList n).toArray⟩) ∧ RowKit.Below w.heap.size w w') :
    FnOK P T g (flat2 t0 t1 tr (fun ds => repF (D.nth ds 0) (D.nth ds 1)) none) := by
  refine flat2_ok (fun p hp => by cases hp) fun ds out hout C v0 v1 w hC hv0 hv1 => ?_
  obtain ⟨hk, hb⟩ := cond_some hout
  cases hk
  simp only [Bool.and_eq_true, leI, decide_eq_true_eq, Nat.ble_eq] at hb
  obtain ⟨h0, h1, h2⟩ := hb
  rw [str_arg (by rw [hC]; exact k0) hv0, int_arg (by rw [hC]; exact k1) hv1]
  obtain ⟨n, hn⟩ : ∃ n : Nat, (D.nth ds 1).int = (n : Int) := ⟨(D.nth ds 1).int.toNat, by omega⟩
  rw [hn] at h1 h2 ⊢
  simp only [Int.toNat_natCast] at h1 h2 ⊢
  refine runs_calls hfn hbody hname ((hcall ⟨(D.nth ds 0).str.toArray⟩ n w h1 (by simpa [ByteArray.size] using h2)).mono fun e w' ⟨he, hw⟩ => ⟨_, he, hw, fun C' hC' => ?_⟩)
  show VRel C' (.d tr true (.s (Lib.repeatL (D.nth ds 0).str n))) (.string ⟨(Lib.repeatL (D.nth ds 0).str n).toArray⟩)
  exact str_res (by rw [hC']; exact kr)
/-- A search for one byte. -/
def oneF (G : List UInt8 → UInt8 → Int) (x y : D) : Option (List D) := match y.str with | [c] => some [D.i (G x.str c)] | _ => none
theorem one_ok {g : FuncId} {fn : Func} {c : Code} {t0 t1 tr : TypeId} (G : List UInt8 → UInt8 → Int) (hfn : P.funcs[g]? = some fn) (hbody : fn.body = some c) (hname : fn.name ≠ "runtime.NumGoroutine") (k0 : T.kd t0 = some .str) (k1 : T.kd t1 = some .str) (kr : T.kd tr = some (.int .i64))
    (hcall : ∀ (s : ByteArray) (b : UInt8) (w : World), Calls P g #[.string s, .string ⟨#[b]⟩] w fun e w' => e = .returned (.int .i64 (G s.data.toList b)) ∧ w' = w) :
    FnOK P T g (flat2 t0 t1 tr (fun ds => oneF G (D.nth ds 0) (D.nth ds 1)) none) := by
  refine flat2_ok (fun p hp => by cases hp) fun ds out hout C v0 v1 w hC hv0 hv1 => ?_
  rw [str_arg (by rw [hC]; exact k0) hv0, str_arg (by rw [hC]; exact k1) hv1]
  unfold oneF at hout
  split at hout
  · rename_i b hb
    cases hout
    rw [hb]
    exact runs_calls hfn hbody hname ((hcall ⟨(D.nth ds 0).str.toArray⟩ b w).mono fun e w' ⟨he, hw⟩ => ⟨_, he, hw ▸ RowKit.Below.refl _ _, fun C' hC' => int_res (by rw [hC']; exact kr)⟩)
  · cases hout
end
end Go.Ev
