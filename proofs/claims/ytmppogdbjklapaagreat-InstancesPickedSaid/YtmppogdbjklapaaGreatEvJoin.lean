/- The evaluator: strings.Join of two and more. -/
import Derived.Test.YtmppogdbjklapaaGreatEvFlat
import Derived.Shelf.Strings.OnBuilder
namespace Go.Ev
open Go
set_option linter.unusedSimpArgs false
set_option linter.unusedVariables false
section
variable {P : Program} {T : Tbl}
theorem flat2w_ok {g : FuncId} {t0 t1 tr : TypeId} {f : List D → Option (List D)} {tot : Option (List D → List D)} (htot : ∀ p, tot = some p → ∀ ds, f ds = some (p ds))
    (h : ∀ ds out, f ds = some out → ∀ (C : Ctx) (v0 v1 : Value) (w : World), C.kd = T.kd → C.w = w → VRel C (.d t0 false (D.nth ds 0)) v0 → VRel C (.d t1 false (D.nth ds 1)) v1 →
      Runs P g #[v0, v1] w fun v w' => RowKit.Below w.heap.size w w' ∧ ∀ C' : Ctx, C'.kd = T.kd → VRel C' (.d tr true (D.nth out 0)) v) : FnOK P T g (flat2 t0 t1 tr f tot) := by
  refine ⟨rfl, fun s hs => ?_, htot, fun ds out hout E σ vals w hn hw hs => ?_⟩
  · simp only [flat2, List.mem_singleton] at hs
    subst hs
    rfl
  · obtain ⟨v0, h0, hv0⟩ := arg_at hs (s := 0) (t := t0) (fr := false) (x := D.nth ds 0) rfl
    obtain ⟨v1, h1, hv1⟩ := arg_at hs (s := 1) (t := t1) (fr := false) (x := D.nth ds 1) rfl
    have hvals : vals = #[v0, v1] := by
      have hn : vals.size = 2 := hn
      apply Array.ext
      · simpa using hn
      · intro i hi1 hi2
        have : i = 0 ∨ i = 1 := by simp at hi2; omega
        rcases this with rfl | rfl
        · simpa [Array.getElem?_eq_getElem hi1] using h0
        · simpa [Array.getElem?_eq_getElem hi1] using h1
    subst hvals
    subst hw
    refine (h ds out hout _ v0 v1 E.w0 rfl rfl hv0 hv1).mono fun v w' ⟨hb, hv⟩ => ⟨_, rfl, σ, fun i hi => by simp [flat2] at hi, ?_⟩
    exact sr_flat (grew_below hb) hs.d0 (hv _ rfl)
def joinF (x y : D) : Option (List D) := cond (Nat.ble 2 x.list.length && (Nat.ble x.list.length 140737488355328 && Nat.ble (Lib.join (x.list.map D.str) y.str).length 140737488355328)) (some [D.s (Lib.join (x.list.map D.str) y.str)]) none
theorem join_ok {g : FuncId} {fn : Func} {c : Code} {t0 t1 tr e : TypeId} (hfn : P.funcs[g]? = some fn) (hbody : fn.body = some c) (hname : fn.name ≠ "runtime.NumGoroutine") (k0 : T.kd t0 = some (.slice e .str)) (k1 : T.kd t1 = some .str) (kr : T.kd tr = some .str)
    (hcall : ∀ (bk o c : Nat) (xs : List ByteArray) (sep : ByteArray) (w : World), (∀ (j : Nat) x, xs[j]? = some x → w.cell? ⟨bk, o + j, none⟩ = some (.string x)) → bk < w.heap.size → 2 ≤ xs.length → xs.length ≤ 140737488355328 → xs.length ≤ c →
      (Lib.join (xs.map (·.data.toList)) sep.data.toList).length ≤ 140737488355328 →
      Calls P g #[.slice (some ⟨bk, o, none⟩) xs.length c, .string sep] w fun e w' => e = .returned (.string ⟨(Lib.join (xs.map (·.data.toList)) sep.data.toList).toArray⟩) ∧ RowKit.Below w.heap.size w w') :
    FnOK P T g (flat2 t0 t1 tr (fun ds => joinF (D.nth ds 0) (D.nth ds 1)) none) := by
  refine flat2w_ok (fun p hp => by cases hp) fun ds out hout C v0 v1 w hC hw hv0 hv1 => ?_
  obtain ⟨hk, hb⟩ := cond_some hout
  cases hk
  simp only [Bool.and_eq_true, Nat.ble_eq] at hb
  obtain ⟨h0, h1, h2⟩ := hb
  rw [str_arg (by rw [hC]; exact k1) hv1]
  obtain ⟨r1, g1⟩ := v1_of_d (by rw [hC]; exact k0) hv0
  simp only [RepC] at r1
  obtain ⟨A, cp, hcs, hlc, _, hel⟩ := r1
  have hv := cells_one hcs g1
  subst hv
  generalize hl : (D.nth ds 0).list = l at *
  have hel0 : ∃ ad, A = some ad ∧ ad.spot = none ∧ ad.block < w.heap.size := by
    cases l with
    | nil => simp at h0
    | cons y l =>
      obtain ⟨ad, _, hA, hsp, _, hlt, _⟩ := hel 0 y rfl
      rw [hw] at hlt
      exact ⟨ad, hA, hsp, hlt⟩
  obtain ⟨ad, rfl, hsp, hlt⟩ := hel0
  obtain ⟨bk, o, sp⟩ := ad
  simp only at hsp hlt
  subst hsp
  have hmap : (l.map fun y => (⟨y.str.toArray⟩ : ByteArray)).map (·.data.toList) = l.map D.str := by
    rw [List.map_map]
    exact List.map_congr_left fun y _ => rfl
  have := hcall bk o cp (l.map fun y => ⟨y.str.toArray⟩) ⟨(D.nth ds 1).str.toArray⟩ w (fun j x hx => ?_) hlt (by simpa using h0) (by simpa using h1) (by simpa using hlc) (by rw [hmap]; exact h2)
  · rw [hmap, List.length_map] at this
    exact runs_calls hfn hbody hname (this.mono fun e w' ⟨he, hw⟩ => ⟨_, he, hw, fun C' hC' => str_res (by rw [hC']; exact kr)⟩)
  · rw [List.getElem?_map] at hx
    cases hy : l[j]? with
    | none => simp [hy] at hx
    | some y =>
      rw [hy] at hx
      cases hx
      obtain ⟨ad, cs, hA, _, _, _, hr, hat⟩ := hel j y hy
      cases hA
      subst hr
      have := hat 0 _ rfl
      rw [hw] at this
      simpa [shift, K.size] using this
end
end Go.Ev
