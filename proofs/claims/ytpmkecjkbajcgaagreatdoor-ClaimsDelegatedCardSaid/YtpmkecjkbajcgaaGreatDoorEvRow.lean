/- The evaluator: a law, from its function to what the row asks of its walk. -/
import Derived.Test.YtpmkecjkbajcgaaGreatDoorEvFn
import Derived.Below
namespace Go.Ev
open Go Go.RowKit
set_option linter.unusedVariables false
set_option linter.unusedSimpArgs false
/-- The whole numbers of an argument. -/
def IsInts (w : World) (a : Option Addr) (len cap : Nat) (zs : List Int) : Prop :=
  (a = none ∧ len = 0 ∧ cap = 0 ∧ zs = []) ∨
  ∃ x, a = some x ∧ len ≤ cap ∧ cap ≤ maxLen ∧ zs.length = len ∧ ∀ i, i < zs.length → w.cell? (x.add i) = some (.int .i64 (zs.getD i 0))
def lawSh (lt : TypeId) : Shape := { sl := [(0, .d lt false)], ob := [] }
def lawRs (bt : TypeId) : Shape := { sl := [(0, .d bt true)], ob := [] }
theorem law_calls {P : Program} {T : Tbl} {g : FuncId} {e : Entry} (hok : FnOK P T g e) {lt it : TypeId} (hn : e.n = 1) (hsh : e.sh = lawSh lt) (hrs : e.rs = [lawRs T.boolT]) (hlt : T.kd lt = some (.slice it (.int .i64))) (hbt : T.kd T.boolT = some .bool)
    {a : Option Addr} {len cap : Nat} {zs : List Int} {W : World} (hcall : (callFunc g #[.slice a len cap]).run P W = .ok (.enter g #[.slice a len cap]) W) (hz : IsInts W a len cap zs) (h : e.f [.n (zs.map D.i)] = some [.b true]) :
    Calls P g #[.slice a len cap] W fun e W' => e = .returned (.bool true) ∧ Below W.heap.size W W' := by
  let E : Ent := { w0 := W, G := fun _ => True, N := fun _ => False, T0 := fun _ => False }
  have hs : SRel T.kd E (· < 16) (lk (fill e.sh [.n (zs.map D.i)]).1) (lk (fill e.sh [.n (zs.map D.i)]).2) (fun _ => ⟨.nilFunc, 0⟩) { tmps := #[.slice a len cap], defers := [] } W := by
    rw [hsh]
    refine ⟨fun t av ht => ?_, fun i o ho => by simp [fill, lawSh, fillSl, fillOb, lk] at ho, fun i j oi oj b hi => by simp [fill, lawSh, fillSl, fillOb, lk] at hi, fun i o b ho => by simp [fill, lawSh, fillSl, fillOb, lk] at ho, Grew.refl _ _, ⟨[], rfl, trivial⟩⟩
    have hf : (fill (lawSh lt) [.n (zs.map D.i)]).1 = [(0, .d lt false (.n (zs.map D.i)))] := rfl
    rw [hf, lk_cons] at ht
    split at ht
    · rename_i e0
      cases ht
      subst e0
      refine ⟨⟨.slice a len cap, rfl, d_of_rep (k := .slice it (.int .i64)) hlt ?_ rfl⟩, trivial⟩
      rcases hz with ⟨rfl, rfl, rfl, rfl⟩ | ⟨x, rfl, h1, h2, h3, h4⟩
      · exact ⟨none, 0, rfl, Nat.le_refl _, Nat.zero_le _, fun j y hy => by simp [D.list] at hy⟩
      · refine ⟨some x, cap, by simp [Value.cells, D.list, h3], by simpa [D.list, h3] using h1, h2, fun j y hy => ?_⟩
        simp only [D.list, List.getElem?_map] at hy
        cases hj : zs[j]? with
        | none => simp [hj] at hy
        | some n =>
          simp only [hj, Option.map_some, Option.some.injEq] at hy
          subst hy
          have hjl : j < zs.length := (List.getElem?_eq_some_iff.1 hj).1
          have hc0 := h4 0 (by omega)
          have hsp : x.spot = none := by
            have : x.add 0 = x := by simp [Addr.add]
            rw [this] at hc0
            unfold World.cell? at hc0
            split at hc0
            · cases hs : x.spot with
              | none => rfl
              | some q => simp [hs] at hc0
            · cases hc0
          have hblt : x.block < W.heap.size := by
            have : x.add 0 = x := by simp [Addr.add]
            rw [this] at hc0
            unfold World.cell? at hc0
            split at hc0
            · rename_i hh; exact (Array.getElem?_eq_some_iff.1 hh).1
            · cases hc0
          refine ⟨x, [.int .i64 n], rfl, hsp, ⟨fun i o ho => by simp [fill, lawSh, fillSl, fillOb, lk] at ho, .inr (.inr (.inr ⟨rfl, trivial⟩))⟩, hblt, rfl, fun t v ht => ?_⟩
          cases t with
          | zero =>
            simp only [List.getElem?_cons_zero, Option.some.injEq] at ht
            subst ht
            have := h4 j hjl
            rw [add_shift hsp] at this
            have hget : zs.getD j 0 = n := by simp [List.getD, hj]
            rw [hget] at this
            show W.cell? _ = _
            simpa [shift, K.size] using this
          | succ t => simp at ht
    · simp [lk] at ht
  have hr := hok.run _ _ h E _ #[.slice a len cap] W (by rw [hn]; rfl) rfl hs
  unfold Runs at hr
  rw [hcall] at hr
  refine hr.mono fun en W' he => ?_
  cases en with
  | returned v =>
    obtain ⟨s, hsel, σ', _, h2⟩ := he
    rw [hrs] at hsel h2
    simp only [selS, Option.some.injEq] at hsel
    subst hsel
    have hf : (fill (lawRs T.boolT) (datS [lawRs T.boolT] [.b true])).1 = [(0, .d T.boolT true (.b true))] := rfl
    rw [hf] at h2
    obtain ⟨⟨v', hv, hvr⟩, _⟩ := h2.slot 0 (.d T.boolT true (.b true)) rfl
    have := rep_bool hbt hvr
    simp at hv
    subst hv
    refine ⟨by rw [this]; rfl, h2.grew.os, h2.grew.tape, h2.grew.output, h2.grew.size, fun k hk => h2.grew.block k hk (fun h => h)⟩
  | panicked ch => exact he.elim
  | outgrown => exact he.elim
end Go.Ev
