/- The evaluator: slices.Compact over a row of strings of one's own (by the shelf's contract). -/
import Derived.Test.YtpmkecjkbajcgaaGreatDoorEvSort
import Derived.Lib.OwnBridge
namespace Go.Ev
open Go Go.Sort Go.Proofs
set_option linter.unusedVariables false
set_option linter.unusedSimpArgs false
def compS (xs : List D) : List D := (Lib.compact (xs.map D.str)).map D.s
def compSEnt (t e : Nat) : Entry := { n := 1, sh := { sl := [(0, .own t 0)], ob := [(0, .row e true)] }, kept := [], rs := [{ sl := [(0, .own t 0)], ob := [(0, .row e true)] }], f := fun ds => some [.n (compS (D.nth ds 0).list)], tot := some fun ds => [.n (compS (D.nth ds 0).list)] }
section
variable {P : Program} {T : Tbl}
theorem compS_ok (hT : TblOK P T) {g : FuncId} {fn : Func} {c0 : Code} {t e : TypeId} (hfn : P.funcs[g]? = some fn) (ht : T.kd t = some (.slice e .str)) (hname : fn.name ≠ "runtime.NumGoroutine") (hbody : fn.body = some c0)
    (h1 : ∀ (b off c : Nat) (zs : List (List UInt8)) (w : World), Holds encStr w b off zs.toArray → zs.length ≤ 9223372036854775807 → zs.length ≤ c →
      Calls P g #[.slice (some ⟨b, off, none⟩) zs.length c] w fun e w' => e = .returned (.slice (some ⟨b, off, none⟩) (Lib.compact zs).length c) ∧ ∃ q, w' = putRow encStr (Sort.ahead w q) b off (Lib.compact zs ++ List.replicate (zs.length - (Lib.compact zs).length) []).toArray)
    (h2 : ∀ (a : Option Addr) (cap : Nat) (w : World), Calls P g #[.slice a 0 cap] w fun e w' => e = .returned (.slice a 0 cap) ∧ w' = w) : FnOK P T g (compSEnt t e) := by
  have hsm : Shape.small { sl := [(0, SV.own t 0)], ob := [(0, SO.row e true)] } = true := rfl
  refine ⟨hsm, fun s hs => ?_, fun p hp ds => (by cases hp; rfl), fun ds out hout E σ vals w hn hw hs => ?_⟩
  · simp only [compSEnt, List.mem_singleton] at hs
    subst hs
    exact hsm
  cases hout
  have hes := slice_elem (hT.ty _ _ ht)
  have hfill : fill (compSEnt t e).sh ds = ([(0, .own t 0)], [(0, .row e true (D.nth ds 0).list)]) := rfl
  generalize hxs : (D.nth ds 0).list = xs at hfill ⊢
  rw [hfill] at hs
  obtain ⟨⟨v, hv, hvr⟩, _⟩ := hs.slot 0 (.own t 0) rfl
  obtain ⟨hvs, hvg, _⟩ := own_val hvr
  have hvs : v = (σ 0).v := hvs
  obtain ⟨hor, _, _⟩ := hs.obj 0 (.row e true xs) rfl
  simp only [ORel] at hor
  obtain ⟨hte, k, css, hk, hall, hown⟩ := hor
  have hk : T.kd e = some k := hk
  rw [hes.2] at hk
  cases hk
  have hfl := rep_ones (enc := encStr) (dec := D.str) (fun x cs h => by simpa only [RepC] using h) hall
  have hn : vals.size = 1 := hn
  have hvals : vals = #[v] := by
    apply Array.ext
    · simpa using hn
    · intro i hi1 hi2
      have : i = 0 := by simp at hi2; omega
      subst this
      simpa [Array.getElem?_eq_getElem hi1] using hv
  subst hvals
  rw [hvs] at hn ⊢
  have hd0 := hs.d0
  have hres : fill { sl := [(0, SV.own t 0)], ob := [(0, SO.row e true)] } (datS (compSEnt t e).rs [.n (compS xs)]) = ([(0, .own t 0)], [(0, .row e true (compS xs))]) := rfl
  have hend : ∀ (v' : Value) (w' : World), Grew E.w0 w' E.T0 → w'.ownsRow 0 e 1 v' (compS xs).length ((Lib.compact (xs.map D.str)).map encStr) → (∀ b, blk v' = some b → b < w'.heap.size ∧ (E.w0.heap.size ≤ b ∨ E.T0 b)) → (aggV v' = false) → (v'.cells.toList = [v']) → v'.oneCell' = true →
      ∃ s, selS [.n (compS xs)] (compSEnt t e).rs 0 = some s ∧ ∃ σ' : Nat → Hd, (∀ i ∈ (compSEnt t e).kept, σ' i = σ i) ∧ SRel T.kd E (· < 16) (lk (fill s (datS (compSEnt t e).rs [.n (compS xs)])).1) (lk (fill s (datS (compSEnt t e).rs [.n (compS xs)])).2) σ' { tmps := #[v'], defers := [] } w' := fun v' w' hg ho hb ha hc h1c => by
    refine ⟨_, rfl, fun _ => ⟨v', e⟩, fun i hi => by simp [compSEnt] at hi, ?_⟩
    rw [hres]
    refine ⟨fun q av hq => ?_, fun i o hi => ?_, fun i j oi oj b hi hj hne => ?_, fun i o b hi hbi => hb b hbi, hg, ⟨[], by simp [hd0], trivial⟩⟩
    · rw [lk_cons] at hq
      split at hq
      · rename_i h0
        cases hq
        subst h0
        exact ⟨⟨v', rfl, ⟨⟨hc, h1c, .inl ⟨_, ht⟩⟩, by rw [ha]; rfl⟩⟩, by show (0 : Nat) < 16; omega⟩
      · simp [lk] at hq
    · rw [lk_cons] at hi
      split at hi
      · rename_i h0
        cases hi
        subst h0
        refine ⟨⟨rfl, .str, _, hes.2, ones_rep (k0 := .str) (ret := D.s) (enc := encStr) (fun a => rfl) _, ?_⟩, by show (0 : Nat) < 16; omega, trivial⟩
        rw [flat_ones]
        exact ho
      · simp [lk] at hi
    · rw [lk_cons] at hi hj
      split at hi
      · split at hj
        · omega
        · simp [lk] at hj
      · simp [lk] at hi
  have hcomp0 : xs = [] → compS xs = [] := fun h => by subst h; rfl
  subst hw
  have hsz : K.str.size = 1 := rfl
  rw [hfl, hsz] at hown
  have hown0 := hown
  rcases hown with ⟨hln, ⟨hv0, hx0⟩ | ⟨b, cap, cur, hv0, _, hh, hnc, hcm, hcur, htk⟩⟩
  · have hv0 : (σ 0).v = .slice none 0 0 := hv0
    have hx : xs = [] := List.length_eq_zero_iff.1 hx0
    rw [hv0]
    refine runs_calls hfn hbody hname ((h2 none 0 E.w0).mono ?_)
    rintro e1 w' ⟨rfl, rfl⟩
    refine ⟨_, rfl, hend _ _ (Grew.refl _ _) ⟨?_, .inl ⟨rfl, ?_⟩⟩ (fun b hb => by simp [blk] at hb) rfl rfl rfl⟩
    · rw [hcomp0 hx, hx]; rfl
    · rw [hcomp0 hx]; rfl
  · have hv0 : (σ 0).v = .slice (some ⟨b, 0, none⟩) xs.length cap := hv0
    have hh : E.w0.heap[b]? = some (.cells cur e (0, 0)) := hh
    have hblt : b < E.w0.heap.size := (Array.getElem?_eq_some_iff.1 hh).1
    have htrk := hs.trk 0 _ b rfl (by rw [hv0]; rfl)
    have hm := h1 b 0 cap (xs.map D.str) E.w0 (holds_of_block hh (by simpa using htk)) (by unfold maxLen at hcm; simp; omega) (by simpa using hnc)
    rw [List.length_map] at hm
    have hown1 : E.w0.ownsRow 0 e 1 (.slice (some ⟨b, 0, none⟩) xs.length cap) xs.length ((xs.map D.str).map encStr) := by
      have : E.w0.ownsRow 0 e 1 (σ 0).v xs.length ((xs.map D.str).map encStr) := hown0
      rwa [hv0] at this
    rw [hv0]
    refine runs_calls hfn hbody hname (hm.mono ?_)
    rintro e1 w' ⟨rfl, q, rfl⟩
    refine ⟨_, rfl, ?_⟩
    generalize hzs : Lib.compact (xs.map D.str) = zs at hend ⊢
    have hzl : zs.length ≤ xs.length := by rw [← hzs]; have := Lib.compact_length_le (xs.map D.str); simpa using this
    have hcl : (compS xs).length = zs.length := by unfold compS; rw [hzs]; simp
    have ho := Lib.ownsRow_putRow (q := q) (k := zs.length) (ys := zs ++ List.replicate (xs.length - zs.length) []) hown1 (by simp; omega) hzl
    rw [List.take_left'  rfl] at ho
    have hg := grownBy_sorted (w := E.w0) (g := b) (n := q) (os := #[]) (zs ++ List.replicate (xs.length - zs.length) []).toArray
    rw [grow_empty] at hg
    refine hend _ _ ⟨hg.os, hg.tape, hg.output, hg.size, fun i hi hn => ?_⟩ (by rw [hcl]; exact ho) (fun b' hb' => ?_) rfl rfl rfl
    · refine hg.block i hi fun e0 => ?_
      have : b = i := by simpa using e0.symm
      subst this
      rcases htrk.2 with h3 | h3
      · omega
      · exact hn h3
    · simp only [blk, Option.some.injEq] at hb'
      subst hb'
      exact ⟨Nat.lt_of_lt_of_le hblt hg.size, htrk.2⟩
end
end Go.Ev
