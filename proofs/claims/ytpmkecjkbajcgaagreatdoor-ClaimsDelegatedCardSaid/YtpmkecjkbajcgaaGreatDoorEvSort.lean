/- The evaluator: slices.Sort over a row of one's own whose elements are one cell each (by the shelf's contract). -/
import Derived.Test.YtpmkecjkbajcgaaGreatDoorEvComp
import Derived.Sort.OwnSortedInts
import Derived.Sort.EveryDepth
namespace Go.Ev
open Go Go.Sort Go.Proofs
set_option linter.unusedVariables false
set_option linter.unusedSimpArgs false
def sortS (xs : List D) : List D := ((xs.map D.str).mergeSort fun x y => decide (x ≤ y)).map D.s
def sortI (xs : List D) : List D := ((xs.map D.int).mergeSort fun x y => decide (x ≤ y)).map D.i
def sortG (f : List D → List D) (x : D) : Option (List D) := bif Nat.ble x.list.length 1000000000 then some [.n (f x.list)] else none
def sortEnt (t e : Nat) (f : List D → List D) : Entry := { n := 1, sh := { sl := [(0, .own t 0)], ob := [(0, .row e true)] }, kept := [0], rs := [{ sl := [(0, .tup [])], ob := [(0, .row e true)] }], f := fun ds => sortG f (D.nth ds 0), tot := none }
section
variable {P : Program} {T : Tbl} {α : Type}
theorem rep_ones {F : Nat → Prop} {w : World} {k0 : K} {enc : α → Value} {dec : D → α} (hd : ∀ x cs, RepC F w k0 x cs → cs = [enc (dec x)]) : ∀ {xs : List D} {css : List (List Value)}, All2 (RepC F w k0) xs css → css.flatten = (xs.map dec).map enc
  | _, _, .nil => rfl
  | _, _, .cons h t => by
    rw [hd _ _ h]
    simp [rep_ones hd t]
theorem ones_rep {F : Nat → Prop} {w : World} {k0 : K} {enc : α → Value} {ret : α → D} (hr : ∀ a, RepC F w k0 (ret a) [enc a]) : ∀ (zs : List α), All2 (RepC F w k0) (zs.map ret) (zs.map fun z => [enc z])
  | [] => .nil
  | z :: zs => .cons (hr z) (ones_rep hr zs)
theorem flat_ones (enc : α → Value) : ∀ (zs : List α), (zs.map fun z => [enc z]).flatten = zs.map enc
  | [] => rfl
  | z :: zs => by simp [flat_ones enc zs]
theorem sort_ok (hT : TblOK P T) {g : FuncId} {fn : Func} {c0 : Code} {t e : TypeId} {k0 : K} (enc : α → Value) (dec : D → α) (ret : α → D) (srt : List α → List α) (hfn : P.funcs[g]? = some fn) (ht : T.kd t = some (.slice e k0)) (hname : fn.name ≠ "runtime.NumGoroutine") (hbody : fn.body = some c0) (hsz : k0.size = 1)
    (hd : ∀ F w x cs, RepC F w k0 x cs → cs = [enc (dec x)]) (hr : ∀ F w a, RepC F w k0 (ret a) [enc a]) (hl : ∀ l, (srt l).length = l.length)
    (h1 : ∀ (b cap : Nat) (zs : List α) (w : World), zs.length ≤ 1000000000 → zs.length ≤ cap → cap ≤ maxLen → ∀ (cur : Array Value), w.heap[b]? = some (.cells cur e (0, 0)) → cur.size = cap → cur.toList.take zs.length = zs.map enc →
      Calls P g #[.slice (some ⟨b, 0, none⟩) zs.length cap] w fun x w' => x = .returned (.tuple #[]) ∧ w.grownBy w' (some b) ∧ w'.ownsRow 0 e 1 (.slice (some ⟨b, 0, none⟩) zs.length cap) zs.length ((srt zs).map enc))
    (h2 : ∀ (a : Option Addr) (cap : Nat) (w : World), Calls P g #[.slice a 0 cap] w fun x w' => x = .returned (.tuple #[]) ∧ w' = w) : FnOK P T g (sortEnt t e fun xs => (srt (xs.map dec)).map ret) := by
  have hsm : Shape.small { sl := [(0, SV.own t 0)], ob := [(0, SO.row e true)] } = true := rfl
  refine ⟨hsm, fun s hs => ?_, fun p hp ds => (by cases hp), fun ds out hout E σ vals w hn hw hs => ?_⟩
  · simp only [sortEnt, List.mem_singleton] at hs
    subst hs
    rfl
  obtain ⟨hout, hble⟩ := cond_some (show (bif Nat.ble (D.nth ds 0).list.length 1000000000 then some [D.n ((srt ((D.nth ds 0).list.map dec)).map ret)] else none) = some out from hout)
  cases hout
  have hble := Nat.le_of_ble_eq_true hble
  have hes := slice_elem (hT.ty _ _ ht)
  have hfill : fill { sl := [(0, SV.own t 0)], ob := [(0, SO.row e true)] } ds = ([(0, .own t 0)], [(0, .row e true (D.nth ds 0).list)]) := rfl
  generalize hxs : (D.nth ds 0).list = xs at hfill hble ⊢
  have hs : SRel T.kd E (· < 16) (lk [(0, .own t 0)]) (lk [(0, .row e true xs)]) σ { tmps := vals, defers := [] } w := by
    rw [← hxs]; exact hs
  obtain ⟨⟨v, hv, hvr⟩, _⟩ := hs.slot 0 (.own t 0) rfl
  obtain ⟨hvs, hvg, _⟩ := own_val hvr
  have hvs : v = (σ 0).v := hvs
  obtain ⟨hor, _, _⟩ := hs.obj 0 (.row e true xs) rfl
  simp only [ORel] at hor
  obtain ⟨hte, k, css, hk, hall, hown⟩ := hor
  have hk : T.kd e = some k := hk
  rw [hes.2] at hk
  cases hk
  have hfl := rep_ones (hd _ _) hall
  have hn : vals.size = 1 := hn
  have hvals : vals = #[v] := by
    apply Array.ext
    · simpa using hn
    · intro i hi1 hi2
      have : i = 0 := by simp at hi2; omega
      subst this
      simpa [Array.getElem?_eq_getElem hi1] using hv
  subst hvals
  rw [hvs] at hn ⊢
  have hd0 := hs.d0
  show Runs P g #[(σ 0).v] w fun v w' => ∃ s, selS [.n ((srt (xs.map dec)).map ret)] [{ sl := [(0, SV.tup [])], ob := [(0, SO.row e true)] }] 0 = some s ∧ ∃ σ' : Nat → Hd, (∀ i ∈ [0], σ' i = σ i) ∧ SRel T.kd E (· < 16) (lk (fill s [.n ((srt (xs.map dec)).map ret)]).1) (lk (fill s [.n ((srt (xs.map dec)).map ret)]).2) σ' { tmps := #[v], defers := [] } w'
  generalize hys : (srt (xs.map dec)).map ret = ys
  have hyl : ys.length = xs.length := by rw [← hys]; simp [hl]
  have hend : ∀ (w' : World), Grew E.w0 w' E.T0 → E.w0.heap.size ≤ w'.heap.size → w'.ownsRow 0 e 1 (σ 0).v ys.length ((srt (xs.map dec)).map enc) →
      ∃ s, selS [.n ys] [{ sl := [(0, SV.tup [])], ob := [(0, SO.row e true)] }] 0 = some s ∧ ∃ σ' : Nat → Hd, (∀ i ∈ [0], σ' i = σ i) ∧ SRel T.kd E (· < 16) (lk (fill s [.n ys]).1) (lk (fill s [.n ys]).2) σ' { tmps := #[.tuple #[]], defers := [] } w' := fun w' hg hsz' ho => by
    refine ⟨_, rfl, σ, fun i hi => rfl, ?_⟩
    have hres : fill { sl := [(0, SV.tup [])], ob := [(0, SO.row e true)] } [.n ys] = ([(0, .tup [])], [(0, .row e true ys)]) := rfl
    rw [hres]
    refine ⟨fun q av hq => ?_, fun i o hi => ?_, fun i j oi oj b hi hj hne => ?_, fun i o b hi hbi => ?_, hg, ⟨[], by simp [hd0], trivial⟩⟩
    · rw [lk_cons] at hq
      split at hq
      · rename_i h0
        cases hq
        subst h0
        exact ⟨⟨_, rfl, ⟨[], rfl, .nil⟩⟩, trivial⟩
      · simp [lk] at hq
    · rw [lk_cons] at hi
      split at hi
      · rename_i h0
        cases hi
        subst h0
        refine ⟨⟨hte, k0, _, hes.2, by rw [← hys]; exact ones_rep (hr _ _) _, ?_⟩, by show (0 : Nat) < 16; omega, trivial⟩
        rw [flat_ones, hsz]
        exact ho
      · simp [lk] at hi
    · rw [lk_cons] at hi hj
      split at hi
      · split at hj
        · omega
        · simp [lk] at hj
      · simp [lk] at hi
    · rw [lk_cons] at hi
      split at hi
      · rename_i h0
        subst h0
        have := hs.trk 0 _ b rfl hbi
        rw [← hw] at this
        exact ⟨Nat.lt_of_lt_of_le this.1 hsz', this.2⟩
      · simp [lk] at hi
  subst hw
  rw [hfl, hsz] at hown
  rcases hown with ⟨hln, ⟨hv0, hx0⟩ | ⟨b, cap, cur, hv0, hb0, hh, hnc, hcm, hcur, htk⟩⟩
  · have hv0 : (σ 0).v = .slice none 0 0 := hv0
    have hx : xs = [] := List.length_eq_zero_iff.1 hx0
    have hy0 : srt (xs.map dec) = [] := List.length_eq_zero_iff.1 (by rw [hl]; simp [hx])
    rw [hv0]
    refine runs_calls hfn hbody hname ((h2 none 0 E.w0).mono ?_)
    rintro e1 w' ⟨rfl, rfl⟩
    refine ⟨_, rfl, hend _ (Grew.refl _ _) (Nat.le_refl _) ?_⟩
    rw [hy0, hv0, hyl, hx]
    exact ⟨rfl, .inl ⟨rfl, rfl⟩⟩
  · have hv0 : (σ 0).v = .slice (some ⟨b, 0, none⟩) xs.length cap := hv0
    have hh : E.w0.heap[b]? = some (.cells cur e (0, 0)) := hh
    have hblt : b < E.w0.heap.size := (Array.getElem?_eq_some_iff.1 hh).1
    by_cases hx0 : xs = []
    · have hy0 : srt (xs.map dec) = [] := List.length_eq_zero_iff.1 (by rw [hl]; simp [hx0])
      have hv1 := hv0
      rw [hx0] at hv1
      have hv1 : (σ 0).v = .slice (some ⟨b, 0, none⟩) 0 cap := hv1
      rw [hv1]
      refine runs_calls hfn hbody hname ((h2 _ cap E.w0).mono ?_)
      rintro e1 w' ⟨rfl, rfl⟩
      refine ⟨_, rfl, hend _ (Grew.refl _ _) (Nat.le_refl _) ?_⟩
      rw [hy0, hv1, hyl, hx0]
      exact ⟨rfl, .inr ⟨b, cap, cur, rfl, Nat.zero_le _, hh, Nat.zero_le _, hcm, hcur, rfl⟩⟩
    · have hpos : 0 < xs.length := List.length_pos_iff.2 hx0
      have htrk := hs.trk 0 _ b rfl (by rw [hv0]; rfl)
      have := h1 b cap (xs.map dec) E.w0 (by simpa using hble) (by simpa using hnc) hcm cur hh (by simpa using hcur) (by simpa using htk)
      rw [List.length_map] at this
      rw [hv0]
      refine runs_calls hfn hbody hname (this.mono ?_)
      rintro e1 w' ⟨rfl, hgb, ho⟩
      refine ⟨_, rfl, hend _ ⟨hgb.os, hgb.tape, hgb.output, hgb.size, fun i hi hn => ?_⟩ hgb.size ?_⟩
      · refine hgb.block i hi fun e0 => ?_
        have : b = i := by simpa using e0.symm
        subst this
        rcases htrk.2 with h3 | h3
        · omega
        · exact hn h3
      · rw [hv0, hyl]
        exact ho
end
section
variable {P : Program} {T : Tbl}
theorem sortS_ok (hT : TblOK P T) {g : FuncId} {fn : Func} {c0 : Code} {t e : TypeId} {L : List FuncId} (hfn : P.funcs[g]? = some fn) (ht : T.kd t = some (.slice e .str)) (hname : fn.name ≠ "runtime.NumGoroutine") (hbody : fn.body = some c0)
    (h1 : ∀ (D blk off cap : Nat) (zs : List (List UInt8)) (w : World), Holds encStr w blk off zs.toArray → blk < w.heap.size → zs.length < 4611686018427387904 →
      CallsIn (Fence.list L (some D)) 66 P g #[.slice (some ⟨blk, off, none⟩) zs.length cap] w fun e w' => e = .returned (.tuple #[]) ∧ ∃ n os, w' = grow (putRow encStr (Sort.ahead w n) blk off (zs.mergeSort fun x y => decide (x ≤ y)).toArray) os)
    (h2 : ∀ (a : Option Addr) (cap : Nat) (w : World), Calls P g #[.slice a 0 cap] w fun x w' => x = .returned (.tuple #[]) ∧ w' = w) : FnOK P T g (sortEnt t e sortS) := by
  refine sort_ok hT encStr D.str D.s (fun zs => zs.mergeSort fun x y => decide (x ≤ y)) hfn ht hname hbody rfl (fun F w x cs h => by simpa only [RepC] using h) (fun F w a => rfl) (fun l => List.length_mergeSort l) (fun b cap zs w h0 hz hc cur hh hs htk => ?_) h2
  have hblt : b < w.heap.size := (Array.getElem?_eq_some_iff.1 hh).1
  refine (calls_of_every_depth fun D => h1 D b 0 cap zs w (holds_of_block hh htk) hblt (by omega)).mono ?_
  rintro e1 w' ⟨rfl, n, os, rfl⟩
  exact ⟨rfl, grownBy_sorted _, ownsRow_sorted (by simp) (Nat.zero_le _) hh hz hc (by simpa using hs)⟩
theorem sortI_ok (hT : TblOK P T) {g : FuncId} {fn : Func} {c0 : Code} {t e : TypeId} {L : List FuncId} (hfn : P.funcs[g]? = some fn) (ht : T.kd t = some (.slice e (.int .i64))) (hname : fn.name ≠ "runtime.NumGoroutine") (hbody : fn.body = some c0)
    (h1 : ∀ (D blk off cap : Nat) (zs : List Int) (w : World), Holds (Value.int .i64) w blk off zs.toArray → blk < w.heap.size → zs.length < 4611686018427387904 →
      CallsIn (Fence.list L (some D)) 66 P g #[.slice (some ⟨blk, off, none⟩) zs.length cap] w fun e w' => e = .returned (.tuple #[]) ∧ ∃ n os, w' = grow (putRow (Value.int .i64) (Sort.ahead w n) blk off (zs.mergeSort fun x y => decide (x ≤ y)).toArray) os)
    (h2 : ∀ (a : Option Addr) (cap : Nat) (w : World), Calls P g #[.slice a 0 cap] w fun x w' => x = .returned (.tuple #[]) ∧ w' = w) : FnOK P T g (sortEnt t e sortI) := by
  refine sort_ok hT (Value.int .i64) D.int D.i (fun zs => zs.mergeSort fun x y => decide (x ≤ y)) hfn ht hname hbody rfl (fun F w x cs h => by simpa only [RepC] using h) (fun F w a => rfl) (fun l => List.length_mergeSort l) (fun b cap zs w h0 hz hc cur hh hs htk => ?_) h2
  have hblt : b < w.heap.size := (Array.getElem?_eq_some_iff.1 hh).1
  refine (calls_of_every_depth fun D => h1 D b 0 cap zs w (holds_of_blockI hh htk) hblt (by omega)).mono ?_
  rintro e1 w' ⟨rfl, n, os, rfl⟩
  exact ⟨rfl, grownBy_sortedI _, ownsRow_sortedI (by simp) (Nat.zero_le _) hh hz hc (by simpa using hs)⟩
end
end Go.Ev
