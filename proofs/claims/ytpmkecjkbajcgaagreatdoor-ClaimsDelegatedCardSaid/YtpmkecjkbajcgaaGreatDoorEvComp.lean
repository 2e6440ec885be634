/- The evaluator: slices.Compact over a row of ints of one's own (by the shelf's contract). -/
import Derived.Test.YtpmkecjkbajcgaaGreatDoorEvRange
import Derived.Test.YtpmkecjkbajcgaaGreatDoorEvFlat
import Derived.Lib.SlicesCompact
import Derived.Lib.RowBridge
import Derived.Deep.Upon
namespace Go.Ev
open Go
set_option linter.unusedVariables false
set_option linter.unusedSimpArgs false
def compI (xs : List D) : List D := (Lib.compact (xs.map D.int)).map D.i
def compEnt (t e : Nat) : Entry := { n := 1, sh := { sl := [(0, .own t 0)], ob := [(0, .row e true)] }, kept := [], rs := [{ sl := [(0, .own t 0)], ob := [(0, .row e true)] }], f := fun ds => some [.n (compI (D.nth ds 0).list)], tot := some fun ds => [.n (compI (D.nth ds 0).list)] }
section
variable {P : Program} {T : Tbl}
theorem rep_ints {F : Nat → Prop} {w : World} {ik : IntKind} : ∀ {xs : List D} {css : List (List Value)}, All2 (RepC F w (.int ik)) xs css → css.flatten = (xs.map D.int).map (Value.int ik)
  | _, _, .nil => rfl
  | _, _, .cons h t => by
    simp only [RepC] at h
    subst h
    simp [rep_ints t]
theorem ints_rep {F : Nat → Prop} {w : World} {ik : IntKind} : ∀ (zs : List Int), All2 (RepC F w (.int ik)) (zs.map D.i) (zs.map fun z => [Value.int ik z])
  | [] => .nil
  | z :: zs => .cons rfl (ints_rep zs)
theorem flat_one : ∀ (zs : List Int) (ik : IntKind), (zs.map fun z => [Value.int ik z]).flatten = zs.map (Value.int ik)
  | [], _ => rfl
  | z :: zs, ik => by simp [flat_one zs ik]
/-- Cells that are set, seen as a row. -/
theorem setCells_at {b : Nat} {t : TypeId} {fr : Nat × Nat} : ∀ (vs : List Value) (o : Nat) (w : World) (cur : Array Value), w.heap[b]? = some (.cells cur t fr) → o + vs.length ≤ cur.size →
    ∃ cur', (w.setCells b o vs).heap[b]? = some (.cells cur' t fr) ∧ cur'.size = cur.size ∧ cur'.toList = cur.toList.take o ++ vs ++ cur.toList.drop (o + vs.length)
  | [], o, w, cur, h, hl => ⟨cur, h, rfl, by simp⟩
  | v :: vs, o, w, cur, h, hl => by
    simp only [List.length_cons] at hl
    have hlt : b < w.heap.size := (Array.getElem?_eq_some_iff.1 h).1
    have hv : w.heap[b] = .cells cur t fr := (Array.getElem?_eq_some_iff.1 h).2
    have h1 : (w.setCell ⟨b, o, none⟩ v).heap[b]? = some (.cells (cur.setIfInBounds o v) t fr) := by
      unfold World.setCell
      rw [Array.getElem?_eq_getElem (by simpa using hlt), Array.getElem_modify]
      simp [hv]
    obtain ⟨cur', h2, h3, h4⟩ := setCells_at vs (o + 1) _ _ h1 (by simp; omega)
    refine ⟨cur', h2, by simpa using h3, ?_⟩
    rw [h4]
    have hol : o < cur.toList.length := by simp; omega
    have hset : (cur.setIfInBounds o v).toList = cur.toList.set o v := by simp
    rw [hset, List.set_eq_take_append_cons_drop, if_pos hol]
    have e1 : (cur.toList.take o ++ v :: cur.toList.drop (o + 1)).take (o + 1) = cur.toList.take o ++ [v] := by
      rw [List.take_append]
      simp only [List.length_take, Nat.min_eq_left (Nat.le_of_lt hol)]
      rw [show o + 1 - o = 1 by omega, List.take_of_length_le (by simp; omega)]
      rfl
    have e2 : (cur.toList.take o ++ v :: cur.toList.drop (o + 1)).drop (o + 1 + vs.length) = cur.toList.drop (o + (vs.length + 1)) := by
      rw [List.drop_append]
      simp only [List.length_take, Nat.min_eq_left (Nat.le_of_lt hol)]
      rw [List.drop_eq_nil_of_le (by simp; omega), List.nil_append, show o + 1 + vs.length - o = vs.length + 1 by omega, List.drop_succ_cons, List.drop_drop]
      congr 1
      omega
    rw [e1, e2]
    simp
theorem setCells_meta (b : Nat) : ∀ (vs : List Value) (o : Nat) (w : World), (w.setCells b o vs).heap.size = w.heap.size ∧ (w.setCells b o vs).os = w.os ∧ (w.setCells b o vs).tape = w.tape ∧ (w.setCells b o vs).output = w.output
  | [], _, _ => ⟨rfl, rfl, rfl, rfl⟩
  | v :: vs, o, w => by
    obtain ⟨h1, h2, h3, h4⟩ := setCells_meta b vs (o + 1) (w.setCell ⟨b, o, none⟩ v)
    refine ⟨h1.trans ?_, h2, h3, h4⟩
    simp [World.setCell]
theorem comp_ok (hT : TblOK P T) {g : FuncId} {fn : Func} {c0 : Code} {t e : TypeId} (hfn : P.funcs[g]? = some fn) (ht : T.kd t = some (.slice e (.int .i64))) (hname : fn.name ≠ "runtime.NumGoroutine") (hbody : fn.body = some c0)
    (h1 : ∀ (b off n c : Nat) (zs : List Int) (w : World), n ≤ zs.length → n ≤ 9223372036854775807 → n ≤ c → (∀ j, j < zs.length → w.cell? ⟨b, off + j, none⟩ = some (.int .i64 (zs.getD j 0))) → (∀ j, j < n → w.frozen? ⟨b, off + j, none⟩ = false) →
      Calls P g #[.slice (some ⟨b, off, none⟩) n c] w fun e w' => e = .returned (.slice (some ⟨b, off, none⟩) (Lib.compact (zs.take n)).length c) ∧ ∃ q, w' = (w.drewN q).setCells b off ((Lib.compact (zs.take n) ++ List.replicate (n - (Lib.compact (zs.take n)).length) 0).map (Value.int .i64)))
    (h2 : ∀ (a : Option Addr) (cap : Nat) (w : World), Calls P g #[.slice a 0 cap] w fun e w' => e = .returned (.slice a 0 cap) ∧ w' = w) : FnOK P T g (compEnt t e) := by
  have hsm : Shape.small { sl := [(0, SV.own t 0)], ob := [(0, SO.row e true)] } = true := rfl
  refine ⟨hsm, fun s hs => ?_, fun p hp ds => (by cases hp; rfl), fun ds out hout E σ vals w hn hw hs => ?_⟩
  · simp only [compEnt, List.mem_singleton] at hs
    subst hs
    exact hsm
  cases hout
  have hes := slice_elem (hT.ty _ _ ht)
  have hfill : fill (compEnt t e).sh ds = ([(0, .own t 0)], [(0, .row e true (D.nth ds 0).list)]) := rfl
  generalize hxs : (D.nth ds 0).list = xs at hfill ⊢
  rw [hfill] at hs
  obtain ⟨⟨v, hv, hvr⟩, _⟩ := hs.slot 0 (.own t 0) rfl
  obtain ⟨hvs, hvg, _⟩ := own_val hvr
  have hvs : v = (σ 0).v := hvs
  obtain ⟨hor, _, _⟩ := hs.obj 0 (.row e true xs) rfl
  simp only [ORel] at hor
  obtain ⟨hte, k, css, hk, hall, hown⟩ := hor
  have hk : T.kd e = some k := hk
  rw [hes.2] at hk
  cases hk
  have hfl := rep_ints hall
  have hn : vals.size = 1 := hn
  have hvals : vals = #[v] := by
    apply Array.ext
    · simpa using hn
    · intro i hi1 hi2
      have : i = 0 := by simp at hi2; omega
      subst this
      simpa [Array.getElem?_eq_getElem hi1] using hv
  subst hvals
  rw [hvs] at hn ⊢
  have hlen : css.flatten.length = xs.length := by rw [hfl]; simp
  have hd0 := hs.d0
  have hres : fill { sl := [(0, SV.own t 0)], ob := [(0, SO.row e true)] } (datS (compEnt t e).rs [.n (compI xs)]) = ([(0, .own t 0)], [(0, .row e true (compI xs))]) := rfl
  -- the end
  have hend : ∀ (v' : Value) (w' : World), Grew E.w0 w' E.T0 → w'.ownsRow 0 e 1 v' (compI xs).length ((Lib.compact (xs.map D.int)).map (Value.int .i64)) → (∀ b, blk v' = some b → b < w'.heap.size ∧ (E.w0.heap.size ≤ b ∨ E.T0 b)) → (aggV v' = false) → (v'.cells.toList = [v']) → v'.oneCell' = true →
      ∃ s, selS [.n (compI xs)] (compEnt t e).rs 0 = some s ∧ ∃ σ' : Nat → Hd, (∀ i ∈ (compEnt t e).kept, σ' i = σ i) ∧ SRel T.kd E (· < 16) (lk (fill s (datS (compEnt t e).rs [.n (compI xs)])).1) (lk (fill s (datS (compEnt t e).rs [.n (compI xs)])).2) σ' { tmps := #[v'], defers := [] } w' := fun v' w' hg ho hb ha hc h1c => by
    refine ⟨_, rfl, fun _ => ⟨v', e⟩, fun i hi => by simp [compEnt] at hi, ?_⟩
    rw [hres]
    refine ⟨fun q av hq => ?_, fun i o hi => ?_, fun i j oi oj b hi hj hne => ?_, fun i o b hi hbi => hb b hbi, hg, ⟨[], by simp [hd0], trivial⟩⟩
    · rw [lk_cons] at hq
      split at hq
      · rename_i h0
        cases hq
        subst h0
        exact ⟨⟨v', rfl, ⟨⟨hc, h1c, .inl ⟨_, ht⟩⟩, by rw [ha]; rfl⟩⟩, by show (0 : Nat) < 16; omega⟩
      · simp [lk] at hq
    · rw [lk_cons] at hi
      split at hi
      · rename_i h0
        cases hi
        subst h0
        refine ⟨⟨rfl, .int .i64, _, hes.2, ints_rep _, ?_⟩, by show (0 : Nat) < 16; omega, trivial⟩
        rw [flat_one]
        exact ho
      · simp [lk] at hi
    · rw [lk_cons] at hi hj
      split at hi
      · split at hj
        · omega
        · simp [lk] at hj
      · simp [lk] at hi
  have hcomp0 : xs = [] → compI xs = [] := fun h => by subst h; rfl
  subst hw
  rcases hown with ⟨hln, ⟨hv0, hx0⟩ | ⟨b, cap, cur, hv0, _, hh, hnc, hcm, hcur, htk⟩⟩
  · have hv0 : (σ 0).v = .slice none 0 0 := hv0
    have hx : xs = [] := List.length_eq_zero_iff.1 hx0
    rw [hv0]
    refine runs_calls hfn hbody hname ((h2 none 0 E.w0).mono ?_)
    rintro e1 w' ⟨rfl, rfl⟩
    refine ⟨_, rfl, hend _ _ (Grew.refl _ _) ⟨?_, .inl ⟨rfl, ?_⟩⟩ (fun b hb => by simp [blk] at hb) rfl rfl rfl⟩
    · rw [hcomp0 hx, hx]; rfl
    · rw [hcomp0 hx]; rfl
  · have hv0 : (σ 0).v = .slice (some ⟨b, 0, none⟩) xs.length cap := hv0
    have hh : E.w0.heap[b]? = some (.cells cur e (0, 0)) := hh
    rw [hv0]
    have hcap : (K.int .i64).size = 1 := rfl
    simp only [hcap, Nat.mul_one] at hcur htk
    have hcell : ∀ j, j < (xs.map D.int).length → E.w0.cell? ⟨b, 0 + j, none⟩ = some (.int .i64 ((xs.map D.int).getD j 0)) := fun j hj => by
      have hj' : j < xs.length := by simpa using hj
      have h3 : cur.toList[j]? = some (.int .i64 ((xs.map D.int).getD j 0)) := by
        have h4 : (cur.toList.take xs.length)[j]? = cur.toList[j]? := List.getElem?_take_of_lt hj'
        rw [← h4, htk, hfl]
        simp [hj']
      simp only [World.cell?, hh, Nat.zero_add]
      simpa using h3
    have hm := h1 b 0 xs.length cap (xs.map D.int) E.w0 (by simp) (by unfold maxLen at hcm; omega) hnc hcell (fun j hj => by simp [World.frozen?, hh])
    rw [List.take_of_length_le (by simp)] at hm
    refine runs_calls hfn hbody hname (hm.mono ?_)
    rintro e1 w' ⟨rfl, q, rfl⟩
    refine ⟨_, rfl, ?_⟩
    generalize hzs : Lib.compact (xs.map D.int) = zs at hm hend ⊢
    have hzl : zs.length ≤ xs.length := by rw [← hzs]; have := Lib.compact_length_le (xs.map D.int); simpa using this
    have hcl : (compI xs).length = zs.length := by unfold compI; rw [hzs]; simp
    generalize hws : (zs ++ List.replicate (xs.length - zs.length) 0).map (Value.int .i64) = ws
    have hwl : ws.length = xs.length := by rw [← hws]; simp; omega
    obtain ⟨cur', g1, g2, g3⟩ := setCells_at ws 0 (E.w0.drewN q) cur hh (by omega)
    obtain ⟨m1, m2, m3, m4⟩ := setCells_meta b ws 0 (E.w0.drewN q)
    have hblt : b < E.w0.heap.size := (Array.getElem?_eq_some_iff.1 hh).1
    have htrk := hs.trk 0 _ b rfl (by rw [hv0]; rfl)
    refine hend _ _ ⟨m2, m3, m4, by rw [m1]; exact Nat.le_refl _, fun i hi hn => ?_⟩ ⟨by simp [hcl], .inr ⟨b, cap, cur', by rw [hcl], Nat.zero_le _, g1, by omega, hcm, by rw [g2]; simpa using hcur, ?_⟩⟩ (fun b' hb' => ?_) rfl rfl rfl
    · have hne : i ≠ b := fun e0 => by
        subst e0
        rcases htrk.2 with h3 | h3
        · omega
        · exact hn h3
      have := World.heap_setCells_other (E.w0.drewN q) b 0 ws (i := i) hi hne
      exact this
    · rw [g3, hcl]
      simp only [List.take_zero, List.nil_append, Nat.mul_one]
      rw [List.take_append_of_le_length (by omega), ← hws, List.map_append, List.take_append_of_le_length (by simp), List.take_of_length_le (by simp)]
    · simp only [blk, Option.some.injEq] at hb'
      subst hb'
      exact ⟨by rw [m1]; exact hblt, htrk.2⟩
end
end Go.Ev
