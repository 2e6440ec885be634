/- The evaluator: operations and calls within a round of a range over a function. -/
import Derived.Test.YtpmkecjkbajcgaaGreatDoorEvReg
import Derived.OrdersIn
import Derived.TacticsIn
import Derived.RangeFuncRecord
namespace Go.Ev
open Go
set_option linter.unusedVariables false
set_option linter.unusedSimpArgs false
/-- No fence but the round that a frame is of. -/
def FW (ro : Option Nat) : Fence := { Fence.wide with round := ro }
theorem roomW (ro : Option Nat) (n : Nat) : (FW ro).room n := fun d h => by cases h
theorem callsW {P : Program} {f : FuncId} {args : Array Value} {w : World} {R : Ending → World → Prop} (ro : Option Nat) (n : Nat) (h : Calls P f args w R) : CallsIn (FW ro) n P f args w R := by
  have h1 := (callsIn_wide (n := n)).2 h
  exact ⟨trivial, fun cs hr => h1.2 cs (room_wide _)⟩
theorem callsW' {P : Program} {f : FuncId} {args : Array Value} {w : World} {R : Ending → World → Prop} {ro : Option Nat} {n : Nat} (h : CallsIn (FW ro) n P f args w R) : Calls P f args w R :=
  h.calls fun k => roomW ro k
theorem rowsW {P : Program} {row : String} {args : Array Value} {w : World} {R : Value → World → Prop} (ro : Option Nat) (n : Nat) (h : Rows P row args w R) : RowsIn (FW ro) n P row args w R := fun c cs _ => by
  obtain ⟨v, w', h1, h2⟩ := h c cs
  exact ⟨v, w', h1, stepsIn_wide.2 h2⟩
theorem opIn {P : Program} {o : Oper} (ro : Option Nat) (hnd : ∀ c, o.op ≠ .defer c) {a : Act} {w : World} {K : Act → World → Prop} {Q : Exit → Act → World → Prop} (h : o.wp P a w K Q) : o.wpIn (FW ro) 0 P a w K Q := by
  unfold Oper.wpIn
  refine ⟨fun _ _ => trivial, ?_⟩
  have e : Oper.semAt (FW ro).round a.eval o = execOp a.eval o := by
    cases ro with
    | none => rfl
    | some l => exact Oper.semAt_some l _ o hnd
  rw [e]
  unfold Oper.wp at h
  generalize (execOp a.eval o).run P w = r at h
  cases r with
  | ok n w' =>
    cases n <;> simp only [Oper.upon] at h <;> try exact h
    · exact ⟨fun h => (by cases h), callsW ro _ h⟩
    · exact ⟨fun h => (by cases h), rowsW ro _ h⟩
  | halt x w' => cases x <;> simp only [Oper.upon] at h <;> exact h
/-! ### A block that holds no cells, and that nobody looks at, turns -/
theorem cells_aux {w : World} {r : Nat} {o : Obj} (h : w.heap[r]? = some o) (hc : ∀ c t z, o ≠ .cells c t z) (k : Nat) : w.cell? ⟨r, k, none⟩ = none := by
  unfold World.cell?
  simp only [h]
  cases o <;> first | rfl | exact absurd rfl (hc _ _ _)
theorem SRel.turnAux {kd : TypeId → Option K} {E : Ent} {U : Nat → Prop} {lks : Nat → Option AV} {hp : HpF} {σ : Nat → Hd} {a : Act} {w : World} (h : SRel kd E U lks hp σ a w) {r : Nat} {o o' : Obj} (hr : E.w0.heap.size ≤ r) (hun : untr hp σ r)
    (ho : w.heap[r]? = some o) (hc : ∀ c t z, o ≠ .cells c t z) (hc' : ∀ c t z, o' ≠ .cells c t z) {a' : Act} (ht : a'.tmps = a.tmps) (hd : ∃ ds, a'.defers = ds ++ E.d0 ∧ Marks (untr hp σ) E.w0.heap.size (w.putObj r o') ds) :
    SRel kd E U lks hp σ a' (w.putObj r o') ∧ CLe (ctx kd E hp σ w) (ctx kd E hp σ (w.putObj r o')) U := by
  have hlt : r < w.heap.size := (Array.getElem?_eq_some_iff.1 ho).1
  have hoth : ∀ b, b ≠ r → (w.putObj r o').heap[b]? = w.heap[b]? := fun b hb => World.putObj_heap_other hb
  have cle : CLe (ctx kd E hp σ w) (ctx kd E hp σ (w.putObj r o')) U := by
    refine ⟨rfl, fun fr b hF hb => ⟨hF, ?_⟩, by show w.heap.size ≤ (w.putObj r o').heap.size; simp, fun _ _ => rfl⟩
    by_cases e : b = r
    · subst e
      intro k
      show (w.putObj b o').cell? _ = w.cell? _
      rw [cells_aux ho hc, cells_aux (World.putObj_heap_same hlt) hc']
    · exact .of (hoth b e)
  refine ⟨⟨fun t av hav => ?_, fun i o1 hi => ?_, h.inj, fun i o1 b hi hb => ?_, ?_, hd⟩, cle⟩
  · obtain ⟨h1, h2⟩ := h.slot t av hav
    rw [ht]
    exact ⟨slot_mono cle h2 h1, h2⟩
  · obtain ⟨h1, h2, h3⟩ := h.obj i o1 hi
    refine ⟨orel_mono cle h3 (fun b hb _ => hoth b fun e => ?_) h1, h2, h3⟩
    subst e
    exact hun i o1 hi hb
  · obtain ⟨h1, h2⟩ := h.trk i o1 b hi hb
    exact ⟨by simpa using h1, h2⟩
  · refine ⟨h.grew.os, h.grew.tape, h.grew.output, by simpa using h.grew.size, fun b hb hn => ?_⟩
    rw [hoth b (by omega)]
    exact h.grew.block b hb hn
theorem Marks.put {un : Nat → Prop} {n0 : Nat} {w : World} {r : Nat} {o' : Obj} : ∀ {ds : List Deferred}, Marks un n0 w ds → (∀ d ∈ ds, d.target ≠ .collected r) → Marks un n0 (w.putObj r o') ds
  | [], _, _ => trivial
  | d :: ds, ⟨⟨q, h1, h2, h3, h4, h5, h6⟩, h7⟩, hr => ⟨⟨q, h1, h2, by simpa using h3, by
      rw [World.putObj_heap_other (fun e => hr d (by simp) (by rw [h1, e]))]
      exact h4, h5, h6⟩, Marks.put h7 fun d' hd' => hr d' (by simp [hd'])⟩
/-- A function's end: the marks are taken over, one after the other. -/
theorem leaves_sr {P : Program} {kd : TypeId → Option K} {E : Ent} {U : Nat → Prop} {lks : Nat → Option AV} {hp : HpF} {σ : Nat → Hd} {fn : Func} {tmps : Array Value} {R : Ending → World → Prop} (h0 : E.d0 = [])
    (hfin : ∀ w', SRel kd E U lks hp σ { tmps := tmps, defers := [] } w' → ∃ v, (results fn tmps).run P w' = .ok v w' ∧ R (.returned v) w') : ∀ (ds : List Deferred) (w : World), SRel kd E U lks hp σ { tmps := tmps, defers := ds } w → LeavesInM (FW none) 0 P fn tmps R ds .returning w
  | [], w, h => hfin w h
  | d :: ds, w, h => by
    obtain ⟨es, h1, h2⟩ := h.defers
    rw [h0, List.append_nil] at h1
    have h1 : d :: ds = es := h1
    subst h1
    obtain ⟨⟨r, hr1, hr2, hr3, hr4, hr5, hr6⟩, hm⟩ := h2
    refine ⟨fun e => (by cases e), .inl ⟨r, w.putObj r (.deferred none), hr1, run_takeDeferred hr4, leaves_sr h0 hfin ds _ ?_⟩⟩
    have := h.turnAux (o' := .deferred none) (a' := { tmps := tmps, defers := ds }) hr2 hr5 hr4 (fun _ _ _ e => by cases e) (fun _ _ _ e => by cases e) rfl ⟨ds, by rw [h0, List.append_nil], hm.put hr6⟩
    exact this.1
end Go.Ev
