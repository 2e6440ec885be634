/- The evaluator: what the printed texts lean on: tables, loops with a bound on their rounds, pieces of code by their place. -/
import Derived.Test.YtpmkecjkbajcgaaGreatDoorEvRow
import Derived.KernelRfl
namespace Go.Ev
open Go
set_option linter.unusedVariables false
set_option linter.unusedSimpArgs false
def ltI (x y : Int) : Bool := decide (x < y)
def leI (x y : Int) : Bool := decide (x ≤ y)
def gtI (x y : Int) : Bool := decide (x > y)
def geI (x y : Int) : Bool := decide (x ≥ y)
def eqI (x y : Int) : Bool := decide (x = y)
/-- A loop of at most so many rounds. -/
def fixN (F : (List D → Option (Nat × List D)) → List D → Option (Nat × List D)) : Nat → List D → Option (Nat × List D)
  | 0, _ => none
  | n + 1, ds => F (fixN F n) ds
/-- A function that calls itself, at most so many calls deep. -/
def fixF (F : (List D → Option (List D)) → List D → Option (List D)) : Nat → List D → Option (List D)
  | 0, _ => none
  | n + 1, ds => F (fixF F n) ds
/-- The piece of code at a place. -/
def sub : Code → List Nat → Code
  | c, [] => c
  | .seq a b, j :: p => match j with | 0 => sub a p | _ => sub b p
  | .cond _ a b, j :: p => match j with | 0 => sub a p | _ => sub b p
  | .block _ b, _ :: p => sub b p
  | .loop b, _ :: p => sub b p
  | .scope b, _ :: p => sub b p
  | .rangeFunc _ _ a b, j :: p => match j with | 0 => sub a p | _ => sub b p
  | c, _ :: _ => c
def entsOf : List (Nat × Entry) → Nat → List Entry
  | [], _ => []
  | (g, e) :: r, h => match Nat.beq g h with | true => e :: entsOf r h | false => entsOf r h
theorem entsOf_mem : ∀ {l : List (Nat × Entry)} {g : Nat} {e : Entry}, e ∈ entsOf l g → (g, e) ∈ l
  | (g', e') :: r, g, e, h => by
    simp only [entsOf] at h
    split at h
    · rename_i hb
      have := beq_to hb
      subst this
      rcases List.mem_cons.1 h with rfl | h
      · exact List.mem_cons_self ..
      · exact List.mem_cons_of_mem _ (entsOf_mem h)
    · exact List.mem_cons_of_mem _ (entsOf_mem h)
  | [], g, e, h => by simp [entsOf] at h
section
variable {P : Program} {T T0 : Tbl}
/-- Several functions. -/
def FAll (P : Program) (T : Tbl) : List (Nat × Entry) → Prop
  | [] => True
  | p :: r => FnOK P T p.1 p.2 ∧ FAll P T r
theorem FAll.get : ∀ {l : List (Nat × Entry)}, FAll P T l → ∀ p ∈ l, FnOK P T p.1 p.2
  | q :: r, h, p, hp => by
    rcases List.mem_cons.1 hp with rfl | hp
    · exact h.1
    · exact h.2.get p hp
  | [], h, p, hp => by simp at hp
theorem FnOK.to (hk : T.kd = T0.kd) {g : Nat} {e : Entry} (h : FnOK P T0 g e) : FnOK P T g e := ⟨h.sh, h.rs, h.tot, by rw [hk]; exact h.run⟩
theorem hes_ok {l : List (Nat × Entry)} (hk : T.kd = T0.kd) (he : T.ents = entsOf l) (h : FAll P T0 l) : ∀ g, ∀ e ∈ T.ents g, FnOK P T g e := fun g e hm => by
  rw [he] at hm
  exact (h.get (g, e) (entsOf_mem hm)).to hk
theorem hT_of (h : TblOK P T0) (h1 : T.kd = T0.kd) (h2 : T.boolT = T0.boolT) (h3 : T.intT = T0.intT) (h4 : T.arr = T0.arr := by rfl) : TblOK P T :=
  ⟨by rw [h1]; exact h.ty, by rw [h1, h2]; exact h.boolT, by rw [h1, h3]; exact h.intT, h.mixed, by rw [h1, h4]; exact h.arr⟩
/-- The cuts of a piece of code. -/
def cutsIn : Code → H → List (Nat × Code)
  | c, .cut j => [(j, c)]
  | .seq a b, .seq x y => cutsIn a x ++ cutsIn b y
  | .cond _ a b, .cond x y => cutsIn a x ++ cutsIn b y
  | .block _ b, .blk x => cutsIn b x
  | _, _ => []
def CutAll (P : Program) (T : Tbl) (nt : Nat) : List (Nat × Code) → Prop
  | [] => True
  | p :: r => (∀ u, T.cuts p.1 = some u → CutOK P T nt p.2 u) ∧ CutAll P T nt r
theorem CutAll.get {nt : Nat} : ∀ {l : List (Nat × Code)}, CutAll P T nt l → ∀ p ∈ l, ∀ u, T.cuts p.1 = some u → CutOK P T nt p.2 u
  | q :: r, h, p, hp => by
    rcases List.mem_cons.1 hp with rfl | hp
    · exact h.1
    · exact h.2.get p hp
  | [], h, p, hp => by simp at hp
theorem cutsOK_of {nt : Nat} : ∀ (c : Code) (h : H), (∀ p ∈ cutsIn c h, ∀ u, T.cuts p.1 = some u → CutOK P T nt p.2 u) → CutsOK P T nt c h := by
  intro c
  have hcut : ∀ (c : Code) (j : Nat), (∀ p ∈ cutsIn c (.cut j), ∀ u, T.cuts p.1 = some u → CutOK P T nt p.2 u) → CutsOK P T nt c (.cut j) := fun c j hc => by
    have e1 : cutsIn c (.cut j) = [(j, c)] := by cases c <;> rfl
    have : CutsOK P T nt c (.cut j) = ∀ u, T.cuts j = some u → CutOK P T nt c u := by cases c <;> rfl
    rw [this]
    exact hc (j, c) (by rw [e1]; simp)
  induction c with
  | seq a b iha ihb =>
    intro h hc
    cases h with
    | cut j => exact hcut _ j hc
    | seq x y => exact ⟨iha x fun p hp => hc p (by simp [cutsIn, hp]), ihb y fun p hp => hc p (by simp [cutsIn, hp])⟩
    | _ => trivial
  | cond o a b iha ihb =>
    intro h hc
    cases h with
    | cut j => exact hcut _ j hc
    | cond x y => exact ⟨iha x fun p hp => hc p (by simp [cutsIn, hp]), ihb y fun p hp => hc p (by simp [cutsIn, hp])⟩
    | _ => trivial
  | block i b ihb =>
    intro h hc
    cases h with
    | cut j => exact hcut _ j hc
    | blk x => exact ihb x fun p hp => hc p (by simpa [cutsIn] using hp)
    | _ => trivial
  | _ =>
    intro h hc
    cases h with
    | cut j => exact hcut _ j hc
    | _ => trivial
theorem cutsOK_list {nt : Nat} {c : Code} {h : H} {l : List (Nat × Code)} (hl : cutsIn c h = l) (ha : CutAll P T nt l) : CutsOK P T nt c h :=
  cutsOK_of c h (by rw [hl]; exact ha.get)
theorem cutsOK_none {nt : Nat} {c : Code} {h : H} (hl : cutsIn c h = []) : CutsOK P T nt c h := cutsOK_list hl trivial
theorem cut_one {nt : Nat} {c : Code} {j : Nat} {u : Cut} (hu : T.cuts j = some u) (h : CutOK P T nt c u) : ∀ u', T.cuts j = some u' → CutOK P T nt c u' := fun u' hu' => by
  rw [hu] at hu'
  cases hu'
  exact h
theorem cut_no {nt : Nat} {c : Code} {j : Nat} (hu : T.cuts j = none) : ∀ u', T.cuts j = some u' → CutOK P T nt c u' := fun u' hu' => by rw [hu] at hu'; cases hu'
theorem loop_thm (hT : TblOK P T) (hE : ∀ g, ∀ e ∈ T.ents g, FnOK P T g e) {nt : Nat} {c body : Code} {h : H} {u : Cut} {F : (List D → Option (Nat × List D)) → List D → Option (Nat × List D)} {K : Nat} (hb : c = .loop body) (hsh : u.sh.small = true) (houts : u.outs.all (fun p => p.2.small) = true)
    (hk : u.kept.all (fun i => Nat.blt i 16) = true) (hc : CutsOK P T nt body h) (hf : u.f = fun ds => fixN F K ds) (heq : ∀ rec ds, evLoop T nt body h u rec ds = F rec ds) (hso : (u.solo || noSolo T.cuts h) = true := by rfl) : CutOK P T nt c u := by
  subst hb
  exact loop_ok hT hE hsh (fun p hp => by simpa using List.all_eq_true.1 houts p hp) (fun i hi => by have := List.all_eq_true.1 hk i hi; simpa [Nat.blt, Nat.lt_iff_add_one_le] using this) hc (by simpa using hso) (fixN F) (fun _ => rfl) (fun k ds out ho => by rw [heq]; exact ho) K hf
theorem piece_thm (hT : TblOK P T) (hE : ∀ g, ∀ e ∈ T.ents g, FnOK P T g e) {nt : Nat} {c : Code} {h : H} {u : Cut} (hsh : u.sh.small = true) (houts : u.outs.all (fun p => p.2.small) = true)
    (hk : u.kept.all (fun i => Nat.blt i 16) = true) (hc : CutsOK P T nt c h) (heq : ∀ ds, evPiece T nt c h u ds = u.f ds) (hso : (u.solo || noSolo T.cuts h) = true := by rfl) : CutOK P T nt c u :=
  piece_ok hT hE hsh (fun p hp => by simpa using List.all_eq_true.1 houts p hp) (fun i hi => by have := List.all_eq_true.1 hk i hi; simpa [Nat.blt, Nat.lt_iff_add_one_le] using this) hc (by simpa using hso) (fun ds out ho => by rw [heq]; exact ho)
theorem tot_none {e : Entry} (h : e.tot = none) : ∀ p, e.tot = some p → ∀ ds, e.f ds = some (p ds) := fun p hp => by rw [h] at hp; cases hp
theorem tot_some {e : Entry} {q : List D → List D} (h : e.tot = some q) (hf : ∀ ds, e.f ds = some (q ds)) : ∀ p, e.tot = some p → ∀ ds, e.f ds = some (p ds) := fun p hp => by rw [h] at hp; cases hp; exact hf
theorem fn_thm (hk0 : T.kd = T0.kd) (hT : TblOK P T) (hE : ∀ g, ∀ e ∈ T.ents g, FnOK P T g e) {g : Nat} {fn : Func} {h : H} {e : Entry} (hfn : P.funcs[g]? = some fn) (hname : fn.name ≠ "runtime.NumGoroutine") (hbody : fn.body = some (codeOf fn)) (hn : e.n ≤ fn.ntmps)
    (hsh : e.sh.small = true) (hrs : e.rs.all (fun s => s.small) = true) (hk : e.kept.all (fun i => Nat.blt i 16) = true) (htot : ∀ p, e.tot = some p → ∀ ds, e.f ds = some (p ds)) (hc : CutsOK P T fn.ntmps (codeOf fn) h)
    (heq : ∀ ds, evFn T fn h e ds = e.f ds) : FnOK P T0 g e :=
  FnOK.to (T := T0) (T0 := T) hk0.symm (fn_ok hT hE hfn hname hbody hn hsh (fun s hs => by simpa using List.all_eq_true.1 hrs s hs) (fun i hi => by have := List.all_eq_true.1 hk i hi; simpa [Nat.blt, Nat.lt_iff_add_one_le] using this) htot hc (fun ds out ho => by rw [heq]; exact ho))
theorem rec0 {g : FuncId} {e : Entry} (hsh : e.sh.small = true) (hrs : e.rs.all (fun s => s.small) = true) (htot : e.tot = none) (h0 : ∀ ds, e.f ds = none) : FnOK P T g e :=
  ⟨hsh, fun s hs => by simpa using List.all_eq_true.1 hrs s hs, tot_none htot, fun ds out ho => by rw [h0] at ho; cases ho⟩
/-! ### Tables of types -/
def isArr : Option TypeDesc → Bool
  | some (.array _ _) => true
  | _ => false
theorem isArr_iff (d : Option TypeDesc) : isArr d = true ↔ ∃ n e, d = some (.array n e) := by
  cases d with
  | none => simp [isArr]
  | some d => cases d <;> simp [isArr]
theorem arrs_ok {l : List (Nat × K)} {m : List Nat} (h : l.all (fun p => memN m p.1 == isArr (P.underlying p.1)) = true) : ∀ t k, lk l t = some k → (memN m t = true ↔ ∃ n e, P.underlying t = some (.array n e)) := fun t k ht => by
  have := List.all_eq_true.1 h (t, k) (lk_mem ht)
  simp only [beq_iff_eq] at this
  rw [this]
  exact isArr_iff _
def AllTy (P : Program) (kd : TypeId → Option K) : List (Nat × K) → Prop
  | [] => True
  | p :: r => TyOK P kd p.1 p.2 ∧ AllTy P kd r
theorem AllTy.get {kd : TypeId → Option K} : ∀ {l : List (Nat × K)}, AllTy P kd l → ∀ t k, lk l t = some k → TyOK P kd t k
  | (t0, k0) :: r, h, t, k, hl => by
    rw [lk_cons] at hl
    split at hl
    · rename_i e
      cases hl
      subst e
      exact h.1
    · exact h.2.get t k hl
  | [], h, t, k, hl => by simp [lk] at hl
theorem tyOK {kd : TypeId → Option K} {t : TypeId} {k : K} {d : TypeDesc} {z : Value} {n : Nat} (hi : (P.info? t).map (fun i => (i.zero, i.size, Nat.ble i.bytes 2048)) = some (some z, n, true)) (hn : n = k.size) (hz : ZeroC k z.cells.toList) (hg : aggV z = k.agg)
    (hd : P.underlying t = some d) (hk : DescOK kd d k) (heq : k.cmp = true → k.agg = true → P.stoodInHeld t = false ∧ P.eqGuardType P.depth t = false) : TyOK P kd t k := by
  refine ⟨?_, ⟨d, hd, hk⟩, heq⟩
  cases h : P.info? t with
  | none => rw [h] at hi; cases hi
  | some i =>
    rw [h] at hi
    simp only [Option.map_some, Option.some.injEq, Prod.mk.injEq] at hi
    exact ⟨i, z, rfl, hi.2.1.trans hn, hi.1, hz, hg, Nat.le_of_ble_eq_true hi.2.2⟩
end
end Go.Ev
