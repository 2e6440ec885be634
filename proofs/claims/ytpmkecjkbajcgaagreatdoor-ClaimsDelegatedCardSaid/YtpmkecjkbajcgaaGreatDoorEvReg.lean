/- The evaluator: regions. -/
import Derived.Test.YtpmkecjkbajcgaaGreatDoorEvCall
namespace Go.Ev
open Go
set_option linter.unusedVariables false
set_option linter.unusedSimpArgs false
section
variable {P : Program} {T : Tbl} {R : Type}

/-! ### 1. What an evaluation of a region's operations says, one operation after the other -/
structure Rec where
  o : Oper
  perf : Bool
  av : AV
  u : Upd
  seen : List Nat
def Rec.log (r : Rec) : Log := { seen := r.seen, wrote := r.u.map (·.1) }
def srcP (base : Nat → Option AV) (r : Rec) : Nat → Option AV := fun t => if r.o.dst = some t then some r.av else base t
def Wants (ops : Array Oper) (T : Tbl) (base : Nat → Option AV) (r : Rec) : Prop :=
  ∀ (C : Ctx) (a : Act) (U : Nat → Prop), C.kd = T.kd → Opn C a U base (mentions ops.toList r.o) → Region.wanted r.o (yielded ops a.tmps) = r.perf
structure RecOK (P : Program) (T : Tbl) (ops : Array Oper) (nt : Nat) (base : Nat → Option AV) (hp : HpF) (nid : Nat) (r : Rec) : Prop where
  want : Wants ops T base r
  run : r.perf = true → OpSound P T r.o base hp nid r.av r.u r.seen
  skip : r.perf = false → r.av = .undef ∧ r.u = []
  dst : ∀ d, r.o.dst = some d → d < nt
  nd : r.perf = true → ∀ c, r.o.op ≠ .defer c
def RecsOK (P : Program) (T : Tbl) (ops : Array Oper) (nt : Nat) : (Nat → Option AV) → HpF → Nat → List Rec → Prop
  | _, _, _, [] => True
  | base, hp, nid, r :: rs => RecOK P T ops nt base hp nid r ∧ RecsOK P T ops nt (srcP base r) (updF hp r.u) (nid + 16) rs
def srcs : (Nat → Option AV) → List Rec → Nat → Option AV
  | base, [] => base
  | base, r :: rs => srcs (srcP base r) rs
def hpAll : HpF → List Rec → HpF
  | hp, [] => hp
  | hp, r :: rs => hpAll (updF hp r.u) rs
/-- The second says no more than the first. -/
def Refn (T : Tbl) (av0 av : AV) : Prop := ∀ (C : Ctx) (tmps : Array Value) (t : Nat) (U : Nat → Prop), C.kd = T.kd → SlotRel C tmps t av0 ∧ av0.In U → SlotRel C tmps t av ∧ av.In U
theorem Refn.refl (av : AV) : Refn T av av := fun _ _ _ _ _ h => h
theorem Refn.trans {a b c : AV} (h : Refn T a b) (h' : Refn T b c) : Refn T a c := fun C tmps t U hC hx => h' C tmps t U hC (h C tmps t U hC hx)
def Ref (T : Tbl) (base lks : Nat → Option AV) : Prop := ∀ t av, lks t = some av → ∃ av0, base t = some av0 ∧ Refn T av0 av
theorem Ref.opn {base lks : Nat → Option AV} (h : Ref T base lks) {C : Ctx} (hC : C.kd = T.kd) {a : Act} {U : Nat → Prop} {ts : List Nat} (ho : Opn C a U base ts) : Opn C a U lks ts := fun t ht av hav => by
  obtain ⟨av0, h1, h2⟩ := h t av hav
  exact h2 C a.tmps t U hC (ho t ht av0 h1)
theorem OpSound.ref {o : Oper} {base lks : Nat → Option AV} {hp : HpF} {nid : Nat} {av : AV} {u : Upd} {seen : List Nat} (h : OpSound P T o lks hp nid av u seen) (hr : Ref T base lks) : OpSound P T o base hp nid av u seen :=
  fun E U lkf hpf σ a w K Q hs ho hseen hfr hK => h E U lkf hpf σ a w K Q hs (hr.opn rfl ho) hseen hfr hK
theorem Opn.sub {C : Ctx} {a : Act} {U : Nat → Prop} {lks : Nat → Option AV} {ts ts' : List Nat} (h : Opn C a U lks ts) (hs : ∀ t ∈ ts', t ∈ ts) : Opn C a U lks ts' := fun t ht => h t (hs t ht)
/-! ### 2. Slots, as a list -/
theorem lk_none {α : Type} : ∀ {l : List (Nat × α)} {t : Nat}, (∀ x, (t, x) ∉ l) → lk l t = none
  | [], t, _ => rfl
  | (s, a) :: l, t, h => by
    rw [lk_cons]
    have hne : s ≠ t := by rintro rfl; exact h a (by simp)
    rw [if_neg hne]
    exact lk_none fun x hx => h x (by simp [hx])
theorem forget_mem : ∀ {sl : Slots} {d t : Nat} {a : AV}, (t, a) ∈ forget d sl → (t, a) ∈ sl ∧ t ≠ d ∧ ∀ b c v, a ≠ .w d b c v
  | [], d, t, a, h => by simp [forget] at h
  | (s, x) :: l, d, t, a, h => by
    simp only [forget] at h
    split at h
    · obtain ⟨h1, h2⟩ := forget_mem h
      exact ⟨by simp [h1], h2⟩
    · rename_i hb
      have hne : s ≠ d := fun e => by
        have : Nat.beq d s = true := by rw [Nat.beq_eq]; exact e.symm
        rw [this] at hb; cases hb
      split at h
      · rename_i s' b' c' v'
        split at h
        · obtain ⟨h1, h2⟩ := forget_mem h
          exact ⟨by simp [h1], h2⟩
        · rename_i hb2
          rcases List.mem_cons.1 h with h | h
          · cases h
            refine ⟨by simp, hne, fun b c v e => ?_⟩
            cases e
            have : Nat.beq d d = true := by rw [Nat.beq_eq]
            rw [this] at hb2; cases hb2
          · obtain ⟨h1, h2⟩ := forget_mem h
            exact ⟨by simp [h1], h2⟩
      · rename_i hnw
        rcases List.mem_cons.1 h with h | h
        · cases h
          exact ⟨by simp, hne, fun b c v e => hnw _ _ _ _ e⟩
        · obtain ⟨h1, h2⟩ := forget_mem h
          exact ⟨by simp [h1], h2⟩
theorem nodupK_iff {α : Type} {i : Nat} {x : α} {l : List (Nat × α)} : nodupK ((i, x) :: l) = true ↔ (∀ y, (i, y) ∉ l) ∧ nodupK l = true := by
  simp only [nodupK, Bool.and_eq_true, List.all_eq_true]
  refine and_congr_left fun _ => ⟨fun h y hy => ?_, fun h p hp => ?_⟩
  · have := h _ hy
    have e : Nat.beq i i = true := by rw [Nat.beq_eq]
    simp [e] at this
  · obtain ⟨j, y⟩ := p
    cases hb : Nat.beq j i with
    | false => rfl
    | true => rw [beq_to hb] at hp; exact absurd hp (h y)
theorem forget_nodup : ∀ {sl : Slots} {d : Nat}, nodupK sl = true → nodupK (forget d sl) = true
  | [], d, h => rfl
  | (s, x) :: l, d, h => by
    rw [nodupK_iff] at h
    have h1 := forget_nodup (d := d) h.2
    have h2 : nodupK ((s, x) :: forget d l) = true := nodupK_iff.2 ⟨fun y hy => h.1 y (forget_mem hy).1, h1⟩
    simp only [forget]
    split
    · exact h1
    · split
      · split
        · exact h1
        · exact h2
      · exact h2
theorem putS_nodup {sl : Slots} {d : Option Nat} {a : AV} (h : nodupK sl = true) : nodupK (putS sl d a) = true := by
  cases d with
  | none => exact h
  | some d => exact nodupK_iff.2 ⟨fun y hy => (forget_mem hy).2.1 rfl, forget_nodup h⟩
theorem lk_putS {sl : Slots} (hn : nodupK sl = true) {d : Option Nat} {a x : AV} {t : Nat} (h : lk (putS sl d a) t = some x) : (d = some t ∧ x = a) ∨ (d ≠ some t ∧ lk sl t = some x ∧ ∀ s, d = some s → ∀ b c v, x ≠ .w s b c v) := by
  cases d with
  | none => exact .inr ⟨by simp, h, by simp⟩
  | some d =>
    simp only [putS] at h
    rw [lk_cons] at h
    split at h
    · rename_i e; cases h; exact .inl ⟨by rw [e], rfl⟩
    · rename_i e
      obtain ⟨h1, h2, h3⟩ := forget_mem (lk_mem h)
      exact .inr ⟨by simp only [ne_eq, Option.some.injEq]; exact e, nodup_lk hn h1, fun s hs b c v => by cases hs; exact h3 b c v⟩
theorem ref_put {base : Nat → Option AV} {sl : Slots} (hn : nodupK sl = true) (hr : Ref T base (lk sl)) {r : Rec} {a : AV} (ha : Refn T r.av a) : Ref T (srcP base r) (lk (putS sl r.o.dst a)) := fun t x hx => by
  rcases lk_putS hn hx with ⟨hd, rfl⟩ | ⟨hd, h, _⟩
  · exact ⟨r.av, by simp [srcP, hd], ha⟩
  · obtain ⟨av0, h1, h2⟩ := hr t x h
    exact ⟨av0, by simp [srcP, hd, h1], h2⟩
theorem WFl.out {lks : Nat → Option AV} (hW : WFl T lks) {t s : Nat} {b c : Bool} {v : AV} (h : lks t = some (.w s b c v)) {p : Bool} (hp : pcD T (lks s) b = some p) : c = p := by
  rcases (hW t s b c v h).2 with h1 | h1
  · rw [h1] at hp; simp [pcD] at hp
  · rw [h1] at hp; cases hp; rfl
theorem wfl_put {sl : Slots} (hn : nodupK sl = true) (hW : WFl T (lk sl)) {d : Option Nat} {a : AV} (ha : ∀ s b c v, a = .w s b c v → isW v = false ∧ d ≠ some s ∧ pcD T (lk sl s) b = some c) : WFl T (lk (putS sl d a)) := fun t s b c v ht => by
  have hs : d ≠ some s → lk (putS sl d a) s = none ∨ lk (putS sl d a) s = lk sl s := fun hd => by
    cases hl : lk (putS sl d a) s with
    | none => exact .inl rfl
    | some x =>
      rcases lk_putS hn hl with ⟨hd', _⟩ | ⟨_, h, _⟩
      · exact absurd hd' hd
      · exact .inr h.symm
  rcases lk_putS hn ht with ⟨hd, rfl⟩ | ⟨hd, h, h'⟩
  · obtain ⟨h0, h1, h2⟩ := ha s b c v rfl
    refine ⟨h0, (hs h1).imp id fun e => by rw [e]; exact h2⟩
  · have hds : d ≠ some s := fun e => h' s e b c v rfl
    obtain ⟨h0, h1⟩ := hW t s b c v h
    refine ⟨h0, ?_⟩
    rcases hs hds with h2 | h2
    · exact .inl h2
    · rw [h2]; exact h1
/-! ### 3. A guard -/
theorem seenUnder_some {s : Nat} {b : Bool} {lks : Nat → Option AV} {t : Nat} {av : AV} (h : seenUnder s b lks t = some av) : lks t = some av ∨ ∃ c, lks t = some (.w s b c av) := by
  unfold seenUnder at h
  split at h
  · rename_i s' b' c v hl
    split at h
    · rename_i hc
      cases h
      simp only [Bool.and_eq_true, Nat.beq_eq, beq_iff_eq] at hc
      obtain ⟨rfl, rfl⟩ := hc
      exact .inr ⟨c, hl⟩
    · cases h; exact .inl hl
  · exact .inl h
theorem pcOf_pcD {lks : Nat → Option AV} {s : Nat} {b c : Bool} (h : pcOf T lks s b = some c) : pcD T (lks s) b = some c := by
  unfold pcOf at h
  split at h
  · rename_i t fr x hl
    split at h
    · rename_i hk; cases h; simp [pcD, hl, hk]
    · cases h
  · rename_i s' b' c' t fr x hl
    split at h
    · rename_i hk; cases h; simp [pcD, hl, hk]
    · cases h
  · cases h
/-- What a guard's slot says of the machine's. -/
theorem guard_val {C : Ctx} (hC : C.kd = T.kd) {tmps : Array Value} {s : Nat} {av : AV} {b c : Bool} (hpc : pcD T (some av) b = some c) (h : SlotRel C tmps s av) : (tmps[s]? = some (.bool b)) ↔ c = true := by
  cases av with
  | d t fr x =>
    simp only [pcD] at hpc
    split at hpc
    · rename_i hk
      cases hpc
      obtain ⟨v, hv, hr⟩ := h
      have := rep_bool (by rw [hC]; exact hk) hr
      rw [hv, this, eqb_iff]
      simp
    · cases hpc
  | w s' b' c' v =>
    cases v <;> simp only [pcD] at hpc <;> try cases hpc
    · cases hc' : c' with
      | false =>
        have := h.2 hc'
        rw [this]
        simp [undef]
      | true =>
        obtain ⟨v, hv, hr⟩ := h.1 hc'
        have := cells_one hr.1 hr.2
        rw [hv, this]
        simp [undef]
    split at hpc
    · rename_i hk
      cases hpc
      cases hc' : c' with
      | false =>
        have := h.2 hc'
        rw [this]
        simp [undef]
      | true =>
        obtain ⟨v, hv, hr⟩ := h.1 hc'
        have := rep_bool (by rw [hC]; exact hk) hr
        rw [hv, this, Bool.true_and, eqb_iff]
        simp
    · cases hpc
  | undef =>
    simp only [pcD, Option.some.injEq] at hpc
    subst hpc
    obtain ⟨v, hv, hr⟩ := h
    have := cells_one hr.1 hr.2
    rw [hv, this]
    simp [undef]
  | _ => simp [pcD] at hpc
theorem refn_seen {s : Nat} {b : Bool} {base lks : Nat → Option AV} (hW : WFl T lks) (hpc : pcD T (lks s) b = some true) (hr : Ref T base lks) : Ref T base (seenUnder s b lks) := fun t av ht => by
  rcases seenUnder_some ht with h | ⟨c, h⟩
  · exact hr t av h
  · obtain ⟨av0, h1, h2⟩ := hr t _ h
    refine ⟨av0, h1, h2.trans fun C tmps q U hC hx => ?_⟩
    have hc : c = true := hW.out h hpc
    obtain ⟨v, hv, hvr⟩ := hx.1.1 hc
    exact ⟨slot_of_val (not_w hvr) ⟨v, hv, hvr⟩, hx.2 hc⟩
theorem wfl_seen {s : Nat} {b : Bool} {lks : Nat → Option AV} (hW : WFl T lks) (hpc : pcD T (lks s) b = some true) : WFl T (seenUnder s b lks) := fun t s' b' c v ht => by
  rcases seenUnder_some ht with h1 | ⟨c0, h1⟩
  · obtain ⟨h0, h2⟩ := hW t s' b' c v h1
    refine ⟨h0, ?_⟩
    unfold seenUnder
    split
    · rename_i s2 b2 c2 v2 hl
      split
      · rename_i hc
        simp only [Bool.and_eq_true, Nat.beq_eq, beq_iff_eq] at hc
        obtain ⟨rfl, rfl⟩ := hc
        have hc2 : c2 = true := hW.out hl hpc
        subst hc2
        rw [hl] at h2
        have h2 := h2.resolve_left (by simp)
        right
        cases v2 <;> simp only [pcD] at h2 ⊢ <;> first | exact h2 | (cases h2; done) | simpa using h2
      · rw [hl] at h2; exact h2
    · exact h2
  · have := (hW t s b c0 _ h1).1
    simp [isW] at this
def resA (T : Tbl) (s : Nat) (b : Bool) (t : Nat) (a : AV) : AV :=
  if s = t then .d T.boolT true (.b b) else match a with
    | .w s' b' c v => if s = s' then (if b = b' then v else .undef) else .w s' b' c v
    | a => a
theorem lk_resolve (s : Nat) (b : Bool) : ∀ (sl : Slots) (t : Nat), lk (resolve T s b sl) t = (lk sl t).map (resA T s b t)
  | [], t => rfl
  | (t0, a) :: l, t => by
    have ih := lk_resolve s b l t
    have beq : ∀ {x y : Nat}, Nat.beq x y = true ↔ x = y := fun {x y} => by rw [Nat.beq_eq]
    have beqf : ∀ {x y : Nat}, Nat.beq x y = false → x ≠ y := fun {x y} h e => by rw [beq.2 e] at h; cases h
    simp only [resolve]
    split
    · rename_i hb
      have := beq.1 hb
      subst this
      rw [lk_cons, lk_cons]
      split
      · rename_i e; subst e; simp [resA]
      · exact ih
    · rename_i hb
      have hne := beqf hb
      split
      · rename_i s' b' c v
        split
        · rename_i hb2
          have := beq.1 hb2
          subst this
          split
          · rename_i hbb
            have hbb : b = b' := by simpa using hbb
            subst hbb
            rw [lk_cons, lk_cons]
            split
            · rename_i e; subst e; simp [resA, hne]
            · exact ih
          · rename_i hbb
            have hbb : b ≠ b' := by simpa using hbb
            rw [lk_cons, lk_cons]
            split
            · rename_i e; subst e; simp [resA, hne, hbb]
            · exact ih
        · rename_i hb2
          have hne2 := beqf hb2
          rw [lk_cons, lk_cons]
          split
          · rename_i e; subst e; simp [resA, hne, hne2]
          · exact ih
      · rename_i hnw
        rw [lk_cons, lk_cons]
        split
        · rename_i e
          subst e
          simp only [Option.map_some, resA, hne, if_false]
        · exact ih
theorem resolve_keys (s : Nat) (b : Bool) : ∀ (sl : Slots), (resolve T s b sl).map (·.1) = sl.map (·.1)
  | [] => rfl
  | (t0, a) :: l => by
    have ih := resolve_keys s b l
    simp only [resolve]
    split
    · rename_i hb; rw [← beq_to hb]; simp [ih]
    · split
      · split
        · split <;> simp [ih]
        · simp [ih]
      · simp [ih]
theorem nodup_keys {α β : Type} : ∀ {l : List (Nat × α)} {m : List (Nat × β)}, l.map (·.1) = m.map (·.1) → nodupK l = nodupK m
  | [], [], _ => rfl
  | (i, x) :: l, (j, y) :: m, h => by
    simp only [List.map_cons, List.cons.injEq] at h
    obtain ⟨rfl, h⟩ := h
    have ih := nodup_keys h
    simp only [nodupK, ih]
    congr 1
    have e1 : (l.all fun p => !Nat.beq p.1 i) = (l.map (·.1)).all fun k => !Nat.beq k i := by rw [List.all_map]; rfl
    have e2 : (m.all fun p => !Nat.beq p.1 i) = (m.map (·.1)).all fun k => !Nat.beq k i := by rw [List.all_map]; rfl
    rw [e1, e2, h]
  | [], _ :: _, h => by simp at h
  | _ :: _, [], h => by simp at h
theorem resolve_nodup {s : Nat} {b : Bool} {sl : Slots} (h : nodupK sl = true) : nodupK (resolve T s b sl) = true := by rw [nodup_keys (resolve_keys s b sl)]; exact h
theorem ref_resolve (hT : TblOK P T) {base : Nat → Option AV} {sl : Slots} {s : Nat} {ts : TypeId} {f : Bool} {x : D} {b : Bool} (hW : WFl T (lk sl)) (hs : lk sl s = some (.d ts f x)) (hk : T.kd ts = some .bool) (hx : x.bool = b) (hr : Ref T base (lk sl)) : Ref T base (lk (resolve T s b sl)) := fun t av ht => by
  rw [lk_resolve] at ht
  cases hl : lk sl t with
  | none => simp [hl] at ht
  | some a =>
    simp only [hl, Option.map_some, Option.some.injEq] at ht
    obtain ⟨av0, h1, h2⟩ := hr t a hl
    refine ⟨av0, h1, h2.trans ?_⟩
    subst ht
    unfold resA
    split
    · rename_i e
      subst e
      rw [hs] at hl
      cases hl
      intro C tmps q U hC hh
      obtain ⟨⟨v, hv, hvr⟩, _⟩ := hh
      have := rep_bool (by rw [hC]; exact hk) hvr
      subst this
      refine ⟨⟨_, hv, ?_⟩, trivial⟩
      rw [hx]
      exact mk_bool (x := .b b) (by rw [hC]; exact hT.boolT)
    · split
      · rename_i s' b' c v
        split
        · rename_i e
          subst e
          have hc := hW.out hl (p := eqb x.bool b') (by simp only [pcD, hs, hk])
          split
          · rename_i e2
            subst e2
            have hc : c = true := by rw [hc, hx]; exact eqb_iff.2 rfl
            intro C tmps q U hC hh
            obtain ⟨v', hv, hvr⟩ := hh.1.1 hc
            exact ⟨slot_of_val (not_w hvr) ⟨v', hv, hvr⟩, hh.2 hc⟩
          · rename_i e2
            have hc : c = false := by
              rw [hc, hx]
              cases hq : eqb b b' with
              | false => rfl
              | true => exact absurd (eqb_iff.1 hq) e2
            intro C tmps q U hC hh
            exact ⟨⟨undef, hh.1.2 hc, undef_rel⟩, trivial⟩
        · exact Refn.refl _
      · exact Refn.refl _
theorem wfl_resolve {sl : Slots} {s : Nat} {ts : TypeId} {f : Bool} {x : D} {b : Bool} (hW : WFl T (lk sl)) (hs : lk sl s = some (.d ts f x)) (hk : T.kd ts = some .bool) (hx : x.bool = b) : WFl T (lk (resolve T s b sl)) := fun t s1 b1 c1 v1 ht => by
  rw [lk_resolve] at ht
  cases hl : lk sl t with
  | none => simp [hl] at ht
  | some a =>
    simp only [hl, Option.map_some, Option.some.injEq] at ht
    unfold resA at ht
    split at ht
    · cases ht
    · split at ht
      · rename_i s' b' c v
        split at ht
        · rename_i e
          subst e
          have := (hW t s b' c v hl).1
          split at ht
          · subst ht; simp [isW] at this
          · cases ht
        · rename_i hne
          cases ht
          obtain ⟨h0, h1⟩ := hW t s1 b1 c1 v1 hl
          refine ⟨h0, ?_⟩
          rw [lk_resolve]
          cases hl1 : lk sl s1 with
          | none => exact .inl rfl
          | some a1 =>
            rw [hl1] at h1
            have h1 := h1.resolve_left (by simp)
            right
            simp only [Option.map_some, resA, if_neg hne]
            split
            · rename_i s2 b2 c2 v2 h1o
              split
              · rename_i e
                subst e
                have hc := hW.out hl1 (p := eqb x.bool b2) (by simp only [pcD, hs, hk])
                split
                · rename_i e2
                  subst e2
                  have hc : c2 = true := by rw [hc, hx]; exact eqb_iff.2 rfl
                  subst hc
                  cases v2 <;> simp only [pcD] at h1 ⊢ <;> first | exact h1 | (cases h1; done) | simpa using h1
                · rename_i e2
                  have hc : c2 = false := by
                    rw [hc, hx]
                    cases hq : eqb b b2 with
                    | false => rfl
                    | true => exact absurd (eqb_iff.1 hq) e2
                  subst hc
                  cases v2 <;> simp only [pcD] at h1 ⊢ <;> first | exact h1 | (cases h1; done) | (split at h1 <;> first | (cases h1; done) | simpa using h1)
              · exact h1
            · exact h1
      · rename_i hnw
        subst ht
        exact absurd rfl (hnw _ _ _ _)
theorem pcD_resolve {sl : Slots} {s : Nat} {ts : TypeId} {f : Bool} {x : D} {b : Bool} (hT : TblOK P T) (hW : WFl T (lk sl)) (hs : lk sl s = some (.d ts f x)) (hk : T.kd ts = some .bool) (hx : x.bool = b) (t : Nat) (q p : Bool) (h : pcD T (lk sl t) q = some p) : pcD T (lk (resolve T s b sl) t) q = some p := by
  rw [lk_resolve]
  cases hl : lk sl t with
  | none => rw [hl] at h; simp [pcD] at h
  | some a =>
    rw [hl] at h
    simp only [Option.map_some, resA]
    split
    · rename_i e
      subst e
      rw [hs] at hl
      cases hl
      simp only [pcD, hk, Option.some.injEq] at h
      simp only [pcD, hT.boolT]
      rw [← h, hx]
      rfl
    · split
      · rename_i s2 b2 c2 v2
        split
        · rename_i e
          subst e
          have hc := hW.out hl (p := eqb x.bool b2) (by simp only [pcD, hs, hk])
          split
          · rename_i e2
            subst e2
            have hc : c2 = true := by rw [hc, hx]; exact eqb_iff.2 rfl
            subst hc
            cases v2 <;> simp only [pcD] at h ⊢ <;> first | exact h | (cases h; done) | simpa using h
          · rename_i e2
            have hc : c2 = false := by
              rw [hc, hx]
              cases hq : eqb b b2 with
              | false => rfl
              | true => exact absurd (eqb_iff.1 hq) e2
            subst hc
            cases v2 <;> simp only [pcD] at h ⊢ <;> first | exact h | (cases h; done) | (split at h <;> first | (cases h; done) | simpa using h)
        · exact h
      · exact h
/-- What is known of a guard. -/
def GK (T : Tbl) (base : Nat → Option AV) (s : Nat) (b p : Bool) : Prop := ∃ av0 av, base s = some av0 ∧ Refn T av0 av ∧ pcD T (some av) b = some p
theorem GK.val {base : Nat → Option AV} {s : Nat} {b p : Bool} (h : GK T base s b p) {C : Ctx} (hC : C.kd = T.kd) {a : Act} {U : Nat → Prop} {ts : List Nat} (ho : Opn C a U base ts) (hs : s ∈ ts) : a.tmps[s]? = some (.bool b) ↔ p = true := by
  obtain ⟨av0, av, h1, h2, h3⟩ := h
  exact guard_val hC h3 (h2 C a.tmps s U hC (ho s hs av0 h1)).1
theorem evGuard_sound (hT : TblOK P T) {base : Nat → Option AV} {r : R} : ∀ (n : Nat) (sl : Slots) (s : Nat) (b : Bool) (yes no : Slots → Option R), nodupK sl = true → WFl T (lk sl) → Ref T base (lk sl) → evGuard T n sl s b yes no = some r →
    ∃ sl' p, nodupK sl' = true ∧ WFl T (lk sl') ∧ Ref T base (lk sl') ∧ (∀ t q p0, pcD T (lk sl t) q = some p0 → pcD T (lk sl' t) q = some p0) ∧ GK T base s b p ∧ (∀ p0, pcD T (lk sl s) b = some p0 → p0 = p) ∧ ((p = true ∧ yes sl' = some r) ∨ (p = false ∧ no sl' = some r)) := by
  intro n
  induction n with
  | zero =>
    intro sl s b yes no hn hW hr h
    unfold evGuard at h
    split at h
    · rename_i t f x hl
      split at h
      · rename_i hk
        obtain ⟨av0, h1, h2⟩ := hr s _ hl
        have hG : GK T base s b (eqb x.bool b) := ⟨av0, _, h1, h2, by simp only [pcD, hk]⟩
        have hH : ∀ p0, pcD T (lk sl s) b = some p0 → p0 = eqb x.bool b := fun p0 hp => by rw [hl] at hp; simp only [pcD, hk, Option.some.injEq] at hp; exact hp.symm
        cases he : eqb x.bool b with
        | true =>
          rw [he] at h hG hH
          have hx := eqb_iff.1 he
          exact ⟨_, true, resolve_nodup hn, wfl_resolve hW hl hk hx, ref_resolve hT hW hl hk hx hr, fun t q p0 => pcD_resolve hT hW hl hk hx t q p0, hG, hH, .inl ⟨rfl, h⟩⟩
        | false =>
          rw [he] at h hG hH
          have hx : x.bool = !b := by cases hxb : x.bool <;> cases b <;> simp_all [eqb]
          exact ⟨_, false, resolve_nodup hn, wfl_resolve hW hl hk hx, ref_resolve hT hW hl hk hx hr, fun t q p0 => pcD_resolve hT hW hl hk hx t q p0, hG, hH, .inr ⟨rfl, h⟩⟩
      · cases h
    · cases h
    · rename_i hl
      obtain ⟨av0, h1, h2⟩ := hr s _ hl
      exact ⟨sl, false, hn, hW, hr, fun _ _ _ h => h, ⟨av0, .undef, h1, h2, rfl⟩, fun p0 hp => by rw [hl] at hp; simp only [pcD, Option.some.injEq] at hp; exact hp.symm, .inr ⟨rfl, h⟩⟩
    · cases h
  | succ m ih =>
    intro sl s b yes no hn hW hr h
    unfold evGuard at h
    split at h
    · rename_i t f x hl
      split at h
      · rename_i hk
        obtain ⟨av0, h1, h2⟩ := hr s _ hl
        have hG : GK T base s b (eqb x.bool b) := ⟨av0, _, h1, h2, by simp only [pcD, hk]⟩
        have hH : ∀ p0, pcD T (lk sl s) b = some p0 → p0 = eqb x.bool b := fun p0 hp => by rw [hl] at hp; simp only [pcD, hk, Option.some.injEq] at hp; exact hp.symm
        cases he : eqb x.bool b with
        | true =>
          rw [he] at h hG hH
          have hx := eqb_iff.1 he
          exact ⟨_, true, resolve_nodup hn, wfl_resolve hW hl hk hx, ref_resolve hT hW hl hk hx hr, fun t q p0 => pcD_resolve hT hW hl hk hx t q p0, hG, hH, .inl ⟨rfl, h⟩⟩
        | false =>
          rw [he] at h hG hH
          have hx : x.bool = !b := by cases hxb : x.bool <;> cases b <;> simp_all [eqb]
          exact ⟨_, false, resolve_nodup hn, wfl_resolve hW hl hk hx, ref_resolve hT hW hl hk hx hr, fun t q p0 => pcD_resolve hT hW hl hk hx t q p0, hG, hH, .inr ⟨rfl, h⟩⟩
      · cases h
    · rename_i s' b' c v hl
      obtain ⟨sl1, p', hn1, hW1, hr1, hK1, hG1, hH1, hcase⟩ := ih sl s' b' _ no hn hW hr h
      have hcp : c = p' := by
        rcases (hW s s' b' c v hl).2 with h0 | h0
        · exfalso
          obtain ⟨av0, av, hb, _⟩ := hG1
          cases m <;> (unfold evGuard at h; rw [h0] at h; cases h)
        · exact hH1 c h0
      rcases hcase with ⟨rfl, hy⟩ | ⟨rfl, hno⟩
      · obtain ⟨sl2, p, hn2, hW2, hr2, hK2, hG2, hH2, hcase2⟩ := ih sl1 s b yes no hn1 hW1 hr1 hy
        exact ⟨sl2, p, hn2, hW2, hr2, fun t q p0 hp => hK2 t q p0 (hK1 t q p0 hp), hG2, fun p0 hp => hH2 p0 (hK1 s b p0 hp), hcase2⟩
      · subst hcp
        obtain ⟨av0, h1, h2⟩ := hr s _ hl
        refine ⟨sl1, false, hn1, hW1, hr1, hK1, ⟨av0, .undef, h1, h2.trans fun C tmps q U hC hh => ⟨⟨undef, hh.1.2 rfl, undef_rel⟩, trivial⟩, rfl⟩, fun p0 hp => ?_, .inr ⟨rfl, hno⟩⟩
        rw [hl] at hp
        cases v <;> simp only [pcD] at hp <;> first | (cases hp; rfl) | (cases hp; done) | (split at hp <;> first | (cases hp; done) | (simp at hp; exact hp))
    · rename_i hl
      obtain ⟨av0, h1, h2⟩ := hr s _ hl
      exact ⟨sl, false, hn, hW, hr, fun _ _ _ h => h, ⟨av0, .undef, h1, h2, rfl⟩, fun p0 hp => by rw [hl] at hp; simp only [pcD, Option.some.injEq] at hp; exact hp.symm, .inr ⟨rfl, h⟩⟩
    · cases h
theorem lk_upds : ∀ (h : Heap) (u : Upd), lk (upds h u) = updF (lk h) u
  | h, [] => rfl
  | h, (i, o) :: u => by
    simp only [upds, updF]
    rw [lk_upds]
    congr 1
    funext j
    have hfil : ∀ (l : Heap), lk (l.filter fun p => !Nat.beq p.1 i) j = if j = i then none else lk l j := fun l => by
      induction l with
      | nil => simp [lk]
      | cons p l ih =>
        obtain ⟨k, x⟩ := p
        cases hb : Nat.beq k i with
        | true =>
          have := beq_to hb
          subst this
          simp only [List.filter, hb, Bool.not_true]
          rw [ih, lk_cons]
          by_cases hj : j = k
          · simp [hj]
          · simp [hj, Ne.symm hj]
        | false =>
          have hne : k ≠ i := fun e => by
            have : Nat.beq k i = true := by rw [Nat.beq_eq]; exact e
            rw [this] at hb; cases hb
          simp only [List.filter, hb, Bool.not_false]
          rw [lk_cons, lk_cons, ih]
          by_cases hj : k = j
          · subst hj; simp [hne]
          · simp [hj]
    cases o with
    | none => simp only [upd1]; rw [hfil]
    | some o =>
      simp only [upd1]
      rw [lk_cons, hfil]
      by_cases hj : j = i
      · simp [hj]
      · simp [hj, Ne.symm hj]
theorem wanted_of {ops : Array Oper} {o : Oper} {j s : Nat} {b p : Bool} {a : Act} (hg : o.guard = some (j, b)) (hd : dstOf ops.toList j = some s) (h : a.tmps[s]? = some (.bool b) ↔ p = true) : Region.wanted o (yielded ops a.tmps) = p := by
  have hd' : (ops[j]?).bind (·.dst) = some s := by
    unfold dstOf at hd
    split at hd
    · rename_i o' ho'
      have : ops[j]? = some o' := by simpa using ho'
      rw [this]
      exact hd
    · cases hd
  unfold Region.wanted yielded
  simp only [hg, hd', Option.bind_some]
  cases ht : a.tmps[s]? with
  | none => rw [ht] at h; cases p <;> simp_all
  | some v =>
    rw [ht] at h
    cases v with
    | bool x =>
      simp only [Option.some.injEq, Value.bool.injEq] at h
      cases p <;> cases x <;> cases b <;> simp_all
    | _ => cases p <;> simp_all
theorem guard_mem {ops : Array Oper} {o : Oper} {j s : Nat} {b : Bool} (hg : o.guard = some (j, b)) (hd : dstOf ops.toList j = some s) : s ∈ mentions ops.toList o := by
  unfold mentions
  rw [hg]
  refine List.mem_append_right _ ?_
  unfold dstOf at hd
  simp only
  split at hd
  · rename_i x hx
    simp only [hx, hd]
    simp
  · cases hd
theorem evOp_nd {g : Option Bool} {o : Oper} {lks : Nat → Option AV} {hp : HpF} {nid : Nat} {k : OK R} {r : R} (h : evOp T g o lks hp nid k = some r) : ∀ c, o.op ≠ .defer c := fun c e => by
  unfold evOp at h
  rw [e] at h
  simp at h
theorem evOps_sound (hT : TblOK P T) (hE : ∀ g, ∀ e ∈ T.ents g, FnOK P T g e) {all : Array Oper} {nt : Nat} {k : Slots → Heap → List Log → Option R} {r : R} : ∀ (ops : List Oper) (nid : Nat) (sl : Slots) (hp : Heap) (lg : List Log) (base : Nat → Option AV),
    nodupK sl = true → WFl T (lk sl) → Ref T base (lk sl) → evOps T all.toList nt k ops nid sl hp lg = some r →
    ∃ recs sl' hp', recs.map Rec.o = ops ∧ RecsOK P T all nt base (lk hp) nid recs ∧ nodupK sl' = true ∧ WFl T (lk sl') ∧ Ref T (srcs base recs) (lk sl') ∧ lk hp' = hpAll (lk hp) recs ∧ k sl' hp' ((recs.map Rec.log).reverse ++ lg) = some r
  | [], nid, sl, hp, lg, base, hn, hW, hr, h => by
    simp only [evOps] at h
    exact ⟨[], sl, hp, rfl, trivial, hn, hW, hr, rfl, h⟩
  | o :: rest, nid, sl, hp, lg, base, hn, hW, hr, h => by
    simp only [evOps] at h
    split at h
    · rename_i hdst
      have hd : ∀ d, o.dst = some d → d < nt := fun d hd => by
        unfold dstOk at hdst
        rw [hd] at hdst
        unfold Nat.blt at hdst
        exact Nat.le_of_ble_eq_true hdst
      -- an operation that is performed, whatever its guard
      have go : ∀ (sl1 : Slots), nodupK sl1 = true → WFl T (lk sl1) → Ref T base (lk sl1) → (∀ rec : Rec, rec.o = o → rec.perf = true → Wants all T base rec) →
          evOp T none o (lk sl1) (lk hp) nid (fun a u s => match isW a with | false => evOps T all.toList nt k rest (Nat.add nid 16) (putS sl1 o.dst a) (upds hp u) ({ seen := s, wrote := u.map (·.1) } :: lg) | true => none) = some r →
          ∃ recs sl' hp', recs.map Rec.o = o :: rest ∧ RecsOK P T all nt base (lk hp) nid recs ∧ nodupK sl' = true ∧ WFl T (lk sl') ∧ Ref T (srcs base recs) (lk sl') ∧ lk hp' = hpAll (lk hp) recs ∧ k sl' hp' ((recs.map Rec.log).reverse ++ lg) = some r := by
        intro sl1 hn1 hW1 hr1 hwant h
        have hnd := evOp_nd h
        obtain ⟨av, u, seen, hk, hsound⟩ := evOp_sound hT hE (fun _ => hW1) h
        split at hk
        rotate_left
        · cases hk
        rename_i hisw
        let rc : Rec := ⟨o, true, av, u, seen⟩
        have hput := ref_put hn1 hr1 (r := rc) (Refn.refl av)
        have hawf : WFl T (lk (putS sl1 o.dst av)) := by
          refine wfl_put hn1 hW1 fun s b c v e => ?_
          subst e
          simp [isW] at hisw
        obtain ⟨recs, sl', hp', h1, h2, h3, h4, h5, h6, h7⟩ := evOps_sound hT hE rest (Nat.add nid 16) (putS sl1 o.dst av) (upds hp u) _ (srcP base rc) (putS_nodup hn1) hawf hput hk
        refine ⟨rc :: recs, sl', hp', by simp [h1, rc], ⟨⟨hwant rc rfl rfl, fun _ => (hsound (.inl rfl)).ref hr1, fun e => (by cases e), hd, fun _ => hnd⟩, ?_⟩, h3, h4, h5, by rw [h6, lk_upds]; rfl, ?_⟩
        · rw [lk_upds] at h2
          exact h2
        · simpa [Rec.log, rc] using h7
      -- one that is not
      have skip : ∀ (sl1 : Slots) , nodupK sl1 = true → WFl T (lk sl1) → Ref T base (lk sl1) → (∀ rec : Rec, rec.o = o → rec.perf = false → Wants all T base rec) →
          evOps T all.toList nt k rest (Nat.add nid 16) (putS sl1 o.dst .undef) hp ({ seen := [], wrote := [] } :: lg) = some r →
          ∃ recs sl' hp', recs.map Rec.o = o :: rest ∧ RecsOK P T all nt base (lk hp) nid recs ∧ nodupK sl' = true ∧ WFl T (lk sl') ∧ Ref T (srcs base recs) (lk sl') ∧ lk hp' = hpAll (lk hp) recs ∧ k sl' hp' ((recs.map Rec.log).reverse ++ lg) = some r := by
        intro sl1 hn1 hW1 hr1 hwant h
        let rc : Rec := ⟨o, false, .undef, [], []⟩
        obtain ⟨recs, sl', hp', h1, h2, h3, h4, h5, h6, h7⟩ := evOps_sound hT hE rest (Nat.add nid 16) (putS sl1 o.dst .undef) hp _ (srcP base rc) (putS_nodup hn1) (wfl_put hn1 hW1 fun s b c v e => by cases e) (ref_put hn1 hr1 (r := rc) (Refn.refl _)) h
        exact ⟨rc :: recs, sl', hp', by simp [h1, rc], ⟨⟨hwant rc rfl rfl, fun e => (by cases e), fun _ => ⟨rfl, rfl⟩, hd, fun e => (by cases e)⟩, h2⟩, h3, h4, h5, h6, by simpa [Rec.log, rc] using h7⟩
      have wantG : ∀ {j s : Nat} {b p : Bool}, o.guard = some (j, b) → dstOf all.toList j = some s → GK T base s b p → ∀ rec : Rec, rec.o = o → rec.perf = p → Wants all T base rec := fun {j s b p} hg hds hG rec hro hrp C a U hC ho => by
        rw [hrp, hro]
        rw [hro] at ho
        exact wanted_of hg hds (hG.val hC ho (guard_mem hg hds))
      split at h
      · rename_i hg
        exact go sl hn hW hr (fun rec hro hrp C a U hC ho => by rw [hro, hrp]; unfold Region.wanted; rw [hg]) h
      · rename_i j b hg
        split at h
        · rename_i s hds
          split at h
          · split at h
            · rename_i c hpc
              have hpc0 : pcOf T (lk sl) s b = some c ∧ o.dst ≠ some s := by
                split at hpc
                · rename_i d hd'
                  split at hpc
                  · cases hpc
                  · rename_i hne
                    refine ⟨hpc, fun e => ?_⟩
                    rw [hd'] at e
                    cases e
                    have : Nat.beq s s = true := by rw [Nat.beq_eq]
                    rw [this] at hne
                    cases hne
                · rename_i hd'
                  exact ⟨hpc, by rw [hd']; simp⟩
              have hpcD := pcOf_pcD hpc0.1
              obtain ⟨av0s, avs, hls, hbs, hrs⟩ : ∃ av0 av, lk sl s = some av ∧ base s = some av0 ∧ Refn T av0 av := by
                cases hl : lk sl s with
                | none => rw [hl] at hpcD; simp [pcD] at hpcD
                | some av =>
                  obtain ⟨av0, h1, h2⟩ := hr s av hl
                  exact ⟨av0, av, rfl, h1, h2⟩
              have hG : GK T base s b c := ⟨av0s, avs, hbs, hrs, by rw [← hls]; exact hpcD⟩
              split at h
              · obtain ⟨h, hc⟩ := cond_some h
                have hc : c = false := by simpa using hc
                subst hc
                exact skip sl hn hW hr (wantG hg hds hG) h
              have hnd := evOp_nd h
              obtain ⟨av, u, seen, hk, hsound⟩ := evOp_sound hT hE (fun hg' => by
                have hc : c = true := by
                  rcases hg' with h | h
                  · cases h
                  · simpa using h
                subst hc
                exact wfl_seen hW hpcD) h
              split at hk
              · rename_i hu hisw
                let rc : Rec := ⟨o, c, if c then av else .undef, [], seen⟩
                have hput : Ref T (srcP base rc) (lk (putS sl o.dst (.w s b c av))) := ref_put hn hr (r := rc) (fun C tmps t U hC hh => by
                  have hw : ∀ s' b' c' v', av ≠ .w s' b' c' v' := by rintro _ _ _ _ rfl; simp [isW] at hisw
                  cases hc : c with
                  | true =>
                    simp only [rc, hc, if_true] at hh
                    exact ⟨⟨fun _ => slot_val hw hh.1, fun e => by cases e⟩, fun _ => hh.2⟩
                  | false =>
                    simp only [rc, hc, Bool.false_eq_true, if_false] at hh
                    obtain ⟨v, hv, hvr⟩ := hh.1
                    have := cells_one hvr.1 hvr.2
                    subst this
                    exact ⟨⟨fun e => (by cases e), fun _ => hv⟩, fun e => (by cases e)⟩)
                obtain ⟨recs, sl', hp', h1, h2, h3, h4, h5, h6, h7⟩ := evOps_sound hT hE rest (Nat.add nid 16) (putS sl o.dst (.w s b c av)) hp _ (srcP base rc) (putS_nodup hn) (wfl_put hn hW fun s' b' c' v' e => by
                  cases e
                  exact ⟨hisw, hpc0.2, hpcD⟩) hput hk
                refine ⟨rc :: recs, sl', hp', by simp [h1, rc], ⟨⟨wantG hg hds hG rc rfl rfl, fun e => ?_, fun e => ?_, hd, fun _ => hnd⟩, h2⟩, h3, h4, h5, h6, by simpa [Rec.log, rc] using h7⟩
                · have hc : c = true := e
                  subst hc
                  have := (hsound (.inr rfl)).ref (refn_seen hW hpcD hr)
                  simpa [rc] using this
                · have hc : c = false := e
                  subst hc
                  exact ⟨rfl, rfl⟩
              · cases hk
            · split at h
              · rename_i hl
                obtain ⟨av0, h1, h2⟩ := hr s _ hl
                exact skip sl hn hW hr (wantG hg hds ⟨av0, .undef, h1, h2, rfl⟩) h
              · cases h
          · obtain ⟨sl1, p, hn1, hW1, hr1, _, hG, _, hcase⟩ := evGuard_sound hT 4 sl s b _ _ hn hW hr h
            rcases hcase with ⟨rfl, h⟩ | ⟨rfl, h⟩
            · exact go sl1 hn1 hW1 hr1 (wantG hg hds hG) h
            · exact skip sl1 hn1 hW1 hr1 (wantG hg hds hG) h
        · cases h
    · cases h
end
end Go.Ev
