/- The evaluator: regions in every order that their edges allow. -/
import Derived.Test.YtpmkecjkbajcgaaGreatDoorEvIn
namespace Go.Ev
open Go
set_option linter.unusedVariables false
set_option linter.unusedSimpArgs false
section
variable {P : Program} {T : Tbl}
def srcS : List Rec → Nat → (Nat → Bool) → (Nat → Option AV) → Nat → Option AV
  | [], _, _, base => base
  | r :: rs, i, S, base => srcS rs (i + 1) S (if S i then srcP base r else base)
def hpS : List Rec → Nat → (Nat → Bool) → HpF → HpF
  | [], _, _, hp => hp
  | r :: rs, i, S, hp => hpS rs (i + 1) S (if S i then updF hp r.u else hp)
/-! ### 1. Sets of operations -/
theorem srcS_base {t : Nat} : ∀ (rs : List Rec) (i : Nat) (S : Nat → Bool) (b b' : Nat → Option AV), b t = b' t → srcS rs i S b t = srcS rs i S b' t
  | [], i, S, b, b', h => h
  | r :: rs, i, S, b, b', h => by
    simp only [srcS]
    refine srcS_base rs (i + 1) S _ _ ?_
    split
    · simp only [srcP]; split
      · rfl
      · exact h
    · exact h
theorem srcS_congr {t : Nat} : ∀ (rs : List Rec) (i : Nat) (S S' : Nat → Bool) (b : Nat → Option AV), (∀ j r, rs[j]? = some r → S (i + j) ≠ S' (i + j) → r.o.dst ≠ some t) → srcS rs i S b t = srcS rs i S' b t
  | [], i, S, S', b, h => rfl
  | r :: rs, i, S, S', b, h => by
    simp only [srcS]
    have h0 := h 0 r rfl
    simp only [Nat.add_zero] at h0
    rw [srcS_base rs (i + 1) S (if S i then srcP b r else b) (if S' i then srcP b r else b) (by
      by_cases hs : S i = S' i
      · rw [hs]
      · have := h0 hs
        cases S i <;> cases S' i <;> simp_all [srcP])]
    exact srcS_congr rs (i + 1) S S' _ fun j r' hr hne => h (j + 1) r' (by simpa using hr) (by rw [show i + (j + 1) = i + 1 + j by omega]; exact hne)
theorem updF_not {x : Nat} : ∀ (u : Upd) (hp : HpF), x ∉ u.map (·.1) → updF hp u x = hp x
  | [], hp, h => rfl
  | (i, o) :: u, hp, h => by
    simp only [List.map_cons, List.mem_cons, not_or] at h
    simp only [updF]
    rw [updF_not u _ h.2]
    simp [h.1]
theorem updF_key {x : Nat} : ∀ (u : Upd) (hp hp' : HpF), (x ∈ u.map (·.1) ∨ hp x = hp' x) → updF hp u x = updF hp' u x
  | [], hp, hp', h => h.resolve_left (by simp)
  | (i, o) :: u, hp, hp', h => by
    simp only [updF]
    refine updF_key u _ _ ?_
    by_cases hu : x ∈ u.map (·.1)
    · exact .inl hu
    · right
      by_cases hx : x = i
      · simp [hx]
      · simp only [hx, if_false]
        refine h.resolve_left fun hm => ?_
        simp only [List.map_cons, List.mem_cons] at hm
        exact hm.elim hx hu
theorem hpS_base {x : Nat} : ∀ (rs : List Rec) (i : Nat) (S : Nat → Bool) (b b' : HpF), b x = b' x → hpS rs i S b x = hpS rs i S b' x
  | [], i, S, b, b', h => h
  | r :: rs, i, S, b, b', h => by
    simp only [hpS]
    refine hpS_base rs (i + 1) S _ _ ?_
    split
    · exact updF_key _ _ _ (.inr h)
    · exact h
theorem hpS_congr {x : Nat} : ∀ (rs : List Rec) (i : Nat) (S S' : Nat → Bool) (b : HpF), (∀ j r, rs[j]? = some r → S (i + j) ≠ S' (i + j) → x ∉ r.u.map (·.1)) → hpS rs i S b x = hpS rs i S' b x
  | [], i, S, S', b, h => rfl
  | r :: rs, i, S, S', b, h => by
    simp only [hpS]
    have h0 := h 0 r rfl
    simp only [Nat.add_zero] at h0
    rw [hpS_base rs (i + 1) S (if S i then updF b r.u else b) (if S' i then updF b r.u else b) (by
      by_cases hs : S i = S' i
      · rw [hs]
      · have := updF_not r.u b (h0 hs)
        cases h1 : S i <;> cases h2 : S' i <;> simp_all)]
    exact hpS_congr rs (i + 1) S S' _ fun j r' hr hne => h (j + 1) r' (by simpa using hr) (by rw [show i + (j + 1) = i + 1 + j by omega]; exact hne)
/-- The last that writes. -/
theorem srcS_last {t : Nat} : ∀ (rs : List Rec) (i k : Nat) (S : Nat → Bool) (b : Nat → Option AV) (r : Rec), rs[k]? = some r → S (i + k) = true → r.o.dst = some t → (∀ j r', k < j → rs[j]? = some r' → S (i + j) = true → r'.o.dst ≠ some t) → srcS rs i S b t = some r.av
  | [], i, k, S, b, r, hr, _, _, _ => by simp at hr
  | r0 :: rs, i, 0, S, b, r, hr, hS, hd, hl => by
    simp only [List.getElem?_cons_zero, Option.some.injEq] at hr
    subst hr
    simp only [srcS]
    rw [Nat.add_zero] at hS
    have : ∀ (rs : List Rec) (i : Nat) (b : Nat → Option AV), (∀ j r', rs[j]? = some r' → S (i + j) = true → r'.o.dst ≠ some t) → srcS rs i S b t = b t := fun rs => by
      induction rs with
      | nil => exact fun _ _ _ => rfl
      | cons r rs ih =>
        intro i b h
        simp only [srcS]
        rw [ih (i + 1) _ fun j r' hr hs => h (j + 1) r' (by simpa using hr) (by rw [show i + (j + 1) = i + 1 + j by omega]; exact hs)]
        split
        · rename_i hs
          have := h 0 r rfl (by simpa using hs)
          simp [srcP, this]
        · rfl
    rw [this rs (i + 1) _ fun j r' hr' hs => hl (j + 1) r' (by omega) (by simpa using hr') (by rw [show i + (j + 1) = i + 1 + j by omega]; exact hs)]
    simp [hS, srcP, hd]
  | r0 :: rs, i, k + 1, S, b, r, hr, hS, hd, hl => by
    simp only [srcS]
    exact srcS_last rs (i + 1) k S _ r (by simpa using hr) (by rw [show i + 1 + k = i + (k + 1) by omega]; exact hS) hd fun j r' hj hr' hs => hl (j + 1) r' (by omega) (by simpa using hr') (by rw [show i + (j + 1) = i + 1 + j by omega]; exact hs)
theorem hpS_last {x : Nat} : ∀ (rs : List Rec) (i k : Nat) (S : Nat → Bool) (b h0 : HpF) (r : Rec), rs[k]? = some r → S (i + k) = true → x ∈ r.u.map (·.1) → (∀ j r', k < j → rs[j]? = some r' → S (i + j) = true → x ∉ r'.u.map (·.1)) → hpS rs i S b x = updF h0 r.u x
  | [], i, k, S, b, h0, r, hr, _, _, _ => by simp at hr
  | r0 :: rs, i, 0, S, b, h0, r, hr, hS, hd, hl => by
    simp only [List.getElem?_cons_zero, Option.some.injEq] at hr
    subst hr
    simp only [hpS]
    rw [Nat.add_zero] at hS
    have : ∀ (rs : List Rec) (i : Nat) (b : HpF), (∀ j r', rs[j]? = some r' → S (i + j) = true → x ∉ r'.u.map (·.1)) → hpS rs i S b x = b x := fun rs => by
      induction rs with
      | nil => exact fun _ _ _ => rfl
      | cons r rs ih =>
        intro i b h
        simp only [hpS]
        rw [ih (i + 1) _ fun j r' hr hs => h (j + 1) r' (by simpa using hr) (by rw [show i + (j + 1) = i + 1 + j by omega]; exact hs)]
        split
        · rename_i hs
          exact updF_not _ _ (h 0 r rfl (by simpa using hs))
        · rfl
    rw [this rs (i + 1) _ fun j r' hr' hs => hl (j + 1) r' (by omega) (by simpa using hr') (by rw [show i + (j + 1) = i + 1 + j by omega]; exact hs)]
    simp only [hS, if_true]
    exact updF_key _ _ _ (.inl hd)
  | r0 :: rs, i, k + 1, S, b, h0, r, hr, hS, hd, hl => by
    simp only [hpS]
    exact hpS_last rs (i + 1) k S _ h0 r (by simpa using hr) (by rw [show i + 1 + k = i + (k + 1) by omega]; exact hS) hd fun j r' hj hr' hs => hl (j + 1) r' (by omega) (by simpa using hr') (by rw [show i + (j + 1) = i + 1 + j by omega]; exact hs)
/-- The text's own state ahead of an operation. -/
theorem recsOK_get {ops : Array Oper} {nt : Nat} : ∀ (rs : List Rec) (i : Nat) (base : Nat → Option AV) (hp : HpF) (nid : Nat), RecsOK P T ops nt base hp nid rs → ∀ (k : Nat) (r : Rec), rs[k]? = some r →
    RecOK P T ops nt (srcS rs i (fun j => decide (j < i + k)) base) (hpS rs i (fun j => decide (j < i + k)) hp) (nid + 16 * k) r
  | [], i, base, hp, nid, h, k, r, hr => by simp at hr
  | r0 :: rs, i, base, hp, nid, h, 0, r, hr => by
    simp only [List.getElem?_cons_zero, Option.some.injEq] at hr
    subst hr
    have e1 : ∀ (rs : List Rec) (q : Nat) (b : Nat → Option AV), i ≤ q → srcS rs q (fun j => decide (j < i + 0)) b = b := fun rs => by
      induction rs with
      | nil => exact fun _ _ _ => rfl
      | cons r rs ih =>
        intro q b hq
        have : ¬ q < i + 0 := by omega
        simp only [srcS, this, decide_false, Bool.false_eq_true, if_false]
        exact ih (q + 1) b (by omega)
    have e2 : ∀ (rs : List Rec) (q : Nat) (b : HpF), i ≤ q → hpS rs q (fun j => decide (j < i + 0)) b = b := fun rs => by
      induction rs with
      | nil => exact fun _ _ _ => rfl
      | cons r rs ih =>
        intro q b hq
        have : ¬ q < i + 0 := by omega
        simp only [hpS, this, decide_false, Bool.false_eq_true, if_false]
        exact ih (q + 1) b (by omega)
    rw [e1 _ _ _ (Nat.le_refl _), e2 _ _ _ (Nat.le_refl _)]
    exact h.1
  | r0 :: rs, i, base, hp, nid, h, k + 1, r, hr => by
    have ih := recsOK_get rs (i + 1) (srcP base r0) (updF hp r0.u) (nid + 16) h.2 k r (by simpa using hr)
    have hi : i < i + (k + 1) := by omega
    simp only [srcS, hpS, hi, decide_true, if_true]
    rw [show i + (k + 1) = i + 1 + k by omega, show nid + 16 * (k + 1) = nid + 16 + 16 * k by omega]
    exact ih
theorem srcS_all : ∀ (rs : List Rec) (i : Nat) (S : Nat → Bool) (base : Nat → Option AV), (∀ j, i ≤ j → j < i + rs.length → S j = true) → srcS rs i S base = srcs base rs
  | [], i, S, base, h => rfl
  | r :: rs, i, S, base, h => by
    have := h i (Nat.le_refl _) (by simp)
    simp only [srcS, srcs, this, if_true]
    exact srcS_all rs (i + 1) S _ fun j h1 h2 => h j (by omega) (by simp; omega)
theorem hpS_all : ∀ (rs : List Rec) (i : Nat) (S : Nat → Bool) (hp : HpF), (∀ j, i ≤ j → j < i + rs.length → S j = true) → hpS rs i S hp = hpAll hp rs
  | [], i, S, hp, h => rfl
  | r :: rs, i, S, hp, h => by
    have := h i (Nat.le_refl _) (by simp)
    simp only [hpS, hpAll, this, if_true]
    exact hpS_all rs (i + 1) S _ fun j h1 h2 => h j (by omega) (by simp; omega)
/-! ### 2. One operation of a region -/
theorem slot_tmps {C : Ctx} {tmps tmps' : Array Value} {t : Nat} {av : AV} (h : tmps'[t]? = tmps[t]?) (hs : SlotRel C tmps t av) : SlotRel C tmps' t av := by
  cases av with
  | w s b c v => exact ⟨fun hc => by rw [h]; exact hs.1 hc, fun hc => by rw [h]; exact hs.2 hc⟩
  | _ => obtain ⟨v, h1, h2⟩ := hs; exact ⟨v, by rw [h]; exact h1, h2⟩
theorem put_other {a : Act} {dst : Option Nat} {v : Value} {t : Nat} (h : dst ≠ some t) : (a.put dst v).tmps[t]? = a.tmps[t]? := by
  cases dst with
  | none => rfl
  | some d =>
    have : d ≠ t := fun e => h (by rw [e])
    simp [Act.put, Array.getElem?_setIfInBounds_ne this]
theorem put_size {a : Act} {dst : Option Nat} {v : Value} : (a.put dst v).tmps.size = a.tmps.size := by
  cases dst <;> simp [Act.put]
theorem put_defers' {a : Act} {dst : Option Nat} {v : Value} : (a.put dst v).defers = a.defers := by
  cases dst <;> simp [Act.put]
theorem SRel.put {kd : TypeId → Option K} {E : Ent} {U : Nat → Prop} {lks : Nat → Option AV} {hp : HpF} {σ : Nat → Hd} {a : Act} {w : World} (h : SRel kd E U lks hp σ a w) {dst : Option Nat} (hlt : ∀ d, dst = some d → d < a.tmps.size) {av : AV} {v : Value} (hv : VRel (ctx kd E hp σ w) av v) (hin : av.In U) :
    SRel kd E U (fun t => if dst = some t then some av else lks t) hp σ (a.put dst v) w := by
  refine ⟨fun t x ht => ?_, h.obj, h.inj, h.trk, h.grew, by rw [put_defers']; exact h.defers⟩
  split at ht
  · rename_i e
    cases ht
    refine ⟨slot_of_val (not_w hv) ⟨v, ?_, hv⟩, hin⟩
    subst e
    have := hlt t rfl
    simp [Act.put, this]
  · rename_i e
    obtain ⟨h1, h2⟩ := h.slot t x ht
    exact ⟨slot_tmps (put_other e) h1, h2⟩
def Inv (T : Tbl) (E : Ent) (recs : List Rec) (base0 : Nat → Option AV) (hp0 : HpF) (nid0 nt : Nat) (a0 : Act) (U0 : Nat → Prop) (σ0 : Nat → Hd) (S : Nat → Bool) (a : Act) (w : World) : Prop :=
  ∃ σ U, SRel T.kd E U (srcS recs 0 S base0) (hpS recs 0 S hp0) σ a w ∧ nt ≤ a.tmps.size ∧ (∀ i, U i → i < nid0 ∨ ∃ j, j < recs.length ∧ S j = true ∧ nid0 + 16 * j ≤ i ∧ i < nid0 + 16 * j + 16) ∧
    (∀ t, (∀ r ∈ recs, r.o.dst ≠ some t) → a.tmps[t]? = a0.tmps[t]?) ∧ a.tmps.size = a0.tmps.size ∧ ∀ i, U0 i → U i ∧ σ i = σ0 i
def addS (S : Nat → Bool) (i : Nat) : Nat → Bool := fun j => S j || decide (j = i)
theorem union_ok {recs : List Rec} {base0 : Nat → Option AV} {hp0 : HpF} {S : Nat → Bool} {i : Nat} {r : Rec} (hr : recs[i]? = some r) (hSi : S i = false)
    (hc : ∀ j r', i < j → recs[j]? = some r' → S j = true → (∀ d, r.o.dst = some d → r'.o.dst ≠ some d) ∧ (∀ x ∈ r.u.map (·.1), x ∉ r'.u.map (·.1))) :
    srcS recs 0 (addS S i) base0 = srcP (srcS recs 0 S base0) r ∧ hpS recs 0 (addS S i) hp0 = updF (hpS recs 0 S hp0) r.u := by
  have hdiff : ∀ j, S (0 + j) ≠ addS S i (0 + j) → j = i := fun j h => by
    simp only [addS, Nat.zero_add] at h
    by_cases e : j = i
    · exact e
    · simp [e] at h
  constructor
  · funext t
    by_cases hd : r.o.dst = some t
    · rw [srcS_last recs 0 i (addS S i) base0 r hr (by simp [addS]) hd fun j r' hj hr' hs => (hc j r' hj hr' (by
        simp only [addS, Nat.zero_add, Bool.or_eq_true, decide_eq_true_eq] at hs
        exact hs.resolve_right (by omega))).1 t hd]
      simp [srcP, hd]
    · rw [srcS_congr recs 0 (addS S i) S base0 fun j r' hr' hne => ?_]
      · simp [srcP, hd]
      · have := hdiff j (Ne.symm hne)
        subst this
        rw [hr] at hr'
        cases hr'
        exact hd
  · funext x
    by_cases hx : x ∈ r.u.map (·.1)
    · exact hpS_last recs 0 i (addS S i) hp0 _ r hr (by simp [addS]) hx fun j r' hj hr' hs => (hc j r' hj hr' (by
        simp only [addS, Nat.zero_add, Bool.or_eq_true, decide_eq_true_eq] at hs
        exact hs.resolve_right (by omega))).2 x hx
    · rw [updF_not _ _ hx]
      refine hpS_congr recs 0 (addS S i) S hp0 fun j r' hr' hne => ?_
      have := hdiff j (Ne.symm hne)
      subst this
      rw [hr] at hr'
      cases hr'
      exact hx
theorem tmpsOf_sub {ops : Array Oper} {o : Oper} : ∀ t ∈ tmpsOf o.op, t ∈ mentions ops.toList o := fun t ht => List.mem_append_left _ ht
theorem rg_step {ops : Array Oper} {nt nid0 : Nat} {recs : List Rec} {base0 : Nat → Option AV} {hp0 : HpF} {E : Ent} {a0 : Act} {U0 : Nat → Prop} {σ0 : Nat → Hd} (hrec : RecsOK P T ops nt base0 hp0 nid0 recs) (hmap : recs.map Rec.o = ops.toList) {S : Nat → Bool} {i : Nat} {r : Rec} (hr : recs[i]? = some r) (hSi : S i = false)
    (hA : ∀ t ∈ mentions ops.toList r.o, srcS recs 0 S base0 t = srcS recs 0 (fun j => decide (j < i)) base0 t) (hB : ∀ x ∈ r.seen, hpS recs 0 S hp0 x = hpS recs 0 (fun j => decide (j < i)) hp0 x)
    (hC : srcS recs 0 (addS S i) base0 = srcP (srcS recs 0 S base0) r ∧ hpS recs 0 (addS S i) hp0 = updF (hpS recs 0 S hp0) r.u) {a : Act} {w : World} (hInv : Inv T E recs base0 hp0 nid0 nt a0 U0 σ0 S a w) {K : Act → World → Prop} {Q : Exit → Act → World → Prop}
    (ro : Option Nat) (hK : ∀ a' w', Inv T E recs base0 hp0 nid0 nt a0 U0 σ0 (addS S i) a' w' → K a' w') : wpOpIn (FW ro) 0 P ops Q i K a w := by
  have hok := recsOK_get recs 0 base0 hp0 nid0 hrec i r hr
  simp only [Nat.zero_add] at hok
  have hops : ops[i]? = some r.o := by
    have : (recs.map Rec.o)[i]? = some r.o := by simp [hr]
    rw [hmap] at this
    simpa using this
  obtain ⟨σ, U, hs, hnt, hU, hsame, hsz, hU0⟩ := hInv
  have hopn : Opn (ctx T.kd E (hpS recs 0 S hp0) σ w) a U (srcS recs 0 (fun j => decide (j < i)) base0) (mentions ops.toList r.o) := fun t ht av hav => hs.slot t av (by rw [hA t ht]; exact hav)
  have hw := hok.want (ctx T.kd E (hpS recs 0 S hp0) σ w) a U rfl hopn
  have hfin : ∀ (σ' : Nat → Hd) (U' : Nat → Prop) (v : Value) (w' : World), SRel T.kd E U' (srcS recs 0 S base0) (updF (hpS recs 0 S hp0) r.u) σ' a w' → VRel (ctx T.kd E (updF (hpS recs 0 S hp0) r.u) σ' w') r.av v → r.av.In U' → (∀ i', U i' → U' i') → (∀ i', U' i' → U i' ∨ (nid0 + 16 * i ≤ i' ∧ i' < nid0 + 16 * i + 16)) → (∀ i', U i' → σ' i' = σ i') → K (a.put r.o.dst v) w' := fun σ' U' v w' hs' hv hin hUU hU' hσ' => by
    refine hK _ _ ⟨σ', U', ?_, by rw [put_size]; exact hnt, fun i' hi' => ?_, fun t ht => ?_, by rw [put_size]; exact hsz, fun i' hi' => ⟨hUU i' (hU0 i' hi').1, by rw [hσ' i' (hU0 i' hi').1]; exact (hU0 i' hi').2⟩⟩
    · rw [hC.1, hC.2]
      exact hs'.put (fun d hd => Nat.lt_of_lt_of_le (hok.dst d hd) hnt) hv hin
    · rcases hU' i' hi' with h | h
      · rcases hU i' h with h | ⟨j, h1, h2, h3⟩
        · exact .inl h
        · exact .inr ⟨j, h1, by simp [addS, h2], h3⟩
      · exact .inr ⟨i, (List.getElem?_eq_some_iff.1 hr).1, by simp [addS], h⟩
    · rw [put_other (ht r (List.mem_of_getElem? hr))]
      exact hsame t ht
  unfold wpOpIn
  simp only [hops, hw]
  cases hp : r.perf with
  | true =>
    simp only [if_true]
    refine opIn ro (hok.nd hp) ?_
    exact hok.run hp E U _ _ σ a w K Q hs (hopn.sub tmpsOf_sub) hB (fun c hc hu => by
      rcases hU _ hu with h | ⟨j, h1, h2, h3, h4⟩
      · omega
      · have : j = i := by omega
        subst this
        rw [hSi] at h2
        cases h2) (fun v w' σ' U' h1 h2 h3 h4 h5 h6 => hfin σ' U' v w' h1 h2 h3 h4 h5 h6)
  | false =>
    simp only [Bool.false_eq_true, if_false]
    obtain ⟨h1, h2⟩ := hok.skip hp
    refine ⟨fun _ _ => trivial, ?_⟩
    exact hfin σ U undef w (by rw [h2]; exact hs) (by rw [h1]; exact undef_rel) (by rw [h1]; trivial) (fun i' hi' => hi') (fun i' hi' => .inl hi') (fun _ _ => rfl)
/-! ### 3. The order of the text -/
theorem rg_text (ro : Option Nat) {ops : Array Oper} {nt nid0 : Nat} {recs : List Rec} {base0 : Nat → Option AV} {hp0 : HpF} {E : Ent} {a0 : Act} {U0 : Nat → Prop} {σ0 : Nat → Hd} (hrec : RecsOK P T ops nt base0 hp0 nid0 recs) (hmap : recs.map Rec.o = ops.toList) {Q : Exit → Act → World → Prop}
    (hQ : ∀ a w, Inv T E recs base0 hp0 nid0 nt a0 U0 σ0 (fun j => decide (j < ops.size)) a w → Q .normal a w) : ∀ (n i : Nat) (a : Act) (w : World), i + n = ops.size → Inv T E recs base0 hp0 nid0 nt a0 U0 σ0 (fun j => decide (j < i)) a w → wpOpsIn (FW ro) 0 P ops Q (List.range' i n) a w
  | 0, i, a, w, hn, h => by
    simp only [List.range'_zero, wpOpsIn]
    exact hQ a w (by rw [show ops.size = i by omega]; exact h)
  | n + 1, i, a, w, hn, h => by
    rw [List.range'_succ, wpOpsIn_cons]
    have hlen : recs.length = ops.size := by
      have := congrArg List.length hmap
      simpa using this
    have hlt : i < recs.length := by omega
    refine rg_step hrec hmap (S := fun j => decide (j < i)) (i := i) (r := recs[i]) (by simp [hlt]) (by simp) (fun t _ => rfl) (fun x _ => rfl) (union_ok (by simp [hlt]) (by simp) fun j r' hj _ hs => ?_) h ro fun a' w' h' => ?_
    · simp only [decide_eq_true_eq] at hs
      omega
    · refine rg_text ro hrec hmap hQ n (i + 1) a' w' (by omega) ?_
      have : (fun j => decide (j < i + 1)) = addS (fun j => decide (j < i)) i := by
        funext j
        simp only [addS]
        by_cases h1 : j < i
        · simp [h1, Nat.lt_succ_of_lt h1]
        · by_cases h2 : j = i
          · simp [h2]
          · have : ¬ j < i + 1 := by omega
            simp [h1, h2, this]
      rw [this]
      exact h'
/-! ### 4. Every order -/
theorem fold_bit (g : Nat → Nat) (k : Nat) : ∀ (es : List Edge) (s : Nat), (es.foldl (fun s e => if Region.binds .any e then s ||| 2 ^ e.on ||| g e.on else s) s).testBit k = true → s.testBit k = true ∨ ∃ e ∈ es, Region.binds .any e = true ∧ (e.on = k ∨ (g e.on).testBit k = true)
  | [], s, h => .inl h
  | e :: es, s, h => by
    simp only [List.foldl_cons] at h
    rcases fold_bit g k es _ h with h | ⟨e', h1, h2, h3⟩
    · split at h
      · rename_i hb
        simp only [Nat.testBit_or, Bool.or_eq_true, Nat.testBit_two_pow, decide_eq_true_eq] at h
        rcases h with (h | h) | h
        · exact .inl h
        · exact .inr ⟨e, by simp, hb, .inl h⟩
        · exact .inr ⟨e, by simp, hb, .inr h⟩
      · exact .inl h
    · exact .inr ⟨e', by simp [h1], h2, h3⟩
def befStep (acc : Array Nat) (o : Oper) : Array Nat := acc.push (o.after.foldl (fun s e => if Region.binds .any e then s ||| 2 ^ e.on ||| acc.getD e.on 0 else s) 0)
theorem bef_keep : ∀ (l : List Oper) (acc : Array Nat) (j : Nat), j < acc.size → (l.foldl befStep acc).getD j 0 = acc.getD j 0
  | [], acc, j, h => rfl
  | o :: l, acc, j, h => by
    simp only [List.foldl_cons]
    rw [bef_keep l _ j (by simp [befStep]; omega)]
    simp [befStep, Array.getElem?_push, Nat.ne_of_lt h]
theorem bef_bit : ∀ (l : List Oper) (acc : Array Nat) (i k : Nat) (o : Oper), l[i]? = some o → ((l.foldl befStep acc).getD (acc.size + i) 0).testBit k = true →
    ∃ e ∈ o.after, Region.binds .any e = true ∧ (e.on = k ∨ ((l.foldl befStep acc).getD e.on 0).testBit k = true)
  | [], acc, i, k, o, ho, h => by simp at ho
  | o0 :: l, acc, 0, k, o, ho, h => by
    simp only [List.getElem?_cons_zero, Option.some.injEq] at ho
    subst ho
    simp only [List.foldl_cons, Nat.add_zero] at h ⊢
    rw [bef_keep l _ acc.size (by simp [befStep])] at h
    have : (befStep acc o0).getD acc.size 0 = o0.after.foldl (fun s e => if Region.binds .any e then s ||| 2 ^ e.on ||| acc.getD e.on 0 else s) 0 := by simp [befStep]
    rw [this, ← Array.foldl_toList] at h
    rcases fold_bit (fun n => acc.getD n 0) k _ 0 h with h | ⟨e, h1, h2, h3⟩
    · simp at h
    · refine ⟨e, by simpa using h1, h2, h3.imp id fun h3 => ?_⟩
      by_cases hlt : e.on < acc.size
      · rw [bef_keep l _ e.on (by simp [befStep]; omega)]
        have : (befStep acc o0).getD e.on 0 = acc.getD e.on 0 := by simp [befStep, Array.getElem?_push, Nat.ne_of_lt hlt]
        rw [this]
        exact h3
      · have : acc.getD e.on 0 = 0 := by simp [Array.getElem?_eq_none (Nat.le_of_not_lt hlt)]
        rw [this] at h3
        simp at h3
  | o0 :: l, acc, i + 1, k, o, ho, h => by
    simp only [List.foldl_cons] at h ⊢
    refine bef_bit l (befStep acc o0) i k o (by simpa using ho) ?_
    have : (befStep acc o0).size + i = acc.size + (i + 1) := by simp [befStep]; omega
    rw [this]
    exact h
theorem before_bit {ops : Array Oper} {i k : Nat} {o : Oper} (ho : ops[i]? = some o) (h : ((Region.before ops).getD i 0).testBit k = true) :
    ∃ e ∈ o.after, Region.binds .any e = true ∧ (e.on = k ∨ ((Region.before ops).getD e.on 0).testBit k = true) := by
  have e0 : Region.before ops = ops.toList.foldl befStep #[] := by
    unfold Region.before
    rw [← Array.foldl_toList]
    rfl
  rw [e0] at h ⊢
  exact bef_bit ops.toList #[] i k o (by simpa using ho) (by simpa using h)
theorem edgesOk_at : ∀ (l : List Oper) (i : Nat), edgesOk l i = true → ∀ (j : Nat) (o : Oper), l[j]? = some o → ∀ e ∈ o.after, Region.binds .any e = true → e.on < i + j
  | [], i, h, j, o, ho => by simp at ho
  | o0 :: l, i, h, j, o, ho => by
    simp only [edgesOk, Bool.and_eq_true, List.all_eq_true] at h
    intro e he hb
    cases j with
    | zero =>
      simp only [List.getElem?_cons_zero, Option.some.injEq] at ho
      subst ho
      have := h.1 e (by simpa using he)
      simp only [hb, Bool.not_true, Bool.false_or] at this
      unfold Nat.blt at this
      exact Nat.le_of_ble_eq_true this
    | succ j =>
      have := edgesOk_at l (i + 1) h.2 j o (by simpa using ho) e he hb
      omega
def cnt (f : Nat → Bool) : Nat → Nat
  | 0 => 0
  | n + 1 => cnt f n + (if f n then 0 else 1)
theorem cnt_le (f : Nat → Bool) (i : Nat) : ∀ n, cnt (addS f i) n ≤ cnt f n
  | 0 => Nat.le_refl _
  | n + 1 => by
    have ih := cnt_le f i n
    simp only [cnt]
    by_cases h : f n = true
    · have : addS f i n = true := by simp [addS, h]
      simp [h, this, ih]
    · have h' : f n = false := by simpa using h
      simp only [h']
      split <;> simp <;> omega
theorem cnt_lt (f : Nat → Bool) (i : Nat) (hf : f i = false) : ∀ n, i < n → cnt (addS f i) n < cnt f n
  | 0, h => by omega
  | n + 1, h => by
    simp only [cnt]
    by_cases hn : i = n
    · subst hn
      have h1 : addS f i i = true := by simp [addS]
      have := cnt_le f i i
      simp only [h1, hf, if_true]
      simp
      omega
    · have ih := cnt_lt f i hf n (by omega)
      have : addS f i n = f n := by simp [addS, Ne.symm hn]
      rw [this]
      omega
theorem cnt_zero {f : Nat → Bool} : ∀ {n : Nat}, cnt f n = 0 → ∀ j, j < n → f j = true
  | 0, _, j, hj => by omega
  | n + 1, h, j, hj => by
    simp only [cnt] at h
    by_cases hn : f n = true
    · by_cases hj' : j = n
      · rw [hj']; exact hn
      · exact cnt_zero (n := n) (by omega) j (by omega)
    · simp [hn] at h
theorem least_false {f : Nat → Bool} : ∀ (n : Nat), (∃ i, i < n ∧ f i = false) → ∃ i, i < n ∧ f i = false ∧ ∀ j, j < i → f j = true
  | 0, ⟨i, h, _⟩ => by omega
  | n + 1, ⟨i, h, hf⟩ => by
    by_cases hex : ∃ i, i < n ∧ f i = false
    · obtain ⟨k, h1, h2, h3⟩ := least_false n hex
      exact ⟨k, by omega, h2, h3⟩
    · have hin : i = n := by
        by_cases e : i = n
        · exact e
        · exact absurd ⟨i, by omega, hf⟩ hex
      subst hin
      refine ⟨i, by omega, hf, fun j hj => ?_⟩
      cases hfj : f j with
      | true => rfl
      | false => exact absurd ⟨j, hj, hfj⟩ hex
theorem meet_no {a b : List Nat} (h : meet a b = false) : ∀ x ∈ a, x ∉ b := fun x hx hb => by
  have := List.any_eq_false.1 h x hx
  exact this (memN_iff.2 hb)
structure Apart (all : List Oper) (a b : Oper) (x y : Log) : Prop where
  ws : ∀ q ∈ x.wrote, q ∉ y.seen
  ww : ∀ q ∈ x.wrote, q ∉ y.wrote
  sw : ∀ q ∈ y.wrote, q ∉ x.seen
  ab : ∀ d, a.dst = some d → d ∉ mentions all b
  dd : ∀ d, a.dst = some d → b.dst ≠ some d
  ba : ∀ d, b.dst = some d → d ∉ mentions all a
theorem apartOf_spec {all : List Oper} {a b : Oper} {x y : Log} (h : apartOf all a b x y = true) : Apart all a b x y := by
  simp only [apartOf, Bool.and_eq_true, Bool.not_eq_true'] at h
  obtain ⟨⟨⟨⟨h1, h2⟩, h3⟩, h4⟩, h5⟩ := h
  refine ⟨meet_no h1, meet_no h2, fun q hq hs => meet_no h3 q hs hq, fun d hd hm => ?_, fun d hd he => ?_, fun d hd hm => ?_⟩
  · rw [hd] at h4
    simp only [Bool.or_eq_false_iff] at h4
    rw [memN_iff.2 hm] at h4
    cases h4.1
  · rw [hd, he] at h4
    simp only [Bool.or_eq_false_iff] at h4
    have : Nat.beq d d = true := by rw [Nat.beq_eq]
    rw [this] at h4
    cases h4.2
  · rw [hd] at h5
    have h5 : memN (mentions all a) d = false := h5
    rw [memN_iff.2 hm] at h5
    cases h5
theorem rg_any (ro : Option Nat) {ops : Array Oper} {nt nid0 : Nat} {recs : List Rec} {base0 : Nat → Option AV} {hp0 : HpF} {E : Ent} {a0 : Act} {U0 : Nat → Prop} {σ0 : Nat → Hd} (hrec : RecsOK P T ops nt base0 hp0 nid0 recs) (hmap : recs.map Rec.o = ops.toList) (hfree : freeOf ops.toList (Region.before ops).toList (recs.map Rec.log) = true) {Q : Exit → Act → World → Prop}
    (hQ : ∀ a w, Inv T E recs base0 hp0 nid0 nt a0 U0 σ0 (fun j => decide (j < ops.size)) a w → Q .normal a w) : ∀ (fuel : Nat) (listed : Array Bool) (a : Act) (w : World), listed.size = ops.size → cnt (fun j => listed.getD j false) ops.size ≤ fuel → (∀ j k, listed.getD j false = true → ((Region.before ops).getD j 0).testBit k = true → listed.getD k false = true) →
      Inv T E recs base0 hp0 nid0 nt a0 U0 σ0 (fun j => listed.getD j false) a w → wpAnyIn (FW ro) 0 P .any ops Q fuel listed a w := by
  have hlen : recs.length = ops.size := by simpa using congrArg List.length hmap
  simp only [freeOf, Bool.and_eq_true, List.all_eq_true, List.mem_range] at hfree
  obtain ⟨hedge, hfree⟩ := hfree
  have hop : ∀ j, j < ops.size → ∃ r, recs[j]? = some r ∧ ops[j]? = some r.o := fun j hj => by
    have h1 : j < recs.length := by omega
    refine ⟨recs[j], by simp [h1], ?_⟩
    have : (recs.map Rec.o)[j]? = some recs[j].o := by simp [h1]
    rw [hmap] at this
    simpa using this
  have hap : ∀ i j ri rj, i < j → j < ops.size → recs[i]? = some ri → recs[j]? = some rj → ((Region.before ops).getD j 0).testBit i = true ∨ Apart ops.toList ri.o rj.o ri.log rj.log := fun i j ri rj hij hj hri hrj => by
    have h := hfree j (by simpa using hj) i hij
    obtain ⟨ri', h1, h2⟩ := hop i (by omega)
    obtain ⟨rj', h3, h4⟩ := hop j hj
    rw [hri] at h1; cases h1
    rw [hrj] at h3; cases h3
    have e1 : ops.toList[i]? = some ri.o := by simpa using h2
    have e2 : ops.toList[j]? = some rj.o := by simpa using h4
    have e3 : (recs.map Rec.log)[i]? = some ri.log := by simp [hri]
    have e4 : (recs.map Rec.log)[j]? = some rj.log := by simp [hrj]
    rw [e1, e2, e3, e4] at h
    simp only [Bool.or_eq_true] at h
    refine h.imp (fun h => ?_) apartOf_spec
    simpa using h
  have hall : ∀ (listed : Array Bool), listed.size = ops.size → (∀ j, j < ops.size → listed.getD j false = true) → (fun j => listed.getD j false) = fun j => decide (j < ops.size) := fun listed hsz h => by
    funext j
    by_cases hj : j < ops.size
    · rw [h j hj]; simp [hj]
    · simp [hj, Array.getElem?_eq_none (show listed.size ≤ j by omega)]
  have hgd : ∀ (listed : Array Bool) (j : Nat), listed.size = ops.size → (listed.getD j true = false ↔ j < ops.size ∧ listed.getD j false = false) := fun listed j hsz => by
    by_cases hj : j < listed.size
    · have hj' : j < ops.size := by omega
      simp [Array.getD_eq_getD_getElem?, hj, hj']
    · have hj' : ¬ j < ops.size := by omega
      simp [Array.getD_eq_getD_getElem?, Array.getElem?_eq_none (Nat.le_of_not_lt hj), hj']
  have hdone : ∀ (listed : Array Bool) (a : Act) (w : World), listed.size = ops.size → Region.ready .any ops listed = [] → Inv T E recs base0 hp0 nid0 nt a0 U0 σ0 (fun j => listed.getD j false) a w → Q .normal a w := fun listed a w hsz hr hInv => by
    refine hQ a w ?_
    rw [← hall listed hsz]
    · exact hInv
    · intro j hj
      cases hl : listed.getD j false with
      | true => rfl
      | false =>
        exfalso
        obtain ⟨i, h1, h2, h3⟩ := least_false (f := fun j => listed.getD j false) ops.size ⟨j, hj, hl⟩
        obtain ⟨r, _, ho⟩ := hop i h1
        have : i ∈ Region.ready .any ops listed := mem_ready.2 ⟨(hgd listed i hsz).2 ⟨h1, h2⟩, r.o, ho, fun e he hb => h3 e.on (by
          have := edgesOk_at _ 0 hedge i r.o (by simpa using ho) e he hb
          omega)⟩
        rw [hr] at this
        simp at this
  intro fuel
  induction fuel with
  | zero =>
    intro listed a w hsz hcnt hclosed hInv
    have h := cnt_zero (Nat.le_zero.1 hcnt)
    have hr : Region.ready .any ops listed = [] := by
      apply List.eq_nil_iff_forall_not_mem.2
      intro j hj
      obtain ⟨h1, _⟩ := mem_ready.1 hj
      obtain ⟨h2, h3⟩ := (hgd listed j hsz).1 h1
      have := h j h2
      rw [h3] at this
      cases this
    exact ⟨hr, hdone listed a w hsz hr hInv⟩
  | succ fuel ih =>
    intro listed a w hsz hcnt hclosed hInv
    refine ⟨fun hr => hdone listed a w hsz hr hInv, fun i hi => ?_⟩
    obtain ⟨h1, o, ho, hpre⟩ := mem_ready.1 hi
    obtain ⟨hin, hSi⟩ := (hgd listed i hsz).1 h1
    obtain ⟨r, hr, ho'⟩ := hop i hin
    rw [ho] at ho'
    cases ho'
    have hbits : ∀ k, ((Region.before ops).getD i 0).testBit k = true → listed.getD k false = true := fun k hk => by
      obtain ⟨e, he, hb, h⟩ := before_bit ho hk
      rcases h with h | h
      · rw [← h]; exact hpre e he hb
      · exact hclosed e.on k (hpre e he hb) h
    have hsetS : (fun j => (listed.setIfInBounds i true).getD j false) = addS (fun j => listed.getD j false) i := by
      funext j
      simp only [addS, Array.getD_eq_getD_getElem?, Array.getElem?_setIfInBounds]
      by_cases e : i = j
      · subst e
        have : i < listed.size := by omega
        simp [this]
      · simp [e, Ne.symm e]
    -- what differs from the text's order is apart
    have hlow : ∀ j rj, j < i → recs[j]? = some rj → listed.getD j false = false → Apart ops.toList rj.o r.o rj.log r.log := fun j rj hj hrj hl => by
      rcases hap j i rj r hj hin hrj hr with h | h
      · rw [hbits j h] at hl; cases hl
      · exact h
    have hhigh : ∀ j rj, i < j → recs[j]? = some rj → listed.getD j false = true → Apart ops.toList r.o rj.o r.log rj.log := fun j rj hj hrj hl => by
      have hj' : j < ops.size := by have := (List.getElem?_eq_some_iff.1 hrj).1; omega
      rcases hap i j r rj hj hj' hr hrj with h | h
      · rw [hclosed j i hl h] at hSi; cases hSi
      · exact h
    have hdiff : ∀ j rj, recs[j]? = some rj → listed.getD (0 + j) false ≠ decide (0 + j < i) → (j < i ∧ listed.getD j false = false) ∨ (i ≤ j ∧ listed.getD j false = true) := fun j rj _ hne => by
      rw [Nat.zero_add] at hne
      by_cases hj : j < i
      · left
        simp only [hj, decide_true] at hne
        exact ⟨hj, by simpa using hne⟩
      · right
        simp only [hj, decide_false] at hne
        exact ⟨by omega, by simpa using hne⟩
    have hne : ∀ j, listed.getD j false = true → j ≠ i := fun j h e => by rw [e, hSi] at h; cases h
    refine rg_step hrec hmap (S := fun j => listed.getD j false) hr hSi (fun t ht => ?_) (fun x hx => ?_) (union_ok hr hSi fun j r' hj hr' hs => ?_) hInv ro fun a' w' h' => ?_
    · refine srcS_congr recs 0 _ _ base0 fun j rj hrj hd => ?_
      rcases hdiff j rj hrj hd with ⟨h2, h3⟩ | ⟨h2, h3⟩
      · exact fun e => (hlow j rj h2 hrj h3).ab t e ht
      · have := hne j h3
        exact fun e => (hhigh j rj (by omega) hrj h3).ba t e ht
    · refine hpS_congr recs 0 _ _ hp0 fun j rj hrj hd => ?_
      rcases hdiff j rj hrj hd with ⟨h2, h3⟩ | ⟨h2, h3⟩
      · exact fun e => (hlow j rj h2 hrj h3).ws x e hx
      · have := hne j h3
        exact fun e => (hhigh j rj (by omega) hrj h3).sw x e hx
    · have h := hhigh j r' hj hr' hs
      exact ⟨h.dd, h.ww⟩
    · refine ih (listed.setIfInBounds i true) a' w' (by simpa using hsz) ?_ (fun j k hj hk => ?_) (by rw [hsetS]; exact h')
      · rw [hsetS]
        have := cnt_lt (fun j => listed.getD j false) i hSi ops.size hin
        omega
      · have e1 := congrFun hsetS j
        have e2 := congrFun hsetS k
        rw [e1] at hj
        rw [e2]
        simp only [addS, Bool.or_eq_true, decide_eq_true_eq] at hj ⊢
        left
        rcases hj with hj | hj
        · exact hclosed j k hj hk
        · subst hj
          exact hbits k hk
end
end Go.Ev
