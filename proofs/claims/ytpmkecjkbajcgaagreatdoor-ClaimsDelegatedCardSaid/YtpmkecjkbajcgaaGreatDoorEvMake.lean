/- The evaluator: operations that make objects or turn them. -/
import Derived.Test.YtpmkecjkbajcgaaGreatDoorEvFour
namespace Go.Ev
open Go
set_option linter.unusedVariables false
set_option linter.unusedSimpArgs false
section
variable {P : Program} {T : Tbl} {C : Ctx} {R : Type} {lks : Nat → Option AV}

/-! ### 1. One object is told anew, some are dropped -/
def turnH (hp : HpF) (gone : List Nat) (q : Nat) (oq : AO) : HpF := fun i => if i = q then some oq else if i ∈ gone then none else hp i
def turnS (σ : Nat → Hd) (q : Nat) (hd : Hd) : Nat → Hd := fun i => if i = q then hd else σ i
theorem SRel.turn {kd : TypeId → Option K} {E : Ent} {U : Nat → Prop} {lks : Nat → Option AV} {hp : HpF} {σ : Nat → Hd} {a : Act} {w : World} (h : SRel kd E U lks hp σ a w)
    (gone : List Nat) (q : Nat) (oq : AO) (hd : Hd) (w' : World) (hq : U q → hd = σ q) (hos : w'.os = w.os) (htape : w'.tape = w.tape) (hout : w'.output = w.output) (hsz : w.heap.size ≤ w'.heap.size)
    (hblk : ∀ b, b < w.heap.size → (∀ i o, hp i = some o → (i = q ∨ i ∈ gone) → blk (σ i).v ≠ some b) → w'.heap[b]? = w.heap[b]?)
    (hin : oq.In fun i => U i ∨ i = q)
    (hb : ∀ b, blk hd.v = some b → b < w'.heap.size ∧ (w.heap.size ≤ b ∨ ∃ j oj, hp j = some oj ∧ (j = q ∨ j ∈ gone) ∧ blk (σ j).v = some b))
    (hor : CLe (ctx kd E hp σ w) (ctx kd E (turnH hp gone q oq) (turnS σ q hd) w') U → ORel (ctx kd E (turnH hp gone q oq) (turnS σ q hd) w') oq hd) :
    SRel kd E (fun i => U i ∨ i = q) lks (turnH hp gone q oq) (turnS σ q hd) a w' ∧ CLe (ctx kd E hp σ w) (ctx kd E (turnH hp gone q oq) (turnS σ q hd) w') U := by
  have hone : ∀ i o, (i = q ∨ i ∈ gone) → turnH hp gone q oq i = some o → i = q ∧ o = oq := fun i o hc ho => by
    unfold turnH at ho
    split at ho
    · rename_i e; cases ho; exact ⟨e, rfl⟩
    · rename_i e
      rw [if_pos (hc.resolve_left e)] at ho
      cases ho
  refine h.update (fun i => i = q ∨ i ∈ gone) (fun _ hu => .inl hu) (fun i hu => ?_) hos htape hout hsz hblk (fun i hc => ?_) (fun i o hc ho => ?_) (fun i j oi oj b hc hc' hi hj hne => ?_)
  · unfold turnS
    split
    · rename_i e; subst e; exact hq hu
    · rfl
  · unfold turnH
    rw [if_neg (fun e => hc (.inl e)), if_neg (fun e => hc (.inr e))]
  · obtain ⟨rfl, rfl⟩ := hone i o hc ho
    have hs : turnS σ i hd i = hd := by simp [turnS]
    rw [hs]
    exact ⟨.inr rfl, hin, hb, hor⟩
  · exact absurd ((hone i oi hc hi).1.trans (hone j oj hc' hj).1.symm) hne
/-- Some objects are dropped: from now on they may be read. -/
theorem SRel.drop {kd : TypeId → Option K} {E : Ent} {U : Nat → Prop} {lks : Nat → Option AV} {hp : HpF} {σ : Nat → Hd} {a : Act} {w : World} (h : SRel kd E U lks hp σ a w) (gone : List Nat) :
    SRel kd E U lks (fun i => if i ∈ gone then none else hp i) σ a w ∧ CLe (ctx kd E hp σ w) (ctx kd E (fun i => if i ∈ gone then none else hp i) σ w) U := by
  refine h.update (fun i => i ∈ gone) (fun _ hu => hu) (fun _ _ => rfl) rfl rfl rfl (Nat.le_refl _) (fun _ _ _ => rfl) (fun i hc => ?_) (fun i o hc ho => ?_) (fun i j oi oj b hc hc' hi hj hne => ?_)
  · rw [if_neg hc]
  · rw [if_pos hc] at ho; cases ho
  · rw [if_pos hc] at hi; cases hi
theorem updF_drops (hp : HpF) : ∀ l, updF hp (drops l) = fun i => if i ∈ l then none else hp i
  | [] => by funext i; simp [updF, drops]
  | a :: l => by
    simp only [drops, updF]
    rw [updF_drops _ l]
    funext i
    by_cases h1 : i ∈ l
    · simp [h1]
    · by_cases h2 : i = a <;> simp [h1, h2]
theorem updF_one (hp : HpF) (q : Nat) (oq : AO) : updF hp [(q, some oq)] = turnH hp [] q oq := by
  funext i; simp [updF, turnH]
theorem updF_two (hp : HpF) (i q : Nat) (oq : AO) : updF hp [(i, none), (q, some oq)] = turnH hp [i] q oq := by
  funext j; simp [updF, turnH]
theorem updF_put (hp : HpF) (q : Nat) (oq : AO) (l : List Nat) (hl : q ∉ l) : updF hp ((q, some oq) :: drops l) = turnH hp l q oq := by
  simp only [updF]
  rw [updF_drops]
  funext j
  by_cases h : j = q
  · subst h; simp [turnH, hl]
  · simp [turnH, h]
theorem memN_iff {l : List Nat} {x : Nat} : memN l x = true ↔ x ∈ l := by
  induction l with
  | nil => simp [memN]
  | cons a l ih =>
    simp only [memN]
    split
    · rename_i h; rw [Nat.beq_eq] at h; simp [h]
    · rename_i h
      have : a ≠ x := fun e => by rw [← Nat.beq_eq] at e; rw [e] at h; cases h
      rw [ih]
      simp [Ne.symm this]
theorem fF_turn {E : Ent} {hp : HpF} {σ : Nat → Hd} {fr : Bool} {b : Nat} (h : fF E hp σ true b) : fF E hp σ fr b := by
  refine ⟨h.1, ?_⟩
  rcases h.2 with h | h | h | ⟨h, _⟩
  · exact .inl h
  · exact .inr (.inl h)
  · exact .inr (.inr (.inl h))
  · cases h

/-! ### 2. Rows that become data -/
mutual
theorem toD_rel (hT : TblOK P T) {E : Ent} {U : Nat → Prop} {lkf : Nat → Option AV} {hp hpf : HpF} {σ : Nat → Hd} {a : Act} {w : World} (hs : SRel T.kd E U lkf hpf σ a w) {F' : Nat → Prop} (frT : Bool) (hF : ∀ b, fF E hpf σ frT b → b < w.heap.size → F' b) :
    ∀ (v : AV) (fr : Bool) (x : D) (l : List Nat) (t : TypeId) (k : K) (cs : List Value), toD hp v = some (fr, x, l) → (frT = true → fr = true) → (∀ i ∈ l, hpf i = hp i) → (∀ i ∈ l, ∀ b, blk (σ i).v = some b → F' b) → v.ty = some t → T.kd t = some k →
      CRel (ctx T.kd E hpf σ w) v cs → RepC F' w k x cs
  | .d t' fr' x', fr, x, l, t, k, cs, h, hfr, hl, hlF, ht, hk, hr => by
    simp only [toD, Option.some.injEq, Prod.mk.injEq] at h
    obtain ⟨rfl, rfl, rfl⟩ := h
    simp only [AV.ty, Option.some.injEq] at ht
    subst ht
    simp only [CRel] at hr
    obtain ⟨k', hk', hr⟩ := hr
    have : k' = k := by rw [show T.kd t' = some k' from hk'] at hk; cases hk; rfl
    subst this
    exact (rep_mono (w := w) (w' := w) (fun b hb hlt => ⟨hF b hb hlt, rfl⟩) (Nat.le_refl _) k').1 _ _ (rep_fr hfr hr)
  | .nil t', fr, x, l, t, k, cs, h, hfr, hl, hlF, ht, hk, hr => by
    simp only [toD, Option.some.injEq, Prod.mk.injEq] at h
    obtain ⟨rfl, rfl, rfl⟩ := h
    simp only [AV.ty, Option.some.injEq] at ht
    subst ht
    simp only [CRel] at hr
    obtain ⟨rfl, e, k', hk'⟩ := hr
    rw [show T.kd t' = some _ from hk'] at hk
    cases hk
    exact ⟨none, 0, rfl, Nat.le_refl _, Nat.zero_le _, fun j y hy => by simp [D.list] at hy⟩
  | .own t' i, fr, x, l, t, k, cs, h, hfr, hl, hlF, ht, hk, hr => by
    simp only [toD] at h
    split at h
    · rename_i e fr' xs hhp
      simp only [Option.some.injEq, Prod.mk.injEq] at h
      obtain ⟨rfl, rfl, rfl⟩ := h
      simp only [AV.ty, Option.some.injEq] at ht
      subst ht
      simp only [CRel] at hr
      obtain ⟨rfl, _, hor⟩ := hr
      obtain ⟨ho, _, _⟩ := hs.obj i _ (by rw [hl i (by simp)]; exact hhp)
      obtain ⟨hte, k', css, hk', hall, hrow⟩ := row_at ho
      obtain ⟨ke, hke⟩ := hor.resolve_right (by
        rintro ⟨_, _, r, _, _, hv⟩
        have hv : (σ i).v = .map (some r) := hv
        rcases hrow with ⟨hv', _⟩ | ⟨g', n', c', hv', _⟩ <;> (rw [hv] at hv'; cases hv'))
      rw [show T.kd t' = some _ from hke] at hk
      cases hk
      have hke' := (slice_elem (hT.ty _ _ hke)).2
      rw [show (ctx T.kd E hpf σ w).σ i = σ i from rfl, hte] at hke'
      have : k' = ke := by rw [show T.kd e = some k' from hk'] at hke'; cases hke'; rfl
      subst this
      have hall' : All2 (RepC F' w k') xs css := hall.imp fun a b _ hab => (rep_mono (w := w) (w' := w) (fun b hb hlt => ⟨hF b hb hlt, rfl⟩) (Nat.le_refl _) k').1 _ _ (rep_fr hfr hab)
      rcases hrow with ⟨hv, rfl⟩ | ⟨g, n, c, hv, hn, hnc, hcm, hlt, hat⟩
      · exact ⟨none, 0, by simp [D.list]; exact hv, Nat.le_refl _, Nat.zero_le _, fun j y hy => by simp [D.list] at hy⟩
      · subst hn
        refine ⟨some ⟨g, 0, none⟩, c, by simp only [list_n]; exact congrArg (fun v => [v]) hv, hnc, hcm, fun j y hy => ?_⟩
        obtain ⟨c0, c1, c2, hfl, hl0, hq, _⟩ := flatten_at hall' (fun x cs h => rep_len h) j y hy
        refine ⟨_, c1, rfl, rfl, hlF i (by simp) g (by rw [show (σ i).v = _ from hv]; rfl), hlt, hq, ?_⟩
        rw [← hl0]
        rw [hfl] at hat
        exact At.sub hat
    · cases h
  | .agg t' fs, fr, x, l, t, k, cs, h, hfr, hl, hlF, ht, hk, hr => by
    simp only [toD] at h
    split at h
    · rename_i fr' xs l' hds
      simp only [Option.some.injEq, Prod.mk.injEq] at h
      obtain ⟨rfl, rfl, rfl⟩ := h
      simp only [AV.ty, Option.some.injEq] at ht
      subst ht
      simp only [CRel] at hr
      obtain ⟨k', hk', hg, hr⟩ := hr
      have : k' = k := by rw [show T.kd t' = some k' from hk'] at hk; cases hk; rfl
      subst this
      have hF' := toDs_rel hT hs frT hF fs fr' xs l' k' cs [] hds hfr hl hlF (hT.ty _ _ hk).kf hr
      simp only [List.nil_append, List.length_nil] at hF'
      cases k' with
      | pair t k r => exact hF'
      | unit => exact hF'
      | _ => simp [K.agg] at hg
    · cases h
  | .undef, _, _, _, _, _, _, h, _, _, _, _, _, _ | .cptr .., _, _, _, _, _, _, h, _, _, _, _, _, _ | .bx .., _, _, _, _, _, _, h, _, _, _, _, _, _ | .optr .., _, _, _, _, _, _, h, _, _, _, _, _, _ | .ptr .., _, _, _, _, _, _, h, _, _, _, _, _, _ | .nilp, _, _, _, _, _, _, h, _, _, _, _, _, _
  | .fn .., _, _, _, _, _, _, h, _, _, _, _, _, _ | .tup _, _, _, _, _, _, _, h, _, _, _, _, _, _ | .w .., _, _, _, _, _, _, h, _, _, _, _, _, _ => by simp [toD] at h
theorem toDs_rel (hT : TblOK P T) {E : Ent} {U : Nat → Prop} {lkf : Nat → Option AV} {hp hpf : HpF} {σ : Nat → Hd} {a : Act} {w : World} (hs : SRel T.kd E U lkf hpf σ a w) {F' : Nat → Prop} (frT : Bool) (hF : ∀ b, fF E hpf σ frT b → b < w.heap.size → F' b) :
    ∀ (vs : List AV) (fr : Bool) (xs : List D) (l : List Nat) (k : K) (cs : List Value) (pre : List D), toDs hp vs = some (fr, xs, l) → (frT = true → fr = true) → (∀ i ∈ l, hpf i = hp i) → (∀ i ∈ l, ∀ b, blk (σ i).v = some b → F' b) → KF T.kd k →
      CRels (ctx T.kd E hpf σ w) k vs cs → RepF F' w k pre.length (.n (pre ++ xs)) cs
  | [], fr, xs, l, k, cs, pre, h, hfr, hl, hlF, hkf, hr => by
    cases k with
    | unit => exact hr
    | _ => simp [CRels] at hr
  | v :: vs, fr, xs, l, k, cs, pre, h, hfr, hl, hlF, hkf, hr => by
    cases k with
    | pair t kt r =>
      simp only [toDs] at h
      split at h
      · rename_i f1 x1 l1 h1
        split at h
        · rename_i f2 xs2 l2 h2
          simp only [Option.some.injEq, Prod.mk.injEq] at h
          obtain ⟨rfl, rfl, rfl⟩ := h
          simp only [CRels] at hr
          obtain ⟨c1, c2, rfl, hlen, hfit, hr1, hr2⟩ := hr
          have hty : v.ty = some t := by
            have hk1 : T.kd t = some kt := hkf.1
            refine fits_ty hk1 hfit ?_ ?_
            · rintro rfl
              have hfit' : v.fits T.kd t := hfit
              unfold AV.fits at hfit'
              rw [hk1] at hfit'
              obtain ⟨_, _, _, rfl | rfl | ⟨_, rfl⟩ | ⟨_, _, rfl⟩ | ⟨_, _, rfl⟩⟩ := hfit' <;> simp [toD] at h1
            · rintro rfl
              have hfit' : v.fits T.kd t := hfit
              unfold AV.fits at hfit'
              rw [hk1] at hfit'
              obtain ⟨_, _, rfl⟩ := hfit'
              simp [toD] at h1
          simp only [RepF]
          refine ⟨c1, c2, rfl, ?_, ?_⟩
          · have : D.at' (.n (pre ++ x1 :: xs2)) pre.length = x1 := nth_of_get (by simp [D.list])
            rw [this]
            exact toD_rel hT hs frT hF v f1 x1 l1 t kt c1 h1 (fun e => by have := hfr e; simp only [Bool.and_eq_true] at this; exact this.1) (fun i hi => hl i (by simp [hi])) (fun i hi => hlF i (by simp [hi])) hty hkf.1 hr1
          · have := toDs_rel hT hs frT hF vs f2 xs2 l2 r c2 (pre ++ [x1]) h2 (fun e => by have := hfr e; simp only [Bool.and_eq_true] at this; exact this.2) (fun i hi => hl i (by simp [hi])) (fun i hi => hlF i (by simp [hi])) hkf.2 hr2
            simpa using this
        · cases h
      · cases h
    | _ => simp [CRels] at hr
end
theorem cmp_flat (k : K) : k.cmp = true → k.flat = true := by
  induction k with
  | pair t k r ihk ihr =>
    intro h
    simp only [K.cmp, K.flat, Bool.and_eq_true] at h ⊢
    exact ⟨ihk h.1, ihr h.2⟩
  | _ => simp [K.cmp, K.flat]
mutual
theorem plain_rel (hT : TblOK P T) {C : Ctx} (hC : C.kd = T.kd) {F' : Nat → Prop} {w' : World} : ∀ (a : AV) (x : D) (t : TypeId) (k : K) (cs : List Value), plainD a = some x → a.ty = some t → T.kd t = some k → k.cmp = true → CRel C a cs → RepC F' w' k x cs
  | .d t' fr' x', x, t, k, cs, h, ht, hk, hc, hr => by
    simp only [plainD, Option.some.injEq] at h
    subst h
    simp only [AV.ty, Option.some.injEq] at ht
    subst ht
    simp only [CRel] at hr
    obtain ⟨k', hk', hr⟩ := hr
    rw [hC, hk] at hk'
    cases hk'
    exact (rep_flat (cmp_flat k hc)).1 _ _ hr
  | .agg t' fs, x, t, k, cs, h, ht, hk, hc, hr => by
    simp only [plainD] at h
    split at h
    · rename_i xs hxs
      simp only [Option.some.injEq] at h
      subst h
      simp only [AV.ty, Option.some.injEq] at ht
      subst ht
      simp only [CRel] at hr
      obtain ⟨k', hk', hg, hr⟩ := hr
      rw [hC, hk] at hk'
      cases hk'
      have hF' := plains_rel hT hC (F' := F') (w' := w') fs xs k cs [] hxs (hT.ty _ _ hk).kf hc hr
      simp only [List.nil_append, List.length_nil] at hF'
      cases k with
      | pair t k r => exact hF'
      | unit => exact hF'
      | _ => simp [K.agg] at hg
    · cases h
  | .undef, _, _, _, _, h, _, _, _, _ | .nil _, _, _, _, _, h, _, _, _, _ | .own .., _, _, _, _, h, _, _, _, _ | .cptr .., _, _, _, _, h, _, _, _, _ | .bx .., _, _, _, _, h, _, _, _, _ | .optr .., _, _, _, _, h, _, _, _, _ | .ptr .., _, _, _, _, h, _, _, _, _ | .nilp, _, _, _, _, h, _, _, _, _
  | .fn .., _, _, _, _, h, _, _, _, _ | .tup _, _, _, _, _, h, _, _, _, _ | .w .., _, _, _, _, h, _, _, _, _ => by simp [plainD] at h
theorem plains_rel (hT : TblOK P T) {C : Ctx} (hC : C.kd = T.kd) {F' : Nat → Prop} {w' : World} : ∀ (vs : List AV) (xs : List D) (k : K) (cs : List Value) (pre : List D), plainDs vs = some xs → KF T.kd k → k.cmp = true → CRels C k vs cs → RepF F' w' k pre.length (.n (pre ++ xs)) cs
  | [], xs, k, cs, pre, h, hkf, hc, hr => by
    cases k with
    | unit => exact hr
    | _ => simp [CRels] at hr
  | v :: vs, xs, k, cs, pre, h, hkf, hc, hr => by
    cases k with
    | pair t kt r =>
      simp only [plainDs] at h
      split at h
      · rename_i x1 h1
        split at h
        · rename_i xs2 h2
          simp only [Option.some.injEq] at h
          subst h
          simp only [CRels] at hr
          obtain ⟨c1, c2, rfl, hlen, hfit, hr1, hr2⟩ := hr
          simp only [K.cmp, Bool.and_eq_true] at hc
          have hty : v.ty = some t := by
            rw [hC] at hfit
            refine fits_ty hkf.1 hfit ?_ ?_
            · rintro rfl; simp [K.cmp] at hc
            · rintro rfl; simp [K.cmp] at hc
          simp only [RepF]
          refine ⟨c1, c2, rfl, ?_, ?_⟩
          · have : D.at' (.n (pre ++ x1 :: xs2)) pre.length = x1 := nth_of_get (by simp [D.list])
            rw [this]
            exact plain_rel hT hC v x1 t kt c1 h1 hty hkf.1 hc.1 hr1
          · have := plains_rel hT hC (F' := F') (w' := w') vs xs2 r c2 (pre ++ [x1]) h2 hkf.2 hc.2 hr2
            simpa using this
        · cases h
      · cases h
    | _ => simp [CRels] at hr
end
theorem eqArg_rel (hT : TblOK P T) {C : Ctx} (hC : C.kd = T.kd) {x : AV} {v : Value} (h : VRel C x v) : VRel C (eqArg T x) v := by
  unfold eqArg
  split
  · rename_i t fs
    split
    · rename_i k hk
      split
      · rename_i hc
        split
        · rename_i y hy
          have h1 : V1 C (.agg t fs) v := h
          obtain ⟨h2, h3⟩ := h1
          have hg : k.agg = true := by
            simp only [CRel] at h2
            obtain ⟨k', hk', hg, _⟩ := h2
            rw [hC, hk] at hk'
            cases hk'
            exact hg
          refine ⟨⟨k, by rw [hC]; exact hk, plain_rel hT hC (.agg t fs) y t k _ hy rfl hk hc h2⟩, ?_⟩
          rw [h3]
          simp [AV.aggB, hC, hk, hg]
        · exact h
      · exact h
    · exact h
  · exact h
/-! ### 3. Variables -/
theorem grew_alloc (w : World) (ob : Obj) (b : Nat) (hb : b < w.heap.size) : (w.alloc ob).heap[b]? = w.heap[b]? := heap_alloc_old w ob hb
theorem alloc_size (w : World) (ob : Obj) : (w.alloc ob).heap.size = w.heap.size + 1 := by show (w.heap.push ob).size = _; simp
theorem new_box (hT : TblOK P T) {o : Oper} {hp : HpF} {nid : Nat} {t : TypeId} {a : AV}
    (h : ∀ (E : Ent) (U : Nat → Prop) (lkf : Nat → Option AV) (hpf : HpF) (σ : Nat → Hd) (ac : Act) (w : World), SRel T.kd E U lkf hpf σ ac w → Opn (ctx T.kd E hpf σ w) ac U lks (tmpsOf o.op) →
      ∃ cs : Array Value, (execOp ac.eval o).run P w = .ok (.value (.pointer (some ⟨w.heap.size, 0, none⟩))) (w.alloc (.cells cs t)) ∧ CRel (ctx T.kd E hpf σ w) a cs.toList ∧ a.fits T.kd t ∧ a.In U) :
    OpSound P T o lks hp nid (.ptr t nid []) [(nid, some (.box t a))] [] := by
  intro E U lkf hpf σ ac w K Q hs ho hseen hfr hK
  obtain ⟨cs, hrun, hc, hf, hi⟩ := h E U lkf hpf σ ac w hs ho
  have hn : ¬ U nid := by simpa using hfr 0 (by omega)
  have hkt : ∃ k, T.kd t = some k := by
    cases hk : T.kd t with
    | none => simp [AV.fits, hk] at hf
    | some k => exact ⟨k, rfl⟩
  obtain ⟨k, hk⟩ := hkt
  have hlen := crel_len (C := ctx T.kd E hpf σ w) hk hf hc
  obtain ⟨hs', hcle⟩ := hs.turn [] nid (.box t a) ⟨.pointer (some ⟨w.heap.size, 0, none⟩), t⟩ (w.alloc (.cells cs t)) (fun hu => absurd hu hn) rfl rfl rfl (by rw [alloc_size]; omega)
    (fun b hb _ => grew_alloc w _ b hb) (AV.In.imp (fun i hu => .inl hu) a hi)
    (fun b hb => by
      simp only [blk, Option.some.injEq] at hb
      subst hb
      exact ⟨by rw [alloc_size]; omega, .inl (Nat.le_refl _)⟩)
    (fun cle => ⟨rfl, w.heap.size, cs.toList, rfl, heap_alloc_new w _, by simp only [ctx, sizeT, hk]; exact hlen, hf, crel_mono cle a _ hi hc⟩)
  unfold Oper.wp
  rw [hrun]
  refine hK _ _ _ (fun i => U i ∨ i = nid) (by rw [updF_one]; exact hs') ?_ (show U nid ∨ nid = nid from .inr rfl) (fun i hu => .inl hu) (fun i hu => Or.imp id (fun e => by omega) hu) (fun i hu => if_neg fun (e : i = nid) => hn (by rw [← e]; exact hu))
  rw [updF_one]
  exact ⟨⟨w.heap.size, 0, by simp [ctx, turnS], by simp [ctx, turnS, poff], rfl⟩, rfl⟩
theorem alloc_sound (hT : TblOK P T) {o : Oper} {hp : HpF} {nid : Nat} {t : TypeId} {a : AV} (hop : o.op = .alloc t) (hz : zeroAV T t = some a) : OpSound P T o lks hp nid (.ptr t nid []) [(nid, some (.box t a))] [] := by
  refine new_box hT fun E U lkf hpf σ ac w hs ho => ?_
  unfold zeroAV at hz
  split at hz
  · rename_i k hk
    obtain ⟨i, z, hi, hsz, hz0, hzc, hzg, _⟩ := (hT.ty _ _ hk).info
    obtain ⟨h1, h2, h3⟩ := (zero_rel (C := ctx T.kd E hpf σ w) hT rfl U k).1 t a _ hk hz hzc
    refine ⟨z.cells, ?_, h1, h2, h3⟩
    simp [execOp, hop, Instr.alloc, zeroValue, typeInfo, hi, hz0, newVar, newRow]
  · cases hz
theorem box_sound (hT : TblOK P T) {o : Oper} {hp : HpF} {nid : Nat} {t : TypeId} {x : Operand} {a : AV} (hop : o.op = .box t x) (hx : opd T lks t x = some a) (hf : fitsB T a t = true) : OpSound P T o lks hp nid (.ptr t nid []) [(nid, some (.box t a))] [] := by
  refine new_box hT fun E U lkf hpf σ ac w hs ho => ?_
  obtain ⟨hv, hi⟩ := opd_rel (C := ctx T.kd E hpf σ w) rfl ho (fun s hs' => by subst hs'; simp [tmpsOf, hop, Op.operands]) hx
  have hfit := fitsB_fits hf
  have hv1 := v1_of_vrel hv (by rintro xs rfl; simp [fitsB] at hf; split at hf <;> simp_all [AV.ty])
  refine ⟨(ac.eval x).cells, ?_, hv1.1, hfit, hi⟩
  simp [execOp, hop, Instr.box, newVar, newRow]
/-- A variable that nothing writes any more. -/
theorem bx_sound (hT : TblOK P T) {o : Oper} {hp : HpF} {nid : Nat} {t : TypeId} {x : Operand} {a : AV} (hop : o.op = .box t x) (hx : opd T lks t x = some a) (hf : fitsB T a t = true) : OpSound P T o lks hp nid (.bx t true a) [] [] := by
  refine OpSound.grow fun E U lkf hpf σ ac w hs ho _ => ?_
  obtain ⟨hv, hi⟩ := opd_rel (C := ctx T.kd E hpf σ w) rfl ho (fun s hs' => by subst hs'; simp [tmpsOf, hop, Op.operands]) hx
  have hfit := fitsB_fits hf
  have hv1 := v1_of_vrel hv (by rintro xs rfl; simp [fitsB] at hf; split at hf <;> simp_all [AV.ty])
  have hg : Grew w (w.alloc (.cells (ac.eval x).cells t)) (fun _ => False) := ⟨rfl, rfl, rfl, by rw [alloc_size]; omega, fun b hb _ => grew_alloc w _ b hb⟩
  have hcle := (hs.grow hg).2
  have hku : ∃ ku, T.kd t = some ku := by
    cases hk : T.kd t with
    | none => simp [AV.fits, hk] at hfit
    | some ku => exact ⟨ku, rfl⟩
  obtain ⟨ku, hku⟩ := hku
  refine ⟨.pointer (some ⟨w.heap.size, 0, none⟩), w.alloc (.cells (ac.eval x).cells t), by simp [execOp, hop, Instr.box, newVar, newRow], hg, ⟨⟨⟨w.heap.size, 0, none⟩, (ac.eval x).cells.toList, rfl, rfl, ⟨fun i oi hoi hb => ?_, .inl hs.grew.size⟩, ?_, ?_, hfit, crel_mono hcle a _ hi hv1.1, fun j v hj => ?_⟩, rfl⟩, hi⟩
  · exact absurd (hs.trk i oi _ hoi hb).1 (Nat.lt_irrefl _)
  · show w.heap.size < (w.alloc _).heap.size
    rw [alloc_size]; omega
  · have := crel_len (C := ctx T.kd E hpf σ w) hku hfit hv1.1
    simpa [ctx, sizeT, hku] using this
  · have := heap_alloc_new w (.cells (ac.eval x).cells t)
    simp only [ctx, World.cell?, this, Option.isSome_none, Bool.false_eq_true, if_false, Nat.zero_add]
    simpa using hj
/-- The address of data, told as data. -/
theorem pd_sound (hT : TblOK P T) {o : Oper} {hp : HpF} {nid : Nat} {t : TypeId} {ke : K} {x : Operand} {a : AV} {fr : Bool} {y : D} (hop : o.op = .box t x) (hx : opd T lks t x = some a) (hf : fitsB T a t = true) (hk : T.kd o.type = some (.pd t ke)) (htd : toD hp a = some (fr, y, [])) :
    OpSound P T o lks hp nid (.d o.type fr (.n [y])) [] [] := by
  refine OpSound.grow fun E U lkf hpf σ ac w hs ho _ => ?_
  obtain ⟨hv, hi⟩ := opd_rel (C := ctx T.kd E hpf σ w) rfl ho (fun s hs' => by subst hs'; simp [tmpsOf, hop, Op.operands]) hx
  have hfit := fitsB_fits hf
  have hv1 := v1_of_vrel hv (by rintro xs rfl; simp [toD] at htd)
  have hg : Grew w (w.alloc (.cells (ac.eval x).cells t)) (fun _ => False) := ⟨rfl, rfl, rfl, by rw [alloc_size]; omega, fun b hb _ => grew_alloc w _ b hb⟩
  have hcle := (hs.grow hg).2
  have hke : T.kd t = some ke := (pd_ty (hT.ty _ _ hk)).2
  have hty : a.ty = some t := by
    cases a <;> first | (simp [toD] at htd; done) | skip
    all_goals
      unfold AV.fits at hfit
      rw [hke] at hfit
      cases ke <;> first | exact hfit | (simp at hfit)
  have hr := toD_rel hT hs (F' := fF E hpf σ fr) fr (fun b hb _ => hb) a fr y [] t ke _ htd id (fun i hi => by cases hi) (fun i hi => by cases hi) hty hke hv1.1
  refine ⟨.pointer (some ⟨w.heap.size, 0, none⟩), w.alloc (.cells (ac.eval x).cells t), by simp [execOp, hop, Instr.box, newVar, newRow], hg, ⟨⟨_, hk, .inr ⟨y, [], ⟨w.heap.size, 0, none⟩, (ac.eval x).cells.toList, rfl, rfl, rfl, ⟨fun i oi hoi hb => ?_, .inl hs.grew.size⟩, ?_, hcle.rep hr, fun j v hj => ?_⟩⟩, by simp [AV.aggB, ctx, hk, K.agg, aggV]⟩, trivial⟩
  · exact absurd (hs.trk i oi _ hoi hb).1 (Nat.lt_irrefl _)
  · show w.heap.size < (w.alloc _).heap.size
    rw [alloc_size]; omega
  · have := heap_alloc_new w (.cells (ac.eval x).cells t)
    simp only [ctx, World.cell?, this, Option.isSome_none, Bool.false_eq_true, if_false, Nat.zero_add]
    simpa using hj
/-! ### 4. Rows -/
theorem owns_one {w : World} {base size n : Nat} {e : TypeId} {v : Value} {xs : List Value} (h : w.ownsRow base e size v n xs) : v.oneCell' = true := by
  rcases h.2 with ⟨rfl, _⟩ | ⟨g, cap, cur, rfl, _⟩ <;> rfl
theorem owns_agg {w : World} {base size n : Nat} {e : TypeId} {v : Value} {xs : List Value} (h : w.ownsRow base e size v n xs) : aggV v = false := by
  rcases h.2 with ⟨rfl, _⟩ | ⟨g, cap, cur, rfl, _⟩ <;> rfl
theorem new_row (hT : TblOK P T) {o : Oper} {hp : HpF} {nid : Nat} {t e : TypeId} {fr : Bool} {xs : List D} {k : K} {gone seen : List Nat} {u : Upd} (hu : ∀ hpf : HpF, updF hpf u = turnH hpf gone nid (.row e fr xs) ∨ ((∃ i ∈ gone, hpf i = none) ∨ nid ∈ gone)) (hkt : T.kd t = some (.slice e k))
    (h : ∀ (E : Ent) (U : Nat → Prop) (lkf : Nat → Option AV) (hpf : HpF) (σ : Nat → Hd) (ac : Act) (w : World), SRel T.kd E U lkf hpf σ ac w → Opn (ctx T.kd E hpf σ w) ac U lks (tmpsOf o.op) → (∀ i ∈ seen, hpf i = hp i) → ¬ U nid →
      (∀ i ∈ gone, U i ∧ ∃ oi, hpf i = some oi) ∧
      ∃ v w' css, (execOp ac.eval o).run P w = .ok (.value v) w' ∧ w'.os = w.os ∧ w'.tape = w.tape ∧ w'.output = w.output ∧ w.heap.size ≤ w'.heap.size ∧
        (∀ b, b < w.heap.size → (∀ i o, hpf i = some o → i ∈ gone → blk (σ i).v ≠ some b) → w'.heap[b]? = w.heap[b]?) ∧ w'.ownsRow 0 e k.size v xs.length css.flatten ∧
        (∀ b, blk v = some b → w.heap.size ≤ b ∨ ∃ j oj, hpf j = some oj ∧ j ∈ gone ∧ blk (σ j).v = some b) ∧
        (CLe (ctx T.kd E hpf σ w) (ctx T.kd E (turnH hpf gone nid (.row e fr xs)) (turnS σ nid ⟨v, e⟩) w') U → All2 (RepC (fF E (turnH hpf gone nid (.row e fr xs)) (turnS σ nid ⟨v, e⟩) fr) w' k) xs css)) :
    OpSound P T o lks hp nid (.own t nid) u seen := by
  intro E U lkf hpf σ ac w K Q hs ho hseen hfr hK
  have hn : ¬ U nid := by simpa using hfr 0 (by omega)
  obtain ⟨hgone, v, w', css, hrun, hos, htape, hout, hsz, hblk, hown, hb, hall⟩ := h E U lkf hpf σ ac w hs ho hseen hn
  have hu' : updF hpf u = turnH hpf gone nid (.row e fr xs) := by
    rcases hu hpf with h | ⟨i, hi, hi'⟩ | hi
    · exact h
    · obtain ⟨_, oi, hoi⟩ := hgone i hi
      rw [hoi] at hi'
      cases hi'
    · exact absurd (hgone nid hi).1 hn
  have hlt : ∀ b, blk v = some b → b < w'.heap.size := fun b hb => by
    rcases hown.2 with ⟨rfl, _⟩ | ⟨g, cap, cur, rfl, _, hh, _⟩
    · simp [blk] at hb
    · simp only [blk, Option.some.injEq] at hb
      subst hb
      exact (Array.getElem?_eq_some_iff.1 hh).1
  obtain ⟨hs', hcle⟩ := hs.turn gone nid (.row e fr xs) ⟨v, e⟩ w' (fun hu => absurd hu hn) hos htape hout hsz
    (fun b hb h => hblk b hb (fun i o ho hi => h i o ho (.inr hi))) trivial
    (fun b hb' => ⟨hlt b hb', (hb b hb').imp id fun ⟨j, oj, h1, h2, h3⟩ => ⟨j, oj, h1, .inr h2, h3⟩⟩)
    (fun cle => ⟨rfl, k, css, (slice_elem (hT.ty _ _ hkt)).2, hall cle, hown⟩)
  unfold Oper.wp
  rw [hrun]
  refine hK _ _ _ (fun i => U i ∨ i = nid) (by rw [hu']; exact hs') ?_ (show U nid ∨ nid = nid from .inr rfl) (fun i hu => .inl hu) (fun i hu => Or.imp id (fun e => by omega) hu) (fun i hu => if_neg fun (e : i = nid) => hn (by rw [← e]; exact hu))
  rw [hu']
  have hag := owns_agg hown
  refine ⟨⟨?_, ?_, .inl ⟨k, ?_⟩⟩, hag⟩
  · rw [cells_self hag]; simp [ctx, turnS]
  · simpa [ctx, turnS] using owns_one hown
  · simpa [ctx, turnS] using hkt
/-- Elements that were there before. -/
theorem all2_cle {C C' : Ctx} {U : Nat → Prop} (h : CLe C C' U) {fr : Bool} {k : K} {xs : List D} {css : List (List Value)} (ha : All2 (RepC (C.F fr) C.w k) xs css) : All2 (RepC (C'.F fr) C'.w k) xs css :=
  ha.imp fun a b _ hab => h.rep hab
theorem fF_le {E : Ent} {hp : HpF} {σ : Nat → Hd} {f g : Bool} (hfg : g = true → f = true) {b : Nat} (h : fF E hp σ f b) : fF E hp σ g b := by
  refine ⟨h.1, ?_⟩
  rcases h.2 with h | h | h | ⟨h1, h2⟩
  · exact .inl h
  · exact .inr (.inl h)
  · exact .inr (.inr (.inl h))
  · refine .inr (.inr (.inr ⟨?_, h2⟩))
    cases g
    · rfl
    · rw [hfg rfl] at h1; cases h1
theorem all2_fr {E : Ent} {hp : HpF} {σ : Nat → Hd} {w : World} {f g : Bool} (hfg : g = true → f = true) {k : K} {xs : List D} {css : List (List Value)} (ha : All2 (RepC (fF E hp σ f) w k) xs css) : All2 (RepC (fF E hp σ g) w k) xs css :=
  ha.imp fun a b _ hab => rep_fr hfg hab
theorem madeCells_zero {z : Array Value} {n s : Nat} (hz : z.size = s) : ∃ css : List (List Value), css.flatten = (madeCells z (n * s)).toList ∧ css.length = n ∧ ∀ c ∈ css, c = z.toList := by
  refine ⟨List.replicate n z.toList, ?_, by simp, fun c hc => (List.mem_replicate.1 hc).2⟩
  subst hz
  apply List.ext_getElem?
  intro j
  rcases Nat.eq_zero_or_pos z.size with h0 | hp
  · have h0' : z = #[] := Array.eq_empty_of_size_eq_zero h0
    subst h0'
    simp [madeCells]
  · simp only [madeCells, Array.toList_map, Array.toList_range, List.getElem?_map]
    by_cases hj : j < n * z.size
    · simp only [List.getElem?_range hj, Option.map_some]
      have hmod : j % z.size < z.size := Nat.mod_lt _ hp
      have : z[j % z.size]! = z[j % z.size] := by simp [hmod]
      rw [this]
      clear this
      induction n generalizing j with
      | zero => simp at hj
      | succ n ih =>
        rw [List.replicate_succ, List.flatten_cons]
        by_cases h1 : j < z.size
        · rw [List.getElem?_append_left (by simpa using h1)]
          simp [Nat.mod_eq_of_lt h1, h1]
        · rw [List.getElem?_append_right (by simpa using Nat.le_of_not_lt h1)]
          have e : j % z.size = (j - z.size) % z.size := by
            conv => lhs; rw [← Nat.sub_add_cancel (Nat.le_of_not_lt h1)]
            rw [Nat.add_mod_right]
          have := ih (j := j - z.size) (by rw [Nat.succ_mul] at hj; omega) (Nat.mod_lt _ hp)
          simp only [Array.length_toList]
          rw [this]
          simp [e]
    · rw [List.getElem?_eq_none (by simp; omega), List.getElem?_eq_none (by simp [List.length_flatten]; omega)]
      rfl
theorem all2_rep {α β : Type} {Q : α → β → Prop} {a : α} : ∀ {m : List β}, (∀ b ∈ m, Q a b) → All2 Q (List.replicate m.length a) m
  | [], _ => .nil
  | b :: m, h => by
    rw [List.length_cons, List.replicate_succ]
    exact .cons (h b (by simp)) (all2_rep fun c hc => h c (by simp [hc]))
theorem opEq_eval {l c : Operand} (h : opEq l c = true) (a : Act) : a.eval l = a.eval c := by
  unfold opEq at h
  split at h
  · rw [Nat.beq_eq] at h; subst h; rfl
  · simp only [Bool.and_eq_true, decide_eq_true_eq, beq_iff_eq] at h
    rw [h.1, h.2]
  · cases h
theorem evMake_sound (hT : TblOK P T) {o : Oper} {hp : HpF} {nid : Nat} {t : TypeId} {l c : Operand} {n : AV} {k : OK R} {r : R} (hop : o.op = .makeSlice t l c) (hlc : opEq l c = true) (hl : opd T lks T.intT l = some n) (h : evMake T t nid n k = some r) :
    ∃ av u seen, k av u seen = some r ∧ OpSound P T o lks hp nid av u seen := by
  unfold evMake at h
  split at h
  · rename_i e ke i hk hi
    split at h
    · rename_i hd
      obtain ⟨hk', hc⟩ := cond_some h
      simp only [Bool.and_eq_true, decide_eq_true_eq] at hc
      refine ⟨_, _, _, hk', new_row hT (gone := []) (k := ke) (fun hpf => .inl (updF_one _ _ _)) hk fun E U lkf hpf σ ac w hs ho hseen hn => ⟨fun i hi => by simp at hi, ?_⟩⟩
      have hes := slice_elem (hT.ty _ _ hk)
      obtain ⟨hv, _⟩ := opd_rel (C := ctx T.kd E hpf σ w) rfl ho (fun s hs' => by subst hs'; simp [tmpsOf, hop, Op.operands]) hl
      obtain ⟨ik, hv⟩ := intAV_rel (C := ctx T.kd E hpf σ w) rfl hi hv
      obtain ⟨it, z, hit, hsz, hz0, hzc, hzg, hby⟩ := (hT.ty _ _ hes.2).info
      have hlim := lim_le hc.2
      have hzs : z.cells.size = ke.size := by have := (zero_len ke).1 _ hzc; simpa using this
      have hb1 : it.bytes * i.toNat ≤ 281474976710656 := by
        have := Nat.mul_le_mul hby hlim
        omega
      obtain ⟨w', hrun, hown, hg⟩ := run_make_full (P := P) w 0 t e it z ke.size hes.1 hit hz0 hsz ik ik i.toNat hb1 (by simp only [maxLen]; omega) (Nat.zero_le _)
      obtain ⟨css, hc1, hc2, hc3⟩ := madeCells_zero (z := z.cells) (n := i.toNat) hzs
      refine ⟨.slice (some ⟨w.heap.size, 0, none⟩) i.toNat i.toNat, w', css, ?_, hg.os, hg.tape, hg.output, hg.size, fun b hb _ => hg.block b hb (by simp), ?_, fun b hb => ?_, fun cle => ?_⟩
      · rw [Int.toNat_of_nonneg hc.1] at hrun
        simp only [execOp, hop, ← opEq_eval hlc ac, hv, Sem.run_bind, hrun, Result.andThen_ok, Sem.run_pure]
      · rw [hc1]
        simpa using hown
      · simp only [blk, Option.some.injEq] at hb
        exact .inl (by omega)
      · have : List.replicate i.toNat (D.n []) = List.replicate css.length (D.n []) := by rw [hc2]
        rw [this]
        exact all2_rep fun b hb => by rw [hc3 b hb]; exact (zero_rep _ _ ke hd).1 _ hzc
    · cases h
  · cases h
theorem grew_of {w w' : World} (hg : w.grownBy w' none) : Grew w w' fun _ => False := ⟨hg.os, hg.tape, hg.output, hg.size, fun b hb _ => hg.block b hb (by simp)⟩

/-! ### 5. A part of a row -/
theorem OpSound.drop {o : Oper} {hp : HpF} {nid : Nat} {av : AV} {gone seen : List Nat} {u : Upd} (hu : ∀ hpf : HpF, updF hpf u = fun i => if i ∈ gone then none else hpf i)
    (h : ∀ (E : Ent) (U : Nat → Prop) (lkf : Nat → Option AV) (hpf : HpF) (σ : Nat → Hd) (ac : Act) (w : World), SRel T.kd E U lkf hpf σ ac w → Opn (ctx T.kd E hpf σ w) ac U lks (tmpsOf o.op) → (∀ i ∈ seen, hpf i = hp i) →
      ∃ v, (execOp ac.eval o).run P w = .ok (.value v) w ∧ av.In U ∧ VRel (ctx T.kd E (fun i => if i ∈ gone then none else hpf i) σ w) av v) : OpSound P T o lks hp nid av u seen := by
  intro E U lkf hpf σ ac w K Q hs ho hseen hfr hK
  obtain ⟨v, hrun, hin, hv⟩ := h E U lkf hpf σ ac w hs ho hseen
  unfold Oper.wp
  rw [hrun]
  exact hK _ _ σ U (by rw [hu]; exact (hs.drop gone).1) (by rw [hu]; exact hv) hin (fun _ h => h) (fun _ h => .inl h) (fun _ _ => rfl)
theorem ownsRow_take {w : World} {e : TypeId} {size g n c m : Nat} {xs : List Value} (h : w.ownsRow 0 e size (.slice (some ⟨g, 0, none⟩) n c) n xs) (hm : m ≤ n) : w.ownsRow 0 e size (.slice (some ⟨g, 0, none⟩) m c) m (xs.take (m * size)) := by
  obtain ⟨hl, h⟩ := h
  rcases h with ⟨hv, _⟩ | ⟨g', cap, cur, hv, h0, hh, hn, hc, hcur, htk⟩
  · simp at hv
  · simp only [Value.slice.injEq, Option.some.injEq, Addr.mk.injEq, and_true, true_and] at hv
    obtain ⟨rfl, rfl⟩ := hv
    have hms : m * size ≤ n * size := Nat.mul_le_mul_right _ hm
    refine ⟨by rw [List.length_take, hl]; omega, .inr ⟨g, c, cur, rfl, h0, hh, by omega, hc, hcur, ?_⟩⟩
    rw [← htk, List.take_take, Nat.min_eq_left hms]
theorem flatten_take {Q : D → List Value → Prop} {n : Nat} {xs : List D} {css : List (List Value)} (h : All2 Q xs css) (hQ : ∀ x cs, Q x cs → cs.length = n) (m : Nat) : (css.take m).flatten = css.flatten.take (m * n) := by
  induction h generalizing m with
  | nil => simp
  | @cons a b l l' hab _ ih =>
    cases m with
    | zero => simp
    | succ m =>
      have hb : b.take (m * n + n) = b := List.take_of_length_le (by rw [hQ _ _ hab]; omega)
      rw [List.take_succ_cons, List.flatten_cons, List.flatten_cons, ih m, List.take_append, hQ _ _ hab, Nat.succ_mul, Nat.add_sub_cancel, hb]
theorem drop_F {kd : TypeId → Option K} {E : Ent} {U : Nat → Prop} {lks : Nat → Option AV} {hp : HpF} {σ : Nat → Hd} {a : Act} {w : World} (h : SRel kd E U lks hp σ a w) {gone : List Nat} {i : Nat} {oi : AO} (hi : i ∈ gone) (ho : hp i = some oi) {b : Nat} (hb : blk (σ i).v = some b) (fr : Bool) {hp' : HpF} (hp'le : ∀ j o, hp' j = some o → (j ∉ gone ∧ hp j = some o)) :
    fF E hp' σ fr b := by
  refine ⟨fun j o hj hbj => ?_, (h.trk i oi b ho hb).2.imp id .inl⟩
  obtain ⟨h1, h2⟩ := hp'le j o hj
  exact h.inj i j oi o b ho h2 (fun e => h1 (e ▸ hi)) hb hbj
theorem drop_le {hp : HpF} {gone : List Nat} : ∀ j o, (fun i => if i ∈ gone then none else hp i : HpF) j = some o → (j ∉ gone ∧ hp j = some o) := fun j o h => by
  simp only at h
  split at h
  · cases h
  · rename_i hn; exact ⟨hn, h⟩
theorem fF_drop {E : Ent} {hp hp' : HpF} {σ : Nat → Hd} {fr : Bool} (hle : ∀ j o, hp' j = some o → ∃ o', hp j = some o') {b : Nat} (h : fF E hp σ fr b) : fF E hp' σ fr b :=
  ⟨fun j o hj => let ⟨o', h'⟩ := hle j o hj; h.1 j o' h', h.2⟩
/-- A row that becomes data. -/
theorem row_data (hT : TblOK P T) {E : Ent} {U : Nat → Prop} {lkf : Nat → Option AV} {hpf : HpF} {σ : Nat → Hd} {a : Act} {w : World} (hs : SRel T.kd E U lkf hpf σ a w) {t e : TypeId} {i : Nat} {fr : Bool} {xs : List D} {ke : K}
    (hhp : hpf i = some (.row e fr xs)) (hk : T.kd t = some (.slice (σ i).t ke)) :
    RepC (fF E (fun j => if j ∈ [i] then none else hpf j) σ fr) w (.slice (σ i).t ke) (.n xs) [(σ i).v] :=
  toD_rel hT hs (hp := hpf) fr (fun b hb _ => fF_drop (fun j o h => ⟨o, (drop_le j o h).2⟩) hb) (.own t i) fr (.n xs) [i] t _ [(σ i).v] (by simp [toD, hhp]) id (fun j hj => rfl) (fun j hj b hb => by
    have : j = i := by simpa using hj
    subst this
    exact drop_F hs (gone := [j]) (by simp) hhp hb fr drop_le) rfl hk ⟨rfl, by
      obtain ⟨_, k', css, hk', _, hrow⟩ := row_at (hs.obj i _ hhp).1
      rcases hrow with ⟨hv, _⟩ | ⟨g, n, c, hv, _⟩ <;> (show (σ i).v.oneCell' = true; rw [show (σ i).v = _ from hv]; rfl), .inl ⟨ke, hk⟩⟩
theorem own_val {C : Ctx} {t : TypeId} {i : Nat} {v : Value} (h : VRel C (.own t i) v) : v = (C.σ i).v ∧ aggV v = false ∧ ((∃ k, C.kd t = some (.slice (C.σ i).t k)) ∨ ∃ kt vt r, C.kd t = some (.map kt vt) ∧ (C.σ i).t = t ∧ (C.σ i).v = .map (some r)) := by
  have hx1 := v1_of_vrel h (by simp)
  simp only [V1, CRel] at hx1
  obtain ⟨⟨hc, hag, hor⟩, hga⟩ := hx1
  exact ⟨cells_one hc hga, hga, hor⟩
theorem own_rel {C : Ctx} {t : TypeId} {i : Nat} {v : Value} {e : TypeId} {fr : Bool} {xs : List D} (ho : ORel C (.row e fr xs) (C.σ i)) (h : VRel C (.own t i) v) : v = (C.σ i).v ∧ aggV v = false ∧ ∃ k, C.kd t = some (.slice (C.σ i).t k) := by
  obtain ⟨h1, h2, h3⟩ := own_val h
  refine ⟨h1, h2, h3.resolve_right ?_⟩
  rintro ⟨kt, vt, r, _, _, hv⟩
  obtain ⟨_, k', css, _, _, hrow⟩ := row_at ho
  rcases hrow with ⟨hv', _⟩ | ⟨g, n, c, hv', _⟩ <;> (rw [hv] at hv'; cases hv')
/-- What a bound that is given says of the machine's operand. -/
theorem optAV_rel {C : Ctx} (hkd : C.kd = T.kd) {a : Act} {U : Nat → Prop} {ts : List Nat} (hO : Opn C a U lks ts) {t : TypeId} {x : Option Operand} {l : Option AV} (hx : ∀ y, x = some y → ∀ s, y = .tmp s → s ∈ ts) (h : optAV T lks t x = some l) : OptRel C l (x.map a.eval) := by
  unfold optAV at h
  split at h
  · cases h; exact .none
  · rename_i y
    split at h
    · rename_i b hb
      cases h
      exact .some (opd_rel hkd hO (hx y rfl) hb).1
    · cases h
theorem isB_of (hC : C.kd = T.kd) {l : AV} {i : Int} {vlo : Option Value} (hi : intAV T l = some i) (h : OptRel C (some l) vlo) (h0 : 0 ≤ i) (d : Nat) : IsB vlo d i.toNat := by
  cases h with | some h =>
  obtain ⟨k1, rfl⟩ := intAV_rel hC hi h
  exact isB_some h0
theorem slice_own_data (hT : TblOK P T) {o : Oper} {hp : HpF} {nid : Nat} {t e : TypeId} {x : Operand} {lo hi : Option Operand} {i : Nat} {fr : Bool} {xs : List D} {la lh : Option AV} {l h : Nat} (hop : o.op = .slice t x lo hi none) (hx : opd T lks t x = some (.own t i)) (hhp : hp i = some (.row e fr xs))
    (h1 : optAV T lks T.intT lo = some la) (h2 : optAV T lks T.intT hi = some lh) (hb1 : ∀ (C : Ctx) v, C.kd = T.kd → OptRel C la v → IsB v 0 l) (hb2 : ∀ (C : Ctx) v, C.kd = T.kd → OptRel C lh v → IsB v xs.length h) (hlh : l ≤ h) (hhn : h ≤ xs.length) :
    OpSound P T o lks hp nid (.d t fr (.n ((xs.take h).drop l))) [(i, none)] [i] := by
  refine OpSound.drop (gone := [i]) (fun hpf => updF_drops hpf [i]) fun E U lkf hpf σ ac w hs ho hseen => ?_
  have hhpf : hpf i = some (.row e fr xs) := by rw [hseen i (by simp)]; exact hhp
  obtain ⟨hv, _⟩ := opd_rel (C := ctx T.kd E hpf σ w) rfl ho (fun s hs' => by subst hs'; simp [tmpsOf, hop, Op.operands]) hx
  obtain ⟨hv, hga, ke, hke⟩ := own_rel (hs.obj i _ hhpf).1 hv
  have hv : ac.eval x = (σ i).v := hv
  have hke : T.kd t = some (.slice (σ i).t ke) := hke
  have hr := row_data hT hs hhpf hke
  have ho1 := hb1 _ _ rfl (optAV_rel (C := ctx T.kd E hpf σ w) rfl ho (fun y hy s hs' => by subst hy hs'; simp [tmpsOf, hop, Op.operands]) h1)
  have ho2 := hb2 _ _ rfl (optAV_rel (C := ctx T.kd E hpf σ w) rfl ho (fun y hy s hs' => by subst hy hs'; simp [tmpsOf, hop, Op.operands]) h2)
  simp only [RepC] at hr
  obtain ⟨A, c, hc, hlc, hcm, hel⟩ := hr
  have hc' : (σ i).v = .slice A xs.length c := by simpa [D.list] using hc
  have hes := slice_elem (hT.ty _ _ hke)
  have hrun := run_sliceD (P := P) (hT.ty _ _ hke) (hT.ty _ _ hes.2) w A xs.length c _ _ l h ho1 ho2 hlh (by simp only [list_n] at hlc; omega)
  refine ⟨.slice (if c = l then A else A.map (·.add (l * ke.size))) (h - l) (c - l), ?_, trivial, d_of_rep (C := ctx T.kd E (fun j => if j ∈ [i] then none else hpf j) σ w) hke (rep_sub (x := .n xs) hlh hhn hlc hcm hel (σ i).t) rfl⟩
  simp only [execOp, hop, hv, hc', Option.map_none, Sem.run_bind, hrun, Result.andThen_ok, Sem.run_pure]
theorem slice_own_head (hT : TblOK P T) {o : Oper} {hp : HpF} {nid : Nat} {t e : TypeId} {x : Operand} {hi : Option Operand} {i : Nat} {fr : Bool} {xs : List D} {lh : Option AV} {h : Nat} (hop : o.op = .slice t x none hi none) (hx : opd T lks t x = some (.own t i)) (hhp : hp i = some (.row e fr xs))
    (h2 : optAV T lks T.intT hi = some lh) (hb2 : ∀ (C : Ctx) v, C.kd = T.kd → OptRel C lh v → IsB v xs.length h) (hhn : h ≤ xs.length) {ke : K} (hke : T.kd t = some (.slice e ke)) :
    OpSound P T o lks hp nid (.own t nid) [(i, none), (nid, some (.row e fr (xs.take h)))] [i] := by
  refine new_row hT (gone := [i]) (k := ke) (fun hpf => .inl (updF_two _ _ _ _)) hke fun E U lkf hpf σ ac w hs ho hseen hn => ?_
  have hhpf : hpf i = some (.row e fr xs) := by rw [hseen i (by simp)]; exact hhp
  obtain ⟨hor, hUi, _⟩ := hs.obj i _ hhpf
  refine ⟨fun j hj => by have : j = i := by simpa using hj
                         subst this; exact ⟨hUi, _, hhpf⟩, ?_⟩
  obtain ⟨hv, _⟩ := opd_rel (C := ctx T.kd E hpf σ w) rfl ho (fun s hs' => by subst hs'; simp [tmpsOf, hop, Op.operands]) hx
  obtain ⟨hv, hga, _, _⟩ := own_rel hor hv
  have hv : ac.eval x = (σ i).v := hv
  have ho2 := hb2 _ _ rfl (optAV_rel (C := ctx T.kd E hpf σ w) rfl ho (fun y hy s hs' => by subst hy hs'; simp [tmpsOf, hop, Op.operands]) h2)
  have hes := slice_elem (hT.ty _ _ hke)
  simp only [ORel] at hor
  obtain ⟨hte, k', css, hk', hall, hown⟩ := hor
  have : k' = ke := by have h1 := hes.2; rw [show T.kd e = some k' from hk'] at h1; cases h1; rfl
  subst this
  have hft := flatten_take hall (fun x cs h => rep_len h) h
  have hown0 := hown
  rcases hown.2 with ⟨hv0, hn0⟩ | ⟨g, c, cur, hv0, _, hh, hnc, _⟩
  · have hh0 : h = 0 := by omega
    subst hh0
    have hrun := run_sliceD (P := P) (hT.ty _ _ hke) (hT.ty _ _ hes.2) w none 0 0 none _ 0 0 isB_none (by rw [hn0] at ho2; exact ho2) (Nat.le_refl _) (Nat.le_refl _)
    refine ⟨.slice none 0 0, w, [], ?_, rfl, rfl, rfl, Nat.le_refl _, fun b hb _ => rfl, ?_, fun b hb => by simp [blk] at hb, fun cle => by simpa using All2.nil⟩
    · simp only [execOp, hop, hv, hv0, Option.map_none, Sem.run_bind, hrun, Result.andThen_ok, Sem.run_pure]
      simp
    · simpa using World.ownsRow_nil w 0 e k'.size
  · have hrun := run_sliceD (P := P) (hT.ty _ _ hke) (hT.ty _ _ hes.2) w (some ⟨g, 0, none⟩) xs.length c none _ 0 h isB_none ho2 (Nat.zero_le _) (by omega)
    have hA : (if c = 0 then some (⟨g, 0, none⟩ : Addr) else (some (⟨g, 0, none⟩ : Addr)).map (·.add (0 * k'.size))) = some ⟨g, 0, none⟩ := by
      split
      · rfl
      · simp [Addr.add]
    rw [hA] at hrun
    refine ⟨.slice (some ⟨g, 0, none⟩) h c, w, css.take h, ?_, rfl, rfl, rfl, Nat.le_refl _, fun b hb _ => rfl, ?_, fun b hb => ?_, fun cle => ?_⟩
    · simp only [execOp, hop, hv, hv0, Option.map_none, Sem.run_bind, hrun, Result.andThen_ok, Sem.run_pure, Nat.sub_zero]
    · rw [hft, List.length_take, Nat.min_eq_left hhn]
      rw [hv0] at hown
      exact ownsRow_take hown hhn
    · exact .inr ⟨i, _, hhpf, by simp, by rw [hv0]; exact hb⟩
    · exact (all2_cle cle hall).take h
end
end Go.Ev
