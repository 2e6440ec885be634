/- The evaluator: what a shape that was filled says. -/
import Derived.Test.YtpmkecjkbajcgaaGreatDoorEvFit
namespace Go.Ev
open Go
set_option linter.unusedVariables false
set_option linter.unusedSimpArgs false
section
variable {P : Program} {T : Tbl}
def TrC (C C' : Ctx) (a b : AV) : Prop := (∀ cs, CRel C a cs → CRel C' b cs ∧ b.aggB C'.kd = a.aggB C.kd) ∧ (∀ t, a.fits C.kd t → b.fits C'.kd t) ∧ (∀ v, VRel C a v → VRel C' b v)
theorem TrC.v1 {C C' : Ctx} {a b : AV} {v : Value} (h : TrC C C' a b) (hv : V1 C a v) : V1 C' b v := ⟨(h.1 _ hv.1).1, by rw [(h.1 _ hv.1).2]; exact hv.2⟩
theorem TrC.mk' {C C' : Ctx} {a b : AV} (h1 : ∀ cs, CRel C a cs → CRel C' b cs ∧ b.aggB C'.kd = a.aggB C.kd) (h2 : ∀ t, a.fits C.kd t → b.fits C'.kd t) (hnt : ∀ xs, a ≠ .tup xs) : TrC C C' a b :=
  ⟨h1, h2, fun v hv => by
    have hv1 := v1_of_vrel hv hnt
    exact vrel_of_v1 ⟨(h1 _ hv1.1).1, by rw [(h1 _ hv1.1).2]; exact hv1.2⟩⟩
theorem trC_rels {C C' : Ctx} (hkd : C'.kd = C.kd) : ∀ {as bs : List AV}, All2 (TrC C C') as bs → ∀ {k : K} {cs : List Value}, CRels C k as cs → CRels C' k bs cs
  | _, _, .nil, k, cs, h => by cases k <;> first | exact h | simp [CRels] at h
  | _, _, .cons (a := a) (b := b) h t, k, cs, hr => by
    cases k with
    | pair t' k r =>
      simp only [CRels] at hr ⊢
      obtain ⟨c1, c2, hc, hl, hf, h1, h2⟩ := hr
      exact ⟨c1, c2, hc, hl, h.2.1 _ hf, (h.1 _ h1).1, trC_rels hkd t h2⟩
    | _ => simp [CRels] at hr
theorem trC_relL {C C' : Ctx} : ∀ {as bs : List AV}, All2 (TrC C C') as bs → ∀ {vs : List Value}, CRelL C as vs → CRelL C' bs vs
  | _, _, .nil, vs, h => h
  | _, _, .cons (a := a) (b := b) h t, vs, hr => by
    simp only [CRelL] at hr ⊢
    obtain ⟨v, r, hv, hg, h1, h2⟩ := hr
    exact ⟨v, r, hv, by rw [(h.1 _ h1).2]; exact hg, (h.1 _ h1).1, trC_relL t h2⟩
theorem trC_v1s {C C' : Ctx} : ∀ {as bs : List AV}, All2 (TrC C C') as bs → ∀ {vs : List Value}, All2 (V1 C) as vs → All2 (V1 C') bs vs
  | _, _, .nil, _, .nil => .nil
  | _, _, .cons h t, _, .cons h' t' => .cons (h.v1 h') (trC_v1s t t')
/-- An outer state, an inner one, and which object stands for which. -/
structure Hand (T : Tbl) (E E' : Ent) (U : Nat → Prop) (lkf : Nat → Option AV) (hp hp' : HpF) (σ σ' : Nat → Hd) (a : Act) (w : World) (ob : Nat → Option SO) (M : List (Nat × Option Nat)) (lent : List Nat) (lf : Bool) : Prop where
  hs : SRel T.kd E U lkf hp σ a w
  hσ : ∀ i j, lk M i = some (some j) → σ' i = σ j
  hnil : ∀ i e fr, lk M i = some none → ob i = some (.row e fr) → σ' i = ⟨.slice none 0 0, e⟩
  hF : ∀ fr b, fF E hp σ fr b → b < w.heap.size → fF E' hp' σ' fr b
  hL : ∀ i ∈ lent, ∀ oi, hp i = some oi → ∀ b, blk (σ i).v = some b → fF E' hp' σ' false b ∧ (lf = true → fF E' hp' σ' true b)
def FitR (f f' : Fit) (new : List D) : Prop := f'.ds = new.reverse ++ f.ds ∧ MapLe f.mp f'.mp ∧ (∀ i ∈ f.lent, i ∈ f'.lent) ∧ (MapInj f.mp → MapInj f'.mp)
theorem FitR.trans {f f1 f2 : Fit} {a b : List D} (h1 : FitR f f1 a) (h2 : FitR f1 f2 b) : FitR f f2 (a ++ b) :=
  ⟨by rw [h2.1, h1.1]; simp, h1.2.1.trans h2.2.1, fun i hi => h2.2.2.1 i (h1.2.2.1 i hi), fun hi => h2.2.2.2 (h1.2.2.2 hi)⟩
theorem fitR_bind {f f' : Fit} {i : Nat} {j : Option Nat} (h : f.bindO i j = some f') : FitR f f' [] := by
  obtain ⟨h1, h2, h3, h4, h5, h6⟩ := bindO_spec h
  exact ⟨by simpa using h1, h4, fun i hi => by rw [h2]; exact hi, h6⟩
section
variable {E E' : Ent} {U : Nat → Prop} {lkf : Nat → Option AV} {hp hp' : HpF} {σ σ' : Nat → Hd} {a : Act} {w : World} {ob : Nat → Option SO} {M : List (Nat × Option Nat)} {lent : List Nat} {lf : Bool}
theorem fits_same {kd : TypeId → Option K} {a b : AV} {t0 : TypeId} (ha : a.ty = some t0) (hb : b.ty = some t0) (t : TypeId) (h : a.fits kd t) : b.fits kd t := by
  unfold AV.fits at h ⊢
  split at h
  · obtain ⟨_, _, _, rfl | rfl | ⟨_, rfl⟩ | ⟨_, _, rfl⟩ | ⟨_, _, rfl⟩⟩ := h <;> simp [AV.ty] at ha
  · obtain ⟨_, _, rfl⟩ := h; simp [AV.ty] at ha
  · exact h.elim
  · rw [hb, ← ha]; exact h
theorem ty_kd {C : Ctx} {a : AV} {t : TypeId} {cs : List Value} (ht : a.ty = some t) (h : CRel C a cs) : ∃ k, C.kd t = some k := by
  cases a <;> simp only [AV.ty, Option.some.injEq] at ht <;> try cases ht
  · simp only [CRel] at h; obtain ⟨k, hk, _⟩ := h; exact ⟨k, hk⟩
  · simp only [CRel] at h; obtain ⟨_, e, k, hk⟩ := h; exact ⟨_, hk⟩
  · simp only [CRel] at h; obtain ⟨_, _, ⟨k, hk⟩ | ⟨_, _, _, hk, _⟩⟩ := h <;> exact ⟨_, hk⟩
  · simp only [CRel] at h; obtain ⟨k, hk, _⟩ := h; exact ⟨_, hk⟩
theorem fF_false {E : Ent} {hp : HpF} {σ : Nat → Hd} {b : Nat} (fr : Bool) (h : fF E hp σ fr b) : fF E hp σ false b := fF_le (g := false) (by simp) h
mutual
theorem fitV_rel (hT : TblOK P T) (H : Hand T E E' U lkf hp hp' σ σ' a w ob M lent lf) : ∀ (sv : SV) (av : AV) (f f' : Fit), fitV T.kd hp ob sv av f = some f' → sv.small = true → (lf = true ∨ sv.loose = true) → MapLe f'.mp M → (∀ i ∈ f'.lent, i ∈ lent) →
    ∃ new, FitR f f' new ∧ ∀ L j, Emb L j new → ∃ b, fillV L sv j = (b, j + new.length) ∧ b.In (· < 16) ∧ TrC (ctx T.kd E hp σ w) (ctx T.kd E' hp' σ' w) av b
  | .d t fr, av, f, f', h, hsm, hlo, hM, hlent => by
    simp only [fitV] at h
    split at h
    · rename_i t' ht
      split at h
      · rename_i hb
        have := beq_to hb
        subst this
        split at h
        · rename_i g x l htd
          split at h
          · rename_i hc
            cases h
            refine ⟨[x], ⟨rfl, fun _ _ h => h, fun i hi => List.mem_append_right _ hi, id⟩, fun L j hL => ⟨.d t fr x, ?_, trivial, TrC.mk' (fun cs hr => ?_) (fun t0 hf => fits_same ht rfl t0 hf) (by rintro xs rfl; simp [AV.ty] at ht)⟩⟩
            · have := hL 0 x rfl
              simp only [Nat.add_zero] at this
              simp [fillV, this]
            · obtain ⟨k, hk⟩ := ty_kd ht hr
              have hk : T.kd t = some k := hk
              have hagg : (AV.d t fr x).aggB T.kd = av.aggB T.kd := by
                have := (crel_shape (C := ctx T.kd E hp σ w) hk (ty_fits ht hr) hr).1
                rw [show av.aggB T.kd = k.agg from this]
                simp [AV.aggB, hk]
              refine ⟨⟨k, hk, ?_⟩, hagg⟩
              by_cases hflat : k.flat = true
              · have hr' := toD_rel hT H.hs (F' := fun b => fF E' hp' σ' false b) g (fun b hb hlt => fF_false g (H.hF g b hb hlt)) av g x l t k cs htd id (fun _ _ => rfl) (fun i hi b hb => by
                  obtain ⟨oi, hoi⟩ := toD_gone av _ _ _ htd i hi
                  exact (H.hL i (hlent i (List.mem_append_left _ hi)) oi hoi b hb).1) ht hk hr
                exact (rep_flat hflat).1 _ _ hr'
              · have hfg : fr = true → g = true := fun e => by
                  simp only [flatT, hk, e, Bool.not_true, Bool.false_or, Bool.or_eq_true] at hc
                  exact hc.resolve_right hflat
                have := toD_rel hT H.hs (F' := fun b => fF E' hp' σ' fr b) g (fun b hb hlt => by
                  have h1 := H.hF g b hb hlt
                  exact fF_le hfg h1) av g x l t k cs htd id (fun _ _ => rfl) (fun i hi b hb => by
                  obtain ⟨oi, hoi⟩ := toD_gone av _ _ _ htd i hi
                  have := H.hL i (hlent i (List.mem_append_left _ hi)) oi hoi b hb
                  cases fr with
                  | false => exact this.1
                  | true =>
                    rcases hlo with hlo | hlo
                    · exact this.2 hlo
                    · simp [SV.loose] at hlo) ht hk hr
                exact this
          · cases h
        · cases h
      · cases h
    · cases h
  | .nil t, av, f, f', h, hsm, hlo, hM, hlent => by
    cases av <;> simp only [fitV] at h <;> try cases h
    split at h
    · rename_i hb
      cases h
      have := beq_to hb
      subst this
      exact ⟨[], ⟨rfl, fun _ _ h => h, fun i hi => hi, id⟩, fun L j hL => ⟨.nil t, rfl, trivial, TrC.mk' (fun cs hr => ⟨hr, rfl⟩) (fun t0 hf => hf) (by simp)⟩⟩
    · cases h
  | .own t i, av, f, f', h, hsm, hlo, hM, hlent => by
    have hi16 : i < 16 := by
      have : i ≤ 15 := by simpa [SV.small, Nat.blt] using hsm
      omega
    cases av <;> simp only [fitV] at h <;> try cases h
    · rename_i t'
      split at h
      · rename_i e fr e' k' hb hob hkd
        split at h
        · rename_i hee
          have := beq_to hb
          subst this
          have := beq_to hee
          subst this
          obtain ⟨h1, h2, h3, h4, h5, h6⟩ := bindO_spec h
          have hσ := H.hnil i _ _ (hM _ _ h5) hob
          refine ⟨[], fitR_bind h, fun L j hL => ⟨.own t i, rfl, hi16, TrC.mk' (fun cs hr => ?_) (fun t0 hf => fits_same (a := .nil t) rfl rfl t0 hf) (by simp)⟩⟩
          simp only [CRel] at hr ⊢
          obtain ⟨rfl, _⟩ := hr
          have hσ' : (ctx T.kd E' hp' σ' w).σ i = ⟨.slice none 0 0, e⟩ := hσ
          rw [hσ']
          exact ⟨⟨rfl, rfl, .inl ⟨_, hkd⟩⟩, rfl⟩
        · cases h
      · cases h
    · rename_i t' j0
      split at h
      · rename_i hb
        have := beq_to hb
        subst this
        obtain ⟨h1, h2, h3, h4, h5, h6⟩ := bindO_spec h
        have hσ := H.hσ i j0 (hM _ _ h5)
        refine ⟨[], fitR_bind h, fun L j hL => ⟨.own t i, rfl, hi16, TrC.mk' (fun cs hr => ?_) (fun t0 hf => fits_same (a := .own t j0) rfl rfl t0 hf) (by simp)⟩⟩
        simp only [CRel] at hr ⊢
        rw [show (ctx T.kd E' hp' σ' w).σ i = (ctx T.kd E hp σ w).σ j0 from hσ]
        exact ⟨hr, rfl⟩
      · cases h
  | .ptr t i p, av, f, f', h, hsm, hlo, hM, hlent => by
    have hi16 : i < 16 := by
      have : i ≤ 15 := by simpa [SV.small, Nat.blt] using hsm
      omega
    cases av <;> simp only [fitV] at h <;> try cases h
    rename_i t' j0 q
    split at h
    · rename_i hb
      simp only [Bool.and_eq_true] at hb
      have := beq_to hb.1
      subst this
      have := eqL_eq hb.2
      subst this
      obtain ⟨h1, h2, h3, h4, h5, h6⟩ := bindO_spec h
      have hσ := H.hσ i j0 (hM _ _ h5)
      refine ⟨[], fitR_bind h, fun L j hL => ⟨.ptr t i p, rfl, hi16, TrC.mk' (fun cs hr => ?_) (fun t0 hf => ?_) (by simp)⟩⟩
      · simp only [CRel] at hr ⊢
        rw [show (ctx T.kd E' hp' σ' w).σ i = (ctx T.kd E hp σ w).σ j0 from hσ]
        exact ⟨hr, rfl⟩
      · unfold AV.fits at hf ⊢
        split at hf
        · rename_i hk
          rw [show (ctx T.kd E' hp' σ' w).kd t0 = some .ptr from hk]
          exact ⟨_, _, _, .inl rfl⟩
        · obtain ⟨_, _, h⟩ := hf; cases h
        · exact hf.elim
        · simp [AV.ty] at hf
    · cases h
  | .nilp, av, f, f', h, hsm, hlo, hM, hlent => by
    cases av <;> simp only [fitV] at h <;> cases h
    exact ⟨[], ⟨rfl, fun _ _ h => h, fun i hi => hi, id⟩, fun L j hL => ⟨.nilp, rfl, trivial, TrC.mk' (fun cs hr => ⟨hr, rfl⟩) (fun t0 hf => hf) (by simp)⟩⟩
  | .agg t fs, av, f, f', h, hsm, hlo, hM, hlent => by
    cases av <;> simp only [fitV] at h <;> try cases h
    rename_i t' as
    split at h
    · rename_i hb
      have := beq_to hb
      subst this
      obtain ⟨new, hR, hfill⟩ := fitVs_rel hT H fs as f f' h (by simpa [SV.small] using hsm) (by simpa [SV.loose] using hlo) hM hlent
      refine ⟨new, hR, fun L j hL => ?_⟩
      obtain ⟨bs, h1, h2, h3⟩ := hfill L j hL
      refine ⟨.agg t bs, by simp [fillV, h1], h2, TrC.mk' (fun cs hr => ?_) (fun t0 hf => fits_same (a := .agg t as) rfl rfl t0 hf) (by simp)⟩
      simp only [CRel] at hr ⊢
      obtain ⟨k, hk, hg, hr⟩ := hr
      exact ⟨⟨k, hk, hg, trC_rels (C := ctx T.kd E hp σ w) (C' := ctx T.kd E' hp' σ' w) rfl h3 hr⟩, rfl⟩
    · cases h
  | .fn g fs, av, f, f', h, hsm, hlo, hM, hlent => by
    cases av <;> simp only [fitV] at h <;> try cases h
    rename_i g' as
    split at h
    · rename_i hb
      have := beq_to hb
      subst this
      obtain ⟨new, hR, hfill⟩ := fitVs_rel hT H fs as f f' h (by simpa [SV.small] using hsm) (by simpa [SV.loose] using hlo) hM hlent
      refine ⟨new, hR, fun L j hL => ?_⟩
      obtain ⟨bs, h1, h2, h3⟩ := hfill L j hL
      refine ⟨.fn g bs, by simp [fillV, h1], h2, TrC.mk' (fun cs hr => ?_) (fun t0 hf => ?_) (by simp)⟩
      · simp only [CRel] at hr ⊢
        obtain ⟨vs, hc, hr⟩ := hr
        exact ⟨⟨vs, hc, trC_relL h3 hr⟩, rfl⟩
      · unfold AV.fits at hf ⊢
        split at hf
        · obtain ⟨_, _, _, h | h | ⟨_, h⟩ | ⟨_, _, h⟩ | ⟨_, _, h⟩⟩ := hf <;> cases h
        · rename_i hk
          rw [show (ctx T.kd E' hp' σ' w).kd t0 = some .opq from hk]
          exact ⟨_, _, rfl⟩
        · exact hf.elim
        · simp [AV.ty] at hf
    · cases h
  | .tup fs, av, f, f', h, hsm, hlo, hM, hlent => by
    cases av <;> simp only [fitV] at h <;> try cases h
    rename_i as
    obtain ⟨new, hR, hfill⟩ := fitVs_rel hT H fs as f f' h (by simpa [SV.small] using hsm) (by simpa [SV.loose] using hlo) hM hlent
    refine ⟨new, hR, fun L j hL => ?_⟩
    obtain ⟨bs, h1, h2, h3⟩ := hfill L j hL
    refine ⟨.tup bs, by simp [fillV, h1], h2, fun cs hr => by simp [CRel] at hr, fun t0 hf => ?_, fun v hv => ?_⟩
    · unfold AV.fits at hf
      split at hf
      · obtain ⟨_, _, _, h | h | ⟨_, h⟩ | ⟨_, _, h⟩ | ⟨_, _, h⟩⟩ := hf <;> cases h
      · obtain ⟨_, _, h⟩ := hf; cases h
      · exact hf.elim
      · simp [AV.ty] at hf
    · simp only [VRel] at hv ⊢
      obtain ⟨vs, hv, hr⟩ := hv
      exact ⟨vs, hv, trC_v1s h3 hr⟩
  | .bx t fr sv, av, f, f', h, hsm, hlo, hM, hlent => by
    cases av <;> simp only [fitV] at h <;> try cases h
    rename_i t' g v
    split at h
    · rename_i hb
      simp only [Bool.and_eq_true] at hb
      have := beq_to hb.1
      subst this
      have hfg : fr = true → g = true := fun e => by simpa [e] using hb.2
      obtain ⟨new, hR, hfill⟩ := fitV_rel hT H sv v f f' h (by simpa [SV.small] using hsm) (hlo.imp id fun h => by simp only [SV.loose, Bool.and_eq_true] at h; exact h.2) hM hlent
      refine ⟨new, hR, fun L j hL => ?_⟩
      obtain ⟨b, h1, h2, h3⟩ := hfill L j hL
      refine ⟨.bx t fr b, by simp [fillV, h1], h2, TrC.mk' (fun cs hr => ?_) (fun t0 hf => ?_) (by simp)⟩
      · simp only [CRel] at hr ⊢
        obtain ⟨ad, ds, hc, hsp, hF, hlt, hl, hf, hr, hat⟩ := hr
        refine ⟨⟨ad, ds, hc, hsp, fF_le hfg (H.hF g _ hF hlt), hlt, hl, h3.2.1 _ hf, (h3.1 _ hr).1, hat⟩, rfl⟩
      · unfold AV.fits at hf ⊢
        split at hf
        · rename_i hk
          rw [show (ctx T.kd E' hp' σ' w).kd t0 = some .ptr from hk]
          exact ⟨t, 0, [], .inr (.inr (.inr (.inr ⟨_, _, rfl⟩)))⟩
        · obtain ⟨_, _, h⟩ := hf; cases h
        · exact hf.elim
        · simp [AV.ty] at hf
    · cases h
  | .optr t i p, av, f, f', h, hsm, hlo, hM, hlent => by
    have hi16 : i < 16 := by
      have : i ≤ 15 := by simpa [SV.small, Nat.blt] using hsm
      omega
    cases av <;> simp only [fitV] at h <;> try cases h
    rename_i t' k0 j0 q
    split at h
    · rename_i hb
      simp only [Bool.and_eq_true] at hb
      have := beq_to hb.1
      subst this
      have := eqL_eq hb.2
      subst this
      split at h
      · rename_i f1 hbd
        cases h
        obtain ⟨h1, h2, h3, h4, h5, h6⟩ := bindO_spec hbd
        have hσ := H.hσ i k0 (hM _ _ h5)
        refine ⟨[.i j0], (fitR_bind hbd).trans ⟨rfl, fun _ _ h => h, fun i hi => hi, id⟩, fun L j hL => ⟨.optr t i j0 p, ?_, hi16, TrC.mk' (fun cs hr => ?_) (fun t0 hf => ?_) (by simp)⟩⟩
        · have := hL 0 _ rfl
          simp only [Nat.add_zero] at this
          simp [fillV, this, D.int]
        · simp only [CRel] at hr ⊢
          rw [show (ctx T.kd E' hp' σ' w).σ i = (ctx T.kd E hp σ w).σ k0 from hσ]
          exact ⟨hr, rfl⟩
        · unfold AV.fits at hf ⊢
          split at hf
          · rename_i hk
            rw [show (ctx T.kd E' hp' σ' w).kd t0 = some .ptr from hk]
            exact ⟨_, _, _, .inr (.inr (.inl ⟨_, rfl⟩))⟩
          · obtain ⟨_, _, h⟩ := hf; cases h
          · exact hf.elim
          · simp [AV.ty] at hf
      · cases h
    · cases h
theorem fitVs_rel (hT : TblOK P T) (H : Hand T E E' U lkf hp hp' σ σ' a w ob M lent lf) : ∀ (svs : List SV) (avs : List AV) (f f' : Fit), fitVs T.kd hp ob svs avs f = some f' → SV.smalls svs = true → (lf = true ∨ SV.looses svs = true) → MapLe f'.mp M → (∀ i ∈ f'.lent, i ∈ lent) →
    ∃ new, FitR f f' new ∧ ∀ L j, Emb L j new → ∃ bs, fillVs L svs j = (bs, j + new.length) ∧ AV.Ins (· < 16) bs ∧ All2 (TrC (ctx T.kd E hp σ w) (ctx T.kd E' hp' σ' w)) avs bs
  | [], avs, f, f', h, hsm, hlo, hM, hlent => by
    cases avs <;> simp only [fitVs] at h <;> cases h
    exact ⟨[], ⟨rfl, fun _ _ h => h, fun i hi => hi, id⟩, fun L j hL => ⟨[], rfl, trivial, .nil⟩⟩
  | sv :: r, avs, f, f', h, hsm, hlo, hM, hlent => by
    cases avs with
    | nil => simp [fitVs] at h
    | cons av avs =>
      simp only [fitVs] at h
      split at h
      · rename_i f1 h1
        simp only [SV.smalls, Bool.and_eq_true] at hsm
        have hlo1 : lf = true ∨ sv.loose = true := hlo.imp id fun h => by simp only [SV.looses, Bool.and_eq_true] at h; exact h.1
        have hlo2 : lf = true ∨ SV.looses r = true := hlo.imp id fun h => by simp only [SV.looses, Bool.and_eq_true] at h; exact h.2
        obtain ⟨n2, hR2, hf2⟩ := fitVs_rel hT H r avs f1 f' h hsm.2 hlo2 hM hlent
        obtain ⟨n1, hR1, hf1⟩ := fitV_rel hT H sv av f f1 h1 hsm.1 hlo1 (hR2.2.1.trans hM) (fun i hi => hlent i (hR2.2.2.1 i hi))
        refine ⟨n1 ++ n2, hR1.trans hR2, fun L j hL => ?_⟩
        obtain ⟨b, e1, e2, e3⟩ := hf1 L j hL.left
        obtain ⟨bs, e4, e5, e6⟩ := hf2 L (j + n1.length) hL.right
        exact ⟨b :: bs, by simp [fillVs, e1, e4, Nat.add_assoc], ⟨e2, e5⟩, .cons e3 e6⟩
      · cases h
end
theorem fillV_w {L : List D} : ∀ (sv : SV) (j : Nat) s b c v, (fillV L sv j).1 ≠ .w s b c v := fun sv j s b c v h => by
  cases sv <;> simp [fillV] at h
theorem slot_of_val {C : Ctx} {tmps : Array Value} {s : Nat} {b : AV} (hw : ∀ s' b' c v, b ≠ .w s' b' c v) (h : ∃ v, tmps[s]? = some v ∧ VRel C b v) : SlotRel C tmps s b := by
  cases b with
  | w s' b' c v => exact absurd rfl (hw s' b' c v)
  | _ => exact h
theorem fitV_w {kd : TypeId → Option K} {hp : HpF} {ob : Nat → Option SO} (sv : SV) (f : Fit) (s : Nat) (b c : Bool) (v : AV) : fitV kd hp ob sv (.w s b c v) f = none := by
  cases sv <;> simp [fitV, AV.ty]
theorem fitSl_rel (hT : TblOK P T) (H : Hand T E E' U lkf hp hp' σ σ' a w ob M lent lf) {lks : Nat → Option AV} {tmps : Array Value} (hlks : ∀ s av, lks s = some av → SlotRel (ctx T.kd E hp σ w) tmps s av) : ∀ (sl : List (Nat × SV)) (f f' : Fit), fitSl T.kd hp ob lks sl f = some f' → (∀ p ∈ sl, p.2.small = true) → (lf = true ∨ ∀ p ∈ sl, p.2.loose = true) → MapLe f'.mp M → (∀ i ∈ f'.lent, i ∈ lent) →
    ∃ new, FitR f f' new ∧ ∀ L j, Emb L j new → ∃ sls, fillSl L sl j = (sls, j + new.length) ∧ ∀ s b, (s, b) ∈ sls → SlotRel (ctx T.kd E' hp' σ' w) tmps s b ∧ b.In (· < 16)
  | [], f, f', h, hsm, hlo, hM, hlent => by
    simp only [fitSl] at h
    cases h
    exact ⟨[], ⟨rfl, fun _ _ h => h, fun i hi => hi, id⟩, fun L j hL => ⟨[], rfl, fun s b hb => by simp at hb⟩⟩
  | (s0, v) :: r, f, f', h, hsm, hlo, hM, hlent => by
    simp only [fitSl] at h
    split at h
    · rename_i av hav
      split at h
      · rename_i f1 h1
        obtain ⟨n2, hR2, hf2⟩ := fitSl_rel hT H hlks r f1 f' h (fun p hp => hsm p (by simp [hp])) (hlo.imp id fun h p hp => h p (by simp [hp])) hM hlent
        obtain ⟨n1, hR1, hf1⟩ := fitV_rel hT H v av f f1 h1 (hsm _ (List.mem_cons_self ..)) (hlo.imp id fun h => h _ (List.mem_cons_self ..)) (hR2.2.1.trans hM) (fun i hi => hlent i (hR2.2.2.1 i hi))
        refine ⟨n1 ++ n2, hR1.trans hR2, fun L j hL => ?_⟩
        obtain ⟨b, e1, e2, e3⟩ := hf1 L j hL.left
        obtain ⟨sls, e4, e5⟩ := hf2 L (j + n1.length) hL.right
        refine ⟨(s0, b) :: sls, by simp [fillSl, e1, e4, Nat.add_assoc], fun s b' hb => ?_⟩
        rcases List.mem_cons.1 hb with hb | hb
        · cases hb
          have hw : ∀ s b c v, av ≠ .w s b c v := by
            rintro s b c v rfl
            rw [fitV_w] at h1
            cases h1
          obtain ⟨val, hv1, hv2⟩ := slot_val hw (hlks _ _ hav)
          refine ⟨slot_of_val (fun s' b' c' v' he => ?_) ⟨val, hv1, e3.2.2 _ hv2⟩, e2⟩
          have := fillV_w (L := L) v j s' b' c' v'
          rw [e1] at this
          exact this he
        · exact e5 s b' hb
      · cases h
    · cases h
theorem fitOb_rel (hT : TblOK P T) (H : Hand T E E' U lkf hp hp' σ σ' a w ob M lent lf) : ∀ (l : List (Nat × SO)) (f f' : Fit), fitOb T.kd hp ob l f = some f' → (∀ p ∈ l, p.1 < 16 ∧ p.2.small = true) → (lf = true ∨ ∀ p ∈ l, p.2.loose = true) → MapLe f'.mp M → (∀ i ∈ f'.lent, i ∈ lent) →
    ∃ new, FitR f f' new ∧ ∀ L j, Emb L j new → ∃ obs, fillOb L l j = (obs, j + new.length) ∧ ∀ i o, (i, o) ∈ obs → i < 16 ∧ o.In (· < 16) ∧ ORel (ctx T.kd E' hp' σ' w) o (σ' i)
  | [], f, f', h, hsm, hlo, hM, hlent => by
    simp only [fitOb] at h
    cases h
    exact ⟨[], ⟨rfl, fun _ _ h => h, fun i hi => hi, id⟩, fun L j hL => ⟨[], rfl, fun s b hb => by simp at hb⟩⟩
  | (i, o) :: r, f, f', h, hsm, hlo, hM, hlent => by
    simp only [fitOb] at h
    have hi16 := (hsm _ (List.mem_cons_self ..)).1
    have hsm' : ∀ p ∈ r, p.1 < 16 ∧ p.2.small = true := fun p hp => hsm p (by simp [hp])
    have hlo' : lf = true ∨ ∀ p ∈ r, p.2.loose = true := hlo.imp id fun h p hp => h p (by simp [hp])
    split at h
    · rename_i j0 hj0
      split at h
      · rename_i e g xs e' fr hh
        split at h
        · rename_i hc
          simp only [Bool.and_eq_true] at hc
          have := beq_to hc.1
          subst this
          obtain ⟨n2, hR2, hf2⟩ := fitOb_rel hT H r _ f' h hsm' hlo' hM hlent
          have hR1 : FitR f { f with ds := .n xs :: f.ds, seen := j0 :: f.seen } [.n xs] := ⟨rfl, fun _ _ h => h, fun i hi => hi, id⟩
          have hσ := H.hσ i j0 (hM _ _ (hR2.2.1 _ _ hj0))
          refine ⟨[.n xs] ++ n2, hR1.trans hR2, fun L j hL => ?_⟩
          obtain ⟨obs, e4, e5⟩ := hf2 L (j + 1) hL.right
          have e0 : D.nth L j = .n xs := by simpa using hL.left 0 _ rfl
          refine ⟨(i, .row e fr xs) :: obs, by simp [fillOb, fillO, e4, e0, list_n, Nat.add_assoc, Nat.add_comm 1], fun i' o' hm => ?_⟩
          rcases List.mem_cons.1 hm with hm | hm
          · cases hm
            refine ⟨hi16, trivial, ?_⟩
            obtain ⟨hor, _, _⟩ := H.hs.obj j0 _ hh
            rw [show σ' i = σ j0 from hσ]
            simp only [ORel] at hor ⊢
            obtain ⟨ht, k, css, hk, hall, hown⟩ := hor
            refine ⟨ht, k, css, hk, ?_, hown⟩
            by_cases hflat : k.flat = true
            · exact hall.imp fun x cs _ hr => (rep_flat hflat).1 _ _ hr
            · have hfg : fr = true → g = true := fun e1 => by
                have h2 := hc.2
                simp only [flatT, show T.kd e = some k from hk, e1, Bool.not_true, Bool.false_or, Bool.or_eq_true] at h2
                exact h2.resolve_right hflat
              exact hall.imp fun x cs _ hr => (rep_mono (w := w) (w' := w) (fun b hb hlt => ⟨fF_le hfg (H.hF g b hb hlt), rfl⟩) (Nat.le_refl _) k).1 _ _ hr
          · exact e5 i' o' hm
        · cases h
      · rename_i t av t' v hh
        split at h
        · rename_i hb
          have := beq_to hb
          subst this
          split at h
          · rename_i f1 h1
            obtain ⟨n2, hR2, hf2⟩ := fitOb_rel hT H r f1 f' h hsm' hlo' hM hlent
            obtain ⟨n1, hR1, hf1⟩ := fitV_rel hT H v av _ f1 h1 (by simpa [SO.small] using (hsm _ (List.mem_cons_self ..)).2) (hlo.imp id fun h => by simpa [SO.loose] using h _ (List.mem_cons_self ..)) (hR2.2.1.trans hM) (fun i hi => hlent i (hR2.2.2.1 i hi))
            have hR0 : FitR f { f with seen := j0 :: f.seen } [] := ⟨rfl, fun _ _ h => h, fun i hi => hi, id⟩
            have hR1' : FitR f f1 n1 := by simpa using hR0.trans hR1
            have hσ := H.hσ i j0 (hM _ _ (hR2.2.1 _ _ (hR1'.2.1 _ _ hj0)))
            refine ⟨n1 ++ n2, hR1'.trans hR2, fun L j hL => ?_⟩
            obtain ⟨b, e1, e2, e3⟩ := hf1 L j hL.left
            obtain ⟨obs, e4, e5⟩ := hf2 L (j + n1.length) hL.right
            refine ⟨(i, .box t b) :: obs, by simp [fillOb, fillO, e1, e4, Nat.add_assoc], fun i' o' hm => ?_⟩
            rcases List.mem_cons.1 hm with hm | hm
            · cases hm
              refine ⟨hi16, e2, ?_⟩
              obtain ⟨hor, _, _⟩ := H.hs.obj j0 _ hh
              rw [show σ' i = σ j0 from hσ]
              simp only [ORel] at hor ⊢
              obtain ⟨ht, g, cs, hv, hheap, hl, hf, hr⟩ := hor
              exact ⟨ht, g, cs, hv, hheap, hl, e3.2.1 _ hf, (e3.1 _ hr).1⟩
            · exact e5 i' o' hm
          · cases h
        · cases h
      · rename_i t g xs t' fr hh
        split at h
        · rename_i hc
          simp only [Bool.and_eq_true] at hc
          have := beq_to hc.1
          subst this
          obtain ⟨n2, hR2, hf2⟩ := fitOb_rel hT H r _ f' h hsm' hlo' hM hlent
          have hR1 : FitR f { f with ds := .n xs :: f.ds, seen := j0 :: f.seen } [.n xs] := ⟨rfl, fun _ _ h => h, fun i hi => hi, id⟩
          have hσ := H.hσ i j0 (hM _ _ (hR2.2.1 _ _ hj0))
          refine ⟨[.n xs] ++ n2, hR1.trans hR2, fun L j hL => ?_⟩
          obtain ⟨obs, e4, e5⟩ := hf2 L (j + 1) hL.right
          have e0 : D.nth L j = .n xs := by simpa using hL.left 0 _ rfl
          refine ⟨(i, .map t fr xs) :: obs, by simp [fillOb, fillO, e4, e0, list_n, Nat.add_assoc, Nat.add_comm 1], fun i' o' hm => ?_⟩
          rcases List.mem_cons.1 hm with hm | hm
          · cases hm
            refine ⟨hi16, trivial, ?_⟩
            obtain ⟨hor, _, _⟩ := H.hs.obj j0 _ hh
            rw [show σ' i = σ j0 from hσ]
            simp only [ORel] at hor ⊢
            obtain ⟨ht, kt, vt, kk, kv, r', es, clock, h1, h2, h3, h4, hv, hheap, hall⟩ := hor
            have hfg : fr = true → g = true := fun e1 => by
              have h2 := hc.2
              rw [e1] at h2
              simpa using h2
            have mono := fun {k : K} {y : D} {cs : List Value} (hr : RepC ((ctx T.kd E hp σ w).F g) w k y cs) => (rep_mono (w := w) (w' := w) (fun b hb hlt => ⟨fF_le hfg (H.hF g b hb hlt), rfl⟩) (Nat.le_refl _) k).1 y cs hr
            exact ⟨ht, kt, vt, kk, kv, r', es, clock, h1, h2, h3, h4, hv, hheap, hall.imp fun x e _ hr => ⟨mono hr.1, mono hr.2.1, hr.2.2⟩⟩
          · exact e5 i' o' hm
        · cases h
      · cases h
    · rename_i hj0
      split at h
      · rename_i e fr e2 fr2 hob
        split at h
        · rename_i k0 hb hk
          have := beq_to hb
          subst this
          obtain ⟨n2, hR2, hf2⟩ := fitOb_rel hT H r _ f' h hsm' hlo' hM hlent
          have hR1 : FitR f { f with ds := .n [] :: f.ds } [.n []] := ⟨rfl, fun _ _ h => h, fun i hi => hi, id⟩
          have hσ := H.hnil i _ _ (hM _ _ (hR2.2.1 _ _ hj0)) hob
          refine ⟨[.n []] ++ n2, hR1.trans hR2, fun L j hL => ?_⟩
          obtain ⟨obs, e4, e5⟩ := hf2 L (j + 1) hL.right
          have e0 : D.nth L j = .n [] := by simpa using hL.left 0 _ rfl
          refine ⟨(i, .row e fr []) :: obs, by simp [fillOb, fillO, e4, e0, list_n, Nat.add_assoc, Nat.add_comm 1], fun i' o' hm => ?_⟩
          rcases List.mem_cons.1 hm with hm | hm
          · cases hm
            refine ⟨hi16, trivial, ?_⟩
            rw [hσ]
            exact ⟨rfl, _, [], hk, .nil, World.ownsRow_nil w 0 e _⟩
          · exact e5 i' o' hm
        · cases h
      · cases h
    · cases h
mutual
theorem fitV_le : ∀ (sv : SV) (av : AV) (f f' : Fit), fitV T.kd hp ob sv av f = some f' → MapLe f.mp f'.mp
  | .d t fr, av, f, f', h => by
    simp only [fitV] at h
    split at h
    · split at h
      · split at h
        · split at h
          · cases h; exact fun _ _ h => h
          · cases h
        · cases h
      · cases h
    · cases h
  | .nil t, av, f, f', h => by
    cases av <;> simp only [fitV] at h <;> try cases h
    split at h
    · cases h; exact fun _ _ h => h
    · cases h
  | .own t k, av, f, f', h => by
    cases av <;> simp only [fitV] at h <;> try cases h
    · split at h
      · split at h
        · exact (bindO_spec h).2.2.2.1
        · cases h
      · cases h
    · split at h
      · exact (bindO_spec h).2.2.2.1
      · cases h
  | .ptr t k p, av, f, f', h => by
    cases av <;> simp only [fitV] at h <;> try cases h
    split at h
    · exact (bindO_spec h).2.2.2.1
    · cases h
  | .nilp, av, f, f', h => by
    cases av <;> simp only [fitV] at h <;> cases h
    exact fun _ _ h => h
  | .bx t fr v, av, f, f', h => by
    cases av <;> simp only [fitV] at h <;> try cases h
    split at h
    · exact fitV_le v _ f f' h
    · cases h
  | .optr t k p, av, f, f', h => by
    cases av <;> simp only [fitV] at h <;> try cases h
    split at h
    · split at h
      · rename_i f1 hb
        cases h
        exact (bindO_spec hb).2.2.2.1
      · cases h
    · cases h
  | .agg t fs, av, f, f', h => by
    cases av <;> simp only [fitV] at h <;> try cases h
    split at h
    · exact fitVs_le fs _ f f' h
    · cases h
  | .fn g fs, av, f, f', h => by
    cases av <;> simp only [fitV] at h <;> try cases h
    split at h
    · exact fitVs_le fs _ f f' h
    · cases h
  | .tup fs, av, f, f', h => by
    cases av <;> simp only [fitV] at h <;> try cases h
    exact fitVs_le fs _ f f' h
theorem fitVs_le : ∀ (svs : List SV) (avs : List AV) (f f' : Fit), fitVs T.kd hp ob svs avs f = some f' → MapLe f.mp f'.mp
  | [], avs, f, f', h => by
    cases avs <;> simp only [fitVs] at h <;> cases h
    exact fun _ _ h => h
  | sv :: r, avs, f, f', h => by
    cases avs with
    | nil => simp [fitVs] at h
    | cons av avs =>
      simp only [fitVs] at h
      split at h
      · rename_i f1 h1
        exact (fitV_le sv av f f1 h1).trans (fitVs_le r avs f1 f' h)
      · cases h
end
theorem fitOb_keys : ∀ (l : List (Nat × SO)) (f f' : Fit), fitOb T.kd hp ob l f = some f' → MapLe f.mp f'.mp ∧ (∀ p ∈ l, ∃ x, lk f'.mp p.1 = some x ∧ ∀ j0, x = some j0 → ∃ oj, hp j0 = some oj)
  | [], f, f', h => by
    simp only [fitOb] at h
    cases h
    exact ⟨fun _ _ h => h, fun p hp => by simp at hp⟩
  | (i, o) :: r, f, f', h => by
    simp only [fitOb] at h
    split at h
    · rename_i j0 hj0
      split at h
      · rename_i e g xs e' fr hh
        split at h
        · obtain ⟨h1, h2⟩ := fitOb_keys r _ f' h
          refine ⟨h1, fun p hp => ?_⟩
          rcases List.mem_cons.1 hp with rfl | hp
          · exact ⟨_, h1 _ _ hj0, fun j e => by cases e; exact ⟨_, hh⟩⟩
          · exact h2 p hp
        · cases h
      · rename_i t av t' v hh
        split at h
        · split at h
          · rename_i f1 hf1
            obtain ⟨h1, h2⟩ := fitOb_keys r f1 f' h
            have h0 := fitV_le v av _ f1 hf1
            refine ⟨h0.trans h1, fun p hp => ?_⟩
            rcases List.mem_cons.1 hp with rfl | hp
            · exact ⟨_, h1 _ _ (h0 _ _ hj0), fun j e => by cases e; exact ⟨_, hh⟩⟩
            · exact h2 p hp
          · cases h
        · cases h
      · rename_i t g xs t' fr hh
        split at h
        · obtain ⟨h1, h2⟩ := fitOb_keys r _ f' h
          refine ⟨h1, fun p hp => ?_⟩
          rcases List.mem_cons.1 hp with rfl | hp
          · exact ⟨_, h1 _ _ hj0, fun j e => by cases e; exact ⟨_, hh⟩⟩
          · exact h2 p hp
        · cases h
      · cases h
    · rename_i hj0
      split at h
      · split at h
        · obtain ⟨h1, h2⟩ := fitOb_keys r _ f' h
          refine ⟨h1, fun p hp => ?_⟩
          rcases List.mem_cons.1 hp with rfl | hp
          · exact ⟨_, h1 _ _ hj0, fun j e => by cases e⟩
          · exact h2 p hp
        · cases h
      · cases h
    · cases h
theorem fillOb_keys {L : List D} : ∀ (l : List (Nat × SO)) (j : Nat) i o, (i, o) ∈ (fillOb L l j).1 → ∃ so, (i, so) ∈ l
  | [], j, i, o, h => by simp [fillOb] at h
  | (k, so) :: r, j, i, o, h => by
    simp only [fillOb] at h
    rcases List.mem_cons.1 h with h | h
    · cases h; exact ⟨so, by simp⟩
    · obtain ⟨so', h'⟩ := fillOb_keys r _ i o h
      exact ⟨so', by simp [h']⟩
/-- May be read in E', if it is not tracked. -/
def newIn (E' : Ent) (fr : Bool) (b : Nat) : Prop := E'.w0.heap.size ≤ b ∨ E'.T0 b ∨ E'.N b ∨ (fr = false ∧ E'.G b)
theorem fit_sound (hT : TblOK P T) {E E' : Ent} {U : Nat → Prop} {lkf : Nat → Option AV} {hp : HpF} {σ : Nat → Hd} {a a' : Act} {w : World} (hs : SRel T.kd E U lkf hp σ a w) {lks : Nat → Option AV} (hlks : ∀ s av, lks s = some av → SlotRel (ctx T.kd E hp σ w) a'.tmps s av)
    {mp0 : List (Nat × Option Nat)} {sh : Shape} {f : Fit} (hfit : fit T.kd hp lks mp0 sh = some f) (hsm : sh.small = true) (lf : Bool) (hlo : lf = true ∨ sh.loose = true) (hmp : MapInj mp0) (hd : ∃ ds, a'.defers = ds ++ E'.d0 ∧ Marks (untr hp σ) E'.w0.heap.size w ds)
    (hnew : ∀ fr b, fF E hp σ fr b → b < w.heap.size → newIn E' fr b) (hlent : ∀ i ∈ f.lent, ∀ oi, hp i = some oi → ∀ b, blk (σ i).v = some b → newIn E' false b ∧ (lf = true → newIn E' true b))
    (htrk : ∀ i j oj b, lk f.mp i = some (some j) → hp j = some oj → blk (σ j).v = some b → E'.w0.heap.size ≤ b ∨ E'.T0 b) (hgrew : Grew E'.w0 w E'.T0) :
    ∃ σ' : Nat → Hd, (∀ i j, lk f.mp i = some (some j) → σ' i = σ j) ∧ MapLe mp0 f.mp ∧ MapInj f.mp ∧ (∀ i o, lk (fill sh f.ds).2 i = some o → ∃ x, lk f.mp i = some x ∧ ∀ j, x = some j → ∃ oj, hp j = some oj) ∧
      SRel T.kd E' (· < 16) (lk (fill sh f.ds).1) (lk (fill sh f.ds).2) σ' a' w := by
  unfold fit at hfit
  split at hfit
  · rename_i f1 h1
    split at hfit
    · rename_i f2 h2
      split at hfit
      · rename_i hok
        simp only [Option.some.injEq] at hfit
        have hmp2 : f.mp = f2.mp := by rw [← hfit]
        have hle2 : f.lent = f2.lent := by rw [← hfit]
        have hds : f.ds = f2.ds.reverse := by rw [← hfit]; simp [revOnto_eq]
        rw [hmp2] at htrk ⊢
        rw [hle2] at hlent
        rw [hds]
        let σ' : Nat → Hd := fun i => match lk f2.mp i with
          | some (some j) => σ j
          | some none => match lk sh.ob i with
            | some (.row e _) => ⟨.slice none 0 0, e⟩
            | _ => ⟨.nilFunc, 0⟩
          | none => ⟨.nilFunc, 0⟩
        have hσ1 : ∀ i j, lk f2.mp i = some (some j) → σ' i = σ j := fun i j h => by simp only [σ', h]
        have hσ2 : ∀ i e fr, lk f2.mp i = some none → lk sh.ob i = some (.row e fr) → σ' i = ⟨.slice none 0 0, e⟩ := fun i e fr h h' => by simp only [σ', h, h']
        have hsm0 := hsm
        simp only [Shape.small, Bool.and_eq_true, List.all_eq_true] at hsm
        have hlo1 : lf = true ∨ ∀ p ∈ sh.sl, p.2.loose = true := hlo.imp id fun h => by simp only [Shape.loose, Bool.and_eq_true, List.all_eq_true] at h; exact h.1
        have hlo2 : lf = true ∨ ∀ p ∈ sh.ob, p.2.loose = true := hlo.imp id fun h => by simp only [Shape.loose, Bool.and_eq_true, List.all_eq_true] at h; exact h.2
        obtain ⟨hk1, hk2⟩ := fitOb_keys _ _ _ h2
        have hkeys : ∀ i o, lk (fill sh f2.ds.reverse).2 i = some o → ∃ x, lk f2.mp i = some x ∧ ∀ j, x = some j → ∃ oj, hp j = some oj := fun i o ho => by
          have := lk_mem ho
          obtain ⟨so, hso⟩ := fillOb_keys _ _ _ _ this
          exact hk2 _ hso
        have hunt : ∀ b, (∀ i o, hp i = some o → blk (σ i).v ≠ some b) → ∀ i o, lk (fill sh f2.ds.reverse).2 i = some o → blk (σ' i).v ≠ some b := fun b hb i o ho => by
          obtain ⟨x, hx, hj⟩ := hkeys i o ho
          cases x with
          | some j =>
            obtain ⟨oj, hoj⟩ := hj j rfl
            rw [hσ1 i j hx]
            exact hb j oj hoj
          | none =>
            simp only [σ', hx]
            split <;> simp [blk]
        have hno : ∀ i ∈ f2.lent, ∀ k, (k, some i) ∉ f2.mp := fun i hi k hk => by
          have h3 := List.all_eq_true.1 hok i hi
          rw [hasV_iff.2 ⟨k, hk⟩] at h3
          cases h3
        have H : Hand T E E' U lkf hp (lk (fill sh f2.ds.reverse).2) σ σ' a w (lk sh.ob) f2.mp f2.lent lf := {
          hs := hs
          hσ := hσ1
          hnil := hσ2
          hF := fun fr b hb hlt => ⟨hunt b hb.1, hnew fr b hb hlt⟩
          hL := fun i hi oi hoi b hb => by
            have hu : ∀ k o, lk (fill sh f2.ds.reverse).2 k = some o → blk (σ' k).v ≠ some b := fun k o ho hbk => by
              obtain ⟨x, hx, hj⟩ := hkeys k o ho
              cases x with
              | some j =>
                obtain ⟨oj, hoj⟩ := hj j rfl
                rw [hσ1 k j hx] at hbk
                have hne : i ≠ j := fun e => hno i hi k (e ▸ lk_mem hx)
                exact hs.inj i j oi oj b hoi hoj hne hb hbk
              | none =>
                simp only [σ', hx] at hbk
                split at hbk <;> simp [blk] at hbk
            obtain ⟨h3, h4⟩ := hlent i hi oi hoi b hb
            exact ⟨⟨hu, h3⟩, fun e => ⟨hu, h4 e⟩⟩ }
        obtain ⟨n2, hR2, hf2⟩ := fitOb_rel hT H sh.ob f1 f2 h2 (fun p hp => by
          have := hsm.2.1 p hp
          refine ⟨?_, this.2⟩
          have h15 : p.1 ≤ 15 := by simpa [Nat.blt] using this.1
          omega) hlo2 (fun _ _ h => h) (fun _ h => h)
        obtain ⟨n1, hR1, hf1⟩ := fitSl_rel hT H hlks sh.sl _ f1 h1 hsm.1.1 hlo1 hR2.2.1 (fun i hi => hR2.2.2.1 i hi)
        have hL : f2.ds.reverse = n1 ++ n2 := by rw [hR2.1, hR1.1]; simp
        have hemb : Emb f2.ds.reverse 0 (n1 ++ n2) := fun k x hx => by
          rw [Nat.zero_add, hL]
          exact nth_of_get hx
        obtain ⟨sls, hfs, hsls⟩ := hf1 f2.ds.reverse 0 hemb.left
        obtain ⟨obs, hfo, hobs⟩ := hf2 f2.ds.reverse (0 + n1.length) hemb.right
        have hfill : fill sh f2.ds.reverse = (sls, obs) := by simp only [fill, hfs, hfo]
        refine ⟨σ', hσ1, hR1.2.1.trans hR2.2.1, hR2.2.2.2 (hR1.2.2.2 hmp), hkeys, ?_⟩
        refine ⟨fun t av ht => ?_, fun i o ho => ?_, fun i j oi oj b hi hj hne hb hb' => ?_, fun i o b ho hb => ?_, hgrew, let ⟨ds, h1, h2⟩ := hd; ⟨ds, h1, h2.mono (Nat.le_refl _) (Nat.le_refl _) fun r _ _ hun _ => ⟨hunt r hun, rfl⟩⟩⟩
        · rw [hfill] at ht
          exact hsls t av (lk_mem ht)
        · have ho' := ho
          rw [hfill] at ho'
          obtain ⟨h3, h4, h5⟩ := hobs i o (lk_mem ho')
          exact ⟨h5, h3, h4⟩
        · obtain ⟨x, hx, hxj⟩ := hkeys i oi hi
          obtain ⟨y, hy, hyj⟩ := hkeys j oj hj
          cases x with
          | none =>
            simp only [σ', hx] at hb
            split at hb <;> simp [blk] at hb
          | some p =>
            cases y with
            | none =>
              simp only [σ', hy] at hb'
              split at hb' <;> simp [blk] at hb'
            | some q =>
              rw [hσ1 i p hx] at hb
              rw [hσ1 j q hy] at hb'
              obtain ⟨op, hop⟩ := hxj p rfl
              obtain ⟨oq, hoq⟩ := hyj q rfl
              have hpq : p ≠ q := fun e => by
                subst e
                exact hne ((hR2.2.2.2 (hR1.2.2.2 hmp)) i j p (lk_mem hx) (lk_mem hy))
              exact hs.inj p q op oq b hop hoq hpq hb hb'
        · obtain ⟨x, hx, hxj⟩ := hkeys i o ho
          cases x with
          | none =>
            simp only [σ', hx] at hb
            split at hb <;> simp [blk] at hb
          | some p =>
            rw [hσ1 i p hx] at hb
            obtain ⟨op, hop⟩ := hxj p rfl
            exact ⟨(hs.trk p op b hop hb).1, htrk i p op b hx hop hb⟩
      · cases hfit
    · cases hfit
  · cases hfit
end
end
end Go.Ev
