/- The evaluator: fields, elements, paths; memory. -/
import Derived.Test.YtpmkecjkbajcgaaGreatDoorEvTy
namespace Go.Ev
open Go
set_option linter.unusedSimpArgs false
set_option linter.unusedVariables false

/-! ### 1. Fields -/
/-- The fields' types are of the table. -/
def KF (kd : TypeId → Option K) : K → Prop
  | .pair t k r => kd t = some k ∧ KF kd r
  | _ => True
theorem kf_of_fields {kd : TypeId → Option K} : ∀ (fs : List Field) (k : K) (off : Nat), FieldsOK kd fs k off → KF kd k
  | [], k, _, h => by simp only [FieldsOK] at h; subst h; trivial
  | f :: fs, k, off, h => by
    cases k with
    | pair t k r =>
      simp only [FieldsOK] at h
      exact ⟨h.2.1, kf_of_fields fs r _ h.2.2.2.2⟩
    | _ => trivial
theorem kf_arr {kd : TypeId → Option K} {e : TypeId} {ke : K} (h : kd e = some ke) : ∀ n, KF kd (K.arrK e ke n)
  | 0 => trivial
  | n + 1 => ⟨h, kf_arr h n⟩
theorem TyOK.kf {P : Program} {kd : TypeId → Option K} {t : TypeId} {k : K} (h : TyOK P kd t k) : KF kd k := by
  obtain ⟨d, _, hd⟩ := h.desc
  cases d <;> simp only [DescOK] at hd <;> first | exact hd.elim | (subst hd; trivial) | (rcases hd with rfl | ⟨_, rfl, _⟩ <;> trivial; done) | (obtain ⟨_, hke, rfl, _⟩ := hd; exact kf_arr hke _) | (obtain ⟨_, rfl, _⟩ := hd; trivial) | exact kf_of_fields _ _ _ hd.1
theorem kf_fld {kd : TypeId → Option K} : ∀ {k : K} {j : Nat} {tj : TypeId} {kj : K}, KF kd k → k.fld j = some (tj, kj) → kd tj = some kj
  | .pair t k r, 0, tj, kj, h, hf => by simp only [K.fld, Option.some.injEq, Prod.mk.injEq] at hf; obtain ⟨rfl, rfl⟩ := hf; exact h.1
  | .pair t k r, j + 1, tj, kj, h, hf => kf_fld (k := r) h.2 (by simpa only [K.fld] using hf)
  | .int _, j, _, _, _, hf | .bool, j, _, _, _, hf | .str, j, _, _, _, hf | .slice .., j, _, _, _, hf | .unit, j, _, _, _, hf | .ptr, j, _, _, _, hf | .opq, j, _, _, _, hf | .map .., j, _, _, _, hf | .pd .., j, _, _, _, hf => by simp [K.fld] at hf
theorem fld_agg {k : K} {j : Nat} {x : TypeId × K} (h : k.fld j = some x) : k.agg = true := by
  cases k <;> first | rfl | simp [K.fld] at h
/-- Field j of data: where it stands, and how it is replaced. -/
theorem at_set_same (l : List D) (j : Nat) (y : D) : D.nth (D.setNth l j y) j = y := by
  induction j generalizing l with
  | zero => cases l <;> rfl
  | succ j ih => cases l with
    | nil => exact ih []
    | cons a l => exact ih l
theorem at_set_other (l : List D) (j i : Nat) (y : D) (h : i ≠ j) : D.nth (D.setNth l j y) i = D.nth l i := by
  induction j generalizing l i with
  | zero => cases i with
    | zero => exact absurd rfl h
    | succ i => cases l <;> rfl
  | succ j ih => cases l with
    | nil => cases i with
      | zero => rfl
      | succ i => exact ih [] i (by omega)
    | cons a l => cases i with
      | zero => rfl
      | succ i => exact ih l i (by omega)
section
variable {F : Nat → Prop} {w : World}
theorem repF_congr {x y : D} : ∀ {k : K} {j : Nat} {cs : List Value}, (∀ i, j ≤ i → x.at' i = y.at' i) → RepF F w k j x cs → RepF F w k j y cs
  | .pair t k r, j, cs, h, hr => by
    simp only [RepF] at hr ⊢
    obtain ⟨c1, c2, hc, h1, h2⟩ := hr
    exact ⟨c1, c2, hc, by rw [← h j (Nat.le_refl _)]; exact h1, repF_congr (fun i hi => h i (by omega)) h2⟩
  | .unit, j, cs, h, hr => hr
  | .int _, _, _, _, hr | .bool, _, _, _, hr | .str, _, _, _, hr | .slice .., _, _, _, hr | .ptr, _, _, _, hr | .opq, _, _, _, hr | .map .., _, _, _, hr | .pd .., _, _, _, hr => by simp [RepF] at hr
theorem repF_fld : ∀ {k : K} {j0 j : Nat} {x : D} {cs : List Value} {tj : TypeId} {kj : K}, RepF F w k j0 x cs → k.fld j = some (tj, kj) →
    ∃ c0 c1 c2, cs = c0 ++ c1 ++ c2 ∧ c0.length = k.off j ∧ RepC F w kj (x.at' (j0 + j)) c1 ∧
      ∀ y c1', RepC F w kj y c1' → RepF F w k j0 (.n (D.setNth x.list (j0 + j) y)) (c0 ++ c1' ++ c2)
  | .pair t k r, j0, 0, x, cs, tj, kj, hr, hf => by
    simp only [K.fld, Option.some.injEq, Prod.mk.injEq] at hf
    obtain ⟨rfl, rfl⟩ := hf
    simp only [RepF] at hr
    obtain ⟨c1, c2, rfl, h1, h2⟩ := hr
    refine ⟨[], c1, c2, rfl, rfl, h1, fun y c1' hy => ?_⟩
    simp only [List.nil_append, RepF]
    refine ⟨c1', c2, rfl, ?_, repF_congr (fun i hi => ?_) h2⟩
    · show RepC F w _ (D.nth (D.setNth x.list (j0 + 0) y) j0) c1'
      rw [Nat.add_zero, at_set_same]
      exact hy
    · show D.nth x.list i = D.nth (D.setNth x.list (j0 + 0) y) i
      rw [at_set_other _ _ _ _ (by omega)]
  | .pair t k r, j0, j + 1, x, cs, tj, kj, hr, hf => by
    simp only [K.fld] at hf
    simp only [RepF] at hr
    obtain ⟨c1, c2, rfl, h1, h2⟩ := hr
    obtain ⟨d0, d1, d2, rfl, hl, h3, h4⟩ := repF_fld (k := r) h2 hf
    refine ⟨c1 ++ d0, d1, d2, by simp [List.append_assoc], ?_, by rw [show j0 + (j + 1) = j0 + 1 + j by omega]; exact h3, fun y c1' hy => ?_⟩
    · rw [List.length_append, hl, rep_len h1]; rfl
    · simp only [RepF]
      refine ⟨c1, d0 ++ c1' ++ d2, by simp [List.append_assoc], ?_, ?_⟩
      · show RepC F w _ (D.nth (D.setNth x.list (j0 + (j + 1)) y) j0) c1
        rw [at_set_other _ _ _ _ (by omega)]
        exact h1
      · rw [show j0 + (j + 1) = j0 + 1 + j by omega]
        exact h4 y c1' hy
  | .int _, _, j, _, _, _, _, _, hf | .bool, _, j, _, _, _, _, _, hf | .str, _, j, _, _, _, _, _, hf | .slice .., _, j, _, _, _, _, _, hf | .unit, _, j, _, _, _, _, _, hf | .ptr, _, j, _, _, _, _, _, hf | .opq, _, j, _, _, _, _, _, hf | .map .., _, j, _, _, _, _, _, hf | .pd .., _, j, _, _, _, _, _, hf => by simp [K.fld] at hf
/-- A path into data. -/
theorem rep_path {P : Program} {kd : TypeId → Option K} (hT : ∀ t k, kd t = some k → TyOK P kd t k) : ∀ (p : List Nat) (t : TypeId) (k : K) (x : D) (cs : List Value) (o : Nat) (u : TypeId), kd t = some k → RepC F w k x cs → poff kd t p = some (o, u) →
    ∃ c0 c1 c2 ku, cs = c0 ++ c1 ++ c2 ∧ c0.length = o ∧ kd u = some ku ∧ RepC F w ku (dget x p) c1 ∧ ∀ y c1', RepC F w ku y c1' → RepC F w k (dset x p y) (c0 ++ c1' ++ c2)
  | [], t, k, x, cs, o, u, hk, hr, hp => by
    simp only [poff, Option.some.injEq, Prod.mk.injEq] at hp
    obtain ⟨rfl, rfl⟩ := hp
    exact ⟨[], cs, [], k, by simp, rfl, hk, hr, fun y c1' hy => by simpa [dset] using hy⟩
  | j :: p, t, k, x, cs, o, u, hk, hr, hp => by
    simp only [poff, hk] at hp
    cases hf : k.fld j with
    | none => simp [hf] at hp
    | some q =>
      obtain ⟨tj, kj⟩ := q
      simp only [hf] at hp
      cases hq : poff kd tj p with
      | none => simp [hq] at hp
      | some q =>
        obtain ⟨o', u'⟩ := q
        simp only [hq, Option.some.injEq, Prod.mk.injEq] at hp
        obtain ⟨rfl, rfl⟩ := hp
        have hkj := kf_fld (hT t k hk).kf hf
        cases k with
        | pair t' k' r =>
          rw [repC_pair] at hr
          obtain ⟨c0, c1, c2, rfl, hl, h1, h2⟩ := repF_fld hr hf
          rw [Nat.zero_add] at h1
          obtain ⟨d0, d1, d2, ku, rfl, hl', hku, h3, h4⟩ := rep_path hT p tj kj _ _ _ _ hkj h1 hq
          refine ⟨c0 ++ d0, d1, d2 ++ c2, ku, by simp [List.append_assoc], by simp [hl, hl'], hku, h3, fun y c1' hy => ?_⟩
          have := h2 _ _ (h4 y c1' hy)
          rw [Nat.zero_add] at this
          rw [repC_pair]
          simpa [dset, List.append_assoc] using this
        | _ => simp [K.fld] at hf
end

/-! ### 2. Fields of abstract values -/
section
variable {P : Program} {T : Tbl} {C : Ctx}
theorem fits_ty {kd : TypeId → Option K} {a : AV} {t : TypeId} {k : K} (hk : kd t = some k) (h : a.fits kd t) (hp : k ≠ .ptr) (ho : k ≠ .opq) : a.ty = some t := by
  unfold AV.fits at h
  rw [hk] at h
  cases k <;> simp_all
theorem crels_len : ∀ {k : K} {fs : List AV} {cs : List Value}, CRels C k fs cs → cs.length = k.size
  | .unit, [], cs, h => by simp only [CRels] at h; subst h; rfl
  | .pair t k r, a :: fs, cs, h => by
    simp only [CRels] at h
    obtain ⟨c1, c2, rfl, hl, _, _, h2⟩ := h
    simp [K.size, hl, crels_len h2]
  | .unit, _ :: _, _, h | .pair .., [], _, h | .int _, _, _, h | .bool, _, _, h | .str, _, _, h | .slice .., _, _, h | .ptr, _, _, h | .opq, _, _, h | .map .., _, _, h | .pd .., _, _, h => by simp [CRels] at h
theorem crel_len {a : AV} {t : TypeId} {k : K} {cs : List Value} (hk : C.kd t = some k) (hf : a.fits C.kd t) (h : CRel C a cs) : cs.length = k.size := by
  have two : ∀ {v : Value}, cs = [v] → cs.length = 1 := fun h => by rw [h]; rfl
  cases a with
  | d t' fr x =>
    simp only [CRel] at h
    obtain ⟨k', hk', hr⟩ := h
    by_cases hp : k = .ptr
    · subst hp; simp [AV.fits, hk] at hf
    · by_cases ho : k = .opq
      · subst ho; simp [AV.fits, hk] at hf
      · have := fits_ty hk hf hp ho
        simp only [AV.ty, Option.some.injEq] at this
        subst this
        rw [hk] at hk'
        cases hk'
        exact rep_len hr
  | nil t' =>
    simp only [CRel] at h
    obtain ⟨rfl, e, k', hk'⟩ := h
    by_cases hp : k = .ptr
    · subst hp; rfl
    · by_cases ho : k = .opq
      · subst ho; rfl
      · have := fits_ty hk hf hp ho
        simp only [AV.ty, Option.some.injEq] at this
        subst this
        rw [hk] at hk'
        cases hk'
        rfl
  | own t' i =>
    simp only [CRel] at h
    obtain ⟨rfl, _, hor⟩ := h
    by_cases hp : k = .ptr
    · subst hp; rfl
    · by_cases ho : k = .opq
      · subst ho; rfl
      · have := fits_ty hk hf hp ho
        simp only [AV.ty, Option.some.injEq] at this
        subst this
        rcases hor with ⟨k', hk'⟩ | ⟨_, _, _, hk', _⟩ <;>
        · rw [hk] at hk'
          cases hk'
          rfl
  | agg t' fs =>
    simp only [CRel] at h
    obtain ⟨k', hk', _, hr⟩ := h
    by_cases hp : k = .ptr
    · subst hp; simp [AV.fits, hk] at hf
    · by_cases ho : k = .opq
      · subst ho; simp [AV.fits, hk] at hf
      · have := fits_ty hk hf hp ho
        simp only [AV.ty, Option.some.injEq] at this
        subst this
        rw [hk] at hk'
        cases hk'
        exact crels_len hr
  | ptr t' i p =>
    simp only [CRel] at h
    obtain ⟨g, o, _, _, rfl⟩ := h
    cases k <;> simp_all [AV.fits, AV.ty, K.size]
  | optr t' i j p =>
    simp only [CRel] at h
    obtain ⟨g, n, c, o, _, _, _, _, rfl⟩ := h
    cases k <;> simp_all [AV.fits, AV.ty, K.size]
  | cptr t' fr x =>
    simp only [CRel] at h
    obtain ⟨k', ad, ds, _, rfl, _⟩ := h
    cases k <;> simp_all [AV.fits, AV.ty, K.size]
  | bx t' fr x =>
    simp only [CRel] at h
    obtain ⟨ad, ds, rfl, _⟩ := h
    cases k <;> simp_all [AV.fits, AV.ty, K.size]
  | nilp =>
    simp only [CRel] at h
    subst h
    cases k <;> simp_all [AV.fits, AV.ty, K.size]
  | fn g caps =>
    simp only [CRel] at h
    obtain ⟨vs, rfl, _⟩ := h
    cases k <;> simp_all [AV.fits, AV.ty, K.size]
  | undef => cases k <;> simp_all [AV.fits, AV.ty]
  | tup xs => simp [CRel] at h
  | w s b c a => simp [CRel] at h
theorem fldsD_rel {fr : Bool} {x : D} : ∀ {k : K} {j : Nat} {cs : List Value}, KF C.kd k → RepF (C.F fr) C.w k j x cs → CRels C k (fldsD fr x k j) cs
  | .unit, j, cs, _, h => h
  | .pair t k r, j, cs, hk, h => by
    simp only [RepF] at h
    obtain ⟨c1, c2, rfl, h1, h2⟩ := h
    simp only [fldsD, CRels]
    refine ⟨c1, c2, rfl, rep_len h1, ?_, ⟨k, hk.1, h1⟩, fldsD_rel hk.2 h2⟩
    unfold AV.fits
    rw [hk.1]
    cases k <;> first | rfl | simp [RepC] at h1
  | .int _, _, _, _, h | .bool, _, _, _, h | .str, _, _, _, h | .slice .., _, _, _, h | .ptr, _, _, _, h | .opq, _, _, _, h | .map .., _, _, _, h | .pd .., _, _, _, h => by simp [RepF] at h
theorem flds_rel (hT : TblOK P T) (hkd : C.kd = T.kd) {v : AV} {fs : List AV} {cs : List Value} (hf : flds T v = some fs) (h : CRel C v cs) :
    ∃ t k, v.ty = some t ∧ T.kd t = some k ∧ k.agg = true ∧ CRels C k fs cs := by
  cases v with
  | agg t fs' =>
    simp only [flds, Option.some.injEq] at hf
    subst hf
    simp only [CRel] at h
    obtain ⟨k, hk, hg, hr⟩ := h
    exact ⟨t, k, rfl, by rw [← hkd]; exact hk, hg, hr⟩
  | d t fr x =>
    simp only [flds] at hf
    simp only [CRel] at h
    obtain ⟨k, hk, hr⟩ := h
    rw [hkd] at hk
    rw [hk] at hf
    simp only at hf
    split at hf
    · rename_i hg
      simp only [Option.some.injEq] at hf
      subst hf
      refine ⟨t, k, rfl, hk, hg, fldsD_rel (by rw [hkd]; exact (hT.ty t k hk).kf) ?_⟩
      cases k with
      | pair t' k' r => exact hr
      | unit => exact hr
      | _ => simp [K.agg] at hg
    · cases hf
  | _ => simp [flds] at hf
theorem crels_nth : ∀ {k : K} {fs : List AV} {cs : List Value} {j : Nat} {a : AV}, CRels C k fs cs → nthA fs j = some a →
    ∃ tj kj c0 c1 c2, k.fld j = some (tj, kj) ∧ cs = c0 ++ c1 ++ c2 ∧ c0.length = k.off j ∧ c1.length = kj.size ∧ a.fits C.kd tj ∧ CRel C a c1 ∧
      ∀ b c1', c1'.length = kj.size → b.fits C.kd tj → CRel C b c1' → CRels C k (setA fs j b) (c0 ++ c1' ++ c2)
  | .pair t k r, a :: fs, cs, 0, b, h, hn => by
    simp only [nthA, Option.some.injEq] at hn
    subst hn
    simp only [CRels] at h
    obtain ⟨c1, c2, rfl, hl, hf, h1, h2⟩ := h
    exact ⟨t, k, [], c1, c2, rfl, rfl, rfl, hl, hf, h1, fun b c1' hl' hf' hb => ⟨c1', c2, rfl, hl', hf', hb, h2⟩⟩
  | .pair t k r, a :: fs, cs, j + 1, b, h, hn => by
    simp only [nthA] at hn
    simp only [CRels] at h
    obtain ⟨c1, c2, rfl, hl, hf, h1, h2⟩ := h
    obtain ⟨tj, kj, d0, d1, d2, hfl, rfl, hl0, hl1, hfit, hr, hset⟩ := crels_nth h2 hn
    refine ⟨tj, kj, c1 ++ d0, d1, d2, hfl, by simp [List.append_assoc], by simp [hl, hl0, K.off], hl1, hfit, hr, fun b c1' hl' hf' hb => ?_⟩
    simp only [setA, CRels]
    exact ⟨c1, d0 ++ c1' ++ d2, by simp [List.append_assoc], hl, hf, h1, hset b c1' hl' hf' hb⟩
  | .unit, fs, cs, j, b, h, hn => by cases fs <;> simp_all [CRels, nthA]
  | .pair .., [], cs, j, b, h, hn => by simp [nthA] at hn
  | .int _, fs, _, _, _, h, hn | .bool, fs, _, _, _, h, hn | .str, fs, _, _, _, h, hn | .slice .., fs, _, _, _, h, hn | .ptr, fs, _, _, _, h, hn | .opq, fs, _, _, _, h, hn | .map .., fs, _, _, _, h, hn | .pd .., fs, _, _, _, h, hn => by cases fs <;> simp_all [CRels, nthA]
/-- A path into an abstract value. -/
theorem getP_rel (hT : TblOK P T) (hkd : C.kd = T.kd) : ∀ (p : List Nat) (v a : AV) (t : TypeId) (k : K) (cs : List Value) (o : Nat) (u : TypeId), getP T v p = some a → T.kd t = some k → v.fits T.kd t → CRel C v cs → poff T.kd t p = some (o, u) →
    ∃ c0 c1 c2 ku, cs = c0 ++ c1 ++ c2 ∧ c0.length = o ∧ T.kd u = some ku ∧ c1.length = ku.size ∧ a.fits T.kd u ∧ CRel C a c1
  | [], v, a, t, k, cs, o, u, hg, hk, hf, hr, hp => by
    simp only [getP, Option.some.injEq] at hg
    subst hg
    simp only [poff, Option.some.injEq, Prod.mk.injEq] at hp
    obtain ⟨rfl, rfl⟩ := hp
    exact ⟨[], cs, [], k, by simp, rfl, hk, crel_len (by rw [hkd]; exact hk) (by rw [hkd]; exact hf) hr, hf, hr⟩
  | j :: p, v, a, t, k, cs, o, u, hg, hk, hf, hr, hp => by
    simp only [getP] at hg
    cases hfl : flds T v with
    | none => simp [hfl] at hg
    | some fs =>
      simp only [hfl] at hg
      cases hn : nthA fs j with
      | none => simp [hn] at hg
      | some b =>
        simp only [hn] at hg
        obtain ⟨t', k', ht', hk', hagg, hrs⟩ := flds_rel hT hkd hfl hr
        have hty : v.ty = some t := by
          by_cases hp' : k = .ptr
          · subst hp'
            simp only [AV.fits, hk] at hf
            obtain ⟨_, _, _, rfl | rfl | ⟨_, rfl⟩ | ⟨_, _, rfl⟩ | ⟨_, _, rfl⟩⟩ := hf <;> simp [AV.ty] at ht'
          · by_cases ho' : k = .opq
            · subst ho'
              simp only [AV.fits, hk] at hf
              obtain ⟨_, _, rfl⟩ := hf
              simp [AV.ty] at ht'
            · exact fits_ty hk hf hp' ho'
        rw [hty] at ht'
        cases ht'
        rw [hk] at hk'
        cases hk'
        obtain ⟨tj, kj, c0, c1, c2, hfld, rfl, hl0, hl1, hfit, hrb, _⟩ := crels_nth hrs hn
        simp only [poff, hk, hfld] at hp
        cases hq : poff T.kd tj p with
        | none => simp [hq] at hp
        | some q =>
          obtain ⟨o', u'⟩ := q
          simp only [hq, Option.some.injEq, Prod.mk.injEq] at hp
          obtain ⟨rfl, rfl⟩ := hp
          obtain ⟨d0, d1, d2, ku, rfl, hl', hku, hl1', hfit', hra⟩ := getP_rel hT hkd p b a tj kj c1 o' u' hg (kf_fld (hT.ty t k hk).kf hfld) (by rw [← hkd]; exact hfit) hrb hq
          exact ⟨c0 ++ d0, d1, d2 ++ c2, ku, by simp [List.append_assoc], by simp [hl0, hl'], hku, hl1', hfit', hra⟩
theorem setP_rel (hT : TblOK P T) (hkd : C.kd = T.kd) (b : AV) : ∀ (p : List Nat) (v v' : AV) (t : TypeId) (k : K) (cs : List Value) (o : Nat) (u : TypeId), setP T v p b = some v' → T.kd t = some k → v.fits T.kd t → CRel C v cs → poff T.kd t p = some (o, u) →
    b.fits T.kd u → v'.fits T.kd t ∧ ∃ c0 c1 c2 ku, cs = c0 ++ c1 ++ c2 ∧ c0.length = o ∧ T.kd u = some ku ∧ c1.length = ku.size ∧ ∀ c1', c1'.length = ku.size → CRel C b c1' → CRel C v' (c0 ++ c1' ++ c2)
  | [], v, v', t, k, cs, o, u, hg, hk, hf, hr, hp, hb => by
    simp only [setP, Option.some.injEq] at hg
    subst hg
    simp only [poff, Option.some.injEq, Prod.mk.injEq] at hp
    obtain ⟨rfl, rfl⟩ := hp
    exact ⟨hb, [], cs, [], k, by simp, rfl, hk, crel_len (by rw [hkd]; exact hk) (by rw [hkd]; exact hf) hr, fun c1' _ h => by simpa using h⟩
  | j :: p, v, v', t, k, cs, o, u, hg, hk, hf, hr, hp, hb => by
    simp only [setP] at hg
    cases hty0 : v.ty with
    | none => simp [hty0] at hg
    | some tv =>
    simp only [hty0] at hg
    cases hfl : flds T v with
    | none => simp [hfl] at hg
    | some fs =>
      simp only [hfl] at hg
      cases hn : nthA fs j with
      | none => simp [hn] at hg
      | some b0 =>
        simp only [hn] at hg
        cases hs : setP T b0 p b with
        | none => simp [hs] at hg
        | some b1 =>
        simp only [hs, Option.some.injEq] at hg
        subst hg
        obtain ⟨t', k', ht', hk', hagg, hrs⟩ := flds_rel hT hkd hfl hr
        have hp' : k ≠ .ptr := by
          rintro rfl
          simp only [AV.fits, hk] at hf
          obtain ⟨_, _, _, rfl | rfl | ⟨_, rfl⟩ | ⟨_, _, rfl⟩ | ⟨_, _, rfl⟩⟩ := hf <;> simp [AV.ty] at ht'
        have ho' : k ≠ .opq := by
          rintro rfl
          simp only [AV.fits, hk] at hf
          obtain ⟨_, _, rfl⟩ := hf
          simp [AV.ty] at ht'
        have hty := fits_ty hk hf hp' ho'
        rw [hty] at ht' hty0
        cases ht'
        cases hty0
        rw [hk] at hk'
        cases hk'
        obtain ⟨tj, kj, c0, c1, c2, hfld, rfl, hl0, hl1, hfit, hrb, hset⟩ := crels_nth hrs hn
        simp only [poff, hk, hfld] at hp
        cases hq : poff T.kd tj p with
        | none => simp [hq] at hp
        | some q =>
          obtain ⟨o', u'⟩ := q
          simp only [hq, Option.some.injEq, Prod.mk.injEq] at hp
          obtain ⟨rfl, rfl⟩ := hp
          obtain ⟨hfit', d0, d1, d2, ku, rfl, hl', hku, hl1', hra⟩ := setP_rel hT hkd b p b0 b1 tj kj c1 o' u' hs (kf_fld (hT.ty t k hk).kf hfld) (by rw [← hkd]; exact hfit) hrb hq hb
          refine ⟨?_, c0 ++ d0, d1, d2 ++ c2, ku, by simp [List.append_assoc], by simp [hl0, hl'], hku, hl1', fun c1' hlc hc => ?_⟩
          · unfold AV.fits
            rw [hk]
            cases k <;> first | rfl | exact absurd rfl hp' | exact absurd rfl ho'
          · simp only [CRel]
            refine ⟨k, by rw [hkd]; exact hk, hagg, ?_⟩
            have := hset b1 (d0 ++ c1' ++ d2) (by rw [← hl1]; simp [hlc, hl1']) (by rw [hkd]; exact hfit') (hra c1' hlc hc)
            simpa [List.append_assoc] using this
end
end Go.Ev
