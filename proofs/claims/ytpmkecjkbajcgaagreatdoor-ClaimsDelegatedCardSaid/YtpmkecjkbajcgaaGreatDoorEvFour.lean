/- The evaluator: choosing, building. -/
import Derived.Test.YtpmkecjkbajcgaaGreatDoorEvThree
import Derived.Great.FillDense
import Derived.Great.BuildSlice
namespace Go.Ev
open Go
set_option linter.unusedVariables false
set_option linter.unusedSimpArgs false
section
variable {P : Program} {T : Tbl} {C : Ctx} {R : Type} {lks : Nat → Option AV}
/-! ### 1. What stands under a guard -/
def pcD (T : Tbl) : Option AV → Bool → Option Bool
  | some (.d t _ x), b => match T.kd t with | some .bool => some (eqb x.bool b) | _ => none
  | some (.w _ _ c (.d t _ x)), b => match T.kd t with | some .bool => some (c && eqb x.bool b) | _ => none
  | some (.w _ _ _ .undef), _ => some false
  | some .undef, _ => some false
  | _, _ => none
/-- What stands under a guard tells what the guard's slot tells. -/
def WFl (T : Tbl) (lks : Nat → Option AV) : Prop := ∀ t s b c v, lks t = some (.w s b c v) → isW v = false ∧ (lks s = none ∨ pcD T (lks s) b = some c)
theorem eqb_iff {x b : Bool} : eqb x b = true ↔ x = b := by cases x <;> cases b <;> decide
theorem opdW_rel (hkd : C.kd = T.kd) {a : Act} {U : Nat → Prop} {ts : List Nat} (hO : Opn C a U lks ts) (hW : WFl T lks) {t : TypeId} {c x : Operand} {b : Bool} {y : AV} {tc : TypeId} {fc : Bool} {xc : D}
    (hx : ∀ s, x = .tmp s → s ∈ ts) (hc : opd T lks T.boolT c = some (.d tc fc xc)) (hbt : T.kd tc = some .bool) (h : opdW T lks t c b x = some y) (hb : xc.bool = b) : VRel C y (a.eval x) ∧ y.In U := by
  unfold opdW at h
  split at h
  · rename_i s g
    split at h
    · rename_i g' b' c' v hl
      split at h
      · rename_i hgb
        cases h
        simp only [Bool.and_eq_true, Nat.beq_eq, beq_iff_eq] at hgb
        obtain ⟨rfl, rfl⟩ := hgb
        have hg : lks g = some (.d tc fc xc) := by
          simp only [opd] at hc
          split at hc
          · cases hc
          · exact hc
        have := (hW s g b c' y hl).2.resolve_left (by rw [hg]; simp)
        simp only [pcD, hg, hbt, Option.some.injEq] at this
        have hc' : c' = true := by rw [← this, hb]; exact eqb_iff.2 rfl
        obtain ⟨h1, h2⟩ := hO s (hx s rfl) _ hl
        obtain ⟨v', hv, hr⟩ := h1.1 hc'
        refine ⟨?_, h2 hc'⟩
        have : a.eval (.tmp s) = v' := by simp [Act.eval, Array.getD_eq_getD_getElem?, hv]
        rw [this]
        exact hr
      · cases h
    · rename_i hnw
      refine opd_rel hkd hO hx (t := t) ?_
      simp only [opd]
      exact h
  · exact opd_rel hkd hO hx h
theorem rep_fr {E : Ent} {hp : HpF} {σ : Nat → Hd} {w : World} {f g : Bool} {k : K} {x : D} {cs : List Value} (hfg : g = true → f = true) (h : RepC (fF E hp σ f) w k x cs) : RepC (fF E hp σ g) w k x cs :=
  (rep_mono (w := w) (w' := w) (fun b hb _ => ⟨⟨hb.1, by
    rcases hb.2 with h | h | h | ⟨h, h'⟩
    · exact .inl h
    · exact .inr (.inl h)
    · exact .inr (.inr (.inl h))
    · refine .inr (.inr (.inr ⟨?_, h'⟩))
      cases g
      · rfl
      · exact absurd (hfg rfl) (by simp [h])⟩, rfl⟩) (Nat.le_refl _) k).1 x cs h
theorem pickD_rep {F : Nat → Prop} {w : World} {k : K} {c : Bool} {y z : D} {cs : List Value} (h : RepC F w k (cond c y z) cs) : RepC F w k (pickD (some k) c y z) cs := by
  cases k <;> first | exact h | (cases c <;> exact h)
/-! ### 2. Structs -/
theorem fill_step {place : Nat → Option (Nat × Nat)} {c0 c1 c2 : List Value} {i : Nat} {v : Value} (hp : place i = some (c0.length, c1.length)) (hl : v.cells.toList.length = c1.length) (rest : List (Nat × Value)) :
    Instr.fill place (c0 ++ c1 ++ c2).toArray ((i, v) :: rest) = Instr.fill place (c0 ++ v.cells.toList ++ c2).toArray rest := by
  have hs : v.cells.size = c1.length := by simpa using hl
  conv => lhs; unfold Instr.fill
  simp only [hp]
  rw [if_neg (by simp [hs])]
  have : (v.cells.zipIdx.foldl (fun (cs : Array Value) (x : Value × Nat) => cs.setIfInBounds (c0.length + x.2) x.1) (c0 ++ c1 ++ c2).toArray) = (c0 ++ v.cells.toList ++ c2).toArray := by
    rw [← Array.foldl_toList, Array.toList_zipIdx]
    obtain ⟨h1, h2⟩ := Great.foldl_set c0.length v.cells.toList 0 (c0 ++ c1 ++ c2).toArray
    apply Array.ext_getElem?
    intro k
    rw [h2 k]
    simp only [Nat.add_zero, hl, List.getElem?_toArray, List.size_toArray, List.length_append, List.append_assoc]
    by_cases hk : k < c0.length
    · rw [if_neg (by omega), List.getElem?_append_left hk, List.getElem?_append_left hk]
    · rw [List.getElem?_append_right (Nat.le_of_not_lt hk), List.getElem?_append_right (Nat.le_of_not_lt hk)]
      by_cases hk2 : k - c0.length < c1.length
      · rw [if_pos (by omega), List.getElem?_append_left (by omega)]
      · rw [if_neg (by omega), List.getElem?_append_right (by omega), List.getElem?_append_right (by omega), hl]
  have e : (v.cells.zipIdx.foldl (fun (cs : Array Value) (x : Value × Nat) => match x with | (c, j) => cs.setIfInBounds (c0.length + j) c) (c0 ++ c1 ++ c2).toArray) = (c0 ++ v.cells.toList ++ c2).toArray := this
  rw [e]
theorem fitsB_fits {a : AV} {t : TypeId} (h : fitsB T a t = true) : a.fits T.kd t := by
  unfold fitsB at h
  unfold AV.fits
  split at h
  · rename_i hk
    simp only [hk]
    cases a <;> first | (simp at h; done) | exact ⟨_, _, _, .inl rfl⟩ | exact ⟨0, 0, [], .inr (.inl rfl)⟩ | exact ⟨_, _, _, .inr (.inr (.inl ⟨_, rfl⟩))⟩ | exact ⟨_, 0, [], .inr (.inr (.inr (.inl ⟨_, _, rfl⟩)))⟩ | exact ⟨_, 0, [], .inr (.inr (.inr (.inr ⟨_, _, rfl⟩)))⟩
  · rename_i hk
    simp only [hk]
    cases a <;> first | (simp at h; done) | exact ⟨_, _, rfl⟩
  · rename_i k hp ho hk
    have : a.ty = some t := by
      split at h
      · rename_i u hu
        rw [Nat.beq_eq] at h
        subst h
        exact hu
      · cases h
    rw [hk]
    cases k <;> first | exact this | exact absurd rfl hp | exact absurd rfl ho
  · cases h
theorem crels_get : ∀ {k : K} {fs : List AV} {cs : List Value} {j : Nat} {q : TypeId × K}, CRels C k fs cs → k.fld j = some q → ∃ a, nthA fs j = some a
  | .pair t k r, a :: fs, cs, 0, q, h, hf => ⟨a, rfl⟩
  | .pair t k r, a :: fs, cs, j + 1, q, h, hf => by
    simp only [CRels] at h
    obtain ⟨c1, c2, _, _, _, _, h2⟩ := h
    exact let ⟨b, hb⟩ := crels_get (k := r) (j := j) h2 (by simpa only [K.fld] using hf); ⟨b, hb⟩
  | .pair .., [], _, _, _, h, _ => by simp [CRels] at h
  | .int _, _, _, j, _, _, hf | .bool, _, _, j, _, _, hf | .str, _, _, j, _, _, hf | .slice .., _, _, j, _, _, hf | .unit, _, _, j, _, _, hf | .ptr, _, _, j, _, _, hf | .opq, _, _, j, _, _, hf | .map .., _, _, j, _, _, hf | .pd .., _, _, j, _, _, hf => by simp [K.fld] at hf
theorem putParts_rel (hT : TblOK P T) (hkd : C.kd = T.kd) {a : Act} {U : Nat → Prop} {ts : List Nat} (hO : Opn C a U lks ts) {ks : K} {s : TypeId} (hs : T.kd s = some ks) {place : Nat → Option (Nat × Nat)}
    (hpl : ∀ j tj kj, ks.fld j = some (tj, kj) → place j = some (ks.off j, kj.size)) : ∀ {parts : List (Nat × Operand)} {fs fs' : List AV} {cs : List Value}, (∀ p ∈ parts, ∀ s, p.2 = .tmp s → s ∈ ts) →
    putParts T lks ks parts fs = some fs' → CRels C ks fs cs → AV.Ins U fs → ∃ cs', Instr.fill place cs.toArray (parts.map fun p => (p.1, a.eval p.2)) = some cs'.toArray ∧ CRels C ks fs' cs' ∧ AV.Ins U fs'
  | [], fs, fs', cs, _, h, hr, hi => by
    simp only [putParts, Option.some.injEq] at h
    subst h
    exact ⟨cs, by simp [Instr.fill], hr, hi⟩
  | (j, x) :: parts, fs, fs', cs, hx, h, hr, hi => by
    simp only [putParts] at h
    split at h
    · rename_i tj kj hf
      split at h
      · rename_i b hb
        split at h
        · rename_i hfit
          obtain ⟨hv, hbi⟩ := opd_rel hkd hO (hx _ (List.mem_cons_self ..)) hb
          obtain ⟨a0, ha0⟩ := crels_get hr hf
          obtain ⟨tj', kj', c0, c1, c2, hf', rfl, hl0, hl1, _, _, hset⟩ := crels_nth hr ha0
          rw [hf] at hf'
          cases hf'
          have hkj := kf_fld (hT.ty _ _ hs).kf hf
          have hfits := fitsB_fits hfit
          have hv1 := v1_of_vrel hv (by rintro xs rfl; simp [fitsB] at hfit; split at hfit <;> simp_all [AV.ty])
          have hlen := crel_len (by rw [hkd]; exact hkj) (by rw [hkd]; exact hfits) hv1.1
          have hnew := hset b (a.eval x).cells.toList hlen (by rw [hkd]; exact hfits) hv1.1
          obtain ⟨cs', h1, h2, h3⟩ := putParts_rel hT hkd hO hs hpl (fun p hp => hx p (by simp [hp])) h hnew (setA_in hbi hi)
          refine ⟨cs', ?_, h2, h3⟩
          rw [List.map_cons, fill_step (by rw [hl0, hl1]; exact hpl j tj kj hf) (by rw [hlen, hl1])]
          exact h1
        · cases h
      · cases h
    · cases h
theorem places_ok (hT : TblOK P T) : ∀ {fs : List Field} {k : K} {off : Nat}, FieldsOK T.kd fs k off → ∃ places, fs.mapM (fun f => (P.info? f.type).map fun i => (f.offset, i.size)) = some places ∧ ∀ j tj kj, k.fld j = some (tj, kj) → places[j]? = some (off + k.off j, kj.size)
  | [], k, off, h => ⟨[], by simp, fun j tj kj hf => by simp only [FieldsOK] at h; subst h; simp [K.fld] at hf⟩
  | f :: fs, .pair t k r, off, h => by
    simp only [FieldsOK] at h
    obtain ⟨hft, hk, hoff, _, hr⟩ := h
    obtain ⟨places, h1, h2⟩ := places_ok hT hr
    obtain ⟨i, z, hi, hsz, _⟩ := (hT.ty _ _ hk).info
    refine ⟨(off, k.size) :: places, by simp [hft, hi, hsz, hoff, h1], fun j tj kj hf => ?_⟩
    cases j with
    | zero => simp only [K.fld, Option.some.injEq, Prod.mk.injEq] at hf; obtain ⟨rfl, rfl⟩ := hf; simp [K.off]
    | succ j => simpa [K.off, Nat.add_assoc] using h2 j tj kj (by simpa only [K.fld] using hf)
  | f :: fs, .int _, _, h | f :: fs, .bool, _, h | f :: fs, .str, _, h | f :: fs, .slice .., _, h | f :: fs, .unit, _, h | f :: fs, .ptr, _, h | f :: fs, .opq, _, h | f :: fs, .map .., _, h | f :: fs, .pd .., _, h => by simp [FieldsOK] at h
theorem zero_rel (hT : TblOK P T) (hkd : C.kd = T.kd) (U : Nat → Prop) (k : K) : (∀ t a cs, T.kd t = some k → zeroK t k = some a → ZeroC k cs → CRel C a cs ∧ a.fits T.kd t ∧ a.In U) ∧ (∀ fs cs, KF T.kd k → zeroF k = some fs → ZeroF k cs → CRels C k fs cs ∧ AV.Ins U fs) := by
  induction k with
  | int ik =>
    refine ⟨fun t a cs hk h hz => ?_, fun fs cs _ h _ => by simp [zeroF] at h⟩
    simp only [zeroK, Option.some.injEq] at h
    subst h
    exact ⟨⟨.int ik, by rw [hkd]; exact hk, hz⟩, by simp [AV.fits, hk, AV.ty], trivial⟩
  | bool =>
    refine ⟨fun t a cs hk h hz => ?_, fun fs cs _ h _ => by simp [zeroF] at h⟩
    simp only [zeroK, Option.some.injEq] at h
    subst h
    exact ⟨⟨.bool, by rw [hkd]; exact hk, hz⟩, by simp [AV.fits, hk, AV.ty], trivial⟩
  | str =>
    refine ⟨fun t a cs hk h hz => ?_, fun fs cs _ h _ => by simp [zeroF] at h⟩
    simp only [zeroK, Option.some.injEq] at h
    subst h
    exact ⟨⟨.str, by rw [hkd]; exact hk, hz⟩, by simp [AV.fits, hk, AV.ty], trivial⟩
  | slice e ke ih =>
    refine ⟨fun t a cs hk h hz => ?_, fun fs cs _ h _ => by simp [zeroF] at h⟩
    simp only [zeroK, Option.some.injEq] at h
    subst h
    exact ⟨⟨hz, e, ke, by rw [hkd]; exact hk⟩, by simp [AV.fits, hk, AV.ty], trivial⟩
  | unit =>
    refine ⟨fun t a cs hk h hz => ?_, fun fs cs _ h hz => ?_⟩
    · simp only [zeroK, Option.some.injEq] at h
      subst h
      exact ⟨⟨.unit, by rw [hkd]; exact hk, rfl, hz⟩, by simp [AV.fits, hk, AV.ty], trivial⟩
    · simp only [zeroF, Option.some.injEq] at h
      subst h
      exact ⟨hz, trivial⟩
  | ptr =>
    refine ⟨fun t a cs hk h hz => ?_, fun fs cs _ h _ => by simp [zeroF] at h⟩
    simp only [zeroK, Option.some.injEq] at h
    subst h
    refine ⟨hz, ?_, trivial⟩
    unfold AV.fits
    rw [hk]
    exact ⟨0, 0, [], .inr (.inl rfl)⟩
  | opq => exact ⟨fun t a cs hk h hz => by simp [zeroK] at h, fun fs cs _ h _ => by simp [zeroF] at h⟩
  | map kt vt =>
    refine ⟨fun t a cs hk h hz => ?_, fun fs cs _ h _ => by simp [zeroF] at h⟩
    simp only [zeroK, Option.some.injEq] at h
    subst h
    exact ⟨⟨.map kt vt, by rw [hkd]; exact hk, hz⟩, by simp [AV.fits, hk, AV.ty], trivial⟩
  | pd e k ih =>
    refine ⟨fun t a cs hk h hz => ?_, fun fs cs _ h _ => by simp [zeroF] at h⟩
    simp only [zeroK, Option.some.injEq] at h
    subst h
    simp only [ZeroC] at hz
    subst hz
    exact ⟨⟨.pd e k, by rw [hkd]; exact hk, .inl ⟨rfl, rfl⟩⟩, by simp [AV.fits, hk, AV.ty], trivial⟩
  | pair u k r ihk ihr =>
    have go : ∀ cs a l, T.kd u = some k → KF T.kd r → zeroK u k = some a → zeroF r = some l → ZeroF (.pair u k r) cs → CRels C (.pair u k r) (a :: l) cs ∧ AV.Ins U (a :: l) := fun cs a l hu hr ha hl hz => by
      simp only [ZeroF] at hz
      obtain ⟨c1, c2, rfl, z1, z2⟩ := hz
      obtain ⟨h1, h2, h3⟩ := ihk.1 u a c1 hu ha z1
      obtain ⟨h4, h5⟩ := ihr.2 l c2 hr hl z2
      exact ⟨⟨c1, c2, rfl, (zero_len k).1 _ z1, by rw [hkd]; exact h2, h1, h4⟩, h3, h5⟩
    refine ⟨fun t a cs hk h hz => ?_, fun fs cs hf h hz => ?_⟩
    · simp only [zeroK] at h
      split at h
      · rename_i b hb
        split at h
        · rename_i l hl
          simp only [Option.some.injEq] at h
          subst h
          have hkf := (hT.ty _ _ hk).kf
          obtain ⟨h1, h2⟩ := go cs b l hkf.1 hkf.2 hb hl hz
          exact ⟨⟨_, by rw [hkd]; exact hk, rfl, h1⟩, by simp [AV.fits, hk, AV.ty], h2⟩
        · cases h
      · cases h
    · simp only [zeroF] at h
      split at h
      · rename_i b hb
        split at h
        · rename_i l hl
          simp only [Option.some.injEq] at h
          subst h
          exact go cs b l hf.1 hf.2 hb hl hz
        · cases h
      · cases h
end
end Go.Ev
