/- The evaluator: taking a state back. -/
import Derived.Test.YtpmkecjkbajcgaaGreatDoorEvHand
namespace Go.Ev
open Go
set_option linter.unusedVariables false
set_option linter.unusedSimpArgs false
mutual
/-- Is all that is told of made by the call? -/
def AV.fresh : AV → Bool
  | .d _ fr _ | .cptr _ fr _ => fr
  | .bx _ fr v => fr && v.fresh
  | .agg _ fs | .fn _ fs | .tup fs => AV.freshs fs
  | .w _ _ _ v => v.fresh
  | _ => true
def AV.freshs : List AV → Bool
  | [] => true
  | a :: l => a.fresh && AV.freshs l
end
def AO.fresh : AO → Bool
  | .row _ fr _ => fr
  | .box _ v => v.fresh
  | .map _ fr _ => fr
mutual
theorem fillV_fresh {L : List D} : ∀ (sv : SV) (j : Nat), sv.fresh = true → (fillV L sv j).1.fresh = true
  | .d t fr, j, h => by simpa [fillV, AV.fresh, SV.fresh] using h
  | .nil t, j, h => rfl
  | .own t i, j, h => rfl
  | .ptr t i p, j, h => rfl
  | .nilp, j, h => rfl
  | .optr t i p, j, h => rfl
  | .bx t fr v, j, h => by
    simp only [SV.fresh, Bool.and_eq_true] at h
    simp only [fillV, AV.fresh, Bool.and_eq_true]
    exact ⟨h.1, fillV_fresh v j h.2⟩
  | .agg t fs, j, h => by simp only [fillV, AV.fresh]; exact fillVs_fresh fs j (by simpa [SV.fresh] using h)
  | .fn g fs, j, h => by simp only [fillV, AV.fresh]; exact fillVs_fresh fs j (by simpa [SV.fresh] using h)
  | .tup fs, j, h => by simp only [fillV, AV.fresh]; exact fillVs_fresh fs j (by simpa [SV.fresh] using h)
theorem fillVs_fresh {L : List D} : ∀ (svs : List SV) (j : Nat), SV.freshs svs = true → AV.freshs (fillVs L svs j).1 = true
  | [], j, h => rfl
  | v :: r, j, h => by
    simp only [SV.freshs, Bool.and_eq_true] at h
    simp only [fillVs, AV.freshs, Bool.and_eq_true]
    exact ⟨fillV_fresh v j h.1, fillVs_fresh r _ h.2⟩
end
theorem fillSl_fresh {L : List D} : ∀ (sl : List (Nat × SV)) (j : Nat), (∀ p ∈ sl, p.2.fresh = true) → ∀ s b, (s, b) ∈ (fillSl L sl j).1 → b.fresh = true
  | [], j, h, s, b, hb => by simp [fillSl] at hb
  | (s0, v) :: r, j, h, s, b, hb => by
    simp only [fillSl] at hb
    rcases List.mem_cons.1 hb with hb | hb
    · cases hb; exact fillV_fresh v j (h _ (List.mem_cons_self ..))
    · exact fillSl_fresh r _ (fun p hp => h p (by simp [hp])) s b hb
theorem fillOb_fresh {L : List D} : ∀ (l : List (Nat × SO)) (j : Nat), (∀ p ∈ l, p.2.fresh = true) → ∀ i o, (i, o) ∈ (fillOb L l j).1 → o.fresh = true
  | [], j, h, s, b, hb => by simp [fillOb] at hb
  | (i0, o0) :: r, j, h, s, b, hb => by
    simp only [fillOb] at hb
    rcases List.mem_cons.1 hb with hb | hb
    · cases hb
      have := h _ (List.mem_cons_self ..)
      cases o0 with
      | row e fr => simpa [fillO, AO.fresh, SO.fresh] using this
      | map t fr => simpa [fillO, AO.fresh, SO.fresh] using this
      | box t v => simp only [fillO, AO.fresh]; exact fillV_fresh v j (by simpa [SO.fresh] using this)
    · exact fillOb_fresh r _ (fun p hp => h p (by simp [hp])) s b hb
theorem fillOb_nodup {L : List D} : ∀ (l : List (Nat × SO)) (j : Nat), nodupK l = true → nodupK (fillOb L l j).1 = true
  | [], j, h => rfl
  | (i, o) :: r, j, h => by
    simp only [nodupK, Bool.and_eq_true, List.all_eq_true] at h
    simp only [fillOb, nodupK, Bool.and_eq_true, List.all_eq_true]
    refine ⟨fun p hp => ?_, fillOb_nodup r _ h.2⟩
    obtain ⟨i', o'⟩ := p
    obtain ⟨so, hso⟩ := fillOb_keys r _ i' o' hp
    exact h.1 _ hso
theorem nodup_lk {α : Type} : ∀ {l : List (Nat × α)}, nodupK l = true → ∀ {i : Nat} {x : α}, (i, x) ∈ l → lk l i = some x
  | [], _, i, x, h => by simp at h
  | (a, b) :: l, hn, i, x, h => by
    simp only [nodupK, Bool.and_eq_true, List.all_eq_true] at hn
    rw [lk_cons]
    rcases List.mem_cons.1 h with h | h
    · cases h; simp
    · have := hn.1 _ h
      have hne : a ≠ i := by
        rintro rfl
        have e : Nat.beq a a = true := by rw [Nat.beq_eq]
        rw [e] at this
        cases this
      rw [if_neg hne]
      exact nodup_lk hn.2 h
/-! ### Renaming -/
section
variable {C C' : Ctx} {r : Nat → Nat} {q : Bool}
structure Ren (C C' : Ctx) (r : Nat → Nat) (q : Bool) : Prop where
  kd : C'.kd = C.kd
  w : C'.w = C.w
  σ : ∀ i, i < 16 → C'.σ (r i) = C.σ i
  F1 : ∀ b, C.F true b → b < C.w.heap.size → C'.F true b
  F0 : q = true → ∀ b, C.F false b → b < C.w.heap.size → C'.F false b
theorem Ren.F (h : Ren C C' r q) {fr : Bool} (hq : q = true ∨ fr = true) : ∀ b, C.F fr b → b < C.w.heap.size → C'.F fr b := by
  cases fr with
  | true => exact h.F1
  | false => exact h.F0 (hq.resolve_right (by simp))
theorem Ren.rep (h : Ren C C' r q) {fr : Bool} (hq : q = true ∨ fr = true) {k : K} {x : D} {cs : List Value} (hr : RepC (C.F fr) C.w k x cs) : RepC (C'.F fr) C'.w k x cs := by
  rw [h.w]
  exact (rep_mono (w := C.w) (w' := C.w) (fun b hb hlt => ⟨h.F hq b hb hlt, rfl⟩) (Nat.le_refl _) k).1 x cs hr
mutual
theorem aggB_ren (kd : TypeId → Option K) : ∀ (a : AV), (a.ren r).aggB kd = a.aggB kd
  | .undef | .d .. | .nil _ | .own .. | .cptr .. | .bx .. | .optr .. | .ptr .. | .nilp | .agg .. | .fn .. | .tup _ | .w .. => rfl
end
theorem ty_ren : ∀ (a : AV), (a.ren r).ty = a.ty
  | .undef | .d .. | .nil _ | .own .. | .cptr .. | .bx .. | .optr .. | .ptr .. | .nilp | .agg .. | .fn .. | .tup _ | .w .. => rfl
theorem fits_ren {kd : TypeId → Option K} {a : AV} {t : TypeId} (h : a.fits kd t) : (a.ren r).fits kd t := by
  unfold AV.fits at h ⊢
  split at h
  · obtain ⟨u, i, p, rfl | rfl | ⟨j, rfl⟩ | ⟨fr, x, rfl⟩ | ⟨fr, x, rfl⟩⟩ := h
    · exact ⟨u, r i, p, .inl rfl⟩
    · exact ⟨u, i, p, .inr (.inl rfl)⟩
    · exact ⟨u, r i, p, .inr (.inr (.inl ⟨j, rfl⟩))⟩
    · exact ⟨u, i, p, .inr (.inr (.inr (.inl ⟨fr, x, rfl⟩)))⟩
    · exact ⟨u, i, p, .inr (.inr (.inr (.inr ⟨fr, _, rfl⟩)))⟩
  · obtain ⟨g, caps, rfl⟩ := h; exact ⟨g, _, rfl⟩
  · exact h
  · rw [ty_ren]; exact h
mutual
theorem crel_ren (h : Ren C C' r q) : ∀ (a : AV) (cs : List Value), a.In (· < 16) → (q = true ∨ a.fresh = true) → CRel C a cs → CRel C' (a.ren r) cs
  | .undef, cs, _, _, hr => hr
  | .d t fr x, cs, _, hq, hr => by
    simp only [CRel, AV.ren] at hr ⊢
    obtain ⟨k, hk, hr⟩ := hr
    exact ⟨k, by rw [h.kd]; exact hk, h.rep (by simpa [AV.fresh] using hq) hr⟩
  | .nil t, cs, _, _, hr => by simpa only [CRel, AV.ren, h.kd] using hr
  | .own t i, cs, hi, _, hr => by
    simp only [AV.In] at hi
    simpa only [CRel, AV.ren, h.kd, h.σ i hi] using hr
  | .cptr t fr x, cs, _, hq, hr => by
    simp only [CRel, AV.ren] at hr ⊢
    obtain ⟨k, ad, ds, hk, hc, hsp, hF, hlt, hr, hat⟩ := hr
    have hq' : q = true ∨ fr = true := by simpa [AV.fresh] using hq
    exact ⟨k, ad, ds, by rw [h.kd]; exact hk, hc, hsp, h.F hq' _ hF hlt, by rw [h.w]; exact hlt, h.rep hq' hr, by rw [h.w]; exact hat⟩
  | .bx t fr v, cs, hi, hq, hr => by
    simp only [AV.In] at hi
    simp only [CRel, AV.ren] at hr ⊢
    obtain ⟨ad, ds, hc, hsp, hF, hlt, hl, hf, hr, hat⟩ := hr
    have hq1 : q = true ∨ fr = true := hq.imp id fun e => by simp only [AV.fresh, Bool.and_eq_true] at e; exact e.1
    have hq2 : q = true ∨ v.fresh = true := hq.imp id fun e => by simp only [AV.fresh, Bool.and_eq_true] at e; exact e.2
    exact ⟨ad, ds, hc, hsp, h.F hq1 _ hF hlt, by rw [h.w]; exact hlt, by rw [h.kd]; exact hl, fits_ren (by rw [h.kd]; exact hf), crel_ren h v ds hi hq2 hr, by rw [h.w]; exact hat⟩
  | .optr t i j p, cs, hi, _, hr => by
    simp only [AV.In] at hi
    simpa only [CRel, AV.ren, h.kd, h.σ i hi] using hr
  | .ptr t i p, cs, hi, _, hr => by
    simp only [AV.In] at hi
    simpa only [CRel, AV.ren, h.kd, h.σ i hi] using hr
  | .nilp, cs, _, _, hr => hr
  | .agg t fs, cs, hi, hq, hr => by
    simp only [AV.In] at hi
    simp only [CRel, AV.ren] at hr ⊢
    obtain ⟨k, hk, hg, hr⟩ := hr
    exact ⟨k, by rw [h.kd]; exact hk, hg, crels_ren h fs k cs hi (by simpa [AV.fresh] using hq) hr⟩
  | .fn g caps, cs, hi, hq, hr => by
    simp only [AV.In] at hi
    simp only [CRel, AV.ren] at hr ⊢
    obtain ⟨vs, hc, hr⟩ := hr
    exact ⟨vs, hc, crelL_ren h caps vs hi (by simpa [AV.fresh] using hq) hr⟩
  | .tup _, cs, _, _, hr => by simp [CRel] at hr
  | .w .., cs, _, _, hr => by simp [CRel] at hr
theorem crels_ren (h : Ren C C' r q) : ∀ (fs : List AV) (k : K) (cs : List Value), AV.Ins (· < 16) fs → (q = true ∨ AV.freshs fs = true) → CRels C k fs cs → CRels C' k (AV.rens r fs) cs
  | [], k, cs, _, _, hr => by cases k <;> first | exact hr | simp [CRels] at hr
  | a :: fs, k, cs, hi, hq, hr => by
    cases k with
    | pair t k r' =>
      simp only [AV.Ins] at hi
      have hq1 : q = true ∨ a.fresh = true := hq.imp id fun e => by simp only [AV.freshs, Bool.and_eq_true] at e; exact e.1
      have hq2 : q = true ∨ AV.freshs fs = true := hq.imp id fun e => by simp only [AV.freshs, Bool.and_eq_true] at e; exact e.2
      simp only [CRels, AV.rens] at hr ⊢
      obtain ⟨c1, c2, hc, hl, hfit, h1, h2⟩ := hr
      exact ⟨c1, c2, hc, hl, fits_ren (by rw [h.kd]; exact hfit), crel_ren h a c1 hi.1 hq1 h1, crels_ren h fs r' c2 hi.2 hq2 h2⟩
    | _ => simp [CRels] at hr
theorem crelL_ren (h : Ren C C' r q) : ∀ (l : List AV) (vs : List Value), AV.Ins (· < 16) l → (q = true ∨ AV.freshs l = true) → CRelL C l vs → CRelL C' (AV.rens r l) vs
  | [], vs, _, _, hr => hr
  | a :: l, vs, hi, hq, hr => by
    simp only [AV.Ins] at hi
    have hq1 : q = true ∨ a.fresh = true := hq.imp id fun e => by simp only [AV.freshs, Bool.and_eq_true] at e; exact e.1
    have hq2 : q = true ∨ AV.freshs l = true := hq.imp id fun e => by simp only [AV.freshs, Bool.and_eq_true] at e; exact e.2
    simp only [CRelL, AV.rens] at hr ⊢
    obtain ⟨v, r', hv, hg, h1, h2⟩ := hr
    exact ⟨v, r', hv, by rw [aggB_ren, h.kd]; exact hg, crel_ren h a [v] hi.1 hq1 h1, crelL_ren h l r' hi.2 hq2 h2⟩
end
theorem v1_ren (h : Ren C C' r q) {a : AV} {v : Value} (hi : a.In (· < 16)) (hq : q = true ∨ a.fresh = true) (hr : V1 C a v) : V1 C' (a.ren r) v := ⟨crel_ren h a _ hi hq hr.1, by rw [aggB_ren, h.kd]; exact hr.2⟩
theorem v1s_ren (h : Ren C C' r q) : ∀ {l : List AV} {vs : List Value}, AV.Ins (· < 16) l → (q = true ∨ AV.freshs l = true) → All2 (V1 C) l vs → All2 (V1 C') (AV.rens r l) vs
  | _, _, _, _, .nil => .nil
  | _, _, hi, hq, .cons h1 t => by
    simp only [AV.Ins] at hi
    exact .cons (v1_ren h hi.1 (hq.imp id fun e => by simp only [AV.freshs, Bool.and_eq_true] at e; exact e.1) h1) (v1s_ren h hi.2 (hq.imp id fun e => by simp only [AV.freshs, Bool.and_eq_true] at e; exact e.2) t)
theorem vrel_ren (h : Ren C C' r q) {a : AV} {v : Value} (hi : a.In (· < 16)) (hq : q = true ∨ a.fresh = true) (hr : VRel C a v) : VRel C' (a.ren r) v := by
  cases a with
  | tup xs =>
    simp only [AV.In] at hi
    simp only [VRel, AV.ren] at hr ⊢
    obtain ⟨vs, hv, hr⟩ := hr
    exact ⟨vs, hv, v1s_ren h hi (by simpa [AV.fresh] using hq) hr⟩
  | _ => exact vrel_of_v1 (v1_ren h hi hq hr)
theorem orel_ren (h : Ren C C' r q) {o : AO} {hd : Hd} (hi : o.In (· < 16)) (hq : q = true ∨ o.fresh = true) (hr : ORel C o hd) : ORel C' (o.ren r) hd := by
  cases o with
  | row e fr xs =>
    simp only [ORel, AO.ren] at hr ⊢
    obtain ⟨ht, k, css, hk, hc, ho⟩ := hr
    exact ⟨ht, k, css, by rw [h.kd]; exact hk, hc.imp fun a b _ hab => h.rep (by simpa [AO.fresh] using hq) hab, by rw [h.w]; exact ho⟩
  | box t a =>
    simp only [AO.In] at hi
    simp only [ORel, AO.ren] at hr ⊢
    obtain ⟨ht, g, cs, hv, hh, hl, hf, hc⟩ := hr
    exact ⟨ht, g, cs, hv, by rw [h.w]; exact hh, by rw [h.kd]; exact hl, fits_ren (by rw [h.kd]; exact hf), crel_ren h a cs hi (by simpa [AO.fresh] using hq) hc⟩
  | map t fr xs =>
    simp only [ORel, AO.ren] at hr ⊢
    obtain ⟨ht, kt, vt, kk, kv, r', es, clock, h1, h2, h3, h4, hv, hh, hall⟩ := hr
    exact ⟨ht, kt, vt, kk, kv, r', es, clock, by rw [h.kd]; exact h1, by rw [h.kd]; exact h2, by rw [h.kd]; exact h3, h4, hv, by rw [h.w]; exact hh, hall.imp fun a b _ hab => ⟨h.rep (by simpa [AO.fresh] using hq) hab.1, h.rep (by simpa [AO.fresh] using hq) hab.2.1, hab.2.2⟩⟩
mutual
theorem in_ren {U V : Nat → Prop} (h : ∀ i, U i → V (r i)) : ∀ (a : AV), a.In U → (a.ren r).In V
  | .own _ i, hi => h i hi
  | .optr _ i _ _, hi => h i hi
  | .ptr _ i _, hi => h i hi
  | .agg _ fs, hi => ins_ren h fs hi
  | .fn _ fs, hi => ins_ren h fs hi
  | .tup fs, hi => ins_ren h fs hi
  | .w _ _ _ a, hi => fun hc => in_ren h a (hi hc)
  | .bx _ _ a, hi => in_ren h (U := U) a hi
  | .undef, _ | .d .., _ | .nil _, _ | .cptr .., _ | .nilp, _ => trivial
theorem ins_ren {U V : Nat → Prop} (h : ∀ i, U i → V (r i)) : ∀ (l : List AV), AV.Ins U l → AV.Ins V (AV.rens r l)
  | [], _ => trivial
  | a :: l, hi => ⟨in_ren h a hi.1, ins_ren h l hi.2⟩
end
theorem oin_ren {U V : Nat → Prop} (h : ∀ i, U i → V (r i)) : ∀ (o : AO), o.In U → (o.ren r).In V
  | .box _ a, hi => in_ren h a hi
  | .row .., _ => trivial
  | .map .., _ => trivial
end
/-! ### The objects that are bound are known -/
section
variable {kd : TypeId → Option K} {hp : HpF} {ob : Nat → Option SO} {U : Nat → Prop}
def MpU (m m' : List (Nat × Option Nat)) (U : Nat → Prop) : Prop := ∀ i j, (i, some j) ∈ m' → (i, some j) ∈ m ∨ U j
theorem MpU.trans {a b c : List (Nat × Option Nat)} (h : MpU a b U) (h' : MpU b c U) : MpU a c U := fun i j hm => (h' i j hm).elim (h i j) .inr
theorem bindO_U {f f' : Fit} {i : Nat} {j : Option Nat} (h : f.bindO i j = some f') (hj : ∀ j', j = some j' → U j') : MpU f.mp f'.mp U := by
  unfold Fit.bindO at h
  split at h
  · split at h
    · split at h
      · cases h
      · cases h
        intro a b hm
        rcases List.mem_cons.1 hm with hm | hm
        · cases hm; exact .inr (hj _ rfl)
        · exact .inl hm
    · cases h
      intro a b hm
      rcases List.mem_cons.1 hm with hm | hm
      · cases hm
      · exact .inl hm
  · split at h
    · split at h
      · cases h; exact fun a b hm => .inl hm
      · cases h
    · cases h
  · cases h
mutual
theorem fitV_U : ∀ (sv : SV) (av : AV) (f f' : Fit), fitV kd hp ob sv av f = some f' → av.In U → MpU f.mp f'.mp U
  | .d t fr, av, f, f', h, hi => by
    simp only [fitV] at h
    split at h
    · split at h
      · split at h
        · split at h
          · cases h; exact fun a b hm => .inl hm
          · cases h
        · cases h
      · cases h
    · cases h
  | .nil t, av, f, f', h, hi => by
    cases av <;> simp only [fitV] at h <;> try cases h
    split at h
    · cases h; exact fun a b hm => .inl hm
    · cases h
  | .own t k, av, f, f', h, hi => by
    cases av <;> simp only [fitV] at h <;> try cases h
    · split at h
      · split at h
        · exact bindO_U h (fun j e => by cases e)
        · cases h
      · cases h
    · split at h
      · exact bindO_U h (fun j e => by cases e; exact hi)
      · cases h
  | .ptr t k p, av, f, f', h, hi => by
    cases av <;> simp only [fitV] at h <;> try cases h
    split at h
    · exact bindO_U h (fun j e => by cases e; exact hi)
    · cases h
  | .nilp, av, f, f', h, hi => by
    cases av <;> simp only [fitV] at h <;> cases h
    exact fun a b hm => .inl hm
  | .bx t fr v, av, f, f', h, hi => by
    cases av <;> simp only [fitV] at h <;> try cases h
    split at h
    · exact fitV_U v _ f f' h hi
    · cases h
  | .optr t k p, av, f, f', h, hi => by
    cases av <;> simp only [fitV] at h <;> try cases h
    split at h
    · split at h
      · rename_i f1 hb
        cases h
        have hb' : MpU f.mp f1.mp U := bindO_U hb (fun j e => by cases e; exact hi)
        exact hb'
      · cases h
    · cases h
  | .agg t fs, av, f, f', h, hi => by
    cases av <;> simp only [fitV] at h <;> try cases h
    split at h
    · exact fitVs_U fs _ f f' h hi
    · cases h
  | .fn g fs, av, f, f', h, hi => by
    cases av <;> simp only [fitV] at h <;> try cases h
    split at h
    · exact fitVs_U fs _ f f' h hi
    · cases h
  | .tup fs, av, f, f', h, hi => by
    cases av <;> simp only [fitV] at h <;> try cases h
    exact fitVs_U fs _ f f' h hi
theorem fitVs_U : ∀ (svs : List SV) (avs : List AV) (f f' : Fit), fitVs kd hp ob svs avs f = some f' → AV.Ins U avs → MpU f.mp f'.mp U
  | [], avs, f, f', h, hi => by
    cases avs <;> simp only [fitVs] at h <;> cases h
    exact fun a b hm => .inl hm
  | sv :: r, avs, f, f', h, hi => by
    cases avs with
    | nil => simp [fitVs] at h
    | cons av avs =>
      simp only [fitVs] at h
      split at h
      · rename_i f1 h1
        exact (fitV_U sv av f f1 h1 hi.1).trans (fitVs_U r avs f1 f' h hi.2)
      · cases h
end
theorem fitSl_U {lks : Nat → Option AV} (hl : ∀ s av, lks s = some av → (∀ s' b c v, av ≠ .w s' b c v) → av.In U) : ∀ (sl : List (Nat × SV)) (f f' : Fit), fitSl kd hp ob lks sl f = some f' → MpU f.mp f'.mp U
  | [], f, f', h => by simp only [fitSl] at h; cases h; exact fun a b hm => .inl hm
  | (s0, v) :: r, f, f', h => by
    simp only [fitSl] at h
    split at h
    · rename_i av hav
      split at h
      · rename_i f1 h1
        refine (fitV_U v av f f1 h1 (hl _ _ hav ?_)).trans (fitSl_U hl r f1 f' h)
        rintro s b c v rfl
        rw [fitV_w] at h1
        cases h1
      · cases h
    · cases h
theorem fitOb_U (ho : ∀ i o, hp i = some o → o.In U) : ∀ (l : List (Nat × SO)) (f f' : Fit), fitOb kd hp ob l f = some f' → MpU f.mp f'.mp U
  | [], f, f', h => by simp only [fitOb] at h; cases h; exact fun a b hm => .inl hm
  | (i, o) :: r, f, f', h => by
    simp only [fitOb] at h
    split at h
    · split at h
      · split at h
        · have := fitOb_U ho r _ f' h
          exact this
        · cases h
      · rename_i hh
        split at h
        · split at h
          · rename_i f1 h1
            exact (fitV_U _ _ _ f1 h1 (ho _ _ hh)).trans (fitOb_U ho r f1 f' h)
          · cases h
        · cases h
      · split at h
        · have := fitOb_U ho r _ f' h
          exact this
        · cases h
      · cases h
    · split at h
      · split at h
        · have := fitOb_U ho r _ f' h
          exact this
        · cases h
      · cases h
    · cases h
theorem fit_U {lks : Nat → Option AV} (hl : ∀ s av, lks s = some av → (∀ s' b c v, av ≠ .w s' b c v) → av.In U) (ho : ∀ i o, hp i = some o → o.In U) {mp0 : List (Nat × Option Nat)} {sh : Shape} {f : Fit} (h : fit kd hp lks mp0 sh = some f) : MpU mp0 f.mp U := by
  unfold fit at h
  split at h
  · rename_i f1 h1
    split at h
    · rename_i f2 h2
      split at h
      · cases h
        have h3 := fitOb_U ho _ _ _ h2
        exact (fitSl_U hl _ _ _ h1).trans h3
      · cases h
    · cases h
  · cases h
end
/-! ### Back -/
theorem updF_append (hp : HpF) : ∀ (u v : Upd), updF hp (u ++ v) = updF (updF hp u) v
  | [], v => rfl
  | (i, o) :: u, v => by simp only [List.cons_append, updF]; exact updF_append _ u v
theorem updF_given (hp : HpF) : ∀ (m : List (Nat × Option Nat)) (x : Nat), updF hp (given m) x = if hasV m x then none else hp x
  | [], x => by simp [given, updF, hasV]
  | (a, some b) :: m, x => by
    simp only [given, updF, updF_given _ m, hasV]
    by_cases h1 : hasV m x = true
    · simp [h1]
    · have h1' : hasV m x = false := by simpa using h1
      simp only [h1', Bool.or_false, Bool.false_eq_true, if_false]
      by_cases h2 : x = b
      · subst h2
        have : Nat.beq x x = true := by rw [Nat.beq_eq]
        simp [this]
      · have : Nat.beq b x = false := by
          cases hb : Nat.beq b x with
          | false => rfl
          | true => exact absurd (beq_to hb).symm h2
        simp [this, h2]
  | (a, none) :: m, x => by
    simp only [given, hasV]
    exact updF_given hp m x
/-- What 'back' tells of an object. -/
theorem updF_back {r : Nat → Nat} (hp : HpF) : ∀ (h : Heap), nodupK h = true → (∀ i i' o o', (i, o) ∈ h → (i', o') ∈ h → r i = r i' → i = i') → (∀ i o, (i, o) ∈ h → updF hp (back r h) (r i) = some (o.ren r)) ∧ ∀ x, (∀ i o, (i, o) ∈ h → r i ≠ x) → updF hp (back r h) x = hp x
  | [], _, _ => ⟨fun i o h => by simp at h, fun x _ => rfl⟩
  | (i, o) :: h, hn, hr => by
    simp only [nodupK, Bool.and_eq_true, List.all_eq_true] at hn
    obtain ⟨h1, h2⟩ := updF_back (r := r) (fun j => if j = r i then some (o.ren r) else hp j) h hn.2 (fun a b oa ob ha hb => hr a b oa ob (by simp [ha]) (by simp [hb]))
    refine ⟨fun a oa ha => ?_, fun x hx => ?_⟩
    · simp only [back, updF]
      rcases List.mem_cons.1 ha with ha | ha
      · cases ha
        rw [h2 (r i) fun b ob hb e => ?_]
        · simp
        · have := hr b i ob o (by simp [hb]) (by simp) e
          subst this
          have h3 := hn.1 _ hb
          have e : Nat.beq b b = true := by rw [Nat.beq_eq]
          simp only [e] at h3
          cases h3
      · exact h1 a oa ha
    · simp only [back, updF]
      rw [h2 x fun b ob hb => hx b ob (by simp [hb])]
      have := hx i o (by simp)
      simp [Ne.symm this]
def entOf (kd : TypeId → Option K) (E : Ent) (hp : HpF) (σ : Nat → Hd) (w : World) (f : Fit) (d0 : List Deferred) : Ent where
  w0 := w
  G := fun b => fF E hp σ false b ∨ ∃ i ∈ f.lent, ∃ oi, hp i = some oi ∧ blk (σ i).v = some b
  N := fF E hp σ true
  T0 := fun b => ∃ i j oj, lk f.mp i = some (some j) ∧ hp j = some oj ∧ blk (σ j).v = some b
  d0 := d0
theorem fillSl_w {L : List D} : ∀ (sl : List (Nat × SV)) (j : Nat) s b, (s, b) ∈ (fillSl L sl j).1 → ∀ s' b' c v, b ≠ .w s' b' c v
  | [], j, s, b, h => by simp [fillSl] at h
  | (s0, v) :: r, j, s, b, h => by
    simp only [fillSl] at h
    rcases List.mem_cons.1 h with h | h
    · cases h; exact fillV_w v j
    · exact fillSl_w r _ s b h
theorem hand_back {kd : TypeId → Option K} {E : Ent} {U : Nat → Prop} {lkf : Nat → Option AV} {hp : HpF} {σ : Nat → Hd} {a a1 : Act} {w w' : World} (hs : SRel kd E U lkf hp σ a w) {f : Fit} (hmi : MapInj f.mp) (hmU : ∀ i j, (i, some j) ∈ f.mp → U j)
    {d0 : List Deferred} {kept : List Nat} {nid : Nat} (hfr : ∀ c, c < 16 → ¬ U (nid + c)) {σ0 σ1 : Nat → Hd} (hσ0 : ∀ i j, lk f.mp i = some (some j) → σ0 i = σ j) (hσ1 : ∀ i ∈ kept, σ1 i = σ0 i) {rs : Shape} {out : List D} (hsm : rs.small = true) (hq : f.lent = [] ∨ rs.fresh = true)
    (h1 : SRel kd (entOf kd E hp σ w f d0) (· < 16) (lk (fill rs out).1) (lk (fill rs out).2) σ1 a1 w') :
    ∃ σ2, (∀ i, U i → σ2 i = σ i) ∧ SRel kd E (fun x => U x ∨ (nid ≤ x ∧ x < nid + 16)) lkf (updF hp (given f.mp ++ back (outer kept f.mp nid) (fill rs out).2)) σ2 a w' ∧
      (∀ s b, (s, b) ∈ (fill rs out).1 → lk (fill rs out).1 s = some b → SlotRel (ctx kd E (updF hp (given f.mp ++ back (outer kept f.mp nid) (fill rs out).2)) σ2 w') a1.tmps s (b.ren (outer kept f.mp nid)) ∧ ((b.ren (outer kept f.mp nid)).In fun x => U x ∨ (nid ≤ x ∧ x < nid + 16))) ∧ ∀ c, w.heap.size ≤ c → untr (lk (fill rs out).2) σ1 c → untr (updF hp (given f.mp ++ back (outer kept f.mp nid) (fill rs out).2)) σ2 c := by
  let r := outer kept f.mp nid
  let rob := (fill rs out).2
  let σ2 : Nat → Hd := fun x => if nid ≤ x ∧ x < nid + 16 then σ1 (x - nid) else σ x
  have hUn : ∀ x, U x → ¬ (nid ≤ x ∧ x < nid + 16) := fun x hx h => hfr (x - nid) (by omega) (by rw [show nid + (x - nid) = x by omega]; exact hx)
  have hr : ∀ i, i < 16 → (r i = nid + i ∧ (i ∉ kept ∨ ∀ j, lk f.mp i ≠ some (some j))) ∨ ∃ j, i ∈ kept ∧ lk f.mp i = some (some j) ∧ r i = j := fun i _ => by
    show ((match memN kept i with | true => (match lk f.mp i with | some (some j) => j | _ => Nat.add nid i) | false => Nat.add nid i) = nid + i ∧ _) ∨ ∃ j, _ ∧ _ ∧ (match memN kept i with | true => (match lk f.mp i with | some (some j) => j | _ => Nat.add nid i) | false => Nat.add nid i) = j
    cases hk : memN kept i with
    | false => exact .inl ⟨rfl, .inl fun hm => by rw [memN_iff.2 hm] at hk; cases hk⟩
    | true =>
      cases hl : lk f.mp i with
      | none => exact .inl ⟨rfl, .inr fun j h => by cases h⟩
      | some x =>
        cases x with
        | none => exact .inl ⟨rfl, .inr fun j h => by cases h⟩
        | some j => exact .inr ⟨j, memN_iff.1 hk, rfl, rfl⟩
  have hσr : ∀ i, i < 16 → σ2 (r i) = σ1 i := fun i hi => by
    rcases hr i hi with ⟨h, _⟩ | ⟨j, hk, hl, h⟩
    · rw [h]
      simp only [σ2]
      rw [if_pos (by omega), Nat.add_sub_cancel_left]
    · rw [h]
      simp only [σ2]
      rw [if_neg (hUn j (hmU i j (lk_mem hl)))]
      rw [hσ1 i hk, hσ0 i j hl]
  have hrinj : ∀ i i', i < 16 → i' < 16 → r i = r i' → i = i' := fun i i' hi hi' e => by
    rcases hr i hi with ⟨h, _⟩ | ⟨j, hk, hl, h⟩ <;> rcases hr i' hi' with ⟨h', _⟩ | ⟨j', hk', hl', h'⟩
    · omega
    · exact absurd ⟨by omega, by omega⟩ (hUn j' (hmU i' j' (lk_mem hl')))
    · exact absurd ⟨by omega, by omega⟩ (hUn j (hmU i j (lk_mem hl)))
    · have : j = j' := by omega
      subst this
      exact hmi i i' j (lk_mem hl) (lk_mem hl')
  have hsm0 := hsm
  simp only [Shape.small, Bool.and_eq_true, List.all_eq_true] at hsm
  have hnd : nodupK rob = true := by
    show nodupK (fill rs out).2 = true
    have : (fill rs out).2 = (fillOb out rs.ob (fillSl out rs.sl 0).2).1 := by simp only [fill]
    rw [this]
    exact fillOb_nodup _ _ hsm.2.2
  have hrob : ∀ i o, (i, o) ∈ rob → i < 16 ∧ lk rob i = some o := fun i o h => by
    have := nodup_lk hnd h
    exact ⟨(h1.obj i o this).2.1, this⟩
  have hU0 := updF_back (r := r) (updF hp (given f.mp)) rob hnd (fun i i' o o' h h' e => hrinj i i' (hrob i o h).1 (hrob i' o' h').1 e)
  rw [← updF_append] at hU0
  let hp2 : HpF := updF hp (given f.mp ++ back r rob)
  have hb1 : ∀ i o, (i, o) ∈ rob → hp2 (r i) = some (o.ren r) := hU0.1
  have hb2 : ∀ x, (∀ i o, (i, o) ∈ rob → r i ≠ x) → hp2 x = if hasV f.mp x then none else hp x := fun x hx => by
    rw [← updF_given]; exact hU0.2 x hx
  have hcase : ∀ x o2, hp2 x = some o2 → (∃ i o, (i, o) ∈ rob ∧ r i = x ∧ o2 = o.ren r) ∨ ((∀ i o, (i, o) ∈ rob → r i ≠ x) ∧ hasV f.mp x = false ∧ hp x = some o2) := fun x o2 h2 => by
    by_cases hx : ∃ i o, (i, o) ∈ rob ∧ r i = x
    · obtain ⟨i, o, h3, h4⟩ := hx
      refine .inl ⟨i, o, h3, h4, ?_⟩
      have := hb1 i o h3
      rw [h4, h2] at this
      cases this
      rfl
    · have hx' : ∀ i o, (i, o) ∈ rob → r i ≠ x := fun i o h3 h4 => hx ⟨i, o, h3, h4⟩
      rw [hb2 x hx'] at h2
      split at h2
      · cases h2
      · rename_i hv
        exact .inr ⟨hx', by simpa using hv, h2⟩
  let chg : Nat → Prop := fun x => hasV f.mp x = true ∨ ∃ i o, (i, o) ∈ rob ∧ r i = x
  have hE1 : ∀ b, (entOf kd E hp σ w f d0).T0 b → ∃ i j oj, lk f.mp i = some (some j) ∧ hp j = some oj ∧ blk (σ j).v = some b := fun b h => h
  have hpass : ∀ i j, lk f.mp i = some (some j) → hasV f.mp j = true := fun i j h => hasV_iff.2 ⟨i, lk_mem h⟩
  -- which blocks may be read
  have hFF : ∀ fr b, (fr = true ∨ f.lent = []) → fF (entOf kd E hp σ w f d0) (lk rob) σ1 fr b → fF E hp2 σ2 fr b := fun fr b hfr' hb => by
    have hold : ∀ x o2, hp x = some o2 → hasV f.mp x = false → blk (σ x).v ≠ some b := fun x o2 hx hv hbx => by
      rcases hb.2 with h | h | h | ⟨h, h'⟩
      · have := (hs.trk x o2 b hx hbx).1
        have h : w.heap.size ≤ b := h
        omega
      · obtain ⟨i, j, oj, h3, h4, h5⟩ := hE1 b h
        have hne : x ≠ j := fun e => by rw [e, hpass i j h3] at hv; cases hv
        exact hs.inj x j o2 oj b hx h4 hne hbx h5
      · exact h.1 x o2 hx hbx
      · rcases h' with h' | ⟨i, hi, _⟩
        · exact h'.1 x o2 hx hbx
        · rcases hfr' with e | e
          · rw [h] at e; cases e
          · rw [e] at hi; simp at hi
    refine ⟨fun x o2 hx hbx => ?_, ?_⟩
    · rcases hcase x o2 hx with ⟨i, o, h3, h4, _⟩ | ⟨_, hv, h5⟩
      · obtain ⟨hi16, hlk⟩ := hrob i o h3
        rw [← h4, hσr i hi16] at hbx
        exact hb.1 i o hlk hbx
      · have : σ2 x = σ x := by
          simp only [σ2]
          rw [if_neg (hUn x (hs.obj x o2 h5).2.1)]
        rw [this] at hbx
        exact hold x o2 h5 hv hbx
    · rcases hb.2 with h | h | h | ⟨h, h'⟩
      · exact .inl (Nat.le_trans hs.grew.size h)
      · obtain ⟨i, j, oj, h3, h4, h5⟩ := hE1 b h
        exact (hs.trk j oj b h4 h5).2.imp id .inl
      · rcases h.2 with h | h | h | ⟨h, _⟩
        · exact .inl h
        · exact .inr (.inl h)
        · exact .inr (.inr (.inl h))
        · cases h
      · rcases h' with h' | ⟨i, hi, _⟩
        · rcases h'.2 with h3 | h3 | h3 | ⟨_, h3⟩
          · exact .inl h3
          · exact .inr (.inl h3)
          · exact .inr (.inr (.inl h3))
          · exact .inr (.inr (.inr ⟨h, h3⟩))
        · rcases hfr' with e | e
          · rw [h] at e; cases e
          · rw [e] at hi; simp at hi
  let q : Bool := f.lent.isEmpty
  have hRen : Ren (ctx kd (entOf kd E hp σ w f d0) (lk rob) σ1 w') (ctx kd E hp2 σ2 w') r q := {
    kd := rfl
    w := rfl
    σ := hσr
    F1 := fun b hb _ => hFF true b (.inl rfl) hb
    F0 := fun hq b hb _ => hFF false b (.inr (by simpa [q] using hq)) hb }
  have hqa : ∀ s b, (s, b) ∈ (fill rs out).1 → q = true ∨ b.fresh = true := fun s b hb => by
    rcases hq with h | h
    · exact .inl (by simp [q, h])
    · refine .inr ?_
      simp only [Shape.fresh, Bool.and_eq_true, List.all_eq_true] at h
      have : (fill rs out).1 = (fillSl out rs.sl 0).1 := by simp only [fill]
      rw [this] at hb
      exact fillSl_fresh _ _ h.1 s b hb
  have hqo : ∀ i o, (i, o) ∈ rob → q = true ∨ o.fresh = true := fun i o ho => by
    rcases hq with h | h
    · exact .inl (by simp [q, h])
    · refine .inr ?_
      simp only [Shape.fresh, Bool.and_eq_true, List.all_eq_true] at h
      have : rob = (fillOb out rs.ob (fillSl out rs.sl 0).2).1 := by show (fill rs out).2 = _; simp only [fill]
      rw [this] at ho
      exact fillOb_fresh _ _ h.2 i o ho
  have hrU : ∀ i, i < 16 → U (r i) ∨ (nid ≤ r i ∧ r i < nid + 16) := fun i hi => by
    rcases hr i hi with ⟨h, _⟩ | ⟨j, hk, hl, h⟩
    · exact .inr (by omega)
    · exact .inl (by rw [h]; exact hmU i j (lk_mem hl))
  obtain ⟨hs2, hcle⟩ := hs.update (U' := fun x => U x ∨ (nid ≤ x ∧ x < nid + 16)) (hp' := hp2) (σ' := σ2) (w' := w') chg (fun i hi => .inl hi) (fun i hi => by simp only [σ2]; rw [if_neg (hUn i hi)])
    h1.grew.os h1.grew.tape h1.grew.output h1.grew.size
    (fun b hb hnb => h1.grew.block b hb fun hT => by
      obtain ⟨i, j, oj, h3, h4, h5⟩ := hE1 b hT
      exact hnb j oj h4 (.inl (hpass i j h3)) h5)
    (fun x hx => by
      have h3 : ∀ i o, (i, o) ∈ rob → r i ≠ x := fun i o h h' => hx (.inr ⟨i, o, h, h'⟩)
      rw [hb2 x h3, if_neg fun h => hx (.inl h)])
    (fun x o2 hc hx => by
      rcases hcase x o2 hx with ⟨i, o, h3, h4, h5⟩ | ⟨h3, hv, h5⟩
      · obtain ⟨hi16, hlk⟩ := hrob i o h3
        obtain ⟨ho1, _, ho3⟩ := h1.obj i o hlk
        refine ⟨h4 ▸ hrU i hi16, by rw [h5]; exact oin_ren (fun i hi => hrU i hi) o ho3, fun b hb => ?_, fun _ => ?_⟩
        · rw [← h4, hσr i hi16] at hb
          obtain ⟨h6, h7⟩ := h1.trk i o b hlk hb
          refine ⟨h6, h7.imp id fun hT => ?_⟩
          obtain ⟨i', j, oj, h8, h9, h10⟩ := hE1 b hT
          exact ⟨j, oj, h9, .inl (hpass i' j h8), h10⟩
        · rw [h5, ← h4, hσr i hi16]
          exact orel_ren hRen ho3 (hqo i o h3) ho1
      · exfalso
        rcases hc with hc | ⟨i, o, h6, h7⟩
        · rw [hv] at hc; cases hc
        · exact h3 i o h6 h7)
    (fun x y ox oy b hcx hcy hx hy hne hbx hby => by
      have key : ∀ z oz, chg z → hp2 z = some oz → ∃ i o, (i, o) ∈ rob ∧ r i = z := fun z oz hc hz => by
        rcases hcase z oz hz with ⟨i, o, h3, h4, h5⟩ | ⟨h3, hv, h5⟩
        · exact ⟨i, o, h3, h4⟩
        · exfalso
          rcases hc with hc | ⟨i, o, h6, h7⟩
          · rw [hv] at hc; cases hc
          · exact h3 i o h6 h7
      obtain ⟨i, o, h3, h4⟩ := key x ox hcx hx
      obtain ⟨i', o', h5, h6⟩ := key y oy hcy hy
      obtain ⟨hi16, hlk⟩ := hrob i o h3
      obtain ⟨hi16', hlk'⟩ := hrob i' o' h5
      rw [← h4, hσr i hi16] at hbx
      rw [← h6, hσr i' hi16'] at hby
      exact h1.inj i i' o o' b hlk hlk' (fun e => hne (by rw [← h4, ← h6, e])) hbx hby)
  refine ⟨σ2, fun i hi => by simp only [σ2]; rw [if_neg (hUn i hi)], hs2, fun s b hm hlk => ?_, fun c hc hun => (hFF true c (.inl rfl) ⟨hun, .inl hc⟩).1⟩
  obtain ⟨h3, h4⟩ := h1.slot s b hlk
  refine ⟨?_, in_ren (fun i hi => hrU i hi) b h4⟩
  have hw : ∀ s' b' c v, b ≠ .w s' b' c v := by
    rintro s' b' c v rfl
    have : (fill rs out).1 = (fillSl out rs.sl 0).1 := by simp only [fill]
    rw [this] at hm
    exact fillSl_w _ _ _ _ hm s' b' c v rfl
  obtain ⟨v, hv1, hv2⟩ := slot_val hw h3
  refine slot_of_val (fun s' b' c v' e => ?_) ⟨v, hv1, vrel_ren hRen h4 (hqa s b hm) hv2⟩
  cases b <;> simp [AV.ren] at e
  exact hw _ _ _ _ rfl
end Go.Ev
