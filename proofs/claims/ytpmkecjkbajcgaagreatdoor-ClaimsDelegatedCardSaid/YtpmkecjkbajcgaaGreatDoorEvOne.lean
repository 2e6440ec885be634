/- The evaluator: the operations that hand back a value and turn nothing. -/
import Derived.Test.YtpmkecjkbajcgaaGreatDoorEvStep
namespace Go.Ev
open Go
set_option linter.unusedVariables false
set_option linter.unusedSimpArgs false

/-! ### 1. Values and cells -/
section
variable {P : Program} {T : Tbl} {C : Ctx} {R : Type}
theorem add_shift {ad : Addr} (h : ad.spot = none) (n : Nat) : ad.add n = shift ad n := by
  unfold Addr.add shift
  split
  · rename_i e; subst e; cases ad; simp_all
  · cases ad; simp_all
theorem At.sub {w : World} {ad : Addr} {c0 c1 c2 : List Value} (h : At w ad (c0 ++ c1 ++ c2)) : At w (shift ad c0.length) c1 := fun t v hv => by
  have := h (c0.length + t) v (by
    have hlt : t < c1.length := (List.getElem?_eq_some_iff.1 hv).1
    rw [List.append_assoc, List.getElem?_append_right (Nat.le_add_right _ _), Nat.add_sub_cancel_left, List.getElem?_append_left hlt]
    exact hv)
  simpa [shift, Nat.add_assoc] using this
theorem vrel_of_v1 {a : AV} {v : Value} (h : V1 C a v) : VRel C a v := by
  cases a with
  | tup xs => exact absurd h.1 (by simp [CRel])
  | _ => exact h
theorem v1_of_vrel {a : AV} {v : Value} (h : VRel C a v) (ht : ∀ xs, a ≠ .tup xs) : V1 C a v := by
  cases a with
  | tup xs => exact absurd rfl (ht xs)
  | _ => exact h
theorem cells_self {u : Value} (h : aggV u = false) : u.cells.toList = [u] := by
  cases u <;> first | rfl | simp [aggV] at h
theorem v1_one {a : AV} {u : Value} (h : CRel C a [u]) (hu : aggV u = false) (ha : a.aggB C.kd = false) : V1 C a u :=
  ⟨by rw [cells_self hu]; exact h, by rw [hu, ha]⟩
/-- What the place tells of the cells. -/
theorem crel_shape {a : AV} {t : TypeId} {k : K} {cs : List Value} (hk : C.kd t = some k) (hf : a.fits C.kd t) (h : CRel C a cs) :
    a.aggB C.kd = k.agg ∧ (k.agg = false → ∃ u, cs = [u] ∧ aggV u = false) := by
  have hty : ∀ u, a.ty = some u → u = t := fun u hu => by
    by_cases hp : k = .ptr
    · subst hp
      simp only [AV.fits, hk] at hf
      obtain ⟨_, _, _, rfl | rfl | ⟨_, rfl⟩ | ⟨_, _, rfl⟩ | ⟨_, _, rfl⟩⟩ := hf <;> simp [AV.ty] at hu
    · by_cases ho : k = .opq
      · subst ho
        simp only [AV.fits, hk] at hf
        obtain ⟨_, _, rfl⟩ := hf
        simp [AV.ty] at hu
      · rw [fits_ty hk hf hp ho] at hu
        cases hu
        rfl
  cases a with
  | d t' fr x =>
    have := hty t' rfl
    subst this
    simp only [CRel] at h
    obtain ⟨k', hk', hr⟩ := h
    rw [hk] at hk'
    cases hk'
    exact ⟨by simp [AV.aggB, hk], fun hg => rep_single hr hg⟩
  | nil t' =>
    have := hty t' rfl
    subst this
    simp only [CRel] at h
    obtain ⟨rfl, e, k', hk'⟩ := h
    rw [hk] at hk'
    cases hk'
    exact ⟨rfl, fun _ => ⟨_, rfl, rfl⟩⟩
  | own t' i =>
    have := hty t' rfl
    subst this
    simp only [CRel] at h
    obtain ⟨rfl, hg, hor⟩ := h
    rcases hor with ⟨k', hk'⟩ | ⟨_, _, _, hk', _⟩ <;>
    · rw [hk] at hk'
      cases hk'
      exact ⟨rfl, fun _ => ⟨_, rfl, agg_one hg⟩⟩
  | agg t' fs =>
    have := hty t' rfl
    subst this
    simp only [CRel] at h
    obtain ⟨k', hk', hg, hr⟩ := h
    rw [hk] at hk'
    cases hk'
    exact ⟨by simp [AV.aggB, hg], fun hg' => by simp [hg] at hg'⟩
  | ptr t' i p =>
    simp only [CRel] at h
    obtain ⟨g, o, _, _, rfl⟩ := h
    cases k <;> first | exact ⟨rfl, fun _ => ⟨_, rfl, rfl⟩⟩ | (simp [AV.fits, hk, AV.ty] at hf)
  | optr t' i j p =>
    simp only [CRel] at h
    obtain ⟨g, n, c, o, _, _, _, _, rfl⟩ := h
    cases k <;> first | exact ⟨rfl, fun _ => ⟨_, rfl, rfl⟩⟩ | (simp [AV.fits, hk, AV.ty] at hf)
  | cptr t' fr x =>
    simp only [CRel] at h
    obtain ⟨k', ad, ds, _, rfl, _⟩ := h
    cases k <;> first | exact ⟨rfl, fun _ => ⟨_, rfl, rfl⟩⟩ | (simp [AV.fits, hk, AV.ty] at hf)
  | bx t' fr x =>
    simp only [CRel] at h
    obtain ⟨ad, ds, rfl, _⟩ := h
    cases k <;> first | exact ⟨rfl, fun _ => ⟨_, rfl, rfl⟩⟩ | (simp [AV.fits, hk, AV.ty] at hf)
  | nilp =>
    simp only [CRel] at h
    subst h
    cases k <;> first | exact ⟨rfl, fun _ => ⟨_, rfl, rfl⟩⟩ | (simp [AV.fits, hk, AV.ty] at hf)
  | fn g caps =>
    simp only [CRel] at h
    obtain ⟨vs, rfl, _⟩ := h
    cases k <;> first | exact ⟨rfl, fun _ => ⟨_, rfl, rfl⟩⟩ | (simp [AV.fits, hk, AV.ty] at hf)
  | undef => cases k <;> simp_all [AV.fits, AV.ty]
  | tup xs => simp [CRel] at h
  | w s b c a => simp [CRel] at h
/-! ### 2. Loading -/
theorem run_loadAt {t : TypeId} {k : K} (h : TyOK P T.kd t k) {w : World} {ad : Addr} {ds : List Value} (hl : ds.length = k.size) (hone : k.agg = false → ∃ u, ds = [u] ∧ aggV u = false) (hsp : ad.spot = none) (hat : At w ad ds) :
    ∃ v, (Instr.loadAt t (.pointer (some ad))).run P w = .ok v w ∧ v.cells.toList = ds ∧ aggV v = k.agg := by
  have hc : ∀ j v, ds[j]? = some v → w.cell? (ad.add j) = some v := fun j v hv => by rw [add_shift hsp]; exact hat j v hv
  simp only [Instr.loadAt, Instr.sureAddr, pure_bind, loadVar, Sem.run_bind, h.isAgg w, Result.andThen_ok]
  cases hg : k.agg with
  | true =>
    simp only [if_true, Sem.run_bind, h.sizeOf w, Result.andThen_ok, ← hl, run_loadCells_list w ad ds hc, Sem.run_pure]
    exact ⟨_, rfl, rfl, rfl⟩
  | false =>
    obtain ⟨u, rfl, hu⟩ := hone hg
    have h0 : w.cell? ad = some u := by
      have := hc 0 u rfl
      simpa [Addr.add] using this
    simp only [Bool.false_eq_true, if_false, run_load, h0]
    exact ⟨u, rfl, cells_self hu, hu⟩
/-- The block of a tracked object, and what is in it. -/
theorem box_at {t : TypeId} {a : AV} {h : Hd} (ho : ORel C (.box t a) h) : ∃ g cs, h.v = .pointer (some ⟨g, 0, none⟩) ∧ h.t = t ∧ cs.length = sizeT C.kd t ∧ a.fits C.kd t ∧ CRel C a cs ∧ At C.w ⟨g, 0, none⟩ cs := by
  simp only [ORel] at ho
  obtain ⟨ht, g, cs, hv, hh, hl, hf, hr⟩ := ho
  refine ⟨g, cs, hv, ht, hl, hf, hr, fun j v hj => ?_⟩
  simp [World.cell?, hh, hj]
theorem flatten_at {Q : D → List Value → Prop} {n : Nat} : ∀ {xs : List D} {css : List (List Value)}, All2 Q xs css → (∀ x cs, Q x cs → cs.length = n) → ∀ (j : Nat) (x : D), xs[j]? = some x →
    ∃ c0 c1 c2, css.flatten = c0 ++ c1 ++ c2 ∧ c0.length = j * n ∧ Q x c1 ∧ (∀ y c1', Q y c1' → ∃ css', css'.flatten = c0 ++ c1' ++ c2 ∧ All2 Q (xs.set j y) css')
  | _, _, .nil, _, j, x, hx => by simp at hx
  | _, _, .cons (a := a) (b := b) (l := l) (m := m) hab hlm, hQ, 0, x, hx => by
    simp only [List.getElem?_cons_zero, Option.some.injEq] at hx
    subst hx
    exact ⟨[], b, m.flatten, by simp, by simp, hab, fun y c1' hy => ⟨c1' :: m, by simp, .cons hy hlm⟩⟩
  | _, _, .cons (a := a) (b := b) (l := l) (m := m) hab hlm, hQ, j + 1, x, hx => by
    obtain ⟨c0, c1, c2, hf, hl, hq, hs⟩ := flatten_at hlm hQ j x (by simpa using hx)
    refine ⟨b ++ c0, c1, c2, by simp [hf, List.append_assoc], by simp [hl, hQ _ _ hab, Nat.succ_mul, Nat.add_comm], hq, fun y c1' hy => ?_⟩
    obtain ⟨css', h1, h2⟩ := hs y c1' hy
    exact ⟨b :: css', by simp [h1, List.append_assoc], .cons hab h2⟩
theorem nth_of_get : ∀ {l : List D} {j : Nat} {x : D}, l[j]? = some x → D.nth l j = x
  | a :: l, 0, x, h => by simpa [D.nth] using h
  | a :: l, j + 1, x, h => by simpa [D.nth] using nth_of_get (l := l) (by simpa using h)
  | [], j, x, h => by simp at h
theorem get_nth {l : List D} {j : Nat} (h : j < l.length) : l[j]? = some (D.nth l j) := by
  obtain ⟨x, hx⟩ : ∃ x, l[j]? = some x := ⟨l[j], by simp [h]⟩
  rw [nth_of_get hx]
  exact hx
theorem setNth_eq : ∀ {l : List D} {j : Nat} (y : D), j < l.length → D.setNth l j y = l.set j y
  | a :: l, 0, y, _ => rfl
  | a :: l, j + 1, y, h => by simp [D.setNth, setNth_eq (l := l) (j := j) y (by simpa using h)]
  | [], j, y, h => by simp at h
theorem all2_getQ {α β : Type} {Q : α → β → Prop} : ∀ {l : List α} {m : List β}, All2 Q l m → ∀ b ∈ m, ∃ a, Q a b
  | _, _, .nil, b, hb => by simp at hb
  | _, _, .cons h t, b, hb => by
    rcases List.mem_cons.1 hb with rfl | hb
    · exact ⟨_, h⟩
    · exact all2_getQ t b hb
theorem flatten_len {Q : D → List Value → Prop} {n : Nat} : ∀ {xs : List D} {css : List (List Value)}, All2 Q xs css → (∀ x cs, Q x cs → cs.length = n) → css.flatten.length = xs.length * n
  | _, _, .nil, _ => by simp
  | _, _, .cons (l := l) (m := m) h t, hQ => by simp [hQ _ _ h, flatten_len t hQ, Nat.succ_mul, Nat.add_comm]
/-- A row's header, and what its cells are. -/
theorem row_at {e : TypeId} {fr : Bool} {xs : List D} {h : Hd} (ho : ORel C (.row e fr xs) h) : h.t = e ∧ ∃ k css, C.kd e = some k ∧ All2 (RepC (C.F fr) C.w k) xs css ∧
    ((h.v = .slice none 0 0 ∧ xs = []) ∨ ∃ g n c, h.v = .slice (some ⟨g, 0, none⟩) n c ∧ n = xs.length ∧ n ≤ c ∧ c ≤ maxLen ∧ g < C.w.heap.size ∧ At C.w ⟨g, 0, none⟩ css.flatten) := by
  simp only [ORel] at ho
  obtain ⟨ht, k, css, hk, ha, hown⟩ := ho
  refine ⟨ht, k, css, hk, ha, ?_⟩
  have hlen := flatten_len ha (fun x cs h => rep_len h)
  obtain ⟨hl1, hown⟩ := hown
  rcases hown with ⟨hv, hx⟩ | ⟨g, cap, cur, hv, h0, hh, hn, hc, hcur, htk⟩
  · exact .inl ⟨hv, List.length_eq_zero_iff.1 hx⟩
  · refine .inr ⟨g, _, cap, hv, rfl, hn, hc, (Array.getElem?_eq_some_iff.1 hh).1, fun j v hj => ?_⟩
    have hj' : cur.toList[j]? = some v := by
      rw [← htk, List.getElem?_take] at hj
      split at hj
      · exact hj
      · cases hj
    simp only [World.cell?, Nat.zero_add]
    rw [hh]
    simpa using hj'
theorem fldsD_in {U : Nat → Prop} {fr : Bool} {x : D} : ∀ (k : K) (j : Nat), AV.Ins U (fldsD fr x k j)
  | .pair t k r, j => ⟨trivial, fldsD_in r (j + 1)⟩
  | .int _, _ | .bool, _ | .str, _ | .slice .., _ | .unit, _ | .ptr, _ | .opq, _ | .map .., _ | .pd .., _ => trivial
theorem flds_in {U : Nat → Prop} {v : AV} {fs : List AV} (h : flds T v = some fs) (hi : v.In U) : AV.Ins U fs := by
  cases v with
  | agg t l => simp only [flds, Option.some.injEq] at h; subst h; exact hi
  | d t fr x =>
    simp only [flds] at h
    split at h
    · split at h
      · simp only [Option.some.injEq] at h; subst h; exact fldsD_in _ _
      · cases h
    · cases h
  | _ => simp [flds] at h
theorem nthA_in {U : Nat → Prop} : ∀ {fs : List AV} {j : Nat} {a : AV}, nthA fs j = some a → AV.Ins U fs → a.In U
  | b :: l, 0, a, h, hi => by simp only [nthA, Option.some.injEq] at h; subst h; exact hi.1
  | b :: l, j + 1, a, h, hi => nthA_in (fs := l) (by simpa only [nthA] using h) hi.2
  | [], j, a, h, _ => by simp [nthA] at h
theorem getP_in {U : Nat → Prop} : ∀ {p : List Nat} {v a : AV}, getP T v p = some a → v.In U → a.In U
  | [], v, a, h, hi => by simp only [getP, Option.some.injEq] at h; subst h; exact hi
  | j :: p, v, a, h, hi => by
    simp only [getP] at h
    split at h
    · rename_i fs hf
      split at h
      · rename_i b hn
        exact getP_in h (nthA_in hn (flds_in hf hi))
      · cases h
    · cases h
theorem setA_in {U : Nat → Prop} {b : AV} (hb : b.In U) : ∀ {fs : List AV} {j : Nat}, AV.Ins U fs → AV.Ins U (setA fs j b)
  | a :: l, 0, h => ⟨hb, h.2⟩
  | a :: l, j + 1, h => ⟨h.1, setA_in hb (fs := l) h.2⟩
  | [], _, _ => trivial
theorem setP_in {U : Nat → Prop} {b : AV} (hb : b.In U) : ∀ {p : List Nat} {v v' : AV}, setP T v p b = some v' → v.In U → v'.In U
  | [], v, v', h, _ => by simp only [setP, Option.some.injEq] at h; subst h; exact hb
  | j :: p, v, v', h, hi => by
    simp only [setP] at h
    split at h
    · split at h
      · rename_i fs hf
        split at h
        · rename_i b0 hn
          split at h
          · rename_i b1 hs
            simp only [Option.some.injEq] at h
            subst h
            exact setA_in (setP_in hb hs (nthA_in hn (flds_in hf hi))) (flds_in hf hi)
          · cases h
        · cases h
      · cases h
    · cases h
theorem vrel_cells {a : AV} {v : Value} {cs : List Value} {t : TypeId} {k : K} (hk : C.kd t = some k) (hf : a.fits C.kd t) (h : CRel C a cs) (hv : v.cells.toList = cs) (hg : aggV v = k.agg) : VRel C a v :=
  vrel_of_v1 ⟨by rw [hv]; exact h, by rw [hg, (crel_shape hk hf h).1]⟩
theorem single_of {v : Value} {a : AV} {u : Value} (h : VRel C a v) (ha : a.aggB C.kd = false) (ht : ∀ xs, a ≠ .tup xs) (hc : ∀ cs, CRel C a cs → cs = [u]) : v = u := by
  have := v1_of_vrel h ht
  exact cells_one (hc _ this.1) (by rw [this.2, ha])
theorem evLoad_sound (hT : TblOK P T) {t : TypeId} {hp : Nat → Option AO} {x : AV} {k : OK R} {r : R} (h : evLoad T t hp x k = some r) : ∃ av seen, k av [] seen = some r ∧
    ∀ (C : Ctx) (U : Nat → Prop) (vx : Value), C.kd = T.kd → (∀ i ∈ seen, ∀ o, hp i = some o → ORel C o (C.σ i) ∧ o.In U) → VRel C x vx → x.In U →
      ∃ v, (Instr.loadAt t vx).run P C.w = .ok v C.w ∧ VRel C av v ∧ av.In U := by
  unfold evLoad at h
  split at h
  · rename_i u fr a
    split at h
    · rename_i hb
      rw [Nat.beq_eq] at hb
      subst hb
      refine ⟨_, _, h, fun C U vx hC _ hx hxin => ?_⟩
      have hx1 := v1_of_vrel hx (by simp)
      simp only [V1, CRel] at hx1
      obtain ⟨⟨k', ad, ds, hk, hc, hsp, hF, hlt, hr, hat⟩, hg⟩ := hx1
      have hvx := cells_one hc hg
      subst hvx
      rw [hC] at hk
      obtain ⟨v, hv, hcs, hgv⟩ := run_loadAt (hT.ty _ _ hk) (rep_len hr) (rep_single hr) hsp hat
      exact ⟨v, hv, d_of_rep (by rw [hC]; exact hk) (by rw [hcs]; exact hr) hgv, trivial⟩
    · cases h
  · rename_i u fr a
    split at h
    · rename_i hb
      rw [Nat.beq_eq] at hb
      subst hb
      refine ⟨_, _, h, fun C U vx hC _ hx hxin => ?_⟩
      have hx1 := v1_of_vrel hx (by simp)
      simp only [V1, CRel] at hx1
      obtain ⟨⟨ad, ds, hc, hsp, hF, hlt, hl, hf, hr, hat⟩, hg⟩ := hx1
      have hvx := cells_one hc hg
      subst hvx
      have hku : ∃ ku, C.kd t = some ku := by
        cases hk : C.kd t with
        | none => simp [AV.fits, hk] at hf
        | some ku => exact ⟨ku, rfl⟩
      obtain ⟨ku, hku⟩ := hku
      have hsh := crel_shape hku hf hr
      obtain ⟨v, hv, hcs, hgv⟩ := run_loadAt (hT.ty _ _ (by rw [← hC]; exact hku)) (by simpa [sizeT, hku] using hl) hsh.2 hsp hat
      exact ⟨v, hv, vrel_cells hku hf hr hcs hgv, hxin⟩
    · cases h
  · rename_i u i j p
    split at h
    · rename_i hb
      rw [Nat.beq_eq] at hb
      subst hb
      split at h
      · rename_i e fr xs hhp
        refine ⟨_, _, h, fun C U vx hC hobj hx hxin => ?_⟩
        have hx1 := v1_of_vrel hx (by simp)
        simp only [V1, CRel] at hx1
        obtain ⟨⟨g, n, c, o, hσ, h0, hj, hp', hc⟩, hg⟩ := hx1
        have hvx := cells_one hc hg
        subst hvx
        obtain ⟨ht, k', css, hk, hall, hrow⟩ := row_at (hobj i (by simp) _ hhp).1
        rcases hrow with ⟨hv, _⟩ | ⟨g', n', c', hv, hn, _, _, hlt, hat⟩
        · rw [hσ] at hv; simp at hv
        · rw [hσ] at hv
          simp only [Value.slice.injEq, Option.some.injEq, Addr.mk.injEq, and_true] at hv
          obtain ⟨rfl, rfl, rfl⟩ := hv
          subst hn
          have hjl : j.toNat < xs.length := by omega
          obtain ⟨c0, c1, c2, hfl, hl0, hq, _⟩ := flatten_at hall (fun x cs h => rep_len h) j.toNat _ (get_nth hjl)
          rw [hC] at hk
          rw [ht, hC] at hp'
          obtain ⟨d0, d1, d2, ku, rfl, hl', hku, hr, _⟩ := rep_path hT.ty p e k' _ _ o t hk hq hp'
          rw [hfl] at hat
          have hat2 := At.sub (c0 := d0) (At.sub hat)
          obtain ⟨v, hv, hcs, hgv⟩ := run_loadAt (hT.ty _ _ hku) (rep_len hr) (rep_single hr) rfl hat2
          refine ⟨v, ?_, d_of_rep (by rw [hC]; exact hku) (by rw [hcs]; exact hr) hgv, trivial⟩
          have : sizeT C.kd (C.σ i).t = k'.size := by simp [sizeT, hC, ht, hk]
          simpa [shift, hl0, hl', this] using hv
      · cases h
    · cases h
  · rename_i u i p
    split at h
    · rename_i hb
      rw [Nat.beq_eq] at hb
      subst hb
      split at h
      · rename_i bt b hhp
        split at h
        · rename_i a hga
          refine ⟨_, _, h, fun C U vx hC hobj hx hxin => ?_⟩
          have hx1 := v1_of_vrel hx (by simp)
          simp only [V1, CRel] at hx1
          obtain ⟨⟨g, o, hσ, hp', hc⟩, hg⟩ := hx1
          have hvx := cells_one hc hg
          subst hvx
          obtain ⟨ho, hin⟩ := hobj i (by simp) _ hhp
          obtain ⟨g', cs, hv, ht, hl, hfit, hr, hat⟩ := box_at ho
          rw [hσ] at hv
          simp only [Value.pointer.injEq, Option.some.injEq, Addr.mk.injEq, and_true] at hv
          subst hv
          rw [ht, hC] at hp'
          cases hkb : T.kd bt with
          | none => simp [AV.fits, hC, hkb] at hfit
          | some kb =>
          obtain ⟨c0, c1, c2, ku, rfl, hl0, hku, hl1, hfa, hra⟩ := getP_rel hT hC p b a bt kb cs o t hga hkb (by rw [← hC]; exact hfit) hr hp'
          have hsh := crel_shape (by rw [hC]; exact hku) (by rw [hC]; exact hfa) hra
          obtain ⟨v, hv, hcs, hgv⟩ := run_loadAt (hT.ty _ _ hku) hl1 hsh.2 rfl (At.sub hat)
          refine ⟨v, by simpa [shift, hl0] using hv, vrel_cells (by rw [hC]; exact hku) (by rw [hC]; exact hfa) hra hcs hgv, getP_in hga hin⟩
        · cases h
      · cases h
    · cases h
  · cases h
/-! ### 3. Fields -/
theorem fields_at : ∀ {fs : List Field} {k : K} {off j : Nat} {tj : TypeId} {kj : K}, FieldsOK T.kd fs k off → k.fld j = some (tj, kj) → ∃ f, fs[j]? = some f ∧ f.type = tj ∧ f.offset = off + k.off j
  | [], k, _, j, _, _, h, hf => by simp only [FieldsOK] at h; subst h; simp [K.fld] at hf
  | f :: fs, .pair t k r, off, 0, tj, kj, h, hf => by
    simp only [K.fld, Option.some.injEq, Prod.mk.injEq] at hf
    simp only [FieldsOK] at h
    exact ⟨f, rfl, by rw [h.1]; exact hf.1, by simp [K.off, h.2.2.1]⟩
  | f :: fs, .pair t k r, off, j + 1, tj, kj, h, hf => by
    simp only [K.fld] at hf
    simp only [FieldsOK] at h
    obtain ⟨g, h1, h2, h3⟩ := fields_at (fs := fs) h.2.2.2.2 hf
    exact ⟨g, by simpa using h1, h2, by rw [h3]; simp [K.off, Nat.add_assoc]⟩
  | f :: fs, .int _, _, _, _, _, h, _ | f :: fs, .bool, _, _, _, _, h, _ | f :: fs, .str, _, _, _, _, h, _ | f :: fs, .slice .., _, _, _, _, h, _ | f :: fs, .unit, _, _, _, _, h, _ | f :: fs, .ptr, _, _, _, _, h, _ | f :: fs, .opq, _, _, _, _, h, _ | f :: fs, .map .., _, _, _, _, h, _ | f :: fs, .pd .., _, _, _, _, h, _ => by simp [FieldsOK] at h
theorem TyOK.struct {t : TypeId} {k : K} (h : TyOK P T.kd t k) (hk : k.agg = true) (hna : ∀ n e, P.underlying t ≠ some (.array n e)) : ∃ fs : Array Field, P.underlying t = some (.struct fs) ∧ FieldsOK T.kd fs.toList k 0 := by
  obtain ⟨d, hd, hk'⟩ := h.desc
  cases d with
  | struct fs => exact ⟨fs, hd, hk'.1⟩
  | int ik => simp only [DescOK] at hk'; subst hk'; simp [K.agg] at hk
  | bool => simp only [DescOK] at hk'; subst hk'; simp [K.agg] at hk
  | string => simp only [DescOK] at hk'; subst hk'; simp [K.agg] at hk
  | slice e => obtain ⟨_, rfl, _⟩ := hk'; simp [K.agg] at hk
  | pointer e => simp only [DescOK] at hk'; rcases hk' with rfl | ⟨_, rfl, _⟩ <;> simp [K.agg] at hk
  | func a b c => simp only [DescOK] at hk'; subst hk'; simp [K.agg] at hk
  | map a b => simp only [DescOK] at hk'; subst hk'; simp [K.agg] at hk
  | array n e => exact absurd hd (hna n e)
  | _ => exact hk'.elim
theorem TyOK.struct_or {t : TypeId} {k : K} (h : TyOK P T.kd t k) (hk : k.agg = true) : (∃ fs : Array Field, P.underlying t = some (.struct fs) ∧ FieldsOK T.kd fs.toList k 0) ∨ ∃ n e ke, P.underlying t = some (.array n e) ∧ T.kd e = some ke ∧ k = K.arrK e ke n := by
  obtain ⟨d, hd, hk'⟩ := h.desc
  by_cases hna : ∃ n e, P.underlying t = some (.array n e)
  · obtain ⟨n, e, hu⟩ := hna
    rw [hu] at hd
    cases hd
    obtain ⟨ke, h1, h2, _⟩ := hk'
    exact .inr ⟨n, e, ke, hu, h1, h2⟩
  · exact .inl (h.struct hk fun n e h => hna ⟨n, e, h⟩)
theorem TblOK.na (hT : TblOK P T) {t : TypeId} {k : K} (hk : T.kd t = some k) (ha : T.arr t = false) : ∀ n e, P.underlying t ≠ some (.array n e) := fun n e h => by
  have := (hT.arr t k hk).2 ⟨n, e, h⟩
  rw [ha] at this
  cases this
theorem evField_sound (hT : TblOK P T) {s : TypeId} {x : AV} {j : Nat} {k : OK R} {r : R} (hna : T.arr s = false) (h : evField T s x j k = some r) : ∃ av, k av [] [] = some r ∧
    ∀ (C : Ctx) (U : Nat → Prop) (vx : Value) (w : World), C.kd = T.kd → VRel C x vx → x.In U → ∃ v, (Instr.field s vx j).run P w = .ok v w ∧ VRel C av v ∧ av.In U := by
  unfold evField at h
  split at h
  · rename_i u hty
    split at h
    · rename_i hb
      rw [Nat.beq_eq] at hb
      subst hb
      split at h
      · rename_i fs hf
        split at h
        · rename_i a hn
          refine ⟨a, h, fun C U vx w hC hx hin => ?_⟩
          have hx1 := v1_of_vrel hx (by rintro xs rfl; simp [AV.ty] at hty)
          obtain ⟨t, k', ht, hk, hg, hrs⟩ := flds_rel hT hC hf hx1.1
          rw [hty] at ht
          cases ht
          have hag : aggV vx = true := by
            rw [hx1.2]
            cases x with
            | d t' fr y => simp only [AV.ty, Option.some.injEq] at hty; subst hty; simp [AV.aggB, hC, hk, hg]
            | agg t' l => rfl
            | _ => simp [flds] at hf
          cases vx <;> simp [aggV] at hag
          rename_i cs
          obtain ⟨tj, kj, c0, c1, c2, hfld, hcs, hl0, hl1, hfa, hra, _⟩ := crels_nth hrs hn
          obtain ⟨fds, hfds, hfo⟩ := (hT.ty _ _ hk).struct hg (hT.na hk hna)
          obtain ⟨f, hfj, hft, hoff⟩ := fields_at hfo hfld
          have hkj := kf_fld (hT.ty _ _ hk).kf hfld
          have hsh := crel_shape (by rw [hC]; exact hkj) hfa hra
          obtain ⟨v, hv, hvc, hvg⟩ := run_part (hT.ty _ _ hkj) c0 c1 c2 hl1 hsh.2 w
          simp only [Value.cells] at hcs
          refine ⟨v, ?_, vrel_cells (by rw [hC]; exact hkj) hfa hra hvc hvg, nthA_in hn (flds_in hf hin)⟩
          have hfj' : fds[j]? = some f := by simpa using hfj
          rw [Nat.zero_add] at hoff
          rw [← hcs, hl0] at hv
          simp only [Array.toArray_toList] at hv
          simp [Instr.field, run_underlying hfds, hfj', asAgg, hft, hoff, hv]
        · cases h
      · cases h
    · cases h
  · cases h
theorem poff_snoc {kd : TypeId → Option K} {s : TypeId} {ks : K} {j : Nat} {tj : TypeId} {kj : K} (hk : kd s = some ks) (hf : ks.fld j = some (tj, kj)) : ∀ {p : List Nat} {t : TypeId} {o : Nat}, poff kd t p = some (o, s) → poff kd t (p ++ [j]) = some (o + ks.off j, tj)
  | [], t, o, h => by
    simp only [poff, Option.some.injEq, Prod.mk.injEq] at h
    obtain ⟨rfl, rfl⟩ := h
    simp [poff, hk, hf]
  | i :: p, t, o, h => by
    simp only [poff] at h
    cases hkt : kd t with
    | none => simp [hkt] at h
    | some kt =>
      simp only [hkt] at h
      cases hfi : kt.fld i with
      | none => simp [hfi] at h
      | some q =>
        obtain ⟨ti, ki⟩ := q
        simp only [hfi] at h
        cases hq : poff kd ti p with
        | none => simp [hq] at h
        | some q =>
          obtain ⟨o', u⟩ := q
          simp only [hq, Option.some.injEq, Prod.mk.injEq] at h
          obtain ⟨rfl, rfl⟩ := h
          have := poff_snoc hk hf hq
          simp [poff, hkt, hfi, this, Nat.add_assoc]
theorem evFieldAddr_sound (hT : TblOK P T) {s : TypeId} {x : AV} {j : Nat} {k : OK R} {r : R} (hna : T.arr s = false) (h : evFieldAddr T s x j k = some r) : ∃ av, k av [] [] = some r ∧
    ∀ (C : Ctx) (U : Nat → Prop) (vx : Value) (w : World), C.kd = T.kd → VRel C x vx → x.In U → ∃ v, (Instr.fieldAt s vx j).run P w = .ok v w ∧ VRel C av v ∧ av.In U := by
  unfold evFieldAddr at h
  split at h
  · rename_i ks hks
    split at h
    · rename_i tj kj hfld
      split at h
      · rename_i hz
        have hg := fld_agg hfld
        obtain ⟨fds, hfds, hfo⟩ := (hT.ty _ _ hks).struct hg (hT.na hks hna)
        obtain ⟨f, hfj, hft, hoff⟩ := fields_at hfo hfld
        have hkj := kf_fld (hT.ty _ _ hks).kf hfld
        rw [Nat.zero_add] at hoff
        have hfj' : fds[j]? = some f := by simpa using hfj
        have hz' : kj.size ≠ 0 := fun e0 => by rw [e0] at hz; exact absurd hz (by decide)
        have hrun : ∀ (ad : Addr) (w : World), ad.spot = none → (Instr.fieldAt s (.pointer (some ad)) j).run P w = .ok (.pointer (some (shift ad (ks.off j)))) w := fun ad w hsp => by
          simp [Instr.fieldAt, run_underlying hfds, hfj', Instr.sureAddr, fieldPlace, hft, (hT.ty _ _ hkj).sizeOf w, hz', hoff, add_shift hsp]
        split at h
        · rename_i u fr a
          split at h
          · rename_i hb
            rw [Nat.beq_eq] at hb
            subst hb
            refine ⟨_, h, fun C U vx w hC hx hin => ?_⟩
            have hx1 := v1_of_vrel hx (by simp)
            simp only [V1, CRel] at hx1
            obtain ⟨⟨k', ad, ds, hk, hc, hsp, hF, hlt, hr, hat⟩, hga⟩ := hx1
            have hvx := cells_one hc hga
            subst hvx
            rw [hC, hks] at hk
            cases hk
            refine ⟨_, hrun ad w hsp, ?_, trivial⟩
            cases ks with
            | pair t' k' r =>
              rw [repC_pair] at hr
              obtain ⟨c0, c1, c2, rfl, hl0, h1, _⟩ := repF_fld hr hfld
              rw [Nat.zero_add] at h1
              refine ⟨⟨kj, _, c1, by rw [hC]; exact hkj, rfl, rfl, hF, hlt, h1, ?_⟩, rfl⟩
              rw [← hl0]
              exact At.sub hat
            | _ => simp [K.fld] at hfld
          · cases h
        · rename_i u fr v
          split at h
          · rename_i hb
            rw [Nat.beq_eq] at hb
            subst hb
            split at h
            · rename_i a hget
              refine ⟨_, h, fun C U vx w hC hx hin => ?_⟩
              have hx1 := v1_of_vrel hx (by simp)
              simp only [V1, CRel] at hx1
              obtain ⟨⟨ad, ds, hc, hsp, hF, hlt, hl, hf, hr, hat⟩, hga⟩ := hx1
              have hvx := cells_one hc hga
              subst hvx
              obtain ⟨c0, c1, c2, ku, rfl, hl0, hku, hl1, hfa, hra⟩ := getP_rel hT hC [j] v a s ks ds (ks.off j + 0) tj hget hks (by rw [← hC]; exact hf) hr (by simp [poff, hks, hfld])
              refine ⟨_, hrun ad w hsp, ⟨⟨_, c1, rfl, rfl, hF, hlt, by rw [hC]; simpa [sizeT, hku] using hl1, by rw [hC]; exact hfa, hra, ?_⟩, rfl⟩, getP_in (v := v) (a := a) hget hin⟩
              rw [Nat.add_zero] at hl0
              rw [← hl0]
              exact At.sub hat
            · cases h
          · cases h
        · rename_i u i n p
          split at h
          · rename_i hb
            rw [Nat.beq_eq] at hb
            subst hb
            refine ⟨_, h, fun C U vx w hC hx hin => ?_⟩
            have hx1 := v1_of_vrel hx (by simp)
            simp only [V1, CRel] at hx1
            obtain ⟨⟨g, m, c, o, hσ, h0, hj, hp', hc⟩, hga⟩ := hx1
            have hvx := cells_one hc hga
            subst hvx
            rw [hC] at hp'
            refine ⟨_, hrun _ w rfl, ⟨⟨g, m, c, _, hσ, h0, hj, by rw [hC]; exact poff_snoc hks hfld hp', ?_⟩, rfl⟩, hin⟩
            simp [Value.cells, shift, Nat.add_assoc, hC]
          · cases h
        · rename_i u i p
          split at h
          · rename_i hb
            rw [Nat.beq_eq] at hb
            subst hb
            refine ⟨_, h, fun C U vx w hC hx hin => ?_⟩
            have hx1 := v1_of_vrel hx (by simp)
            simp only [V1, CRel] at hx1
            obtain ⟨⟨g, o, hσ, hp', hc⟩, hga⟩ := hx1
            have hvx := cells_one hc hga
            subst hvx
            rw [hC] at hp'
            exact ⟨_, hrun _ w rfl, ⟨⟨g, _, hσ, by rw [hC]; exact poff_snoc hks hfld hp', by simp [Value.cells, shift]⟩, rfl⟩, hin⟩
          · cases h
        · cases h
      · cases h
    · cases h
  · cases h

/-! ### 4. Elements -/
theorem slice_elem {t : TypeId} {e : TypeId} {ke : K} (h : TyOK P T.kd t (.slice e ke)) : P.underlying t = some (.slice e) ∧ T.kd e = some ke := by
  obtain ⟨d, hd, hk⟩ := h.desc
  cases d <;> simp only [DescOK] at hk <;> first | exact hk.elim | (cases hk; done) | (rcases hk with hk | ⟨_, hk, _⟩ <;> cases hk; done) | (simp at hk; done) | skip
  · obtain ⟨ke', h1, h2⟩ := hk
    cases h1
    exact ⟨hd, h2⟩
  · exact absurd hk.2 (by simp [K.agg])
theorem elem_of {t : TypeId} {e : TypeId} (h : P.underlying t = some (.slice e)) : P.elem t = e := by simp [Program.elem, h]
theorem inB_iff {i : Int} {n : Nat} (h : inB i n = true) : 0 ≤ i ∧ i < n := by simpa [inB] using h
theorem run_indexAt {t : TypeId} {e : TypeId} {ke : K} (ht : TyOK P T.kd t (.slice e ke)) (he : TyOK P T.kd e ke) (w : World) (ad : Addr) (n c : Nat) (ik : IntKind) (i : Int) (h : 0 ≤ i ∧ i < n) :
    (Instr.indexAt t (.slice (some ad) n c) (.int ik i)).run P w = .ok (.pointer (some (ad.add (i.toNat * ke.size)))) w := by
  have hu := (slice_elem ht).1
  simp [Instr.indexAt, asIntOf, run_underlying hu, h.1, h.2, he.sizeOf w]
theorem evIndexAddr_sound (hT : TblOK P T) {g : Option Bool} {t : TypeId} {hp : Nat → Option AO} {x ix : AV} {k : OK R} {r : R} (h : evIndexAddr T g t hp x ix k = some r) : ∃ av seen, k av [] seen = some r ∧ ((g = none ∨ g = some true) →
    ∀ (C : Ctx) (U : Nat → Prop) (vx vi : Value), C.kd = T.kd → (∀ i ∈ seen, ∀ o, hp i = some o → ORel C o (C.σ i) ∧ o.In U) → VRel C x vx → VRel C ix vi → x.In U →
      ∃ v, (Instr.indexAt t vx vi).run P C.w = .ok v C.w ∧ VRel C av v ∧ av.In U) := by
  unfold evIndexAddr at h
  split at h
  · rename_i ti fi i
    split at h
    · rename_i ik hti
      have hint : ∀ (C : Ctx) (vi : Value), C.kd = T.kd → VRel C (.d ti fi i) vi → vi = .int ik i.int := fun C vi hC hi => rep_int (by rw [hC]; exact hti) hi
      split at h
      · rename_i u fr a
        split at h
        · rename_i hb
          rw [Nat.beq_eq] at hb
          subst hb
          split at h
          · rename_i e ke hk
            obtain ⟨hk', hg⟩ := chk_some h
            refine ⟨_, _, hk', fun hg' C U vx vi hC _ hx hi _ => ?_⟩
            have hin := inB_iff (hg hg')
            have := hint C vi hC hi
            subst this
            obtain ⟨hr, hga⟩ := v1_of_d (by rw [hC]; exact hk) hx
            simp only [RepC] at hr
            obtain ⟨A, c, hc, hlc, hcm, hel⟩ := hr
            have hvx := cells_one hc hga
            subst hvx
            have hjl : i.int.toNat < a.list.length := by omega
            obtain ⟨ad, ds, rfl, hsp, hF, hlt, hrd, hat⟩ := hel _ _ (get_nth hjl)
            have hes := slice_elem (hT.ty _ _ hk)
            refine ⟨_, run_indexAt (hT.ty _ _ hk) (hT.ty _ _ hes.2) C.w ad _ _ ik i.int hin, ?_, trivial⟩
            rw [add_shift hsp]
            exact ⟨⟨ke, _, ds, by rw [hC]; exact hes.2, rfl, rfl, hF, hlt, hrd, hat⟩, rfl⟩
          · cases h
        · cases h
      · rename_i u n
        split at h
        · rename_i hb
          rw [Nat.beq_eq] at hb
          subst hb
          split at h
          · rename_i e fr xs hhp
            obtain ⟨hk', hg⟩ := chk_some h
            refine ⟨_, _, hk', fun hg' C U vx vi hC hobj hx hi hin' => ?_⟩
            have hin := inB_iff (hg hg')
            have := hint C vi hC hi
            subst this
            have hx1 := v1_of_vrel hx (by simp)
            simp only [V1, CRel] at hx1
            obtain ⟨⟨hc, hag, hor⟩, hga⟩ := hx1
            have hvx := cells_one hc hga
            obtain ⟨ht, k', css, hk, hall, hrow⟩ := row_at (hobj n (by simp) _ hhp).1
            obtain ⟨ke, hke⟩ := hor.resolve_right (by
              rintro ⟨_, _, r, _, _, hv⟩
              rcases hrow with ⟨hv', _⟩ | ⟨g', n', c', hv', _⟩ <;> (rw [hv] at hv'; cases hv'))
            rw [ht, hC] at hke
            have hes := slice_elem (hT.ty _ _ hke)
            rcases hrow with ⟨_, rfl⟩ | ⟨g', n', c', hv, hn, hnc, hcm, hlt, hat⟩
            · exfalso; have := hin.2; simp at this; omega
            · rw [hvx, hv]
              subst hn
              refine ⟨_, run_indexAt (hT.ty _ _ hke) (hT.ty _ _ hes.2) C.w _ _ _ ik i.int hin, ?_, hin'⟩
              rw [add_shift rfl]
              refine ⟨⟨g', _, c', 0, hv, hin.1, by omega, by rw [ht]; rfl, ?_⟩, rfl⟩
              simp [Value.cells, shift, ht, sizeT, hC, hes.2]
          · cases h
        · cases h
      · cases h
    · cases h
  · cases h
end
end Go.Ev
