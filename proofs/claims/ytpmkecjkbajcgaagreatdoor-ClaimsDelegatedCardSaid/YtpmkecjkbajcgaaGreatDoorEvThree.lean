/- The evaluator: slicing, choosing, building. -/
import Derived.Test.YtpmkecjkbajcgaaGreatDoorEvTwo
namespace Go.Ev
open Go
set_option linter.unusedVariables false
set_option linter.unusedSimpArgs false
section
variable {P : Program} {T : Tbl} {C : Ctx} {R : Type} {lks : Nat → Option AV}
/-- A bound that may be left out. -/
def IsB (v : Option Value) (d n : Nat) : Prop := (v = none ∧ n = d) ∨ ∃ k, v = some (.int k (n : Int))
theorem run_sliceD {t e : TypeId} {ke : K} (ht : TyOK P T.kd t (.slice e ke)) (he : TyOK P T.kd e ke) (w : World) (A : Option Addr) (n c : Nat) (lo hi : Option Value) (l h : Nat) (h1 : IsB lo 0 l) (h2 : IsB hi n h) (hlh : l ≤ h) (hhc : h ≤ c) :
    (Instr.sliceAt t (.slice A n c) lo hi none).run P w = .ok (.slice (if c = l then A else A.map (·.add (l * ke.size))) (h - l) (c - l)) w := by
  have hu := slice_ty ht
  have hl : (l : Int) ≤ h := by omega
  have hc : (h : Int) ≤ c := by omega
  have hll : ∀ {a b : Nat}, a ≤ b → ¬ b < a := fun h => by omega
  rcases h1 with ⟨rfl, rfl⟩ | ⟨k1, rfl⟩ <;> rcases h2 with ⟨rfl, rfl⟩ | ⟨k2, rfl⟩ <;>
    simp [Instr.sliceAt, Instr.slice, run_underlying hu, Instr.sliceBounds, Instr.sliceBound, asIntOf, he.sizeOf w, hlh, hhc, hll hlh, hll hhc]
theorem extract_mk (l : List UInt8) (a b : Nat) : (⟨l.toArray⟩ : ByteArray).extract a b = ⟨((l.take b).drop a).toArray⟩ := by
  apply ByteArray.ext
  simp [ByteArray.data_extract, List.drop_take]
theorem run_sliceS {t : TypeId} (ht : TyOK P T.kd t .str) (w : World) (s : List UInt8) (lo hi : Option Value) (l h : Nat) (h1 : IsB lo 0 l) (h2 : IsB hi s.length h) (hlh : l ≤ h) (hhc : h ≤ s.length) :
    (Instr.sliceAt t (.string ⟨s.toArray⟩) lo hi none).run P w = .ok (.string ⟨((s.take h).drop l).toArray⟩) w := by
  have hu := str_ty ht
  have hl : (l : Int) ≤ h := by omega
  have hc : (h : Int) ≤ s.length := by omega
  have hll : ∀ {a b : Nat}, a ≤ b → ¬ b < a := fun h => by omega
  rcases h1 with ⟨rfl, rfl⟩ | ⟨k1, rfl⟩ <;> rcases h2 with ⟨rfl, rfl⟩ | ⟨k2, rfl⟩ <;>
    simp [Instr.sliceAt, Instr.slice, run_underlying hu, Instr.sliceBounds, Instr.sliceBound, asIntOf, hlh, hhc, hll hlh, hll hhc, extract_mk, size_mk]
theorem intAV_rel (hC : C.kd = T.kd) {a : AV} {i : Int} {v : Value} (h : intAV T a = some i) (hv : VRel C a v) : ∃ k, v = .int k i := by
  unfold intAV at h
  split at h
  · split at h
    · rename_i k hk
      cases h
      exact ⟨k, rep_int (by rw [hC]; exact hk) hv⟩
    · cases h
  · cases h
theorem list_n (l : List D) : (D.n l).list = l := rfl
/-- A part of a slice of data. -/
theorem rep_sub {F : Nat → Prop} {w : World} {ke : K} {x : D} {A : Option Addr} {c l h : Nat} (hlh : l ≤ h) (hhn : h ≤ x.list.length) (hnc : x.list.length ≤ c) (hcm : c ≤ maxLen)
    (hel : ∀ (j : Nat) y, x.list[j]? = some y → ∃ ad ds, A = some ad ∧ ad.spot = none ∧ F ad.block ∧ ad.block < w.heap.size ∧ RepC F w ke y ds ∧ At w (shift ad (j * ke.size)) ds) (e : TypeId) :
    RepC F w (.slice e ke) (.n ((x.list.take h).drop l)) [.slice (if c = l then A else A.map (·.add (l * ke.size))) (h - l) (c - l)] := by
  refine ⟨_, c - l, by simp only [list_n, List.length_drop, List.length_take]; rw [Nat.min_eq_left hhn], by simp only [list_n, List.length_drop, List.length_take]; omega, by omega, fun j y hy => ?_⟩
  simp only [list_n, List.getElem?_drop, List.getElem?_take] at hy
  split at hy
  · rename_i hj
    obtain ⟨ad, ds, rfl, hsp, hF, hlt, hr, hat⟩ := hel _ _ hy
    have hcl : ¬ c = l := by omega
    refine ⟨ad.add (l * ke.size), ds, by simp [hcl], ?_, ?_, ?_, hr, ?_⟩
    · rw [add_shift hsp]; rfl
    · rw [add_shift hsp]; exact hF
    · rw [add_shift hsp]; exact hlt
    · rw [add_shift hsp]
      intro t v ht
      have := hat t v ht
      simpa [shift, Nat.add_mul, Nat.add_assoc] using this
  · cases hy
theorem inS_iff {lo hi : Int} {n : Nat} (h : inS lo hi n = true) : 0 ≤ lo ∧ lo ≤ hi ∧ hi ≤ n := by simpa [inS, and_assoc] using h
inductive OptRel (C : Ctx) : Option AV → Option Value → Prop where
  | none : OptRel C none none
  | some {a v} : VRel C a v → OptRel C (some a) (some v)
theorem sliceS_go (hT : TblOK P T) {t : TypeId} {fr : Bool} {a : D} (hk : T.kd t = some .str) {C : Ctx} (hC : C.kd = T.kd) {vx : Value} (hx : VRel C (.d t fr a) vx) {vlo vhi : Option Value} {l h : Nat} (h1 : IsB vlo 0 l) (h2 : IsB vhi a.str.length h) (hlh : l ≤ h) (hhc : h ≤ a.str.length) (w : World) :
    ∃ v, (Instr.sliceAt t vx vlo vhi none).run P w = .ok v w ∧ VRel C (.d t true (.s ((a.str.take h).drop l))) v := by
  have hv := rep_str (by rw [hC]; exact hk) hx
  subst hv
  exact ⟨_, run_sliceS (hT.ty _ _ hk) w a.str vlo vhi l h h1 h2 hlh hhc, mk_str (x := .s _) (by rw [hC]; exact hk)⟩
theorem sliceD_go (hT : TblOK P T) {t : TypeId} {fr : Bool} {a : D} {e : TypeId} {ke : K} (hk : T.kd t = some (.slice e ke)) {C : Ctx} (hC : C.kd = T.kd) {vx : Value} (hx : VRel C (.d t fr a) vx) {vlo vhi : Option Value} {l h : Nat} (h1 : IsB vlo 0 l) (h2 : IsB vhi a.list.length h) (hlh : l ≤ h) (hhc : h ≤ a.list.length) (w : World) :
    ∃ v, (Instr.sliceAt t vx vlo vhi none).run P w = .ok v w ∧ VRel C (.d t fr (.n ((a.list.take h).drop l))) v := by
  obtain ⟨hr, hga⟩ := v1_of_d (by rw [hC]; exact hk) hx
  simp only [RepC] at hr
  obtain ⟨A, c, hc, hlc, hcm, hel⟩ := hr
  have hvx := cells_one hc hga
  subst hvx
  have hes := slice_elem (hT.ty _ _ hk)
  exact ⟨_, run_sliceD (hT.ty _ _ hk) (hT.ty _ _ hes.2) w A _ c vlo vhi l h h1 h2 hlh (by omega), d_of_rep (by rw [hC]; exact hk) (rep_sub hlh hhc hlc hcm hel e) rfl⟩
theorem isB_some {k : IntKind} {i : Int} {d : Nat} (h : 0 ≤ i) : IsB (some (.int k i)) d i.toNat := .inr ⟨k, by rw [Int.toNat_of_nonneg h]⟩
theorem isB_none {d : Nat} : IsB none d d := .inl ⟨rfl, rfl⟩
theorem evSliceD_sound (hT : TblOK P T) {g : Option Bool} {t u : TypeId} {fr : Bool} {a : D} {hp : HpF} {nid : Nat} {lo hi : Option AV} {k : OK R} {r : R} (h : evSlice T g t hp nid (.d u fr a) lo hi k = some r) : ∃ av, k av [] [] = some r ∧ ((g = none ∨ g = some true) →
    ∀ (C : Ctx) (U : Nat → Prop) (vx : Value) (vlo vhi : Option Value) (w : World), C.kd = T.kd → VRel C (.d u fr a) vx → OptRel C lo vlo → OptRel C hi vhi →
      ∃ v, (Instr.sliceAt t vx vlo vhi none).run P w = .ok v w ∧ VRel C av v ∧ av.In U) := by
  simp only [evSlice] at h
  split at h
  · rename_i hb
    rw [Nat.beq_eq] at hb
    subst hb
    split at h
    · rename_i hk
      split at h
      · rename_i l hh
        split at h
        · rename_i i j hi hj
          obtain ⟨hk', hg⟩ := chk_some h
          refine ⟨_, hk', fun hg' C U vx vlo vhi w hC hx hlo hhi => ?_⟩
          obtain ⟨h0, h1, h2⟩ := inS_iff (hg hg')
          cases hlo with | some hlo =>
          cases hhi with | some hhi =>
          obtain ⟨k1, rfl⟩ := intAV_rel hC hi hlo
          obtain ⟨k2, rfl⟩ := intAV_rel hC hj hhi
          obtain ⟨v, hv, hr⟩ := sliceS_go hT hk hC hx (isB_some (k := k1) h0) (isB_some (k := k2) (i := j) (by omega)) (by omega) (by omega) w
          exact ⟨v, hv, hr, trivial⟩
        · cases h
      · rename_i l
        split at h
        · rename_i i hi
          obtain ⟨hk', hg⟩ := chk_some h
          refine ⟨_, hk', fun hg' C U vx vlo vhi w hC hx hlo hhi => ?_⟩
          obtain ⟨h0, h1⟩ := inB_iff (hg hg')
          cases hlo with | some hlo =>
          cases hhi
          obtain ⟨k1, rfl⟩ := intAV_rel hC hi hlo
          obtain ⟨v, hv, hr⟩ := sliceS_go hT hk hC hx (isB_some (k := k1) h0) isB_none (by omega) (Nat.le_refl _) w
          exact ⟨v, hv, by simpa using hr, trivial⟩
        · cases h
      · rename_i hh
        split at h
        · rename_i j hj
          obtain ⟨hk', hg⟩ := chk_some h
          refine ⟨_, hk', fun hg' C U vx vlo vhi w hC hx hlo hhi => ?_⟩
          obtain ⟨h0, h1⟩ := inB_iff (hg hg')
          cases hlo
          cases hhi with | some hhi =>
          obtain ⟨k2, rfl⟩ := intAV_rel hC hj hhi
          obtain ⟨v, hv, hr⟩ := sliceS_go hT hk hC hx isB_none (isB_some (k := k2) h0) (by omega) (by omega) w
          exact ⟨v, hv, by simpa using hr, trivial⟩
        · cases h
      · refine ⟨_, h, fun hg' C U vx vlo vhi w hC hx hlo hhi => ?_⟩
        cases hlo
        cases hhi
        obtain ⟨v, hv, hr⟩ := sliceS_go hT hk hC hx isB_none isB_none (by omega) (Nat.le_refl _) w
        refine ⟨v, hv, ?_, trivial⟩
        have h1 := rep_str (by rw [hC]; exact hk) hr
        subst h1
        have := mk_str (C := C) (fr := fr) (x := a) (by rw [hC]; exact hk)
        simpa [D.str] using this
    · rename_i e ke hk
      split at h
      · rename_i l hh
        split at h
        · rename_i i j hi hj
          obtain ⟨hk', hg⟩ := chk_some h
          refine ⟨_, hk', fun hg' C U vx vlo vhi w hC hx hlo hhi => ?_⟩
          obtain ⟨h0, h1, h2⟩ := inS_iff (hg hg')
          cases hlo with | some hlo =>
          cases hhi with | some hhi =>
          obtain ⟨k1, rfl⟩ := intAV_rel hC hi hlo
          obtain ⟨k2, rfl⟩ := intAV_rel hC hj hhi
          obtain ⟨v, hv, hr⟩ := sliceD_go hT hk hC hx (isB_some (k := k1) h0) (isB_some (k := k2) (i := j) (by omega)) (by omega) (by omega) w
          exact ⟨v, hv, hr, trivial⟩
        · cases h
      · rename_i l
        split at h
        · rename_i i hi
          obtain ⟨hk', hg⟩ := chk_some h
          refine ⟨_, hk', fun hg' C U vx vlo vhi w hC hx hlo hhi => ?_⟩
          obtain ⟨h0, h1⟩ := inB_iff (hg hg')
          cases hlo with | some hlo =>
          cases hhi
          obtain ⟨k1, rfl⟩ := intAV_rel hC hi hlo
          obtain ⟨v, hv, hr⟩ := sliceD_go hT hk hC hx (isB_some (k := k1) h0) isB_none (by omega) (Nat.le_refl _) w
          exact ⟨v, hv, by simpa using hr, trivial⟩
        · cases h
      · rename_i hh
        split at h
        · rename_i j hj
          obtain ⟨hk', hg⟩ := chk_some h
          refine ⟨_, hk', fun hg' C U vx vlo vhi w hC hx hlo hhi => ?_⟩
          obtain ⟨h0, h1⟩ := inB_iff (hg hg')
          cases hlo
          cases hhi with | some hhi =>
          obtain ⟨k2, rfl⟩ := intAV_rel hC hj hhi
          obtain ⟨v, hv, hr⟩ := sliceD_go hT hk hC hx isB_none (isB_some (k := k2) h0) (by omega) (by omega) w
          exact ⟨v, hv, by simpa using hr, trivial⟩
        · cases h
      · refine ⟨_, h, fun hg' C U vx vlo vhi w hC hx hlo hhi => ?_⟩
        cases hlo
        cases hhi
        obtain ⟨hr, hga⟩ := v1_of_d (by rw [hC]; exact hk) hx
        simp only [RepC] at hr
        obtain ⟨A, c, hc, hlc, hcm, hel⟩ := hr
        have hvx := cells_one hc hga
        subst hvx
        have hes := slice_elem (hT.ty _ _ hk)
        refine ⟨_, run_sliceD (hT.ty _ _ hk) (hT.ty _ _ hes.2) w A _ c none none 0 _ isB_none isB_none (by omega) hlc, ?_, trivial⟩
        have : (if c = 0 then A else A.map (·.add (0 * ke.size))) = A := by
          split
          · rfl
          · cases A <;> simp [Addr.add]
        simp only [this, Nat.sub_zero]
        exact hx
    · cases h
  · cases h
end
end Go.Ev
