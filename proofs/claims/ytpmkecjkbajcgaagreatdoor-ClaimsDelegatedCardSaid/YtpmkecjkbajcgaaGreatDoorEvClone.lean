/- The evaluator: slices.Clone, whose answer to nil is nil. -/
import Derived.Test.YtpmkecjkbajcgaaGreatDoorEvFlat
import Derived.Lib.SliceRun
namespace Go.Ev
open Go
set_option linter.unusedVariables false
set_option linter.unusedSimpArgs false
theorem clone_thm {P : Program} {T : Tbl} (hT : TblOK P T) {nt : Nat} {c rest : Code} {u : Cut} {i1 i2 s a b r t e : Nat} {ke : K} {fr0 fr : Bool} {ty1 ty2 ty3 : TypeId} {p1 p2 p3 : String} {a1 a2 a3 : Array Edge}
    (hc : c = .seq (.seq (.region i1 #[⟨some a, .move (.tmp s), ty1, p1, a1, none⟩, ⟨some b, .binOp .eql t (.tmp a) (.const (.slice none 0 0)) t, ty2, p2, a2, none⟩] false) (.cond (.tmp b) (.seq (.region i2 #[⟨some r, .assign (.const (.slice none 0 0)), ty3, p3, a3, none⟩] false) .ret) .skip)) rest)
    (hr : CutOK P T nt rest u) (hsh : u.sh = { sl := [(s, .d t fr0)], ob := [] }) (hk : u.kept = []) (ho : u.outs = [(.ret, { sl := [(r, .own t 0)], ob := [(0, .row e fr)] })]) (hf0 : ∀ ds out, (D.nth ds 0).list = [] → u.f ds = some out → (D.nth out.2 0).list = []) (ht : T.kd t = some (.slice e ke))
    (hd : (Nat.blt a nt && Nat.blt b nt && Nat.blt r nt && !Nat.beq s a && !Nat.beq s b) = true) : CutOK P T nt c u := by
  subst hc
  simp only [Bool.and_eq_true, Bool.not_eq_true', Nat.blt_eq] at hd
  obtain ⟨⟨⟨⟨h1, h2⟩, h3⟩, h4⟩, h5⟩ := hd
  have h4 : s ≠ a := by rintro rfl; simp at h4
  have h5 : s ≠ b := by rintro rfl; simp at h5
  refine ⟨hr.sh, hr.outs, fun ds out hout ro E σ ac w hro hs hnt Q hQ => ?_⟩
  have hfill : fill u.sh ds = ([(s, .d t fr0 (D.nth ds 0))], []) := by rw [hsh]; rfl
  have hs' := hs
  rw [hfill] at hs'
  obtain ⟨v, hv, hvr⟩ : ∃ v, ac.tmps[s]? = some v ∧ VRel (ctx T.kd E (lk []) σ w) (.d t fr0 (D.nth ds 0)) v := (hs'.slot s (.d t fr0 (D.nth ds 0)) (by simp [lk_cons])).1
  obtain ⟨⟨k', hk', hrep⟩, hagg⟩ := hvr
  have : k' = .slice e ke := by
    have h : T.kd t = some k' := hk'
    rw [ht] at h
    cases h
    rfl
  subst this
  obtain ⟨A, cap, hcs, hlc, hcm, hel⟩ := hrep
  have hvv := cells_one hcs (hagg.trans (by have h : (ctx T.kd E (lk []) σ w).kd t = some (.slice e ke) := ht; simp only [AV.aggB, h]; rfl))
  subst hvv
  have hu := (slice_elem (hT.ty _ _ ht)).1
  have hgets : ∀ (a' : Act) s v, a'.tmps[s]? = some v → a'.tmps.getD s undef = v := fun a' s v h => by simp [Array.getD_eq_getD_getElem?, h]
  let va : Value := .slice A (D.nth ds 0).list.length cap
  let ac2 : Act := (ac.put (some a) va).put (some b) (.bool A.isNone)
  have hsz2 : ac2.tmps.size = ac.tmps.size := by simp [ac2, put_size]
  refine wpIn_seq (wpIn_seq (wpIn_region_list ?_))
  refine wpListIn_plain rfl fun K1 hK1 => ?_
  refine opIn ro (fun _ h => by cases h) ?_
  show K1 (ac.put (some a) (ac.tmps.getD s undef)) w
  rw [hgets _ _ _ hv]
  refine hK1 _ _ (wpListIn_plain rfl fun K2 hK2 => ?_)
  refine opIn ro (fun _ h => by cases h) ?_
  have e1 : (ac.put (some a) va).tmps.getD a undef = va := put_get (by omega)
  have hrun := Lib.run_eql_slice_nil (P := P) w t e A (D.nth ds 0).list.length cap 0 0 hu
  have hop : Oper.wp P ⟨some b, .binOp .eql t (.tmp a) (.const (.slice none 0 0)) t, ty2, p2, a2, none⟩ (ac.put (some a) va) w K2 (Exit.then ((Code.cond (.tmp b) (.seq (.region i2 #[⟨some r, .assign (.const (.slice none 0 0)), ty3, p3, a3, none⟩] false) .ret) .skip).wpIn (FW ro) 0 P (Exit.then (rest.wpIn (FW ro) 0 P Q) Q)) (Exit.then (rest.wpIn (FW ro) 0 P Q) Q)) = K2 ac2 w := by
    unfold Oper.wp
    simp only [execOp, Act.eval, e1, va, Sem.run_bind, eqGuard, hrun, Result.andThen_ok, Sem.run_pure, Oper.upon_value]
    simp only [Bool.not_true, Bool.false_eq_true, if_false, Sem.run_pure, Result.andThen_ok, hrun, Oper.upon_value]
    rfl
  rw [hop]
  refine hK2 _ _ (wpListIn_nil ?_)
  show (Code.cond (.tmp b) (.seq (.region i2 #[⟨some r, .assign (.const (.slice none 0 0)), ty3, p3, a3, none⟩] false) .ret) .skip).wpIn (FW ro) 0 P (Exit.then (rest.wpIn (FW ro) 0 P Q) Q) ac2 w
  have e2 : ac2.eval (.tmp b) = .bool A.isNone := by
    show ac2.tmps.getD b undef = _
    exact put_get (by rw [put_size]; omega)
  have hother : ∀ q, q ≠ a → q ≠ b → ac2.tmps[q]? = ac.tmps[q]? := fun q hqa hqb => by
    rw [put_other (by simp [Ne.symm hqb]), put_other (by simp [Ne.symm hqa])]
  cases A with
  | none =>
    refine wpIn_cond_true e2 (wpIn_seq (wpIn_region_list (wpListIn_plain rfl fun K3 hK3 => ?_)))
    refine opIn ro (fun _ h => by cases h) ?_
    show K3 (ac2.put (some r) (.slice none 0 0)) w
    refine hK3 _ _ (wpListIn_nil (wpIn_ret ?_))
    have hnil : (D.nth ds 0).list = [] := by
      cases hl : (D.nth ds 0).list with
      | nil => rfl
      | cons y ys =>
        obtain ⟨ad, _, h, _⟩ := hel 0 y (by rw [hl]; rfl)
        cases h
    have hxs := hf0 ds out hnil hout
    let σ' : Nat → Hd := fun i => if i = 0 then ⟨.slice none 0 0, e⟩ else σ i
    have hrs : fill { sl := [(r, .own t 0)], ob := [(0, .row e fr)] } out.2 = ([(r, .own t 0)], [(0, .row e fr [])]) := by
      simp [fill, fillSl, fillV, fillOb, fillO, hxs]
    refine hQ .ret { sl := [(r, .own t 0)], ob := [(0, .row e fr)] } σ' (ac2.put (some r) (.slice none 0 0)) w (by rw [ho]; rfl) ?_ ?_ ?_ (fun i hi => by rw [hk] at hi; simp at hi)
    · rw [hrs]
      refine ⟨fun q av hq => ?_, fun i o hi => ?_, fun i j oi oj bb hi hj hne => ?_, fun i o bb hi hb => ?_, hs.grew, ?_⟩
      · rw [lk_cons] at hq
        split at hq
        · rename_i hrq
          cases hq
          subst hrq
          refine ⟨⟨.slice none 0 0, ?_, ⟨⟨rfl, rfl, .inl ⟨ke, ht⟩⟩, rfl⟩⟩, by show (0 : Nat) < 16; omega⟩
          simp [Act.put, show r < ac2.tmps.size by omega]
        · simp [lk] at hq
      · rw [lk_cons] at hi
        split at hi
        · rename_i h0
          cases hi
          subst h0
          exact ⟨⟨rfl, ke, [], (slice_elem (hT.ty _ _ ht)).2, .nil, by simp, .inl ⟨rfl, rfl⟩⟩, by show (0 : Nat) < 16; omega, trivial⟩
        · simp [lk] at hi
      · rw [lk_cons] at hi hj
        split at hi
        · split at hj
          · omega
          · simp [lk] at hj
        · simp [lk] at hi
      · rw [lk_cons] at hi
        split at hi
        · rename_i h0
          subst h0
          simp [σ', blk] at hb
        · simp [lk] at hi
      · obtain ⟨ds1, hd1, hd2⟩ := hs.defers
        refine ⟨ds1, hd1, hd2.mono (Nat.le_refl _) (Nat.le_refl _) fun q _ _ _ _ => ⟨fun i o hi hb => ?_, rfl⟩⟩
        rw [lk_cons] at hi
        split at hi
        · rename_i h0
          subst h0
          simp [σ', blk] at hb
        · simp [lk] at hi
    · rw [put_size, hsz2]
    · intro q hq
      have hq' : q ≠ a ∧ q ≠ b ∧ q ≠ r := by
        simp [wr] at hq
        exact ⟨hq.1, hq.2.1, hq.2.2.1⟩
      rw [put_other (by simp [Ne.symm hq'.2.2])]
      exact hother q hq'.1 hq'.2.1
  | some A =>
    refine wpIn_cond_false e2 (wpIn_skip ?_)
    show rest.wpIn (FW ro) 0 P Q ac2 w
    have hs2 : SRel T.kd E (· < 16) (lk (fill u.sh ds).1) (lk (fill u.sh ds).2) σ ac2 w := by
      rw [hfill]
      refine ⟨fun q av hq => ?_, hs'.obj, hs'.inj, hs'.trk, hs'.grew, hs'.defers⟩
      have hqs : q = s := by
        rw [lk_cons] at hq
        split at hq
        · rename_i h; exact h.symm
        · simp [lk] at hq
      have h7 := hs'.slot q av hq
      subst hqs
      have hav : av = .d t fr0 (D.nth ds 0) := by simpa [lk_cons] using hq.symm
      subst hav
      obtain ⟨⟨v', h8, h9⟩, h10⟩ := h7
      exact ⟨⟨v', by rw [hother q h4 h5]; exact h8, h9⟩, h10⟩
    refine hr.run ds out hout ro E σ ac2 w hro hs2 (by omega) Q fun ex rs σ' a' w' h6 h7 h8 h9 h10 => hQ ex rs σ' a' w' h6 h7 (h8.trans hsz2) (fun q hq => ?_) h10
    have hq' : q ≠ a ∧ q ≠ b ∧ q ∉ wr rest := by
      simp [wr] at hq
      refine ⟨hq.1, hq.2.1, ?_⟩
      simpa [wr] using hq.2.2.2
    exact (h9 q hq'.2.2).trans (hother q hq'.1 hq'.2.1)
theorem clone_f {ds : List D} {out : Nat × List D} {b : Bool} (h0 : (D.nth ds 0).list = []) (h : cond b (some (0, [D.n (D.nth ds 0).list])) none = some out) : (D.nth out.2 0).list = [] := by
  cases b with
  | false => cases h
  | true =>
    cases h
    exact h0
end Go.Ev
