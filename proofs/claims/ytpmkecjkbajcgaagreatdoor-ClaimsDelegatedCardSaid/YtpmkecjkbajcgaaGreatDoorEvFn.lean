/- The evaluator: loops and functions. -/
import Derived.Test.YtpmkecjkbajcgaaGreatDoorEvCode
namespace Go.Ev
open Go
set_option linter.unusedVariables false
set_option linter.unusedSimpArgs false
section
variable {P : Program} {T : Tbl}
theorem exists_least {p : Nat → Prop} : ∀ n, p n → ∃ m, p m ∧ ∀ k, p k → m ≤ k := by
  intro n
  induction n using Nat.strongRecOn with
  | _ n ih =>
    intro hn
    by_cases h : ∃ k, k < n ∧ p k
    · obtain ⟨k, h1, h2⟩ := h
      exact ih k h1 h2
    · exact ⟨n, hn, fun k hk => Nat.le_of_not_lt fun hlt => h ⟨k, hlt, hk⟩⟩
open Classical in
noncomputable def least (p : Nat → Prop) : Nat := if h : ∃ n, p n then (exists_least h.choose h.choose_spec).choose else 0
theorem least_spec {p : Nat → Prop} {n : Nat} (h : p n) : p (least p) ∧ least p ≤ n := by
  have hex : ∃ n, p n := ⟨n, h⟩
  unfold least
  rw [dif_pos hex]
  have := (exists_least hex.choose hex.choose_spec).choose_spec
  exact ⟨this.1, this.2 n h⟩
theorem idMap_mem : ∀ {l : List Nat} {i : Nat} {x : Option Nat}, (i, x) ∈ idMap l → x = some i ∧ i ∈ l
  | [], i, x, h => by simp [idMap] at h
  | a :: l, i, x, h => by
    simp only [idMap] at h
    rcases List.mem_cons.1 h with h | h
    · cases h; exact ⟨rfl, by simp⟩
    · obtain ⟨h1, h2⟩ := idMap_mem h
      exact ⟨h1, by simp [h2]⟩
theorem idMap_lk : ∀ {l : List Nat} {i : Nat}, i ∈ l → lk (idMap l) i = some (some i)
  | a :: l, i, h => by
    simp only [idMap]
    rw [lk_cons]
    split
    · rename_i e; rw [e]
    · rename_i e
      rcases List.mem_cons.1 h with rfl | h
      · exact absurd rfl e
      · exact idMap_lk h
  | [], i, h => by simp at h
theorem idMap_inj (l : List Nat) : MapInj (idMap l) := fun i i' j h1 h2 => by
  have e1 := (idMap_mem h1).1
  have e2 := (idMap_mem h2).1
  cases e1
  cases e2
  rfl
/-- A state, fitted into a shape by the same activation. -/
theorem fit_same (hT : TblOK P T) {E : Ent} {U : Nat → Prop} {lkf : Nat → Option AV} {hp : HpF} {σ : Nat → Hd} {a a' : Act} {w : World} (hs : SRel T.kd E U lkf hp σ a w) {lks : Nat → Option AV} (hlks : ∀ s av, lks s = some av → SlotRel (ctx T.kd E hp σ w) a'.tmps s av) {kept : List Nat} {sh : Shape} {f : Fit}
    (hfit : fit T.kd hp lks (idMap kept) sh = some f) (hsm : sh.small = true) (hd : ∃ ds, a'.defers = ds ++ E.d0 ∧ Marks (untr hp σ) E.w0.heap.size w ds) : ∃ σ' : Nat → Hd, (∀ i ∈ kept, σ' i = σ i) ∧ SRel T.kd E (· < 16) (lk (fill sh f.ds).1) (lk (fill sh f.ds).2) σ' a' w := by
  obtain ⟨σ', h1, h2, _, _, h3⟩ := fit_sound hT hs (a' := a') (E' := E) hlks hfit hsm true (.inl rfl) (idMap_inj kept) hd (fun fr b hb _ => hb.2)
    (fun i hi oi hoi b hb => ⟨(hs.trk i oi b hoi hb).2.imp id .inl, fun _ => (hs.trk i oi b hoi hb).2.imp id .inl⟩)
    (fun i j oj b _ hj hb => (hs.trk j oj b hj hb).2) hs.grew
  exact ⟨σ', fun i hi => h1 i i (h2 i _ (idMap_lk hi)), h3⟩
/-- The exit that is found. -/
theorem outOf_spec {kept : List Nat} {ex : Ex} {st : St} {out : Nat × List D} : ∀ (l : List (Ex × Shape)) (j : Nat), outOf T kept l j ex st = some out → ∃ i rs f, l[i]? = some (ex, rs) ∧ out.1 = j + i ∧ fit T.kd (lk st.hp) (lk st.sl) (idMap kept) rs = some f ∧ out.2 = f.ds
  | [], j, h => by simp [outOf] at h
  | (e, rs) :: r, j, h => by
    simp only [outOf] at h
    split at h
    · rename_i hm
      have he : e = ex := by
        split at hm <;> first | rfl | (rename_i a b; have := beq_to hm; subst this; rfl) | cases hm
      subst he
      split at h
      · rename_i f hf
        cases h
        exact ⟨0, rs, f, rfl, rfl, hf, rfl⟩
      · obtain ⟨i, rs', f, h1, h2, h3, h4⟩ := outOf_spec r (j + 1) h
        exact ⟨i + 1, rs', f, by simpa using h1, by omega, h3, h4⟩
    · obtain ⟨i, rs', f, h1, h2, h3, h4⟩ := outOf_spec r (j + 1) h
      exact ⟨i + 1, rs', f, by simpa using h1, by omega, h3, h4⟩
theorem outSel_at {o : Nat} {p : Ex × Shape} : ∀ {l : List (Ex × Shape)} {j i : Nat}, l[i]? = some p → o = j + i → outSel o l j = some p
  | [q], j, 0, h, ho => by simpa [outSel] using h
  | [q], j, i + 1, h, ho => by simp at h
  | q :: q' :: r, j, 0, h, ho => by
    have hb : Nat.beq o j = true := by rw [Nat.beq_eq]; omega
    simp only [outSel, hb, cond_true]
    simpa using h
  | q :: q' :: r, j, i + 1, h, ho => by
    have hb : Nat.beq o j = false := by
      cases hb : Nat.beq o j with
      | false => rfl
      | true => have := beq_to hb; omega
    simp only [outSel, hb, cond_false]
    exact outSel_at (l := q' :: r) (j := j + 1) (i := i) (by simpa using h) (by omega)
  | [], j, i, h, ho => by simp at h
/-- A loop. -/
theorem loop_ok (hT : TblOK P T) (hE : ∀ g, ∀ e ∈ T.ents g, FnOK P T g e) {nt : Nat} {body : Code} {h : H} {u : Cut} (hsh : u.sh.small = true) (houts : ∀ p ∈ u.outs, p.2.small = true) (hk16 : ∀ i ∈ u.kept, i < 16) (hc : CutsOK P T nt body h) (hso : u.solo = true ∨ noSolo T.cuts h = true)
    (l : Nat → List D → Option (Nat × List D)) (h0 : ∀ ds, l 0 ds = none) (hl : ∀ k ds out, l (k + 1) ds = some out → evLoop T nt body h u (l k) ds = some out) (K : Nat) (hf : u.f = l K) : CutOK P T nt (.loop body) u := by
  refine ⟨hsh, houts, fun ds out hout ro E σ a w hro hs hnt Q hQ => ?_⟩
  rw [hf] at hout
  let I : Nat → Act → World → Prop := fun k a' w' => ∃ ds σ', l k ds = some out ∧ SRel T.kd E (· < 16) (lk (fill u.sh ds).1) (lk (fill u.sh ds).2) σ' a' w' ∧ a'.tmps.size = a.tmps.size ∧ (∀ t, t ∉ wr body → a'.tmps[t]? = a.tmps[t]?) ∧ ∀ i ∈ u.kept, σ' i = σ i
  refine wpIn_loop (fun a' w' => ∃ k, I k a' w') (fun a' w' => least fun k => I k a' w') ⟨K, ds, σ, hout, hs, rfl, fun _ _ => rfl, fun _ _ => rfl⟩ fun a1 w1 hI => ?_
  obtain ⟨k0, hk0⟩ := hI
  obtain ⟨hk, _⟩ := least_spec (p := fun k => I k a1 w1) hk0
  generalize hm : (least fun k => I k a1 w1) = m at hk
  obtain ⟨ds1, σ1, hl1, hs1, hsz1, hsame1, hkept1⟩ := hk
  cases m with
  | zero => rw [h0] at hl1; cases hl1
  | succ k =>
    have hev := hl k ds1 out hl1
    unfold evLoop at hev
    obtain ⟨ex, st', hok', hk', hnx, hrun⟩ := ev_sound hT hE body h { sl := (fill u.sh ds1).1, hp := (fill u.sh ds1).2, nx := 16 } _ out (fill_ok hsh ds1 _ _) hc hev
    refine hrun ro E σ1 a1 w1 _ (hso.imp hro id) hs1 (by rw [hsz1]; exact hnt) fun σ2 a2 w2 hs2 hsz2 hsame2 hσ2 => ?_
    have hkeptl : ∀ i ∈ u.kept, i < 16 → σ2 i = σ i := fun i hi h16 => (hσ2 i h16).trans (hkept1 i hi)
    have hother : ∀ e : Ex, (∀ a w, (Exit.then (fun a' w' => (∃ k, I k a' w') ∧ (least fun k => I k a' w') < least fun k => I k a1 w1) Q) (exitOf e) a w = Q (exitOf e) a w) → outOf T u.kept u.outs 0 e st' = some out → Q (exitOf e) a2 w2 := fun e _ ho => by
      obtain ⟨i, rs, f, h1, h2, h3, h4⟩ := outOf_spec u.outs 0 ho
      obtain ⟨σ3, h5, h6⟩ := fit_same hT hs2 (a' := a2) (fun s av hs' => (hs2.slot s av hs').1) h3 (houts _ (List.mem_of_getElem? h1)) hs2.defers
      have h7 := hQ e rs σ3 a2 w2 (outSel_at h1 (by omega)) (by rw [h4]; exact h6) (hsz2.trans hsz1) (fun t ht => (hsame2 t ht).trans (hsame1 t ht)) (fun i hi => (h5 i hi).trans (hkeptl i hi (hk16 i hi)))
      exact h7
    cases ex with
    | normal =>
      simp only at hk'
      split at hk'
      · rename_i f hfit
        obtain ⟨σ3, h5, h6⟩ := fit_same hT hs2 (a' := a2) (fun s av hs' => (hs2.slot s av hs').1) hfit hsh hs2.defers
        have hI2 : I k a2 w2 := ⟨f.ds, σ3, hk', h6, hsz2.trans hsz1, fun t ht => (hsame2 t ht).trans (hsame1 t ht), fun i hi => (h5 i hi).trans (hkeptl i hi (hk16 i hi))⟩
        exact ⟨⟨k, hI2⟩, Nat.lt_of_le_of_lt (least_spec (p := fun k => I k a2 w2) hI2).2 (Nat.lt_succ_self k)⟩
      · cases hk'
    | exit id => exact hother (.exit id) (fun _ _ => rfl) hk'
    | ret => exact hother .ret (fun _ _ => rfl) hk'
/-- A piece that is no loop. -/
theorem piece_ok (hT : TblOK P T) (hE : ∀ g, ∀ e ∈ T.ents g, FnOK P T g e) {nt : Nat} {c : Code} {h : H} {u : Cut} (hsh : u.sh.small = true) (houts : ∀ p ∈ u.outs, p.2.small = true) (hk16 : ∀ i ∈ u.kept, i < 16) (hc : CutsOK P T nt c h) (hso : u.solo = true ∨ noSolo T.cuts h = true)
    (hf : ∀ ds out, u.f ds = some out → evPiece T nt c h u ds = some out) : CutOK P T nt c u := by
  refine ⟨hsh, houts, fun ds out hout ro E σ a w hro hs hnt Q hQ => ?_⟩
  have hev := hf ds out hout
  unfold evPiece at hev
  obtain ⟨ex, st', hok', hk', hnx, hrun⟩ := ev_sound hT hE c h { sl := (fill u.sh ds).1, hp := (fill u.sh ds).2, nx := 16 } _ out (fill_ok hsh ds _ _) hc hev
  refine hrun ro E σ a w _ (hso.imp hro id) hs hnt fun σ2 a2 w2 hs2 hsz2 hsame2 hσ2 => ?_
  obtain ⟨i, rs, f, h1, h2, h3, h4⟩ := outOf_spec u.outs 0 hk'
  obtain ⟨σ3, h5, h6⟩ := fit_same hT hs2 (a' := a2) (fun s av hs' => (hs2.slot s av hs').1) h3 (houts _ (List.mem_of_getElem? h1)) hs2.defers
  exact hQ ex rs σ3 a2 w2 (outSel_at h1 (by omega)) (by rw [h4]; exact h6) hsz2 hsame2 (fun i hi => (h5 i hi).trans (hσ2 i (hk16 i hi)))
/-! ### Functions -/
def resRun (tmps : Array Value) : ResultVar → Sem Value
  | .tmp t => pure (tmps.getD t undef)
  | .cell s t => do loadVar t (← asAddr (tmps.getD s undef))
theorem resAV_rel (hT : TblOK P T) {E : Ent} {U : Nat → Prop} {st : St} {σ : Nat → Hd} {a : Act} {w : World} (hs : SRel T.kd E U (lk st.sl) (lk st.hp) σ a w) : ∀ {res : List ResultVar} {l : List AV}, resAV T st res = some l →
    ∃ vs : List Value, (res.mapM (resRun a.tmps)).run P w = .ok vs w ∧ All2 (VRel (ctx T.kd E (lk st.hp) σ w)) l vs ∧ AV.Ins U l ∧ ∀ a ∈ l, ∀ xs, a ≠ .tup xs
  | [], l, h => by
    simp only [resAV, Option.some.injEq] at h
    subst h
    exact ⟨[], rfl, .nil, trivial, fun a ha => by simp at ha⟩
  | .tmp t :: res, l, h => by
    simp only [resAV] at h
    split at h
    · rename_i b hb
      split at h
      · rename_i hwt
        simp only [Bool.or_eq_false_iff] at hwt
        split at h
        · rename_i l' hl
          cases h
          obtain ⟨vs, h1, h2, h3, hnt⟩ := resAV_rel hT hs hl
          obtain ⟨h4, h5⟩ := hs.slot t b hb
          have hw : ∀ s' b' c v, b ≠ .w s' b' c v := by rintro _ _ _ _ rfl; simp [isW] at hwt
          obtain ⟨v, hv, hvr⟩ := slot_val hw h4
          refine ⟨v :: vs, ?_, .cons hvr h2, ⟨h5, h3⟩, fun x hx xs => ?_⟩
          · have : a.tmps.getD t undef = v := by simp [Array.getD_eq_getD_getElem?, hv]
            simp only [List.mapM_cons, resRun, this, pure_bind, Sem.run_bind, h1, Result.andThen_ok, Sem.run_pure]
          · rcases List.mem_cons.1 hx with rfl | hx
            · rintro rfl; simp [isTup] at hwt
            · exact hnt x hx xs
        · cases h
      · cases h
    · cases h
  | .cell s t :: res, l, h => by
    simp only [resAV] at h
    split at h
    · rename_i u i p hb
      split at h
      · rename_i htu
        have := beq_to htu
        subst this
        split at h
        · rename_i bt v hbox
          split at h
          · rename_i av hget
            split at h
            · rename_i hwt
              simp only [Bool.or_eq_false_iff] at hwt
              split at h
              rotate_left
              · cases h
              rename_i l' hl
              cases h
              obtain ⟨vs, h1, h2, h3, hnt⟩ := resAV_rel hT hs hl
              obtain ⟨h4, h5⟩ := hs.slot s _ hb
              obtain ⟨val, hval, hvr⟩ := slot_val (by simp) h4
              have hld : evLoad (R := AV) T t (lk st.hp) (.ptr t i p) (fun a _ _ => some a) = some av := by simp [evLoad, hbox, hget, show Nat.beq t t = true by rw [Nat.beq_eq]]
              obtain ⟨av', seen, hk, hrun⟩ := evLoad_sound (P := P) hT hld
              cases hk
              obtain ⟨v', h6, h7, h8⟩ := hrun (ctx T.kd E (lk st.hp) σ w) U val rfl (fun j hj o ho => by
                obtain ⟨h9, _, h10⟩ := hs.obj j o ho
                exact ⟨h9, h10⟩) hvr h5
              refine ⟨v' :: vs, ?_, .cons h7 h2, ⟨h8, h3⟩, fun x hx xs => by
                rcases List.mem_cons.1 hx with rfl | hx
                · rintro rfl; simp [isTup] at hwt
                · exact hnt x hx xs⟩
              have hv1 := v1_of_vrel hvr (by simp)
              simp only [V1, CRel] at hv1
              obtain ⟨⟨g, o, hσ, hp', hc⟩, hg⟩ := hv1
              have hvx := cells_one hc hg
              subst hvx
              have h6 : (Instr.loadAt t (.pointer (some ⟨g, o, none⟩))).run P w = .ok v' w := h6
              have hgd : a.tmps.getD s undef = .pointer (some ⟨g, o, none⟩) := by simp [Array.getD_eq_getD_getElem?, hval]
              simp only [Instr.loadAt, Instr.sureAddr, pure_bind] at h6
              simp only [List.mapM_cons, resRun, hgd, asAddr, pure_bind, Sem.run_bind, h6, Result.andThen_ok, h1, Sem.run_pure]
            · cases h
          · cases h
        · cases h
      · cases h
    · cases h
def retV : List Value → Value
  | [v] => v
  | vs => .tuple vs.toArray
theorem run_results {fn : Func} {tmps : Array Value} {w : World} {vs : List Value} (h : (fn.results.toList.mapM (resRun tmps)).run P w = .ok vs w) : (results fn tmps).run P w = .ok (retV vs) w := by
  have h1 : (fn.results.mapM (resRun tmps)).run P w = .ok vs.toArray w := by
    rw [Array.mapM_eq_mapM_toList]
    simp [Sem.run_map, h]
  unfold results
  rw [Sem.run_bind]
  change ((fn.results.mapM (resRun tmps)).run P w).andThen _ = _
  rw [h1]
  simp only [Result.andThen_ok, Sem.run_pure]
  congr 1
  match vs with
  | [] => rfl
  | [v] => rfl
  | a :: b :: l => simp [retV]
theorem ret_rel {C : Ctx} : ∀ {l : List AV} {vs : List Value}, All2 (VRel C) l vs → (∀ a ∈ l, ∀ xs, a ≠ .tup xs) → VRel C (retAV l) (retV vs)
  | _, _, .nil, _ => ⟨[], rfl, .nil⟩
  | _, _, .cons h .nil, _ => h
  | _, _, .cons (a := a) (b := v) h (.cons (a := a2) (b := v2) (l := l) (m := m) h2 t), hn => by
    show VRel C (.tup (a :: a2 :: l)) (.tuple (v :: v2 :: m).toArray)
    refine ⟨v :: v2 :: m, rfl, ?_⟩
    exact (All2.cons h (.cons h2 t)).imp fun x y hx hxy => v1_of_vrel hxy (hn x hx)
theorem slot_ext {C : Ctx} {tmps : Array Value} {t : Nat} {av : AV} (hw : ∀ s b c v, av ≠ .w s b c v) (h : SlotRel C tmps t av) (ext : Array Value) : SlotRel C (tmps ++ ext) t av := by
  obtain ⟨v, h1, h2⟩ := slot_val hw h
  have hlt : t < tmps.size := (Array.getElem?_eq_some_iff.1 h1).1
  exact slot_of_val hw ⟨v, by rw [Array.getElem?_append_left hlt]; exact h1, h2⟩
/-- A function. -/
theorem finR_spec {kept : List Nat} {a : AV} {st : St} {j0 : Nat} {ds0 : List D} : ∀ (l : List Shape) (j : Nat), finR T kept a st l j = some (j0, ds0) → ∃ i rs f, l[i]? = some rs ∧ j0 = j + i ∧ fit T.kd (lk st.hp) (lk [(0, a)]) (idMap kept) rs = some f ∧ ds0 = f.ds
  | [], j, h => by simp [finR] at h
  | rs :: r, j, h => by
    simp only [finR] at h
    split at h
    · rename_i f hf
      cases h
      exact ⟨0, rs, f, rfl, rfl, hf, rfl⟩
    · obtain ⟨i, rs', f, h1, h2, h3, h4⟩ := finR_spec r (j + 1) h
      exact ⟨i + 1, rs', f, by simpa using h1, by omega, h3, h4⟩
theorem selS_at {out : List D} {s : Shape} {n : Nat} (hn : (D.nth out 0).int = (n : Int)) : ∀ {l : List Shape} {j i : Nat}, l[i]? = some s → n = j + i → selS out l j = some s
  | [q], j, 0, h, ho => by simpa [selS] using h
  | [q], j, i + 1, h, ho => by simp at h
  | q :: q' :: r, j, 0, h, ho => by
    have hb : ((D.nth out 0).int == (j : Int)) = true := by rw [hn]; simp; omega
    simp only [selS, hb, cond_true]
    simpa using h
  | q :: q' :: r, j, i + 1, h, ho => by
    have hb : ((D.nth out 0).int == (j : Int)) = false := by rw [hn]; simp; omega
    simp only [selS, hb, cond_false]
    exact selS_at hn (l := q' :: r) (j := j + 1) (i := i) (by simpa using h) (by omega)
  | [], j, i, h, ho => by simp at h
theorem tag_sel {l : List Shape} {i : Nat} {s : Shape} {ds : List D} (h : l[i]? = some s) : selS (tagS l i ds) l 0 = some s ∧ datS l (tagS l i ds) = ds := by
  match l, h with
  | [], h => simp at h
  | [q], h =>
    cases i with
    | zero => exact ⟨by simpa [selS] using h, rfl⟩
    | succ i => simp at h
  | q :: q' :: r, h => exact ⟨selS_at (n := i) rfl h (by omega), rfl⟩
theorem fn_ok (hT : TblOK P T) (hE : ∀ g, ∀ e ∈ T.ents g, FnOK P T g e) {g : FuncId} {fn : Func} {c : Code} {h : H} {e : Entry} (hfn : P.funcs[g]? = some fn) (hname : fn.name ≠ "runtime.NumGoroutine") (hbody : fn.body = some c) (hn : e.n ≤ fn.ntmps) (hsh : e.sh.small = true) (hrs : ∀ s ∈ e.rs, s.small = true) (hk16 : ∀ i ∈ e.kept, i < 16)
    (htot : ∀ p, e.tot = some p → ∀ ds, e.f ds = some (p ds)) (hc : CutsOK P T fn.ntmps c h) (hf : ∀ ds out, e.f ds = some out → evFn T fn h e ds = some out) : FnOK P T g e := by
  refine ⟨hsh, hrs, htot, fun ds out hout E σ vals w hvals hE0 hs => ?_⟩
  have hev := hf ds out hout
  unfold evFn at hev
  rw [hbody] at hev
  obtain ⟨ex, st', hok', hk', hnx, hrun⟩ := ev_sound hT hE c h { sl := (fill e.sh ds).1, hp := (fill e.sh ds).2, nx := 16 } _ out (fill_ok hsh ds _ _) hc hev
  have hcall : (callFunc g vals).run P w = .ok (.enter g vals) w := by
    unfold callFunc
    simp only [Sem.run_bind, run_program, Result.andThen_ok, hfn, hbody]
    have : (fn.name == "runtime.NumGoroutine") = false := by simpa using hname
    simp [this]
  unfold Runs
  rw [hcall]
  refine callsW' (ro := none) (n := 0) (callsIn_of_wp_marks hfn hbody trivial ?_ rfl)
  let a0 : Act := { tmps := vals ++ Array.replicate (fn.ntmps - vals.size) undef, defers := [] }
  have hs0 : SRel T.kd E (· < 16) (lk (fill e.sh ds).1) (lk (fill e.sh ds).2) σ a0 w :=
    ⟨fun t av ht => let ⟨h1, h2⟩ := hs.slot t av ht; ⟨slot_ext (fill_w (lk_mem ht)) h1 _, h2⟩, hs.obj, hs.inj, hs.trk, hs.grew, ⟨[], by simp [a0, hs.d0], trivial⟩⟩
  refine hrun none E σ a0 w _ (.inl rfl) hs0 (by simp only [a0, Array.size_append, Array.size_replicate]; omega) fun σ2 a2 w2 hs2 hsz2 hsame2 hσ2 => ?_
  have hd0 : E.d0 = [] := hs.d0
  have key : fin T fn.results.toList e.kept e.rs st' = some out → ∀ w2 : World, SRel T.kd E (· < st'.nx) (lk st'.sl) (lk st'.hp) σ2 { tmps := a2.tmps, defers := [] } w2 → ∃ v, (results fn a2.tmps).run P w2 = .ok v w2 ∧ ∃ s, selS out e.rs 0 = some s ∧ ∃ σ' : Nat → Hd, (∀ i ∈ e.kept, σ' i = σ i) ∧ SRel T.kd E (· < 16) (lk (fill s (datS e.rs out)).1) (lk (fill s (datS e.rs out)).2) σ' { tmps := #[v], defers := [] } w2 := fun hfin w2 hs2 => by
    unfold fin at hfin
    split at hfin
    · rename_i l hres
      split at hfin
      · rename_i j0 ds0 hfr
        cases hfin
        obtain ⟨i, rs, f, g1, g2, hfit, g4⟩ := finR_spec e.rs 0 hfr
        obtain ⟨g5, g6⟩ := tag_sel (ds := f.ds) g1
        rw [Nat.zero_add] at g2
        subst g2
        subst g4
        obtain ⟨vs, h1, h2, h3, h4⟩ := resAV_rel hT hs2 hres
        refine ⟨_, run_results h1, ?_⟩
        have hret := ret_rel h2 h4
        obtain ⟨σ3, h5, h6⟩ := fit_same hT hs2 (a' := { tmps := #[retV vs], defers := [] }) (fun s av hl => by
          rw [lk_cons] at hl
          split at hl
          · rename_i e0
            cases hl
            subst e0
            exact slot_of_val (not_w hret) ⟨_, rfl, hret⟩
          · simp [lk] at hl) hfit (hrs _ (List.mem_of_getElem? g1)) ⟨[], by simp [hd0], trivial⟩
        exact ⟨rs, g5, σ3, fun i hi => (h5 i hi).trans (hσ2 i (hk16 i hi)), by rw [g6]; exact h6⟩
      · cases hfin
    · cases hfin
  cases ex with
  | normal => exact leaves_sr hd0 (fun w3 h3 => key hk' w3 h3) a2.defers w2 hs2
  | ret => exact leaves_sr hd0 (fun w3 h3 => key hk' w3 h3) a2.defers w2 hs2
  | exit id => cases hk'
end
end Go.Ev
