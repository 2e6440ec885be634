/- The evaluator: code. -/
import Derived.Test.YtpmkecjkbajcgaaGreatDoorEvAny
namespace Go.Ev
open Go
set_option linter.unusedVariables false
set_option linter.unusedSimpArgs false
section
variable {P : Program} {T : Tbl} {R : Type}
structure StOK (T : Tbl) (st : St) : Prop where
  nd : nodupK st.sl = true
  wf : WFl T (lk st.sl)
theorem SRel.weaken {E : Ent} {U V : Nat → Prop} {base lks : Nat → Option AV} {hp : HpF} {σ : Nat → Hd} {a : Act} {w : World} (h : SRel T.kd E U base hp σ a w) (hU : ∀ i, U i → V i) (hr : Ref T base lks) : SRel T.kd E V lks hp σ a w :=
  ⟨fun t av ht => by
    obtain ⟨av0, h1, h2⟩ := hr t av ht
    obtain ⟨h3, h4⟩ := h2 (ctx T.kd E hp σ w) a.tmps t U rfl (h.slot t av0 h1)
    exact ⟨h3, AV.In.imp hU av h4⟩,
   fun i o ho => let ⟨h1, h2, h3⟩ := h.obj i o ho; ⟨h1, hU i h2, AO.In.imp hU o h3⟩, h.inj, h.trk, h.grew, h.defers⟩
theorem Ref.refl (lks : Nat → Option AV) : Ref T lks lks := fun t av h => ⟨av, h, Refn.refl av⟩
/-! ### 1. Regions -/
theorem evRegion_sound (hT : TblOK P T) (hE : ∀ g, ∀ e ∈ T.ents g, FnOK P T g e) {ops : Array Oper} {draw : Bool} {nt id : Nat} {st : St} {k : St → Option R} {r : R} (hok : StOK T st) (h : evRegion T ops draw nt st k = some r) :
    ∃ st', StOK T st' ∧ k st' = some r ∧ st.nx ≤ st'.nx ∧ ∀ (ro : Option Nat) (E : Ent) (σ : Nat → Hd) (a : Act) (w : World) (Q : Exit → Act → World → Prop), SRel T.kd E (· < st.nx) (lk st.sl) (lk st.hp) σ a w → nt ≤ a.tmps.size →
      (∀ σ' a' w', SRel T.kd E (· < st'.nx) (lk st'.sl) (lk st'.hp) σ' a' w' → a'.tmps.size = a.tmps.size → (∀ t, t ∉ wr (.region id ops draw) → a'.tmps[t]? = a.tmps[t]?) → (∀ i, i < st.nx → σ' i = σ i) → Q .normal a' w') → (Code.region id ops draw).wpIn (FW ro) 0 P Q a w := by
  unfold evRegion at h
  obtain ⟨recs, sl', hp', h1, h2, h3, h4, h5, h6, h7⟩ := evOps_sound hT hE ops.toList st.nx st.sl st.hp [] (lk st.sl) hok.nd hok.wf (Ref.refl _) h
  split at h7
  · rename_i hfree
    have hlen : recs.length = ops.size := by simpa using congrArg List.length h1
    refine ⟨_, ⟨h3, h4⟩, h7, Nat.le_add_right _ _, fun ro E σ a w Q hs hnt hQ => ?_⟩
    have hwr : ∀ t, t ∉ wr (.region id ops draw) → ∀ r ∈ recs, r.o.dst ≠ some t := fun t ht r hr hd => ht (by
      simp only [wr, List.mem_filterMap]
      refine ⟨r.o, ?_, hd⟩
      rw [← h1]
      exact List.mem_map.2 ⟨r, hr, rfl⟩)
    have hfin : ∀ a' w', Inv T E recs (lk st.sl) (lk st.hp) st.nx nt a (· < st.nx) σ (fun j => decide (j < ops.size)) a' w' → Q .normal a' w' := fun a' w' hInv => by
      obtain ⟨σ', U, hs', _, hU, hsame, hsz, hU0⟩ := hInv
      rw [srcS_all recs 0 _ _ (fun j _ hj => by simp; omega), hpS_all recs 0 _ _ (fun j _ hj => by simp; omega)] at hs'
      refine hQ σ' a' w' ?_ hsz (fun t ht => hsame t (hwr t ht)) (fun i hi => (hU0 i hi).2)
      rw [h6]
      refine hs'.weaken (fun i hi => ?_) h5
      show i < st.nx + 16 * ops.size
      rcases hU i hi with h | ⟨j, h8, _, h9⟩
      · omega
      · omega
    have hinit : ∀ (S : Nat → Bool) (w : World), (∀ j, S j = false) → SRel T.kd E (· < st.nx) (lk st.sl) (lk st.hp) σ a w → Inv T E recs (lk st.sl) (lk st.hp) st.nx nt a (· < st.nx) σ S a w := fun S w hS hs => by
      refine ⟨σ, (· < st.nx), ?_, hnt, fun i hi => .inl hi, fun t _ => rfl, rfl, fun i hi => ⟨hi, rfl⟩⟩
      have e1 : ∀ (rs : List Rec) (i : Nat) (b : Nat → Option AV), srcS rs i S b = b := fun rs => by
        induction rs with
        | nil => exact fun _ _ => rfl
        | cons r rs ih => intro i b; simp only [srcS, hS, Bool.false_eq_true, if_false]; exact ih _ _
      have e2 : ∀ (rs : List Rec) (i : Nat) (b : HpF), hpS rs i S b = b := fun rs => by
        induction rs with
        | nil => exact fun _ _ => rfl
        | cons r rs ih => intro i b; simp only [hpS, hS, Bool.false_eq_true, if_false]; exact ih _ _
      rw [e1, e2]
      exact hs
    cases draw with
    | false =>
      refine wpIn_region ?_
      rw [List.range_eq_range']
      refine rg_text ro h2 h1 hfin ops.size 0 a w (by omega) (hinit _ w (fun j => by simp) hs)
    | true =>
      simp only [Bool.not_true, Bool.false_or, List.append_nil, List.reverse_reverse] at hfree
      have hg : Grew w { w with drawn := w.drawn + 1 } fun _ => False := ⟨rfl, rfl, rfl, Nat.le_refl _, fun _ _ _ => rfl⟩
      have hnone : ∀ j, (Array.replicate ops.size false).getD j false = false := fun j => by
        simp only [Array.getD_eq_getD_getElem?, Array.getElem?_replicate]
        split <;> rfl
      have hcnt : ∀ (f : Nat → Bool) n, cnt f n ≤ n := fun f n => by
        induction n with
        | zero => exact Nat.le_refl _
        | succ n ih => simp only [cnt]; split <;> omega
      refine wpIn_region_any hT.mixed (rg_any ro h2 h1 hfree hfin ops.size _ a _ (by simp) (hcnt _ _) (fun j k hj => ?_) (hinit _ _ hnone (hs.grow hg).1))
      rw [hnone j] at hj
      cases hj
  · cases h7
/-! ### 2. Code -/
def noSolo (cuts : Nat → Option Cut) : H → Bool
  | .cut j => match cuts j with | some u => !u.solo | none => true
  | .seq a b | .cond a b => noSolo cuts a && noSolo cuts b
  | .blk h => noSolo cuts h
  | .go => true
def RoOK (T : Tbl) (ro : Option Nat) (h : H) : Prop := ro = none ∨ noSolo T.cuts h = true
def exitOf : Ex → Exit
  | .normal => .normal
  | .exit id => .exit id
  | .ret => .ret
/-- What is said of a piece of code that is cut out. -/
structure CutOK (P : Program) (T : Tbl) (nt : Nat) (c : Code) (u : Cut) : Prop where
  sh : u.sh.small = true
  outs : ∀ p ∈ u.outs, p.2.small = true
  run : ∀ ds out, u.f ds = some out → ∀ (ro : Option Nat) (E : Ent) (σ : Nat → Hd) (a : Act) (w : World), (u.solo = true → ro = none) → SRel T.kd E (· < 16) (lk (fill u.sh ds).1) (lk (fill u.sh ds).2) σ a w → nt ≤ a.tmps.size →
    ∀ (Q : Exit → Act → World → Prop), (∀ ex rs σ' a' w', outSel out.1 u.outs 0 = some (ex, rs) → SRel T.kd E (· < 16) (lk (fill rs out.2).1) (lk (fill rs out.2).2) σ' a' w' → a'.tmps.size = a.tmps.size → (∀ t, t ∉ wr c → a'.tmps[t]? = a.tmps[t]?) → (∀ i ∈ u.kept, σ' i = σ i) → Q (exitOf ex) a' w') → c.wpIn (FW ro) 0 P Q a w
def CutsOK (P : Program) (T : Tbl) (nt : Nat) : Code → H → Prop
  | c, .cut j => ∀ u, T.cuts j = some u → CutOK P T nt c u
  | .seq a b, .seq x y => CutsOK P T nt a x ∧ CutsOK P T nt b y
  | .cond _ a b, .cond x y => CutsOK P T nt a x ∧ CutsOK P T nt b y
  | .block _ b, .blk x => CutsOK P T nt b x
  | _, _ => True
theorem evOuts_sel {out : Nat × List D} {use : Ex → Slots → Heap → Option R} : ∀ (l : List (Ex × Shape)) (j : Nat), evOuts out use l j = (match outSel out.1 l j with | some (ex, rs) => use ex (fill rs out.2).1 (fill rs out.2).2 | none => none)
  | [], j => rfl
  | [(ex, rs)], j => rfl
  | (ex, rs) :: p :: r, j => by
    have ih := evOuts_sel (out := out) (use := use) (p :: r) (j + 1)
    simp only [evOuts, outSel]
    cases Nat.beq out.1 j with
    | true => rfl
    | false => exact ih
theorem outSel_mem {o : Nat} {p : Ex × Shape} : ∀ {l : List (Ex × Shape)} {j : Nat}, outSel o l j = some p → p ∈ l
  | [], j, h => by simp [outSel] at h
  | [q], j, h => by simp only [outSel, Option.some.injEq] at h; subst h; simp
  | q :: q' :: r, j, h => by
    simp only [outSel] at h
    cases hb : Nat.beq o j with
    | true => rw [hb] at h; simp only [cond_true, Option.some.injEq] at h; subst h; simp
    | false => rw [hb] at h; exact List.mem_cons_of_mem _ (outSel_mem (l := q' :: r) h)
theorem renSl_mem {r : Nat → Nat} : ∀ {sl : Slots} {s : Nat} {b : AV}, (s, b) ∈ renSl r sl → ∃ a, (s, a) ∈ sl ∧ b = a.ren r
  | [], s, b, h => by simp [renSl] at h
  | (s0, a) :: l, s, b, h => by
    simp only [renSl] at h
    rcases List.mem_cons.1 h with h | h
    · cases h; exact ⟨a, by simp, rfl⟩
    · obtain ⟨a', h1, h2⟩ := renSl_mem h
      exact ⟨a', by simp [h1], h2⟩
theorem fillSl_keys {L : List D} : ∀ (sl : List (Nat × SV)) (j : Nat), (fillSl L sl j).1.map (·.1) = sl.map (·.1)
  | [], j => rfl
  | (s, v) :: r, j => by simp [fillSl, fillSl_keys r]
theorem fill_nodup {sh : Shape} (h : sh.small = true) (L : List D) : nodupK (fill sh L).1 = true := by
  have : (fill sh L).1 = (fillSl L sh.sl 0).1 := by simp only [fill]
  rw [this, nodup_keys (fillSl_keys sh.sl 0)]
  simp only [Shape.small, Bool.and_eq_true] at h
  exact h.1.2
theorem fill_w {sh : Shape} {L : List D} {s : Nat} {b : AV} (h : (s, b) ∈ (fill sh L).1) : ∀ s' b' c v, b ≠ .w s' b' c v := by
  have : (fill sh L).1 = (fillSl L sh.sl 0).1 := by simp only [fill]
  rw [this] at h
  exact fillSl_w _ _ _ _ h
theorem fill_ok {sh : Shape} (h : sh.small = true) (L : List D) (hp : Heap) (nx : Nat) : StOK T { sl := (fill sh L).1, hp := hp, nx := nx } :=
  ⟨fill_nodup h L, fun t s b c v ht => absurd rfl (fill_w (lk_mem ht) s b c v)⟩
theorem nodup_app {α : Type} : ∀ {l m : List (Nat × α)}, nodupK l = true → nodupK m = true → (∀ i x y, (i, x) ∈ l → (i, y) ∉ m) → nodupK (l ++ m) = true
  | [], m, _, h, _ => h
  | (i, x) :: l, m, hl, hm, hd => by
    rw [nodupK_iff] at hl
    rw [List.cons_append, nodupK_iff]
    refine ⟨fun y hy => ?_, nodup_app hl.2 hm fun j a b ha => hd j a b (by simp [ha])⟩
    rcases List.mem_append.1 hy with hy | hy
    · exact hl.1 y hy
    · exact hd i x y (by simp) hy
theorem nodup_filter {α : Type} {p : Nat × α → Bool} : ∀ {l : List (Nat × α)}, nodupK l = true → nodupK (l.filter p) = true
  | [], h => rfl
  | (i, x) :: l, h => by
    rw [nodupK_iff] at h
    have ih := nodup_filter (p := p) h.2
    simp only [List.filter]
    split
    · exact nodupK_iff.2 ⟨fun y hy => h.1 y ((List.mem_filter.1 hy).1), ih⟩
    · exact ih
theorem renSl_keys {r : Nat → Nat} : ∀ (sl : Slots), (renSl r sl).map (·.1) = sl.map (·.1)
  | [] => rfl
  | (s, a) :: l => by simp [renSl, renSl_keys l]
theorem evCut_sound (hT : TblOK P T) {nt : Nat} {c : Code} {u : Cut} (hcut : CutOK P T nt c u) {st : St} {k : Ex → St → Option R} {r : R} (hok : StOK T st) (h : evCut T c st k u = some r) :
    ∃ ex st', StOK T st' ∧ k ex st' = some r ∧ st.nx ≤ st'.nx ∧ ∀ (ro : Option Nat) (E : Ent) (σ : Nat → Hd) (a : Act) (w : World) (Q : Exit → Act → World → Prop), (u.solo = true → ro = none) → SRel T.kd E (· < st.nx) (lk st.sl) (lk st.hp) σ a w → nt ≤ a.tmps.size →
      (∀ σ' a' w', SRel T.kd E (· < st'.nx) (lk st'.sl) (lk st'.hp) σ' a' w' → a'.tmps.size = a.tmps.size → (∀ t, t ∉ wr c → a'.tmps[t]? = a.tmps[t]?) → (∀ i, i < st.nx → σ' i = σ i) → Q (exitOf ex) a' w') → c.wpIn (FW ro) 0 P Q a w := by
  unfold evCut at h
  split at h
  · rename_i f hfit
    split at h
    · rename_i hcond
      cases ho : u.f f.ds with
      | none => simp [ho] at h
      | some out =>
        simp only [ho, Option.bind_some] at h
        rw [evOuts_sel] at h
        cases hsel : outSel out.1 u.outs 0 with
        | none => rw [hsel] at h; cases h
        | some p =>
          obtain ⟨ex, rs⟩ := p
          rw [hsel] at h
          simp only at h
          have hrs : rs.small = true := hcut.outs _ (outSel_mem hsel)
          have hlo : f.lent = [] ∨ (rs.fresh = true ∧ u.sh.loose = true) := by
            simp only [Bool.or_eq_true, Bool.and_eq_true, List.isEmpty_iff] at hcond
            refine hcond.imp id fun h => ⟨?_, h.2⟩
            have hall : ∀ (l : List (Ex × Shape)), freshAll l = true → ∀ p ∈ l, p.2.fresh = true := fun l => by
              induction l with
              | nil => exact fun _ p hp => by simp at hp
              | cons q l ih =>
                intro hq p hp
                simp only [freshAll, Bool.and_eq_true] at hq
                rcases List.mem_cons.1 hp with rfl | hp
                · exact hq.1
                · exact ih hq.2 p hp
            exact hall _ h.1 _ (outSel_mem hsel)
          refine ⟨ex, _, ⟨?_, ?_⟩, h, Nat.le_add_right _ _, fun ro E σ a w Q hro hs hnt hQ => ?_⟩
          · refine nodup_app (by rw [nodup_keys (renSl_keys _)]; exact fill_nodup hrs _) (nodup_filter hok.nd) fun i x y hx hy => ?_
            obtain ⟨a, h1, _⟩ := renSl_mem hx
            have := (List.mem_filter.1 hy).2
            simp only [Bool.and_eq_true, Bool.not_eq_true'] at this
            have hm : memN ((fill rs out.2).1.map (·.1)) i = true := memN_iff.2 (List.mem_map.2 ⟨_, h1, rfl⟩)
            rw [hm] at this
            cases this.2.2
          · intro t s b c' v ht
            exfalso
            rcases List.mem_append.1 (lk_mem ht) with hm | hm
            · obtain ⟨a, h1, h2⟩ := renSl_mem hm
              cases a <;> simp [AV.ren] at h2
              exact fill_w h1 _ _ _ _ rfl
            · have := (List.mem_filter.1 hm).2
              simp [isW] at this
          · have hmU : ∀ i j, (i, some j) ∈ f.mp → j < st.nx := fun i j hm => by
              have := fit_U (U := (· < st.nx)) (fun s av hl hw => (hs.slot s av hl).2) (fun i o ho => (hs.obj i o ho).2.2) hfit i j hm
              exact this.resolve_left (by simp)
            obtain ⟨σ0, hσ0, _, hmi, _, hs0⟩ := fit_sound hT hs (a' := a) (E' := entOf T.kd E (lk st.hp) σ w f a.defers) (fun s av hl => (hs.slot s av hl).1) hfit hcut.sh f.lent.isEmpty (hlo.imp (fun h => by simp [h]) fun h => h.2) (fun i i' j h => by simp at h) ⟨[], rfl, trivial⟩
              (fun fr b hb _ => by
                cases fr with
                | true => exact .inr (.inr (.inl hb))
                | false => exact .inr (.inr (.inr ⟨rfl, .inl hb⟩)))
              (fun i hi oi hoi b hb => ⟨.inr (.inr (.inr ⟨rfl, .inr ⟨i, hi, oi, hoi, hb⟩⟩)), fun e => by rw [List.isEmpty_iff.1 e] at hi; simp at hi⟩)
              (fun i j oj b h1 h2 h3 => .inr ⟨i, j, oj, h1, h2, h3⟩) (Grew.refl w _)
            refine hcut.run f.ds out ho ro _ σ0 a w hro hs0 hnt Q fun ex' rs' σ1 a' w' hsel' hs1 hsz hsame hkept => ?_
            rw [hsel] at hsel'
            cases hsel'
            obtain ⟨σ2, hσ2, h3, h4, h5u⟩ := hand_back hs hmi hmU (kept := u.kept) (nid := st.nx) (fun c hc h => by omega) hσ0 hkept hrs (hlo.imp id fun h => h.1) hs1
            refine hQ σ2 a' w' ?_ hsz hsame hσ2
            refine ⟨fun t av ht => ?_, fun i o ho' => ?_, ?_, ?_, h3.grew, ?_⟩
            · show SlotRel (ctx T.kd E (lk (upds st.hp _)) σ2 w') a'.tmps t av ∧ _
              rw [lk_upds]
              rcases List.mem_append.1 (lk_mem ht) with hm | hm
              · obtain ⟨a0, h5, rfl⟩ := renSl_mem hm
                obtain ⟨h6, h7⟩ := h4 t a0 h5 (nodup_lk (fill_nodup hrs _) h5)
                exact ⟨h6, AV.In.imp (fun i hi => by show i < st.nx + 16; rcases hi with hi | hi <;> omega) _ h7⟩
              · have h8 := (List.mem_filter.1 hm).2
                simp only [Bool.and_eq_true, Bool.not_eq_true'] at h8
                have hnw : t ∉ wr c := fun h => by rw [memN_iff.2 h] at h8; cases h8.1
                obtain ⟨h6, h7⟩ := h3.slot t av (nodup_lk hok.nd ((List.mem_filter.1 hm).1))
                exact ⟨slot_tmps (hsame t hnw) h6, AV.In.imp (fun i hi => by show i < st.nx + 16; rcases hi with hi | hi <;> omega) _ h7⟩
            · have ho'' := ho'
              simp only [lk_upds] at ho''
              obtain ⟨h5, h6, h7⟩ := h3.obj i o ho''
              refine ⟨?_, by show i < st.nx + 16; rcases h6 with h | h <;> omega, AO.In.imp (fun i hi => by show i < st.nx + 16; rcases hi with hi | hi <;> omega) _ h7⟩
              show ORel (ctx T.kd E (lk (upds st.hp _)) σ2 w') o (σ2 i)
              rw [lk_upds]
              exact h5
            · intro i j oi oj b hi hj
              simp only [lk_upds] at hi hj
              exact h3.inj i j oi oj b hi hj
            · intro i o b ho' hb
              simp only [lk_upds] at ho'
              exact h3.trk i o b ho' hb
            · show ∃ ds, a'.defers = ds ++ E.d0 ∧ Marks (untr (lk (upds st.hp _)) σ2) E.w0.heap.size w' ds
              rw [lk_upds]
              obtain ⟨ds1, hd1, hm1⟩ := hs1.defers
              obtain ⟨ds2, hd2, hm2⟩ := hs.defers
              obtain ⟨ds3, hd3, hm3⟩ := h3.defers
              have e23 : ds3 = ds2 := List.append_cancel_right (hd3.symm.trans hd2)
              subst e23
              have hd1 : a'.defers = ds1 ++ a.defers := hd1
              refine ⟨ds1 ++ ds3, by rw [hd1, hd2, List.append_assoc], ?_⟩
              have hm1' : Marks (untr (updF (lk st.hp) (given f.mp ++ back (outer u.kept f.mp st.nx) (fill rs out.2).2)) σ2) w.heap.size w' ds1 := hm1.mono (Nat.le_refl _) (Nat.le_refl _) fun r h1 _ hun _ => ⟨h5u r h1 hun, rfl⟩
              exact Marks.app hs.grew.size hm1' hm3 fun e he r hr => (hm2.lt e he r hr).2
    · cases h
  · cases h
theorem ev_sound (hT : TblOK P T) (hE : ∀ g, ∀ e ∈ T.ents g, FnOK P T g e) {nt : Nat} : ∀ (c : Code) (h : H) (st : St) (k : Ex → St → Option R) (r : R), StOK T st → CutsOK P T nt c h → ev T nt c h st k = some r →
    ∃ ex st', StOK T st' ∧ k ex st' = some r ∧ st.nx ≤ st'.nx ∧ ∀ (ro : Option Nat) (E : Ent) (σ : Nat → Hd) (a : Act) (w : World) (Q : Exit → Act → World → Prop), RoOK T ro h → SRel T.kd E (· < st.nx) (lk st.sl) (lk st.hp) σ a w → nt ≤ a.tmps.size →
      (∀ σ' a' w', SRel T.kd E (· < st'.nx) (lk st'.sl) (lk st'.hp) σ' a' w' → a'.tmps.size = a.tmps.size → (∀ t, t ∉ wr c → a'.tmps[t]? = a.tmps[t]?) → (∀ i, i < st.nx → σ' i = σ i) → Q (exitOf ex) a' w') → c.wpIn (FW ro) 0 P Q a w := by
  intro c
  have hcut : ∀ (c : Code) (j : Nat) (st : St) (k : Ex → St → Option R) (r : R), StOK T st → CutsOK P T nt c (.cut j) → ev T nt c (.cut j) st k = some r →
    ∃ ex st', StOK T st' ∧ k ex st' = some r ∧ st.nx ≤ st'.nx ∧ ∀ (ro : Option Nat) (E : Ent) (σ : Nat → Hd) (a : Act) (w : World) (Q : Exit → Act → World → Prop), RoOK T ro (.cut j) → SRel T.kd E (· < st.nx) (lk st.sl) (lk st.hp) σ a w → nt ≤ a.tmps.size →
      (∀ σ' a' w', SRel T.kd E (· < st'.nx) (lk st'.sl) (lk st'.hp) σ' a' w' → a'.tmps.size = a.tmps.size → (∀ t, t ∉ wr c → a'.tmps[t]? = a.tmps[t]?) → (∀ i, i < st.nx → σ' i = σ i) → Q (exitOf ex) a' w') → c.wpIn (FW ro) 0 P Q a w := by
    intro c j st k r hok hc h
    have hc' : ∀ u, T.cuts j = some u → CutOK P T nt c u := by cases c <;> exact hc
    have h' : (match T.cuts j with | some u => evCut T c st k u | none => none) = some r := by cases c <;> exact h
    split at h'
    · rename_i u hu
      obtain ⟨ex, st', h1, h2, h3, h4⟩ := evCut_sound hT (hc' u hu) hok h'
      refine ⟨ex, st', h1, h2, h3, fun ro E σ a w Q hro => h4 ro E σ a w Q fun hso => hro.resolve_right ?_⟩
      simp [noSolo, hu, hso]
    · cases h'
  have seqr : ∀ (x y : Code) (hx hy : H), (∀ (st : St) (k : Ex → St → Option R) (r : R), StOK T st → ev T nt x hx st k = some r →
        ∃ ex st', StOK T st' ∧ k ex st' = some r ∧ st.nx ≤ st'.nx ∧ ∀ (ro : Option Nat) (E : Ent) (σ : Nat → Hd) (a : Act) (w : World) (Q : Exit → Act → World → Prop), RoOK T ro hx → SRel T.kd E (· < st.nx) (lk st.sl) (lk st.hp) σ a w → nt ≤ a.tmps.size →
          (∀ σ' a' w', SRel T.kd E (· < st'.nx) (lk st'.sl) (lk st'.hp) σ' a' w' → a'.tmps.size = a.tmps.size → (∀ t, t ∉ wr x → a'.tmps[t]? = a.tmps[t]?) → (∀ i, i < st.nx → σ' i = σ i) → Q (exitOf ex) a' w') → x.wpIn (FW ro) 0 P Q a w) →
      (∀ (st : St) (k : Ex → St → Option R) (r : R), StOK T st → ev T nt y hy st k = some r →
        ∃ ex st', StOK T st' ∧ k ex st' = some r ∧ st.nx ≤ st'.nx ∧ ∀ (ro : Option Nat) (E : Ent) (σ : Nat → Hd) (a : Act) (w : World) (Q : Exit → Act → World → Prop), RoOK T ro hy → SRel T.kd E (· < st.nx) (lk st.sl) (lk st.hp) σ a w → nt ≤ a.tmps.size →
          (∀ σ' a' w', SRel T.kd E (· < st'.nx) (lk st'.sl) (lk st'.hp) σ' a' w' → a'.tmps.size = a.tmps.size → (∀ t, t ∉ wr y → a'.tmps[t]? = a.tmps[t]?) → (∀ i, i < st.nx → σ' i = σ i) → Q (exitOf ex) a' w') → y.wpIn (FW ro) 0 P Q a w) →
      ∀ (st : St) (k : Ex → St → Option R) (r : R), StOK T st → (ev T nt x hx st fun ex st' => match ex with | .normal => ev T nt y hy st' k | e => k e st') = some r →
        ∃ ex st', StOK T st' ∧ k ex st' = some r ∧ st.nx ≤ st'.nx ∧ ∀ (ro : Option Nat) (E : Ent) (σ : Nat → Hd) (a : Act) (w : World) (Q : Exit → Act → World → Prop), RoOK T ro (.seq hx hy) → SRel T.kd E (· < st.nx) (lk st.sl) (lk st.hp) σ a w → nt ≤ a.tmps.size →
          (∀ σ' a' w', SRel T.kd E (· < st'.nx) (lk st'.sl) (lk st'.hp) σ' a' w' → a'.tmps.size = a.tmps.size → (∀ t, t ∉ wr (.seq x y) → a'.tmps[t]? = a.tmps[t]?) → (∀ i, i < st.nx → σ' i = σ i) → Q (exitOf ex) a' w') → (Code.seq x y).wpIn (FW ro) 0 P Q a w := by
    intro x y hx hy ihx ihy st k r hok h
    obtain ⟨ex1, st1, hok1, hk1, hn1, hrun1⟩ := ihx st _ r hok h
    have hro1 : ∀ {ro : Option Nat}, RoOK T ro (.seq hx hy) → RoOK T ro hx := fun h => h.imp id fun h => by simp only [noSolo, Bool.and_eq_true] at h; exact h.1
    have hro2 : ∀ {ro : Option Nat}, RoOK T ro (.seq hx hy) → RoOK T ro hy := fun h => h.imp id fun h => by simp only [noSolo, Bool.and_eq_true] at h; exact h.2
    have hwx : ∀ t, t ∉ wr (.seq x y) → t ∉ wr x := fun t ht h => ht (by simp only [wr]; exact List.mem_append_left _ h)
    have hwy : ∀ t, t ∉ wr (.seq x y) → t ∉ wr y := fun t ht h => ht (by simp only [wr]; exact List.mem_append_right _ h)
    cases ex1 with
    | normal =>
      obtain ⟨ex2, st2, hok2, hk2, hn2, hrun2⟩ := ihy st1 k r hok1 hk1
      refine ⟨ex2, st2, hok2, hk2, Nat.le_trans hn1 hn2, fun ro E σ a w Q hro hs hnt hQ => wpIn_seq (hrun1 ro E σ a w _ (hro1 hro) hs hnt fun σ1 a1 w1 hs1 hsz1 hsame1 hσ1 => ?_)⟩
      show (y.wpIn (FW ro) 0 P Q) a1 w1
      exact hrun2 ro E σ1 a1 w1 Q (hro2 hro) hs1 (by rw [hsz1]; exact hnt) fun σ2 a2 w2 hs2 hsz2 hsame2 hσ2 => hQ σ2 a2 w2 hs2 (hsz2.trans hsz1) (fun t ht => (hsame2 t (hwy t ht)).trans (hsame1 t (hwx t ht))) fun i hi => (hσ2 i (by omega)).trans (hσ1 i hi)
    | exit id =>
      exact ⟨.exit id, st1, hok1, hk1, hn1, fun ro E σ a w Q hro hs hnt hQ => wpIn_seq (hrun1 ro E σ a w _ (hro1 hro) hs hnt fun σ1 a1 w1 hs1 hsz1 hsame1 hσ1 => hQ σ1 a1 w1 hs1 hsz1 (fun t ht => hsame1 t (hwx t ht)) hσ1)⟩
    | ret =>
      exact ⟨.ret, st1, hok1, hk1, hn1, fun ro E σ a w Q hro hs hnt hQ => wpIn_seq (hrun1 ro E σ a w _ (hro1 hro) hs hnt fun σ1 a1 w1 hs1 hsz1 hsame1 hσ1 => hQ σ1 a1 w1 hs1 hsz1 (fun t ht => hsame1 t (hwx t ht)) hσ1)⟩
  have condr : ∀ (co : Operand) (x y : Code) (hx hy : H), (∀ (st : St) (k : Ex → St → Option R) (r : R), StOK T st → ev T nt x hx st k = some r →
        ∃ ex st', StOK T st' ∧ k ex st' = some r ∧ st.nx ≤ st'.nx ∧ ∀ (ro : Option Nat) (E : Ent) (σ : Nat → Hd) (a : Act) (w : World) (Q : Exit → Act → World → Prop), RoOK T ro hx → SRel T.kd E (· < st.nx) (lk st.sl) (lk st.hp) σ a w → nt ≤ a.tmps.size →
          (∀ σ' a' w', SRel T.kd E (· < st'.nx) (lk st'.sl) (lk st'.hp) σ' a' w' → a'.tmps.size = a.tmps.size → (∀ t, t ∉ wr x → a'.tmps[t]? = a.tmps[t]?) → (∀ i, i < st.nx → σ' i = σ i) → Q (exitOf ex) a' w') → x.wpIn (FW ro) 0 P Q a w) →
      (∀ (st : St) (k : Ex → St → Option R) (r : R), StOK T st → ev T nt y hy st k = some r →
        ∃ ex st', StOK T st' ∧ k ex st' = some r ∧ st.nx ≤ st'.nx ∧ ∀ (ro : Option Nat) (E : Ent) (σ : Nat → Hd) (a : Act) (w : World) (Q : Exit → Act → World → Prop), RoOK T ro hy → SRel T.kd E (· < st.nx) (lk st.sl) (lk st.hp) σ a w → nt ≤ a.tmps.size →
          (∀ σ' a' w', SRel T.kd E (· < st'.nx) (lk st'.sl) (lk st'.hp) σ' a' w' → a'.tmps.size = a.tmps.size → (∀ t, t ∉ wr y → a'.tmps[t]? = a.tmps[t]?) → (∀ i, i < st.nx → σ' i = σ i) → Q (exitOf ex) a' w') → y.wpIn (FW ro) 0 P Q a w) →
      ∀ (st : St) (k : Ex → St → Option R) (r : R), StOK T st → (match opd T (lk st.sl) T.boolT co with
          | some (.d t _ v) => match T.kd t with
            | some .bool => cond v.bool (ev T nt x hx st k) (ev T nt y hy st k)
            | _ => none
          | _ => none) = some r →
        ∃ ex st', StOK T st' ∧ k ex st' = some r ∧ st.nx ≤ st'.nx ∧ ∀ (ro : Option Nat) (E : Ent) (σ : Nat → Hd) (a : Act) (w : World) (Q : Exit → Act → World → Prop), RoOK T ro (.cond hx hy) → SRel T.kd E (· < st.nx) (lk st.sl) (lk st.hp) σ a w → nt ≤ a.tmps.size →
          (∀ σ' a' w', SRel T.kd E (· < st'.nx) (lk st'.sl) (lk st'.hp) σ' a' w' → a'.tmps.size = a.tmps.size → (∀ t, t ∉ wr (.cond co x y) → a'.tmps[t]? = a.tmps[t]?) → (∀ i, i < st.nx → σ' i = σ i) → Q (exitOf ex) a' w') → (Code.cond co x y).wpIn (FW ro) 0 P Q a w := by
    intro co x y hx hy ihx ihy st k r hok h
    have hwx : ∀ t, t ∉ wr (.cond co x y) → t ∉ wr x := fun t ht h => ht (by simp only [wr]; exact List.mem_append_left _ h)
    have hwy : ∀ t, t ∉ wr (.cond co x y) → t ∉ wr y := fun t ht h => ht (by simp only [wr]; exact List.mem_append_right _ h)
    split at h
    · rename_i t fr v hop
      split at h
      · rename_i hk
        have hval : ∀ (E : Ent) (σ : Nat → Hd) (a : Act) (w : World), SRel T.kd E (· < st.nx) (lk st.sl) (lk st.hp) σ a w → a.eval co = .bool v.bool := fun E σ a w hs => by
          have := (opd_rel (C := ctx T.kd E (lk st.hp) σ w) rfl (a := a) (U := (· < st.nx)) (ts := match co with | .tmp s => [s] | _ => []) (fun t _ av hav => hs.slot t av hav) (fun s hs' => by subst hs'; simp) hop).1
          exact rep_bool (C := ctx T.kd E (lk st.hp) σ w) hk this
        cases hv : v.bool with
        | true =>
          rw [hv] at h
          obtain ⟨ex, st', h1, h2, h3, h4⟩ := ihx st k r hok h
          exact ⟨ex, st', h1, h2, h3, fun ro E σ a w Q hro hs hnt hQ => wpIn_cond_true (by rw [hval E σ a w hs, hv]) (h4 ro E σ a w Q (hro.imp id fun h => by simp only [noSolo, Bool.and_eq_true] at h; exact h.1) hs hnt fun σ' a' w' h5 h6 h7 h8 => hQ σ' a' w' h5 h6 (fun t ht => h7 t (hwx t ht)) h8)⟩
        | false =>
          rw [hv] at h
          obtain ⟨ex, st', h1, h2, h3, h4⟩ := ihy st k r hok h
          exact ⟨ex, st', h1, h2, h3, fun ro E σ a w Q hro hs hnt hQ => wpIn_cond_false (by rw [hval E σ a w hs, hv]) (h4 ro E σ a w Q (hro.imp id fun h => by simp only [noSolo, Bool.and_eq_true] at h; exact h.2) hs hnt fun σ' a' w' h5 h6 h7 h8 => hQ σ' a' w' h5 h6 (fun t ht => h7 t (hwy t ht)) h8)⟩
      · cases h
    · cases h
  have blkr : ∀ (id : Nat) (x : Code) (hx : H), (∀ (st : St) (k : Ex → St → Option R) (r : R), StOK T st → ev T nt x hx st k = some r →
        ∃ ex st', StOK T st' ∧ k ex st' = some r ∧ st.nx ≤ st'.nx ∧ ∀ (ro : Option Nat) (E : Ent) (σ : Nat → Hd) (a : Act) (w : World) (Q : Exit → Act → World → Prop), RoOK T ro hx → SRel T.kd E (· < st.nx) (lk st.sl) (lk st.hp) σ a w → nt ≤ a.tmps.size →
          (∀ σ' a' w', SRel T.kd E (· < st'.nx) (lk st'.sl) (lk st'.hp) σ' a' w' → a'.tmps.size = a.tmps.size → (∀ t, t ∉ wr x → a'.tmps[t]? = a.tmps[t]?) → (∀ i, i < st.nx → σ' i = σ i) → Q (exitOf ex) a' w') → x.wpIn (FW ro) 0 P Q a w) →
      ∀ (st : St) (k : Ex → St → Option R) (r : R), StOK T st → (ev T nt x hx st fun ex st' => match ex with
          | .exit i => match Nat.beq i id with | true => k .normal st' | false => k (.exit i) st'
          | e => k e st') = some r →
        ∃ ex st', StOK T st' ∧ k ex st' = some r ∧ st.nx ≤ st'.nx ∧ ∀ (ro : Option Nat) (E : Ent) (σ : Nat → Hd) (a : Act) (w : World) (Q : Exit → Act → World → Prop), RoOK T ro (.blk hx) → SRel T.kd E (· < st.nx) (lk st.sl) (lk st.hp) σ a w → nt ≤ a.tmps.size →
          (∀ σ' a' w', SRel T.kd E (· < st'.nx) (lk st'.sl) (lk st'.hp) σ' a' w' → a'.tmps.size = a.tmps.size → (∀ t, t ∉ wr (.block id x) → a'.tmps[t]? = a.tmps[t]?) → (∀ i, i < st.nx → σ' i = σ i) → Q (exitOf ex) a' w') → (Code.block id x).wpIn (FW ro) 0 P Q a w := by
    intro id x hx ihx st k r hok h
    obtain ⟨ex1, st1, hok1, hk1, hn1, hrun1⟩ := ihx st _ r hok h
    cases ex1 with
    | normal => exact ⟨.normal, st1, hok1, hk1, hn1, fun ro E σ a w Q hro hs hnt hQ => wpIn_block (hrun1 ro E σ a w _ hro hs hnt fun σ1 a1 w1 h1 h2 h3 h4 => hQ σ1 a1 w1 h1 h2 h3 h4)⟩
    | ret => exact ⟨.ret, st1, hok1, hk1, hn1, fun ro E σ a w Q hro hs hnt hQ => wpIn_block (hrun1 ro E σ a w _ hro hs hnt fun σ1 a1 w1 h1 h2 h3 h4 => hQ σ1 a1 w1 h1 h2 h3 h4)⟩
    | exit i =>
      simp only at hk1
      split at hk1
      · rename_i hb
        have := beq_to hb
        subst this
        refine ⟨.normal, st1, hok1, hk1, hn1, fun ro E σ a w Q hro hs hnt hQ => wpIn_block (hrun1 ro E σ a w _ hro hs hnt fun σ1 a1 w1 h1 h2 h3 h4 => ?_)⟩
        show (if i = i then Q .normal a1 w1 else Q (.exit i) a1 w1)
        rw [if_pos rfl]
        exact hQ σ1 a1 w1 h1 h2 h3 h4
      · rename_i hb
        have hne : i ≠ id := fun e => by
          have : Nat.beq i id = true := by rw [Nat.beq_eq]; exact e
          rw [this] at hb; cases hb
        refine ⟨.exit i, st1, hok1, hk1, hn1, fun ro E σ a w Q hro hs hnt hQ => wpIn_block (hrun1 ro E σ a w _ hro hs hnt fun σ1 a1 w1 h1 h2 h3 h4 => ?_)⟩
        show (if i = id then Q .normal a1 w1 else Q (.exit i) a1 w1)
        rw [if_neg hne]
        exact hQ σ1 a1 w1 h1 h2 h3 h4
  induction c with
  | skip =>
    intro h st k r hok hc hev
    cases h with
    | cut j => exact hcut _ j st k r hok hc hev
    | _ => exact ⟨.normal, st, hok, hev, Nat.le_refl _, fun ro E σ a w Q hro hs hnt hQ => wpIn_skip (hQ σ a w hs rfl (fun _ _ => rfl) fun _ _ => rfl)⟩
  | region id ops draw =>
    intro h st k r hok hc hev
    have go : evRegion T ops draw nt st (k .normal) = some r → _ := fun h' => evRegion_sound hT hE (id := id) hok h'
    cases h with
    | cut j => exact hcut _ j st k r hok hc hev
    | _ =>
      obtain ⟨st', h1, h2, h3, h4⟩ := go hev
      exact ⟨.normal, st', h1, h2, h3, fun ro E σ a w Q _ => h4 ro E σ a w Q⟩
  | seq x y ihx ihy =>
    intro h st k r hok hc hev
    cases h with
    | cut j => exact hcut _ j st k r hok hc hev
    | seq hx hy => exact seqr x y hx hy (fun st k r hok h' => ihx hx st k r hok hc.1 h') (fun st k r hok h' => ihy hy st k r hok hc.2 h') st k r hok hev
    | go =>
      obtain ⟨ex, st', h1, h2, h3, h4⟩ := seqr x y .go .go (fun st k r hok h' => ihx .go st k r hok (by cases x <;> trivial) h') (fun st k r hok h' => ihy .go st k r hok (by cases y <;> trivial) h') st k r hok hev
      exact ⟨ex, st', h1, h2, h3, fun ro E σ a w Q _ => h4 ro E σ a w Q (.inr rfl)⟩
    | _ => simp [ev] at hev
  | cond co x y ihx ihy =>
    intro h st k r hok hc hev
    cases h with
    | cut j => exact hcut _ j st k r hok hc hev
    | cond hx hy => exact condr co x y hx hy (fun st k r hok h' => ihx hx st k r hok hc.1 h') (fun st k r hok h' => ihy hy st k r hok hc.2 h') st k r hok hev
    | go =>
      obtain ⟨ex, st', h1, h2, h3, h4⟩ := condr co x y .go .go (fun st k r hok h' => ihx .go st k r hok (by cases x <;> trivial) h') (fun st k r hok h' => ihy .go st k r hok (by cases y <;> trivial) h') st k r hok hev
      exact ⟨ex, st', h1, h2, h3, fun ro E σ a w Q _ => h4 ro E σ a w Q (.inr rfl)⟩
    | _ => simp [ev] at hev
  | block id x ihx =>
    intro h st k r hok hc hev
    cases h with
    | cut j => exact hcut _ j st k r hok hc hev
    | blk hx => exact blkr id x hx (fun st k r hok h' => ihx hx st k r hok hc h') st k r hok hev
    | go =>
      obtain ⟨ex, st', h1, h2, h3, h4⟩ := blkr id x .go (fun st k r hok h' => ihx .go st k r hok (by cases x <;> trivial) h') st k r hok hev
      exact ⟨ex, st', h1, h2, h3, fun ro E σ a w Q _ => h4 ro E σ a w Q (.inr rfl)⟩
    | _ => simp [ev] at hev
  | exit id =>
    intro h st k r hok hc hev
    cases h with
    | cut j => exact hcut _ j st k r hok hc hev
    | _ => exact ⟨.exit id, st, hok, hev, Nat.le_refl _, fun ro E σ a w Q hro hs hnt hQ => wpIn_exit (hQ σ a w hs rfl (fun _ _ => rfl) fun _ _ => rfl)⟩
  | ret =>
    intro h st k r hok hc hev
    cases h with
    | cut j => exact hcut _ j st k r hok hc hev
    | _ => exact ⟨.ret, st, hok, hev, Nat.le_refl _, fun ro E σ a w Q hro hs hnt hQ => wpIn_ret (hQ σ a w hs rfl (fun _ _ => rfl) fun _ _ => rfl)⟩
  | _ =>
    intro h st k r hok hc hev
    cases h with
    | cut j => exact hcut _ j st k r hok hc hev
    | _ => simp [ev] at hev
end
end Go.Ev
