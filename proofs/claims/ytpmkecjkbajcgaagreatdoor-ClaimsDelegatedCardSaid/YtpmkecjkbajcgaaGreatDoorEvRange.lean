/- The evaluator: a range over a function (slices.Backward). -/
import Derived.Test.YtpmkecjkbajcgaaGreatDoorEvBackw
namespace Go.Ev
open Go
set_option linter.unusedVariables false
set_option linter.unusedSimpArgs false
def rangeN (pos : Nat) (F : (List D → Option (Nat × List D)) → D → D → List D → Option (Nat × List D)) (fin : List D → Option (Nat × List D)) : Nat → List D → Option (Nat × List D)
  | 0, ds => fin ds
  | k + 1, ds => F (rangeN pos F fin k) (.i k) (D.nth (D.nth ds pos).list k) ds
section
variable (T : Tbl)
/-- One round. -/
def evRound (nt : Nat) (assign body : Code) (h : H) (u : Cut) (p0 p1 : Nat) (e : TypeId) (fr : Bool) (rec : List D → Option (Nat × List D)) (i x : D) (ds : List D) : Option (Nat × List D) :=
  match fill u.sh ds with
  | (sl, hp) => ev T nt assign .go { sl := (p0, .d T.intT true i) :: (p1, .d e fr x) :: sl, hp, nx := 16 } fun ex st => match ex with
    | .normal => ev T nt body h st fun ex st' => match ex with
      | .normal => match fit T.kd (lk st'.hp) (lk st'.sl) (idMap u.kept) u.sh with
        | some f => rec f.ds
        | none => none
      | e => outOf T u.kept u.outs 0 e st'
    | _ => none
/-- Behind the last round. -/
def evRest (u : Cut) (ds : List D) : Option (Nat × List D) :=
  match fill u.sh ds with
  | (sl, hp) => outOf T u.kept u.outs 0 .normal { sl, hp, nx := 16 }
/-- The slots of a shape that code may write. -/
def slotsFree (p0 p1 : Nat) (ws : List Nat) (sh : Shape) : Bool := sh.sl.all fun p => !Nat.beq p.1 p0 && (!Nat.beq p.1 p1 && !memN ws p.1)
def rangeOk (nt p0 p1 : Nat) (assign body : Code) (u : Cut) : Bool :=
  (!Nat.beq p0 p1 && Nat.blt p0 nt && Nat.blt p1 nt) && (slotsFree p0 p1 (wr assign ++ wr body) u.sh && u.outs.all fun q => slotsFree p0 p1 (wr assign ++ wr body) q.2)
end
section
variable {P : Program} {T : Tbl}
/-- What is done from now on. -/
def entW (E : Ent) (hp : HpF) (σ : Nat → Hd) (w : World) (d0 : List Deferred) : Ent where
  w0 := w
  G := fF E hp σ false
  N := fF E hp σ true
  T0 := fun b => ∃ i o, hp i = some o ∧ blk (σ i).v = some b
  d0 := d0
theorem CLe.enter {kd : TypeId → Option K} {E : Ent} {U : Nat → Prop} {hp : HpF} {σ : Nat → Hd} {w : World} (d0 : List Deferred) : CLe (ctx kd E hp σ w) (ctx kd (entW E hp σ w d0) hp σ w) U :=
  ⟨rfl, fun fr b hF _ => ⟨⟨hF.1, by
    cases fr with
    | true => exact .inr (.inr (.inl hF))
    | false => exact .inr (.inr (.inr ⟨rfl, hF⟩))⟩, fun _ => rfl⟩, Nat.le_refl _, fun _ _ => rfl⟩
theorem SRel.enter {kd : TypeId → Option K} {E : Ent} {U : Nat → Prop} {lks lks' : Nat → Option AV} {hp : HpF} {σ : Nat → Hd} {a a' : Act} {w : World} (h : SRel kd E U lks hp σ a w) (hsl : ∀ t av, lks' t = some av → SlotRel (ctx kd E hp σ w) a'.tmps t av ∧ av.In U) : SRel kd (entW E hp σ w a'.defers) U lks' hp σ a' w := by
  have cle : CLe (ctx kd E hp σ w) (ctx kd (entW E hp σ w a'.defers) hp σ w) U := CLe.enter _
  refine ⟨fun t av ht => ?_, fun i o ho => ?_, h.inj, fun i o b ho hb => ⟨(h.trk i o b ho hb).1, .inr ⟨i, o, ho, hb⟩⟩, Grew.refl _ _, ⟨[], rfl, trivial⟩⟩
  · obtain ⟨h1, h2⟩ := hsl t av ht
    exact ⟨slot_mono cle h2 h1, h2⟩
  · obtain ⟨h1, h2, h3⟩ := h.obj i o ho
    exact ⟨orel_mono cle h3 (fun _ _ _ => rfl) h1, h2, h3⟩
theorem leave_aux {kd : TypeId → Option K} {E : Ent} {U U' : Nat → Prop} {lks lks' : Nat → Option AV} {hp hp' : HpF} {σ σ' : Nat → Hd} {a a' : Act} {w w' : World} {d0 : List Deferred} (h : SRel kd E U lks hp σ a w) (h1 : SRel kd (entW E hp σ w d0) U' lks' hp' σ' a' w') {b : Nat} (hlt : b < w.heap.size) (hun : untr hp σ b) :
    untr hp' σ' b ∧ w'.heap[b]? = w.heap[b]? := by
  refine ⟨fun i o ho hb => ?_, h1.grew.block b hlt fun ⟨i, o, ho, hb⟩ => hun i o ho hb⟩
  rcases (h1.trk i o b ho hb).2 with h2 | ⟨j, oj, hj, hb'⟩
  · have h2 : w.heap.size ≤ b := h2
    omega
  · exact hun j oj hj hb'
theorem SRel.leave {kd : TypeId → Option K} {E : Ent} {U U' : Nat → Prop} {lks lks' lks'' : Nat → Option AV} {hp hp' : HpF} {σ σ' : Nat → Hd} {a a' a'' : Act} {w w' : World} {d0 : List Deferred} (h : SRel kd E U lks hp σ a w) (h1 : SRel kd (entW E hp σ w d0) U' lks' hp' σ' a' w')
    (hsl : ∀ t av, lks'' t = some av → SlotRel (ctx kd (entW E hp σ w d0) hp' σ' w') a''.tmps t av ∧ av.In U') (hd : a''.defers = a.defers) : SRel kd E U' lks'' hp' σ' a'' w' := by
  have cle : CLe (ctx kd (entW E hp σ w d0) hp' σ' w') (ctx kd E hp' σ' w') U' := by
    refine ⟨rfl, fun fr b hF _ => ⟨⟨hF.1, ?_⟩, fun _ => rfl⟩, Nat.le_refl _, fun _ _ => rfl⟩
    rcases hF.2 with h2 | ⟨i, o, ho, hb⟩ | h2 | ⟨h2, h3⟩
    · exact .inl (Nat.le_trans h.grew.size h2)
    · exact (h.trk i o b ho hb).2.imp id .inl
    · rcases h2.2 with h3 | h3 | h3 | ⟨h3, _⟩
      · exact .inl h3
      · exact .inr (.inl h3)
      · exact .inr (.inr (.inl h3))
      · cases h3
    · rcases h3.2 with h4 | h4 | h4 | ⟨_, h4⟩
      · exact .inl h4
      · exact .inr (.inl h4)
      · exact .inr (.inr (.inl h4))
      · exact .inr (.inr (.inr ⟨h2, h4⟩))
  refine ⟨fun t av ht => ?_, fun i o ho => ?_, h1.inj, fun i o b ho hb => ?_, ?_, ?_⟩
  · obtain ⟨h2, h3⟩ := hsl t av ht
    exact ⟨slot_mono cle h3 h2, h3⟩
  · obtain ⟨h2, h3, h4⟩ := h1.obj i o ho
    exact ⟨orel_mono cle h4 (fun _ _ _ => rfl) h2, h3, h4⟩
  · obtain ⟨h2, h3⟩ := h1.trk i o b ho hb
    refine ⟨h2, ?_⟩
    rcases h3 with h3 | ⟨j, oj, hj, hb'⟩
    · exact .inl (Nat.le_trans h.grew.size h3)
    · exact (h.trk j oj b hj hb').2
  · refine ⟨h1.grew.os.trans h.grew.os, h1.grew.tape.trans h.grew.tape, h1.grew.output.trans h.grew.output, Nat.le_trans h.grew.size h1.grew.size, fun b hb hn => ?_⟩
    rw [h1.grew.block b (Nat.lt_of_lt_of_le hb h.grew.size) fun ⟨i, o, ho, hbi⟩ => ?_]
    · exact h.grew.block b hb hn
    · rcases (h.trk i o b ho hbi).2 with h2 | h2
      · omega
      · exact hn h2
  · obtain ⟨ds, hd1, hd2⟩ := h.defers
    exact ⟨ds, hd.trans hd1, hd2.mono (Nat.le_refl _) h1.grew.size fun r _ hlt hun _ => leave_aux h h1 hlt hun⟩
theorem SRel.untrOf {kd : TypeId → Option K} {E : Ent} {U : Nat → Prop} {lks : Nat → Option AV} {hp : HpF} {σ : Nat → Hd} {a : Act} {w : World} (h : SRel kd E U lks hp σ a w) {r : Nat} {o : Obj} (ho : w.heap[r]? = some o) (h1 : ∀ c t z, o ≠ .cells c t z) (h2 : ∀ es c, o ≠ .map es c) : untr hp σ r := fun i oi hi hb => by
  obtain ⟨hr, _, _⟩ := h.obj i oi hi
  cases oi with
  | row e fr xs =>
    simp only [ORel] at hr
    obtain ⟨_, k, css, _, _, hown⟩ := hr
    rcases hown.2 with ⟨hv, _⟩ | ⟨g, cap, cur, hv, _, hh, _⟩
    · have hv : (σ i).v = .slice none 0 0 := hv
      rw [hv] at hb; simp [blk] at hb
    · have hv : (σ i).v = .slice (some ⟨g, 0, none⟩) xs.length cap := hv
      rw [hv] at hb
      simp only [blk, Option.some.injEq] at hb
      subst hb
      have hh : w.heap[g]? = some (.cells cur e (0, 0)) := hh
      rw [ho] at hh
      cases hh
      exact h1 _ _ _ rfl
  | box t v =>
    simp only [ORel] at hr
    obtain ⟨_, g, cs, hv, hh, _⟩ := hr
    have hv : (σ i).v = .pointer (some ⟨g, 0, none⟩) := hv
    rw [hv] at hb
    simp only [blk, Option.some.injEq] at hb
    subst hb
    have hh : w.heap[g]? = some (.cells cs.toArray t (0, 0)) := hh
    rw [ho] at hh
    cases hh
    exact h1 _ _ _ rfl
  | map t fr xs =>
    simp only [ORel] at hr
    obtain ⟨_, kt, vt, kk, kv, g, es, clock, _, _, _, _, hv, hh, _⟩ := hr
    have hv : (σ i).v = .map (some g) := hv
    rw [hv] at hb
    simp only [blk, Option.some.injEq] at hb
    subst hb
    have hh : w.heap[g]? = some (.map es clock) := hh
    rw [ho] at hh
    cases hh
    exact h2 _ _ rfl
theorem at_uniq {w : World} {ad : Addr} {u v : Value} (h : At w ad [u]) (h' : At w ad [v]) : u = v := by
  have h1 := h 0 u rfl
  have h2 := h' 0 v rfl
  rw [h1] at h2
  cases h2
  rfl
/-- The closure of slices.Backward. -/
theorem back_val (hT : TblOK P T) {C : Ctx} (hC : C.kd = T.kd) {ct e : TypeId} {ke : K} (hct : T.kd ct = some (.slice e ke)) {gB : FuncId} {f1 f2 : Bool} {x : D} {v : Value} (h : VRel C (.fn gB [.bx ct f1 (.d ct f2 x)]) v) :
    ∃ ad A c, v = .func (.func gB) #[] #[.pointer (some ad)] ∧ ad.spot = none ∧ C.F f1 ad.block ∧ ad.block < C.w.heap.size ∧ At C.w ad [.slice A x.list.length c] ∧ c ≤ maxLen ∧ x.list.length ≤ c ∧
      ∀ j y, x.list[j]? = some y → ∃ b ds, A = some b ∧ b.spot = none ∧ RepC (C.F f2) C.w ke y ds ∧ At C.w (shift b (j * ke.size)) ds := by
  obtain ⟨hv, hg⟩ := v1_of_vrel h (by simp)
  simp only [CRel] at hv
  obtain ⟨vs, hcs, hl⟩ := hv
  have hv := cells_one hcs hg
  simp only [CRelL] at hl
  obtain ⟨v1, r, rfl, _, hb, rfl⟩ := hl
  simp only [CRel] at hb
  obtain ⟨ad, ds, hc, hsp, hF, hlt, hlen, hfit, hr, hat⟩ := hb
  simp only [List.cons.injEq, and_true] at hc
  subst hc
  obtain ⟨k, hk, hr⟩ := hr
  rw [hC, hct] at hk
  cases hk
  simp only [RepC] at hr
  obtain ⟨A, c, rfl, hxc, hcm, hel⟩ := hr
  refine ⟨ad, A, c, hv, hsp, hF, hlt, hat, hcm, hxc, fun j y hy => ?_⟩
  obtain ⟨b, ds, h1, h2, _, _, h3, h4⟩ := hel j y hy
  exact ⟨b, ds, h1, h2, h3, h4⟩
def codeEx : Ex → Code
  | .normal => .skip
  | .exit id => .exit id
  | .ret => .ret
theorem ren_tmps {kd : TypeId → Option K} {E : Ent} {U : Nat → Prop} {lks : Nat → Option AV} {hp : HpF} {σ : Nat → Hd} {a a' : Act} {w : World} (h : SRel kd E U lks hp σ a w) (hd : a'.defers = a.defers) (hs : ∀ t av, lks t = some av → a'.tmps[t]? = a.tmps[t]?) : SRel kd E U lks hp σ a' w :=
  ⟨fun t av ht => ⟨slot_tmps (hs t av ht) (h.slot t av ht).1, (h.slot t av ht).2⟩, h.obj, h.inj, h.trk, h.grew, by rw [hd]; exact h.defers⟩
theorem fill_key {sh : Shape} {L : List D} {t : Nat} {av : AV} (h : lk (fill sh L).1 t = some av) : ∃ v, (t, v) ∈ sh.sl := by
  have h1 := lk_mem h
  have h2 : (fill sh L).1 = (fillSl L sh.sl 0).1 := by simp only [fill]
  rw [h2] at h1
  have h3 : t ∈ (fillSl L sh.sl 0).1.map (·.1) := List.mem_map.2 ⟨_, h1, rfl⟩
  rw [fillSl_keys] at h3
  obtain ⟨p, hp, rfl⟩ := List.mem_map.1 h3
  exact ⟨p.2, hp⟩
theorem slotsFree_key {p0 p1 : Nat} {ws : List Nat} {sh : Shape} (h : slotsFree p0 p1 ws sh = true) {L : List D} {t : Nat} {av : AV} (ht : lk (fill sh L).1 t = some av) : t ≠ p0 ∧ t ≠ p1 ∧ t ∉ ws := by
  obtain ⟨v, hv⟩ := fill_key ht
  have := List.all_eq_true.1 h _ hv
  simp only [Bool.and_eq_true, Bool.not_eq_true'] at this
  refine ⟨fun e => ?_, fun e => ?_, fun hm => ?_⟩
  · have hb : Nat.beq t p0 = true := by rw [Nat.beq_eq]; exact e
    rw [hb] at this; cases this.1
  · have hb : Nat.beq t p1 = true := by rw [Nat.beq_eq]; exact e
    rw [hb] at this; cases this.2.1
  · rw [memN_iff.2 hm] at this; cases this.2.2
/-- A round. -/
theorem round_ok (hT : TblOK P T) (hE : ∀ g, ∀ e ∈ T.ents g, FnOK P T g e) {nt : Nat} {assign body : Code} {h : H} {u : Cut} {p0 p1 : Nat} {e : TypeId} {ke : K} {fr : Bool} (hsh : u.sh.small = true) (houts : ∀ p ∈ u.outs, p.2.small = true) (hk16 : ∀ i ∈ u.kept, i < 16)
    (hns : noSolo T.cuts h = true) (hc : CutsOK P T nt body h) (hke : T.kd e = some ke) (hok : rangeOk nt p0 p1 assign body u = true)
    {rec : List D → Option (Nat × List D)} {i x : D} {ds : List D} {out : Nat × List D} (hev : evRound T nt assign body h u p0 p1 e fr rec i x ds = some out)
    {E : Ent} {σ : Nat → Hd} {am : Act} {W : World} (hs : SRel T.kd E (· < 16) (lk (fill u.sh ds).1) (lk (fill u.sh ds).2) σ am W) (hnt : nt ≤ am.tmps.size)
    {L : Nat} {r : Loop} (hLr : W.heap[L]? = some (.loop r)) (hrs : r.state = .ready) (hrt : r.tmps = am.tmps) (hrp : r.params = #[p0, p1])
    (hL0 : E.w0.heap.size ≤ L) (hLm : ∀ ds0, am.defers = ds0 ++ E.d0 → ∀ d ∈ ds0, d.target ≠ .collected L) {ii : Int} (hi : i = .i ii) {xv : Value} (hxr : RepC (fF E (lk (fill u.sh ds).2) σ fr) W ke x xv.cells.toList) (hxa : aggV xv = ke.agg)
    {ad : Addr} (hadL : ad.block ≠ L) (hadl : ad.block < W.heap.size) (hadu : untr (lk (fill u.sh ds).2) σ ad.block) :
    RoundIn (FW none) 0 P L r.fn ((r.params.zip #[.int .i64 ii, xv]).foldl (fun t (p, v) => t.setIfInBounds p v) r.tmps) assign body W fun ee W' =>
      (ee = .returned (.bool true) ∧ ∃ ds' σ', rec ds' = some out ∧ SRel T.kd E (· < 16) (lk (fill u.sh ds').1) (lk (fill u.sh ds').2) σ' am W' ∧ (∀ i ∈ u.kept, σ' i = σ i) ∧ W'.heap[L]? = some (.loop { r with state := .ready, pending := none }) ∧ W'.heap[ad.block]? = W.heap[ad.block]?) ∨
      (ee = .returned (.bool false) ∧ ∃ ex rs σ', ex ≠ .normal ∧ outSel out.1 u.outs 0 = some (ex, rs) ∧ SRel T.kd E (· < 16) (lk (fill rs out.2).1) (lk (fill rs out.2).2) σ' am W' ∧ (∀ i ∈ u.kept, σ' i = σ i) ∧ W'.heap[L]? = some (.loop { r with state := .done, pending := some (codeEx ex) })) := by
  subst hi
  unfold rangeOk at hok
  simp only [Bool.and_eq_true, Bool.not_eq_true', List.all_eq_true] at hok
  obtain ⟨⟨⟨h01, hp0⟩, hp1⟩, hfree, hfreeo⟩ := hok
  have h01 : p0 ≠ p1 := fun e => by
    have hb : Nat.beq p0 p1 = true := by rw [Nat.beq_eq]; exact e
    rw [hb] at h01; cases h01
  have hp0 : p0 < nt := Nat.le_of_ble_eq_true hp0
  have hp1 : p1 < nt := Nat.le_of_ble_eq_true hp1
  have hLlt : L < W.heap.size := (Array.getElem?_eq_some_iff.1 hLr).1
  have hLu : ∀ {U : Nat → Prop} {lks : Nat → Option AV} {hp : HpF} {σ : Nat → Hd} {a : Act} {w : World} {rr : Loop}, SRel T.kd E U lks hp σ a w → w.heap[L]? = some (.loop rr) → untr hp σ L := fun h hh => h.untrOf hh (fun _ _ _ e => by cases e) (fun _ _ e => by cases e)
  refine roundIn_of_wpIn trivial ?_
  generalize htm : ((r.params.zip #[.int .i64 ii, xv]).foldl (fun t (p, v) => t.setIfInBounds p v) r.tmps) = tm
  have htm' : tm = (am.tmps.setIfInBounds p0 (.int .i64 ii)).setIfInBounds p1 xv := by rw [← htm, hrp, hrt]; simp
  have htsz : tm.size = am.tmps.size := by rw [htm']; simp
  have ht0 : tm[p0]? = some (.int .i64 ii) := by
    rw [htm', Array.getElem?_setIfInBounds_ne (Ne.symm h01), Array.getElem?_setIfInBounds_self_of_lt (by omega)]
  have ht1 : tm[p1]? = some xv := by
    rw [htm', Array.getElem?_setIfInBounds_self_of_lt (by simp; omega)]
  have hto : ∀ t, t ≠ p0 → t ≠ p1 → tm[t]? = am.tmps[t]? := fun t q0 q1 => by
    rw [htm', Array.getElem?_setIfInBounds_ne (Ne.symm q1), Array.getElem?_setIfInBounds_ne (Ne.symm q0)]
  unfold evRound at hev
  -- the round begins
  have hkeys : ∀ (t : Nat) (av : AV), lk (fill u.sh ds).1 t = some av → t ≠ p0 ∧ t ≠ p1 := fun t av ht => by
    obtain ⟨q0, q1, _⟩ := slotsFree_key hfree ht
    exact ⟨q0, q1⟩
  have hnd0 : nodupK ((p0, AV.d T.intT true (.i ii)) :: (p1, AV.d e fr x) :: (fill u.sh ds).1) = true := by
    have hk : ∀ (t : Nat) (y : AV), (t, y) ∈ (fill u.sh ds).1 → t ≠ p0 ∧ t ≠ p1 := fun t y hm => hkeys t y (nodup_lk (fill_nodup hsh ds) hm)
    rw [nodupK_iff]
    refine ⟨fun y hy => ?_, nodupK_iff.2 ⟨fun y hy => (hk p1 y hy).2 rfl, fill_nodup hsh ds⟩⟩
    rcases List.mem_cons.1 hy with hy | hy
    · cases hy; exact h01 rfl
    · exact (hk p0 y hy).1 rfl
  have hst0 : StOK T { sl := (p0, .d T.intT true (.i ii)) :: (p1, .d e fr x) :: (fill u.sh ds).1, hp := (fill u.sh ds).2, nx := 16 } := ⟨hnd0, fun t s b c v ht => by
    exfalso
    rcases List.mem_cons.1 (lk_mem ht) with hm | hm
    · cases hm
    · rcases List.mem_cons.1 hm with hm | hm
      · cases hm
      · exact fill_w hm _ _ _ _ rfl⟩
  obtain ⟨ex1, st1, hok1, hk1, hn1, hrun1⟩ := ev_sound hT hE assign .go _ _ out hst0 (by cases assign <;> trivial) hev
  have hs0 := hs.enter (lks' := lk ((p0, .d T.intT true (.i ii)) :: (p1, .d e fr x) :: (fill u.sh ds).1)) (a' := { tmps := tm, defers := [] }) (fun t av ht => by
    rw [lk_cons] at ht
    split at ht
    · rename_i e0
      cases ht
      subst e0
      exact ⟨⟨_, ht0, mk_int (x := .i ii) hT.intT⟩, trivial⟩
    · rw [lk_cons] at ht
      split at ht
      · rename_i e1
        cases ht
        subst e1
        exact ⟨⟨_, ht1, d_of_rep (C := ctx T.kd E (lk (fill u.sh ds).2) σ W) hke hxr hxa⟩, trivial⟩
      · obtain ⟨q0, q1⟩ := hkeys t av ht
        obtain ⟨h1, h2⟩ := hs.slot t av ht
        exact ⟨slot_tmps (hto t q0 q1) h1, h2⟩)
  refine hrun1 (some L) _ σ _ W _ (.inr rfl) hs0 (by show nt ≤ tm.size; omega) fun σ1 a1 W1 hs1 hsz1 hsame1 hσ1 => ?_
  have hsz1 : a1.tmps.size = tm.size := hsz1
  have hsame1 : ∀ t, t ∉ wr assign → a1.tmps[t]? = tm[t]? := hsame1
  have hn1 : 16 ≤ st1.nx := hn1
  cases ex1 with
  | exit id => cases hk1
  | ret => cases hk1
  | normal =>
  simp only at hk1
  have hL1 : W1.heap[L]? = some (.loop r) := by rw [(leave_aux hs hs1 hLlt (hLu hs hLr)).2]; exact hLr
  obtain ⟨hu1, hb1⟩ := leave_aux hs hs1 hadl hadu
  let am1 : Act := { tmps := a1.tmps, defers := am.defers }
  have hsE1 : SRel T.kd E (· < st1.nx) (lk st1.sl) (lk st1.hp) σ1 am1 W1 := hs.leave hs1 (fun t av ht => hs1.slot t av ht) rfl
  have hadlt1 : ad.block < W1.heap.size := Nat.lt_of_lt_of_le hadl hs1.grew.size
  refine ⟨_, run_beginRound hL1 hrs, ?_⟩
  have hmk : ∀ {hp : HpF} {σ : Nat → Hd} {w : World} {o' : Obj}, (∃ ds0, am.defers = ds0 ++ E.d0 ∧ Marks (untr hp σ) E.w0.heap.size w ds0) → ∃ ds0, am.defers = ds0 ++ E.d0 ∧ Marks (untr hp σ) E.w0.heap.size (w.putObj L o') ds0 := fun ⟨ds0, h1, h2⟩ => ⟨ds0, h1, h2.put (hLm ds0 h1)⟩
  generalize hW2 : W1.putObj L (.loop { r with state := .busy }) = W2
  have hL2 : W2.heap[L]? = some (.loop { r with state := .busy }) := by rw [← hW2]; exact World.putObj_heap_same (Array.getElem?_eq_some_iff.1 hL1).1
  have hsE2 : SRel T.kd E (· < st1.nx) (lk st1.sl) (lk st1.hp) σ1 am1 W2 := by
    rw [← hW2]
    exact (hsE1.turnAux hL0 (hLu hsE1 hL1) hL1 (fun _ _ _ e => by cases e) (fun _ _ _ e => by cases e) (a' := am1) rfl (hmk hsE1.defers)).1
  have hb2 : ad.block ≠ L → W2.heap[ad.block]? = W1.heap[ad.block]? := fun hne => by rw [← hW2]; exact World.putObj_heap_other hne
  have hlt2 : W2.heap.size = W1.heap.size := by rw [← hW2]; simp
  have hs2 := hsE2.enter (lks' := lk st1.sl) (a' := a1) (fun t av ht => hsE2.slot t av ht)
  obtain ⟨ex2, st2, hok2, hk2, hn2, hrun2⟩ := ev_sound hT hE body h st1 _ out hok1 hc hk1
  refine hrun2 (some L) _ σ1 a1 W2 _ (.inr hns) hs2 (by omega) fun σ2 a2 W3 hs3 hsz2 hsame2 hσ2 => ?_
  obtain ⟨hu2, _⟩ := leave_aux hsE2 hs3 (show L < W2.heap.size from (Array.getElem?_eq_some_iff.1 hL2).1) (hLu hsE2 hL2)
  have hL3 : W3.heap[L]? = some (.loop { r with state := .busy }) := by rw [(leave_aux hsE2 hs3 (Array.getElem?_eq_some_iff.1 hL2).1 (hLu hsE2 hL2)).2]; exact hL2
  have hb3 : ad.block ≠ L → W3.heap[ad.block]? = W.heap[ad.block]? := fun hne => by
    rw [(leave_aux hsE2 hs3 (by omega) hu1).2, hb2 hne, hb1]
  let am2 : Act := { tmps := a2.tmps, defers := am.defers }
  have hsE3 : SRel T.kd E (· < st2.nx) (lk st2.sl) (lk st2.hp) σ2 am2 W3 := hsE2.leave hs3 (fun t av ht => hs3.slot t av ht) rfl
  have hamt : ∀ {sh : Shape} {L0 : List D}, slotsFree p0 p1 (wr assign ++ wr body) sh = true → ∀ t av, lk (fill sh L0).1 t = some av → am.tmps[t]? = a2.tmps[t]? := fun hfr t av ht => by
    obtain ⟨q0, q1, q2⟩ := slotsFree_key hfr ht
    rw [hsame2 t (fun hm => q2 (List.mem_append_right _ hm)), hsame1 t (fun hm => q2 (List.mem_append_left _ hm)), hto t q0 q1]
  have hkept : ∀ i ∈ u.kept, σ2 i = σ i := fun i hi => by
    have := hk16 i hi
    rw [hσ2 i (by omega), hσ1 i this]
  have hout : ∀ ex, ex ≠ .normal → outOf T u.kept u.outs 0 ex st2 = some out → ∀ o', o' = Obj.loop { r with state := .done, pending := some (codeEx ex) } → ∃ rs σ', outSel out.1 u.outs 0 = some (ex, rs) ∧ SRel T.kd E (· < 16) (lk (fill rs out.2).1) (lk (fill rs out.2).2) σ' am (W3.putObj L o') ∧ (∀ i ∈ u.kept, σ' i = σ i) := fun ex _ ho o' ho' => by
    obtain ⟨j, rs, f, h1, h2, h3, h4⟩ := outOf_spec u.outs 0 ho
    obtain ⟨σ3, h5, h6⟩ := fit_same hT hsE3 (a' := am2) (fun s av hs' => (hsE3.slot s av hs').1) h3 (houts _ (List.mem_of_getElem? h1)) hsE3.defers
    have h7 := ren_tmps h6 (a' := am) rfl (hamt (hfreeo _ (List.mem_of_getElem? h1)))
    refine ⟨rs, σ3, outSel_at h1 (by omega), ?_, fun i hi => (h5 i hi).trans (hkept i hi)⟩
    rw [h4, ho']
    exact (h7.turnAux hL0 (hLu h7 hL3) hL3 (fun _ _ _ e => by cases e) (fun _ _ _ e => by cases e) (a' := am) rfl (hmk h7.defers)).1
  have hsame : ∀ o', (W3.putObj L o').heap[L]? = some o' := fun o' => World.putObj_heap_same (Array.getElem?_eq_some_iff.1 hL3).1
  cases ex2 with
  | ret =>
    obtain ⟨rs, σ', g1, g2, g3⟩ := hout .ret (by simp) hk2 _ rfl
    have e1 := run_endRound (P := P) (some .ret) hL3
    simp only [Option.isNone_some, Bool.false_eq_true, if_false] at e1
    exact ⟨_, _, e1, .inr ⟨rfl, .ret, rs, σ', by simp, g1, g2, g3, hsame _⟩⟩
  | exit id =>
    obtain ⟨rs, σ', g1, g2, g3⟩ := hout (.exit id) (by simp) hk2 _ rfl
    have e1 := run_endRound (P := P) (some (.exit id)) hL3
    simp only [Option.isNone_some, Bool.false_eq_true, if_false] at e1
    exact ⟨_, _, e1, .inr ⟨rfl, .exit id, rs, σ', by simp, g1, g2, g3, hsame _⟩⟩
  | normal =>
    simp only at hk2
    split at hk2
    · rename_i f hfit
      obtain ⟨σ3, h5, h6⟩ := fit_same hT hsE3 (a' := am2) (fun s av hs' => (hsE3.slot s av hs').1) hfit hsh hsE3.defers
      have h7 := ren_tmps h6 (a' := am) rfl (hamt hfree)
      have h8 := (h7.turnAux hL0 (hLu h7 hL3) hL3 (o' := .loop { r with state := .ready, pending := none }) (fun _ _ _ e => by cases e) (fun _ _ _ e => by cases e) (a' := am) rfl (hmk h7.defers)).1
      exact ⟨_, _, run_endRound none hL3, .inl ⟨rfl, f.ds, σ3, hk2, h8, fun i hi => (h5 i hi).trans (hkept i hi), hsame _, (World.putObj_heap_other hadL).trans (hb3 hadL)⟩⟩
    · cases hk2
theorem range_ok (hT : TblOK P T) (hE : ∀ g, ∀ e ∈ T.ents g, FnOK P T g e) {nt : Nat} {gs gB p0 p1 : Nat} {assign body : Code} {h : H} {u : Cut} {ct e : TypeId} {ke : K} {f1 f2 : Bool} {pos : Nat} (hsh : u.sh.small = true) (houts : ∀ p ∈ u.outs, p.2.small = true) (hk16 : ∀ i ∈ u.kept, i < 16)
    (hso : u.solo = true) (hns : noSolo T.cuts h = true) (hc : CutsOK P T nt body h) (hct : T.kd ct = some (.slice e ke)) (hok : rangeOk nt p0 p1 assign body u = true) (hiter : IterOK P gB ke) (hcall : ∀ args w, (callFunc gB args).run P w = .ok (.enter gB args) w)
    (hg : ∀ ds, lk (fill u.sh ds).1 gs = some (.fn gB [.bx ct f1 (.d ct f2 (D.nth ds pos))]))
    {F : (List D → Option (Nat × List D)) → D → D → List D → Option (Nat × List D)} {fin : List D → Option (Nat × List D)} (hF : ∀ rec i x ds out, F rec i x ds = some out → evRound T nt assign body h u p0 p1 e f2 rec i x ds = some out) (hfin : ∀ ds out, fin ds = some out → evRest T u ds = some out)
    (hf : ∀ ds out, u.f ds = some out → rangeN pos F fin (D.nth ds pos).list.length ds = some out) : CutOK P T nt (.rangeFunc (.tmp gs) #[p0, p1] assign body) u := by
  refine ⟨hsh, houts, fun ds out hout ro E σ a w hro hs hnt Q hQ => ?_⟩
  have hro := hro hso
  subst hro
  have hout := hf ds out hout
  have hes := slice_elem (hT.ty _ _ hct)
  obtain ⟨⟨vg, hvg, hvr⟩, _⟩ := hs.slot gs _ (hg ds)
  obtain ⟨ad, A, c, hvv, hsp, hadF, hadlt, hat, hcm, hnc, _⟩ := back_val (C := ctx T.kd E (lk (fill u.sh ds).2) σ w) hT rfl hct hvr
  subst hvv
  generalize hn : (D.nth ds pos).list.length = n at hout hat hnc
  have hev : a.eval (.tmp gs) = .func (.func gB) #[] #[.pointer (some ad)] := by
    show a.tmps.getD gs undef = _
    simp [Array.getD_eq_getD_getElem?, hvg]
  refine wpIn_rangeFunc fun fn0 hfn0 => ?_
  obtain ⟨rec, hrec⟩ : ∃ rec : LoopState → Option Code → Loop, rec = fun st pe => { state := st, pending := pe, fn := fn0, tmps := a.tmps, params := #[p0, p1], assign, body, defers := w.heap.size } := ⟨_, rfl⟩
  obtain ⟨W1, hW1⟩ : ∃ W1, (w.alloc (.deferred (some []))).alloc (.loop (rec .ready none)) = W1 := ⟨_, rfl⟩
  have hL1 : W1.heap[w.heap.size + 1]? = some (.loop (rec .ready none)) := by
    rw [← hW1]; have := World.alloc_heap_new (w.alloc (.deferred (some []))) (.loop (rec .ready none)); rwa [World.size_alloc] at this
  have hD1 : W1.heap[w.heap.size]? = some (.deferred (some [])) := by
    rw [← hW1]; exact (RowKit.Below.heap_alloc _ _ _ (by simp)).trans (World.alloc_heap_new w _)
  have hg1 : Grew w W1 fun _ => False := by
    rw [← hW1]
    have hb := ((RowKit.Below.refl w.heap.size w).alloc (Nat.le_refl _) (.deferred (some []))).alloc (by simp) (.loop (rec .ready none))
    exact ⟨hb.os, hb.tape, hb.output, hb.size, fun b hlt _ => hb.block b hlt⟩
  let L := w.heap.size + 1
  let mark : List Deferred := [{ target := .collected w.heap.size, args := #[] }]
  let am : Act := { a with defers := mark ++ a.defers }
  -- the state behind the two blocks
  have hsW : SRel T.kd E (· < 16) (lk (fill u.sh ds).1) (lk (fill u.sh ds).2) σ am W1 := by
    obtain ⟨h1, _⟩ := hs.grow hg1
    refine ⟨h1.slot, h1.obj, h1.inj, h1.trk, h1.grew, ?_⟩
    obtain ⟨ds0, hd1, hd2⟩ := h1.defers
    obtain ⟨ds1, hd3, hd4⟩ := hs.defers
    have e01 : ds1 = ds0 := List.append_cancel_right (hd3.symm.trans hd1)
    subst e01
    refine ⟨mark ++ ds1, by show mark ++ a.defers = _; rw [hd1, List.append_assoc], ⟨w.heap.size, rfl, hs.grew.size, (Array.getElem?_eq_some_iff.1 hD1).1, hD1, fun i o hi hb => ?_, fun d' hd' e0 => ?_⟩, hd2⟩
    · have := (hs.trk i o _ hi hb).1
      omega
    · have := (hd4.lt d' hd' _ e0).2
      omega
  have hLm : ∀ ds0, am.defers = ds0 ++ E.d0 → ∀ d ∈ ds0, d.target ≠ .collected L := fun ds0 hd d hdm e0 => by
    obtain ⟨ds1, hd3, hd4⟩ := hs.defers
    have hd : mark ++ a.defers = ds0 ++ E.d0 := hd
    rw [hd3, ← List.append_assoc] at hd
    have := List.append_cancel_right hd
    rw [← this] at hdm
    rcases List.mem_append.1 hdm with hm | hm
    · simp only [mark, List.mem_singleton] at hm
      subst hm
      simp [L] at e0
    · have := (hd4.lt d hm _ e0).2
      simp only [L] at this
      omega
  have hL0 : E.w0.heap.size ≤ L := Nat.le_trans hs.grew.size (Nat.le_succ _)
  have hadL : ad.block ≠ L := fun e0 => by have : ad.block < w.heap.size := hadlt; omega
  let J : Nat → World → Prop := fun k W => ∃ ds' σ', rangeN pos F fin k ds' = some out ∧ SRel T.kd E (· < 16) (lk (fill u.sh ds').1) (lk (fill u.sh ds').2) σ' am W ∧ (∀ i ∈ u.kept, σ' i = σ i) ∧ W.heap[L]? = some (.loop (rec .ready none)) ∧ W.heap[ad.block]? = W1.heap[ad.block]?
  let Jx : World → Prop := fun W => ∃ ex rs σ', ex ≠ .normal ∧ outSel out.1 u.outs 0 = some (ex, rs) ∧ SRel T.kd E (· < 16) (lk (fill rs out.2).1) (lk (fill rs out.2).2) σ' am W ∧ (∀ i ∈ u.kept, σ' i = σ i) ∧ W.heap[L]? = some (.loop (rec .done (some (codeEx ex))))
  have hatW : ∀ W : World, W.heap[ad.block]? = W1.heap[ad.block]? → At W ad [.slice A n c] := fun W hW => At.mono (w := w) (w' := W) hat (hW.trans (hg1.block _ hadlt fun h => h))
  have hcallsB : CallsIn (FW none) 0 P gB #[.func (.yield L) #[] #[], .pointer (some ad)] W1 fun ee W' => (∃ u, ee = .returned u) ∧ (J 0 W' ∨ Jx W') := by
    refine hiter L (.pointer (some ad)) n J Jx W1 (by omega) (fun k W ⟨ds', σ', h1, h2, h3, h4, h5⟩ => ⟨ad, A, c, rfl, hsp, hatW W h5⟩) (fun k W hk ⟨ds', σ', h1, h2, h3, h4, h5⟩ ad' A' c' he hat' => ?_) ⟨ds, σ, hout, hsW, fun _ _ => rfl, hL1, rfl⟩
    cases he
    have hA := at_uniq hat' (hatW W h5)
    cases hA
    obtain ⟨⟨vg', hvg', hvr'⟩, _⟩ := h2.slot gs _ (hg ds')
    have : vg' = .func (.func gB) #[] #[.pointer (some ad)] := by
      have e1 : am.tmps[gs]? = some vg' := hvg'
      have e2 : am.tmps[gs]? = a.tmps[gs]? := rfl
      rw [e2, hvg] at e1
      cases e1
      rfl
    subst this
    obtain ⟨ad2, A2, c2, hv2, hsp2, hadF2, hadlt2, hat2, hcm2, hnc2, hel2⟩ := back_val (C := ctx T.kd E (lk (fill u.sh ds').2) σ' W) hT rfl hct hvr'
    cases hv2
    have hA2 := at_uniq hat2 (hatW W h5)
    simp only [Value.slice.injEq] at hA2
    obtain ⟨rfl, hlen2, rfl⟩ := hA2
    have hk2 : k < (D.nth ds' pos).list.length := by omega
    obtain ⟨b, cs, hb1, hb2, hb3, hb4⟩ := hel2 k _ (get_nth hk2)
    refine ⟨b, cs, hb1, hb2, rep_len hb3, fun hag => ?_, hb4, rec .ready none, h4, by rw [hrec]; rfl, fun xv hx1 hx2 => ?_⟩
    · have hl := rep_len hb3
      have h1 := rep_one hb3
      have hsz : ke.size = 1 := by cases ke <;> simp_all [K.agg, K.size]
      rw [hsz] at hl
      obtain ⟨u0, rfl⟩ := List.length_eq_one_iff.1 hl
      have h1 := h1 u0 (by simp)
      refine ⟨u0, rfl, ?_⟩
      cases u0 <;> simp_all [Value.oneCell', aggV]
    · have hr := round_ok hT hE hsh houts hk16 hns hc hes.2 hok (rec := rangeN pos F fin k) (i := .i (k : Int)) (x := D.nth (D.nth ds' pos).list k) (ds := ds') (out := out) (hF _ _ _ _ _ h1) h2 hnt h4 (by rw [hrec]) (by rw [hrec]) (by rw [hrec]) hL0 hLm rfl (xv := xv) (by rw [hx1]; exact hb3) hx2 (ad := ad) hadL hadlt2 hadF2.1
      have e1 : (rec .ready none).assign = assign := by rw [hrec]
      have e2 : (rec .ready none).body = body := by rw [hrec]
      rw [e1, e2]
      refine hr.mono fun ee W' hh => ?_
      rcases hh with ⟨g0, ds2, σ2, g1, g2, g3, g4, g5⟩ | ⟨g0, ex, rs, σ2, g1, g2, g3, g4, g5⟩
      · refine .inl ⟨g0, ds2, σ2, g1, g2, fun i hi => (g3 i hi).trans (h3 i hi), ?_, g5.trans h5⟩
        rw [g4, hrec]
      · refine .inr ⟨g0, ex, rs, σ2, g1, g2, g3, fun i hi => (g4 i hi).trans (h3 i hi), ?_⟩
        rw [g5, hrec]
  have hfinal : ∀ (W' : World) (ex : Ex) (rs : Shape) (σ' : Nat → Hd) (rr : Loop), outSel out.1 u.outs 0 = some (ex, rs) → SRel T.kd E (· < 16) (lk (fill rs out.2).1) (lk (fill rs out.2).2) σ' am W' → (∀ i ∈ u.kept, σ' i = σ i) → W'.heap[L]? = some (.loop rr) →
      Q (exitOf ex) am (W'.putObj L (.loop { rr with state := .exhausted })) := fun W' ex rs σ' rr h1 h2 h3 h4 => by
    have hun : untr (lk (fill rs out.2).2) σ' L := h2.untrOf h4 (fun _ _ _ e => by cases e) (fun _ _ e => by cases e)
    obtain ⟨ds0, hd1, hd2⟩ := h2.defers
    have h5 := (h2.turnAux hL0 hun h4 (o' := .loop { rr with state := .exhausted }) (fun _ _ _ e => by cases e) (fun _ _ _ e => by cases e) (a' := am) rfl ⟨ds0, hd1, hd2.put (hLm ds0 hd1)⟩).1
    exact hQ ex rs σ' am _ h1 h5 rfl (fun _ _ => rfl) h3
  refine ⟨L, mark, W1, { target := .fn (.func gB) #[.pointer (some ad)], args := #[.func (.yield L) #[] #[]] }, W1, gB, #[.func (.yield L) #[] #[]] ++ #[.pointer (some ad)], W1, ?_, ?_, fun _ _ => trivial, ?_, fun h => (by cases h), ?_⟩
  · rw [← hW1, hrec]; exact run_enterLoop_outer _ _ _ _ _
  · unfold Go.resolve
    simp only [hev]
    simp [Deferred.ofValue, Act.eval, L]
  · exact hcall _ _
  · refine hcallsB.mono fun ee W' ⟨⟨v0, he⟩, hJ⟩ => ?_
    subst he
    have hpd : ∀ st pe, (rec st pe).pending = pe := fun _ _ => by rw [hrec]
    rcases hJ with ⟨ds', σ', h1, h2, h3, h4, h5⟩ | ⟨ex, rs, σ', h0, h1, h2, h3, h4⟩
    · have hr := hfin ds' out h1
      unfold evRest at hr
      obtain ⟨j, rs, f, g1, g2, g3, g4⟩ := outOf_spec (st := { sl := (fill u.sh ds').1, hp := (fill u.sh ds').2, nx := 16 }) u.outs 0 hr
      obtain ⟨σ3, g5, g6⟩ := fit_same hT h2 (a' := am) (fun s av hs' => (h2.slot s av hs').1) g3 (houts _ (List.mem_of_getElem? g1)) h2.defers
      refine ⟨none, W'.putObj L (.loop { rec .ready none with state := .exhausted }), (run_endLoop h4 (by rw [hrec]; simp)).trans (congrArg (fun p => Result.ok p _) (hpd _ _)), ?_⟩
      exact hfinal W' .normal rs σ3 _ (outSel_at g1 (by omega)) (by rw [g4]; exact g6) (fun i hi => (g5 i hi).trans (h3 i hi)) h4
    · have hq := hfinal W' ex rs σ' _ h1 h2 h3 h4
      refine ⟨some (codeEx ex), W'.putObj L (.loop { rec .done (some (codeEx ex)) with state := .exhausted }), (run_endLoop h4 (by rw [hrec]; simp)).trans (congrArg (fun p => Result.ok p _) (hpd _ _)), ?_⟩
      cases ex with
      | normal => exact absurd rfl h0
      | exit id => exact wpIn_exit hq
      | ret => exact wpIn_ret hq
theorem enter_run {g : FuncId} {fn : Func} {c : Code} (hfn : P.funcs[g]? = some fn) (hname : fn.name ≠ "runtime.NumGoroutine") (hbody : fn.body = some c) (args : Array Value) (w : World) : (callFunc g args).run P w = .ok (.enter g args) w := by
  unfold callFunc
  simp only [Sem.run_bind, run_program, Result.andThen_ok, hfn, hbody]
  have : (fn.name == "runtime.NumGoroutine") = false := by simpa using hname
  simp [this]
theorem range_thm (hT : TblOK P T) (hE : ∀ g, ∀ e ∈ T.ents g, FnOK P T g e) {nt : Nat} {c : Code} {gs gB p0 p1 : Nat} {assign body : Code} {h : H} {u : Cut} {ct e : TypeId} {ke : K} {f1 f2 : Bool} {pos : Nat} {fn : Func} {cb : Code} (hc0 : c = .rangeFunc (.tmp gs) #[p0, p1] assign body) (hsh : u.sh.small = true) (houts : u.outs.all (fun p => p.2.small) = true)
    (hk : u.kept.all (fun i => Nat.blt i 16) = true) (hso : u.solo = true) (hns : noSolo T.cuts h = true) (hc : CutsOK P T nt body h) (hct : T.kd ct = some (.slice e ke)) (hok : rangeOk nt p0 p1 assign body u = true) (hiter : IterOK P gB ke)
    (hfn : P.funcs[gB]? = some fn) (hname : fn.name ≠ "runtime.NumGoroutine") (hbody : fn.body = some cb)
    (hg : ∀ ds, lk (fill u.sh ds).1 gs = some (.fn gB [.bx ct f1 (.d ct f2 (D.nth ds pos))])) {F : (List D → Option (Nat × List D)) → D → D → List D → Option (Nat × List D)} {fin : List D → Option (Nat × List D)}
    (hF : ∀ rec i x ds, evRound T nt assign body h u p0 p1 e f2 rec i x ds = F rec i x ds) (hfin : ∀ ds, evRest T u ds = fin ds) (hf : ∀ ds, u.f ds = rangeN pos F fin (D.nth ds pos).list.length ds) : CutOK P T nt c u := by
  subst hc0
  exact range_ok hT hE hsh (fun p hp => by simpa using List.all_eq_true.1 houts p hp) (fun i hi => by have := List.all_eq_true.1 hk i hi; simpa [Nat.blt, Nat.lt_iff_add_one_le] using this) hso hns hc hct hok hiter (enter_run hfn hname hbody) hg
    (fun rec i x ds out ho => by rw [hF]; exact ho) (fun ds out ho => by rw [hfin]; exact ho) (fun ds out ho => by rw [← hf]; exact ho)
/-! ### slices.Backward itself -/
def backEnt (ct gB : Nat) : Entry := { n := 1, sh := { sl := [(0, .d ct false)], ob := [] }, kept := [], rs := [{ sl := [(0, .fn gB [.bx ct true (.d ct false)])], ob := [] }], f := fun ds => some [D.nth ds 0], tot := some fun ds => [D.nth ds 0] }
theorem sem_step (hT : TblOK P T) {ro : Option Nat} {ops : Array Oper} {rest : List Oper} {o : Oper} {lks : Nat → Option AV} {hp : HpF} {nid : Nat} {av : AV} (hg : o.guard = none) (hE : ∀ g, ∀ e ∈ T.ents g, FnOK P T g e) (hW : WFl T lks) (hev : evOp T none o lks hp nid (fun a u s => some (a, u, s)) = some (av, [], []))
    {E : Ent} {U : Nat → Prop} {lkf : Nat → Option AV} {hpf : HpF} {σ : Nat → Hd} {a : Act} {w : World} {Q : Exit → Act → World → Prop} (hs : SRel T.kd E U lkf hpf σ a w) (ho : Opn (ctx T.kd E hpf σ w) a U lks (tmpsOf o.op)) (hfr : ∀ c, c < 16 → ¬ U (nid + c))
    (hK : ∀ v w' σ' U', SRel T.kd E U' lkf hpf σ' a w' → VRel (ctx T.kd E hpf σ' w') av v → av.In U' → wpListIn (FW ro) 0 P ops Q rest (a.put o.dst v) w') : wpListIn (FW ro) 0 P ops Q (o :: rest) a w := by
  obtain ⟨av', u, seen, hk, hsound⟩ := evOp_sound hT hE (fun _ => hW) hev
  simp only [Option.some.injEq, Prod.mk.injEq] at hk
  obtain ⟨rfl, rfl, rfl⟩ := hk
  refine wpListIn_plain hg fun K hKK => opIn ro (evOp_nd hev) ?_
  exact hsound (.inl rfl) E U lkf hpf σ a w K Q hs ho (fun i hi => by simp at hi) hfr fun v w' σ' U' h1 h2 h3 _ _ _ => hKK _ _ (hK v w' σ' U' h1 h2 h3)
theorem backfn_ok (hT : TblOK P T) {g gB : FuncId} {fn : Func} (hfn : P.funcs[g]? = some fn) (hname : fn.name ≠ "runtime.NumGoroutine") {ct e : TypeId} {ke : K} (hct : T.kd ct = some (.slice e ke)) (hnt : fn.ntmps = 4) (hres : fn.results = #[.tmp 2])
    {i0 i1 : Nat} {y0 y1 y2 y3 : TypeId} {p0 p1 p2 p3 : String} {a0 a1 a2 a3 : Array Edge}
    (hbody : fn.body = some (.seq (.region i0 #[⟨some 1, .box ct (.tmp 0), y0, p0, a0, none⟩, ⟨some 2, .assign (.const .nilFunc), y1, p1, a1, none⟩] false) (.seq (.region i1 #[⟨some 3, .makeFunc (.func gB) #[] #[.tmp 1], y2, p2, a2, none⟩, ⟨some 2, .assign (.tmp 3), y3, p3, a3, none⟩] false) .ret))) (hy0 : T.kd y0 = none) : FnOK P T g (backEnt ct gB) := by
  refine ⟨rfl, fun s hs => ?_, fun p hp ds => (by cases hp; rfl), fun ds out hout E σ vals w hn hw hs => ?_⟩
  · simp only [backEnt, List.mem_singleton] at hs
    subst hs
    rfl
  let T1 : Tbl := { T with frz := fun _ => true, ents := fun _ => [], cuts := fun _ => none }
  have hT1 : TblOK P T1 := ⟨hT.ty, hT.boolT, hT.intT, hT.mixed, hT.arr⟩
  have hE1 : ∀ g, ∀ e ∈ T1.ents g, FnOK P T1 g e := fun g e he => by simp [T1] at he
  cases hout
  unfold Runs
  rw [enter_run hfn hname hbody]
  refine callsW' (ro := none) (n := 0) (callsIn_of_wp hfn hbody trivial ?_ rfl)
  have hn : vals.size = 1 := hn
  rw [hnt, hn]
  generalize hx : D.nth ds 0 = x at hs
  have hs : SRel T.kd E (· < 16) (lk [(0, .d ct false x)]) (lk []) σ { tmps := vals, defers := [] } w := by rw [← hx]; exact hs
  let b0 : Act := { tmps := vals ++ Array.replicate (4 - 1) undef, defers := [] }
  show (Code.seq _ _).wpIn (FW none) 0 P _ b0 w
  have hb0s : b0.tmps.size = 4 := by simp [b0, hn]
  have hs0 : SRel T1.kd E (· < 16) (lk [(0, .d ct false x)]) (lk []) σ b0 w := ⟨fun t av ht => let ⟨h1, h2⟩ := hs.slot t av ht; ⟨slot_ext (by
    rw [lk_cons] at ht
    split at ht
    · cases ht; simp
    · simp [lk] at ht) h1 _, h2⟩, hs.obj, hs.inj, hs.trk, hs.grew, hs.defers⟩
  have hwf : ∀ (l : Slots), (∀ t av, (t, av) ∈ l → ∀ s b c v, av ≠ .w s b c v) → WFl T1 (lk l) := fun l h t s b c v ht => absurd rfl (h t _ (lk_mem ht) s b c v)
  refine wpIn_seq (wpIn_region_list ?_)
  refine sem_step hT1 (lks := lk [(0, .d ct false x)]) (hp := lk []) (nid := 16) (av := .bx ct true (.d ct false x)) rfl hE1 (hwf _ (by simp)) ?_ hs0 (fun t ht av hav => hs0.slot t av hav) (fun c _ h => by omega) ?_
  · simp [evOp, opd, lk, fitsB, T1, hct, AV.ty, hy0]
  intro v1 w1 σ1 U1 hs1 hv1 hin1
  have hpt : ∃ ad, v1 = .pointer (some ad) := by
    obtain ⟨h1, h2⟩ := v1_of_vrel hv1 (by simp)
    simp only [CRel] at h1
    obtain ⟨ad, ds', hc, _⟩ := h1
    exact ⟨ad, cells_one hc h2⟩
  have hc1 : CRel (ctx T1.kd E (lk []) σ1 w1) (.bx ct true (.d ct false x)) [v1] := by
    obtain ⟨ad, rfl⟩ := hpt
    exact (v1_of_vrel hv1 (by simp)).1
  generalize hb1 : b0.put (some 1) v1 = b1
  have hb1s : b1.tmps.size = 4 := by rw [← hb1, put_size]; exact hb0s
  have hb11 : b1.eval (.tmp 1) = v1 := by rw [← hb1]; exact put_get (by omega)
  have hb1d : b1.defers = [] := by rw [← hb1, put_defers']
  show wpListIn (FW none) 0 P _ _ _ b1 w1
  refine list_step (fun _ h => by cases h) (by omega) (assign_run (v := .nilFunc) rfl) fun b2 s2 d2 v2 o2 => wpListIn_nil ?_
  show (Code.seq _ _).wpIn (FW none) 0 P _ b2 w1
  refine wpIn_seq (wpIn_region_list ?_)
  refine list_step (v := .func (.func gB) #[] #[v1]) (fun _ h => by cases h) (by omega) ?_ fun b3 s3 d3 v3 o3 => ?_
  · have e1 : b2.eval (.tmp 1) = v1 := (o2 1 (by omega)).trans hb11
    simp only [execOp, List.map_toArray, List.map_cons, List.map_nil, e1]
    rfl
  refine list_step (fun _ h => by cases h) (by omega) (assign_run v3) fun b4 s4 d4 v4 o4 => wpListIn_nil (wpIn_ret ?_)
  refine ⟨by rw [d4, d3, d2]; exact hb1d, .func (.func gB) #[] #[v1], ?_, _, rfl, σ1, fun i hi => by simp [backEnt] at hi, ?_⟩
  · have h2 : b4.tmps.getD 2 undef = .func (.func gB) #[] #[v1] := v4
    refine run_results (vs := [.func (.func gB) #[] #[v1]]) ?_
    rw [hres]
    simp only [List.mapM_cons, List.mapM_nil, resRun, h2, pure_bind]
    rfl
  · refine ⟨fun t av ht => ?_, fun i o ho => by simp [backEnt, fill, fillSl, fillOb, lk] at ho, fun i j oi oj b hi => by simp [backEnt, fill, fillSl, fillOb, lk] at hi, fun i o b ho => by simp [backEnt, fill, fillSl, fillOb, lk] at ho, hs1.grew, ⟨[], by simp [hs.d0], trivial⟩⟩
    have hf : (fill { sl := [(0, SV.fn gB [.bx ct true (.d ct false)])], ob := [] } (datS (backEnt ct gB).rs [x])).1 = [(0, .fn gB [.bx ct true (.d ct false x)])] := rfl
    have ht : lk (fill { sl := [(0, SV.fn gB [.bx ct true (.d ct false)])], ob := [] } (datS (backEnt ct gB).rs [x])).1 t = some av := ht
    rw [hf, lk_cons] at ht
    split at ht
    · rename_i e0
      cases ht
      subst e0
      refine ⟨⟨_, rfl, ?_⟩, ⟨trivial, trivial⟩⟩
      have cle : CLe (ctx T.kd E (lk []) σ1 w1) (ctx T.kd E (lk (fill { sl := [(0, SV.fn gB [.bx ct true (.d ct false)])], ob := [] } (datS (backEnt ct gB).rs [x])).2) σ1 w1) (fun _ => True) := ⟨rfl, fun fr b hF _ => ⟨hF, fun _ => rfl⟩, Nat.le_refl _, fun _ _ => rfl⟩
      refine ⟨⟨[v1], rfl, v1, [], rfl, rfl, crel_mono cle _ _ trivial hc1, rfl⟩, rfl⟩
    · simp [lk] at ht
end
end Go.Ev
