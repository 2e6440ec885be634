/- The evaluator: calls. -/
import Derived.Test.YtpmkecjkbajcgaaGreatDoorEvBack
namespace Go.Ev
open Go
set_option linter.unusedVariables false
set_option linter.unusedSimpArgs false
section
variable {P : Program} {T : Tbl} {R : Type}
/-- A call of a function by its number, whether it has a body or is one of the machine's own. -/
def Runs (P : Program) (g : FuncId) (vals : Array Value) (w : World) (Q : Value → World → Prop) : Prop :=
  match (callFunc g vals).run P w with
  | .ok (.value v) w' => Q v w'
  | .ok (.enter f args) w' => Calls P f args w' fun
      | .returned v, w'' => Q v w''
      | _, _ => False
  | _ => False
theorem Runs.mono {g : FuncId} {vals : Array Value} {w : World} {Q Q' : Value → World → Prop} (h : Runs P g vals w Q) (hq : ∀ v w', Q v w' → Q' v w') : Runs P g vals w Q' := by
  unfold Runs at *
  split at h
  · exact hq _ _ h
  · exact h.mono fun e w' he => by cases e <;> first | exact hq _ _ he | exact he
  · exact h.elim
/-- What is said of a function. -/
structure FnOK (P : Program) (T : Tbl) (g : FuncId) (e : Entry) : Prop where
  sh : e.sh.small = true
  rs : ∀ s ∈ e.rs, s.small = true
  tot : ∀ p, e.tot = some p → ∀ ds, e.f ds = some (p ds)
  run : ∀ ds out, e.f ds = some out → ∀ (E : Ent) (σ : Nat → Hd) (vals : Array Value) (w : World), vals.size = e.n → E.w0 = w → SRel T.kd E (· < 16) (lk (fill e.sh ds).1) (lk (fill e.sh ds).2) σ { tmps := vals, defers := [] } w →
    Runs P g vals w fun v w' => ∃ s, selS out e.rs 0 = some s ∧ ∃ σ' : Nat → Hd, (∀ i ∈ e.kept, σ' i = σ i) ∧ SRel T.kd E (· < 16) (lk (fill s (datS e.rs out)).1) (lk (fill s (datS e.rs out)).2) σ' { tmps := #[v], defers := [] } w'
theorem selS_mem {out : List D} {s : Shape} : ∀ {l : List Shape} {j : Nat}, selS out l j = some s → s ∈ l
  | [], _, h => by simp [selS] at h
  | [a], _, h => by simp only [selS, Option.some.injEq] at h; simp [h]
  | a :: b :: r, j, h => by
    simp only [selS] at h
    cases hb : ((D.nth out 0).int == (j : Int)) with
    | true => rw [hb] at h; simp only [cond_true, Option.some.injEq] at h; simp [h]
    | false => rw [hb] at h; exact List.mem_cons_of_mem _ (selS_mem h)
theorem evRes_sel {out : List D} {use : Shape → Option R} {r : R} : ∀ {l : List Shape} {j : Nat}, evRes out use l j = some r → ∃ s, selS out l j = some s ∧ use s = some r
  | [], _, h => by simp [evRes] at h
  | [a], _, h => ⟨a, rfl, h⟩
  | a :: b :: l, j, h => by
    simp only [evRes] at h
    simp only [selS]
    cases hb : ((D.nth out 0).int == (j : Int)) with
    | true => rw [hb] at h; exact ⟨a, rfl, h⟩
    | false => rw [hb] at h; exact evRes_sel h
theorem All2.len' {α β : Type} {Q : α → β → Prop} {l : List α} {m : List β} (h : All2 Q l m) : l.length = m.length := by
  induction h with
  | nil => rfl
  | cons _ _ ih => simp [ih]
theorem lk_num : ∀ (l : List AV) (j s : Nat) (av : AV), lk (num l j) s = some av → ∃ k, s = j + k ∧ l[k]? = some av
  | [], j, s, av, h => by simp [num, lk] at h
  | a :: l, j, s, av, h => by
    simp only [num] at h
    rw [lk_cons] at h
    split at h
    · rename_i e; cases h; exact ⟨0, by omega, rfl⟩
    · obtain ⟨k, h1, h2⟩ := lk_num l (j + 1) s av h
      exact ⟨k + 1, by omega, by simpa using h2⟩
theorem ins_get {U : Nat → Prop} : ∀ {l : List AV} {k : Nat} {a : AV}, AV.Ins U l → l[k]? = some a → a.In U
  | a :: l, 0, b, h, hk => by simp only [List.getElem?_cons_zero, Option.some.injEq] at hk; subst hk; exact h.1
  | a :: l, k + 1, b, h, hk => ins_get (l := l) h.2 (by simpa using hk)
  | [], k, b, h, hk => by simp at hk
theorem ins_append {U : Nat → Prop} : ∀ {l m : List AV}, AV.Ins U l → AV.Ins U m → AV.Ins U (l ++ m)
  | [], m, _, h => h
  | a :: l, m, h, h' => ⟨h.1, ins_append (l := l) h.2 h'⟩
theorem evCall_sound (hT : TblOK P T) {gd : Option Bool} {hp : HpF} {nid : Nat} {as : List AV} {k : OK R} {r : R} {gid : FuncId} : ∀ {es : List Entry}, (∀ e ∈ es, FnOK P T gid e) → evCall T gd hp nid as k es = some r →
    ∃ av u seen, k av u seen = some r ∧ ((gd = none ∨ gd = some true) → ∀ (E : Ent) (U : Nat → Prop) (lkf : Nat → Option AV) (hpf : HpF) (σ : Nat → Hd) (ac : Act) (w : World) (vals : Array Value), SRel T.kd E U lkf hpf σ ac w → All2 (VRel (ctx T.kd E hpf σ w)) as vals.toList → (∀ a ∈ as, ∀ s b c v, a ≠ .w s b c v) → AV.Ins U as → (∀ i ∈ seen, hpf i = hp i) → (∀ c, c < 16 → ¬ U (nid + c)) →
      Runs P gid vals w fun v w' => ∃ σ' U', SRel T.kd E U' lkf (updF hpf u) σ' ac w' ∧ VRel (ctx T.kd E (updF hpf u) σ' w') av v ∧ av.In U' ∧ (∀ i, U i → U' i) ∧ (∀ i, U' i → U i ∨ (nid ≤ i ∧ i < nid + 16)) ∧ ∀ i, U i → σ' i = σ i)
  | [], _, h => by simp [evCall] at h
  | e :: es, hes, h => by
    simp only [evCall] at h
    have hrec := fun h' => evCall_sound hT (gd := gd) (hp := hp) (nid := nid) (as := as) (k := k) (r := r) (gid := gid) (es := es) (fun e he => hes e (by simp [he])) h'
    split at h
    · rename_i hn
      have hn := beq_to hn
      split at h
      · rename_i f hfit
        have hok := hes e (by simp)
        split at h
        · rename_i hcond
          have key : ∀ out, e.f f.ds = some out → ∀ s0, selS out e.rs 0 = some s0 → ∀ a0, lk (fill s0 (datS e.rs out)).1 0 = some a0 → ∀ (E : Ent) (U : Nat → Prop) (lkf : Nat → Option AV) (hpf : HpF) (σ : Nat → Hd) (ac : Act) (w : World) (vals : Array Value), SRel T.kd E U lkf hpf σ ac w → All2 (VRel (ctx T.kd E hpf σ w)) as vals.toList → (∀ a ∈ as, ∀ s b c v, a ≠ .w s b c v) → AV.Ins U as → (∀ i ∈ f.seen, hpf i = hp i) → (∀ c, c < 16 → ¬ U (nid + c)) →
              Runs P gid vals w fun v w' => ∃ σ' U', SRel T.kd E U' lkf (updF hpf (given f.mp ++ back (outer e.kept f.mp nid) (fill s0 (datS e.rs out)).2)) σ' ac w' ∧ VRel (ctx T.kd E (updF hpf (given f.mp ++ back (outer e.kept f.mp nid) (fill s0 (datS e.rs out)).2)) σ' w') (a0.ren (outer e.kept f.mp nid)) v ∧ (a0.ren (outer e.kept f.mp nid)).In U' ∧ (∀ i, U i → U' i) ∧ (∀ i, U' i → U i ∨ (nid ≤ i ∧ i < nid + 16)) ∧ ∀ i, U i → σ' i = σ i := by
            intro out hout s0 hsel a0 ha0 E U lkf hpf σ ac w vals hs hall hnw hin hseen hfr
            have hfit' := fit_congr hfit hseen
            have hlks : ∀ s av, lk (num as 0) s = some av → SlotRel (ctx T.kd E hpf σ w) vals s av := fun s av hl => by
              obtain ⟨q, h1, h2⟩ := lk_num as 0 s av hl
              obtain ⟨v, h3, h4⟩ := hall.get q av h2
              rw [Nat.zero_add] at h1
              subst h1
              exact slot_of_val (hnw av (List.mem_of_getElem? h2)) ⟨v, by simpa using h3, h4⟩
            have hmU : ∀ i j, (i, some j) ∈ f.mp → U j := fun i j hm => by
              have := fit_U (U := U) (fun s av hl _ => by
                obtain ⟨q, h1, h2⟩ := lk_num as 0 s av hl
                exact ins_get hin h2) (fun i o ho => (hs.obj i o ho).2.2) hfit' i j hm
              exact this.resolve_left (by simp)
            have hs0m := selS_mem hsel
            have hlo : f.lent = [] ∨ (s0.fresh = true ∧ e.sh.loose = true) := by
              simp only [Bool.or_eq_true, Bool.and_eq_true, List.isEmpty_iff, List.all_eq_true] at hcond
              exact hcond.imp id fun h => ⟨h.1 _ hs0m, h.2⟩
            obtain ⟨σ0, hσ0, _, hmi, _, hs0⟩ := fit_sound hT hs (a' := { tmps := vals, defers := [] }) (E' := entOf T.kd E hpf σ w f []) hlks hfit' hok.sh f.lent.isEmpty (hlo.imp (fun h => by simp [h]) fun h => h.2) (fun i i' j h => by simp at h) ⟨[], rfl, trivial⟩
              (fun fr b hb _ => by
                cases fr with
                | true => exact .inr (.inr (.inl hb))
                | false => exact .inr (.inr (.inr ⟨rfl, .inl hb⟩)))
              (fun i hi oi hoi b hb => ⟨.inr (.inr (.inr ⟨rfl, .inr ⟨i, hi, oi, hoi, hb⟩⟩)), fun e => by rw [List.isEmpty_iff.1 e] at hi; simp at hi⟩)
              (fun i j oj b h1 h2 h3 => .inr ⟨i, j, oj, h1, h2, h3⟩) (Grew.refl w _)
            refine (hok.run f.ds out hout _ σ0 vals w (by rw [hn, hall.len']; simp) rfl hs0).mono fun v w' ⟨s1, hsel1, σ1, hσ1, hs1⟩ => ?_
            rw [hsel] at hsel1
            cases hsel1
            obtain ⟨σ2, hσ2, h3, h4, _⟩ := hand_back hs hmi hmU hfr hσ0 hσ1 (hok.rs _ hs0m) (hlo.imp id fun h => h.1) hs1
            obtain ⟨h5, h6⟩ := h4 0 a0 (lk_mem ha0) ha0
            refine ⟨σ2, _, h3, ?_, h6, fun i hi => .inl hi, fun i hi => hi, hσ2⟩
            have hw : ∀ s b c v, a0.ren (outer e.kept f.mp nid) ≠ .w s b c v := fun s b c v he => by
              have : (fill s0 (datS e.rs out)).1 = (fillSl (datS e.rs out) s0.sl 0).1 := by simp only [fill]
              have hm := lk_mem ha0
              rw [this] at hm
              have := fillSl_w _ _ _ _ hm
              cases a0 <;> simp [AV.ren] at he
              exact this _ _ _ _ rfl
            obtain ⟨v', h7, h8⟩ := slot_val hw h5
            simp at h7
            subst h7
            exact h8
          split at h
          · rename_i p htot
            obtain ⟨s0, hsel, h⟩ := evRes_sel h
            split at h
            · rename_i a0 ha0
              exact ⟨_, _, _, h, fun _ => key (p f.ds) (hok.tot p htot f.ds) s0 hsel a0 ha0⟩
            · cases h
          · split at h
            · cases ho : e.f f.ds with
              | none => simp [ho] at h
              | some out =>
                simp only [ho, Option.bind_some] at h
                obtain ⟨s0, hsel, h⟩ := evRes_sel h
                split at h
                · rename_i a0 ha0
                  exact ⟨_, _, _, h, fun _ => key out ho s0 hsel a0 ha0⟩
                · cases h
            · cases h
        · cases h
      · exact hrec h
    · exact hrec h
theorem exec_value {o : Oper} {cl : Call} {f : Operand} {h : FuncId} {caps : Array Value} (hop : o.op = .call cl) (hcal : cl.callee = .value f) {ρ : Operand → Value} (hf : ρ f = .func (.func h) #[] caps) :
    execOp ρ o = callFunc h (cl.args.map ρ ++ caps) := by
  simp [execOp, hop, Go.resolve, hcal, hf, Deferred.ofValue, invoke]
theorem all2_mem {α β : Type} {Q : α → β → Prop} : ∀ {l : List α} {m : List β}, All2 Q l m → ∀ a ∈ l, ∃ b, Q a b
  | _, _, .nil, a, ha => by simp at ha
  | _, _, .cons h t, a, ha => by
    rcases List.mem_cons.1 ha with rfl | ha
    · exact ⟨_, h⟩
    · exact all2_mem t a ha
theorem crel_cell {C : Ctx} {a : AV} {v : Value} (h : CRel C a [v]) (hg : a.aggB C.kd = false) : aggV v = false := by
  cases a with
  | undef => simp only [CRel, List.cons.injEq, and_true] at h; subst h; rfl
  | d t fr x =>
    simp only [CRel] at h
    obtain ⟨k, hk, hr⟩ := h
    simp only [AV.aggB, hk] at hg
    obtain ⟨u, hu, hau⟩ := rep_single hr hg
    cases hu
    exact hau
  | nil t => simp only [CRel, List.cons.injEq, and_true] at h; rw [h.1]; rfl
  | own t i => simp only [CRel, List.cons.injEq, and_true] at h; rw [h.1]; exact agg_one h.2.1
  | cptr t fr x => simp only [CRel] at h; obtain ⟨k, ad, ds, _, hc, _⟩ := h; cases hc; rfl
  | bx t fr x => simp only [CRel] at h; obtain ⟨ad, ds, hc, _⟩ := h; cases hc; rfl
  | optr t i j p => simp only [CRel] at h; obtain ⟨g, n, c, o, _, _, _, _, hc⟩ := h; cases hc; rfl
  | ptr t i p => simp only [CRel] at h; obtain ⟨g, o, _, _, hc⟩ := h; cases hc; rfl
  | nilp => simp only [CRel, List.cons.injEq, and_true] at h; subst h; rfl
  | agg t fs => simp [AV.aggB] at hg
  | fn g caps => simp only [CRel] at h; obtain ⟨vs, hc, _⟩ := h; cases hc; rfl
  | tup xs => simp [CRel] at h
  | w s b c a => simp [CRel] at h
theorem crelL_all {C : Ctx} : ∀ {l : List AV} {vs : List Value}, CRelL C l vs → All2 (VRel C) l vs
  | [], vs, h => by simp only [CRelL] at h; subst h; exact .nil
  | a :: l, vs, h => by
    simp only [CRelL] at h
    obtain ⟨v, r, rfl, hg, h1, h2⟩ := h
    exact .cons (vrel_of_v1 (v1_one h1 (crel_cell h1 hg) hg)) (crelL_all h2)
theorem not_w {C : Ctx} {a : AV} {v : Value} (h : VRel C a v) : ∀ s b c x, a ≠ .w s b c x := by
  rintro s b c x rfl
  exact absurd h.1 (by simp [CRel])

/-! ### One operation -/
theorem mem1 {o : Oper} {x : Operand} (h : x ∈ o.op.operands) : ∀ s, x = .tmp s → s ∈ tmpsOf o.op := fun s hs => by
  simp only [tmpsOf, List.mem_filterMap]
  exact ⟨x, by simpa using h, by rw [hs]⟩
theorem obj_of {E : Ent} {U : Nat → Prop} {lkf : Nat → Option AV} {hp hpf : HpF} {σ : Nat → Hd} {ac : Act} {w : World} (hs : SRel T.kd E U lkf hpf σ ac w) {seen : List Nat} (hseen : ∀ i ∈ seen, hpf i = hp i) :
    ∀ i ∈ seen, ∀ o, hp i = some o → ORel (ctx T.kd E hpf σ w) o ((ctx T.kd E hpf σ w).σ i) ∧ o.In U := fun i hi o ho => by
  obtain ⟨h1, _, h3⟩ := hs.obj i o (by rw [hseen i hi]; exact ho)
  exact ⟨h1, h3⟩
theorem opt_none {C : Ctx} {v : Option Value} (h : OptRel C none v) : v = none := by cases h; rfl
theorem slice_sound (hT : TblOK P T) {g : Option Bool} {o : Oper} {lks : Nat → Option AV} {hp : HpF} {nid : Nat} {k : OK R} {r : R} {t : TypeId} {x : Operand} {lo hi : Option Operand} {a : AV} {la lh : Option AV} (hop : o.op = .slice t x lo hi none) (ha : opd T lks t x = some a)
    (hla : optAV T lks T.intT lo = some la) (hlh : optAV T lks T.intT hi = some lh) (h : evSlice T g t hp nid a la lh k = some r) : ∃ av u seen, k av u seen = some r ∧ ((g = none ∨ g = some true) → OpSound P T o lks hp nid av u seen) := by
  have hlo0 : lo = none → la = none := fun e => by subst e; simp only [optAV, Option.some.injEq] at hla; exact hla.symm
  cases a with
  | d u fr d =>
    obtain ⟨av, hk, hl⟩ := evSliceD_sound hT h
    refine ⟨_, _, _, hk, fun hg => OpSound.val fun E U lkf hpf σ ac w hs ho hseen => ?_⟩
    obtain ⟨hv1, hi1⟩ := opd_rel (C := ctx T.kd E hpf σ w) rfl ho (mem1 (by simp [hop, Op.operands])) ha
    have h1 := optAV_rel (C := ctx T.kd E hpf σ w) rfl ho (fun y hy => mem1 (by simp [hop, Op.operands, hy])) hla
    have h2 := optAV_rel (C := ctx T.kd E hpf σ w) rfl ho (fun y hy => mem1 (by simp [hop, Op.operands, hy])) hlh
    obtain ⟨v, hrun, h3, h4⟩ := hl hg (ctx T.kd E hpf σ w) U _ _ _ w rfl hv1 h1 h2
    exact ⟨v, by simp only [execOp, hop, Option.map_none, Sem.run_bind, hrun, Result.andThen_ok, Sem.run_pure], h3, h4⟩
  | own u i =>
    simp only [evSlice] at h
    split at h
    · rename_i hb
      have := beq_to hb
      subst this
      split at h
      · rename_i e fr xs hhp
        split at h
        · rename_i l hh
          split at h
          · rename_i m j hm hj
            obtain ⟨hk, hc⟩ := cond_some h
            obtain ⟨h0, h1, h2⟩ := inS_iff hc
            exact ⟨_, _, _, hk, fun _ => slice_own_data hT hop ha hhp hla hlh (fun C v hC hv => isB_of hC hm hv h0 _) (fun C v hC hv => isB_of hC hj hv (by omega) _) (by omega) (by omega)⟩
          · cases h
        · rename_i l
          split at h
          · rename_i m hm
            obtain ⟨hk, hc⟩ := cond_some h
            obtain ⟨h0, h1⟩ := inB_iff hc
            have := slice_own_data (P := P) (nid := nid) hT hop ha hhp hla hlh (l := m.toNat) (h := xs.length) (fun C v hC hv => isB_of hC hm hv h0 _) (fun C v hC hv => by cases hv; exact isB_none) (by omega) (Nat.le_refl _)
            rw [List.take_length] at this
            exact ⟨_, _, _, hk, fun _ => this⟩
          · cases h
        · rename_i hh
          split at h
          · rename_i j hj
            obtain ⟨hk, hc⟩ := cond_some h
            obtain ⟨h0, h1⟩ := inB_iff hc
            refine ⟨_, _, _, hk, fun _ => ?_⟩
            have hlo : lo = none := by
              unfold optAV at hla
              split at hla
              · rfl
              · split at hla <;> simp at hla
            subst hlo
            intro E U lkf hpf σ ac w K Q hs ho hseen hfr hK
            obtain ⟨hv1, _⟩ := opd_rel (C := ctx T.kd E hpf σ w) rfl ho (mem1 (by simp [hop, Op.operands])) ha
            obtain ⟨_, _, ke, hke⟩ := own_rel (hs.obj i _ (by rw [hseen i (by simp)]; exact hhp)).1 hv1
            have hke : T.kd t = some (.slice (σ i).t ke) := hke
            have hte : (σ i).t = e := by
              have := (hs.obj i _ (by rw [hseen i (by simp)]; exact hhp)).1
              exact (row_at this).1
            rw [hte] at hke
            exact slice_own_head hT hop ha hhp hlh (fun C v hC hv => isB_of hC hj hv h0 _) (by omega) hke E U lkf hpf σ ac w K Q hs ho hseen hfr hK
          · cases h
        · refine ⟨_, _, _, h, fun _ => OpSound.val fun E U lkf hpf σ ac w hs ho hseen => ?_⟩
          obtain ⟨hv1, hi1⟩ := opd_rel (C := ctx T.kd E hpf σ w) rfl ho (mem1 (by simp [hop, Op.operands])) ha
          have h1 := optAV_rel (C := ctx T.kd E hpf σ w) rfl ho (fun y hy => mem1 (by simp [hop, Op.operands, hy])) hla
          have h2 := optAV_rel (C := ctx T.kd E hpf σ w) rfl ho (fun y hy => mem1 (by simp [hop, Op.operands, hy])) hlh
          obtain ⟨hv, hga, ke, hke⟩ := own_rel (hs.obj i _ (by rw [hseen i (by simp)]; exact hhp)).1 hv1
          have hv : ac.eval x = (σ i).v := hv
          have hke : T.kd t = some (.slice (σ i).t ke) := hke
          have hes := slice_elem (hT.ty _ _ hke)
          refine ⟨ac.eval x, ?_, hv1, hi1⟩
          have hnil : ∀ y : Option Operand, OptRel (ctx T.kd E hpf σ w) none (y.map ac.eval) → y.map ac.eval = none := fun y hy => opt_none hy
          have hrun : ∀ A n c, n ≤ c → (Instr.sliceAt t (.slice A n c) none none none).run P w = .ok (.slice A n c) w := fun A n c hnc => by
            rw [run_sliceD (P := P) (hT.ty _ _ hke) (hT.ty _ _ hes.2) w A n c none none 0 n isB_none isB_none (Nat.zero_le _) hnc]
            have : (if c = 0 then A else A.map (·.add (0 * ke.size))) = A := by
              split
              · rfl
              · cases A <;> simp [Addr.add]
            simp only [this, Nat.sub_zero]
          have hval : ∃ A n c, (σ i).v = .slice A n c ∧ n ≤ c := by
            have := (hs.obj i _ (by rw [hseen i (by simp)]; exact hhp)).1
            obtain ⟨_, k', css, _, _, hrow⟩ := row_at this
            rcases hrow with ⟨hv, _⟩ | ⟨g', n, c, hv, _, hnc, _⟩
            · exact ⟨_, _, _, hv, Nat.le_refl _⟩
            · exact ⟨_, _, _, hv, hnc⟩
          obtain ⟨A, n, c, hAn, hnc⟩ := hval
          simp only [execOp, hop, hnil lo h1, hnil hi h2, Option.map_none, hv, hAn, Sem.run_bind, hrun A n c hnc, Result.andThen_ok, Sem.run_pure]
      · cases h
    · cases h
  | nil u =>
    simp only [evSlice] at h
    have run0 : ∀ (C : Ctx) (v : Value) (w : World) (lo hi : Option Value), C.kd = T.kd → VRel C (.nil t) v → IsB lo 0 0 → IsB hi 0 0 → (Instr.sliceAt t v lo hi none).run P w = .ok v w := fun C v w lo hi hC hv h1 h2 => by
      have hx1 := v1_of_vrel hv (by simp)
      simp only [V1, CRel] at hx1
      obtain ⟨⟨hc, e, ke, hk⟩, hg⟩ := hx1
      rw [cells_one hc hg]
      have hk : T.kd t = some (.slice e ke) := by rw [← hC]; exact hk
      have hes := slice_elem (hT.ty _ _ hk)
      rw [run_sliceD (P := P) (hT.ty _ _ hk) (hT.ty _ _ hes.2) w none 0 0 lo hi 0 0 h1 h2 (Nat.le_refl _) (Nat.le_refl _)]
      simp
    split at h
    · rename_i hb
      have := beq_to hb
      subst this
      split at h
      · rename_i hh
        split at h
        · rename_i j hj
          obtain ⟨hk', hg⟩ := chk_some h
          refine ⟨_, _, _, hk', fun hg' => OpSound.val fun E U lkf hpf σ ac w hs ho hseen => ?_⟩
          obtain ⟨h0, h1⟩ := inB_iff (hg hg')
          obtain ⟨hv1, hi1⟩ := opd_rel (C := ctx T.kd E hpf σ w) rfl ho (mem1 (by simp [hop, Op.operands])) ha
          have h3 := optAV_rel (C := ctx T.kd E hpf σ w) rfl ho (fun y hy => mem1 (by simp [hop, Op.operands, hy])) hla
          have h4 := optAV_rel (C := ctx T.kd E hpf σ w) rfl ho (fun y hy => mem1 (by simp [hop, Op.operands, hy])) hlh
          have hj0 : j.toNat = 0 := by omega
          have hB := isB_of (C := ctx T.kd E hpf σ w) rfl hj h4 h0 0
          rw [hj0] at hB
          refine ⟨ac.eval x, ?_, hv1, hi1⟩
          simp only [execOp, hop, Option.map_none, Sem.run_bind, run0 _ _ w _ _ rfl hv1 (.inl ⟨opt_none h3, rfl⟩) hB, Result.andThen_ok, Sem.run_pure]
        · cases h
      · rename_i l
        split at h
        · rename_i j hj
          obtain ⟨hk', hg⟩ := chk_some h
          refine ⟨_, _, _, hk', fun hg' => OpSound.val fun E U lkf hpf σ ac w hs ho hseen => ?_⟩
          obtain ⟨h0, h1⟩ := inB_iff (hg hg')
          obtain ⟨hv1, hi1⟩ := opd_rel (C := ctx T.kd E hpf σ w) rfl ho (mem1 (by simp [hop, Op.operands])) ha
          have h3 := optAV_rel (C := ctx T.kd E hpf σ w) rfl ho (fun y hy => mem1 (by simp [hop, Op.operands, hy])) hla
          have h4 := optAV_rel (C := ctx T.kd E hpf σ w) rfl ho (fun y hy => mem1 (by simp [hop, Op.operands, hy])) hlh
          have hj0 : j.toNat = 0 := by omega
          have hB := isB_of (C := ctx T.kd E hpf σ w) rfl hj h3 h0 0
          rw [hj0] at hB
          refine ⟨ac.eval x, ?_, hv1, hi1⟩
          simp only [execOp, hop, Option.map_none, Sem.run_bind, run0 _ _ w _ _ rfl hv1 hB (.inl ⟨opt_none h4, rfl⟩), Result.andThen_ok, Sem.run_pure]
        · cases h
      · cases h
    · cases h
  | _ => simp [evSlice] at h
theorem callOp_sound (hT : TblOK P T) (hE : ∀ g, ∀ e ∈ T.ents g, FnOK P T g e) {g : Option Bool} {o : Oper} {lks : Nat → Option AV} {hp : HpF} {nid : Nat} {k : OK R} {r : R} {c : Call} (hop : o.op = .call c)
    (h : (match c.callee with
    | .builtin .len => match c.argTypes.toList, c.args.toList with
      | [st], [x] => match opd T lks st x with
        | some (.d t _ a) => match Nat.beq st t with
          | true => match T.kd t with
            | some .str => k (.d T.intT true (.i a.str.length)) [] []
            | some (.slice _ _) => k (.d T.intT true (.i a.list.length)) [] []
            | _ => none
          | false => none
        | some (.nil t) => match Nat.beq st t with
          | true => k (.d T.intT true (.i 0)) [] []
          | false => none
        | some (.own t i) => match Nat.beq st t with
          | true => match hp i with
            | some (.row _ _ xs) => k (.d T.intT true (.i xs.length)) [] [i]
            | _ => none
          | false => none
        | _ => none
      | _, _ => none
    | .builtin .cap => match c.argTypes.toList, c.args.toList with
      | [st], [x] => match opd T lks st x with
        | some (.nil t) => match Nat.beq st t with
          | true => k (.d T.intT true (.i 0)) [] []
          | false => none
        | _ => none
      | _, _ => none
    | .builtin .append => match c.argTypes.toList, c.args.toList with
      | [st, xt], [s, x] => match opd T lks st s, opd T lks xt x with
        | some a, some b => evAppend T nid st xt hp a b k
        | _, _ => none
      | _, _ => none
    | .builtin .min => match opds T lks c.argTypes.toList c.args.toList with
      | some (.d t _ a :: r) => match T.kd t with
        | some (.int _) => match minAll T minI a.int r with
          | some n => k (.d t true (.i n)) [] []
          | none => none
        | _ => none
      | _ => none
    | .builtin .max => match opds T lks c.argTypes.toList c.args.toList with
      | some (.d t _ a :: r) => match T.kd t with
        | some (.int _) => match minAll T maxI a.int r with
          | some n => k (.d t true (.i n)) [] []
          | none => none
        | _ => none
      | _ => none
    | .value f => match opd T lks o.type f with
      | some (.fn h caps) => match opds T lks c.argTypes.toList c.args.toList with
        | some as => evCall T g hp nid (as ++ caps) k (T.ents h)
        | none => none
      | _ => none
    | _ => none) = some r) : ∃ av u seen, k av u seen = some r ∧ ((g = none ∨ g = some true) → OpSound P T o lks hp nid av u seen) := by
  have hmem : ∀ x ∈ c.args.toList, ∀ s, x = .tmp s → s ∈ tmpsOf o.op := fun x hx => mem1 (by
    simp only [hop, Op.operands, Call.operands]
    exact Array.mem_append.2 (.inr (by simpa using hx)))
  split at h
  · -- len
    rename_i hcal
    split at h
    · rename_i st x hty hargs
      have ht1 : c.args = #[x] := by apply Array.ext'; rw [hargs]
      have ht2 : c.argTypes = #[st] := by apply Array.ext'; rw [hty]
      have hx : ∀ s, x = .tmp s → s ∈ tmpsOf o.op := hmem x (by rw [hargs]; simp)
      have go : ∀ (a : AV) (n : Nat) (seen : List Nat), opd T lks st x = some a → (∀ (E : Ent) (U : Nat → Prop) (lkf : Nat → Option AV) (hpf : HpF) (σ : Nat → Hd) (ac : Act) (w : World), SRel T.kd E U lkf hpf σ ac w → (∀ i ∈ seen, hpf i = hp i) → VRel (ctx T.kd E hpf σ w) a (ac.eval x) → (Builtin.len_ #[st] o.type #[ac.eval x]).run P w = .ok (goInt n) w) →
          OpSound P T o lks hp nid (.d T.intT true (.i n)) [] seen := fun a n seen ha hrun => OpSound.val fun E U lkf hpf σ ac w hs ho hseen => by
        obtain ⟨hv1, hi1⟩ := opd_rel (C := ctx T.kd E hpf σ w) rfl ho hx ha
        refine ⟨goInt n, ?_, mk_int (x := .i n) hT.intT, trivial⟩
        rw [exec_builtin hop hcal, ht1, ht2]
        simp only [builtin, Sem.run_bind, List.map_toArray, List.map_cons, List.map_nil, hrun E U lkf hpf σ ac w hs hseen hv1, Result.andThen_ok, Sem.run_pure]
      split at h
      · rename_i t fr a ha
        split at h
        · rename_i hb
          have := beq_to hb
          subst this
          split at h
          · rename_i hk
            refine ⟨_, _, _, h, fun _ => go _ a.str.length [] ha fun E U lkf hpf σ ac w hs _ hv => ?_⟩
            rw [rep_str (C := ctx T.kd E hpf σ w) hk hv]
            exact run_len_string w st o.type _ (str_ty (hT.ty _ _ hk))
          · rename_i e ke hk
            refine ⟨_, _, _, h, fun _ => go _ a.list.length [] ha fun E U lkf hpf σ ac w hs _ hv => ?_⟩
            obtain ⟨hr, hga⟩ := v1_of_d (C := ctx T.kd E hpf σ w) hk hv
            simp only [RepC] at hr
            obtain ⟨A, c', hc, _⟩ := hr
            rw [cells_one hc hga]
            simp [Builtin.len_, run_underlying (slice_ty (hT.ty _ _ hk))]
          · cases h
        · cases h
      · rename_i t ha
        split at h
        · rename_i hb
          have := beq_to hb
          subst this
          refine ⟨_, _, _, h, fun _ => go _ 0 [] ha fun E U lkf hpf σ ac w hs _ hv => ?_⟩
          have hx1 := v1_of_vrel hv (by simp)
          simp only [V1, CRel] at hx1
          obtain ⟨⟨hc, e, ke, hk⟩, hg⟩ := hx1
          rw [cells_one hc hg]
          have hk : T.kd st = some (.slice e ke) := hk
          simp [Builtin.len_, run_underlying (slice_ty (hT.ty _ _ hk))]
        · cases h
      · rename_i t i ha
        split at h
        · rename_i hb
          have := beq_to hb
          subst this
          split at h
          · rename_i e fr xs hhp
            refine ⟨_, _, _, h, fun _ => go _ xs.length [i] ha fun E U lkf hpf σ ac w hs hseen hv => ?_⟩
            obtain ⟨hv, _, ke, hke⟩ := own_rel (hs.obj i _ (by rw [hseen i (by simp)]; exact hhp)).1 hv
            have hke : T.kd st = some (.slice (σ i).t ke) := hke
            have hv : ac.eval x = (σ i).v := hv
            have := (hs.obj i _ (by rw [hseen i (by simp)]; exact hhp)).1
            obtain ⟨_, k', css, _, _, hrow⟩ := row_at this
            rw [hv]
            rcases hrow with ⟨hv, rfl⟩ | ⟨g', n, c', hv, hn, _⟩
            · rw [show (σ i).v = _ from hv]
              simp [Builtin.len_, run_underlying (slice_ty (hT.ty _ _ hke))]
            · rw [show (σ i).v = _ from hv, hn]
              simp [Builtin.len_, run_underlying (slice_ty (hT.ty _ _ hke))]
          · cases h
        · cases h
      · cases h
    · cases h
  · -- cap
    rename_i hcal
    split at h
    · rename_i st x hty hargs
      have ht1 : c.args = #[x] := by apply Array.ext'; rw [hargs]
      have ht2 : c.argTypes = #[st] := by apply Array.ext'; rw [hty]
      have hx : ∀ s, x = .tmp s → s ∈ tmpsOf o.op := hmem x (by rw [hargs]; simp)
      split at h
      · rename_i t ha
        split at h
        · rename_i hb
          have := beq_to hb
          subst this
          refine ⟨_, _, _, h, fun _ => OpSound.val fun E U lkf hpf σ ac w hs ho hseen => ?_⟩
          obtain ⟨hv1, hi1⟩ := opd_rel (C := ctx T.kd E hpf σ w) rfl ho hx ha
          refine ⟨goInt 0, ?_, mk_int (x := .i 0) hT.intT, trivial⟩
          rw [exec_builtin hop hcal, ht1, ht2]
          have hx1 := v1_of_vrel hv1 (by simp)
          simp only [V1, CRel] at hx1
          obtain ⟨⟨hc, e, ke, hk⟩, hg⟩ := hx1
          have hk : T.kd st = some (.slice e ke) := hk
          simp only [List.map_toArray, List.map_cons, List.map_nil]
          rw [cells_one hc hg]
          simp [builtin, Builtin.cap_, run_underlying (slice_ty (hT.ty _ _ hk)), Sem.run_bind]
        · cases h
      · cases h
    · cases h
  · -- append
    rename_i hcal
    split at h
    · rename_i st xt s x hty hargs
      split at h
      · rename_i a b ha hb
        obtain ⟨av, u, seen, hk, hl⟩ := evAppend_sound hT hop hcal hty hargs ha hb h
        exact ⟨_, _, _, hk, fun _ => hl⟩
      · cases h
    · cases h
  · -- min
    rename_i hcal
    split at h
    · rename_i t fr a l hopds
      split at h
      · rename_i ik hk
        split at h
        · rename_i n hn
          refine ⟨_, _, _, h, fun _ => OpSound.val fun E U lkf hpf σ ac w hs ho hseen => ?_⟩
          obtain ⟨h1, _⟩ := opds_rel (C := ctx T.kd E hpf σ w) rfl ho hmem hopds
          refine ⟨.int ik n, ?_, mk_int (x := .i n) hk, trivial⟩
          rw [exec_builtin hop hcal]
          have hm : (c.args.map ac.eval).toList = c.args.toList.map ac.eval := by simp
          generalize c.args.toList.map ac.eval = vs at h1 hm
          cases h1 with
          | cons hv ht =>
            have := rep_int (C := ctx T.kd E hpf σ w) hk hv
            subst this
            have := minAll_rel (P := P) (C := ctx T.kd E hpf σ w) rfl minI Builtin.min2 (fun k k' x y => by simp [Builtin.min2, minI]) (k := ik) w ht hn
            simp only [builtin, Builtin.min_, hm, Sem.run_bind, this, Result.andThen_ok, Sem.run_pure]
        · cases h
      · cases h
    · cases h
  · -- max
    rename_i hcal
    split at h
    · rename_i t fr a l hopds
      split at h
      · rename_i ik hk
        split at h
        · rename_i n hn
          refine ⟨_, _, _, h, fun _ => OpSound.val fun E U lkf hpf σ ac w hs ho hseen => ?_⟩
          obtain ⟨h1, _⟩ := opds_rel (C := ctx T.kd E hpf σ w) rfl ho hmem hopds
          refine ⟨.int ik n, ?_, mk_int (x := .i n) hk, trivial⟩
          rw [exec_builtin hop hcal]
          have hm : (c.args.map ac.eval).toList = c.args.toList.map ac.eval := by simp
          generalize c.args.toList.map ac.eval = vs at h1 hm
          cases h1 with
          | cons hv ht =>
            have := rep_int (C := ctx T.kd E hpf σ w) hk hv
            subst this
            have := minAll_rel (P := P) (C := ctx T.kd E hpf σ w) rfl maxI Builtin.max2 (fun k k' x y => by simp [Builtin.max2, maxI]) (k := ik) w ht hn
            simp only [builtin, Builtin.max_, hm, Sem.run_bind, this, Result.andThen_ok, Sem.run_pure]
        · cases h
      · cases h
    · cases h
  · -- a Go function
    rename_i f hcal
    split at h
    · rename_i gid caps hf
      split at h
      · rename_i as has
        obtain ⟨av, u, seen, hk, hl⟩ := evCall_sound hT (hE gid) h
        refine ⟨_, _, _, hk, fun hg => ?_⟩
        intro E U lkf hpf σ ac w K Q hs ho hseen hfr hK
        obtain ⟨h1, h2⟩ := opds_rel (C := ctx T.kd E hpf σ w) rfl ho hmem has
        obtain ⟨h3, h4⟩ := opd_rel (C := ctx T.kd E hpf σ w) rfl ho (mem1 (by simp [hop, Op.operands, Call.operands, hcal])) hf
        obtain ⟨⟨vs, hc, hcr⟩, hag⟩ := h3
        have hfv := cells_one hc hag
        have hall : All2 (VRel (ctx T.kd E hpf σ w)) (as ++ caps) (c.args.map ac.eval ++ vs.toArray).toList := by
          rw [Array.toList_append, Array.toList_map]
          exact All2.append h1 (crelL_all hcr)
        have hr := hl hg E U lkf hpf σ ac w _ hs hall (fun a ha => let ⟨v, hv⟩ := all2_mem hall a ha; not_w hv) (ins_append h2 h4) hseen hfr
        unfold Oper.wp
        rw [exec_value hop hcal hfv]
        unfold Runs at hr
        split at hr
        · rename_i v w' hrun
          rw [hrun]
          obtain ⟨σ', U', h5, h6, h7, h8, h9, h10⟩ := hr
          exact hK v w' σ' U' h5 h6 h7 h8 h9 h10
        · rename_i f' args w' hrun
          rw [hrun]
          simp only [Oper.upon]
          refine hr.mono fun e w'' he => ?_
          cases e with
          | returned v =>
            obtain ⟨σ', U', h5, h6, h7, h8, h9, h10⟩ := he
            exact hK v w'' σ' U' h5 h6 h7 h8 h9 h10
          | panicked ch => exact he.elim
          | outgrown => exact he.elim
        · exact hr.elim
      · cases h
    · cases h
  · cases h
theorem retag_rel {C : Ctx} (hC : C.kd = T.kd) {src : TypeId} {a : AV} {v : Value} (h : VRel C a v) : VRel C (retag T src a) v := by
  unfold retag
  split
  · rename_i t fr x
    split
    · rename_i k k' hk hk'
      split
      · rename_i hd
        have hd := of_decide_eq_true hd
        subst hd
        have := rep_int (C := C) (by rw [hC]; exact hk) h
        subst this
        exact ⟨⟨.int k, by rw [hC]; exact hk', rfl⟩, by simp [AV.aggB, hC, hk', aggV, K.agg]⟩
      · exact h
    · exact h
  · exact h
theorem evOp_sound (hT : TblOK P T) (hE : ∀ g, ∀ e ∈ T.ents g, FnOK P T g e) {g : Option Bool} {o : Oper} {lks : Nat → Option AV} {hp : HpF} {nid : Nat} {k : OK R} {r : R} (hW : (g = none ∨ g = some true) → WFl T lks)
    (h : evOp T g o lks hp nid k = some r) : ∃ av u seen, k av u seen = some r ∧ ((g = none ∨ g = some true) → OpSound P T o lks hp nid av u seen) := by
  unfold evOp at h
  split at h
  · -- move
    rename_i x hop
    split at h
    · rename_i a ha
      refine ⟨_, _, _, h, fun _ => OpSound.val fun E U lkf hpf σ ac w hs ho hseen => ?_⟩
      obtain ⟨hv, hi⟩ := opd_rel (C := ctx T.kd E hpf σ w) rfl ho (mem1 (by simp [hop, Op.operands])) ha
      exact ⟨_, by simp [execOp, hop], hv, hi⟩
    · cases h
  · -- assign
    rename_i x hop
    split at h
    · rename_i a ha
      refine ⟨_, _, _, h, fun _ => OpSound.val fun E U lkf hpf σ ac w hs ho hseen => ?_⟩
      obtain ⟨hv, hi⟩ := opd_rel (C := ctx T.kd E hpf σ w) rfl ho (mem1 (by simp [hop, Op.operands])) ha
      exact ⟨_, by simp [execOp, hop], hv, hi⟩
    · cases h
  · -- pick
    rename_i c a b hop
    have hmc : ∀ s, c = .tmp s → s ∈ tmpsOf o.op := mem1 (by simp [hop, Op.operands])
    have hma : ∀ s, a = .tmp s → s ∈ tmpsOf o.op := mem1 (by simp [hop, Op.operands])
    have hmb : ∀ s, b = .tmp s → s ∈ tmpsOf o.op := mem1 (by simp [hop, Op.operands])
    split at h
    · rename_i t fc x u f y v f' z hc ha hb
      split at h
      · rename_i hbt
        split at h
        · rename_i huv
          have huv := beq_to huv
          subst huv
          refine ⟨_, _, _, h, fun hg => OpSound.val fun E U lkf hpf σ ac w hs ho hseen => ?_⟩
          obtain ⟨hcv, _⟩ := opd_rel (C := ctx T.kd E hpf σ w) rfl ho hmc hc
          have hcb := rep_bool (C := ctx T.kd E hpf σ w) hbt hcv
          have key : ∀ (q : AV) (dv : D) (fq : Bool) (val : Value), ((f && f') = true → fq = true) → cond x.bool y z = dv → VRel (ctx T.kd E hpf σ w) (.d u fq dv) val → VRel (ctx T.kd E hpf σ w) (.d u (f && f') (pickD (T.kd u) x.bool y z)) val := fun q dv fq val hfq hdv hv => by
            obtain ⟨⟨k', hk', hr⟩, hag⟩ := hv
            have hk'' : T.kd u = some k' := hk'
            refine d_of_rep (C := ctx T.kd E hpf σ w) (k := k') hk'' ?_ (by simpa [AV.aggB, hk'] using hag)
            rw [hk'']
            refine pickD_rep ?_
            rw [hdv]
            exact rep_fr hfq hr
          cases hxb : x.bool with
          | true =>
            obtain ⟨hv, hi⟩ := opdW_rel (C := ctx T.kd E hpf σ w) rfl ho (hW hg) hma hc hbt ha hxb
            refine ⟨ac.eval a, by simp [execOp, hop, hcb, hxb, asBool], ?_, trivial⟩
            have := key (.d u f y) y f _ (fun e => by simp only [Bool.and_eq_true] at e; exact e.1) (by rw [hxb]; rfl) hv
            rw [hxb] at this
            exact this
          | false =>
            obtain ⟨hv, hi⟩ := opdW_rel (C := ctx T.kd E hpf σ w) rfl ho (hW hg) hmb hc hbt hb hxb
            refine ⟨ac.eval b, by simp [execOp, hop, hcb, hxb, asBool], ?_, trivial⟩
            have := key (.d u f' z) z f' _ (fun e => by simp only [Bool.and_eq_true] at e; exact e.2) (by rw [hxb]; rfl) hv
            rw [hxb] at this
            exact this
        · cases h
      · cases h
    · rename_i t fc x y z hnn hc ha hb
      split at h
      · rename_i hbt
        cases hxb : x.bool with
        | true =>
          rw [hxb] at h
          refine ⟨_, _, _, h, fun hg => OpSound.val fun E U lkf hpf σ ac w hs ho hseen => ?_⟩
          obtain ⟨hcv, _⟩ := opd_rel (C := ctx T.kd E hpf σ w) rfl ho hmc hc
          have hcb := rep_bool (C := ctx T.kd E hpf σ w) hbt hcv
          obtain ⟨hv, hi⟩ := opdW_rel (C := ctx T.kd E hpf σ w) rfl ho (hW hg) hma hc hbt ha hxb
          exact ⟨ac.eval a, by simp [execOp, hop, hcb, hxb, asBool], hv, hi⟩
        | false =>
          rw [hxb] at h
          refine ⟨_, _, _, h, fun hg => OpSound.val fun E U lkf hpf σ ac w hs ho hseen => ?_⟩
          obtain ⟨hcv, _⟩ := opd_rel (C := ctx T.kd E hpf σ w) rfl ho hmc hc
          have hcb := rep_bool (C := ctx T.kd E hpf σ w) hbt hcv
          obtain ⟨hv, hi⟩ := opdW_rel (C := ctx T.kd E hpf σ w) rfl ho (hW hg) hmb hc hbt hb hxb
          exact ⟨ac.eval b, by simp [execOp, hop, hcb, hxb, asBool], hv, hi⟩
      · rename_i hbt
        split at h
        · rename_i cb
          split at h
          · refine ⟨_, _, _, h, fun hg => OpSound.val fun E U lkf hpf σ ac w hs ho hseen => ?_⟩
            obtain ⟨hcv, _⟩ := opd_rel (C := ctx T.kd E hpf σ w) rfl ho hmc hc
            have hcb := rep_bool (C := ctx T.kd E hpf σ w) hbt hcv
            obtain ⟨hv, hi⟩ := opdW_rel (C := ctx T.kd E hpf σ w) rfl ho (hW hg) hma hc hbt ha rfl
            exact ⟨ac.eval a, by simp [execOp, hop, hcb, asBool, D.bool], hv, hi⟩
          · refine ⟨_, _, _, h, fun hg => OpSound.val fun E U lkf hpf σ ac w hs ho hseen => ?_⟩
            obtain ⟨hcv, _⟩ := opd_rel (C := ctx T.kd E hpf σ w) rfl ho hmc hc
            have hcb := rep_bool (C := ctx T.kd E hpf σ w) hbt hcv
            obtain ⟨hv, hi⟩ := opdW_rel (C := ctx T.kd E hpf σ w) rfl ho (hW hg) hmb hc hbt hb rfl
            exact ⟨ac.eval b, by simp [execOp, hop, hcb, asBool, D.bool], hv, hi⟩
        · cases h
      · cases h
    · cases h
  · -- alloc
    rename_i t hop
    split at h
    · rename_i a ha
      exact ⟨_, _, _, h, fun _ => alloc_sound hT hop ha⟩
    · cases h
  · -- box
    rename_i t x hop
    split at h
    · rename_i a ha
      split at h
      · rename_i hf
        split at h
        · rename_i e ke hk
          split at h
          · rename_i fr y hb htd
            rw [beq_to hb] at hk
            exact ⟨_, _, _, h, fun _ => pd_sound hT hop ha hf hk htd⟩
          · cases h
        · split at h
          · exact ⟨_, _, _, h, fun _ => bx_sound hT hop ha hf⟩
          · exact ⟨_, _, _, h, fun _ => box_sound hT hop ha hf⟩
      · cases h
    · cases h
  · -- build
    rename_i t parts hop
    split at h
    · rename_i ks hks
      split at h
      · rename_i t' fs hz
        split at h
        · rename_i fs' hput
          refine ⟨_, _, _, h, fun _ => OpSound.val fun E U lkf hpf σ ac w hs ho hseen => ?_⟩
          obtain ⟨it, z, hit, hsz, hz0, hzc, hzg, _⟩ := (hT.ty _ _ hks).info
          obtain ⟨h1, h2, h3⟩ := (zero_rel (C := ctx T.kd E hpf σ w) hT rfl U ks).1 t _ _ hks hz hzc
          have hagg : ks.agg = true := by
            simp only [CRel] at h1
            obtain ⟨k', hk', hg', _⟩ := h1
            have hty : (AV.agg t' fs).ty = some t := by
              refine fits_ty (kd := T.kd) hks h2 ?_ ?_ <;> rintro rfl <;> simp [zeroK] at hz
            simp only [AV.ty, Option.some.injEq] at hty
            subst hty
            have hk' : T.kd t' = some k' := hk'
            rw [hks] at hk'
            cases hk'
            exact hg'
          have hrs : CRels (ctx T.kd E hpf σ w) ks fs z.cells.toList := by
            simp only [CRel] at h1
            obtain ⟨k', hk', hg', hr⟩ := h1
            have hty : (AV.agg t' fs).ty = some t := by
              refine fits_ty (kd := T.kd) hks h2 ?_ ?_ <;> rintro rfl <;> simp [K.agg] at hagg
            simp only [AV.ty, Option.some.injEq] at hty
            subst hty
            have hk' : T.kd t' = some k' := hk'
            rw [hks] at hk'
            cases hk'
            exact hr
          rcases (hT.ty _ _ hks).struct_or hagg with ⟨fds, hfds, hfo⟩ | ⟨n, e, ke, hue, hke, hka⟩
          · obtain ⟨places, hp1, hp2⟩ := places_ok hT hfo
            have hx : ∀ p ∈ parts.toList, ∀ s, p.2 = .tmp s → s ∈ tmpsOf o.op := fun p hp => mem1 (by
              simp [hop, Op.operands]
              exact ⟨p.1, by simpa using hp⟩)
            obtain ⟨cs', hfill, hr', hi'⟩ := putParts_rel (C := ctx T.kd E hpf σ w) hT rfl ho hks (place := (places.toArray[·]?)) (fun j tj kj hf => by
              have := hp2 j tj kj hf
              simpa using this) hx hput hrs h3
            refine ⟨.agg cs'.toArray, ?_, ⟨⟨ks, hks, hagg, by simpa [Value.cells] using hr'⟩, rfl⟩, hi'⟩
            have hb : P.built t (parts.map fun (i, x) => (i, ac.eval x)).toList = some cs'.toArray := by
              unfold Program.built
              rw [hit, hfds]
              simp only [hz0, hp1]
              rw [Array.toList_map]
              have : z.cells = z.cells.toList.toArray := by simp
              rw [this]
              exact hfill
            simp only [execOp, hop, Sem.run_bind, run_build w t _ _ hb, Result.andThen_ok, Sem.run_pure]
          · obtain ⟨ie, ze, hie, hse, _⟩ := (hT.ty _ _ hke).info
            have hx : ∀ p ∈ parts.toList, ∀ s, p.2 = .tmp s → s ∈ tmpsOf o.op := fun p hp => mem1 (by
              simp [hop, Op.operands]
              exact ⟨p.1, by simpa using hp⟩)
            obtain ⟨cs', hfill, hr', hi'⟩ := putParts_rel (C := ctx T.kd E hpf σ w) hT rfl ho hks (place := fun i => some (i * ie.size, ie.size)) (fun j tj kj hf => by
              rw [hka] at hf ⊢
              obtain ⟨_, h2, h3⟩ := arrK_some hf
              rw [h2, h3, hse]) hx hput hrs h3
            refine ⟨.agg cs'.toArray, ?_, ⟨⟨ks, hks, hagg, by simpa [Value.cells] using hr'⟩, rfl⟩, hi'⟩
            have hb : P.built t (parts.map fun (i, x) => (i, ac.eval x)).toList = some cs'.toArray := by
              unfold Program.built
              rw [hit, hue]
              simp only [hz0, hie]
              rw [Array.toList_map]
              have : z.cells = z.cells.toList.toArray := by simp
              rw [this]
              exact hfill
            simp only [execOp, hop, Sem.run_bind, run_build w t _ _ hb, Result.andThen_ok, Sem.run_pure]
        · cases h
      · cases h
    · cases h
  · -- buildSlice
    rename_i t n parts hop
    split at h
    · rename_i e ke hk
      split at h
      · rename_i fr xs l hel
        split at h
        · rename_i hc
          simp only [Bool.and_eq_true] at hc
          have h1 := beq_to hc.1.1
          have h2 : 0 < ke.size := by
            have := hc.1.2
            unfold Nat.blt at this
            exact Nat.le_of_ble_eq_true this
          have h3 := Nat.le_of_ble_eq_true hc.2
          exact ⟨_, _, _, h, fun _ => buildSlice_sound hT hop hk hel h1 h2 h3⟩
        · cases h
      · cases h
    · cases h
  · -- load
    rename_i t x hop
    split at h
    · rename_i a ha
      obtain ⟨av, seen, hk, hl⟩ := evLoad_sound hT h
      refine ⟨_, _, _, hk, fun _ => OpSound.val fun E U lkf hpf σ ac w hs ho hseen => ?_⟩
      obtain ⟨hv, hi⟩ := opd_rel (C := ctx T.kd E hpf σ w) rfl ho (mem1 (by simp [hop, Op.operands])) ha
      obtain ⟨v, hrun, h1, h2⟩ := hl (ctx T.kd E hpf σ w) U _ rfl (obj_of hs hseen) hv hi
      have hrun : (Instr.loadAt t (ac.eval x)).run P w = .ok v w := hrun
      exact ⟨v, by simp only [execOp, hop, Sem.run_bind, hrun, Result.andThen_ok, Sem.run_pure], h1, h2⟩
    · cases h
  · -- store
    rename_i t x y hop
    split at h
    · rename_i a v ha hv
      obtain ⟨av, u, seen, hk, hl⟩ := evStore_sound hT hop ha hv h
      exact ⟨_, _, _, hk, fun _ => hl⟩
    · cases h
  · -- nilCheck
    rename_i x hop
    have go : ∀ a, opd T lks o.type x = some a → (∀ C v, VRel C a v → ∃ ad, v = .pointer (some ad)) → OpSound P T o lks hp nid a [] [] := fun a ha hp' =>
      OpSound.val fun E U lkf hpf σ ac w hs ho hseen => by
        obtain ⟨hv, hi⟩ := opd_rel (C := ctx T.kd E hpf σ w) rfl ho (mem1 (by simp [hop, Op.operands])) ha
        obtain ⟨ad, had⟩ := hp' _ _ hv
        exact ⟨_, by simp only [execOp, hop, had]; rfl, hv, hi⟩
    split at h
    · rename_i t i p ha
      refine ⟨_, _, _, h, fun _ => go _ ha fun C v hv => ?_⟩
      obtain ⟨⟨g', o', _, _, hc⟩, hg⟩ := hv
      exact ⟨_, cells_one hc hg⟩
    · rename_i t i j p ha
      refine ⟨_, _, _, h, fun _ => go _ ha fun C v hv => ?_⟩
      obtain ⟨⟨g', n, c, o', _, _, _, _, hc⟩, hg⟩ := hv
      exact ⟨_, cells_one hc hg⟩
    · rename_i t fr a0 ha
      refine ⟨_, _, _, h, fun _ => go _ ha fun C v hv => ?_⟩
      obtain ⟨⟨k', ad, ds, _, hc, _⟩, hg⟩ := hv
      exact ⟨_, cells_one hc hg⟩
    · rename_i t fr a0 ha
      refine ⟨_, _, _, h, fun _ => go _ ha fun C v hv => ?_⟩
      obtain ⟨⟨ad, ds, hc, _⟩, hg⟩ := hv
      exact ⟨_, cells_one hc hg⟩
    · rename_i t fr a0 ha
      split at h
      · rename_i e ke hk
        obtain ⟨hk', hg'⟩ := chk_some h
        refine ⟨_, _, _, hk', fun hg => OpSound.val fun E U lkf hpf σ ac w hs ho hseen => ?_⟩
        obtain ⟨hv, hi⟩ := opd_rel (C := ctx T.kd E hpf σ w) rfl ho (mem1 (by simp [hop, Op.operands])) ha
        have hne := hg' hg
        have hke : T.kd e = some ke := (pd_ty (hT.ty _ _ hk)).2
        obtain ⟨⟨k', hkk, hr⟩, hag⟩ := hv
        have hkk' : T.kd t = some k' := hkk
        rw [hk] at hkk'
        cases hkk'
        simp only [RepC] at hr
        rcases hr with ⟨hnil, _⟩ | ⟨y, l, ad, ds, h1, h2, h3, h4, h5, h6, h7⟩
        · simp [hnil] at hne
        · have hc := cells_one h2 (by rw [hag]; simp [AV.aggB, ctx, hk, K.agg])
          refine ⟨.pointer (some ad), by simp only [execOp, hop, hc]; rfl, ⟨⟨ke, ad, ds, hke, rfl, h3, h4, h5, ?_, h7⟩, rfl⟩, trivial⟩
          rw [h1]
          exact h6
      · cases h
    · cases h
  · -- binOp
    rename_i op xT x y yT hop
    split at h
    · rename_i a b ha hb
      obtain ⟨av, hk, hin, hl⟩ := evBin_sound hT h
      refine ⟨_, _, _, hk, fun hg => OpSound.val fun E U lkf hpf σ ac w hs ho hseen => ?_⟩
      obtain ⟨hv1, _⟩ := opd_rel (C := ctx T.kd E hpf σ w) rfl ho (mem1 (by simp [hop, Op.operands])) ha
      obtain ⟨hv2, _⟩ := opd_rel (C := ctx T.kd E hpf σ w) rfl ho (mem1 (by simp [hop, Op.operands])) hb
      obtain ⟨v, hrun, h1⟩ := hl hg (ctx T.kd E hpf σ w) x y _ _ w rfl rfl (eqArg_rel hT rfl hv1) (eqArg_rel hT rfl hv2)
      refine ⟨v, ?_, h1, hin U⟩
      unfold binRun at hrun
      simp only [execOp, hop, Sem.run_bind] at hrun ⊢
      rw [hrun]
      rfl
    · cases h
  · -- unOp
    rename_i op xT x hop
    split at h
    · rename_i a ha
      obtain ⟨av, hk, hl⟩ := evUn_sound hT h
      refine ⟨_, _, _, hk, fun hg => OpSound.val fun E U lkf hpf σ ac w hs ho hseen => ?_⟩
      obtain ⟨hv1, _⟩ := opd_rel (C := ctx T.kd E hpf σ w) rfl ho (mem1 (by simp [hop, Op.operands])) ha
      obtain ⟨v, hrun, h1, h2⟩ := hl (ctx T.kd E hpf σ w) U _ w rfl hv1
      exact ⟨v, by simp only [execOp, hop, Sem.run_bind, hrun, Result.andThen_ok, Sem.run_pure], h1, h2⟩
    · cases h
  · -- convert
    rename_i src dst x hop
    split at h
    · rename_i a ha
      obtain ⟨av, seen, hk, hl⟩ := evConvert_sound hT h
      refine ⟨_, _, _, hk, fun hg => OpSound.grow fun E U lkf hpf σ ac w hs ho hseen => ?_⟩
      obtain ⟨hv1, _⟩ := opd_rel (C := ctx T.kd E hpf σ w) rfl ho (mem1 (by simp [hop, Op.operands])) ha
      obtain ⟨v, w', hrun, h1, h2, h3⟩ := hl E U lkf hpf σ ac w _ hs hseen (retag_rel rfl hv1)
      exact ⟨v, w', by simp only [execOp, hop, Sem.run_bind, hrun, Result.andThen_ok, Sem.run_pure], h1, h2, h3⟩
    · cases h
  · -- makeFunc
    rename_i gf first captured hop
    split at h
    · rename_i hemp
      split at h
      · rename_i cs hcs
        split at h
        · rename_i hcap
          refine ⟨_, _, _, h, fun hg => OpSound.val fun E U lkf hpf σ ac w hs ho hseen => ?_⟩
          have hf : first = #[] := by simpa using hemp
          obtain ⟨h1, h2⟩ := opds_rel (C := ctx T.kd E hpf σ w) rfl ho (fun x hx => mem1 (by simp [hop, Op.operands]; exact .inr (by simpa using hx))) hcs
          have h3 := crelL_of (C := ctx T.kd E hpf σ w) rfl h1 hcap
          refine ⟨.func (.func gf) #[] (captured.map ac.eval), by simp [execOp, hop, hf, Instr.makeFunc], ⟨⟨_, ?_, h3⟩, rfl⟩, h2⟩
          simp [Value.cells]
          rw [← Array.toList_map]
        · cases h
      · cases h
    · cases h
  · -- makeSlice
    rename_i t l c hop
    split at h
    · rename_i hlc
      split at h
      · rename_i n hn
        obtain ⟨av, u, seen, hk, hl⟩ := evMake_sound hT hop hlc hn h
        exact ⟨_, _, _, hk, fun _ => hl⟩
      · cases h
    · cases h
  · -- slice
    rename_i t x lo hi hop
    split at h
    · rename_i a la lh ha hla hlh
      exact slice_sound hT hop ha hla hlh h
    · cases h
  · -- fieldAddr
    rename_i s x j hop
    split at h
    · rename_i a ha
      split at h
      case h_2 => cases h
      rename_i hna
      obtain ⟨av, hk, hl⟩ := evFieldAddr_sound hT hna h
      refine ⟨_, _, _, hk, fun hg => OpSound.val fun E U lkf hpf σ ac w hs ho hseen => ?_⟩
      obtain ⟨hv1, hi1⟩ := opd_rel (C := ctx T.kd E hpf σ w) rfl ho (mem1 (by simp [hop, Op.operands])) ha
      obtain ⟨v, hrun, h1, h2⟩ := hl (ctx T.kd E hpf σ w) U _ w rfl hv1 hi1
      exact ⟨v, by simp only [execOp, hop, Sem.run_bind, hrun, Result.andThen_ok, Sem.run_pure], h1, h2⟩
    · cases h
  · -- field
    rename_i s x j hop
    split at h
    · rename_i a ha
      split at h
      case h_2 => cases h
      rename_i hna
      obtain ⟨av, hk, hl⟩ := evField_sound hT hna h
      refine ⟨_, _, _, hk, fun hg => OpSound.val fun E U lkf hpf σ ac w hs ho hseen => ?_⟩
      obtain ⟨hv1, hi1⟩ := opd_rel (C := ctx T.kd E hpf σ w) rfl ho (mem1 (by simp [hop, Op.operands])) ha
      obtain ⟨v, hrun, h1, h2⟩ := hl (ctx T.kd E hpf σ w) U _ w rfl hv1 hi1
      exact ⟨v, by simp only [execOp, hop, Sem.run_bind, hrun, Result.andThen_ok, Sem.run_pure], h1, h2⟩
    · cases h
  · -- indexAddr
    rename_i t x ix hop
    split at h
    · rename_i a i ha hix
      obtain ⟨av, seen, hk, hl⟩ := evIndexAddr_sound hT h
      refine ⟨_, _, _, hk, fun hg => OpSound.val fun E U lkf hpf σ ac w hs ho hseen => ?_⟩
      obtain ⟨hv1, hi1⟩ := opd_rel (C := ctx T.kd E hpf σ w) rfl ho (mem1 (by simp [hop, Op.operands])) ha
      obtain ⟨hv2, _⟩ := opd_rel (C := ctx T.kd E hpf σ w) rfl ho (mem1 (by simp [hop, Op.operands])) hix
      obtain ⟨v, hrun, h1, h2⟩ := hl hg (ctx T.kd E hpf σ w) U _ _ rfl (obj_of hs hseen) hv1 hv2 hi1
      have hrun : (Instr.indexAt t (ac.eval x) (ac.eval ix)).run P w = .ok v w := hrun
      exact ⟨v, by simp only [execOp, hop, Sem.run_bind, hrun, Result.andThen_ok, Sem.run_pure], h1, h2⟩
    · cases h
  · -- index
    rename_i t x ix hop
    split at h
    · rename_i a i ha hix
      obtain ⟨av, hk, hl⟩ := evIndex_sound hT h
      refine ⟨_, _, _, hk, fun hg => OpSound.val fun E U lkf hpf σ ac w hs ho hseen => ?_⟩
      obtain ⟨hv1, hi1⟩ := opd_rel (C := ctx T.kd E hpf σ w) rfl ho (mem1 (by simp [hop, Op.operands])) ha
      obtain ⟨hv2, _⟩ := opd_rel (C := ctx T.kd E hpf σ w) rfl ho (mem1 (by simp [hop, Op.operands])) hix
      obtain ⟨v, hrun, h1, h2⟩ := hl hg (ctx T.kd E hpf σ w) U _ _ w rfl hv1 hv2
      exact ⟨v, by simp only [execOp, hop, Sem.run_bind, hrun, Result.andThen_ok, Sem.run_pure], h1, h2⟩
    · cases h
  · -- extract
    rename_i x j hop
    split at h
    · rename_i xs hx
      split at h
      · rename_i a ha
        refine ⟨_, _, _, h, fun hg => OpSound.val fun E U lkf hpf σ ac w hs ho hseen => ?_⟩
        obtain ⟨hv1, hi1⟩ := opd_rel (C := ctx T.kd E hpf σ w) rfl ho (mem1 (by simp [hop, Op.operands])) hx
        simp only [VRel] at hv1
        obtain ⟨vs, hv, hall⟩ := hv1
        obtain ⟨v, h1, h2⟩ := all2_nth hall ha
        exact ⟨v, by simp [execOp, hop, hv, Instr.extract, h1], vrel_of_v1 h2, nthA_in ha hi1⟩
      · cases h
    · cases h
  · -- makeMap
    rename_i t hop
    obtain ⟨av, u, seen, hk, hl⟩ := makeMap_sound hT hop h
    exact ⟨_, _, _, hk, fun _ => hl⟩
  · -- lookup
    rename_i t x ix ok hop
    split at h
    · rename_i kt vt hkt
      split at h
      · rename_i a b ha hb
        obtain ⟨av, u, seen, hk, hl⟩ := lookup_sound hT hop hkt ha hb h
        exact ⟨_, _, _, hk, fun _ => hl⟩
      · cases h
    · cases h
  · -- mapUpdate
    rename_i t m key v hop
    split at h
    · rename_i kt vt hkt
      split at h
      · rename_i a b c ha hb hc
        obtain ⟨av, u, seen, hk, hl⟩ := update_sound hT hop hkt ha hb hc h
        exact ⟨_, _, _, hk, fun _ => hl⟩
      · cases h
    · cases h
  · -- call
    rename_i c hop
    exact callOp_sound hT hE hop h
  · cases h
end
end Go.Ev
