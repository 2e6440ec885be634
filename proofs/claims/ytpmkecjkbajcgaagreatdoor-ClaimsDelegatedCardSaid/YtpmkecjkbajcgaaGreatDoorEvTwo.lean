/- The evaluator: further operations that hand back a value and turn nothing. -/
import Derived.Test.YtpmkecjkbajcgaaGreatDoorEvOne
namespace Go.Ev
open Go
set_option linter.unusedVariables false
set_option linter.unusedSimpArgs false
section
variable {P : Program} {T : Tbl} {C : Ctx} {R : Type} {lks : Nat → Option AV}

/-! ### 1. Numbers, strings -/
theorem byteAt_get : ∀ {l : List UInt8} {j : Nat} (h : j < l.length), byteAt l j = (l[j]).toNat
  | a :: l, 0, _ => rfl
  | a :: l, j + 1, h => by simpa [byteAt] using byteAt_get (l := l) (j := j) (by simpa using h)
  | [], j, h => by simp at h
theorem str_ty {t : TypeId} (h : TyOK P T.kd t .str) : P.underlying t = some .string := by
  obtain ⟨d, hd, hk⟩ := h.desc
  cases d <;> simp only [DescOK] at hk <;> first | exact hk.elim | (cases hk; done) | (rcases hk with hk | ⟨_, hk, _⟩ <;> cases hk; done) | (obtain ⟨_, _, hk, _⟩ := hk; simp at hk; done) | exact hd | skip
  · obtain ⟨_, h1, _⟩ := hk; cases h1
  · exact absurd hk.2 (by simp [K.agg])
theorem int_ty {t : TypeId} {ik : IntKind} (h : TyOK P T.kd t (.int ik)) : P.underlying t = some (.int ik) := by
  obtain ⟨d, hd, hk⟩ := h.desc
  cases d <;> simp only [DescOK] at hk <;> first | exact hk.elim | (cases hk; done) | (rcases hk with hk | ⟨_, hk, _⟩ <;> cases hk; done) | (obtain ⟨_, _, hk, _⟩ := hk; simp at hk; done) | (cases hk; exact hd) | skip
  · obtain ⟨_, h1, _⟩ := hk; cases h1
  · exact absurd hk.2 (by simp [K.agg])
theorem pd_ty {t e : TypeId} {ke : K} (h : TyOK P T.kd t (.pd e ke)) : P.underlying t = some (.pointer e) ∧ T.kd e = some ke := by
  obtain ⟨d, hd, hk⟩ := h.desc
  cases d <;> simp only [DescOK] at hk <;> first | exact hk.elim | (cases hk; done) | (obtain ⟨_, _, hk, _⟩ := hk; simp at hk; done) | skip
  · rcases hk with hk | ⟨_, hk, h2⟩
    · cases hk
    · cases hk; exact ⟨hd, h2⟩
  · obtain ⟨_, h1, _⟩ := hk; cases h1
  · exact absurd hk.2 (by simp [K.agg])
theorem evIndex_sound (hT : TblOK P T) {g : Option Bool} {t ty : TypeId} {x ix : AV} {k : OK R} {r : R} (h : evIndex T g t ty x ix k = some r) : ∃ av, k av [] [] = some r ∧ ((g = none ∨ g = some true) →
    ∀ (C : Ctx) (U : Nat → Prop) (vx vi : Value) (w : World), C.kd = T.kd → VRel C x vx → VRel C ix vi → ∃ v, (Instr.index t vx vi).run P w = .ok v w ∧ VRel C av v ∧ av.In U) := by
  unfold evIndex at h
  split at h
  · rename_i ti fi i
    split at h
    · rename_i ik hti
      split at h
      · rename_i u fr a
        split at h
        · rename_i hb
          rw [Nat.beq_eq] at hb
          subst hb
          split at h
          · rename_i hu hty
            obtain ⟨hk', hg⟩ := chk_some h
            refine ⟨_, hk', fun hg' C U vx vi w hC hx hi => ?_⟩
            have hin := inB_iff (hg hg')
            have hv := rep_int (by rw [hC]; exact hti) hi
            subst hv
            have hv := rep_str (by rw [hC]; exact hu) hx
            subst hv
            have hjl : i.int.toNat < a.str.length := by omega
            refine ⟨.int .u8 (byteAt a.str i.int.toNat), ?_, mk_int (x := .i _) (by rw [hC]; exact hty), trivial⟩
            rw [run_index_string w t _ ik i.int (str_ty (hT.ty _ _ hu)), dif_pos (by simpa [size_mk] using hin), byteAt_get hjl]
            rfl
          · rename_i e ke r0 hu
            split at h
            · rename_i harr
              obtain ⟨hk', hg⟩ := chk_some h
              refine ⟨_, hk', fun hg' C U vx vi w hC hx hi => ?_⟩
              have hin := inB_iff (hg hg')
              have hv := rep_int (by rw [hC]; exact hti) hi
              subst hv
              obtain ⟨n, e', hue⟩ := (hT.arr _ _ hu).1 harr
              obtain ⟨ds, hds, hdk⟩ := (hT.ty _ _ hu).desc
              rw [hue] at hds
              cases hds
              obtain ⟨ke', hke, hkk, _⟩ := hdk
              have hcn : (K.pair e ke r0).cnt = n := by rw [hkk]; exact arrK_cnt n
              rw [hcn] at hin
              obtain ⟨hf, ho⟩ := arrK_fld (e := e') (ke := ke') n i.int.toNat (by omega)
              have hee : e = e' ∧ ke = ke' := by
                cases n with
                | zero => omega
                | succ n => simp only [K.arrK, K.pair.injEq] at hkk; exact ⟨hkk.1, hkk.2.1⟩
              obtain ⟨rfl, rfl⟩ := hee
              obtain ⟨r1, g1⟩ := v1_of_d (by rw [hC]; exact hu) hx
              have hkk2 : K.pair e ke r0 = K.arrK e ke n := hkk
              rw [repC_pair, hkk2] at r1
              obtain ⟨c0, c1, c2, hcs, hl0, hr1, _⟩ := repF_fld r1 hf
              cases vx <;> simp [aggV, K.agg] at g1
              rename_i cs
              simp only [Value.cells] at hcs
              obtain ⟨v, hv, hvc, hvg⟩ := run_part (hT.ty _ _ hke) c0 c1 c2 (rep_len hr1) (rep_single hr1) w
              rw [Nat.zero_add] at hr1
              refine ⟨v, ?_, ⟨⟨ke, by rw [hC]; exact hke, by rw [hvc]; exact hr1⟩, by simp [AV.aggB, hC, hke, hvg]⟩, trivial⟩
              rw [← hcs, hl0, ho] at hv
              simp only [Array.toArray_toList] at hv
              simp [Instr.index, asIntOf, run_underlying hue, hin.1, hin.2, (hT.ty _ _ hke).sizeOf w, hv]
            · cases h
          · cases h
        · cases h
      · cases h
    · cases h
  · cases h
/-! ### 2. Lists of operands -/
theorem opds_rel (hkd : C.kd = T.kd) {a : Act} {U : Nat → Prop} {ts : List Nat} (hO : Opn C a U lks ts) : ∀ {tys : List TypeId} {xs : List Operand} {as : List AV}, (∀ x ∈ xs, ∀ s, x = .tmp s → s ∈ ts) → opds T lks tys xs = some as →
    All2 (VRel C) as (xs.map a.eval) ∧ AV.Ins U as
  | [], [], as, _, h => by simp only [opds, Option.some.injEq] at h; subst h; exact ⟨.nil, trivial⟩
  | t :: tys, x :: xs, as, hx, h => by
    simp only [opds] at h
    split at h
    · rename_i b hb
      split at h
      · rename_i l hl
        simp only [Option.some.injEq] at h
        subst h
        obtain ⟨h1, h2⟩ := opd_rel hkd hO (hx x (by simp)) hb
        obtain ⟨h3, h4⟩ := opds_rel hkd hO (fun y hy => hx y (by simp [hy])) hl
        exact ⟨.cons h1 h3, h2, h4⟩
      · cases h
    · cases h
  | [], _ :: _, as, _, h => by simp [opds] at h
  | _ :: _, [], as, _, h => by simp [opds] at h
theorem crelL_of (hC : C.kd = T.kd) : ∀ {as : List AV} {vs : List Value}, All2 (VRel C) as vs → as.all (capOK T) = true → CRelL C as vs
  | _, _, .nil, _ => rfl
  | _, _, .cons (a := a) (b := v) (l := l) (m := m) h t, hc => by
    simp only [List.all_cons, Bool.and_eq_true] at hc
    have hag : a.aggB C.kd = false := by
      have h1 := hc.1
      rw [hC]
      cases a with
      | d t fr x =>
        simp only [capOK] at h1
        simp only [AV.aggB]
        split at h1
        · rename_i k' hk'
          rw [hk']
          simpa using h1
        · cases h1
      | _ => first | rfl | simp [capOK] at h1
    have hv := v1_of_vrel h (by rintro xs rfl; simp [capOK] at hc)
    refine ⟨v, m, rfl, hag, ?_, crelL_of hC t hc.2⟩
    have := hv.1
    rw [cells_self (by rw [hv.2, hag])] at this
    exact this
theorem all2_nth {Q : AV → Value → Prop} : ∀ {as : List AV} {vs : List Value} {j : Nat} {a : AV}, All2 Q as vs → nthA as j = some a → ∃ v, vs[j]? = some v ∧ Q a v
  | _, _, 0, a, .cons h t, hn => by simp only [nthA, Option.some.injEq] at hn; subst hn; exact ⟨_, rfl, h⟩
  | _, _, j + 1, a, .cons h t, hn => by simpa using all2_nth t (by simpa only [nthA] using hn)
  | _, _, j, a, .nil, hn => by simp [nthA] at hn
/-! ### 3. Minima -/
theorem minAll_rel (hC : C.kd = T.kd) (f : Int → Int → Int) (op : Value → Value → Sem Value) (hop : ∀ k k' x y, op (.int k x) (.int k' y) = pure (.int k (f x y))) {k : IntKind} (w : World) :
    ∀ {l : List AV} {vs : List Value} {x n : Int}, All2 (VRel C) l vs → minAll T f x l = some n → (vs.foldlM op (.int k x)).run P w = .ok (.int k n) w
  | _, _, x, n, .nil, h => by simp only [minAll, Option.some.injEq] at h; subst h; rfl
  | _, _, x, n, .cons (a := a) (b := v) hv t, h => by
    simp only [minAll] at h
    split at h
    · rename_i y hy
      unfold intAV at hy
      split at hy
      · rename_i t' fr d
        split at hy
        · rename_i k' hk'
          cases hy
          have := rep_int (by rw [hC]; exact hk') hv
          subst this
          simp only [List.foldlM_cons, hop, pure_bind]
          exact minAll_rel hC f op hop w t h
        · cases hy
      · cases hy
    · cases h
/-! ### 4. One operand -/
theorem evUn_sound (hT : TblOK P T) {op : UnOp} {x : AV} {k : OK R} {r : R} (h : evUn T op x k = some r) : ∃ av, k av [] [] = some r ∧
    ∀ (C : Ctx) (U : Nat → Prop) (vx : Value) (w : World), C.kd = T.kd → VRel C x vx → ∃ v, (Op.unary op vx).run P w = .ok v w ∧ VRel C av v ∧ av.In U := by
  unfold evUn at h
  split at h
  · rename_i t fr a
    split at h
    · rename_i ka hk
      split at h
      · refine ⟨_, h, fun C U vx w hC hx => ?_⟩
        have hv := rep_int (by rw [hC]; exact hk) hx
        subst hv
        exact ⟨.int ka (ka.wrap (0 - a.int)), by simp [Op.unary, Op.intArith], mk_int (x := .i _) (by rw [hC]; exact hk), trivial⟩
      · cases h
    · rename_i hk
      split at h
      · refine ⟨_, h, fun C U vx w hC hx => ?_⟩
        have hv := rep_bool (by rw [hC]; exact hk) hx
        subst hv
        exact ⟨.bool (!a.bool), by simp [Op.unary], mk_bool (x := .b _) (by rw [hC]; exact hk), trivial⟩
      · cases h
    · cases h
  · cases h
theorem underlying_some {t : TypeId} {k : K} (h : TyOK P T.kd t k) : ∃ d, P.underlying t = some d := let ⟨d, hd, _⟩ := h.desc; ⟨d, hd⟩
theorem run_conv_int {src dst : TypeId} {ds : TypeDesc} {k k' : IntKind} {n : Int} (h1 : P.underlying src = some ds) (h2 : P.underlying dst = some (.int k)) (w : World) : (convert src dst (.int k' n)).run P w = .ok (.int k (k.wrap n)) w := by
  simp [convert, run_underlying h1, run_underlying h2, Conv.intToInt]
theorem run_conv_istr {src dst : TypeId} {ds : TypeDesc} {k' : IntKind} {n : Int} (h1 : P.underlying src = some ds) (h2 : P.underlying dst = some .string) (w : World) : (convert src dst (.int k' n)).run P w = .ok (.string (Utf8.encode n)) w := by
  simp [convert, run_underlying h1, run_underlying h2, Conv.intToString]
theorem run_conv_str {src dst : TypeId} {ds : TypeDesc} {s : ByteArray} (h1 : P.underlying src = some ds) (h2 : P.underlying dst = some .string) (w : World) : (convert src dst (.string s)).run P w = .ok (.string s) w := by
  simp [convert, run_underlying h1, run_underlying h2]
theorem run_conv_bytes {src dst e : TypeId} {ds : TypeDesc} {s : ByteArray} (h1 : P.underlying src = some ds) (h2 : P.underlying dst = some (.slice e)) (h3 : P.underlying e = some (.int .u8)) (w : World) :
    (convert src dst (.string s)).run P w = (Conv.stringToBytes e s).run P w := by
  simp [convert, run_underlying h1, run_underlying h2, run_underlying h3]
theorem rep_bytes {F : Nat → Prop} {w : World} : ∀ {xs : List D} {css : List (List Value)}, All2 (RepC F w (.int .u8)) xs css → css.flatten = (xs.map D.int).map (Value.int .u8)
  | _, _, .nil => rfl
  | _, _, .cons h t => by
    simp only [RepC] at h
    subst h
    simp [rep_bytes t]
theorem foldl_bytes : ∀ (ns : List D) (s : List UInt8), (ns.map D.int).foldl (fun (r : ByteArray) n => r.push (UInt8.ofNat n.toNat)) ⟨s.toArray⟩ = ⟨(s ++ ns.map toByte).toArray⟩
  | [], s => by simp
  | a :: l, s => by
    have : (⟨s.toArray⟩ : ByteArray).push (UInt8.ofNat a.int.toNat) = ⟨(s ++ [toByte a]).toArray⟩ := by
      apply ByteArray.ext
      simp [ByteArray.push, toByte]
    simp only [List.map_cons, List.foldl_cons, this, foldl_bytes l]
    simp
theorem run_bytes {w : World} {a : Addr} {xs : List D} {cap : Nat} (h : ∀ j v, ((xs.map D.int).map (Value.int .u8))[j]? = some v → w.cell? (a.add j) = some v) :
    (Conv.bytesToString (.slice (some a) xs.length cap)).run P w = .ok (.string ⟨(xs.map toByte).toArray⟩) w := by
  have hl := run_loadCells_list (P := P) w a _ h
  simp only [List.length_map] at hl
  rw [run_bytesToString w a xs.length cap (xs.map D.int) hl]
  have := foldl_bytes xs []
  simp only [List.nil_append] at this
  exact congrArg (fun s => Result.ok (Value.string s) w) this
/-- The cells of data behind a slice, one after the other. -/
theorem slice_cells {F : Nat → Prop} {w : World} {ke : K} {xs : List D} {A : Option Addr}
    (hel : ∀ (j : Nat) y, xs[j]? = some y → ∃ ad ds, A = some ad ∧ ad.spot = none ∧ F ad.block ∧ ad.block < w.heap.size ∧ RepC F w ke y ds ∧ At w (shift ad (j * ke.size)) ds) :
    ∃ css, All2 (RepC F w ke) xs css ∧ ∀ ad, A = some ad → At w ad css.flatten := by
  suffices H : ∀ (l : List D) (n : Nat), (∀ (j : Nat) y, l[j]? = some y → ∃ ad ds, A = some ad ∧ ad.spot = none ∧ F ad.block ∧ ad.block < w.heap.size ∧ RepC F w ke y ds ∧ At w (shift ad ((n + j) * ke.size)) ds) →
      ∃ css, All2 (RepC F w ke) l css ∧ ∀ ad, A = some ad → At w (shift ad (n * ke.size)) css.flatten by
    obtain ⟨css, h1, h2⟩ := H xs 0 (fun j y hy => by simpa using hel j y hy)
    exact ⟨css, h1, fun ad hA t v hv => by simpa [shift] using h2 ad hA t v hv⟩
  intro l
  induction l with
  | nil => exact fun n _ => ⟨[], .nil, fun ad _ t v hv => by simp at hv⟩
  | cons a l ih =>
    intro n h
    obtain ⟨ad, ds, hA, hsp, hF, hlt, hr, hat⟩ := h 0 a rfl
    obtain ⟨css, h1, h2⟩ := ih (n + 1) (fun j y hy => by
      obtain ⟨ad, ds, h⟩ := h (j + 1) y (by simpa using hy)
      exact ⟨ad, ds, by rw [show n + 1 + j = n + (j + 1) by omega]; exact h⟩)
    refine ⟨ds :: css, .cons hr h1, fun ad' hA' t v hv => ?_⟩
    rw [hA] at hA'
    cases hA'
    simp only [List.flatten_cons] at hv
    by_cases ht : t < ds.length
    · rw [List.getElem?_append_left ht] at hv
      exact hat t v hv
    · rw [List.getElem?_append_right (Nat.le_of_not_lt ht)] at hv
      have := h2 ad hA _ v hv
      have hl := rep_len hr
      simp only [shift, Nat.succ_mul] at this ⊢
      rw [show ad.off + n * ke.size + t = ad.off + (n * ke.size + ke.size) + (t - ds.length) by omega]
      exact this
theorem run_stringToBytes (e : TypeId) (l : List UInt8) (hl : l.length ≤ maxLen) (w : World) : ∃ w' cap, (Conv.stringToBytes e ⟨l.toArray⟩).run P w = .ok (.slice (some ⟨w.heap.size, 0, none⟩) l.length cap) w' ∧
    Grew w w' (fun _ => False) ∧ l.length ≤ cap ∧ cap ≤ maxLen ∧ w.heap.size < w'.heap.size ∧ At w' ⟨w.heap.size, 0, none⟩ (l.map fun b => .int .u8 b.toNat) := by
  let cap := grownCap w l.length 0 e
  let cs : Array Value := (l.toArray.map fun b => Value.int .u8 b.toNat) ++ Array.replicate (cap - l.length) (.int .u8 0)
  let w1 : World := { w with drawn := w.drawn + 1, heap := w.heap.push (.cells cs e (0, 0)) }
  have hrun : (Conv.stringToBytes e ⟨l.toArray⟩).run P w = .ok (.slice (some ⟨w.heap.size, 0, none⟩) l.length cap) (w1.freeze ⟨w.heap.size, cs.size, none⟩ 1) := by
    have hsh : w1.shape? w.heap.size = some (e, cs.size) := by simp [World.shape?, w1]
    have h1 : (choose (.appendCap (⟨l.toArray⟩ : ByteArray).size 0 e)).run P w = .ok cap { w with drawn := w.drawn + 1 } := by simp [Question.forced]; rfl
    simp only [Conv.stringToBytes, Sem.run_bind, h1, Result.andThen_ok, newRow, run_newObj, Sem.run_pure, Sem.run_map, markStringish, run_shape]
    show ((Sem.run P (match w1.shape? w.heap.size with | some (_, n) => freeze ⟨w.heap.size, n, none⟩ 1 | _ => pure ()) w1).andThen fun a w' => Result.ok (Value.slice (some ⟨w.heap.size, 0, none⟩) l.length cap) w') = _
    rw [hsh]
    rfl
  have hcap : l.length ≤ cap := grownCap_ge w l.length 0 e
  refine ⟨_, cap, hrun, ⟨rfl, rfl, rfl, ?_, fun b hb _ => ?_⟩, hcap, grownCap_le_maxLen w l.length 0 e hl, ?_, fun j v hj => ?_⟩
  · simp [World.freeze, w1]
  · have : b ≠ w.heap.size := by omega
    simp [World.freeze, w1, Array.getElem?_modify, Array.getElem?_push, this, Ne.symm this]
  · simp [World.freeze, w1]
  · have hlt : j < l.length := by simpa using (List.getElem?_eq_some_iff.1 hj).1
    simp only [World.cell?, World.freeze, w1, Nat.zero_add, Nat.succ_ne_zero, if_false, Array.getElem?_modify, Array.getElem?_push, if_true, Option.map_some]
    simp only [Option.isSome, Bool.false_eq_true, if_false, cs]
    rw [Array.getElem?_append_left (by simpa using hlt)]
    simpa using hj
theorem OpSound.grow {o : Oper} {hp : HpF} {nid : Nat} {av : AV} {seen : List Nat}
    (h : ∀ (E : Ent) (U : Nat → Prop) (lkf : Nat → Option AV) (hpf : HpF) (σ : Nat → Hd) (a : Act) (w : World), SRel T.kd E U lkf hpf σ a w → Opn (ctx T.kd E hpf σ w) a U lks (tmpsOf o.op) → (∀ i ∈ seen, hpf i = hp i) →
      ∃ v w', (execOp a.eval o).run P w = .ok (.value v) w' ∧ Grew w w' (fun _ => False) ∧ VRel (ctx T.kd E hpf σ w') av v ∧ av.In U) : OpSound P T o lks hp nid av [] seen := by
  intro E U lkf hpf σ a w K Q hs ho hseen hfr hK
  obtain ⟨v, w', hrun, hg, hv, hi⟩ := h E U lkf hpf σ a w hs ho hseen
  unfold Oper.wp
  rw [hrun]
  exact hK v w' σ U (hs.grow hg).1 hv hi (fun _ h => h) (fun _ h => .inl h) (fun _ _ => rfl)
theorem slice_ty {t : TypeId} {e : TypeId} {ke : K} (h : TyOK P T.kd t (.slice e ke)) : P.underlying t = some (.slice e) := (slice_elem h).1
theorem evConvert_sound (hT : TblOK P T) {src dst : TypeId} {hp : HpF} {x : AV} {k : OK R} {r : R} (h : evConvert T src dst hp x k = some r) : ∃ av seen, k av [] seen = some r ∧
    ∀ (E : Ent) (U : Nat → Prop) (lkf : Nat → Option AV) (hpf : HpF) (σ : Nat → Hd) (a : Act) (w : World) (vx : Value), SRel T.kd E U lkf hpf σ a w → (∀ i ∈ seen, hpf i = hp i) → VRel (ctx T.kd E hpf σ w) x vx →
      ∃ v w', (convert src dst vx).run P w = .ok v w' ∧ Grew w w' (fun _ => False) ∧ VRel (ctx T.kd E hpf σ w') av v ∧ av.In U := by
  unfold evConvert at h
  split at h
  · rename_i t hty
    split at h
    · rename_i hb
      rw [Nat.beq_eq] at hb
      subst hb
      split at h
      · rename_i kb hd
        split at h
        · rename_i t' fr a
          simp only [AV.ty, Option.some.injEq] at hty
          subst hty
          split at h
          · rename_i ka hk
            refine ⟨_, _, h, fun E U lkf hpf σ ac w vx hs _ hx => ?_⟩
            have hv := rep_int hk hx
            subst hv
            exact ⟨_, w, run_conv_int (int_ty (hT.ty _ _ hk)) (int_ty (hT.ty _ _ hd)) w, Grew.refl _ _, mk_int (x := .i _) hd, trivial⟩
          · cases h
        · cases h
      · rename_i hd
        split at h
        · rename_i t' fr a
          simp only [AV.ty, Option.some.injEq] at hty
          subst hty
          split at h
          · rename_i ka hk
            refine ⟨_, _, h, fun E U lkf hpf σ ac w vx hs _ hx => ?_⟩
            have hv := rep_int hk hx
            subst hv
            refine ⟨_, w, run_conv_istr (int_ty (hT.ty _ _ hk)) (str_ty (hT.ty _ _ hd)) w, Grew.refl _ _, ?_, trivial⟩
            have := mk_str (C := ctx T.kd E hpf σ w) (fr := true) (x := .s (Utf8.encode a.int).data.toList) hd
            simpa [D.str] using this
          · rename_i hk
            refine ⟨_, _, h, fun E U lkf hpf σ ac w vx hs _ hx => ?_⟩
            have hv := rep_str hk hx
            subst hv
            exact ⟨_, w, run_conv_str (str_ty (hT.ty _ _ hk)) (str_ty (hT.ty _ _ hd)) w, Grew.refl _ _, mk_str hd, trivial⟩
          · rename_i e hk
            refine ⟨_, _, h, fun E U lkf hpf σ ac w vx hs _ hx => ?_⟩
            obtain ⟨hr, hga⟩ := v1_of_d (C := ctx T.kd E hpf σ w) hk hx
            simp only [RepC] at hr
            obtain ⟨A, c, hc, hlc, hcm, hel⟩ := hr
            have hvx := cells_one hc hga
            subst hvx
            have hes := slice_elem (hT.ty _ _ hk)
            have heu := int_ty (hT.ty _ _ hes.2)
            refine ⟨.string ⟨(a.list.map toByte).toArray⟩, w, ?_, Grew.refl _ _, mk_str (x := .s _) hd, trivial⟩
            rw [run_convert_bytes_string w _ dst e A _ _ hes.1 heu (str_ty (hT.ty _ _ hd))]
            cases A with
            | none =>
              have : a.list = [] := by
                cases hl : a.list with
                | nil => rfl
                | cons y l =>
                  obtain ⟨ad, _, hA, _⟩ := hel 0 y (by rw [hl]; rfl)
                  cases hA
              rw [this]
              rfl
            | some ad =>
              obtain ⟨css, h1, h2⟩ := slice_cells (ke := .int .u8) hel
              have hsp : a.list ≠ [] → ad.spot = none := fun hne => by
                cases hl : a.list with
                | nil => exact absurd hl hne
                | cons y l =>
                  obtain ⟨ad', _, hA, hsp, _⟩ := hel 0 y (by rw [hl]; rfl)
                  cases hA
                  exact hsp
              refine run_bytes fun j v hj => ?_
              have hne : a.list ≠ [] := by rintro e0; simp [e0] at hj
              rw [add_shift (hsp hne)]
              exact h2 ad rfl j v (by rw [rep_bytes h1]; exact hj)
          · cases h
        · rename_i t'
          simp only [AV.ty, Option.some.injEq] at hty
          subst hty
          split at h
          · rename_i e hk
            refine ⟨_, _, h, fun E U lkf hpf σ ac w vx hs _ hx => ?_⟩
            have hx1 := v1_of_vrel hx (by simp)
            simp only [V1, CRel] at hx1
            have hvx := cells_one hx1.1.1 hx1.2
            subst hvx
            have hes := slice_elem (hT.ty _ _ hk)
            have heu := int_ty (hT.ty _ _ hes.2)
            refine ⟨.string ⟨#[]⟩, w, ?_, Grew.refl _ _, mk_str (x := .s []) hd, trivial⟩
            rw [run_convert_bytes_string w _ dst e none _ _ hes.1 heu (str_ty (hT.ty _ _ hd))]
            rfl
          · cases h
        · rename_i t' i
          simp only [AV.ty, Option.some.injEq] at hty
          subst hty
          split at h
          · rename_i e hk
            split at h
            · rename_i e' fr xs hhp
              split at h
              · rename_i hee
                rw [Nat.beq_eq] at hee
                subst hee
                refine ⟨_, _, h, fun E U lkf hpf σ ac w vx hs hseen hx => ?_⟩
                have hx1 := v1_of_vrel hx (by simp)
                simp only [V1, CRel] at hx1
                obtain ⟨⟨hc, hag, hor⟩, hga⟩ := hx1
                obtain ⟨ke, hke⟩ := hor.resolve_right (by
                  rintro ⟨_, _, _, h0, _⟩
                  have h0 : T.kd t' = some (.map _ _) := h0
                  rw [hk] at h0
                  cases h0)
                have hvx := cells_one hc hga
                subst hvx
                have hes := slice_elem (hT.ty _ _ hk)
                have heu := int_ty (hT.ty _ _ hes.2)
                obtain ⟨ho, _, _⟩ := hs.obj i _ (by rw [hseen i (by simp)]; exact hhp)
                obtain ⟨ht, k', css, hk', hall, hrow⟩ := row_at ho
                have : k' = .int .u8 := by
                  have h1 : T.kd e = some k' := hk'
                  rw [hes.2] at h1
                  cases h1
                  rfl
                subst this
                refine ⟨.string ⟨(xs.map toByte).toArray⟩, w, ?_, Grew.refl _ _, mk_str (x := .s _) hd, trivial⟩
                rcases hrow with ⟨hv, rfl⟩ | ⟨g, n, c, hv, hn, _, _, _, hat⟩
                · show (convert _ dst (σ i).v).run P w = _
                  have hv' : (σ i).v = .slice none 0 0 := hv
                  rw [hv', run_convert_bytes_string w _ dst e none _ _ hes.1 heu (str_ty (hT.ty _ _ hd))]
                  rfl
                · show (convert _ dst (σ i).v).run P w = _
                  have hv' : (σ i).v = .slice (some ⟨g, 0, none⟩) n c := hv
                  rw [hv', run_convert_bytes_string w _ dst e _ _ _ hes.1 heu (str_ty (hT.ty _ _ hd))]
                  subst hn
                  refine run_bytes fun j v hj => ?_
                  rw [add_shift rfl]
                  exact hat j v (by rw [rep_bytes hall]; exact hj)
              · cases h
            · cases h
          · cases h
        · cases h
      · rename_i e hd
        split at h
        · rename_i t' fr a
          simp only [AV.ty, Option.some.injEq] at hty
          subst hty
          split at h
          · rename_i hk
            obtain ⟨hk', hlim⟩ := cond_some h
            refine ⟨_, _, hk', fun E U lkf hpf σ ac w vx hs _ hx => ?_⟩
            have hv := rep_str hk hx
            subst hv
            have hes := slice_elem (hT.ty _ _ hd)
            have heu := int_ty (hT.ty _ _ hes.2)
            have hl : a.str.length ≤ maxLen := by have := lim_le hlim; simp only [maxLen]; omega
            obtain ⟨w', cap, hrun, hg, h1, h2, h3, h4⟩ := run_stringToBytes (P := P) e a.str hl w
            refine ⟨.slice (some ⟨w.heap.size, 0, none⟩) a.str.length cap, w', ?_, hg, d_of_rep (C := ctx T.kd E hpf σ w') hd ?_ rfl, trivial⟩
            · rw [run_conv_bytes (str_ty (hT.ty _ _ hk)) hes.1 heu]
              exact hrun
            · refine ⟨some ⟨w.heap.size, 0, none⟩, cap, by simp [Value.cells, D.list], by simpa [D.list] using h1, h2, fun j y hy => ?_⟩
              simp only [D.list, List.getElem?_map] at hy
              cases hb : a.str[j]? with
              | none => simp [hb] at hy
              | some b =>
                simp only [hb, Option.map_some, Option.some.injEq] at hy
                subst hy
                refine ⟨_, [.int .u8 b.toNat], rfl, rfl, ⟨fun i o ho hb' => ?_, .inl (hs.grew.size)⟩, h3, rfl, fun t v ht => ?_⟩
                · have := (hs.trk i o _ ho hb').1
                  exact absurd this (Nat.lt_irrefl _)
                · cases t with
                  | zero =>
                    simp only [List.getElem?_cons_zero, Option.some.injEq] at ht
                    subst ht
                    have := h4 j (.int .u8 b.toNat) (by simp [hb])
                    show w'.cell? _ = _
                    simpa [shift, K.size] using this
                  | succ t => simp at ht
          · cases h
        · cases h
      · cases h
    · cases h
  · cases h
end
end Go.Ev
