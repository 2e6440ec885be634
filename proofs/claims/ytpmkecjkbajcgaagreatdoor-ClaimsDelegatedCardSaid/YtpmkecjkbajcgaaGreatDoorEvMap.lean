/- The evaluator: maps. -/
import Derived.Test.YtpmkecjkbajcgaaGreatDoorEvSto
namespace Go.Ev
open Go
set_option linter.unusedVariables false
set_option linter.unusedSimpArgs false
section
variable {P : Program} {T : Tbl} {C : Ctx} {R : Type} {lks : Nat → Option AV}
theorem memOp {o : Oper} {x : Operand} (h : x ∈ o.op.operands) : ∀ s, x = .tmp s → s ∈ tmpsOf o.op := fun s hs => by
  simp only [tmpsOf, List.mem_filterMap]
  exact ⟨x, by simpa using h, by rw [hs]⟩
/-- The description of a type of keys. -/
def keyD : K → TypeDesc → Prop
  | .int ik, d => d = .int ik
  | .str, d => d = .string
  | .bool, d => d = .bool
  | _, _ => False
theorem key_desc {kd : TypeId → Option K} {t : TypeId} {kk : K} (h : TyOK P kd t kk) (hk : kk.key = true) : ∃ d, P.underlying t = some d ∧ keyD kk d := by
  obtain ⟨d, hd, hdk⟩ := h.desc
  refine ⟨d, hd, ?_⟩
  cases kk <;> simp [K.key] at hk <;> cases d <;> simp_all [DescOK, K.agg, keyD]
theorem key_agg {kk : K} (hk : kk.key = true) : kk.agg = false := by cases kk <;> simp_all [K.key, K.agg]
theorem key_flat {kk : K} (hk : kk.key = true) : kk.flat = true := by cases kk <;> simp_all [K.key, K.flat]
theorem map_ty {kd : TypeId → Option K} {t kt vt : TypeId} (h : TyOK P kd t (.map kt vt)) : P.underlying t = some (.map kt vt) := by
  obtain ⟨d, hd, hdk⟩ := h.desc
  rw [hd]
  cases d <;> simp_all [DescOK, K.agg]
/-- Two keys: are they one? -/
theorem same_key {F F' : Nat → Prop} {w : World} {kk : K} {d : TypeDesc} (hd : keyD kk d) {a b : D} {u v : Value} (ha : RepC F w kk a [u]) (hb : RepC F' w kk b [v]) :
    Instr.sameNow d u v = some (eqK kk a b) ∧ (eqK kk a b = true → u = v ∧ Instr.sameBits 10000 v u = true ∧ RepC F' w kk b [u]) := by
  cases kk with
  | int ik =>
    simp only [keyD] at hd
    simp only [RepC, List.cons.injEq, and_true] at ha hb
    subst hd ha hb
    refine ⟨by simp [Instr.sameNow, eqK], fun h => ?_⟩
    have : a.int = b.int := by simpa [eqK] using h
    exact ⟨by rw [this], by simp [Instr.sameBits, this], by simp [RepC, this]⟩
  | str =>
    simp only [keyD] at hd
    simp only [RepC, List.cons.injEq, and_true] at ha hb
    subst hd ha hb
    have hbe : ((⟨a.str.toArray⟩ : ByteArray) == ⟨b.str.toArray⟩) = (a.str == b.str) := by
      show (a.str.toArray == b.str.toArray) = (a.str == b.str)
      simp
    refine ⟨by simp only [Instr.sameNow, eqK, hbe], fun h => ?_⟩
    have : a.str = b.str := by simpa [eqK] using h
    exact ⟨by rw [this], by
      rw [this]
      simp only [Instr.sameBits]
      show (b.str.toArray == b.str.toArray) = true
      simp, by simp [RepC, this]⟩
  | bool =>
    simp only [keyD] at hd
    simp only [RepC, List.cons.injEq, and_true] at ha hb
    subst hd ha hb
    refine ⟨by simp [Instr.sameNow, eqK], fun h => ?_⟩
    have : a.bool = b.bool := by simpa [eqK] using h
    exact ⟨by rw [this], by simp [Instr.sameBits, this], by simp [RepC, this]⟩
  | _ => exact hd.elim
theorem find_cases {F F' : Nat → Prop} {w : World} {kk kv : K} {d : TypeDesc} (hd : keyD kk d) {key v : D} {u : Value} (hu : RepC F' w kk key [u]) : ∀ {xs : List D} {es : List MapEntry} (j : Nat), All2 (EntRel F w kk kv) xs es →
    (∃ i x e, xs[i]? = some x ∧ es[i]? = some e ∧ EntRel F w kk kv x e ∧ RepC F w kk (x.at' 0) [u] ∧ Instr.sameBits 10000 e.key u = true ∧ Instr.findNow d u es j = some (some (j + i, e.val)) ∧ mapGet kk key xs = x.at' 1 ∧ mapHas kk key xs = true ∧ mapSet kk key v xs = xs.set i (.n [x.at' 0, v])) ∨
    (Instr.findNow d u es j = some none ∧ mapGet kk key xs = .n [] ∧ mapHas kk key xs = false ∧ mapSet kk key v xs = xs ++ [.n [key, v]])
  | _, _, j, .nil => .inr ⟨rfl, rfl, rfl, rfl⟩
  | _, _, j, .cons (a := x) (b := e) (l := l) (m := m) hxe hlm => by
    obtain ⟨hs, hs2⟩ := same_key hd hu hxe.1
    cases hk : eqK kk key (x.at' 0) with
    | true =>
      obtain ⟨h1, h2, h3⟩ := hs2 hk
      rw [hk] at hs
      exact .inl ⟨0, x, e, rfl, rfl, hxe, h3, h2, by simp [Instr.findNow, hs], by simp [mapGet, hk], by simp [mapHas, hk], by simp [mapSet, hk]⟩
    | false =>
      rw [hk] at hs
      rcases find_cases (v := v) hd hu (j + 1) hlm with ⟨i, x', e', h1, h2, h3, h4, h5, h6, h7, h8, h9⟩ | ⟨h1, h2, h3, h4⟩
      · exact .inl ⟨i + 1, x', e', by simpa using h1, by simpa using h2, h3, h4, h5, by simp [Instr.findNow, hs, h6]; omega, by simp [mapGet, hk, h7], by simp [mapHas, hk, h8], by simp [mapSet, hk, h9]⟩
      · exact .inr ⟨by simp [Instr.findNow, hs, h1], by simp [mapGet, hk, h2], by simp [mapHas, hk, h3], by simp [mapSet, hk, h4]⟩
theorem run_check {kk : K} {d : TypeDesc} {kt : TypeId} {F : Nat → Prop} {w0 : World} {a : D} {u : Value} (hd : P.underlying kt = some d) (hk : keyD kk d) (hu : RepC F w0 kk a [u]) (b : Bool) (w : World) : (Instr.checkKey b 10000 kt u).run P w = .ok () w := by
  show (Instr.checkKey b (9999 + 1) kt u).run P w = .ok () w
  unfold Instr.checkKey
  rw [Sem.run_bind, run_underlying hd]
  cases kk <;> simp only [keyD] at hk <;> first | exact hk.elim | (subst hk; simp only [RepC, List.cons.injEq, and_true] at hu; subst hu; simp)
theorem run_get {w : World} {r : Nat} {es : Array MapEntry} {clock : Nat} (hb : w.heap[r]? = some (.map es clock)) : (getObj r).run P w = .ok (.map es clock) w := by simp [getObj, Sem.run, hb]
theorem run_set {w : World} {r : Nat} {es : Array MapEntry} {clock : Nat} (o : Obj) (hb : w.heap[r]? = some (.map es clock)) : (setObj r o).run P w = .ok () { w with heap := w.heap.setIfInBounds r o } := by simp [setObj, Sem.run, hb]
theorem run_lookup {kk : K} {d : TypeDesc} {t kt vt : TypeId} {F : Nat → Prop} {w : World} {a : D} {u val : Value} {r : Nat} {es : Array MapEntry} {clock : Nat} (hm : P.underlying t = some (.map kt vt)) (hd : P.underlying kt = some d) (hk : keyD kk d) (hu : RepC F w kk a [u])
    (hh : w.heap[r]? = some (.map es clock)) (has : Bool) (hf : (∃ i, Instr.findNow d u es.toList 0 = some (some (i, val)) ∧ has = true) ∨ (Instr.findNow d u es.toList 0 = some none ∧ has = false ∧ (zeroValue vt).run P w = .ok val w)) (ok : Bool) :
    (Instr.lookup t (.map (some r)) u ok).run P w = .ok (if ok then .tuple #[val, .bool has] else val) w := by
  unfold Instr.lookup
  simp only [Sem.run_bind, run_underlying hm, Result.andThen_ok, run_get hh, Sem.run_pure, run_check hd hk hu]
  rcases hf with ⟨i, h1, rfl⟩ | ⟨h1, rfl, h2⟩
  · simp [Instr.findKey, Sem.run_bind, run_underlying hd, h1]
  · simp [Instr.findKey, Sem.run_bind, run_underlying hd, h1, h2]
theorem run_update_has {kk : K} {d : TypeDesc} {t kt vt : TypeId} {F : Nat → Prop} {w : World} {a : D} {u val old : Value} {r i : Nat} {es : Array MapEntry} {e : MapEntry} {clock : Nat} (hm : P.underlying t = some (.map kt vt)) (hd : P.underlying kt = some d) (hk : keyD kk d) (hu : RepC F w kk a [u])
    (hh : w.heap[r]? = some (.map es clock)) (hf : Instr.findNow d u es.toList 0 = some (some (i, old))) (he : es.toList[i]? = some e) (hs : Instr.sameBits 10000 e.key u = true) :
    (Instr.mapUpdate t (.map (some r)) u val).run P w = .ok () { w with heap := w.heap.setIfInBounds r (.map (es.modify i fun e => { e with key := u, val := val }) clock) } := by
  have he' : es[i]? = some e := by simpa using he
  unfold Instr.mapUpdate
  simp only [Sem.run_bind, run_underlying hm, Result.andThen_ok, run_get hh, run_check hd hk hu]
  simp [Instr.findKey, Sem.run_bind, run_underlying hd, hf, Instr.keyThatStays, he', hs, run_set _ hh]
theorem run_update_new {kk : K} {d : TypeDesc} {t kt vt : TypeId} {F : Nat → Prop} {w : World} {a : D} {u val : Value} {r : Nat} {es : Array MapEntry} {clock : Nat} (hm : P.underlying t = some (.map kt vt)) (hd : P.underlying kt = some d) (hk : keyD kk d) (hu : RepC F w kk a [u])
    (hh : w.heap[r]? = some (.map es clock)) (hf : Instr.findNow d u es.toList 0 = some none) :
    (Instr.mapUpdate t (.map (some r)) u val).run P w = .ok () { w with heap := w.heap.setIfInBounds r (.map (es.push { key := u, val := val, born := clock }) (clock + 1)) } := by
  unfold Instr.mapUpdate
  simp only [Sem.run_bind, run_underlying hm, Result.andThen_ok, run_get hh, run_check hd hk hu]
  simp [Instr.findKey, Sem.run_bind, run_underlying hd, hf, run_set _ hh]
theorem all2_modify {α β : Type} {Q : α → β → Prop} {y : α} {f : β → β} : ∀ {l : List α} {m : List β} {i : Nat} {b : β}, All2 Q l m → m[i]? = some b → Q y (f b) → All2 Q (l.set i y) (m.modify i f)
  | _, _, i, b, .nil, h, _ => by simp at h
  | _, _, 0, b, .cons h t, hb, hq => by
    simp only [List.getElem?_cons_zero, Option.some.injEq] at hb
    subst hb
    exact .cons hq t
  | _, _, i + 1, b, .cons h t, hb, hq => .cons h (all2_modify t (by simpa using hb) hq)
theorem makeMap_sound (hT : TblOK P T) {o : Oper} {hp : HpF} {nid : Nat} {k : OK R} {r : R} {t : TypeId} (hop : o.op = .makeMap t none) (h : evMakeMap T t nid k = some r) : ∃ av u seen, k av u seen = some r ∧ OpSound P T o lks hp nid av u seen := by
  unfold evMakeMap at h
  split at h
  · rename_i kt vt hk
    split at h
    · rename_i kk kv h1 h2
      split at h
      · rename_i hkk
        refine ⟨_, _, _, h, ?_⟩
        intro E U lkf hpf σ ac w K Q hs ho hseen hfr hK
        have hn : ¬ U nid := by simpa using hfr 0 (by omega)
        obtain ⟨hs', hcle⟩ := hs.turn [] nid (.map t true []) ⟨.map (some w.heap.size), t⟩ (w.alloc (.map #[] 0)) (fun hu => absurd hu hn) rfl rfl rfl (by rw [alloc_size]; omega)
          (fun b hb _ => grew_alloc w _ b hb) trivial
          (fun b hb => by
            simp only [blk, Option.some.injEq] at hb
            subst hb
            exact ⟨by rw [alloc_size]; omega, .inl (Nat.le_refl _)⟩)
          (fun cle => ⟨rfl, kt, vt, kk, kv, w.heap.size, #[], 0, hk, h1, h2, hkk, rfl, heap_alloc_new w _, .nil⟩)
        have hrun : (execOp ac.eval o).run P w = .ok (.value (.map (some w.heap.size))) (w.alloc (.map #[] 0)) := by
          simp only [execOp, hop]
          rfl
        unfold Oper.wp
        rw [hrun]
        refine hK _ _ _ (fun i => U i ∨ i = nid) (by rw [updF_one]; exact hs') ?_ (show U nid ∨ nid = nid from .inr rfl) (fun i hu => .inl hu) (fun i hu => Or.imp id (fun e => by omega) hu) (fun i hu => if_neg fun (e : i = nid) => hn (by rw [← e]; exact hu))
        rw [updF_one]
        exact ⟨⟨by simp [ctx, turnS, Value.cells], by simp [ctx, turnS, Value.oneCell'], .inr ⟨kt, vt, w.heap.size, hk, by simp [ctx, turnS], by simp [ctx, turnS]⟩⟩, rfl⟩
      · cases h
    · cases h
  · cases h
/-- A map's object. -/
theorem map_obj {E : Ent} {U : Nat → Prop} {lkf : Nat → Option AV} {hpf : HpF} {σ : Nat → Hd} {ac : Act} {w : World} (hs : SRel T.kd E U lkf hpf σ ac w) {i : Nat} {t mt kt vt : TypeId} {fr : Bool} {xs : List D} {x : Value} (hhp : hpf i = some (.map mt fr xs)) (hk : T.kd t = some (.map kt vt))
    (hv : VRel (ctx T.kd E hpf σ w) (.own t i) x) : t = mt ∧ (σ i).t = t ∧ U i ∧ ∃ kk kv r es clock, T.kd kt = some kk ∧ T.kd vt = some kv ∧ kk.key = true ∧ x = .map (some r) ∧ (σ i).v = .map (some r) ∧ w.heap[r]? = some (.map es clock) ∧ All2 (EntRel (fF E hpf σ fr) w kk kv) xs es.toList := by
  obtain ⟨hx, _, hor⟩ := own_val hv
  obtain ⟨ho, hU, _⟩ := hs.obj i _ hhp
  simp only [ORel] at ho
  obtain ⟨h1, kt', vt', kk, kv, r, es, clock, h2, h3, h4, h5, h6, h7, h8⟩ := ho
  have hst : (σ i).t = t := by
    rcases hor with ⟨k, hk'⟩ | ⟨_, _, _, _, h, _⟩
    · have hk' : T.kd t = some (.slice (σ i).t k) := hk'
      rw [hk] at hk'
      cases hk'
    · exact h
  have h1 : (σ i).t = mt := h1
  rw [hst] at h1
  subst h1
  have h2 : T.kd t = some (.map kt' vt') := h2
  rw [hk] at h2
  cases h2
  exact ⟨rfl, hst, hU, kk, kv, r, es, clock, h3, h4, h5, by rw [hx]; exact h6, h6, h7, h8⟩
theorem lookup_sound (hT : TblOK P T) {o : Oper} {hp : HpF} {nid : Nat} {k : OK R} {r : R} {t kt vt : TypeId} {x ix : Operand} {ok : Bool} {a b : AV} (hop : o.op = .lookup t x ix ok) (hk : T.kd t = some (.map kt vt)) (ha : opd T lks t x = some a) (hb : opd T lks kt ix = some b)
    (h : evLookup T t kt vt hp a b ok k = some r) : ∃ av u seen, k av u seen = some r ∧ OpSound P T o lks hp nid av u seen := by
  unfold evLookup at h
  split at h
  · rename_i u i ku fk key kk kv hkk hkv
    split at h
    · rename_i hbq
      simp only [Bool.and_eq_true, Nat.beq_eq] at hbq
      obtain ⟨rfl, rfl, hdat⟩ := hbq
      split at h
      · rename_i mt fr xs hhp
        have go : ∀ (E : Ent) (U : Nat → Prop) (lkf : Nat → Option AV) (hpf : HpF) (σ : Nat → Hd) (ac : Act) (w : World), SRel T.kd E U lkf hpf σ ac w → Opn (ctx T.kd E hpf σ w) ac U lks (tmpsOf o.op) → (∀ j ∈ [i], hpf j = hp j) →
            ∃ val, VRel (ctx T.kd E hpf σ w) (.d vt fr (mapGet kk key xs)) val ∧ (Instr.lookup t (ac.eval x) (ac.eval ix) ok).run P w = .ok (if ok then .tuple #[val, .bool (mapHas kk key xs)] else val) w := fun E U lkf hpf σ ac w hs ho hseen => by
          obtain ⟨hv1, _⟩ := opd_rel (C := ctx T.kd E hpf σ w) rfl ho (memOp (by simp [hop, Op.operands])) ha
          obtain ⟨hv2, _⟩ := opd_rel (C := ctx T.kd E hpf σ w) rfl ho (memOp (by simp [hop, Op.operands])) hb
          have hhpf : hpf i = some (.map mt fr xs) := by rw [hseen i (by simp)]; exact hhp
          obtain ⟨rfl, hst, hU, kk', kv', r, es, clock, h1, h2, h3, h4, h5, h6, h7⟩ := map_obj hs hhpf hk hv1
          rw [hkk] at h1
          cases h1
          rw [hkv] at h2
          cases h2
          obtain ⟨hkr, hka⟩ := v1_of_d (C := ctx T.kd E hpf σ w) hkk hv2
          obtain ⟨d, hd, hkd⟩ := key_desc (hT.ty _ _ hkk) h3
          have hkf := key_flat h3
          have hu : ∃ u, (ac.eval ix).cells.toList = [u] ∧ ac.eval ix = u := by
            obtain ⟨u, hu, _⟩ := rep_single hkr (key_agg h3)
            exact ⟨u, hu, cells_one hu (by rw [hka]; exact key_agg h3)⟩
          obtain ⟨u, hu1, hu2⟩ := hu
          rw [hu1] at hkr
          rw [h4, hu2]
          rcases find_cases (v := .n []) hkd hkr 0 h7 with ⟨j, y, e, g1, g2, g3, g4, g5, g6, g7, g8, g9⟩ | ⟨g1, g2, g3, g4⟩
          · rw [g7, g8]
            exact ⟨e.val, ⟨⟨kv, hkv, g3.2.1⟩, by simpa [AV.aggB, hkv, ctx] using g3.2.2⟩, run_lookup (map_ty (hT.ty _ _ hk)) hd hkd hkr h6 true (.inl ⟨_, g6, rfl⟩) ok⟩
          · obtain ⟨it, z, hit, hsz, hz0, hzc, hzg, hby⟩ := (hT.ty _ _ hkv).info
            rw [g2, g3]
            exact ⟨z, ⟨⟨kv, hkv, (zero_rep _ _ kv hdat).1 _ hzc⟩, by simpa [AV.aggB, hkv, ctx] using hzg⟩, run_lookup (map_ty (hT.ty _ _ hk)) hd hkd hkr h6 false (.inr ⟨g1, rfl, by simp [zeroValue, typeInfo, hit, hz0]⟩) ok⟩
        split at h
        · refine ⟨_, _, _, h, OpSound.val fun E U lkf hpf σ ac w hs ho hseen => ?_⟩
          obtain ⟨val, h1, h2⟩ := go E U lkf hpf σ ac w hs ho hseen
          exact ⟨val, by simp only [execOp, hop, Sem.run_bind, h2, Result.andThen_ok, Sem.run_pure]; rfl, h1, trivial⟩
        · refine ⟨_, _, _, h, OpSound.val fun E U lkf hpf σ ac w hs ho hseen => ?_⟩
          obtain ⟨val, h1, h2⟩ := go E U lkf hpf σ ac w hs ho hseen
          refine ⟨.tuple #[val, .bool (mapHas kk key xs)], by simp only [execOp, hop, Sem.run_bind, h2, Result.andThen_ok, Sem.run_pure]; rfl, ?_, ⟨trivial, trivial, trivial⟩⟩
          exact ⟨[val, .bool (mapHas kk key xs)], rfl, .cons (v1_of_vrel h1 (by simp)) (.cons (v1_of_vrel (mk_bool (x := .b (mapHas kk key xs)) hT.boolT) (by simp)) .nil)⟩
      · cases h
    · cases h
  · cases h
theorem update_sound (hT : TblOK P T) {o : Oper} {hp : HpF} {nid : Nat} {k : OK R} {r : R} {t kt vt : TypeId} {m key v : Operand} {a b c : AV} (hop : o.op = .mapUpdate t m key v) (hk : T.kd t = some (.map kt vt)) (ha : opd T lks t m = some a) (hb : opd T lks kt key = some b) (hc : opd T lks vt v = some c)
    (h : evMapUpdate T t kt vt hp a b c k = some r) : ∃ av u seen, k av u seen = some r ∧ OpSound P T o lks hp nid av u seen := by
  unfold evMapUpdate at h
  split at h
  · rename_i u i ku fk kx vu fv vx
    split at h
    · rename_i kk kv hkk hkv
      split at h
      · rename_i hbq
        simp only [Bool.and_eq_true, Nat.beq_eq] at hbq
        obtain ⟨rfl, rfl, rfl⟩ := hbq
        split at h
        · rename_i mt fr xs hhp
          refine ⟨_, _, _, h, ?_⟩
          intro E U lkf hpf σ ac w K Q hs ho hseen hfr hK
          obtain ⟨hv1, _⟩ := opd_rel (C := ctx T.kd E hpf σ w) rfl ho (memOp (by simp [hop, Op.operands])) ha
          obtain ⟨hv2, _⟩ := opd_rel (C := ctx T.kd E hpf σ w) rfl ho (memOp (by simp [hop, Op.operands])) hb
          obtain ⟨hv3, _⟩ := opd_rel (C := ctx T.kd E hpf σ w) rfl ho (memOp (by simp [hop, Op.operands])) hc
          have hhpf : hpf i = some (.map mt fr xs) := by rw [hseen i (by simp)]; exact hhp
          obtain ⟨rfl, hst, hUi, kk', kv', r, es, clock, h1, h2, h3, h4, h5, h6, h7⟩ := map_obj hs hhpf hk hv1
          rw [hkk] at h1
          cases h1
          rw [hkv] at h2
          cases h2
          obtain ⟨hkr, hka⟩ := v1_of_d (C := ctx T.kd E hpf σ w) hkk hv2
          obtain ⟨hvr, hva⟩ := v1_of_d (C := ctx T.kd E hpf σ w) hkv hv3
          obtain ⟨d, hd, hkd⟩ := key_desc (hT.ty _ _ hkk) h3
          have hkf := key_flat h3
          have hu : ∃ u, (ac.eval key).cells.toList = [u] ∧ ac.eval key = u := by
            obtain ⟨u, hu, _⟩ := rep_single hkr (key_agg h3)
            exact ⟨u, hu, cells_one hu (by rw [hka]; exact key_agg h3)⟩
          obtain ⟨u, hu1, hu2⟩ := hu
          rw [hu1] at hkr
          -- what the machine does
          have hex : ∃ es' clock', (Instr.mapUpdate t (.map (some r)) u (ac.eval v)).run P w = .ok () { w with heap := w.heap.setIfInBounds r (.map es' clock') } ∧
              ∀ (F' : Nat → Prop) (w' : World), (∀ k x cs, RepC (fF E hpf σ fr) w k x cs → RepC F' w' k x cs) → RepC F' w' kv vx (ac.eval v).cells.toList → All2 (EntRel F' w' kk kv) (mapSet kk kx vx xs) es'.toList := by
            rcases find_cases (v := vx) hkd hkr 0 h7 with ⟨j, y, e, g1, g2, g3, g4, g5, g6, g7, g8, g9⟩ | ⟨g1, g2, g3, g4⟩
            · refine ⟨_, _, run_update_has (map_ty (hT.ty _ _ hk)) hd hkd hkr h6 (by simpa using g6) g2 g5, fun F' w' mono hval => ?_⟩
              rw [g9, Array.toList_modify]
              refine all2_modify (h7.imp fun x e _ hr => ⟨mono _ _ _ hr.1, mono _ _ _ hr.2.1, hr.2.2⟩) g2 ⟨?_, hval, hva⟩
              exact (rep_flat hkf).1 _ _ g4
            · refine ⟨_, _, run_update_new (map_ty (hT.ty _ _ hk)) hd hkd hkr h6 g1, fun F' w' mono hval => ?_⟩
              rw [g4, Array.toList_push]
              exact (h7.imp fun x e _ hr => ⟨mono _ _ _ hr.1, mono _ _ _ hr.2.1, hr.2.2⟩).append (.cons ⟨(rep_flat hkf).1 _ _ hkr, hval, hva⟩ .nil)
          obtain ⟨es', clock', hrun, hall⟩ := hex
          have hrlt : r < w.heap.size := (Array.getElem?_eq_some_iff.1 h6).1
          let w' : World := { w with heap := w.heap.setIfInBounds r (.map es' clock') }
          have hwsz : w'.heap.size = w.heap.size := by simp [w']
          obtain ⟨hs', hcle⟩ := hs.turn [] i (.map t (fr && (fv || kv.flat)) (mapSet kk kx vx xs)) (σ i) w' (fun _ => rfl) rfl rfl rfl (by omega)
            (fun b hb hnb => by
              show (w.heap.setIfInBounds r _)[b]? = _
              rw [Array.getElem?_setIfInBounds, if_neg (fun e => hnb i _ hhpf (.inl rfl) (by rw [h5, ← e]; rfl))]) trivial
            (fun b hb => ⟨by rw [hwsz]; exact (hs.trk i _ b hhpf hb).1, .inr ⟨i, _, hhpf, .inl rfl, hb⟩⟩)
            (fun cle => by
              refine ⟨hst, kt, vt, kk, kv, r, es', clock', hk, hkk, hkv, h3, h5, ?_, ?_⟩
              · show (w.heap.setIfInBounds r _)[r]? = _
                rw [Array.getElem?_setIfInBounds]
                simp [hrlt]
              · refine hall _ _ (fun k x cs hr => ?_) ?_
                · exact (rep_mono (w := w') (w' := w') (fun b hb hlt => ⟨fF_le (fun e => by simp only [Bool.and_eq_true] at e; exact e.1) hb, rfl⟩) (Nat.le_refl _) k).1 x cs (cle.rep (fr := fr) hr)
                · by_cases hflat : kv.flat = true
                  · exact (rep_flat hflat).1 _ _ hvr
                  · exact (rep_mono (w := w') (w' := w') (fun b hb hlt => ⟨fF_le (fun e => by
                      simp only [Bool.and_eq_true, Bool.or_eq_true] at e
                      exact e.2.resolve_right hflat) hb, rfl⟩) (Nat.le_refl _) kv).1 _ _ (cle.rep (fr := fv) hvr))
          unfold Oper.wp
          have hexo : (execOp ac.eval o).run P w = .ok .skip w' := by
            simp only [execOp, hop, Sem.run_bind]
            rw [h4, hu2, hrun]
            rfl
          rw [hexo]
          exact hK undef w' _ (fun q => U q ∨ q = i) (by rw [updF_one]; exact hs') (by rw [updF_one]; exact undef_rel) trivial (fun q hq => .inl hq) (fun q hq => .inl (hq.elim id fun e => e ▸ hUi)) (fun q _ => by
            unfold turnS
            split
            · rename_i e; rw [e]
            · rfl)
        · cases h
      · cases h
    · cases h
  · cases h
end
end Go.Ev
