/- The evaluator: store. -/
import Derived.Test.YtpmkecjkbajcgaaGreatDoorEvApp
namespace Go.Ev
open Go
set_option linter.unusedVariables false
set_option linter.unusedSimpArgs false
section
variable {P : Program} {T : Tbl} {C : Ctx} {R : Type} {lks : Nat → Option AV}
theorem run_storeAt {t : TypeId} {k : K} (h : TyOK P T.kd t k) {w : World} {g off : Nat} {c0 c1 c2 : List Value} {e : TypeId} {v : Value} (hl : v.cells.toList.length = k.size) (hl1 : c1.length = k.size) (ho : c0.length = off) (hg : w.heap[g]? = some (.cells (c0 ++ c1 ++ c2).toArray e (0, 0)))
    (h1 : ∀ u ∈ v.cells.toList, u.oneCell' = true) : (Instr.storeAt t (.pointer (some ⟨g, off, none⟩)) v).run P w = .ok () (w.setRow g (c0 ++ v.cells.toList ++ c2).toArray) := by
  have hs : v.cells.size = k.size := by simpa using hl
  have hr := run_storeCells_at P g off e v.cells.toList 0 (c0 ++ c1 ++ c2).toArray w hg (by simp only [List.size_toArray, List.length_append]; omega) h1
  simp only [Instr.storeAt, Instr.sureAddr, pure_bind, storeVar, Sem.run_bind, h.sizeOf w, Result.andThen_ok, hs, ne_eq, not_true_eq_false, if_false]
  rw [hr]
  congr 2
  simp only [Nat.add_zero]
  congr 2
  · congr 1
    rw [List.append_assoc, List.take_append_of_le_length (by omega), List.take_of_length_le (by omega)]
  · subst ho
    rw [hl, ← hl1, ← List.length_append, List.drop_left]
mutual
theorem crel_one {C : Ctx} : ∀ (a : AV) (cs : List Value) (t : TypeId), CRel C a cs → a.fits C.kd t → ∀ u ∈ cs, u.oneCell' = true
  | .undef, cs, t, h, hf, u, hm => by
    unfold AV.fits at hf
    split at hf
    · obtain ⟨_, _, _, h | h | ⟨_, h⟩ | ⟨_, _, h⟩ | ⟨_, _, h⟩⟩ := hf <;> cases h
    · obtain ⟨_, _, h⟩ := hf; cases h
    · exact hf.elim
    · cases hf
  | .d t' fr x, cs, t, h, _, u, hm => by simp only [CRel] at h; obtain ⟨k, _, hr⟩ := h; exact rep_one hr u hm
  | .nil t', cs, t, h, _, u, hm => by simp only [CRel] at h; obtain ⟨rfl, _⟩ := h; simp at hm; subst hm; rfl
  | .own t' i, cs, t, h, _, u, hm => by simp only [CRel] at h; obtain ⟨rfl, h1, _⟩ := h; simp at hm; subst hm; exact h1
  | .cptr t' fr x, cs, t, h, _, u, hm => by simp only [CRel] at h; obtain ⟨k, ad, ds, _, rfl, _⟩ := h; simp at hm; subst hm; rfl
  | .optr t' i j p, cs, t, h, _, u, hm => by simp only [CRel] at h; obtain ⟨g, n, c, o, _, _, _, _, rfl⟩ := h; simp at hm; subst hm; rfl
  | .ptr t' i p, cs, t, h, _, u, hm => by simp only [CRel] at h; obtain ⟨g, o, _, _, rfl⟩ := h; simp at hm; subst hm; rfl
  | .bx t' fr x, cs, t, h, _, u, hm => by simp only [CRel] at h; obtain ⟨ad, ds, rfl, _⟩ := h; simp at hm; subst hm; rfl
  | .nilp, cs, t, h, _, u, hm => by simp only [CRel] at h; subst h; simp at hm; subst hm; rfl
  | .agg t' fs, cs, t, h, _, u, hm => by simp only [CRel] at h; obtain ⟨k, _, _, hr⟩ := h; exact crels_one fs k cs hr u hm
  | .fn g caps, cs, t, h, _, u, hm => by simp only [CRel] at h; obtain ⟨vs, rfl, _⟩ := h; simp at hm; subst hm; rfl
  | .tup xs, cs, t, h, _, u, hm => by simp [CRel] at h
  | .w s b c a, cs, t, h, _, u, hm => by simp [CRel] at h
theorem crels_one {C : Ctx} : ∀ (fs : List AV) (k : K) (cs : List Value), CRels C k fs cs → ∀ u ∈ cs, u.oneCell' = true
  | [], k, cs, h, u, hm => by
    cases k with
    | unit => simp only [CRels] at h; subst h; simp at hm
    | _ => simp [CRels] at h
  | a :: fs, k, cs, h, u, hm => by
    cases k with
    | pair t k r =>
      simp only [CRels] at h
      obtain ⟨c1, c2, rfl, _, hf, h1, h2⟩ := h
      rcases List.mem_append.1 hm with hm | hm
      · exact crel_one a c1 t h1 hf u hm
      · exact crels_one fs r c2 h2 u hm
    | _ => simp [CRels] at h
end
theorem ty_fits {a : AV} {t : TypeId} {C : Ctx} {cs : List Value} (ht : a.ty = some t) (h : CRel C a cs) : a.fits C.kd t := by
  cases a with
  | d t' fr x =>
    simp only [AV.ty, Option.some.injEq] at ht
    subst ht
    simp only [CRel] at h
    obtain ⟨k, hk, hr⟩ := h
    unfold AV.fits
    rw [hk]
    cases k <;> first | rfl | simp [RepC] at hr
  | nil t' =>
    simp only [AV.ty, Option.some.injEq] at ht
    subst ht
    simp only [CRel] at h
    obtain ⟨_, e, k, hk⟩ := h
    unfold AV.fits
    rw [hk]
    rfl
  | own t' i =>
    simp only [AV.ty, Option.some.injEq] at ht
    subst ht
    simp only [CRel] at h
    obtain ⟨_, _, hor⟩ := h
    rcases hor with ⟨k, hk⟩ | ⟨_, _, _, hk, _⟩ <;>
    · unfold AV.fits
      rw [hk]
      rfl
  | agg t' fs =>
    simp only [AV.ty, Option.some.injEq] at ht
    subst ht
    simp only [CRel] at h
    obtain ⟨k, hk, hg, _⟩ := h
    unfold AV.fits
    rw [hk]
    cases k <;> first | rfl | simp [K.agg] at hg
  | _ => simp [AV.ty] at ht
theorem undef_rel {C : Ctx} : VRel C .undef undef := ⟨rfl, rfl⟩
theorem evStore_sound (hT : TblOK P T) {o : Oper} {hp : HpF} {nid : Nat} {t : TypeId} {xa xv : Operand} {x v : AV} {k : OK R} {r : R} (hop : o.op = .store t xa xv) (hxa : opd T lks t xa = some x) (hxv : opd T lks t xv = some v) (h : evStore T t hp x v k = some r) :
    ∃ av u seen, k av u seen = some r ∧ OpSound P T o lks hp nid av u seen := by
  unfold evStore at h
  split at h
  · rename_i u i j p
    split at h
    · rename_i hb
      rw [Nat.beq_eq] at hb
      subst hb
      split at h
      · rename_i tv htv
        split at h
        · rename_i hb
          rw [Nat.beq_eq] at hb
          subst hb
          split at h
          · rename_i e fr xs hhp
            split at h
            · rename_i gf y l htd
              split at h
              · rename_i hml
                have hil : i ∉ l := fun hm => by rw [memN_iff.2 hm] at hml; cases hml
                refine ⟨_, _, _, h, ?_⟩
                intro E U lkf hpf σ ac w K Q hs ho hseen hfr hK
                have hhpf : hpf i = some (.row e fr xs) := by rw [hseen i (by simp)]; exact hhp
                obtain ⟨hor, hUi, _⟩ := hs.obj i _ hhpf
                have hmem : ∀ z, z = xa ∨ z = xv → ∀ q, z = .tmp q → q ∈ tmpsOf o.op := fun z hz q hq => by
                  simp only [tmpsOf, hop, Op.operands]
                  rcases hz with rfl | rfl <;> simp [hq]
                obtain ⟨hv1, _⟩ := opd_rel (C := ctx T.kd E hpf σ w) rfl ho (hmem xa (.inl rfl)) hxa
                obtain ⟨hv2, _⟩ := opd_rel (C := ctx T.kd E hpf σ w) rfl ho (hmem xv (.inr rfl)) hxv
                have hx1 := v1_of_vrel hv1 (by simp)
                simp only [V1, CRel] at hx1
                obtain ⟨⟨g, n, c, off, hσ, h0, hj, hp', hc⟩, hg⟩ := hx1
                have hvx := cells_one hc hg
                have hσ : (σ i).v = .slice (some ⟨g, 0, none⟩) n c := hσ
                have hv2' := v1_of_vrel hv2 (by rintro xs rfl; simp [AV.ty] at htv)
                simp only [ORel] at hor
                obtain ⟨hte, ke, css, hk, hall, hown⟩ := hor
                have hte : (σ i).t = e := hte
                have hk : T.kd e = some ke := hk
                rcases hown with ⟨hln, ⟨hv, _⟩ | ⟨g', cap, cur, hv, h0', hh, hnc, hcm, hcur, htk⟩⟩
                · rw [show (σ i).v = _ from hv] at hσ; simp at hσ
                · rw [show (σ i).v = _ from hv] at hσ
                  simp only [Value.slice.injEq, Option.some.injEq, Addr.mk.injEq, and_true] at hσ
                  obtain ⟨rfl, rfl, rfl⟩ := hσ
                  have hh : w.heap[g']? = some (.cells cur e (0, 0)) := hh
                  have hjl : j.toNat < xs.length := by omega
                  obtain ⟨c0, c1, c2, hfl, hl0, hq, hset⟩ := flatten_at hall (fun x cs h => rep_len h) j.toNat _ (get_nth hjl)
                  have hp' : poff T.kd (σ i).t p = some (off, t) := hp'
                  rw [hte] at hp'
                  obtain ⟨d0, d1, d2, ku, rfl, hl', hku, hr, hdset⟩ := rep_path hT.ty p e ke _ _ off t hk hq hp'
                  have hylen := crel_len (C := ctx T.kd E hpf σ w) hku (ty_fits htv hv2'.1) hv2'.1
                  have hone := crel_one v _ t hv2'.1 (ty_fits htv hv2'.1)
                  have hcure : cur = ((c0 ++ d0) ++ d1 ++ (d2 ++ c2 ++ cur.toList.drop (xs.length * ke.size))).toArray := by
                    apply Array.ext'
                    have := List.take_append_drop (xs.length * ke.size) cur.toList
                    rw [htk, hfl] at this
                    refine this.symm.trans ?_
                    simp [List.append_assoc]
                  have hh' := hh
                  rw [hcure] at hh'
                  have hszT : sizeT T.kd (σ i).t = ke.size := by simp [sizeT, hte, hk]
                  have hrun := run_storeAt (hT.ty _ _ hku) (w := w) (g := g') (off := j.toNat * ke.size + off) (c0 := c0 ++ d0) (c1 := d1) (v := ac.eval xv) hylen (rep_len hr) (by rw [List.length_append, hl0, hl']) hh' hone
                  -- the new state
                  let oq : AO := .row e (fr && gf) (D.setNth xs j.toNat (dset (D.nth xs j.toNat) p y))
                  let w' := w.setRow g' ((c0 ++ d0) ++ (ac.eval xv).cells.toList ++ (d2 ++ c2 ++ cur.toList.drop (xs.length * ke.size))).toArray
                  let F' : Nat → Prop := fF E (turnH hpf l i oq) (turnS σ i (σ i)) (fr && gf)
                  have hts : turnS σ i (σ i) = σ := by
                    funext q
                    unfold turnS
                    split
                    · rename_i e; rw [e]
                    · rfl
                  have htr : ∀ q oo, turnH hpf l i oq q = some oo → q ∉ l ∧ ∃ o', hpf q = some o' := fun q oo hq => by
                    unfold turnH at hq
                    split at hq
                    · rename_i e; subst e; exact ⟨hil, _, hhpf⟩
                    · split at hq
                      · cases hq
                      · rename_i hnl; exact ⟨hnl, _, hq⟩
                  have hF : ∀ b, fF E hpf σ (fr && gf) b → b < w.heap.size → F' b := fun b hb _ => by
                    refine ⟨fun q oo hq => ?_, hb.2⟩
                    rw [hts]
                    obtain ⟨_, o', h'⟩ := htr q oo hq
                    exact hb.1 q o' h'
                  have hgone : ∀ q ∈ l, ∃ o', hpf q = some o' := fun q hq => by
                    obtain ⟨o', h'⟩ := toD_gone v _ _ _ htd q hq
                    exact ⟨o', by rw [hseen q (by simp [hq])]; exact h'⟩
                  have hlF : ∀ q ∈ l, ∀ b, blk (σ q).v = some b → F' b := fun q hq b hb => by
                    obtain ⟨o', h'⟩ := hgone q hq
                    refine ⟨fun q2 oo hq2 => ?_, (hs.trk q o' b h' hb).2.imp id .inl⟩
                    rw [hts]
                    obtain ⟨hn2, o2, h2⟩ := htr q2 oo hq2
                    exact hs.inj q q2 o' o2 b h' h2 (fun e => hn2 (e ▸ hq)) hb
                  have hyr := toD_rel hT hs (F' := F') (fr && gf) hF v gf y l t ku _ htd (fun e => by simp only [Bool.and_eq_true] at e; exact e.2) (fun q hq => hseen q (by simp [hq])) hlF htv hku hv2'.1
                  have hheap : ∀ b, F' b → b < w.heap.size → F' b ∧ w'.heap[b]? = w.heap[b]? := fun b hb _ => by
                    refine ⟨hb, setRow_other w g' b _ ?_⟩
                    rintro rfl
                    refine hb.1 i oq (by simp [turnH]) ?_
                    rw [hts, show (σ i).v = _ from hv]
                    rfl
                  have hwsz : w'.heap.size = w.heap.size := by simp [w', World.setRow]
                  have hyr' := (rep_mono (w := w) (w' := w') hheap (by omega) ku).1 _ _ hyr
                  obtain ⟨hs', hcle⟩ := hs.turn l i oq (σ i) w' (fun _ => rfl) rfl rfl rfl (by omega)
                    (fun b hb hnb => setRow_other w g' b _ (fun e => hnb i _ hhpf (.inl rfl) (by rw [show (σ i).v = _ from hv, e]; rfl))) trivial
                    (fun b hb => ⟨by rw [hwsz]; exact (hs.trk i _ b hhpf hb).1, .inr ⟨i, _, hhpf, .inl rfl, hb⟩⟩)
                    (fun cle => by
                      refine ⟨hte, ke, ?_⟩
                      have hall' : All2 (RepC F' w' ke) xs css := all2_fr (f := fr) (fun e => by simp only [Bool.and_eq_true] at e; exact e.1) (all2_cle cle hall)
                      obtain ⟨c0', c1', c2', hfl', hl0', hq', hset'⟩ := flatten_at hall' (fun x cs h => rep_len h) j.toNat _ (get_nth hjl)
                      have e1 : c0' = c0 ∧ c1' = d0 ++ d1 ++ d2 ∧ c2' = c2 := by
                        rw [hfl] at hfl'
                        have hlc : c1'.length = (d0 ++ d1 ++ d2).length := by rw [rep_len hq', rep_len hq]
                        have h1 := List.append_inj (by simpa [List.append_assoc] using hfl') (by rw [hl0, hl0'] : c0.length = c0'.length)
                        have h2 := List.append_inj (by simpa [List.append_assoc] using h1.2 : (d0 ++ d1 ++ d2) ++ c2 = c1' ++ c2') hlc.symm
                        exact ⟨h1.1.symm, h2.1.symm, h2.2.symm⟩
                      obtain ⟨rfl, rfl, rfl⟩ := e1
                      obtain ⟨e0, e1, e2, ku', he, hle, hku', hre, hdset'⟩ := rep_path hT.ty p e ke _ _ off t hk hq' hp'
                      have : ku' = ku := by rw [hku] at hku'; cases hku'; rfl
                      subst this
                      have e3 : e0 = d0 ∧ e1 = d1 ∧ e2 = d2 := by
                        have h1 := List.append_inj (by simpa [List.append_assoc] using he) (by rw [hl', hle] : d0.length = e0.length)
                        have h2 := List.append_inj h1.2 (by rw [rep_len hr, rep_len hre])
                        exact ⟨h1.1.symm, h2.1.symm, h2.2.symm⟩
                      obtain ⟨rfl, rfl, rfl⟩ := e3
                      obtain ⟨css', hf1, hf2⟩ := hset' _ _ (hdset' y _ hyr')
                      refine ⟨css', hk, ?_, ?_⟩
                      · rw [setNth_eq _ hjl]
                        exact hf2
                      · have hlen2 : (D.setNth xs j.toNat (dset (D.nth xs j.toNat) p y)).length = xs.length := by rw [setNth_eq _ hjl]; simp
                        rw [hlen2]
                        have hfl2 := flatten_len hf2 (fun x cs h => rep_len h)
                        rw [List.length_set] at hfl2
                        refine ⟨hfl2, .inr ⟨g', cap, ((c0' ++ e0) ++ (ac.eval xv).cells.toList ++ (e2 ++ c2' ++ cur.toList.drop (xs.length * ke.size))).toArray, hv, Nat.zero_le _, setRow_heap w g' cur _ e (0, 0) hh, hnc, hcm, ?_, ?_⟩⟩
                        · have hc1 := congrArg Array.size hcure
                          simp only [List.size_toArray, List.length_append] at hc1 ⊢
                          have hyl : (ac.eval xv).cells.toList.length = e1.length := by rw [hylen, rep_len hre]
                          omega
                        · have : ((c0' ++ e0) ++ (ac.eval xv).cells.toList ++ (e2 ++ c2' ++ cur.toList.drop (xs.length * ke.size))).toArray.toList = css'.flatten ++ cur.toList.drop (xs.length * ke.size) := by
                            rw [hf1]; simp [List.append_assoc]
                          rw [this, List.take_append_of_le_length (by omega), List.take_of_length_le (by omega)])
                  unfold Oper.wp
                  have hex : (execOp ac.eval o).run P w = .ok .skip w' := by
                    have hvx' : ac.eval xa = .pointer (some ⟨g', j.toNat * ke.size + off, none⟩) := hvx.trans (by
                      show Value.pointer (some ⟨g', j.toNat * sizeT T.kd (σ i).t + off, none⟩) = _
                      rw [hszT])
                    simp only [execOp, hop, Sem.run_bind]
                    rw [hvx', hrun]
                    rfl
                  rw [hex]
                  refine hK undef w' _ (fun q => U q ∨ q = i) (by rw [updF_put _ _ _ _ hil]; exact hs') (by rw [updF_put _ _ _ _ hil]; exact undef_rel) trivial (fun q hq => .inl hq) (fun q hq => .inl (hq.elim id fun e => e ▸ hUi)) (fun q _ => by
              unfold turnS
              split
              · rename_i e; rw [e]
              · rfl)
              · cases h
            · cases h
          · cases h
        · cases h
      · cases h
    · cases h
  · rename_i u i p
    split at h
    · rename_i hb
      simp only [Bool.and_eq_true, Nat.beq_eq] at hb
      obtain ⟨rfl, hfit⟩ := hb
      split at h
      · rename_i bt b hhp
        split at h
        · rename_i b' hset
          refine ⟨_, _, _, h, ?_⟩
          intro E U lkf hpf σ ac w K Q hs ho hseen hfr hK
          have hhpf : hpf i = some (.box bt b) := by rw [hseen i (by simp)]; exact hhp
          obtain ⟨hor, hUi, hin⟩ := hs.obj i _ hhpf
          have hmem : ∀ z, z = xa ∨ z = xv → ∀ q, z = .tmp q → q ∈ tmpsOf o.op := fun z hz q hq => by
            simp only [tmpsOf, hop, Op.operands]
            rcases hz with rfl | rfl <;> simp [hq]
          obtain ⟨hv1, _⟩ := opd_rel (C := ctx T.kd E hpf σ w) rfl ho (hmem xa (.inl rfl)) hxa
          obtain ⟨hv2, hvin⟩ := opd_rel (C := ctx T.kd E hpf σ w) rfl ho (hmem xv (.inr rfl)) hxv
          have hx1 := v1_of_vrel hv1 (by simp)
          simp only [V1, CRel] at hx1
          obtain ⟨⟨g, off, hσ, hp', hc⟩, hg⟩ := hx1
          have hvx := cells_one hc hg
          have hσ : (σ i).v = .pointer (some ⟨g, 0, none⟩) := hσ
          have hfits := fitsB_fits hfit
          have hv2' := v1_of_vrel hv2 (by rintro xs rfl; simp [fitsB] at hfit; split at hfit <;> simp_all [AV.ty])
          simp only [ORel] at hor
          obtain ⟨hte, g', cs, hv, hh, hln, hbf, hbr⟩ := hor
          rw [show (σ i).v = _ from hv] at hσ
          simp only [Value.pointer.injEq, Option.some.injEq, Addr.mk.injEq, and_true] at hσ
          subst hσ
          have hte : (σ i).t = bt := hte
          have hh : w.heap[g']? = some (.cells cs.toArray bt (0, 0)) := hh
          cases hkb : T.kd bt with
          | none => simp [AV.fits, ctx, hkb] at hbf
          | some kb =>
          have hp' : poff T.kd (σ i).t p = some (off, t) := hp'
          rw [hte] at hp'
          obtain ⟨hb'f, c0, c1, c2, ku, rfl, hl0, hku, hl1, hsetr⟩ := setP_rel (C := ctx T.kd E hpf σ w) hT rfl v p b b' bt kb cs off t hset hkb hbf hbr hp' hfits
          have hylen := crel_len (C := ctx T.kd E hpf σ w) hku hfits hv2'.1
          have hone := crel_one v _ t hv2'.1 hfits
          have hrun := run_storeAt (hT.ty _ _ hku) (w := w) (g := g') (off := off) (c0 := c0) (c1 := c1) (v := ac.eval xv) hylen hl1 hl0 hh hone
          let w' := w.setRow g' (c0 ++ (ac.eval xv).cells.toList ++ c2).toArray
          have hwsz : w'.heap.size = w.heap.size := by simp [w', World.setRow]
          have hnew := hsetr _ hylen hv2'.1
          have hb'in : b'.In U := setP_in hvin hset hin
          obtain ⟨hs', hcle⟩ := hs.turn [] i (.box bt b') (σ i) w' (fun _ => rfl) rfl rfl rfl (by omega)
            (fun b hb hnb => setRow_other w g' b _ (fun e => hnb i _ hhpf (.inl rfl) (by rw [show (σ i).v = _ from hv, e]; rfl))) (AV.In.imp (fun q hq => .inl hq) b' hb'in)
            (fun b hb => ⟨by rw [hwsz]; exact (hs.trk i _ b hhpf hb).1, .inr ⟨i, _, hhpf, .inl rfl, hb⟩⟩)
            (fun cle => ⟨hte, g', c0 ++ (ac.eval xv).cells.toList ++ c2, hv, setRow_heap w g' _ _ bt (0, 0) hh, by
              have hln' : (c0 ++ c1 ++ c2).length = sizeT T.kd bt := hln
              show _ = sizeT T.kd bt
              rw [← hln']
              simp only [List.length_append, hylen, hl1], hb'f, crel_mono cle b' _ hb'in hnew⟩)
          unfold Oper.wp
          have hex : (execOp ac.eval o).run P w = .ok .skip w' := by
            simp only [execOp, hop, Sem.run_bind]
            rw [show ac.eval xa = _ from hvx, hrun]
            rfl
          rw [hex]
          exact hK undef w' _ (fun q => U q ∨ q = i) (by rw [updF_one]; exact hs') (by rw [updF_one]; exact undef_rel) trivial (fun q hq => .inl hq) (fun q hq => .inl (hq.elim id fun e => e ▸ hUi)) (fun q _ => by
              unfold turnS
              split
              · rename_i e; rw [e]
              · rfl)
        · cases h
      · cases h
    · cases h
  · cases h
end
end Go.Ev
