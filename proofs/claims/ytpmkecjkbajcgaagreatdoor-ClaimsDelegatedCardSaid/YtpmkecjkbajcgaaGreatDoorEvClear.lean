/- The evaluator: clear(s[i:]) of a row of one's own. -/
import Derived.Test.YtpmkecjkbajcgaaGreatDoorEvKit
namespace Go.Ev
open Go
set_option linter.unusedVariables false
set_option linter.unusedSimpArgs false
/-- What it computes: the number, the row. -/
def clearRow (ds : List D) : Option (Nat × List D) :=
  bif inB (D.nth ds 0).int ((D.nth ds 1).list.length + 1) then
    some (0, [.n ((D.nth ds 1).list.take (D.nth ds 0).int.toNat ++ List.replicate ((D.nth ds 1).list.length - (D.nth ds 0).int.toNat) (.n []))])
  else none
theorem put_get {a : Act} {d : Nat} {v : Value} (h : d < a.tmps.size) : (a.put (some d) v).tmps.getD d undef = v := by
  simp [Act.put, Array.getD_eq_getD_getElem?, h]
theorem all2_app_rep {Q : D → List Value → Prop} {z : D} {c : List Value} (hz : Q z c) : ∀ (n : Nat), All2 Q (List.replicate n z) (List.replicate n c)
  | 0 => .nil
  | n + 1 => .cons hz (all2_app_rep hz n)
theorem flat_rep {c : List Value} : ∀ (n : Nat), (List.replicate n c).flatten.length = n * c.length
  | 0 => by simp
  | n + 1 => by simp [List.replicate_succ, flat_rep n, Nat.succ_mul, Nat.add_comm]
theorem run_clear0 {P : Program} {t e ty : TypeId} (h : P.underlying t = some (.slice e)) (A : Option Addr) (c : Nat) (w : World) : (Builtin.clear_ #[t] ty #[.slice A 0 c]).run P w = .ok (.tuple #[]) w := by
  cases A <;> simp [Builtin.clear_, run_underlying h]
theorem run_clearN {P : Program} {t e ty : TypeId} (h : P.underlying t = some (.slice e)) {z : Value} (hz : ∀ w, (zeroValue e).run P w = .ok z w) (g o n c : Nat) (hn : n ≠ 0) (w : World) {cur : Array Value} (hh : w.heap[g]? = some (.cells cur e (0, 0))) (hl : o + n * z.cells.size ≤ cur.size) (h1 : ∀ v ∈ z.cells.toList, v.oneCell' = true) :
    ∃ vs : List Value, vs = (madeCells z.cells (n * z.cells.size)).toList ∧ (Builtin.clear_ #[t] ty #[.slice (some ⟨g, o, none⟩) n c]).run P w = .ok (.tuple #[]) (w.setRow g (cur.toList.take o ++ vs ++ cur.toList.drop (o + vs.length)).toArray) := by
  refine ⟨_, rfl, ?_⟩
  obtain ⟨m, rfl⟩ : ∃ m, n = m + 1 := ⟨n - 1, by omega⟩
  have hzc : (Builtin.zeroCells z.cells (m + 1)).toList = (madeCells z.cells ((m + 1) * z.cells.size)).toList := rfl
  obtain ⟨css, hf, _, hcs⟩ := madeCells_zero (z := z.cells) (n := m + 1) rfl
  have hone : ∀ v ∈ (madeCells z.cells ((m + 1) * z.cells.size)).toList, v.oneCell' = true := fun v hv => by
    rw [← hf] at hv
    obtain ⟨c, hc, hv⟩ := List.mem_flatten.1 hv
    rw [hcs c hc] at hv
    exact h1 v hv
  have hst := run_storeCells_at (P := P) g o e (madeCells z.cells ((m + 1) * z.cells.size)).toList 0 cur w hh (by simpa [size_madeCells] using hl) hone
  simp only [Nat.add_zero] at hst
  simp [Builtin.clear_, run_underlying h, hz, hzc, hst]
theorem clear_thm {P : Program} {T : Tbl} (hT : TblOK P T) {nt : Nat} {c : Code} {u : Cut} {id sa sb ta tb tc t ti i e : Nat} {ik : IntKind} {ke : K} {fr0 fr : Bool} {ty1 ty2 ty3 ty4 : TypeId} {p1 p2 p3 p4 : String} {a1 a2 a3 a4 : Array Edge}
    (hc : c = .region id #[⟨some ta, .move (.tmp sa), ty1, p1, a1, none⟩, ⟨some tb, .move (.tmp sb), ty2, p2, a2, none⟩, ⟨some tc, .slice t (.tmp ta) (some (.tmp tb)) none none, ty3, p3, a3, none⟩, ⟨none, .call ⟨.builtin .clear, #[.tmp tc], #[t]⟩, ty4, p4, a4, none⟩] false)
    (hsh : u.sh = { sl := [(sa, .own t i), (sb, .d ti fr0)], ob := [(i, .row e fr)] }) (hk : u.kept = [i]) (ho : u.outs = [(.normal, { sl := [], ob := [(i, .row e fr)] })]) (hf : u.f = clearRow) (ht : T.kd t = some (.slice e ke)) (hti : T.kd ti = some (.int ik)) (hdat : ke.data = true)
    (hi : Nat.blt i 16 = true) (hd : (Nat.blt ta nt && Nat.blt tb nt && Nat.blt tc nt && !Nat.beq ta tb && !Nat.beq sb ta && !Nat.beq sa sb) = true) : CutOK P T nt c u := by
  subst hc
  simp only [Bool.and_eq_true, Bool.not_eq_true', Nat.blt_eq] at hd hi
  obtain ⟨⟨⟨⟨⟨h1, h2⟩, h3⟩, h4⟩, h5⟩, h6⟩ := hd
  have h4 : ta ≠ tb := by rintro rfl; simp at h4
  have h5 : sb ≠ ta := by rintro rfl; simp at h5
  have h6 : sa ≠ sb := by rintro rfl; simp at h6
  have hsm : u.sh.small = true := by rw [hsh]; simp [Shape.small, SV.small, SO.small, nodupK, hi, Nat.blt_eq]; cases hb : sb.beq sa with | false => rfl | true => exact absurd (beq_to hb).symm h6
  refine ⟨hsm, ?_, ?_⟩
  · intro p hp
    rw [ho] at hp
    simp only [List.mem_singleton] at hp
    subst hp
    simp [Shape.small, SO.small, nodupK, hi, Nat.blt_eq]
  intro ds out hout ro E σ a w hro hs hnt Q hQ
  rw [hf] at hout
  unfold clearRow at hout
  generalize hx : (D.nth ds 0).int = x at hout
  generalize hxs : (D.nth ds 1).list = xs at hout
  cases hin : inB x (xs.length + 1) with
  | false => rw [hin] at hout; cases hout
  | true =>
  rw [hin] at hout
  simp only [cond_true, Option.some.injEq] at hout
  obtain ⟨hx0, hxl⟩ := inB_iff hin
  rw [hsh] at hs
  have hfill : fill { sl := [(sa, .own t i), (sb, .d ti fr0)], ob := [(i, .row e fr)] } ds = ([(sa, .own t i), (sb, .d ti fr0 (D.nth ds 0))], [(i, .row e fr xs)]) := by
    simp [fill, fillSl, fillV, fillOb, fillO, hxs]
  rw [hfill] at hs
  obtain ⟨⟨va, hva, hvr⟩, _⟩ := hs.slot sa (.own t i) (by simp [lk_cons])
  obtain ⟨⟨vb, hvb, hvbr⟩, _⟩ := hs.slot sb (.d ti fr0 (D.nth ds 0)) (by simp [lk_cons, h6])
  obtain ⟨hva', _, _⟩ := own_val hvr
  have hvb' := rep_int (C := ctx T.kd E (lk [(i, .row e fr xs)]) σ w) hti hvbr
  have hhp : lk [(i, AO.row e fr xs)] i = some (.row e fr xs) := by simp [lk_cons]
  obtain ⟨hor, _, _⟩ := hs.obj i _ hhp
  simp only [ORel] at hor
  obtain ⟨hte, ke', css, hke, hall, hown⟩ := hor
  have hes := slice_elem (hT.ty _ _ ht)
  have : ke' = ke := by
    have h : T.kd e = some ke' := hke
    rw [hes.2] at h
    cases h
    rfl
  subst this
  have hsz : a.tmps.size ≥ nt := hnt
  -- what is left: the state behind it
  let ys : List D := xs.take x.toNat ++ List.replicate (xs.length - x.toNat) (.n [])
  have hfin : ∀ (w' : World) (v3 v4 : Value), SRel T.kd E (fun j => j < 16 ∨ j = i) (lk [(sa, .own t i), (sb, .d ti fr0 (D.nth ds 0))]) (turnH (lk [(i, .row e fr xs)]) [] i (.row e fr ys)) σ a w' →
      Q .normal ((((a.put (some ta) va).put (some tb) vb).put (some tc) v3).put none v4) w' := fun w' v3 v4 hs' => by
    have := hQ .normal { sl := [], ob := [(i, .row e fr)] } σ ((((a.put (some ta) va).put (some tb) vb).put (some tc) v3).put none v4) w' (by rw [ho]; rfl) ?_ ?_ ?_ (fun _ _ => rfl)
    · exact this
    · rw [← hout]
      have hfl : fill { sl := [], ob := [(i, .row e fr)] } [.n ys] = ([], [(i, .row e fr ys)]) := rfl
      show SRel T.kd E (· < 16) (lk (fill { sl := [], ob := [(i, .row e fr)] } [.n ys]).1) (lk (fill { sl := [], ob := [(i, .row e fr)] } [.n ys]).2) σ _ w'
      rw [hfl]
      have heq : turnH (lk [(i, AO.row e fr xs)]) [] i (.row e fr ys) = lk [(i, .row e fr ys)] := by
        funext j
        simp only [turnH, lk_cons]
        by_cases hj : j = i
        · subst hj; simp
        · rw [if_neg hj, if_neg (Ne.symm hj), if_neg (Ne.symm hj)]
          simp [lk]
      rw [heq] at hs'
      refine ⟨fun t av h => by simp [lk] at h, fun j o hj => ?_, hs'.inj, hs'.trk, hs'.grew, ?_⟩
      · obtain ⟨h7, h8, h9⟩ := hs'.obj j o hj
        refine ⟨h7, ?_, AO.In.imp (fun k hk => hk.elim (fun h => h) fun e => by subst e; exact hi) o h9⟩
        rcases h8 with h8 | rfl
        · exact h8
        · exact hi
      · exact hs'.defers
    · simp [Act.put]
    · intro q hq
      have hq' : q ≠ ta ∧ q ≠ tb ∧ q ≠ tc := by
        simp [wr] at hq
        exact hq
      show (((a.put (some ta) va).put (some tb) vb).put (some tc) v3).tmps[q]? = a.tmps[q]?
      rw [put_other (by simp [Ne.symm hq'.2.2]), put_other (by simp [Ne.symm hq'.2.1]), put_other (by simp [Ne.symm hq'.1])]
  have hgets : ∀ (a' : Act) s v, a'.tmps[s]? = some v → a'.tmps.getD s undef = v := fun a' s v h => by simp [Array.getD_eq_getD_getElem?, h]
  refine wpIn_region_list ?_
  refine wpListIn_plain rfl fun K1 hK1 => ?_
  refine opIn ro (fun _ h => by cases h) ?_
  show K1 (a.put (some ta) (a.tmps.getD sa undef)) w
  rw [hgets _ _ _ hva]
  refine hK1 _ _ (wpListIn_plain rfl fun K2 hK2 => ?_)
  refine opIn ro (fun _ h => by cases h) ?_
  show K2 ((a.put (some ta) va).put (some tb) ((a.put (some ta) va).tmps.getD sb undef)) w
  rw [hgets _ _ vb (by rw [put_other (by simp [Ne.symm h5])]; exact hvb)]
  refine hK2 _ _ (wpListIn_plain rfl fun K3 hK3 => ?_)
  refine opIn ro (fun _ h => by cases h) ?_
  have e1 : ((a.put (some ta) va).put (some tb) vb).tmps.getD ta undef = va := hgets _ _ _ (by rw [put_other (by simp [Ne.symm h4])]; simp [Act.put, show ta < a.tmps.size by omega])
  have e2 : ((a.put (some ta) va).put (some tb) vb).tmps.getD tb undef = vb := put_get (by rw [put_size]; omega)
  have hslice : ∀ (A : Option Addr) (n cap : Nat), va = .slice A n cap → n = xs.length → n ≤ cap → K3 (((a.put (some ta) va).put (some tb) vb).put (some tc) (.slice (if cap = x.toNat then A else A.map (·.add (x.toNat * ke'.size))) (n - x.toNat) (cap - x.toNat))) w →
      Oper.wp P ⟨some tc, .slice t (.tmp ta) (some (.tmp tb)) none none, ty3, p3, a3, none⟩ ((a.put (some ta) va).put (some tb) vb) w K3 Q := fun A n cap hv hn hnc hK => by
    have hr := run_sliceD (P := P) (T := T) (hT.ty _ _ ht) (hT.ty _ _ hes.2) w A n cap (some vb) none x.toNat n (.inr ⟨ik, by rw [hvb', Int.toNat_of_nonneg hx0, ← hx]⟩) (.inl ⟨rfl, rfl⟩) (by omega) hnc
    unfold Oper.wp
    simp only [execOp, Act.eval, e1, e2, Option.map_some, Option.map_none, Sem.run_bind]
    rw [hv] at hK ⊢
    simp only [Sem.run_bind, hr, Result.andThen_ok, Sem.run_pure, Oper.upon_value]
    exact hK
  have hclear : ∀ (v3 : Value) (w' : World) (b : Act), (Builtin.clear_ #[t] ty4 #[v3]).run P w = .ok (.tuple #[]) w' → b.tmps.getD tc undef = v3 → ∀ K4 : Act → World → Prop, K4 (b.put none (.tuple #[])) w' →
      Oper.wp P ⟨none, .call ⟨.builtin .clear, #[.tmp tc], #[t]⟩, ty4, p4, a4, none⟩ b w K4 Q := fun v3 w' b hr hb K4 hK => by
    unfold Oper.wp
    rw [exec_builtin rfl rfl]
    simp only [builtin, Act.eval, List.map_toArray, List.map_cons, List.map_nil, hb, Sem.run_bind, hr, Result.andThen_ok, Sem.run_pure, Oper.upon_value]
    exact hK
  have hts : turnS σ i (σ i) = σ := by
    funext q
    unfold turnS
    split
    · rename_i e; rw [e]
    · rfl
  have hturn : ∀ (w' : World), w'.os = w.os → w'.tape = w.tape → w'.output = w.output → w.heap.size = w'.heap.size → (∀ b, b < w.heap.size → blk (σ i).v ≠ some b → w'.heap[b]? = w.heap[b]?) →
      (CLe (ctx T.kd E (lk [(i, .row e fr xs)]) σ w) (ctx T.kd E (turnH (lk [(i, .row e fr xs)]) [] i (.row e fr ys)) σ w') (· < 16) → ORel (ctx T.kd E (turnH (lk [(i, .row e fr xs)]) [] i (.row e fr ys)) σ w') (.row e fr ys) (σ i)) →
      SRel T.kd E (fun j => j < 16 ∨ j = i) (lk [(sa, .own t i), (sb, .d ti fr0 (D.nth ds 0))]) (turnH (lk [(i, .row e fr xs)]) [] i (.row e fr ys)) σ a w' := fun w' q1 q2 q3 q4 q5 q6 => by
    have := hs.turn [] i (.row e fr ys) (σ i) w' (fun _ => rfl) q1 q2 q3 (by omega) (fun b hb hnb => q5 b hb (hnb i _ hhp (.inl rfl))) trivial
      (fun b hb => ⟨by rw [← q4]; exact (hs.trk i _ b hhp hb).1, .inr ⟨i, _, hhp, .inl rfl, hb⟩⟩) (by rw [hts]; exact q6)
    rw [hts] at this
    exact this.1
  have hall' := hall
  rcases hown with ⟨hln, ⟨hv, hx0'⟩ | ⟨g, cap, cur, hv, _, hh, hnc, hcm, hcur, htk⟩⟩
  · have hv : (σ i).v = .slice none 0 0 := hv
    have hva2 : va = .slice none 0 0 := hva'.trans hv
    have hxs0 : xs = [] := List.length_eq_zero_iff.1 hx0'
    have hxz : x.toNat = 0 := by rw [hxs0] at hxl; simp at hxl; omega
    refine hslice none 0 0 hva2 (by rw [hxs0]; rfl) (Nat.le_refl _) (hK3 _ _ (wpListIn_plain rfl fun K4 hK4 => ?_))
    refine opIn ro (fun _ h => by cases h) ?_
    refine hclear _ w _ ?_ (put_get (by rw [put_size, put_size]; omega)) K4 (hK4 _ _ (wpListIn_nil (hfin w _ _ ?_)))
    · rw [hxz]
      simp [Builtin.clear_, run_underlying hes.1]
    · refine hturn w rfl rfl rfl rfl (fun _ _ _ => rfl) fun _ => ?_
      refine ⟨hte, ke', [], hke, ?_, ?_⟩
      · simp only [ys, hxs0, List.take_nil, List.length_nil, Nat.zero_sub, List.replicate_zero, List.append_nil]
        exact .nil
      · refine ⟨?_, .inl ⟨hv, ?_⟩⟩ <;> simp [ys, hxs0]
  · have hv : (σ i).v = .slice (some ⟨g, 0, none⟩) xs.length cap := hv
    have hh : w.heap[g]? = some (.cells cur e (0, 0)) := hh
    have hva2 : va = .slice (some ⟨g, 0, none⟩) xs.length cap := hva'.trans hv
    have hxn : x.toNat ≤ xs.length := by omega
    have hlen := flatten_len hall (fun x cs h => rep_len h)
    refine hslice _ _ cap hva2 rfl hnc (hK3 _ _ (wpListIn_plain rfl fun K4 hK4 => ?_))
    refine opIn ro (fun _ h => by cases h) ?_
    by_cases hz : xs.length - x.toNat = 0
    · -- nothing to clear
      refine hclear _ w _ ?_ (put_get (by rw [put_size, put_size]; omega)) K4 (hK4 _ _ (wpListIn_nil (hfin w _ _ ?_)))
      · rw [hz]
        exact run_clear0 hes.1 _ _ w
      · have hys : ys = xs := by
          simp only [ys, hz, List.replicate_zero, List.append_nil]
          exact List.take_of_length_le (by omega)
        refine hturn w rfl rfl rfl rfl (fun _ _ _ => rfl) fun cle => ?_
        rw [hys] at cle ⊢
        exact ⟨hte, ke', css, hke, all2_cle cle hall, hlen, .inr ⟨g, cap, cur, hv, Nat.zero_le _, hh, hnc, hcm, hcur, htk⟩⟩
    · obtain ⟨it, z, hit, hszi, hz0, hzc, hzg, hby⟩ := (hT.ty _ _ hes.2).info
      have hzv : ∀ w, (zeroValue e).run P w = .ok z w := fun w => by simp [zeroValue, typeInfo, hit, hz0]
      have hzs : z.cells.size = ke'.size := by have := (zero_len ke').1 _ hzc; simpa using this
      have hzr := (zero_rep (fun _ => False) w ke' hdat).1 _ hzc
      have hzone := rep_one hzr
      have hcn : cap ≠ x.toNat := by omega
      have hmul : xs.length * ke'.size = x.toNat * ke'.size + (xs.length - x.toNat) * ke'.size := by rw [← Nat.add_mul]; congr 1; omega
      have hcapm : xs.length * ke'.size ≤ cap * ke'.size := Nat.mul_le_mul_right _ hnc
      have hadd : (⟨g, 0, none⟩ : Addr).add (x.toNat * ke'.size) = ⟨g, x.toNat * ke'.size, none⟩ := by unfold Addr.add; split <;> simp_all
      obtain ⟨vs, hvs, hrun⟩ := run_clearN (ty := ty4) hes.1 hzv g (x.toNat * ke'.size) (xs.length - x.toNat) (cap - x.toNat) hz w hh (by rw [hzs, hcur]; omega) hzone
      obtain ⟨zss, hzf, hzl, hzall⟩ := madeCells_zero (z := z.cells) (n := xs.length - x.toNat) rfl
      have hvl : vs.length = (xs.length - x.toNat) * ke'.size := by rw [hvs, ← hzs]; simp [size_madeCells]
      let cur' : Array Value := (cur.toList.take (x.toNat * ke'.size) ++ vs ++ cur.toList.drop (x.toNat * ke'.size + vs.length)).toArray
      have hcurl : cur'.size = cur.size := by
        have : cur.toList.length = cur.size := by simp
        simp only [cur', List.size_toArray, List.length_append, List.length_take, List.length_drop, hvl]
        omega
      refine hclear _ (w.setRow g cur') _ ?_ (put_get (by rw [put_size, put_size]; omega)) K4 (hK4 _ _ (wpListIn_nil (hfin _ _ _ ?_)))
      · rw [if_neg hcn, Option.map_some, hadd]
        exact hrun
      · refine hturn _ rfl rfl rfl (by simp [World.setRow]) (fun b hb hne => setRow_other w g b _ (fun e => hne (by rw [hv, e]; rfl))) fun cle => ?_
        have hysl : ys.length = xs.length := by simp [ys]; omega
        refine ⟨hte, ke', css.take x.toNat ++ zss, hke, ?_, ?_⟩
        · refine All2.append ((all2_cle cle hall).take _) ?_
          have : zss = List.replicate (xs.length - x.toNat) z.cells.toList := List.eq_replicate_iff.2 ⟨hzl, hzall⟩
          rw [this]
          exact all2_app_rep ((zero_rep _ _ ke' hdat).1 _ hzc) _
        · have hflat : (css.take x.toNat ++ zss).flatten = cur.toList.take (x.toNat * ke'.size) ++ vs := by
            rw [List.flatten_append, hzf, ← hvs, flatten_take hall (fun x cs h => rep_len h), ← htk, List.take_take, Nat.min_eq_left (by omega)]
          rw [hysl, hflat]
          have hl1 : (cur.toList.take (x.toNat * ke'.size) ++ vs).length = xs.length * ke'.size := by
            have : cur.toList.length = cur.size := by simp
            rw [List.length_append, List.length_take, hvl]
            omega
          refine ⟨hl1, .inr ⟨g, cap, cur', hv, Nat.zero_le _, setRow_heap w g cur _ e (0, 0) hh, hnc, hcm, by rw [hcurl]; exact hcur, ?_⟩⟩
          simp only [cur']
          rw [List.take_append_of_le_length (by omega), List.take_of_length_le (by omega)]
end Go.Ev
