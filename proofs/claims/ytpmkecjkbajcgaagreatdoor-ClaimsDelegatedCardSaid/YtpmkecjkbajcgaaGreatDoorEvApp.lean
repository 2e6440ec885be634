/- The evaluator: append, store, literals of slices. -/
import Derived.Test.YtpmkecjkbajcgaaGreatDoorEvMake
namespace Go.Ev
open Go
set_option linter.unusedVariables false
set_option linter.unusedSimpArgs false
section
variable {P : Program} {T : Tbl} {C : Ctx} {R : Type} {lks : Nat → Option AV}
/-- 'append', whatever is appended. -/
theorem run_appendX (st xt ty e : TypeId) (i : TypeInfo) (z : Value) (ht : P.underlying st = some (.slice e)) (hxt : (∃ e', P.underlying xt = some (.slice e')) ∨ P.underlying xt = some .string)
    (hi : P.info? e = some i) (hz : i.zero = some z) (hzs : z.cells.size = i.size) (w : World) (v : Value) (n : Nat) (xs : List Value) (hown : w.ownsRow 0 e i.size v n xs) (x : Value) (m : Nat) (news : List Value)
    (hl : news.length = m * i.size) (hlen : ∀ w1, (Builtin.lenOf x).run P w1 = .ok m w1) (hnews : ∀ w1 : World, w1.heap = w.heap → (Builtin.firstCells i.size m x).run P w1 = .ok news.toArray w1) (h1 : ∀ u ∈ news, u.oneCell' = true)
    (h63 : n + m ≤ maxLen) (hbytes : (n + m) * i.bytes ≤ 140737488355328) :
    ∃ v' w', (Builtin.append_ #[st, xt] ty #[v, x]).run P w = .ok v' w' ∧ w'.ownsRow 0 e i.size v' (n + m) (xs ++ news) ∧ w.grownBy w' v.ownBlock ∧ (∀ b, blk v' = some b → w.heap.size ≤ b ∨ blk v = some b) := by
  have hsmall : n + m ≤ 9223372036854775807 := by simp only [maxLen] at h63; omega
  have hlen' : (xs ++ news).length = (n + m) * i.size := by rw [List.length_append, hown.1, hl, Nat.add_mul]
  have grown : ∀ (old : Nat), old < n + m → ∀ (row : Option Nat),
      (w.drew.alloc (.cells (xs.toArray ++ news.toArray ++ Builtin.zeroCells z.cells (grownCap w (n + m) old e - (n + m))) e)).ownsRow 0 e i.size
        (.slice (some ⟨w.heap.size, 0, none⟩) (n + m) (grownCap w (n + m) old e)) (n + m) (xs ++ news) ∧
      w.grownBy (w.drew.alloc (.cells (xs.toArray ++ news.toArray ++ Builtin.zeroCells z.cells (grownCap w (n + m) old e - (n + m))) e)) row := by
    intro old ho row
    have hge := grownCap_ge w (n + m) old e
    have hcm : grownCap w (n + m) old e ≤ maxLen := grownCap_le_maxLen w (n + m) old e h63
    refine ⟨⟨hlen', .inr ⟨w.heap.size, _, _, rfl, Nat.zero_le _, heap_alloc_new w.drew _, hge, hcm, ?_, ?_⟩⟩, ⟨rfl, rfl, rfl, by simp, fun k hk _ => heap_alloc_old w.drew _ hk⟩⟩
    · simp only [Array.size_append, List.size_toArray, size_zeroCells, hzs, hown.1, hl, ← Nat.add_mul]
      congr 1
      omega
    · simp only [Array.toList_append, List.append_assoc]
      rw [← List.append_assoc, ← hlen']
      exact List.take_left
  rcases hown.2 with ⟨rfl, rfl⟩ | ⟨g, cap, cur, rfl, hbg, hg, hnc, hcm, hcs, htake⟩
  · have hx : xs = [] := List.eq_nil_of_length_eq_zero (by simpa using hown.1)
    subst hx
    by_cases hm : m = 0
    · subst hm
      have hn : news = [] := List.eq_nil_of_length_eq_zero (by simpa using hl)
      subst hn
      refine ⟨.slice none 0 0, w, ?_, World.ownsRow_nil w 0 e i.size, ⟨rfl, rfl, rfl, Nat.le_refl _, fun _ _ _ => rfl⟩, fun b hb => by simp [blk] at hb⟩
      have hf := hnews w rfl
      rcases hxt with ⟨e', hxt⟩ | hxt <;> simp [Builtin.append_, run_underlying ht, run_underlying hxt, sizeOf, typeInfo, hi, hlen, hf]
    · have hn : m ≠ 0 := hm
      have h63' : ¬ (9223372036854775807 < (m : Int)) := by omega
      have h48' : ¬ (281474976710656 < Builtin.nextslicecap m 0 * i.bytes) := by
        have := growslice_fits (need := m) (old := 0) (bytes := i.bytes) (by omega) (by simpa using hbytes)
        omega
      have hf := hnews w.drew rfl
      have hgr := grown 0 (by omega) (Value.ownBlock (.slice none 0 0))
      simp only [Nat.zero_add, List.nil_append, Array.empty_append] at hgr ⊢
      refine ⟨_, _, ?_, hgr.1, hgr.2, fun b hb => ?_⟩
      · rcases hxt with ⟨e', hxt⟩ | hxt <;> simp [Builtin.append_, run_underlying ht, run_underlying hxt, sizeOf, typeInfo, zeroValue, hi, hz, hlen, hn, h63', h48', Question.forced, hf, newRow, grownCap, run_firstCells_none]
      · simp only [blk, Option.some.injEq] at hb
        exact .inl (by omega)
  · by_cases hroom : n + m ≤ cap
    · have hfit : n * i.size + news.length ≤ cur.size := by rw [hl, hcs, ← Nat.add_mul]; exact Nat.mul_le_mul_right _ hroom
      have hf := hnews w rfl
      have hst := run_storeCells_at P g (n * i.size) e news 0 cur w hg (by simpa using hfit) h1
      have hadd : (⟨g, 0, none⟩ : Addr).add (n * i.size) = ⟨g, n * i.size, none⟩ := by unfold Addr.add; split <;> simp_all
      refine ⟨.slice (some ⟨g, 0, none⟩) (n + m) cap, w.setRow g (cur.toList.take (n * i.size) ++ news ++ cur.toList.drop (n * i.size + news.length)).toArray, ?_, ⟨hlen', .inr ⟨g, cap, _, rfl, hbg, setRow_heap w g cur _ e _ hg, hroom, hcm, ?_, ?_⟩⟩, ⟨rfl, rfl, rfl, by simp, fun k _ hk => setRow_other w g k _ (fun e => hk (by simp [Value.ownBlock, e]))⟩, fun b hb => ?_⟩
      · rcases hxt with ⟨e', hxt⟩ | hxt <;> simp [Builtin.append_, run_underlying ht, run_underlying hxt, sizeOf, typeInfo, hi, hlen, hroom, hf, hadd] <;> simpa using congrArg (fun r => r.andThen fun _ w' => Result.ok (Value.slice (some ⟨g, 0, none⟩) (n + m) cap) w') hst
      · simp only [List.size_toArray, List.length_append, List.length_take, List.length_drop, Array.length_toList]
        omega
      · rw [htake, ← hlen']
        exact List.take_left
      · exact .inr hb
    · have holds : ∀ j u, xs[j]? = some u → w.cell? ((⟨g, 0, none⟩ : Addr).add j) = some u := hown.cells (g := g) rfl
      have hn : ¬ (n + m ≤ cap) := hroom
      have h63' : ¬ (9223372036854775807 < ((n : Int) + (m : Int))) := by omega
      have h48' : ¬ (281474976710656 < Builtin.nextslicecap (n + m) cap * i.bytes) := by
        have := growslice_fits (need := n + m) (old := cap) (bytes := i.bytes) (by omega) hbytes
        omega
      have hf := hnews w.drew rfl
      have hfo := run_firstCells_some (P := P) w.drew i.size n ⟨g, 0, none⟩ n cap xs hown.1 (by simpa using holds)
      have hgr := grown cap (by omega) (Value.ownBlock (.slice (some ⟨g, 0, none⟩) n cap))
      refine ⟨_, _, ?_, hgr.1, hgr.2, fun b hb => ?_⟩
      · rcases hxt with ⟨e', hxt⟩ | hxt <;> simp [Builtin.append_, run_underlying ht, run_underlying hxt, sizeOf, typeInfo, zeroValue, hi, hz, hlen, hn, h63', h48', Question.forced, hf, hfo, newRow, grownCap] <;> (congr 2; apply Array.ext'; simp [List.append_assoc])
      · simp only [blk, Option.some.injEq] at hb
        exact .inl (by omega)
theorem updF_app (hp : HpF) (q : Nat) (oq : AO) : ∀ (l : List Nat), updF hp (drops l ++ [(q, some oq)]) = turnH hp l q oq := fun l => by
  have : ∀ (l : List Nat) (hp : HpF), updF hp (drops l ++ [(q, some oq)]) = updF (updF hp (drops l)) [(q, some oq)] := fun l => by
    induction l with
    | nil => intro hp; rfl
    | cons a l ih => intro hp; simp only [drops, List.cons_append, updF]; exact ih _
  rw [this, updF_drops, updF_one]
  funext i
  simp [turnH]
theorem rowOf_rel {E : Ent} {U : Nat → Prop} {lkf : Nat → Option AV} {hp hpf : HpF} {σ : Nat → Hd} {a : Act} {w : World} (hs : SRel T.kd E U lkf hpf σ a w) {s : AV} {t : TypeId} {fi : Bool} {xs : List D} {gone : List Nat} {e : TypeId} {ke : K} {v : Value}
    (h : rowOf hp s = some (t, fi, xs, gone)) (hseen : ∀ i ∈ gone, hpf i = hp i) (hk : T.kd t = some (.slice e ke)) (hke : T.kd e = some ke) (hv : VRel (ctx T.kd E hpf σ w) s v) :
    ∃ css, All2 (RepC (fF E hpf σ fi) w ke) xs css ∧ w.ownsRow 0 e ke.size v xs.length css.flatten ∧ (∀ i ∈ gone, U i ∧ ∃ oi, hpf i = some oi) ∧ ∀ b, blk v = some b → ∃ j oj, hpf j = some oj ∧ j ∈ gone ∧ blk (σ j).v = some b := by
  unfold rowOf at h
  split at h
  · cases h
    have hx1 := v1_of_vrel hv (by simp)
    simp only [V1, CRel] at hx1
    have hv' := cells_one hx1.1.1 hx1.2
    subst hv'
    exact ⟨[], .nil, World.ownsRow_nil w 0 e ke.size, fun i hi => by simp at hi, fun b hb => by simp [blk] at hb⟩
  · rename_i t' i
    split at h
    · rename_i e' fr' xs' hhp
      simp only [Option.some.injEq, Prod.mk.injEq] at h
      obtain ⟨rfl, rfl, rfl, rfl⟩ := h
      have hhpf : hpf i = some (.row e' fr' xs') := by rw [hseen i (by simp)]; exact hhp
      obtain ⟨hor, hUi, _⟩ := hs.obj i _ hhpf
      obtain ⟨hv', _, k', hk'⟩ := own_rel hor hv
      have hv' : v = (σ i).v := hv'
      simp only [ORel] at hor
      obtain ⟨hte, k2, css, hk2, hall, hown⟩ := hor
      have hk' : T.kd t' = some (.slice (σ i).t k') := hk'
      rw [hk] at hk'
      simp only [Option.some.injEq, K.slice.injEq] at hk'
      obtain ⟨he, rfl⟩ := hk'
      rw [← he] at hte
      subst hte
      have : k2 = ke := by rw [show T.kd e = some k2 from hk2] at hke; cases hke; rfl
      subst this
      refine ⟨css, hall, by rw [hv']; exact hown, fun j hj => ?_, fun b hb => ⟨i, _, hhpf, by simp, by rw [← hv']; exact hb⟩⟩
      have : j = i := by simpa using hj
      subst this
      exact ⟨hUi, _, hhpf⟩
    · cases h
  · cases h
theorem srcOf_rel (hT : TblOK P T) {E : Ent} {U : Nat → Prop} {lkf : Nat → Option AV} {hp hpf : HpF} {σ : Nat → Hd} {a : Act} {w : World} (hs : SRel T.kd E U lkf hpf σ a w) {x : AV} {xt : TypeId} {fr : Bool} {ys : List D} {l : List Nat} {e : TypeId} {ke : K} {v : Value}
    (h : srcOf T hp e ke xt x = some (fr, ys, l)) (hseen : ∀ i ∈ l, hpf i = hp i) (hke : T.kd e = some ke) (hv : VRel (ctx T.kd E hpf σ w) x v) :
    ((∃ e', P.underlying xt = some (.slice e')) ∨ P.underlying xt = some .string) ∧ ∃ css, All2 (RepC (fF E hpf σ fr) w ke) ys css ∧ (∀ w1, (Builtin.lenOf v).run P w1 = .ok ys.length w1) ∧
      ∀ w1 : World, w1.heap = w.heap → (Builtin.firstCells ke.size ys.length v).run P w1 = .ok css.flatten.toArray w1 := by
  unfold srcOf at h
  split at h
  · rename_i u fr' d
    split at h
    · rename_i hb
      rw [Nat.beq_eq] at hb
      subst hb
      split at h
      · rename_i e' k' hu
        split at h
        · rename_i hee
          rw [Nat.beq_eq] at hee
          subst hee
          simp only [Option.some.injEq, Prod.mk.injEq] at h
          obtain ⟨rfl, rfl, rfl⟩ := h
          have hes := slice_elem (hT.ty _ _ hu)
          have : k' = ke := by have h1 := hes.2; rw [hke] at h1; cases h1; rfl
          subst this
          obtain ⟨hr, hga⟩ := v1_of_d (C := ctx T.kd E hpf σ w) hu hv
          simp only [RepC] at hr
          obtain ⟨A, c, hc, hlc, hcm, hel⟩ := hr
          have hv' := cells_one hc hga
          subst hv'
          obtain ⟨css, h1, h2⟩ := slice_cells hel
          have hfl := flatten_len h1 (fun x cs h => rep_len h)
          refine ⟨.inl ⟨e, hes.1⟩, css, h1, fun w1 => rfl, fun w1 hw1 => ?_⟩
          cases A with
          | none =>
            have : d.list = [] := by
              cases hl : d.list with
              | nil => rfl
              | cons y l =>
                obtain ⟨ad, _, hA, _⟩ := hel 0 y (by rw [hl]; rfl)
                cases hA
            rw [this] at h1 ⊢
            cases h1
            exact run_firstCells_none w1 k'.size 0 _ c
          | some ad =>
            by_cases hne : d.list = []
            · rw [hne] at h1 ⊢
              cases h1
              exact run_firstCells_some w1 k'.size 0 ad _ c [] (by simp) (by simp)
            · have hsp : ad.spot = none := by
                cases hl : d.list with
                | nil => exact absurd hl hne
                | cons y l =>
                  obtain ⟨ad', _, hA, hsp, _⟩ := hel 0 y (by rw [hl]; rfl)
                  cases hA
                  exact hsp
              refine run_firstCells_some w1 k'.size _ ad _ c css.flatten hfl fun j v hj => ?_
              rw [add_shift hsp]
              have := h2 ad rfl j v hj
              simpa [World.cell?, hw1, shift, ctx] using this
        · cases h
      · rename_i hu
        split at h
        · simp only [Option.some.injEq, Prod.mk.injEq] at h
          obtain ⟨rfl, rfl, rfl⟩ := h
          have hv' := rep_str (C := ctx T.kd E hpf σ w) hu hv
          subst hv'
          refine ⟨.inr (str_ty (hT.ty _ _ hu)), d.str.map fun b => [.int .u8 b.toNat], ?_, fun w1 => by simp [Builtin.lenOf, size_mk], fun w1 _ => ?_⟩
          · generalize d.str = l
            induction l with
            | nil => exact .nil
            | cons b l ih => exact .cons rfl ih
          · have : (⟨d.str.toArray⟩ : ByteArray).extract 0 d.str.length = ⟨d.str.toArray⟩ := by rw [extract_mk]; simp
            simp only [Builtin.firstCells, List.length_map, this, Sem.run_pure]
            congr 1
            apply Array.ext'
            simp only [Array.toList_map]
            generalize d.str = l
            induction l with
            | nil => rfl
            | cons b l ih => simpa using ih
        · cases h
      · cases h
    · cases h
  · rename_i u
    split at h
    · rename_i hb
      rw [Nat.beq_eq] at hb
      subst hb
      split at h
      · rename_i e' k' hu
        split at h
        · simp only [Option.some.injEq, Prod.mk.injEq] at h
          obtain ⟨rfl, rfl, rfl⟩ := h
          have hx1 := v1_of_vrel hv (by simp)
          simp only [V1, CRel] at hx1
          have hv' := cells_one hx1.1.1 hx1.2
          subst hv'
          exact ⟨.inl ⟨_, (slice_elem (hT.ty _ _ hu)).1⟩, [], .nil, fun w1 => rfl, fun w1 _ => run_firstCells_none w1 ke.size 0 0 0⟩
        · cases h
      · cases h
    · cases h
  · rename_i u j
    split at h
    · rename_i hb
      rw [Nat.beq_eq] at hb
      subst hb
      split at h
      · rename_i e' k' hu
        split at h
        · rename_i hee
          rw [Nat.beq_eq] at hee
          subst hee
          split at h
          · rename_i e2 fr2 ys2 hhp
            simp only [Option.some.injEq, Prod.mk.injEq] at h
            obtain ⟨rfl, rfl, rfl⟩ := h
            have hhpf : hpf j = some (.row e2 fr2 ys2) := by rw [hseen j (by simp)]; exact hhp
            obtain ⟨hor, hUi, _⟩ := hs.obj j _ hhpf
            obtain ⟨hv', _, k2, hk2⟩ := own_rel hor hv
            have hv' : v = (σ j).v := hv'
            have hes := slice_elem (hT.ty _ _ hu)
            obtain ⟨hte, k3, css, hk3, hall, hrow⟩ := row_at hor
            have hk2 : T.kd xt = some (.slice (σ j).t k2) := hk2
            rw [hu] at hk2
            simp only [Option.some.injEq, K.slice.injEq] at hk2
            obtain ⟨he, rfl⟩ := hk2
            rw [← he] at hte
            subst hte
            have : k3 = k' := by have h1 := hes.2; rw [show T.kd e = some k3 from hk3] at h1; cases h1; rfl
            subst this
            have : k3 = ke := by rw [show T.kd e = some k3 from hk3] at hke; cases hke; rfl
            subst this
            have hfl := flatten_len hall (fun x cs h => rep_len h)
            refine ⟨.inl ⟨e, hes.1⟩, css, hall, ?_, ?_⟩
            · intro w1
              rcases hrow with ⟨h1, rfl⟩ | ⟨g, n, c, h1, hn, _⟩
              · rw [hv', show (σ j).v = _ from h1]; rfl
              · rw [hv', show (σ j).v = _ from h1, hn]; rfl
            · intro w1 hw1
              rcases hrow with ⟨h1, rfl⟩ | ⟨g, n, c, h1, hn, _, _, _, hat⟩
              · cases hall
                rw [hv', show (σ j).v = _ from h1]
                exact run_firstCells_none w1 k3.size 0 0 0
              · rw [hv', show (σ j).v = _ from h1]
                refine run_firstCells_some w1 k3.size _ ⟨g, 0, none⟩ n c css.flatten hfl fun q u hq => ?_
                rw [add_shift rfl]
                have := hat q u hq
                simpa [World.cell?, hw1, shift, ctx] using this
          · cases h
        · cases h
      · cases h
    · cases h
  · cases h
theorem exec_builtin {o : Oper} {cl : Call} {b : Builtin} (hop : o.op = .call cl) (hcal : cl.callee = .builtin b) (ρ : Operand → Value) :
    execOp ρ o = builtin b cl.argTypes o.type (cl.args.map fun | .const _ => true | _ => false) (cl.args.map ρ) := by
  simp [execOp, hop, Go.resolve, hcal, invoke]
  rfl
theorem flatten_one {F : Nat → Prop} {w : World} {k : K} : ∀ {xs : List D} {css : List (List Value)}, All2 (RepC F w k) xs css → ∀ u ∈ css.flatten, u.oneCell' = true
  | _, _, .nil, u, hu => by simp at hu
  | _, _, .cons h t, u, hu => by
    rw [List.flatten_cons, List.mem_append] at hu
    exact hu.elim (rep_one h u) (flatten_one t u)
theorem apartL_iff : ∀ {l m : List Nat}, apartL l m = true → ∀ i ∈ l, i ∉ m
  | a :: l, m, h, i, hi => by
    simp only [apartL] at h
    split at h
    · cases h
    · rename_i hm
      rcases List.mem_cons.1 hi with rfl | hi
      · exact fun hmem => by rw [memN_iff.2 hmem] at hm; cases hm
      · exact apartL_iff h i hi
  | [], _, _, i, hi => by simp at hi
theorem evAppend1_sound (hT : TblOK P T) {o : Oper} {hp : HpF} {nid : Nat} {cl : Call} {st xt : TypeId} {s x : Operand} {a b : AV} {k : OK R} {r : R} (hop : o.op = .call cl) (hcal : cl.callee = .builtin .append) (hty : cl.argTypes.toList = [st, xt]) (hargs : cl.args.toList = [s, x])
    (hs : opd T lks st s = some a) (hx : opd T lks xt x = some b) (h : evAppend1 T nid st xt hp a b k = some r) : ∃ av u seen, k av u seen = some r ∧ OpSound P T o lks hp nid av u seen := by
  unfold evAppend1 at h
  split at h
  · rename_i t fi xs gone hrow
    split at h
    · rename_i hb
      rw [Nat.beq_eq] at hb
      subst hb
      split at h
      · rename_i e ke hk
        split at h
        · rename_i fr ys l hsrc
          split at h
          · rename_i hap
            obtain ⟨hk', hlim⟩ := cond_some h
            have hes := slice_elem (hT.ty _ _ hk)
            refine ⟨_, _, _, hk', new_row hT (gone := gone) (k := ke) (fun hpf => .inl (updF_app _ _ _ _)) hk fun E U lkf hpf σ ac w hsr ho hseen hn => ?_⟩
            have ht1 : cl.args = #[s, x] := by apply Array.ext'; rw [hargs]
            have ht2 : cl.argTypes = #[st, xt] := by apply Array.ext'; rw [hty]
            have hmem : ∀ y, y = s ∨ y = x → ∀ q, y = .tmp q → q ∈ tmpsOf o.op := fun y hy q hq => by
              simp only [tmpsOf, hop, Op.operands, Call.operands, hcal, ht1]
              rcases hy with rfl | rfl <;> simp [hq]
            obtain ⟨hv1, _⟩ := opd_rel (C := ctx T.kd E hpf σ w) rfl ho (hmem s (.inl rfl)) hs
            obtain ⟨hv2, _⟩ := opd_rel (C := ctx T.kd E hpf σ w) rfl ho (hmem x (.inr rfl)) hx
            obtain ⟨css1, hall1, hown, hgone, hblk⟩ := rowOf_rel hsr hrow (fun i hi => hseen i (by simp [hi])) hk hes.2 hv1
            obtain ⟨hxt, css2, hall2, hlen, hfirst⟩ := srcOf_rel hT hsr hsrc (fun i hi => hseen i (by simp [hi])) hes.2 hv2
            obtain ⟨it, z, hit, hsz, hz0, hzc, hzg, hby⟩ := (hT.ty _ _ hes.2).info
            have hlim := lim_le hlim
            have hzs : z.cells.size = it.size := by have := (zero_len ke).1 _ hzc; rw [hsz]; simpa using this
            have hb1 : (xs.length + ys.length) * it.bytes ≤ 140737488355328 := by
              have := Nat.mul_le_mul hlim hby
              omega
            rw [← hsz] at hown
            obtain ⟨v', w', hrun, hown', hg, hbv⟩ := run_appendX (P := P) st xt o.type e it z hes.1 hxt hit hz0 hzs w _ _ _ hown _ ys.length css2.flatten (by rw [hsz]; exact flatten_len hall2 (fun x cs h => rep_len h)) hlen (by rw [hsz]; exact hfirst) (flatten_one hall2) (by simp only [maxLen]; omega) hb1
            refine ⟨hgone, v', w', css1 ++ css2, ?_, hg.os, hg.tape, hg.output, hg.size, fun b hb hnb => ?_, ?_, fun b hb => ?_, fun cle => ?_⟩
            · rw [exec_builtin hop hcal, ht1, ht2]
              simp only [builtin, Sem.run_bind, List.map_toArray, List.map_cons, List.map_nil, hrun, Result.andThen_ok, Sem.run_pure]
            · refine hg.block b hb fun e => ?_
              have hbk : blk (ac.eval s) = some b := by
                generalize ac.eval s = v at e
                cases v with
                | slice A n c => cases A <;> simp_all [Value.ownBlock, blk]
                | _ => simp [Value.ownBlock] at e
              obtain ⟨j, oj, h1, h2, h3⟩ := hblk b hbk
              exact hnb j oj h1 h2 h3
            · rw [List.flatten_append, List.length_append, ← hsz]
              exact hown'
            · rcases hbv b hb with h1 | h1
              · exact .inl h1
              · exact .inr (hblk b h1)
            · refine All2.append (all2_fr ?_ (all2_cle cle hall1)) (all2_fr ?_ (all2_cle cle hall2))
              · intro h; simp only [Bool.and_eq_true] at h; exact h.1
              · intro h; simp only [Bool.and_eq_true] at h; exact h.2
          · cases h
        · cases h
      · cases h
    · cases h
  · cases h
/-- 'append' of what 'make' gives, to nil. -/
theorem run_appendZ (st xt ty e : TypeId) (i : TypeInfo) (z : Value) (ht : P.underlying st = some (.slice e)) (hxt : P.underlying xt = some (.int .i64))
    (hi : P.info? e = some i) (hz : i.zero = some z) (hzs : z.cells.size = i.size) (w : World) (m : Nat) (h0 : 0 < m) (hm : m ≤ maxLen) (hbytes : m * i.bytes ≤ 140737488355328) :
    ∃ v' w', (Builtin.append_ #[st, xt] ty #[.slice none 0 0, .int .i64 (m : Int)]).run P w = .ok v' w' ∧ w'.ownsRow 0 e i.size v' m (madeCells z.cells (m * i.size)).toList ∧ w.grownBy w' none ∧ (∀ b, blk v' = some b → w.heap.size ≤ b) := by
  have hsmall : m ≤ 9223372036854775807 := by simp only [maxLen] at hm; omega
  have hwrap : IntKind.i64.wrap (m : Int) = (m : Int) := by
    rw [IntKind.wrap_i64]
    omega
  have hge := grownCap_ge w m 0 e
  have hcm : grownCap w m 0 e ≤ maxLen := grownCap_le_maxLen w m 0 e hm
  have h63' : ¬ (9223372036854775807 < (m : Int)) := by omega
  have hby' : ¬ (281474976710656 < (m : Int) * (i.bytes : Int)) := by
    have : (m : Int) * (i.bytes : Int) = ((m * i.bytes : Nat) : Int) := by simp
    omega
  have h48' : ¬ (281474976710656 < Builtin.nextslicecap m 0 * i.bytes) := by
    have := growslice_fits (need := m) (old := 0) (bytes := i.bytes) (by omega) (by simpa using hbytes)
    omega
  have hnn : ¬ ((m : Int) < 0) := by omega
  have hm0 : m ≠ 0 := by omega
  have hzc : (if m * i.size = 0 then #[] else Builtin.zeroCells z.cells m) = madeCells z.cells (m * i.size) := by
    simp only [Builtin.zeroCells, madeCells, hzs]
    split
    · rename_i h; simp [h]
    · rfl
  refine ⟨.slice (some ⟨w.heap.size, 0, none⟩) m (grownCap w m 0 e), w.drew.alloc (.cells (madeCells z.cells (m * i.size) ++ Builtin.zeroCells z.cells (grownCap w m 0 e - m)) e), ?_, ⟨by simp [size_madeCells], .inr ⟨w.heap.size, _, _, rfl, Nat.zero_le _, heap_alloc_new w.drew _, hge, hcm, ?_, ?_⟩⟩, ⟨rfl, rfl, rfl, by simp, fun k hk _ => heap_alloc_old w.drew _ hk⟩, fun b hb => ?_⟩
  · rcases Nat.eq_zero_or_pos (m * i.size) with hs0 | hs0
    · rw [if_pos hs0] at hzc
      have hm0c : madeCells z.cells 0 = #[] := by simp [madeCells]
      simp [hm0c, Builtin.append_, run_underlying ht, run_underlying hxt, sizeOf, typeInfo, zeroValue, hi, hz, asInt, asIntOf, hwrap, hnn, hby', hs0, hm0, h63', h48', Question.forced, newRow, grownCap, run_firstCells_none, ← hzc]
    · rw [if_neg (by omega)] at hzc
      have hs0' : m * i.size ≠ 0 := by omega
      simp [Builtin.append_, run_underlying ht, run_underlying hxt, sizeOf, typeInfo, zeroValue, hi, hz, asInt, asIntOf, hwrap, hnn, hby', hs0', hm0, h63', h48', Question.forced, newRow, grownCap, run_firstCells_none, ← hzc]
  · simp only [Array.size_append, size_zeroCells, hzs, size_madeCells, ← Nat.add_mul]
    congr 1
    omega
  · simp only [Array.toList_append]
    rw [List.take_append_of_le_length (by simp [size_madeCells]), List.take_of_length_le (by simp [size_madeCells])]
  · simp only [blk, Option.some.injEq] at hb
    omega
theorem evAppend_sound (hT : TblOK P T) {o : Oper} {hp : HpF} {nid : Nat} {cl : Call} {st xt : TypeId} {s x : Operand} {a b : AV} {k : OK R} {r : R} (hop : o.op = .call cl) (hcal : cl.callee = .builtin .append) (hty : cl.argTypes.toList = [st, xt]) (hargs : cl.args.toList = [s, x])
    (hs : opd T lks st s = some a) (hx : opd T lks xt x = some b) (h : evAppend T nid st xt hp a b k = some r) : ∃ av u seen, k av u seen = some r ∧ OpSound P T o lks hp nid av u seen := by
  unfold evAppend at h
  split at h
  · rename_i t
    split at h
    · rename_i i hi
      split at h
      · rename_i u fr0 d0 hb
        rw [Nat.beq_eq] at hb
        subst hb
        split at h
        · rename_i hku hxu
          rw [Nat.beq_eq] at hxu
          subst hxu
          split at h
          · rename_i e ke hk
            split at h
            · rename_i hd
              obtain ⟨hk', hc⟩ := cond_some h
              simp only [Bool.and_eq_true, decide_eq_true_eq] at hc
              refine ⟨_, _, _, hk', new_row hT (gone := []) (k := ke) (fun hpf => .inl (updF_one _ _ _)) hk fun E U lkf hpf σ ac w hsr ho hseen hn => ⟨fun i hi => by simp at hi, ?_⟩⟩
              have hes := slice_elem (hT.ty _ _ hk)
              have ht1 : cl.args = #[s, x] := by apply Array.ext'; rw [hargs]
              have ht2 : cl.argTypes = #[st, xt] := by apply Array.ext'; rw [hty]
              have hmem : ∀ y, y = s ∨ y = x → ∀ q, y = .tmp q → q ∈ tmpsOf o.op := fun y hy q hq => by
                simp only [tmpsOf, hop, Op.operands, Call.operands, hcal, ht1]
                rcases hy with rfl | rfl <;> simp [hq]
              obtain ⟨hv1, _⟩ := opd_rel (C := ctx T.kd E hpf σ w) rfl ho (hmem s (.inl rfl)) hs
              obtain ⟨hv2, _⟩ := opd_rel (C := ctx T.kd E hpf σ w) rfl ho (hmem x (.inr rfl)) hx
              have hv2' := rep_int (C := ctx T.kd E hpf σ w) hku hv2
              have hi' : i = d0.int := by
                simp only [intAV, hku, Option.some.injEq] at hi
                exact hi.symm
              subst hi'
              have hx1 := v1_of_vrel hv1 (by simp)
              simp only [V1, CRel] at hx1
              obtain ⟨⟨hcs, _⟩, hgg⟩ := hx1
              have hv1' := cells_one hcs hgg
              obtain ⟨it, z, hit, hsz, hz0, hzc, hzg, hby⟩ := (hT.ty _ _ hes.2).info
              have hlim := lim_le hc.2
              have hzs : z.cells.size = it.size := by have := (zero_len ke).1 _ hzc; rw [hsz]; simpa using this
              have hb1 : d0.int.toNat * it.bytes ≤ 140737488355328 := by
                have := Nat.mul_le_mul hlim hby
                omega
              obtain ⟨v', w', hrun, hown, hg, hbv⟩ := run_appendZ (P := P) st xt o.type e it z hes.1 (int_ty (hT.ty _ _ hku)) hit hz0 hzs w d0.int.toNat (by omega) (by simp only [maxLen]; omega) hb1
              rw [Int.toNat_of_nonneg (by omega)] at hrun
              obtain ⟨css, hc1, hc2, hc3⟩ := madeCells_zero (z := z.cells) (n := d0.int.toNat) hzs
              refine ⟨v', w', css, ?_, hg.os, hg.tape, hg.output, hg.size, fun b hb _ => hg.block b hb (by simp), ?_, fun b hb => .inl (hbv b hb), fun cle => ?_⟩
              · rw [exec_builtin hop hcal, ht1, ht2]
                simp only [builtin, Sem.run_bind, List.map_toArray, List.map_cons, List.map_nil, hv1', hv2', hrun, Result.andThen_ok, Sem.run_pure]
              · rw [hc1, ← hsz]
                simpa using hown
              · have : List.replicate d0.int.toNat (D.n []) = List.replicate css.length (D.n []) := by rw [hc2]
                rw [this]
                exact all2_rep fun b hb => by rw [hc3 b hb]; exact (zero_rep _ _ ke hd).1 _ hzc
            · cases h
          · cases h
        · cases h
      · cases h
    · exact evAppend1_sound hT hop hcal hty hargs hs hx h
  · exact evAppend1_sound hT hop hcal hty hargs hs hx h
/-! ### Literals of slices -/
mutual
theorem toD_gone {hp : HpF} : ∀ (v : AV) (fr : Bool) (x : D) (l : List Nat), toD hp v = some (fr, x, l) → ∀ i ∈ l, ∃ o, hp i = some o
  | .own t i, fr, x, l, h, j, hj => by
    simp only [toD] at h
    split at h
    · rename_i hh
      simp only [Option.some.injEq, Prod.mk.injEq] at h
      obtain ⟨_, _, rfl⟩ := h
      have : j = i := by simpa using hj
      subst this
      exact ⟨_, hh⟩
    · cases h
  | .agg t fs, fr, x, l, h, j, hj => by
    simp only [toD] at h
    split at h
    · rename_i hds
      simp only [Option.some.injEq, Prod.mk.injEq] at h
      obtain ⟨_, _, rfl⟩ := h
      exact toDs_gone fs _ _ _ hds j hj
    · cases h
  | .d .., fr, x, l, h, j, hj => by simp only [toD, Option.some.injEq, Prod.mk.injEq] at h; obtain ⟨_, _, rfl⟩ := h; simp at hj
  | .nil _, fr, x, l, h, j, hj => by simp only [toD, Option.some.injEq, Prod.mk.injEq] at h; obtain ⟨_, _, rfl⟩ := h; simp at hj
  | .undef, _, _, _, h, _, _ | .cptr .., _, _, _, h, _, _ | .bx .., _, _, _, h, _, _ | .optr .., _, _, _, h, _, _ | .ptr .., _, _, _, h, _, _ | .nilp, _, _, _, h, _, _ | .fn .., _, _, _, h, _, _ | .tup _, _, _, _, h, _, _ | .w .., _, _, _, h, _, _ => by simp [toD] at h
theorem toDs_gone {hp : HpF} : ∀ (vs : List AV) (fr : Bool) (xs : List D) (l : List Nat), toDs hp vs = some (fr, xs, l) → ∀ i ∈ l, ∃ o, hp i = some o
  | [], fr, xs, l, h, j, hj => by simp only [toDs, Option.some.injEq, Prod.mk.injEq] at h; obtain ⟨_, _, rfl⟩ := h; simp at hj
  | v :: vs, fr, xs, l, h, j, hj => by
    simp only [toDs] at h
    split at h
    · rename_i h1
      split at h
      · rename_i h2
        simp only [Option.some.injEq, Prod.mk.injEq] at h
        obtain ⟨_, _, rfl⟩ := h
        rcases List.mem_append.1 hj with hj | hj
        · exact toD_gone v _ _ _ h1 j hj
        · exact toDs_gone vs _ _ _ h2 j hj
      · cases h
    · cases h
end
theorem elems_gone {hp : HpF} {e : TypeId} : ∀ {parts : List (Nat × Operand)} {j : Nat} {fr : Bool} {xs : List D} {l : List Nat}, elems T lks hp e j parts = some (fr, xs, l) → ∀ i ∈ l, ∃ o, hp i = some o
  | [], j, fr, xs, l, h, i, hi => by simp only [elems, Option.some.injEq, Prod.mk.injEq] at h; obtain ⟨_, _, rfl⟩ := h; simp at hi
  | (p, x) :: parts, j, fr, xs, l, h, i, hi => by
    simp only [elems] at h
    split at h
    · split at h
      · split at h
        · split at h
          · split at h
            · rename_i h1
              split at h
              · rename_i h2
                simp only [Option.some.injEq, Prod.mk.injEq] at h
                obtain ⟨_, _, rfl⟩ := h
                rcases List.mem_append.1 hi with hi | hi
                · exact toD_gone _ _ _ _ h1 i hi
                · exact elems_gone h2 i hi
              · cases h
            · cases h
          · cases h
        · cases h
      · cases h
    · cases h
theorem elems_rel (hT : TblOK P T) {E : Ent} {U : Nat → Prop} {lkf : Nat → Option AV} {hp hpf : HpF} {σ : Nat → Hd} {a : Act} {w : World} (hs : SRel T.kd E U lkf hpf σ a w) {ts : List Nat} (hO : Opn (ctx T.kd E hpf σ w) a U lks ts) {F' : Nat → Prop} (frT : Bool)
    (hF : ∀ b, fF E hpf σ frT b → b < w.heap.size → F' b) {e : TypeId} {ke : K} (hke : T.kd e = some ke) : ∀ {parts : List (Nat × Operand)} {j : Nat} {fr : Bool} {xs : List D} {l : List Nat}, (∀ p ∈ parts, ∀ s, p.2 = .tmp s → s ∈ ts) → elems T lks hp e j parts = some (fr, xs, l) → (frT = true → fr = true) →
      (∀ i ∈ l, hpf i = hp i) → (∀ i ∈ l, ∀ b, blk (σ i).v = some b → F' b) →
      ∃ vs : List Value, parts.map (fun p => (p.1, a.eval p.2)) = (vs.zipIdx j).map (fun x => (x.2, x.1)) ∧ vs.length = xs.length ∧ All2 (RepC F' w ke) xs (vs.map fun v => v.cells.toList)
  | [], j, fr, xs, l, _, h, hfr, hl, hlF => by
    simp only [elems, Option.some.injEq, Prod.mk.injEq] at h
    obtain ⟨_, rfl, rfl⟩ := h
    exact ⟨[], rfl, rfl, .nil⟩
  | (p, x) :: parts, j, fr, xs, l, hx, h, hfr, hl, hlF => by
    simp only [elems] at h
    split at h
    · rename_i hp'
      rw [Nat.beq_eq] at hp'
      subst hp'
      split at h
      · rename_i b hb
        split at h
        · rename_i ta hta
          split at h
          · rename_i hte
            rw [Nat.beq_eq] at hte
            subst hte
            split at h
            · rename_i f1 y l1 h1
              split at h
              · rename_i f2 ys l2 h2
                simp only [Option.some.injEq, Prod.mk.injEq] at h
                obtain ⟨rfl, rfl, rfl⟩ := h
                obtain ⟨vs, hv1, hv2, hv3⟩ := elems_rel hT hs hO frT hF hke (fun q hq => hx q (by simp [hq])) h2 (fun e => by have := hfr e; simp only [Bool.and_eq_true] at this; exact this.2) (fun i hi => hl i (by simp [hi])) (fun i hi => hlF i (by simp [hi]))
                obtain ⟨hv, _⟩ := opd_rel (C := ctx T.kd E hpf σ w) rfl hO (hx _ (List.mem_cons_self ..)) hb
                have hv1' := v1_of_vrel hv (by rintro xs rfl; simp [AV.ty] at hta)
                have := toD_rel hT hs frT hF b f1 y l1 ta ke _ h1 (fun e => by have := hfr e; simp only [Bool.and_eq_true] at this; exact this.1) (fun i hi => hl i (by simp [hi])) (fun i hi => hlF i (by simp [hi])) hta hke hv1'.1
                exact ⟨a.eval x :: vs, by simp [hv1, List.zipIdx_cons], by simp [hv2], .cons this hv3⟩
              · cases h
            · cases h
          · cases h
        · cases h
      · cases h
    · cases h
theorem flatMap_cells : ∀ (vs : List Value), (vs.flatMap fun v => v.cells.toList) = (vs.map fun v => v.cells.toList).flatten
  | [] => rfl
  | v :: vs => by simp [List.flatMap_cons, flatMap_cells vs]
theorem run_buildLit {t e : TypeId} {ke : K} (ht : TyOK P T.kd t (.slice e ke)) (he : TyOK P T.kd e ke) (n : Nat) (vs : List Value) (hn : vs.length = n) (hsz : ∀ v ∈ vs, v.cells.size = ke.size) (hpos : 0 < ke.size) (hsm : n * ke.size ≤ 16777216) (w : World) :
    (Instr.buildSlice t n ((vs.zipIdx 0).map fun x => (x.2, x.1)).toArray).run P w = .ok (.slice (some ⟨w.heap.size, 0, none⟩) n n) (w.alloc (.cells (vs.map fun v => v.cells.toList).flatten.toArray e)) := by
  obtain ⟨it, z, hit, hsz0, hz0, hzc, hzg, hby⟩ := he.info
  have hu := (slice_elem ht).1
  by_cases h0 : n * ke.size = 0
  · have hn0 : n = 0 := by
      rcases Nat.mul_eq_zero.1 h0 with h | h
      · exact h
      · omega
    subst hn0
    have : vs = [] := List.eq_nil_of_length_eq_zero hn
    subst this
    simp [Instr.buildSlice, run_underlying hu, sizeOf, typeInfo, hit, Instr.fill, newRow]
    congr 2
    exact Array.eq_empty_of_size_eq_zero (by rw [Array.size_map, Array.size_range])
  · have hf := Great.fill_whole (s := ke.size) hpos vs ((Array.range (n * it.size)).map (z.cells[· % z.cells.size]!)) hsz (by simp [hn, hsz0])
    rw [flatMap_cells] at hf
    exact run_buildSlice w t e n _ _ it z hu hit hz0 (by rw [hsz0]; omega) (by rw [hsz0]; exact h0) (by rw [hsz0]; rw [hsz0] at hf; exact hf)
theorem buildSlice_sound (hT : TblOK P T) {o : Oper} {hp : HpF} {nid n : Nat} {t e : TypeId} {ke : K} {parts : Array (Nat × Operand)} {fr : Bool} {xs : List D} {l : List Nat} (hop : o.op = .buildSlice t n parts) (hk : T.kd t = some (.slice e ke)) (hel : elems T lks hp e 0 parts.toList = some (fr, xs, l))
    (hn : xs.length = n) (hpos : 0 < ke.size) (hsm : n * ke.size ≤ 16777216) : OpSound P T o lks hp nid (.own t nid) ((nid, some (.row e fr xs)) :: drops l) l := by
  refine new_row hT (gone := l) (k := ke) (xs := xs) (fr := fr) (fun hpf => ?_) hk fun E U lkf hpf σ ac w hsr ho hseen hn0 => ?_
  · by_cases hm : nid ∈ l
    · exact .inr (.inr hm)
    · exact .inl (updF_put _ _ _ _ hm)
  have hgone : ∀ i ∈ l, U i ∧ ∃ oi, hpf i = some oi := fun i hi => by
    obtain ⟨oi, hoi⟩ := elems_gone hel i hi
    have : hpf i = some oi := by rw [hseen i hi]; exact hoi
    exact ⟨(hsr.obj i oi this).2.1, oi, this⟩
  refine ⟨hgone, ?_⟩
  have hes := slice_elem (hT.ty _ _ hk)
  have hx : ∀ p ∈ parts.toList, ∀ s, p.2 = .tmp s → s ∈ tmpsOf o.op := fun p hp s hs' => by
    simp only [tmpsOf, hop, Op.operands, List.mem_filterMap]
    exact ⟨.tmp s, by simp only [Array.toList_map, List.mem_map]; exact ⟨p, hp, hs'⟩, rfl⟩
  let hd : Hd := ⟨.slice (some ⟨w.heap.size, 0, none⟩) n n, e⟩
  let F' : Nat → Prop := fun b => fF E (turnH hpf l nid (.row e fr xs)) (turnS σ nid hd) fr b
  have hnU : ∀ j o, hpf j = some o → j ≠ nid := fun j o hj e => hn0 (e ▸ (hsr.obj j o hj).2.1)
  have htr : ∀ j o, turnH hpf l nid (.row e fr xs) j = some o → (j = nid ∧ turnS σ nid hd j = hd) ∨ (j ∉ l ∧ hpf j = some o ∧ turnS σ nid hd j = σ j) := fun j o hj => by
    unfold turnH at hj
    split at hj
    · rename_i e; subst e; exact .inl ⟨rfl, by simp [turnS]⟩
    · rename_i hne
      split at hj
      · cases hj
      · rename_i hnl; exact .inr ⟨hnl, hj, by simp [turnS, hne]⟩
  have hF : ∀ b, fF E hpf σ fr b → b < w.heap.size → F' b := fun b hb hlt => ⟨fun j o hj hbj => by
    rcases htr j o hj with ⟨_, h1⟩ | ⟨_, h1, h2⟩
    · rw [h1] at hbj
      simp only [blk, hd, Option.some.injEq] at hbj
      omega
    · rw [h2] at hbj
      exact hb.1 j o h1 hbj, hb.2⟩
  have hlF : ∀ i ∈ l, ∀ b, blk (σ i).v = some b → F' b := fun i hi b hb => by
    obtain ⟨hUi, oi, hoi⟩ := hgone i hi
    refine ⟨fun j o hj hbj => ?_, (hsr.trk i oi b hoi hb).2.imp id .inl⟩
    rcases htr j o hj with ⟨_, h1⟩ | ⟨hnl, h1, h2⟩
    · rw [h1] at hbj
      simp only [blk, hd, Option.some.injEq] at hbj
      have := (hsr.trk i oi b hoi hb).1
      omega
    · rw [h2] at hbj
      exact hsr.inj i j oi o b hoi h1 (fun e => hnl (e ▸ hi)) hb hbj
  obtain ⟨vs, hv1, hv2, hv3⟩ := elems_rel hT hsr ho (F' := F') fr hF hes.2 hx hel id hseen hlF
  have hvs : ∀ v ∈ vs, v.cells.size = ke.size := fun v hv => by
    obtain ⟨d, hd⟩ := all2_getQ hv3 v.cells.toList (List.mem_map.2 ⟨v, hv, rfl⟩)
    have := rep_len hd
    simpa using this
  have hrun := run_buildLit (P := P) (hT.ty _ _ hk) (hT.ty _ _ hes.2) n vs (by rw [hv2, hn]) hvs hpos hsm w
  refine ⟨.slice (some ⟨w.heap.size, 0, none⟩) n n, w.alloc (.cells (vs.map fun v => v.cells.toList).flatten.toArray e), vs.map fun v => v.cells.toList, ?_, rfl, rfl, rfl, by rw [alloc_size]; omega, fun b hb _ => grew_alloc w _ b hb, ?_, fun b hb => ?_, fun cle => ?_⟩
  · have : (parts.map fun (i, x) => (i, ac.eval x)) = ((vs.zipIdx 0).map fun x => (x.2, x.1)).toArray := by
      apply Array.ext'
      simp only [Array.toList_map]
      exact hv1
    simp only [execOp, hop, Sem.run_bind]
    rw [this, hrun]
    rfl
  · have := World.ownsRow_lit (base := 0) (e := e) (size := ke.size) w (vs.map fun v => v.cells.toList).flatten.toArray n (Nat.zero_le _) (by
      simp only [maxLen]
      have : n ≤ n * ke.size := Nat.le_mul_of_pos_right _ hpos
      omega) (by
      have := flatten_len hv3 (fun x cs h => rep_len h)
      simp only [List.size_toArray]
      rw [this, hn])
    rw [hn]
    simpa using this
  · simp only [blk, Option.some.injEq] at hb
    exact .inl (by omega)
  · exact hv3.imp fun x cs _ hr => (rep_mono (w := w) (fun b hb hlt => ⟨hb, grew_alloc w _ b hlt⟩) (by rw [alloc_size]; omega) ke).1 _ _ hr
end
end Go.Ev
