/- The plain law: what the printed functions come to. -/
import Derived.Test.YtpmkecjkbajcgaaGreatDoorYtSc
import Derived.Test.YtpmkecjkbajcgaaGreatDoorEvPure
namespace Go.Proofs.YtpmkecjkbajcgaaGreatDoorP
open Go Go.Ev
set_option linter.unusedVariables false
set_option linter.unusedSimpArgs false
/-! ### The stream of numbers -/
def St (c : Int) (s : D) : Prop := ∃ L at', s = .n [L, .i at'] ∧ 0 ≤ at' ∧ at' ≤ c
theorem St.le {c c' : Int} {s : D} (h : St c s) (hc : c ≤ c') : St c' s := let ⟨L, a, h1, h2, h3⟩ := h; ⟨L, a, h1, h2, by omega⟩
theorem w_Below (x n : D) (hn : n.int ≤ 4611686018427387904) : W (fun K _ => f_gatemake_Below K x n) (fun r => ∃ i, r = [.i i] ∧ 0 ≤ i ∧ (1 ≤ n.int → i < n.int)) := by
  unfold f_gatemake_Below
  refine W.cond (fun h => ?_) (fun h => ?_)
  · simp at h
    exact W.ret ⟨0, rfl, by omega, by omega⟩
  · simp at h
    have h1 := Int.tmod_lt_of_pos x.int (show 0 < n.int by omega)
    have h2 := Int.lt_tmod_of_pos x.int (show 0 < n.int by omega)
    refine W.cond (fun _ => ?_) (fun h' => by simp at h'; omega)
    refine W.cond (fun h' => ?_) (fun h' => ?_)
    · simp at h'
      rw [wrap_i64 (by omega) (by omega)]
      exact W.ret ⟨_, rfl, by omega, fun _ => by omega⟩
    · simp at h'
      exact W.ret ⟨_, rfl, by omega, fun _ => by omega⟩
theorem w_Next (c : Int) (n s : D) (hs : St c s) (hc : c ≤ 1000000000000) (hn : n.int ≤ 4611686018427387904) : W (fun K _ => f_gatemake_Stream_Next K n s) (fun r => ∃ i s', r = [.i i, s'] ∧ 0 ≤ i ∧ (1 ≤ n.int → i < n.int) ∧ St (c + 1) s') := by
  obtain ⟨L, a, rfl, h1, h2⟩ := hs
  unfold f_gatemake_Stream_Next
  simp only [D.at_n, D.nth_zero, D.nth_succ, D.int_i]
  have e1 : IntKind.i64.wrap (a + 1) = a + 1 := wrap_i64 (by omega) (by omega)
  have e2 : IntKind.i64.wrap (a + 1 - 1) = a := by rw [wrap_i64 (by omega) (by omega)]; omega
  simp only [e1, e2]
  have hfin : ∀ i : Int, 0 ≤ i → (1 ≤ n.int → i < n.int) → W (fun _ _ => some [D.i i, D.n [L, D.i (a + 1)]]) (fun r => ∃ i s', r = [.i i, s'] ∧ 0 ≤ i ∧ (1 ≤ n.int → i < n.int) ∧ St (c + 1) s') := fun i h3 h4 => W.ret ⟨i, _, rfl, h3, h4, L, a + 1, rfl, by omega, by omega⟩
  refine W.cond (fun h => ?_) (fun h => ?_)
  · refine W.bind (w_Below _ n hn) ?_
    rintro _ ⟨i, rfl, h3, h4⟩
    exact hfin i h3 h4
  · have hL : 0 < L.list.length := by
      simp only [beq_eq_false_iff_ne, ne_eq] at h
      omega
    refine W.cond (fun _ => ?_) (fun h' => by simp at h'; simp [h'] at hL)
    refine W.cond (fun _ => ?_) (fun h' => by simp at h'; simp [h'] at hL)
    have h5 := Int.tmod_nonneg (L.list.length : Int) h1
    have h6 := Int.tmod_lt_of_pos a (show 0 < (L.list.length : Int) by omega)
    refine W.cond (fun _ => ?_) (fun h' => by simp [inB] at h'; omega)
    refine W.bind (w_Below _ (.i 1073741824) (by simp)) ?_
    rintro _ ⟨i, rfl, _, _⟩
    refine W.bind (w_Below _ n hn) ?_
    rintro _ ⟨j, rfl, h3, h4⟩
    exact hfin j h3 h4
theorem w_Flip (c : Int) (n s : D) (hs : St c s) (hc : c ≤ 1000000000000) (hn : n.int ≤ 4611686018427387904) : W (fun K _ => f_gatemake_Stream_Flip K n s) (fun r => ∃ b s', r = [.b b, s'] ∧ St (c + 1) s') := by
  unfold f_gatemake_Stream_Flip
  refine W.bind (w_Next c n s hs hc hn) ?_
  rintro _ ⟨i, s', rfl, _, _, h⟩
  exact W.ret ⟨_, s', rfl, h⟩
theorem nth_mem : ∀ {l : List D} {j : Nat}, j < l.length → D.nth l j ∈ l
  | a :: l, 0, _ => by simp
  | a :: l, j + 1, h => by simp only [D.nth_succ]; exact List.mem_cons_of_mem _ (nth_mem (by simpa using h))
/-- One of some numbers (or other data). -/
theorem w_Range (c : Int) (lo hi : Int) (s : D) (hs : St c s) (hc : c ≤ 1000000000000) (h1 : 0 ≤ lo) (h2 : hi ≤ 1000000000000) : W (fun K _ => f_gatemake_Stream_Range K (.i lo) (.i hi) s) (fun r => ∃ x s', r = [.i x, s'] ∧ lo ≤ x ∧ (lo ≤ hi → x ≤ hi) ∧ St (c + 1) s') := by
  unfold f_gatemake_Stream_Range
  refine W.cond (fun h => ?_) (fun h => ?_)
  · simp at h
    exact W.ret ⟨lo, s, rfl, by omega, by omega, hs.le (by omega)⟩
  · simp at h
    have e1 : IntKind.i64.wrap (hi - lo) = hi - lo := wrap_i64 (by omega) (by omega)
    have e2 : IntKind.i64.wrap (hi - lo + 1) = hi - lo + 1 := wrap_i64 (by omega) (by omega)
    simp only [D.int_i, e1, e2]
    refine W.bind (w_Next c _ s hs hc (by simp; omega)) ?_
    rintro _ ⟨i, s', rfl, h3, h4, h5⟩
    simp only [D.int_i] at h4
    have h4 := h4 (by omega)
    simp only [D.nth_zero, D.nth_succ, D.int_i]
    rw [wrap_i64 (by omega) (by omega)]
    exact W.ret ⟨_, s', rfl, by omega, fun _ => by omega, h5⟩
/-! ### Keys -/
def smallC (c : UInt8) : Bool := bif leI 97 c.toNat then leI c.toNat 122 else false
def digitC (c : UInt8) : Bool := bif leI 48 c.toNat then leI c.toNat 57 else false
def restC (c : UInt8) : Bool := smallC c || (digitC c || (((c.toNat : Int) == 45) || ((c.toNat : Int) == 95)))
def smallL : List UInt8 := [97, 98, 99, 100, 101, 102, 103, 104, 105, 106, 107, 108, 109, 110, 111, 112, 113, 114, 115, 116, 117, 118, 119, 120, 121, 122]
def restL : List UInt8 := [97, 98, 99, 100, 101, 102, 103, 104, 105, 106, 107, 108, 109, 110, 111, 112, 113, 114, 115, 116, 117, 118, 119, 120, 121, 122, 48, 49, 50, 51, 52, 53, 54, 55, 56, 57, 45, 95]
def keyB (s : List UInt8) : Bool := (leI 1 s.length && leI s.length 40) && ((s.take 1).all smallC && s.all restC)
theorem small_cls (c : UInt8) : (!ltI (Lib.indexByte smallL c) 0) = smallC c := by
  have := all256 (p := fun c => (!ltI (Lib.indexByte smallL c) 0) == smallC c) (by kernel_rfl) c
  simpa using this
theorem rest_cls (c : UInt8) : (!ltI (Lib.indexByte restL c) 0) = restC c := by
  have := all256 (p := fun c => (!ltI (Lib.indexByte restL c) 0) == restC c) (by kernel_rfl) c
  simpa using this
theorem w_only (s l : List UInt8) (hs : s.length ≤ 1000000000000) : W (fun K _ => f_gateref2_only K (.s s) (.s l)) (fun r => r = [.b (s.all fun c => !ltI (Lib.indexByte l c) 0)]) := by
  unfold f_gateref2_only
  refine W.bind (W.early s.length (fun j => [.s s, .s l, .i s.length, .i j]) (fun j => bif !ltI (Lib.indexByte l (s.getD j 0)) 0 then none else some (0, [.b false])) (1, []) (fun j hj hp p rc h1 h2 => ?_) (fun rc => ?_)) ?_
  · unfold b_gateref2_only_0
    simp only [D.nth_zero, D.nth_succ, D.str_s, D.int_i, Int.toNat_natCast]
    refine W.cond (fun _ => ?_) (fun h => by simp at h; omega)
    refine W.cond (fun _ => ?_) (fun h => by simp at h; omega)
    simp only [p_strings_IndexByte, p_stringslite_IndexByte, p_bytealg_IndexByteString, D.nth_zero, D.int_i, D.str_s, byteAt_getD, toUInt8_byte]
    refine W.cond (fun h => W.ret (h1 _ (by rw [h]; rfl))) (fun h => ?_)
    rw [wrap_i64 (by omega) (by omega)]
    exact h2 (by rw [h]; rfl)
  · unfold b_gateref2_only_0
    simp only [D.nth_zero, D.nth_succ, D.str_s, D.int_i]
    exact W.cond (fun h => by simp at h) (fun _ => W.ret rfl)
  · rintro _ rfl
    rw [scan_all s (fun c => !ltI (Lib.indexByte l c) 0)]
    cases s.all fun c => !ltI (Lib.indexByte l c) 0 with
    | true => exact W.ret rfl
    | false => exact W.ret rfl
theorem w_Key (s : List UInt8) (hs : s.length ≤ 1000000000000) : W (fun K _ => f_gateref2_Key K (.s s)) (fun r => r = [.b (keyB s)]) := by
  unfold f_gateref2_Key
  simp only [p_gateref2_in, D.nth_zero, D.bool_b, D.int_i, D.str_s]
  refine W.cond (fun _ => ?_) (fun h => ?_)
  · refine W.cond (fun h => ?_) (fun h => W.ret ?_)
    · have h0 : (leI 1 s.length && leI s.length 40) = true := by cases h1 : leI 1 (s.length : Int) <;> cases h2 : leI (s.length : Int) 40 <;> simp_all
      refine W.bind (w_only (s.take 1) smallL (by rw [List.length_take]; omega)) ?_
      rintro _ rfl
      simp only [small_cls, D.nth_zero, D.bool_b]
      refine W.cond (fun h1 => ?_) (fun h1 => W.ret ?_)
      · refine W.bind (w_only s restL hs) ?_
        rintro _ rfl
        simp only [rest_cls, D.nth_zero, D.bool_b]
        exact W.ret (by simp only [keyB, h0, h1, Bool.true_and])
      · simp only [keyB, h0, h1, Bool.true_and, Bool.false_and]
    · have h0 : (leI 1 s.length && leI s.length 40) = false := by cases h1 : leI 1 (s.length : Int) <;> cases h2 : leI (s.length : Int) 40 <;> simp_all
      simp only [keyB, h0, Bool.false_and]
  · cases h1 : leI 1 (s.length : Int) <;> cases h2 : leI (s.length : Int) 40 <;> simp_all
    omega
def badK (s : List UInt8) (j : Nat) : Bool := !(bif smallC (s.getD j 0) then true else (bif gtI j 0 then restC (s.getD j 0) else false))
theorem keyB_scan (s : List UInt8) (h : ∀ j, j < s.length → badK s j = false) : keyB s = (!(s == []) && leI s.length 40) := by
  cases s with
  | nil => rfl
  | cons a t =>
    have h0 := h 0 (by simp)
    have ha : smallC a = true := by
      simp only [badK, List.getD_cons_zero] at h0
      cases hc : smallC a with
      | true => rfl
      | false => rw [hc] at h0; simp [gtI] at h0
    have hall : (a :: t).all restC = true := by
      rw [all_getD]
      intro j hj
      have := h j hj
      simp only [badK] at this
      cases hc : smallC ((a :: t).getD j 0) with
      | true => simp only [restC, hc, Bool.true_or]
      | false =>
        rw [hc] at this
        cases hg : gtI (j : Int) 0 with
        | false => rw [hg] at this; simp at this
        | true => rw [hg] at this; simpa using this
    have h1 : leI 1 ((a :: t).length : Int) = true := by simp; omega
    have h2 : (a :: t).take 1 = [a] := rfl
    have h3 : ((a :: t) == []) = false := rfl
    simp only [keyB, hall, h1, h2, h3, List.all_cons, List.all_nil, ha, Bool.true_and, Bool.and_true, Bool.not_false]
theorem keyB_bad (s : List UInt8) (j : Nat) (hj : j < s.length) (h : badK s j = true) : keyB s = false := by
  cases s with
  | nil => simp at hj
  | cons a t =>
    cases j with
    | zero =>
      simp only [badK, List.getD_cons_zero] at h
      cases hc : smallC a with
      | true => rw [hc] at h; simp at h
      | false => simp [keyB, hc]
    | succ j =>
      have hr : restC ((a :: t).getD (j + 1) 0) = false := by
        simp only [badK] at h
        have hg : gtI ((j + 1 : Nat) : Int) 0 = true := by simp
        rw [hg] at h
        cases hc : smallC ((a :: t).getD (j + 1) 0) with
        | true => rw [hc] at h; simp at h
        | false => rw [hc] at h; simpa using h
      have : (a :: t).all restC = false := by
        rw [← Bool.not_eq_true, all_getD]
        intro hall
        rw [hall (j + 1) hj] at hr
        cases hr
      simp only [keyB, this, Bool.and_false]
theorem w_IsKey (s : List UInt8) (hs : s.length ≤ 1000000000000) : W (fun K _ => f_kit_IsKey K (.s s)) (fun r => r = [.b (keyB s)]) := by
  unfold f_kit_IsKey
  refine W.bind (W.early s.length (fun j => [.s s, .i j]) (fun j => bif badK s j then some (0, [.b false]) else none) (1, []) (fun j hj hp p rc h1 h2 => ?_) (fun rc => ?_)) ?_
  · unfold b_kit_IsKey_0
    simp only [D.nth_zero, D.nth_succ, D.str_s, D.int_i, Int.toNat_natCast, byteAt_getD]
    refine W.cond (fun _ => ?_) (fun h => by simp at h; omega)
    refine W.cond (fun _ => ?_) (fun h => by simp at h; omega)
    have e : (!(bif (bif (geI ((s.getD j 0).toNat : Int) 97) then (leI ((s.getD j 0).toNat : Int) 122) else false) then true else (bif (gtI (j : Int) 0) then (bif (bif (bif (geI ((s.getD j 0).toNat : Int) 48) then (leI ((s.getD j 0).toNat : Int) 57) else false) then true else (((s.getD j 0).toNat : Int) == (45 : Int))) then true else (((s.getD j 0).toNat : Int) == (95 : Int))) else false))) = badK s j := by
      simp only [badK, restC, smallC, digitC, geI, leI, gtI]
      generalize ((s.getD j 0).toNat : Int) = x
      generalize (j : Int) = y
      cases hd1 : decide (x ≥ 97) <;> cases hd2 : decide (x ≤ 122) <;> cases hd3 : decide (x ≥ 48) <;> cases hd4 : decide (x ≤ 57) <;> cases hd5 : decide (y > 0) <;> cases hd6 : x == 45 <;> cases hd7 : x == 95 <;> simp_all
    rw [e]
    refine W.cond (fun h => W.ret (h1 _ (by rw [h]; rfl))) (fun h => ?_)
    rw [wrap_i64 (by omega) (by omega)]
    exact h2 (by rw [h]; rfl)
  · unfold b_kit_IsKey_0
    simp only [D.nth_zero, D.nth_succ, D.str_s, D.int_i]
    exact W.cond (fun h => by simp at h) (fun _ => W.ret rfl)
  · rintro _ rfl
    rcases scan_cases (fun j => bif badK s j then some (0, [D.b false]) else none) ((1, []) : Nat × List D) s.length 0 with ⟨i, r, h1, h2, h3, h4, h5⟩ | ⟨h1, h2⟩
    · rw [h4]
      cases hb : badK s i with
      | false => rw [hb] at h3; simp at h3
      | true =>
        rw [hb] at h3
        simp only [cond_true, Option.some.injEq] at h3
        subst h3
        exact W.ret (by rw [keyB_bad s i (by omega) hb]; rfl)
    · rw [h2]
      refine W.ret ?_
      rw [keyB_scan s fun j hj => ?_]
      · simp only [D.str_s]
        cases h3 : s == [] <;> rfl
      · have := h1 j (Nat.zero_le _) (by omega)
        cases hb : badK s j with
        | false => rfl
        | true => rw [hb] at this; simp at this
/-- One of some strings (or other data). -/
theorem w_Some (c : Int) (s : D) (l : List D) (hs : St c s) (hc : c ≤ 1000000000000) (hl : l ≠ []) (hl2 : l.length ≤ 1000000) : W (fun K _ => f_gatemake_Stream_Some K s (.n l)) (fun r => ∃ x s' t, r = [x, s', t] ∧ x ∈ l ∧ St (c + 1) s') := by
  unfold f_gatemake_Stream_Some
  have : 0 < l.length := List.length_pos_iff.2 hl
  refine W.bind (w_Next c _ s hs hc (by simp; omega)) ?_
  rintro _ ⟨i, s', rfl, h1, h2, h3⟩
  simp only [D.int_i, D.list_n] at h2
  have h2 := h2 (by omega)
  refine W.cond (fun h => ?_) (fun h => absurd (inB_mk h1 h2) (by rw [D.nth_zero, D.int_i, D.list_n] at h; rw [h]; simp))
  exact W.ret ⟨_, s', _, rfl, nth_mem (show i.toNat < l.length by omega), h3⟩
/-! ### Sorted lists, each once -/
def norm (l : List (List UInt8)) : List (List UInt8) := Lib.compact (l.mergeSort fun x y => decide (x ≤ y))
theorem lt_of_le_ne {x y : List UInt8} (h : x ≤ y) (hn : x ≠ y) : x < y := by
  refine Decidable.byContradiction fun h2 => ?_
  rw [List.not_lt] at h2
  exact hn (List.le_antisymm h h2)
theorem compactUpTo_spec (d : Array (List UInt8)) (hs : ∀ i j, i ≤ j → j < d.size → d[i]! ≤ d[j]!) : ∀ m, m ≤ d.size →
    (Lib.compactUpTo d m).Pairwise (· < ·) ∧ (∀ x, x ∈ Lib.compactUpTo d m ↔ ∃ j, j < m ∧ d[j]! = x) := by
  intro m
  induction m with
  | zero => exact fun _ => ⟨by simp [Lib.compactUpTo], by simp [Lib.compactUpTo]⟩
  | succ m ih =>
    intro hm
    obtain ⟨h1, h2⟩ := ih (by omega)
    rw [Lib.compactUpTo_succ]
    cases hk : Lib.keeps d m with
    | true =>
      simp only [if_true]
      refine ⟨?_, fun x => ?_⟩
      · rw [List.pairwise_append]
        refine ⟨h1, by simp, fun a ha b hb => ?_⟩
        simp only [List.mem_singleton] at hb
        subst hb
        obtain ⟨j, hj, rfl⟩ := (h2 a).1 ha
        have hkp : m = 0 ∨ d[m]! ≠ d[m - 1]! := by simpa [Lib.keeps] using hk
        rcases hkp with hk0 | hk0
        · omega
        · have l1 := hs j (m - 1) (by omega) (by omega)
          have l2 := lt_of_le_ne (hs (m - 1) m (by omega) (by omega)) (fun e => hk0 e.symm)
          exact List.lt_of_le_of_lt l1 l2
      · simp only [List.mem_append, h2, List.mem_singleton]
        constructor
        · rintro (⟨j, hj, rfl⟩ | rfl)
          · exact ⟨j, by omega, rfl⟩
          · exact ⟨m, by omega, rfl⟩
        · rintro ⟨j, hj, rfl⟩
          rcases Nat.lt_or_eq_of_le (Nat.le_of_lt_succ hj) with h | h
          · exact .inl ⟨j, h, rfl⟩
          · subst h; exact .inr rfl
    | false =>
      simp only [Bool.false_eq_true, if_false, List.append_nil]
      refine ⟨h1, fun x => ?_⟩
      rw [h2]
      have hkp : ¬ (m = 0 ∨ d[m]! ≠ d[m - 1]!) := by
        intro h
        have : Lib.keeps d m = true := by simpa [Lib.keeps] using h
        rw [hk] at this; cases this
      have hm0 : m ≠ 0 := fun h => hkp (.inl h)
      have hme : d[m]! = d[m - 1]! := Decidable.byContradiction fun h => hkp (.inr h)
      constructor
      · rintro ⟨j, hj, rfl⟩; exact ⟨j, by omega, rfl⟩
      · rintro ⟨j, hj, rfl⟩
        rcases Nat.lt_or_eq_of_le (Nat.le_of_lt_succ hj) with h | h
        · exact ⟨j, h, rfl⟩
        · subst h; exact ⟨j - 1, by omega, hme.symm⟩
theorem sort_le (l : List (List UInt8)) : (l.mergeSort fun x y => decide (x ≤ y)).Pairwise (fun x y => decide (x ≤ y) = true) :=
  List.pairwise_mergeSort (fun a b c h1 h2 => by simp only [decide_eq_true_eq] at *; exact List.le_trans h1 h2) (fun a b => by simp only [Bool.or_eq_true, decide_eq_true_eq]; exact List.le_total a b) l
theorem norm_spec (l : List (List UInt8)) : (norm l).Pairwise (· < ·) ∧ ∀ x, x ∈ norm l ↔ x ∈ l := by
  have hp := sort_le l
  have hm := List.mergeSort_perm l (fun x y => decide (x ≤ y))
  unfold norm
  generalize (l.mergeSort fun x y => decide (x ≤ y)) = L at hp hm
  have hs : ∀ i j, i ≤ j → j < L.toArray.size → L.toArray[i]! ≤ L.toArray[j]! := fun i j hij hj => by
    have hj : j < L.length := by simpa using hj
    have hi : i < L.length := by omega
    rw [getElem!_pos _ i (by simpa using hi), getElem!_pos _ j (by simpa using hj)]
    simp only [List.getElem_toArray]
    rcases Nat.lt_or_eq_of_le hij with h | h
    · simpa using (List.pairwise_iff_getElem.1 hp) i j hi hj h
    · subst h; exact List.le_refl _
  obtain ⟨h1, h2⟩ := compactUpTo_spec L.toArray hs L.length (by simp)
  refine ⟨h1, fun x => ?_⟩
  show x ∈ Lib.compactUpTo L.toArray L.length ↔ _
  rw [h2, ← hm.mem_iff]
  constructor
  · rintro ⟨j, hj, rfl⟩
    rw [getElem!_pos _ j (by simpa using hj)]
    simp
  · intro hx
    obtain ⟨j, hj, rfl⟩ := List.getElem_of_mem hx
    exact ⟨j, hj, by rw [getElem!_pos _ j (by simpa using hj)]; simp⟩
theorem norm_mem {l : List (List UInt8)} {x : List UInt8} : x ∈ norm l ↔ x ∈ l := (norm_spec l).2 x
theorem strict_eq : ∀ {l m : List (List UInt8)}, l.Pairwise (· < ·) → m.Pairwise (· < ·) → (∀ x, x ∈ l ↔ x ∈ m) → l = m
  | [], [], _, _, _ => rfl
  | [], b :: m, _, _, h => absurd ((h b).2 (by simp)) (by simp)
  | a :: l, [], _, _, h => absurd ((h a).1 (by simp)) (by simp)
  | a :: l, b :: m, hl, hm, h => by
    rw [List.pairwise_cons] at hl hm
    have hab : a = b := by
      rcases List.mem_cons.1 ((h a).1 (by simp)) with e | e
      · exact e
      · rcases List.mem_cons.1 ((h b).2 (by simp)) with e2 | e2
        · exact e2.symm
        · exact absurd (List.lt_trans (hm.1 a e) (hl.1 b e2)) (List.lt_irrefl _)
    subst hab
    rw [strict_eq hl.2 hm.2 fun x => ?_]
    constructor
    · intro hx
      rcases List.mem_cons.1 ((h x).1 (by simp [hx])) with e | e
      · subst e; exact absurd (hl.1 x hx) (List.lt_irrefl _)
      · exact e
    · intro hx
      rcases List.mem_cons.1 ((h x).2 (by simp [hx])) with e | e
      · subst e; exact absurd (hm.1 x hx) (List.lt_irrefl _)
      · exact e
theorem norm_congr {l m : List (List UInt8)} (h : ∀ x, x ∈ l ↔ x ∈ m) : norm l = norm m :=
  strict_eq (norm_spec l).1 (norm_spec m).1 fun x => by rw [norm_mem, norm_mem, h]
theorem norm_filter (l : List (List UInt8)) (p : List UInt8 → Bool) : norm (l.filter p) = (norm l).filter p :=
  strict_eq (norm_spec _).1 ((norm_spec l).1.filter _) fun x => by simp only [norm_mem, List.mem_filter]
theorem norm_len (l : List (List UInt8)) : (norm l).length ≤ l.length := by
  have := Lib.compact_length_le (l.mergeSort fun x y => decide (x ≤ y))
  simpa [norm] using this
theorem norm_id {l : List (List UInt8)} (h : l.Pairwise (· < ·)) : norm l = l := strict_eq (norm_spec l).1 h fun x => norm_mem
theorem str_map (L : List (List UInt8)) : (L.map D.s).map D.str = L := by rw [List.map_map]; exact (List.map_congr_left fun x _ => rfl).trans (List.map_id L)
theorem sortS_map (L : List (List UInt8)) : sortS (L.map D.s) = (L.mergeSort fun x y => decide (x ≤ y)).map D.s := by unfold sortS; rw [str_map]
theorem compS_sort (L : List (List UInt8)) : compS ((L.mergeSort fun x y => decide (x ≤ y)).map D.s) = (norm L).map D.s := by unfold compS norm; rw [str_map]
theorem nthS {L : List (List UInt8)} {j : Nat} (hj : j < L.length) : D.nth (L.map D.s) j = .s (L[j]'hj) := by
  rw [nth_eq (by simpa using hj)]
  simp
theorem any_mapS (L : List (List UInt8)) (p : List UInt8 → Bool) : (L.map D.s).any (fun x => p x.str) = L.any p := by
  rw [List.any_map]; rfl
theorem filter_mapS (L : List (List UInt8)) (p : List UInt8 → Bool) : (L.map D.s).filter (fun x => p x.str) = (L.filter p).map D.s := by
  rw [List.filter_map]; rfl
/-- A search among strings. -/
theorem W.findS {F : Nat → (List D → Option (Nat × List D)) → List D → Option (Nat × List D)} (L : List (List UInt8)) (p : List UInt8 → Bool) (mk : Nat → List D) (yes : Nat → Nat × List D) (no : Nat × List D)
    (h1 : ∀ j (hj : j < L.length), ∀ (q : Nat × List D → Prop) (rc : Nat → Nat → List D → Option (Nat × List D)), (p (L[j]'hj) = true → q (yes j)) → (p (L[j]'hj) = false → W (fun K m => rc K m (mk (j + 1))) q) → W (fun K m => F K (rc K m) (mk j)) q)
    (h2 : ∀ rc : Nat → Nat → List D → Option (Nat × List D), W (fun K m => F K (rc K m) (mk L.length)) (fun r => r = no)) :
    W (fun K _ => fixN (F K) K (mk 0)) (fun r => (L.any p = true ∧ ∃ i, i < L.length ∧ r = yes i) ∨ (L.any p = false ∧ r = no)) := by
  refine (W.early L.length mk (fun j => bif (fun x : D => p x.str) (D.nth (L.map D.s) j) then some (yes j) else none) no (fun j hj hp q rc g1 g2 => ?_) h2).mono fun r hr => ?_
  · refine h1 j hj q rc (fun h => g1 _ ?_) (fun h => g2 ?_)
    · simp only [nthS hj, D.str_s, h, cond_true]
    · simp only [nthS hj, D.str_s, h, cond_false]
  · have := scan_any (L.map D.s) (fun x => p x.str) yes no
    rw [any_mapS, List.length_map] at this
    rcases this with ⟨h1, i, hi, h2⟩ | ⟨h1, h2⟩
    · exact .inl ⟨h1, i, hi, hr.trans h2⟩
    · exact .inr ⟨h1, hr.trans h2⟩
/-- The loop of slices.DeleteFunc, where the question takes steps. -/
theorem W.deleteW {F : Nat → (List D → Option (Nat × List D)) → List D → Option (Nat × List D)} (f : D → Bool) (mk : Nat → Nat → List D → List D) (fin : Nat → List D → Nat × List D)
    (l : List D) (h1 : ∀ (i j : Nat) row, i < j → j < row.length → row.length = l.length → D.nth row j = D.nth l j → ∀ (p : Nat × List D → Prop) (rc : Nat → Nat → List D → Option (Nat × List D)),
      (f (D.nth row j) = true → W (fun K m => rc K m (mk i (j + 1) row)) p) → (f (D.nth row j) = false → W (fun K m => rc K m (mk (i + 1) (j + 1) (D.setNth row i (D.nth row j)))) p) → W (fun K m => F K (rc K m) (mk i j row)) p)
    (h2 : ∀ (i : Nat) row, row.length = l.length → ∀ (rc : Nat → Nat → List D → Option (Nat × List D)), W (fun K m => F K (rc K m) (mk i row.length row)) (fun r => r = fin i row)) (i0 : Nat) (hi : i0 < l.length) (hf : f (D.nth l i0) = true) (hb : ∀ x ∈ l.take i0, f x = false) :
    W (fun K _ => fixN (F K) K (mk i0 (i0 + 1) l)) (fun r => ∃ i row, r = fin i row ∧ i ≤ row.length ∧ row.length = l.length ∧ row.take i = l.filter (fun x => !f x)) := by
  refine W.rounds (S := Nat × Nat × List D) (fun s => mk s.1 s.2.1 s.2.2) (fun s => s.1 < s.2.1 ∧ s.2.1 ≤ l.length ∧ s.2.2.length = l.length ∧ s.2.2.drop s.2.1 = l.drop s.2.1 ∧ s.2.2.take s.1 = (l.take s.2.1).filter (fun x => !f x)) (fun s => l.length - s.2.1) (fun s hI rc ih => ?_) (i0, i0 + 1, l) ⟨by simp, hi, rfl, rfl, ?_⟩
  · obtain ⟨i, j, row⟩ := s
    obtain ⟨hij, hj, hlen, hd, ht⟩ := hI
    simp only at hij hj hlen hd ht
    by_cases hlt : j < l.length
    · have hjr : j < row.length := by omega
      have hnth : D.nth row j = D.nth l j := by
        have h1 := drop_nth hjr
        have h2 := drop_nth hlt
        rw [hd, h2] at h1
        exact (List.cons.inj h1).1.symm
      refine h1 i j row hij hjr hlen hnth _ rc (fun hf => ?_) (fun hf => ?_)
      · refine ih (i, j + 1, row) ⟨by simp only; omega, by simp only; omega, hlen, ?_, ?_⟩ (by simp only; omega)
        · have := congrArg (List.drop 1) hd
          simpa [List.drop_drop, Nat.add_comm] using this
        · simp only
          rw [ht, take_nth hlt, List.filter_append, ← hnth]
          simp [hf]
      · have hset : D.setNth row i (D.nth row j) = row.set i (D.nth row j) := setNth_eq _ (by omega)
        refine ih (i + 1, j + 1, D.setNth row i (D.nth row j)) ⟨by simp only; omega, by simp only; omega, by simp only [hset]; simpa using hlen, ?_, ?_⟩ (by simp only; omega)
        · simp only [hset]
          rw [List.drop_set_of_lt (by omega)]
          have := congrArg (List.drop 1) hd
          simpa [List.drop_drop, Nat.add_comm] using this
        · simp only [hset]
          rw [take_nth (by simp; omega), List.take_set_of_le (by omega), ht, take_nth hlt, List.filter_append, nth_eq (by simp; omega), ← hnth]
          simp [hf]
    · have : j = row.length := by omega
      subst this
      refine (h2 i row hlen rc).mono fun r hr => ⟨i, row, hr, by omega, hlen, ?_⟩
      rw [ht, List.take_of_length_le (by omega)]
  · simp only
    rw [take_nth hi, List.filter_append, filter_none hb]
    simp [hf]
/-! ### Scopes: the strings that are drawn, and which of them are right -/
def tenA : List UInt8 := [97, 58, 97, 58, 97, 58, 97, 58, 97, 58, 97, 58, 97, 58, 97, 58, 97, 58, 97, 58, 97]
def scR : List (List UInt8) := [[97], [97, 58, 42], [97, 58, 98], [97, 58, 98, 58, 42], [97, 58, 98, 58, 99], [98], [98, 58, 42], [98, 58, 99], [42], [99]]
def scB : List (List UInt8) := [[], [97, 58, 42, 58, 98], [65], [97, 58, 58, 98], [97, 58], [42, 42], [97, 42], tenA]
def sc : List (List UInt8) := scR ++ scB
def okS (a : List UInt8) : Bool := scR.contains a
theorem w_isScope {a : List UInt8} (ha : a ∈ sc) : W (fun K _ => f_token_isScope K (.s a)) (fun r => r = [.b (okS a)]) := by
  simp only [sc, scR, scB, List.cons_append, List.nil_append, List.mem_cons, List.not_mem_nil, or_false] at ha
  rcases ha with rfl | rfl | rfl | rfl | rfl | rfl | rfl | rfl | rfl | rfl | rfl | rfl | rfl | rfl | rfl | rfl | rfl | rfl <;>
    exact ⟨_, rfl, 40, fun K n hK _ => by obtain ⟨m, rfl⟩ : ∃ m, K = m + 40 := ⟨K - 40, by omega⟩; kernel_rfl⟩
theorem w_scope {a : List UInt8} (ha : a ∈ sc) : W (fun K _ => f_gateref2_scope K (.s a)) (fun r => r = [.b (okS a)]) := by
  simp only [sc, scR, scB, List.cons_append, List.nil_append, List.mem_cons, List.not_mem_nil, or_false] at ha
  rcases ha with rfl | rfl | rfl | rfl | rfl | rfl | rfl | rfl | rfl | rfl | rfl | rfl | rfl | rfl | rfl | rfl | rfl | rfl <;>
    exact ⟨_, rfl, 40, fun K n hK _ => by obtain ⟨m, rfl⟩ : ∃ m, K = m + 40 := ⟨K - 40, by omega⟩; kernel_rfl⟩
/-- Scopes as they are drawn. -/
def ScR (L : List (List UInt8)) : Prop := L.length ≤ 5 ∧ ∀ a ∈ L, a ∈ sc
def ScL (l : List D) : Prop := l = List.replicate 51 (.n []) ∨ ∃ L : List (List UInt8), l = L.map D.s ∧ ScR L
def fltS (l : List D) : Int := bif gtI l.length 50 then 2 else bif l.all fun x => okS x.str then 0 else 3
theorem ScL.len {l : List D} (h : ScL l) : l.length ≤ 51 := by
  rcases h with rfl | ⟨L, rfl, h, _⟩
  · simp
  · simp; omega
theorem fltS_val (l : List D) : fltS l = 0 ∨ fltS l = 2 ∨ fltS l = 3 := by
  unfold fltS
  cases gtI (l.length : Int) 50 with
  | true => exact .inr (.inl rfl)
  | false => cases l.all fun x => okS x.str with
    | true => exact .inl rfl
    | false => exact .inr (.inr rfl)
theorem flt_ok {l : List D} (h : ScL l) (h0 : fltS l = 0) : ∃ L : List (List UInt8), l = L.map D.s ∧ L.length ≤ 5 ∧ ∀ a ∈ L, a ∈ scR := by
  rcases h with rfl | ⟨L, rfl, h1, h2⟩
  · exfalso
    revert h0
    simp [fltS, gtI]
  · refine ⟨L, rfl, h1, fun a ha => ?_⟩
    unfold fltS at h0
    have hg : gtI ((L.map D.s).length : Int) 50 = false := by simp; omega
    rw [hg, cond_false] at h0
    cases hall : (L.map D.s).all fun x => okS x.str with
    | false => rw [hall] at h0; cases h0
    | true =>
      have := List.all_eq_true.1 hall (.s a) (List.mem_map_of_mem ha)
      simpa [okS] using this
theorem scan_all_D {α : Type} (l : List D) (p : D → Bool) (r fin : α) : scan (fun j => bif !p (D.nth l j) then some r else none) fin l.length 0 = bif l.all p then fin else r := by
  have := scan_any l (fun x => !p x) (fun _ => r) fin
  have hn : l.any (fun x => !p x) = !l.all p := by rw [List.not_all_eq_any_not]
  rcases this with ⟨h1, _, _, h2⟩ | ⟨h1, h2⟩
  · rw [h2]
    rw [hn] at h1
    have : l.all p = false := by simpa using h1
    rw [this]; rfl
  · rw [h2]
    rw [hn] at h1
    have : l.all p = true := by simpa using h1
    rw [this]; rfl
theorem w_CheckScopes {l : List D} (h : ScL l) : W (fun K _ => f_token_CheckScopes K (.n l)) (fun r => r = [.i (fltS l)]) := by
  unfold f_token_CheckScopes
  have hl := h.len
  simp only [D.list_n]
  refine W.cond (fun hg => W.ret (by rw [fltS, hg]; rfl)) (fun hg => ?_)
  have hs : ∃ L : List (List UInt8), l = L.map D.s ∧ ScR L := by
    rcases h with rfl | h
    · exfalso; simp [gtI] at hg
    · exact h
  obtain ⟨L, rfl, _, hL⟩ := hs
  refine W.bind (W.early (L.map D.s).length (fun j => [.n (L.map D.s), .i ((L.map D.s).length : Int), .i (j : Int)]) (fun j => bif !(fun x : D => okS x.str) (D.nth (L.map D.s) j) then some (0, [.i 3]) else none) (1, []) (fun j hj hp p rc h1 h2 => ?_) (fun rc => ?_)) ?_
  · unfold b_token_CheckScopes_0
    simp only [D.nth_zero, D.nth_succ, D.int_i, D.list_n, Int.toNat_natCast]
    have hj' : j < L.length := by simpa using hj
    simp only [nthS hj', D.str_s] at h1 h2 ⊢
    refine W.cond (fun _ => ?_) (fun h => by simp at h; omega)
    refine W.cond (fun _ => ?_) (fun h => by simp at h; omega)
    refine W.bind (w_isScope (hL _ (List.getElem_mem hj'))) ?_
    rintro _ rfl
    simp only [D.nth_zero, D.bool_b]
    refine W.cond (fun h => W.ret (h1 _ (by rw [h]; rfl))) (fun h => ?_)
    rw [wrap_i64 (by omega) (by simp at hl; omega)]
    exact h2 (by rw [h]; rfl)
  · unfold b_token_CheckScopes_0
    simp only [D.nth_zero, D.nth_succ, D.int_i]
    exact W.cond (fun h => by simp at h) (fun _ => W.ret rfl)
  · rintro _ rfl
    rw [scan_all_D (L.map D.s) (fun x => okS x.str)]
    unfold fltS
    rw [hg, cond_false]
    cases (L.map D.s).all fun x => okS x.str with
    | true => exact W.ret rfl
    | false => exact W.ret rfl
theorem w_ScopesFault {l : List D} (h : ScL l) : W (fun K _ => f_gateref2_ScopesFault K (.n l)) (fun r => r = [.i (fltS l)]) := by
  unfold f_gateref2_ScopesFault
  have hl := h.len
  simp only [D.list_n]
  refine W.cond (fun hg => W.ret (by rw [fltS, hg]; rfl)) (fun hg => ?_)
  have hs : ∃ L : List (List UInt8), l = L.map D.s ∧ ScR L := by
    rcases h with rfl | h
    · exfalso; simp [gtI] at hg
    · exact h
  obtain ⟨L, rfl, _, hL⟩ := hs
  refine W.bind (W.early (L.map D.s).length (fun j => [.n (L.map D.s), .i ((L.map D.s).length : Int), .i (j : Int)]) (fun j => bif !(fun x : D => okS x.str) (D.nth (L.map D.s) j) then some (0, [.i 3]) else none) (1, []) (fun j hj hp p rc h1 h2 => ?_) (fun rc => ?_)) ?_
  · unfold b_gateref2_ScopesFault_0
    simp only [D.nth_zero, D.nth_succ, D.int_i, D.list_n, Int.toNat_natCast]
    have hj' : j < L.length := by simpa using hj
    simp only [nthS hj', D.str_s] at h1 h2 ⊢
    refine W.cond (fun _ => ?_) (fun h => by simp at h; omega)
    refine W.cond (fun _ => ?_) (fun h => by simp at h; omega)
    refine W.bind (w_scope (hL _ (List.getElem_mem hj'))) ?_
    rintro _ rfl
    simp only [D.nth_zero, D.bool_b]
    refine W.cond (fun h => W.ret (h1 _ (by rw [h]; rfl))) (fun h => ?_)
    rw [wrap_i64 (by omega) (by simp at hl; omega)]
    exact h2 (by rw [h]; rfl)
  · unfold b_gateref2_ScopesFault_0
    simp only [D.nth_zero, D.nth_succ, D.int_i]
    exact W.cond (fun h => by simp at h) (fun _ => W.ret rfl)
  · rintro _ rfl
    rw [scan_all_D (L.map D.s) (fun x => okS x.str)]
    unfold fltS
    rw [hg, cond_false]
    cases (L.map D.s).all fun x => okS x.str with
    | true => exact W.ret rfl
    | false => exact W.ret rfl
/-! ### Drawing -/
theorem w_RightScopes (c : Int) (s : D) (hs : St c s) (hc : c ≤ 999999999900) : W (fun K _ => f_gatemake_Stream_RightScopes K s) (fun r => ∃ (s' : D) (L : List (List UInt8)), r = [s', .n (L.map D.s)] ∧ L.length ≤ 4 ∧ (∀ a ∈ L, a ∈ scR) ∧ St (c + 5) s') := by
  unfold f_gatemake_Stream_RightScopes
  refine W.bind (w_Range c 0 4 s hs (by omega) (by omega) (by omega)) ?_
  rintro _ ⟨n, s1, rfl, h1, h2, h3⟩
  have h2 := h2 (by omega)
  simp only [D.nth_zero, D.nth_succ]
  refine W.bind (p := fun r => ∃ (s' : D) (L : List (List UInt8)), r = (0, [s', .n (L.map D.s)]) ∧ L.length ≤ 4 ∧ (∀ a ∈ L, a ∈ scR) ∧ St (c + 5) s') ?_ ?_
  · refine W.rounds (S := Nat × D × List (List UInt8)) (fun q => [.i n, .i (q.1 : Int), q.2.1, .n (q.2.2.map D.s)]) (fun q => (q.1 : Int) ≤ n ∧ q.2.2.length = q.1 ∧ (∀ a ∈ q.2.2, a ∈ scR) ∧ St (c + 1 + q.1) q.2.1) (fun q => n.toNat - q.1) (fun q hI rc ih => ?_) (0, s1, []) ⟨by simpa using h1, by simp, by simp, by simpa using h3⟩
    obtain ⟨j, s2, L⟩ := q
    obtain ⟨a1, a2, a3, a4⟩ := hI
    simp only at a1 a2 a3 a4
    unfold b_gatemake_Stream_RightScopes_0
    simp only [D.nth_zero, D.nth_succ, D.int_i, D.list_n]
    refine W.cond (fun h => ?_) (fun h => ?_)
    · simp at h
      refine W.bind (w_Some _ s2 _ a4 (by omega) (by simp) (by simp)) ?_
      rintro _ ⟨x, s3, t, rfl, hx, b1⟩
      simp only [D.nth_zero, D.nth_succ]
      refine W.cond (fun _ => ?_) (fun h => absurd (lim_mk (n := (L.map D.s).length + 1) (by simp; omega)) (by rw [h]; simp))
      rw [wrap_i64 (by omega) (by omega)]
      have hxs : ∃ a, x = .s a ∧ a ∈ scR := by
        simp only [List.mem_cons, List.not_mem_nil, or_false] at hx
        rcases hx with rfl | rfl | rfl | rfl | rfl | rfl | rfl | rfl | rfl <;> exact ⟨_, rfl, by simp [scR]⟩
      obtain ⟨a, rfl, ha⟩ := hxs
      have := ih (j + 1, s3, L ++ [a]) ⟨by simp only; omega, by simp [a2], fun b hb => ?_, by simpa [Int.add_assoc] using b1⟩ (by simp only; omega)
      · simpa using this
      · rcases List.mem_append.1 hb with hb | hb
        · exact a3 b hb
        · simp at hb; subst hb; exact ha
    · simp at h
      exact W.ret ⟨s2, L, rfl, by omega, a3, a4.le (by omega)⟩
  · rintro _ ⟨s', L, rfl, g1, g2, g3⟩
    exact W.ret ⟨s', L, rfl, g1, g2, g3⟩
theorem w_Scope (c : Int) (s : D) (hs : St c s) (hc : c ≤ 999999999900) : W (fun K _ => f_gatemake_Stream_Scope K s) (fun r => ∃ s' a, r = [.s a, s'] ∧ a ∈ sc ∧ St (c + 2) s') := by
  unfold f_gatemake_Stream_Scope
  refine W.bind (w_Flip c _ s hs (by omega) (by simp)) ?_
  rintro _ ⟨b, s1, rfl, h1⟩
  simp only [D.nth_zero, D.nth_succ, D.bool_b]
  refine W.cond (fun _ => ?_) (fun _ => ?_)
  · refine W.bind (p := fun r => r = [.s [97, 58, 97, 58, 97, 58, 97, 58, 97, 58, 97, 58, 97, 58, 97, 58, 97, 58, 97, 58]]) ⟨_, rfl, 0, fun K n _ _ => by kernel_rfl⟩ ?_
    rintro _ rfl
    refine W.cond (fun _ => ?_) (fun h => absurd h (by simp only [D.nth_zero, D.str_s]; decide))
    refine W.bind (w_Some _ s1 _ h1 (by omega) (by simp) (by simp)) ?_
    rintro _ ⟨x, s2, t, rfl, hx, h2⟩
    simp only [D.nth_zero, D.nth_succ, D.str_s, List.mem_cons, List.not_mem_nil, or_false] at hx ⊢
    rcases hx with rfl | rfl | rfl | rfl | rfl | rfl | rfl | rfl <;> exact W.ret ⟨s2, _, rfl, by simp [sc, scR, scB, tenA], h2.le (by omega)⟩
  · refine W.bind (w_Some _ s1 _ h1 (by omega) (by simp) (by simp)) ?_
    rintro _ ⟨x, s2, t, rfl, hx, h2⟩
    simp only [D.nth_zero, D.nth_succ, List.mem_cons, List.not_mem_nil, or_false] at hx ⊢
    rcases hx with rfl | rfl | rfl | rfl | rfl | rfl | rfl | rfl | rfl | rfl <;> exact W.ret ⟨s2, _, rfl, by simp [sc, scR, scB], h2.le (by omega)⟩
theorem w_Scopes (c : Int) (s : D) (hs : St c s) (hc : c ≤ 999999990000) : W (fun K _ => f_gatemake_Stream_Scopes K s) (fun r => ∃ s' l, r = [s', .n l] ∧ ScL l ∧ St (c + 10) s') := by
  unfold f_gatemake_Stream_Scopes
  refine W.bind (w_RightScopes c s hs (by omega)) ?_
  rintro _ ⟨s1, L, rfl, h1, h2, h3⟩
  simp only [D.nth_zero, D.nth_succ, D.list_n]
  refine W.bind (w_Flip _ _ s1 h3 (by omega) (by simp)) ?_
  rintro _ ⟨b, s2, rfl, h4⟩
  simp only [D.nth_zero, D.nth_succ, D.bool_b]
  have hR : ∀ a ∈ L, a ∈ sc := fun a ha => List.mem_append_left _ (h2 a ha)
  refine W.cond (fun _ => ?_) (fun _ => ?_)
  · refine W.bind (w_Scope _ s2 h4 (by omega)) ?_
    rintro _ ⟨s3, a, rfl, ha, h5⟩
    simp only [D.nth_zero, D.nth_succ]
    refine W.cond (fun _ => ?_) (fun h => absurd (lim_mk (n := (L.map D.s).length + 1) (by simp; omega)) (by rw [h]; simp))
    refine W.bind (w_Flip _ _ s3 h5 (by omega) (by simp)) ?_
    rintro _ ⟨b2, s4, rfl, h6⟩
    simp only [D.nth_zero, D.nth_succ, D.bool_b]
    refine W.cond (fun _ => ?_) (fun _ => ?_)
    · exact W.cond (fun _ => W.ret ⟨s4, _, rfl, .inl rfl, h6.le (by omega)⟩) (fun h => absurd (lim_mk (n := 51) (by omega)) (by rw [h]; simp))
    · refine W.ret ⟨s4, _, rfl, .inr ⟨L ++ [a], by simp, by simp; omega, fun b hb => ?_⟩, h6.le (by omega)⟩
      rcases List.mem_append.1 hb with hb | hb
      · exact hR b hb
      · simp at hb; subst hb; exact ha
  · refine W.bind (w_Flip _ _ s2 h4 (by omega) (by simp)) ?_
    rintro _ ⟨b2, s4, rfl, h6⟩
    simp only [D.nth_zero, D.nth_succ, D.bool_b]
    refine W.cond (fun _ => ?_) (fun _ => ?_)
    · exact W.cond (fun _ => W.ret ⟨s4, _, rfl, .inl rfl, h6.le (by omega)⟩) (fun h => absurd (lim_mk (n := 51) (by omega)) (by rw [h]; simp))
    · exact W.ret ⟨s4, _, rfl, .inr ⟨L, rfl, by omega, hR⟩, h6.le (by omega)⟩
/-! ### What covers what -/
def starB (a : List UInt8) : Bool := bif geI (a.length : Int) 1 then (a.drop ((a.length : Int) - 1).toNat == [42]) else false
def headB (a : List UInt8) : List UInt8 := a.take ((a.length : Int) - 1).toNat
def preB (h b : List UInt8) : Bool := bif geI (b.length : Int) (h.length : Int) then (b.take h.length == h) else false
def cov (a b : List UInt8) : Bool := bif a == b then true else (bif starB a then preB (headB a) b else false)
def ovr (a b : List UInt8) : Bool := bif starB a then preB (headB a) b else a == b
theorem sc_len {a : List UInt8} (h : a ∈ sc) : a.length ≤ 21 := by
  have : (sc.all fun a => Nat.ble a.length 21) = true := by kernel_rfl
  exact Nat.le_of_ble_eq_true (List.all_eq_true.1 this a h)
theorem sc_ovr {a b : List UInt8} (ha : a ∈ sc) (hb : b ∈ sc) : ovr a b = cov a b := by
  have : (sc.all fun a => sc.all fun b => ovr a b == cov a b) = true := by kernel_rfl
  simpa using List.all_eq_true.1 (List.all_eq_true.1 this a ha) b hb
theorem scR_anti {a b : List UInt8} (ha : a ∈ scR) (hb : b ∈ scR) (h1 : cov a b = true) (h2 : cov b a = true) : a = b := by
  have : (scR.all fun a => scR.all fun b => (!(cov a b && cov b a)) || a == b) = true := by kernel_rfl
  have := List.all_eq_true.1 (List.all_eq_true.1 this a ha) b hb
  simpa [h1, h2] using this
theorem cov_refl (a : List UInt8) : cov a a = true := by simp [cov]
theorem w_CutSuffix (a : List UInt8) (ha : a.length ≤ 1000) : W (fun K _ => f_strings_CutSuffix K (.s a) (.s [42])) (fun r => r = bif starB a then [.s (headB a), .b true] else [.s a, .b false]) := by
  unfold f_strings_CutSuffix f_stringslite_CutSuffix f_stringslite_HasSuffix
  simp only [D.str_s]
  have e1 : IntKind.i64.wrap ((a.length : Int) - (([42] : List UInt8).length : Int)) = (a.length : Int) - 1 := by
    rw [show ((([42] : List UInt8).length : Nat) : Int) = 1 from rfl]
    exact wrap_i64 (by omega) (by omega)
  have e2 : ((([42] : List UInt8).length : Nat) : Int) = 1 := rfl
  rw [e1, e2]
  refine W.bind (p := fun r => r = bif starB a then [.s (headB a), .b true] else [.s a, .b false]) (W.bind (p := fun r => r = [.b (starB a)]) (W.cond (fun _ => W.ret rfl) (fun h => ?_)) ?_) ?_
  · exfalso
    cases hg : geI (a.length : Int) 1 with
    | false => rw [hg] at h; simp at h
    | true => rw [hg] at h; simp at h hg; omega
  · rintro _ rfl
    simp only [D.nth_zero, D.bool_b]
    refine W.cond (fun h => W.ret ?_) (fun h => ?_)
    · have : starB a = false := by simpa using h
      rw [this]; rfl
    · have : starB a = true := by simpa using h
      have hg : geI (a.length : Int) 1 = true := by
        unfold starB at this
        cases hg : geI (a.length : Int) 1 with
        | true => rfl
        | false => rw [hg] at this; cases this
      simp at hg
      refine W.cond (fun _ => W.ret ?_) (fun h => by simp at h; omega)
      rw [this]; rfl
  · rintro _ rfl
    cases starB a with
    | true => exact W.ret rfl
    | false => exact W.ret rfl
theorem w_HasPrefix (b h : List UInt8) : W (fun K _ => f_strings_HasPrefix K (.s b) (.s h)) (fun r => r = [.b (preB h b)]) := by
  unfold f_strings_HasPrefix f_stringslite_HasPrefix
  simp only [D.str_s]
  refine W.bind (p := fun r => r = [.b (preB h b)]) (W.cond (fun _ => W.ret rfl) (fun h2 => ?_)) ?_
  · exfalso
    cases hg : geI (b.length : Int) (h.length : Int) with
    | false => rw [hg] at h2; simp at h2
    | true => rw [hg] at h2; simp at h2 hg; omega
  · rintro _ rfl
    exact W.ret rfl
theorem w_covers (a b : List UInt8) (ha : a.length ≤ 1000) : W (fun K _ => f_token_covers K (.s a) (.s b)) (fun r => r = [.b (cov a b)]) := by
  unfold f_token_covers
  simp only [D.str_s]
  refine W.cond (fun h => W.ret (by rw [cov, h]; rfl)) (fun h => ?_)
  refine W.bind (w_CutSuffix a ha) ?_
  rintro _ rfl
  cases hs : starB a with
  | true =>
    simp only [cond_true, D.nth_zero, D.nth_succ, D.bool_b]
    refine W.bind (w_HasPrefix b _) ?_
    rintro _ rfl
    exact W.ret (by rw [cov, h, hs]; rfl)
  | false =>
    simp only [cond_false, D.nth_zero, D.nth_succ, D.bool_b]
    exact W.ret (by rw [cov, h, hs]; rfl)
theorem w_over (a b : List UInt8) (ha : a ∈ sc) (hb : b ∈ sc) : W (fun K _ => f_gateref2_over K (.s a) (.s b)) (fun r => r = [.b (cov a b)]) := by
  rw [← sc_ovr ha hb]
  have := sc_len ha
  unfold f_gateref2_over
  refine W.bind (w_CutSuffix a (by omega)) ?_
  rintro _ rfl
  cases hs : starB a with
  | true =>
    simp only [cond_true, D.nth_zero, D.nth_succ, D.bool_b]
    refine W.bind (w_HasPrefix b _) ?_
    rintro _ rfl
    exact W.ret (by rw [ovr, hs]; rfl)
  | false =>
    simp only [cond_false, D.nth_zero, D.nth_succ, D.bool_b]
    exact W.ret (by rw [ovr, hs]; rfl)
/-- Scopes in a list, not too many. -/
def Sm (L : List (List UInt8)) : Prop := L.length ≤ 1000 ∧ ∀ a ∈ L, a ∈ sc
theorem find_end {a : Nat → Nat → Option (Nat × List D)} {L : List (List UInt8)} {p : List UInt8 → Bool} (h : W a (fun r => (L.any p = true ∧ ∃ i : Nat, i < L.length ∧ r = (0, [.i (i : Int)])) ∨ (L.any p = false ∧ r = (1, [])))) :
    W (fun K n => ((a K n).bind fun t1 => bif t1.1.beq 0 then some [D.nth t1.2 0] else some [D.i (-1)]).bind fun t1 => some [D.b (geI ((D.nth t1 0).int) 0)]) (fun r => r = [.b (L.any p)]) := by
  refine W.bind (p := fun r => ∃ i : Int, r = [.i i] ∧ geI i 0 = L.any p) (W.bind h ?_) ?_
  · rintro _ (⟨h1, i, hi, rfl⟩ | ⟨h1, rfl⟩)
    · exact W.ret ⟨i, rfl, by rw [h1]; simp⟩
    · exact W.ret ⟨-1, rfl, by rw [h1]; simp [geI]⟩
  · rintro _ ⟨i, rfl, hi⟩
    exact W.ret (by rw [← hi]; rfl)
theorem w_coveredBy (L : List (List UInt8)) (s : List UInt8) (hL : Sm L) : W (fun K _ => f_token_coveredBy K (.n (L.map D.s)) (.s s)) (fun r => r = [.b (L.any fun h => cov h s)]) := by
  have h1000 := hL.1
  unfold f_token_coveredBy f_slices_ContainsFunc_string f_slices_IndexFunc_string
  simp only [D.list_n, List.length_map]
  refine W.bind (p := fun r => r = [.b (L.any fun h => cov h s)]) (find_end (W.findS L (fun h => cov h s) (fun j => [.n (L.map D.s), .s s, .i (L.length : Int), .i (j : Int)]) (fun i => (0, [.i (i : Int)])) (1, []) (fun j hj q rc h1 h2 => ?_) (fun rc => ?_))) ?_
  · unfold b_slices_IndexFunc_string_0 f_token_coveredBy_1
    simp only [D.nth_zero, D.nth_succ, D.int_i, D.list_n, Int.toNat_natCast, nthS hj]
    refine W.cond (fun _ => ?_) (fun h => by simp at h; omega)
    refine W.cond (fun _ => ?_) (fun h => by simp at h; omega)
    refine W.bind (p := fun r => r = [.b (cov (L[j]'hj) s)]) (W.bind (w_covers _ _ (by have := sc_len (hL.2 _ (List.getElem_mem hj)); omega)) ?_) ?_
    · rintro _ rfl; exact W.ret rfl
    · rintro _ rfl
      simp only [D.nth_zero, D.bool_b]
      refine W.cond (fun h => W.ret (h1 h)) (fun h => ?_)
      rw [wrap_i64 (by omega) (by omega)]
      exact h2 h
  · unfold b_slices_IndexFunc_string_0
    simp only [D.nth_zero, D.nth_succ, D.int_i]
    exact W.cond (fun h => by simp at h) (fun _ => W.ret rfl)
  · rintro _ rfl; exact W.ret rfl
theorem w_covered (L : List (List UInt8)) (s : List UInt8) (hL : Sm L) (hs : s ∈ sc) : W (fun K _ => f_gateref2_covered K (.n (L.map D.s)) (.s s)) (fun r => r = [.b (L.any fun h => cov h s)]) := by
  have h1000 := hL.1
  unfold f_gateref2_covered f_slices_ContainsFunc_stringc f_slices_IndexFunc_stringd
  simp only [D.list_n, List.length_map]
  refine W.bind (p := fun r => r = [.b (L.any fun h => cov h s)]) (find_end (W.findS L (fun h => cov h s) (fun j => [.n (L.map D.s), .s s, .i (L.length : Int), .i (j : Int)]) (fun i => (0, [.i (i : Int)])) (1, []) (fun j hj q rc h1 h2 => ?_) (fun rc => ?_))) ?_
  · unfold b_slices_IndexFunc_stringd_0 f_gateref2_covered_1
    simp only [D.nth_zero, D.nth_succ, D.int_i, D.list_n, Int.toNat_natCast, nthS hj]
    refine W.cond (fun _ => ?_) (fun h => by simp at h; omega)
    refine W.cond (fun _ => ?_) (fun h => by simp at h; omega)
    refine W.bind (p := fun r => r = [.b (cov (L[j]'hj) s)]) (W.bind (w_over _ _ (hL.2 _ (List.getElem_mem hj)) hs) ?_) ?_
    · rintro _ rfl; exact W.ret rfl
    · rintro _ rfl
      simp only [D.nth_zero, D.bool_b]
      refine W.cond (fun h => W.ret (h1 h)) (fun h => ?_)
      rw [wrap_i64 (by omega) (by omega)]
      exact h2 h
  · unfold b_slices_IndexFunc_stringd_0
    simp only [D.nth_zero, D.nth_succ, D.int_i]
    exact W.cond (fun h => by simp at h) (fun _ => W.ret rfl)
  · rintro _ rfl; exact W.ret rfl
def coversL (A B : List (List UInt8)) : Bool := !B.any fun s => !A.any fun h => cov h s
theorem w_coverAll (A B : List (List UInt8)) (hA : Sm A) (hB : Sm B) : W (fun K _ => f_token_coverAll K (.n (A.map D.s)) (.n (B.map D.s))) (fun r => r = [.b (coversL A B)]) := by
  have h1000 := hB.1
  unfold f_token_coverAll f_slices_ContainsFunc_stringa f_slices_IndexFunc_stringa
  simp only [D.list_n, List.length_map]
  refine W.bind (find_end (W.findS B (fun s => !A.any fun h => cov h s) (fun j => [.n (B.map D.s), .n (A.map D.s), .i (B.length : Int), .i (j : Int)]) (fun i => (0, [.i (i : Int)])) (1, []) (fun j hj q rc h1 h2 => ?_) (fun rc => ?_))) ?_
  · unfold b_slices_IndexFunc_stringa_0 f_token_coverAll_1
    simp only [D.nth_zero, D.nth_succ, D.int_i, D.list_n, Int.toNat_natCast, nthS hj]
    refine W.cond (fun _ => ?_) (fun h => by simp at h; omega)
    refine W.cond (fun _ => ?_) (fun h => by simp at h; omega)
    refine W.bind (p := fun r => r = [.b (!A.any fun h => cov h (B[j]'hj))]) (W.bind (w_coveredBy A _ hA) ?_) ?_
    · rintro _ rfl; exact W.ret rfl
    · rintro _ rfl
      simp only [D.nth_zero, D.bool_b]
      refine W.cond (fun h => W.ret (h1 h)) (fun h => ?_)
      rw [wrap_i64 (by omega) (by omega)]
      exact h2 h
  · unfold b_slices_IndexFunc_stringa_0
    simp only [D.nth_zero, D.nth_succ, D.int_i]
    exact W.cond (fun h => by simp at h) (fun _ => W.ret rfl)
  · rintro _ rfl; exact W.ret rfl
theorem w_CoversOf (A B : List (List UInt8)) (hA : Sm A) (hB : Sm B) : W (fun K _ => f_gateref2_CoversOf K (.n (A.map D.s)) (.n (B.map D.s))) (fun r => r = [.b (coversL A B)]) := by
  have h1000 := hB.1
  unfold f_gateref2_CoversOf f_slices_ContainsFunc_stringd f_slices_IndexFunc_stringe
  simp only [D.list_n, List.length_map]
  refine W.bind (find_end (W.findS B (fun s => !A.any fun h => cov h s) (fun j => [.n (B.map D.s), .n (A.map D.s), .i (B.length : Int), .i (j : Int)]) (fun i => (0, [.i (i : Int)])) (1, []) (fun j hj q rc h1 h2 => ?_) (fun rc => ?_))) ?_
  · unfold b_slices_IndexFunc_stringe_0 f_gateref2_CoversOf_1
    simp only [D.nth_zero, D.nth_succ, D.int_i, D.list_n, Int.toNat_natCast, nthS hj]
    refine W.cond (fun _ => ?_) (fun h => by simp at h; omega)
    refine W.cond (fun _ => ?_) (fun h => by simp at h; omega)
    refine W.bind (p := fun r => r = [.b (!A.any fun h => cov h (B[j]'hj))]) (W.bind (w_covered A _ hA (hB.2 _ (List.getElem_mem hj))) ?_) ?_
    · rintro _ rfl; exact W.ret rfl
    · rintro _ rfl
      simp only [D.nth_zero, D.bool_b]
      refine W.cond (fun h => W.ret (h1 h)) (fun h => ?_)
      rw [wrap_i64 (by omega) (by omega)]
      exact h2 h
  · unfold b_slices_IndexFunc_stringe_0
    simp only [D.nth_zero, D.nth_succ, D.int_i]
    exact W.cond (fun h => by simp at h) (fun _ => W.ret rfl)
  · rintro _ rfl; exact W.ret rfl
/-! ### The scopes that no other one covers -/
def lessB (M : List (List UInt8)) (s : List UInt8) : Bool := M.any fun h => bif !(h == s) then cov h s else false
def leastL (L : List (List UInt8)) : List (List UInt8) := (norm L).filter fun s => !lessB (norm L) s
theorem lessB_congr {L M : List (List UInt8)} (h : ∀ x, x ∈ L ↔ x ∈ M) (s : List UInt8) : lessB L s = lessB M s := by
  rw [Bool.eq_iff_iff]
  unfold lessB
  rw [List.any_eq_true, List.any_eq_true]
  constructor
  · rintro ⟨x, hx, hp⟩; exact ⟨x, (h x).1 hx, hp⟩
  · rintro ⟨x, hx, hp⟩; exact ⟨x, (h x).2 hx, hp⟩
theorem leastL_congr {L M : List (List UInt8)} (h : ∀ x, x ∈ L ↔ x ∈ M) : leastL L = leastL M := by unfold leastL; rw [norm_congr h]
theorem leastL_ref (L : List (List UInt8)) : norm (L.filter fun s => !lessB L s) = leastL L := by
  rw [norm_filter]
  unfold leastL
  congr 1
  funext s
  rw [lessB_congr (L := L) (M := norm L) (fun x => norm_mem.symm)]
theorem leastL_len (L : List (List UInt8)) : (leastL L).length ≤ L.length := Nat.le_trans (List.length_filter_le _ _) (norm_len L)
theorem leastL_mem {L : List (List UInt8)} {x : List UInt8} (h : x ∈ leastL L) : x ∈ L := norm_mem.1 (List.mem_filter.1 h).1
theorem Sm.norm {L : List (List UInt8)} (h : Sm L) : Sm (norm L) := ⟨Nat.le_trans (norm_len L) h.1, fun a ha => h.2 a (norm_mem.1 ha)⟩
/-- The first of some strings, and that it is the first. -/
theorem W.firstS {F : Nat → (List D → Option (Nat × List D)) → List D → Option (Nat × List D)} (L : List (List UInt8)) (p : List UInt8 → Bool) (mk : Nat → List D) (yes : Nat → Nat × List D) (no : Nat × List D)
    (h1 : ∀ j (hj : j < L.length), ∀ (q : Nat × List D → Prop) (rc : Nat → Nat → List D → Option (Nat × List D)), (p (L[j]'hj) = true → q (yes j)) → (p (L[j]'hj) = false → W (fun K m => rc K m (mk (j + 1))) q) → W (fun K m => F K (rc K m) (mk j)) q)
    (h2 : ∀ rc : Nat → Nat → List D → Option (Nat × List D), W (fun K m => F K (rc K m) (mk L.length)) (fun r => r = no)) :
    W (fun K _ => fixN (F K) K (mk 0)) (fun r => (∃ i, i < L.length ∧ (fun x : D => p x.str) (D.nth (L.map D.s) i) = true ∧ (∀ x ∈ (L.map D.s).take i, (fun x : D => p x.str) x = false) ∧ r = yes i) ∨ ((∀ x ∈ L.map D.s, (fun x : D => p x.str) x = false) ∧ r = no)) := by
  refine (W.early L.length mk (fun j => bif (fun x : D => p x.str) (D.nth (L.map D.s) j) then some (yes j) else none) no (fun j hj hp q rc g1 g2 => ?_) h2).mono fun r hr => ?_
  · refine h1 j hj q rc (fun h => g1 _ ?_) (fun h => g2 ?_)
    · simp only [nthS hj, D.str_s, h, cond_true]
    · simp only [nthS hj, D.str_s, h, cond_false]
  · subst hr
    rcases scan_cases (fun j => bif (fun x : D => p x.str) (D.nth (L.map D.s) j) then some (yes j) else none) no L.length 0 with ⟨i, r, g1, g2, g3, g4, g5⟩ | ⟨g1, g2⟩
    · have hi : i < L.length := by omega
      cases hp : (fun x : D => p x.str) (D.nth (L.map D.s) i) with
      | false => simp only [hp, cond_false] at g3; cases g3
      | true =>
        simp only [hp, cond_true, Option.some.injEq] at g3
        subst g3
        refine .inl ⟨i, hi, hp, fun x hx => ?_, g4⟩
        obtain ⟨k, hk, rfl⟩ := List.getElem_of_mem hx
        have hk' : k < i := by simp at hk; omega
        have := g5 k (Nat.zero_le _) hk'
        cases hp2 : (fun x : D => p x.str) (D.nth (L.map D.s) k) with
        | true => simp only [hp2, cond_true] at this; cases this
        | false =>
          rw [nth_eq (by simp; omega)] at hp2
          simpa [List.getElem_take] using hp2
    · refine .inr ⟨fun x hx => ?_, g2⟩
      obtain ⟨k, hk, rfl⟩ := List.getElem_of_mem hx
      have hk' : k < L.length := by simpa using hk
      have := g1 k (Nat.zero_le _) (by omega)
      cases hp2 : (fun x : D => p x.str) (D.nth (L.map D.s) k) with
      | true => simp only [hp2, cond_true] at this; cases this
      | false =>
        rw [nth_eq hk] at hp2
        exact hp2
theorem w_Clone (l : List D) (hl : l.length ≤ 1000000) : W (fun K _ => f_slices_Clone_string K (.n l)) (fun r => r = [.n l]) := by
  unfold f_slices_Clone_string b_slices_Clone_string_0
  simp only [D.nth_zero, D.list_n]
  refine W.bind (p := fun r => r = (0, [.n l])) (W.cond (fun _ => W.ret rfl) (fun h => absurd (lim_mk (n := 0 + l.length) (by omega)) (by rw [h]; simp))) ?_
  rintro _ rfl
  exact W.ret rfl
theorem w_SortS (L : List (List UInt8)) (hl : L.length ≤ 1000000) : W (fun _ _ => f_slices_Sort_string (.n (L.map D.s))) (fun r => r = [.n ((L.mergeSort fun x y => decide (x ≤ y)).map D.s)]) := by
  unfold f_slices_Sort_string sortG
  simp only [D.list_n, List.length_map]
  refine W.cond (fun _ => W.ret (by rw [sortS_map])) (fun h => ?_)
  rw [Nat.ble_eq_true_of_le (by omega)] at h
  cases h
theorem w_Rising (L : List (List UInt8)) (hl : L.length ≤ 1000000) : W (fun K _ => f_kit_Rising K (.n (L.map D.s))) (fun r => r = [.n ((norm L).map D.s)]) := by
  unfold f_kit_Rising
  refine W.bind (w_Clone _ (by simpa using hl)) ?_
  rintro _ rfl
  simp only [D.nth_zero, D.list_n]
  refine W.bind (w_SortS L hl) ?_
  rintro _ rfl
  simp only [D.nth_zero, D.list_n, p_slices_Compact_string]
  exact W.ret (by rw [compS_sort])
theorem w_least_1 (M : List (List UInt8)) (s : List UInt8) (hM : Sm M) : W (fun K _ => f_token_least_1 K (.s s) (.n (M.map D.s))) (fun r => r = [.b (lessB M s), .n (M.map D.s)]) := by
  have h1000 := hM.1
  unfold f_token_least_1 f_slices_ContainsFunc_stringb f_slices_IndexFunc_stringb
  simp only [D.list_n, List.length_map]
  refine W.bind (p := fun r => r = [.b (lessB M s)]) (find_end (W.findS M (fun h => bif !(h == s) then cov h s else false) (fun j => [.n (M.map D.s), .s s, .i (M.length : Int), .i (j : Int)]) (fun i => (0, [.i (i : Int)])) (1, []) (fun j hj q rc h1 h2 => ?_) (fun rc => ?_))) ?_
  · unfold b_slices_IndexFunc_stringb_0 f_token_least_1_1
    simp only [D.nth_zero, D.nth_succ, D.int_i, D.list_n, D.str_s, Int.toNat_natCast, nthS hj]
    refine W.cond (fun _ => ?_) (fun h => by simp at h; omega)
    refine W.cond (fun _ => ?_) (fun h => by simp at h; omega)
    refine W.bind (p := fun r => r = [.b (bif !((M[j]'hj) == s) then cov (M[j]'hj) s else false)]) (W.cond (fun h => ?_) (fun h => W.ret (by rw [h]; rfl))) ?_
    · refine W.bind (w_covers _ _ (by have := sc_len (hM.2 _ (List.getElem_mem hj)); omega)) ?_
      rintro _ rfl
      exact W.ret (by rw [h]; rfl)
    · rintro _ rfl
      simp only [D.nth_zero, D.bool_b]
      refine W.cond (fun h => W.ret (h1 h)) (fun h => ?_)
      rw [wrap_i64 (by omega) (by omega)]
      exact h2 h
  · unfold b_slices_IndexFunc_stringb_0
    simp only [D.nth_zero, D.nth_succ, D.int_i]
    exact W.cond (fun h => by simp at h) (fun _ => W.ret rfl)
  · rintro _ rfl; exact W.ret rfl
theorem w_DeleteS (M : List (List UInt8)) (hM : Sm M) : W (fun K _ => f_slices_DeleteFunc_string K (.n (M.map D.s)) (.n (M.map D.s))) (fun r => r = [.n ((M.filter fun s => !lessB M s).map D.s), .n (M.map D.s)]) := by
  have h1000 := hM.1
  unfold f_slices_DeleteFunc_string f_slices_IndexFunc_stringc
  simp only [D.list_n, List.length_map]
  refine W.bind (p := fun r => (∃ i, i < M.length ∧ (fun x : D => lessB M x.str) (D.nth (M.map D.s) i) = true ∧ (∀ x ∈ (M.map D.s).take i, (fun x : D => lessB M x.str) x = false) ∧ r = [.i (i : Int), .n (M.map D.s)]) ∨ ((∀ x ∈ M.map D.s, (fun x : D => lessB M x.str) x = false) ∧ r = [.i (-1), .n (M.map D.s)])) (W.bind (W.firstS M (lessB M) (fun j => [.n (M.map D.s), .i (M.length : Int), .i (j : Int), .n (M.map D.s)]) (fun i => (0, [.i (i : Int), .n (M.map D.s)])) (1, [.n (M.map D.s)]) (fun j hj q rc h1 h2 => ?_) (fun rc => ?_)) ?_) ?_
  · unfold b_slices_IndexFunc_stringc_0
    simp only [D.nth_zero, D.nth_succ, D.int_i, D.list_n, Int.toNat_natCast, nthS hj]
    refine W.cond (fun _ => ?_) (fun h => by simp at h; omega)
    refine W.cond (fun _ => ?_) (fun h => by simp at h; omega)
    refine W.bind (w_least_1 M _ hM) ?_
    rintro _ rfl
    simp only [D.nth_zero, D.nth_succ, D.bool_b, D.list_n]
    refine W.cond (fun h => W.ret (h1 h)) (fun h => ?_)
    rw [wrap_i64 (by omega) (by omega)]
    exact h2 h
  · unfold b_slices_IndexFunc_stringc_0
    simp only [D.nth_zero, D.nth_succ, D.int_i, D.list_n]
    exact W.cond (fun h => by simp at h) (fun _ => W.ret rfl)
  · rintro _ (⟨i, h1, h2, h3, rfl⟩ | ⟨h1, rfl⟩)
    · exact W.ret (.inl ⟨i, h1, h2, h3, rfl⟩)
    · exact W.ret (.inr ⟨h1, rfl⟩)
  · rintro _ (⟨i, h1, h2, h3, rfl⟩ | ⟨h1, rfl⟩)
    · simp only [D.nth_zero, D.nth_succ, D.int_i, D.list_n]
      refine W.cond (fun h => by simp at h) (fun _ => ?_)
      have e1 : IntKind.i64.wrap ((i : Int) + 1) = ((i + 1 : Nat) : Int) := by rw [wrap_i64 (by omega) (by omega)]; simp
      rw [e1]
      refine W.bind (W.deleteW (fun x => lessB M x.str) (fun i j row => [.i (i : Int), .i (j : Int), .n row, .n (M.map D.s)]) (fun i row => (0, [.i (i : Int), .n row, .n (M.map D.s)])) (M.map D.s) ?_ ?_ i (by simpa using h1) h2 h3) ?_
      · intro i j row hij hj hlen hnth p rc g1 g2
        have hj' : j < M.length := by simpa [hlen] using hj
        unfold b_slices_DeleteFunc_string_0
        simp only [D.nth_zero, D.nth_succ, D.int_i, D.list_n, Int.toNat_natCast]
        refine W.cond (fun _ => ?_) (fun h => by simp at h; omega)
        refine W.cond (fun _ => ?_) (fun h => by simp at h; omega)
        rw [hnth, nthS hj'] at g1 g2 ⊢
        refine W.bind (w_least_1 M _ hM) ?_
        rintro _ rfl
        simp only [D.nth_zero, D.nth_succ, D.bool_b, D.list_n, D.str_s] at g1 g2 ⊢
        have e2 : IntKind.i64.wrap ((i : Int) + 1) = ((i + 1 : Nat) : Int) := by rw [wrap_i64 (by omega) (by omega)]; simp
        have e3 : IntKind.i64.wrap ((j : Int) + 1) = ((j + 1 : Nat) : Int) := by rw [wrap_i64 (by omega) (by omega)]; simp
        rw [e2, e3]
        refine W.cond (fun h => ?_) (fun h => g1 (by simpa using h))
        refine W.cond (fun _ => g2 (by simpa using h)) (fun h => by simp at h; omega)
      · intro i row hlen rc
        unfold b_slices_DeleteFunc_string_0
        simp only [D.nth_zero, D.nth_succ, D.int_i, D.list_n]
        exact W.cond (fun h => by simp at h) (fun _ => W.ret rfl)
      · rintro _ ⟨i', row, rfl, h5, h6, h7⟩
        have hin : inB (i' : Int) (row.length + 1) = true := inB_mk (by omega) (by omega)
        rw [filter_mapS M (fun s => !lessB M s)] at h7
        refine W.congr (b := fun _ _ => some [.n (row.take i'), .n (M.map D.s)]) (W.ret (by rw [h7])) fun K n => ?_
        have hmin : min i' row.length = i' := by omega
        have hin2 : inB (i' : Int) (i' + (row.length - i') + 1) = true := inB_mk (by omega) (by omega)
        simp [clearRow, hin, hmin, hin2]
    · refine W.cond (fun _ => W.ret ?_) (fun h => by simp at h)
      have := filter_none h1
      rw [filter_mapS M (fun s => !lessB M s)] at this
      rw [this]
      rfl
theorem w_least (L : List (List UInt8)) (hL : Sm L) : W (fun K _ => f_token_least K (.n (L.map D.s))) (fun r => r = [.n ((leastL L).map D.s)]) := by
  have h1000 := hL.1
  have hn := hL.norm
  unfold f_token_least
  refine W.bind (w_Rising L (by omega)) ?_
  rintro _ rfl
  simp only [D.nth_zero, D.list_n]
  refine W.bind (w_Clone _ (by have := hn.1; simp; omega)) ?_
  rintro _ rfl
  simp only [D.nth_zero, D.list_n]
  refine W.bind (w_DeleteS _ hn) ?_
  rintro _ rfl
  exact W.ret rfl
theorem foldl_filter (p : D → Bool) : ∀ (l acc : List D), l.foldl (fun s x => bif p x then s ++ [x] else s) acc = acc ++ l.filter p
  | [], acc => by simp
  | x :: l, acc => by
    cases h : p x <;> simp [h, foldl_filter p l]
theorem w_LeastOf (L : List (List UInt8)) (hL : Sm L) : W (fun K _ => f_gateref2_LeastOf K (.n (L.map D.s))) (fun r => r = [.n ((leastL L).map D.s)]) := by
  have h1000 := hL.1
  unfold f_gateref2_LeastOf
  simp only [D.list_n, List.length_map]
  refine W.bind (p := fun r => r = (0, [.n ((L.filter fun s => !lessB L s).map D.s)])) (W.foldl (S := List D) (L.map D.s) (fun j s => [.n (L.map D.s), .n (L.map D.s), .i (L.length : Int), .i (j : Int), .n s]) (fun s x => bif (fun x : D => !lessB L x.str) x then s ++ [x] else s) [] (fun j s hj hs hW => ?_) ?_) ?_
  · have hj' : j < L.length := by simpa using hj
    have hsl : s.length ≤ 1000 := by
      rw [hs, foldl_filter]
      have := List.length_filter_le (fun x : D => !lessB L x.str) ((L.map D.s).take j)
      simp at this ⊢
      omega
    rw [nthS hj'] at hW
    unfold b_gateref2_LeastOf_0
    simp only [D.nth_zero, D.nth_succ, D.int_i, D.list_n, Int.toNat_natCast, nthS hj']
    refine W.cond (fun _ => ?_) (fun h => by simp at h; omega)
    refine W.cond (fun _ => ?_) (fun h => by simp at h; omega)
    have e1 : IntKind.i64.wrap ((j : Int) + 1) = ((j + 1 : Nat) : Int) := by rw [wrap_i64 (by omega) (by omega)]; simp
    rw [e1]
    refine W.bind (p := fun r => r = [.b (lessB L (L[j]'hj')), .s (L[j]'hj')]) ?_ ?_
    · unfold f_slices_ContainsFunc_stringe f_slices_IndexFunc_stringf
      simp only [D.list_n, List.length_map]
      refine W.bind (p := fun r => ∃ i : Int, r = [.i i, .s (L[j]'hj')] ∧ geI i 0 = lessB L (L[j]'hj')) (W.bind (W.findS L (fun h => bif !(h == (L[j]'hj')) then cov h (L[j]'hj') else false) (fun k => [.n (L.map D.s), .i (L.length : Int), .i (k : Int), .s (L[j]'hj')]) (fun i => (0, [.i (i : Int), .s (L[j]'hj')])) (1, [.s (L[j]'hj')]) (fun k hk q rc h1 h2 => ?_) (fun rc => ?_)) ?_) ?_
      · unfold b_slices_IndexFunc_stringf_0 f_gateref2_LeastOf_1
        simp only [D.nth_zero, D.nth_succ, D.int_i, D.list_n, D.str_s, Int.toNat_natCast, nthS hk]
        refine W.cond (fun _ => ?_) (fun h => by simp at h; omega)
        refine W.cond (fun _ => ?_) (fun h => by simp at h; omega)
        refine W.bind (p := fun r => r = [.b (bif !((L[k]'hk) == (L[j]'hj')) then cov (L[k]'hk) (L[j]'hj') else false), .s (L[j]'hj')]) (W.cond (fun h => ?_) (fun h => W.ret (by rw [h]; rfl))) ?_
        · refine W.bind (w_over _ _ (hL.2 _ (List.getElem_mem hk)) (hL.2 _ (List.getElem_mem hj'))) ?_
          rintro _ rfl
          exact W.ret (by rw [h]; rfl)
        · rintro _ rfl
          simp only [D.nth_zero, D.nth_succ, D.bool_b]
          refine W.cond (fun h => W.ret (h1 h)) (fun h => ?_)
          rw [wrap_i64 (by omega) (by omega)]
          exact h2 h
      · unfold b_slices_IndexFunc_stringf_0
        simp only [D.nth_zero, D.nth_succ, D.int_i]
        exact W.cond (fun h => by simp at h) (fun _ => W.ret rfl)
      · rintro _ (⟨h1, i, hi, rfl⟩ | ⟨h1, rfl⟩)
        · exact W.ret ⟨i, rfl, by unfold lessB; rw [h1]; simp⟩
        · exact W.ret ⟨-1, rfl, by unfold lessB; rw [h1]; simp [geI]⟩
      · rintro _ ⟨i, rfl, hi⟩
        exact W.ret (by rw [← hi]; rfl)
    · rintro _ rfl
      simp only [D.nth_zero, D.nth_succ, D.bool_b]
      refine W.cond (fun h => ?_) (fun h => ?_)
      · refine W.cond (fun _ => ?_) (fun h => absurd (lim_mk (n := s.length + 1) (by omega)) (by rw [h]; simp))
        simp only [D.str_s, h, cond_true] at hW
        exact hW
      · simp only [D.str_s, h, cond_false] at hW
        exact hW
  · unfold b_gateref2_LeastOf_0
    simp only [D.nth_zero, D.nth_succ, D.int_i, D.list_n, List.length_map]
    refine W.cond (fun h => by simp at h) (fun _ => W.ret ?_)
    rw [foldl_filter, List.nil_append, filter_mapS L (fun s => !lessB L s)]
  · rintro _ rfl
    simp only [D.nth_zero, D.list_n]
    have hf := List.length_filter_le (fun s => !lessB L s) L
    refine W.bind (w_SortS _ (by omega)) ?_
    rintro _ rfl
    simp only [D.nth_zero, D.list_n, p_slices_Compact_string]
    exact W.ret (by rw [compS_sort, leastL_ref])
/-! ### What both cover -/
def gM (x y : List UInt8) : List (List UInt8) := bif cov x y then [y] else bif cov y x then [x] else []
def meetP (A B : List (List UInt8)) : List (List UInt8) := A.flatMap fun x => B.flatMap fun y => gM x y
def meetR (A B : List (List UInt8)) : List (List UInt8) := (A ++ B).filter fun s => bif A.any (fun h => cov h s) then B.any (fun h => cov h s) else false
theorem gM_len (x y : List UInt8) : (gM x y).length ≤ 1 := by
  unfold gM
  cases cov x y <;> cases cov y x <;> simp
theorem flatMap_len {α β : Type} (g : α → List β) (n : Nat) (hg : ∀ x, (g x).length ≤ n) : ∀ l : List α, (l.flatMap g).length ≤ l.length * n
  | [] => by simp
  | x :: l => by
    have h1 := hg x
    have h2 := flatMap_len g n hg l
    rw [List.flatMap_cons, List.length_append, List.length_cons, Nat.succ_mul]
    omega
theorem meet_in {A B : List (List UInt8)} {s : List UInt8} (h : s ∈ meetP A B) : s ∈ A ∨ s ∈ B := by
  unfold meetP at h
  simp only [List.mem_flatMap] at h
  obtain ⟨x, hx, y, hy, h⟩ := h
  unfold gM at h
  cases h1 : cov x y <;> cases h2 : cov y x <;> simp [h1, h2] at h
  · subst h; exact .inl hx
  · subst h; exact .inr hy
  · subst h; exact .inr hy
theorem meet_same {A B : List (List UInt8)} (hA : ∀ a ∈ A, a ∈ scR) (hB : ∀ b ∈ B, b ∈ scR) (s : List UInt8) : s ∈ meetP A B ↔ s ∈ meetR A B := by
  unfold meetP meetR
  simp only [List.mem_flatMap, List.mem_filter, List.mem_append]
  constructor
  · rintro ⟨x, hx, y, hy, h⟩
    unfold gM at h
    cases h1 : cov x y with
    | true =>
      simp only [h1, cond_true, List.mem_singleton] at h
      subst h
      have ha : A.any (fun h => cov h s) = true := List.any_eq_true.2 ⟨x, hx, h1⟩
      have hb : B.any (fun h => cov h s) = true := List.any_eq_true.2 ⟨s, hy, cov_refl s⟩
      exact ⟨.inr hy, by rw [ha, hb]; rfl⟩
    | false =>
      cases h2 : cov y x with
      | false => simp [h1, h2] at h
      | true =>
        simp only [h1, h2, cond_true, cond_false, List.mem_singleton] at h
        subst h
        have ha : A.any (fun h => cov h s) = true := List.any_eq_true.2 ⟨s, hx, cov_refl s⟩
        have hb : B.any (fun h => cov h s) = true := List.any_eq_true.2 ⟨y, hy, h2⟩
        exact ⟨.inl hx, by rw [ha, hb]; rfl⟩
  · rintro ⟨hm, hp⟩
    cases ha : A.any (fun h => cov h s) with
    | false => rw [ha] at hp; cases hp
    | true =>
      rw [ha, cond_true] at hp
      obtain ⟨a, ha1, ha2⟩ := List.any_eq_true.1 ha
      obtain ⟨b, hb1, hb2⟩ := List.any_eq_true.1 hp
      rcases hm with hm | hm
      · cases h1 : cov s b with
        | true =>
          have := scR_anti (hA s hm) (hB b hb1) h1 hb2
          subst this
          exact ⟨s, hm, s, hb1, by simp [gM, cov_refl]⟩
        | false => exact ⟨s, hm, b, hb1, by simp [gM, h1, hb2]⟩
      · exact ⟨a, ha1, s, hm, by simp [gM, ha2]⟩
theorem w_checkLists {a b : List D} (ha : ScL a) (hb : ScL b) : W (fun K _ => f_token_checkLists K (.n [.n a, .n b])) (fun r => r = [.i (bif fltS a != 0 then fltS a else fltS b)]) := by
  unfold f_token_checkLists
  refine W.bind (p := fun r => r = bif fltS a != 0 then (0, [.i (fltS a)]) else bif fltS b != 0 then (0, [.i (fltS b)]) else (1, [])) ?_ ?_
  · refine W.loop (W.step ?_)
    unfold b_token_checkLists_0
    simp only [D.nth_zero, D.nth_succ, D.int_i, D.list_n]
    refine W.cond (fun _ => ?_) (fun h => by simp at h)
    refine W.cond (fun _ => ?_) (fun h => by simp at h)
    refine W.bind (w_CheckScopes ha) ?_
    rintro _ rfl
    simp only [D.nth_zero, D.int_i]
    refine W.cond (fun h => W.ret (by rw [h]; rfl)) (fun h => ?_)
    rw [h, cond_false]
    refine W.step ?_
    rw [wrap_i64 (by omega) (by omega)]
    simp only [D.nth_zero, D.nth_succ, D.int_i, D.list_n]
    refine W.cond (fun _ => ?_) (fun h => by simp at h)
    refine W.cond (fun _ => ?_) (fun h => by simp at h)
    rw [show ((0 : Int) + 1).toNat = 1 from rfl]
    simp only [D.nth_zero, D.nth_succ]
    refine W.bind (p := fun r => r = [.i (fltS b)]) (w_CheckScopes hb) ?_
    rintro _ rfl
    simp only [D.nth_zero, D.int_i]
    refine W.cond (fun h => W.ret (by rw [h]; rfl)) (fun h => ?_)
    rw [h, cond_false]
    refine W.step ?_
    rw [wrap_i64 (by omega) (by omega)]
    simp only [D.nth_zero, D.nth_succ, D.int_i, D.list_n]
    exact W.cond (fun h => by simp at h) (fun _ => W.ret rfl)
  · rintro _ rfl
    cases h1 : fltS a != 0 with
    | true => exact W.ret rfl
    | false =>
      cases h2 : fltS b != 0 with
      | true => exact W.ret rfl
      | false =>
        have : fltS b = 0 := by simpa using h2
        exact W.ret (by rw [this]; rfl)
theorem Sm.of {L : List (List UInt8)} (h : L.length ≤ 5) (h2 : ∀ a ∈ L, a ∈ scR) : Sm L := ⟨by omega, fun a ha => List.mem_append_left _ (h2 a ha)⟩
def e2S (a b : List D) : Int := bif fltS a != 0 then fltS a else fltS b
theorem w_Covers {a b : List D} (ha : ScL a) (hb : ScL b) : W (fun K _ => f_token_Covers K (.n a) (.n b)) (fun r => r = [.b (bif e2S a b == 0 then coversL (a.map D.str) (b.map D.str) else false), .i (e2S a b)]) := by
  unfold f_token_Covers
  refine W.bind (w_checkLists ha hb) ?_
  rintro _ rfl
  simp only [D.nth_zero, D.int_i]
  refine W.cond (fun h => W.ret ?_) (fun h => ?_)
  · have h0 : (e2S a b == 0) = false := by rw [e2S]; simpa using h
    rw [h0]; rfl
  · have h0 : e2S a b = 0 := by rw [e2S]; simpa using h
    have h1 : fltS a = 0 := by
      unfold e2S at h0
      cases hx : fltS a != 0 with
      | false => simpa using hx
      | true => rw [hx] at h0; simpa using h0
    have h2 : fltS b = 0 := by
      unfold e2S at h0
      rw [h1] at h0
      simpa using h0
    obtain ⟨A, rfl, hA1, hA2⟩ := flt_ok ha h1
    obtain ⟨B, rfl, hB1, hB2⟩ := flt_ok hb h2
    refine W.bind (w_coverAll A B (.of hA1 hA2) (.of hB1 hB2)) ?_
    rintro _ rfl
    refine W.ret ?_
    rw [h0, str_map, str_map]
    rfl
theorem w_LeastScopes {a : List D} (ha : ScL a) : W (fun K _ => f_token_LeastScopes K (.n a)) (fun r => r = [.i (fltS a), .n (bif fltS a == 0 then (leastL (a.map D.str)).map D.s else [])]) := by
  unfold f_token_LeastScopes
  refine W.bind (w_CheckScopes ha) ?_
  rintro _ rfl
  simp only [D.nth_zero, D.int_i]
  refine W.cond (fun h => W.ret ?_) (fun h => ?_)
  · have h0 : (fltS a == 0) = false := by simpa using h
    rw [h0]; rfl
  · have h0 : fltS a = 0 := by simpa using h
    obtain ⟨A, rfl, hA1, hA2⟩ := flt_ok ha h0
    refine W.bind (w_least A (.of hA1 hA2)) ?_
    rintro _ rfl
    refine W.ret ?_
    rw [h0, str_map]
    rfl
theorem foldl_app {α β : Type} (g : α → List β) : ∀ (l : List α) (acc : List β), l.foldl (fun s x => s ++ g x) acc = acc ++ l.flatMap g
  | [], acc => by simp
  | x :: l, acc => by simp [foldl_app g l]
theorem flatMap_mapS (L : List (List UInt8)) (g : List UInt8 → List (List UInt8)) : (L.map D.s).flatMap (fun y => (g y.str).map D.s) = (L.flatMap g).map D.s := by
  rw [List.flatMap_map, List.map_flatMap]
  rfl
theorem w_Meet {a b : List D} (ha : ScL a) (hb : ScL b) : W (fun K _ => f_token_Meet K (.n a) (.n b)) (fun r => r = [.i (e2S a b), .n (bif e2S a b == 0 then (leastL (meetP (a.map D.str) (b.map D.str))).map D.s else [])]) := by
  unfold f_token_Meet
  refine W.bind (w_checkLists ha hb) ?_
  rintro _ rfl
  simp only [D.nth_zero, D.int_i]
  refine W.cond (fun h => W.ret ?_) (fun h => ?_)
  · have h0 : (e2S a b == 0) = false := by rw [e2S]; simpa using h
    rw [h0]; rfl
  have h0 : e2S a b = 0 := by rw [e2S]; simpa using h
  have h1 : fltS a = 0 := by
    unfold e2S at h0
    cases hx : fltS a != 0 with
    | false => simpa using hx
    | true => rw [hx] at h0; simpa using h0
  have h2 : fltS b = 0 := by
    unfold e2S at h0
    rw [h1] at h0
    simpa using h0
  obtain ⟨A, rfl, hA1, hA2⟩ := flt_ok ha h1
  obtain ⟨B, rfl, hB1, hB2⟩ := flt_ok hb h2
  have hg : ∀ x, (B.flatMap fun y => gM x y).length ≤ 5 := fun x => by
    have := flatMap_len (fun y => gM x y) 1 (fun y => gM_len x y) B
    omega
  have hmp : (meetP A B).length ≤ 25 := by
    have := flatMap_len (fun x => B.flatMap fun y => gM x y) 5 hg A
    unfold meetP
    omega
  have hSm : Sm (meetP A B) := ⟨by omega, fun s hs => by
    rcases meet_in hs with h | h
    · exact List.mem_append_left _ (hA2 s h)
    · exact List.mem_append_left _ (hB2 s h)⟩
  simp only [D.list_n, List.length_map]
  refine W.bind (p := fun r => r = (0, [.n ((meetP A B).map D.s)])) (W.foldl (S := List D) (A.map D.s) (fun j s => [.n (B.map D.s), .n (A.map D.s), .i (A.length : Int), .i (j : Int), .n s]) (fun s x => s ++ ((fun x : List UInt8 => B.flatMap fun y => gM x y) x.str).map D.s) [] (fun j s hj hs hW => ?_) ?_) ?_
  · have hj' : j < A.length := by simpa using hj
    have hsl : s.length ≤ 1000 := by
      rw [hs, foldl_app, List.nil_append]
      have := flatMap_len (fun x : D => ((fun x : List UInt8 => B.flatMap fun y => gM x y) x.str).map D.s) 5 (fun x => by simpa using hg x.str) ((A.map D.s).take j)
      simp at this ⊢
      have h5 : min j A.length ≤ 5 := by omega
      have h6 : min j A.length * 5 ≤ 5 * 5 := Nat.mul_le_mul_right 5 h5
      omega
    rw [nthS hj'] at hW
    unfold b_token_Meet_0
    simp only [D.nth_zero, D.nth_succ, D.int_i, D.list_n, Int.toNat_natCast, nthS hj', List.length_map]
    refine W.cond (fun _ => ?_) (fun h => by simp at h; omega)
    refine W.cond (fun _ => ?_) (fun h => by simp at h; omega)
    refine W.bind (p := fun r => r = (0, [.n (s ++ (B.flatMap fun y => gM (A[j]'hj') y).map D.s)])) (W.foldl (S := List D) (B.map D.s) (fun k t => [.s (A[j]'hj'), .n (B.map D.s), .i (B.length : Int), .i (k : Int), .n t]) (fun t y => t ++ ((fun y : List UInt8 => gM (A[j]'hj') y) y.str).map D.s) s (fun k t hk ht hW2 => ?_) ?_) ?_
    · have hk' : k < B.length := by simpa using hk
      have htl : t.length ≤ 2000 := by
        rw [ht, foldl_app]
        have := flatMap_len (fun y : D => ((fun y : List UInt8 => gM (A[j]'hj') y) y.str).map D.s) 1 (fun y => by simpa using gM_len (A[j]'hj') y.str) ((B.map D.s).take k)
        simp at this ⊢
        omega
      rw [nthS hk'] at hW2
      unfold b_token_Meet_1
      simp only [D.nth_zero, D.nth_succ, D.int_i, D.list_n, Int.toNat_natCast, nthS hk']
      refine W.cond (fun _ => ?_) (fun h => by simp at h; omega)
      refine W.cond (fun _ => ?_) (fun h => by simp at h; omega)
      have e1 : IntKind.i64.wrap ((k : Int) + 1) = ((k + 1 : Nat) : Int) := by rw [wrap_i64 (by omega) (by omega)]; simp
      rw [e1]
      have hlx : (A[j]'hj').length ≤ 1000 := by have := sc_len (List.mem_append_left scB (hA2 _ (List.getElem_mem hj'))); omega
      have hly : (B[k]'hk').length ≤ 1000 := by have := sc_len (List.mem_append_left scB (hB2 _ (List.getElem_mem hk'))); omega
      refine W.bind (w_covers _ _ hlx) ?_
      rintro _ rfl
      simp only [D.nth_zero, D.bool_b, D.str_s, gM] at hW2 ⊢
      refine W.cond (fun h => ?_) (fun h => ?_)
      · refine W.cond (fun _ => ?_) (fun h => absurd (lim_mk (n := t.length + 1) (by omega)) (by rw [h]; simp))
        simp only [h, cond_true] at hW2
        exact hW2
      · simp only [h, cond_false] at hW2
        refine W.bind (w_covers _ _ hly) ?_
        rintro _ rfl
        simp only [D.nth_zero, D.bool_b]
        refine W.cond (fun h => ?_) (fun h => ?_)
        · refine W.cond (fun _ => ?_) (fun h => absurd (lim_mk (n := t.length + 1) (by omega)) (by rw [h]; simp))
          simp only [h, cond_true] at hW2
          exact hW2
        · simp only [h, cond_false, List.map_nil, List.append_nil] at hW2
          exact hW2
    · unfold b_token_Meet_1
      simp only [D.nth_zero, D.nth_succ, D.int_i, D.list_n, List.length_map]
      refine W.cond (fun h => by simp at h) (fun _ => W.ret ?_)
      rw [foldl_app, flatMap_mapS B (fun y => gM (A[j]'hj') y)]
    · rintro _ rfl
      simp only [D.nth_zero, D.list_n]
      have e1 : IntKind.i64.wrap ((j : Int) + 1) = ((j + 1 : Nat) : Int) := by rw [wrap_i64 (by omega) (by omega)]; simp
      rw [e1]
      simp only [D.str_s] at hW
      exact hW
  · unfold b_token_Meet_0
    simp only [D.nth_zero, D.nth_succ, D.int_i, D.list_n, List.length_map]
    refine W.cond (fun h => by simp at h) (fun _ => W.ret ?_)
    rw [foldl_app, List.nil_append, flatMap_mapS A (fun x => B.flatMap fun y => gM x y)]
    rfl
  · rintro _ rfl
    simp only [D.nth_zero, D.list_n]
    refine W.bind (w_least _ hSm) ?_
    rintro _ rfl
    simp only [D.nth_zero, D.list_n, List.length_map]
    have := leastL_len (meetP A B)
    refine W.cond (fun h => by simp at h; omega) (fun _ => W.ret ?_)
    rw [h0, str_map, str_map]
    rfl
theorem w_Grow (n : Nat) (hn : n ≤ 1000000) : W (fun K _ => f_slices_Grow_string K (.i (n : Int))) (fun r => r = [.n []]) := by
  unfold f_slices_Grow_string b_slices_Grow_string_0
  simp only [D.nth_zero, D.int_i, D.bool_b]
  refine W.bind (p := fun r => r = (0, [])) (W.cond (fun h => by simp at h; omega) (fun _ => W.ret rfl)) ?_
  rintro _ rfl
  have e1 : IntKind.i64.wrap ((n : Int) - 0) = (n : Int) := by rw [wrap_i64 (by omega) (by omega)]; omega
  rw [e1]
  refine W.cond (fun h => ?_) (fun _ => W.ret rfl)
  simp at h
  refine W.cond (fun _ => ?_) (fun h2 => ?_)
  · exact W.cond (fun _ => W.ret rfl) (fun h3 => by simp at h3; omega)
  · exfalso
    rw [Int.toNat_natCast, lim_mk (by omega), Bool.and_true] at h2
    simp at h2
    omega
theorem w_Concat (a b : List D) (ha : a.length ≤ 1000) (hb : b.length ≤ 1000) : W (fun K _ => f_slices_Concat_string K (.n [.n a, .n b])) (fun r => r = [.n (a ++ b)]) := by
  unfold f_slices_Concat_string
  have e0 : IntKind.i64.wrap ((0 : Int) + 1) = 1 := wrap_i64 (by omega) (by omega)
  have e1 : IntKind.i64.wrap ((1 : Int) + 1) = 2 := wrap_i64 (by omega) (by omega)
  have es : IntKind.i64.wrap ((0 : Int) + (a.length : Int)) = (a.length : Int) := by rw [wrap_i64 (by omega) (by omega)]; omega
  have et : IntKind.i64.wrap ((a.length : Int) + (b.length : Int)) = ((a.length + b.length : Nat) : Int) := by rw [wrap_i64 (by omega) (by omega)]; omega
  refine W.bind (p := fun r => r = (0, [.i ((a.length + b.length : Nat) : Int)])) ?_ ?_
  · refine W.loop (W.step ?_)
    unfold b_slices_Concat_string_0
    simp only [D.nth_zero, D.nth_succ, D.int_i, D.list_n]
    refine W.cond (fun _ => ?_) (fun h => by simp at h)
    refine W.cond (fun _ => ?_) (fun h => by simp at h)
    rw [show ((0 : Int)).toNat = 0 from rfl]
    simp only [D.nth_zero, D.list_n, es]
    refine W.cond (fun h => by simp at h; omega) (fun _ => ?_)
    refine W.step ?_
    rw [e0]
    simp only [D.nth_zero, D.nth_succ, D.int_i, D.list_n]
    refine W.cond (fun _ => ?_) (fun h => by simp at h)
    refine W.cond (fun _ => ?_) (fun h => by simp at h)
    rw [show ((1 : Int)).toNat = 1 from rfl]
    simp only [D.nth_zero, D.nth_succ, D.list_n, et]
    refine W.cond (fun h => by simp at h; omega) (fun _ => ?_)
    refine W.step ?_
    rw [e1]
    simp only [D.nth_zero, D.nth_succ, D.int_i, D.list_n]
    exact W.cond (fun h => by simp at h) (fun _ => W.ret rfl)
  · rintro _ rfl
    simp only [D.nth_zero]
    refine W.bind (w_Grow _ (by omega)) ?_
    rintro _ rfl
    simp only [D.nth_zero, D.list_n]
    refine W.bind (p := fun r => r = (0, [.n (a ++ b)])) ?_ ?_
    · refine W.loop (W.step ?_)
      unfold b_slices_Concat_string_1
      simp only [D.nth_zero, D.nth_succ, D.int_i, D.list_n]
      refine W.cond (fun _ => ?_) (fun h => by simp at h)
      refine W.cond (fun _ => ?_) (fun h => by simp at h)
      rw [show ((0 : Int)).toNat = 0 from rfl]
      simp only [D.nth_zero, D.list_n, List.length_nil, List.nil_append]
      refine W.cond (fun _ => ?_) (fun h => absurd (lim_mk (n := 0 + a.length) (by omega)) (by rw [h]; simp))
      refine W.step ?_
      rw [e0]
      simp only [D.nth_zero, D.nth_succ, D.int_i, D.list_n]
      refine W.cond (fun _ => ?_) (fun h => by simp at h)
      refine W.cond (fun _ => ?_) (fun h => by simp at h)
      rw [show ((1 : Int)).toNat = 1 from rfl]
      simp only [D.nth_zero, D.nth_succ, D.list_n]
      refine W.cond (fun _ => ?_) (fun h => absurd (lim_mk (n := a.length + b.length) (by omega)) (by rw [h]; simp))
      refine W.step ?_
      rw [e1]
      simp only [D.nth_zero, D.nth_succ, D.int_i, D.list_n]
      exact W.cond (fun h => by simp at h) (fun _ => W.ret rfl)
    · rintro _ rfl
      exact W.ret rfl
theorem w_MeetOf {A B : List (List UInt8)} (hA1 : A.length ≤ 5) (hB1 : B.length ≤ 5) (hA2 : ∀ a ∈ A, a ∈ scR) (hB2 : ∀ a ∈ B, a ∈ scR) : W (fun K _ => f_gateref2_MeetOf K (.n (A.map D.s)) (.n (B.map D.s))) (fun r => r = [.n ((leastL (meetP A B)).map D.s)]) := by
  have sA : Sm A := .of hA1 hA2
  have sB : Sm B := .of hB1 hB2
  unfold f_gateref2_MeetOf
  refine W.bind (w_Concat _ _ (by simp; omega) (by simp; omega)) ?_
  rintro _ rfl
  simp only [D.nth_zero, D.list_n]
  rw [← List.map_append]
  have hC : ∀ s ∈ A ++ B, s ∈ sc := fun s hs => by
    rcases List.mem_append.1 hs with h | h
    · exact sA.2 s h
    · exact sB.2 s h
  have hCl : (A ++ B).length ≤ 10 := by simp; omega
  rw [leastL_congr (meet_same hA2 hB2)]
  unfold meetR
  generalize hCe : A ++ B = C at hC hCl
  simp only [List.length_map]
  refine W.bind (p := fun r => r = (0, [.n (C.map D.s), .n ((C.filter fun s => bif A.any (fun h => cov h s) then B.any (fun h => cov h s) else false).map D.s)])) (W.foldl (S := List D) (C.map D.s) (fun j s => [.n (A.map D.s), .n (B.map D.s), .i (C.length : Int), .i (j : Int), .n (C.map D.s), .n s]) (fun s x => bif (fun x : D => (fun s : List UInt8 => bif A.any (fun h => cov h s) then B.any (fun h => cov h s) else false) x.str) x then s ++ [x] else s) [] (fun j s hj hs hW => ?_) ?_) ?_
  · have hj' : j < C.length := by simpa using hj
    have hsl : s.length ≤ 1000 := by
      rw [hs, foldl_filter]
      have := List.length_filter_le (fun x : D => (fun s : List UInt8 => bif A.any (fun h => cov h s) then B.any (fun h => cov h s) else false) x.str) ((C.map D.s).take j)
      simp at this ⊢
      omega
    rw [nthS hj'] at hW
    unfold b_gateref2_MeetOf_0
    simp only [D.nth_zero, D.nth_succ, D.int_i, D.list_n, Int.toNat_natCast, nthS hj']
    have hcs := hC _ (List.getElem_mem hj')
    refine W.cond (fun _ => ?_) (fun h => by simp at h; omega)
    refine W.cond (fun _ => ?_) (fun h => by simp at h; omega)
    have e1 : IntKind.i64.wrap ((j : Int) + 1) = ((j + 1 : Nat) : Int) := by rw [wrap_i64 (by omega) (by omega)]; simp
    rw [e1]
    refine W.bind (w_covered A _ sA hcs) ?_
    rintro _ rfl
    simp only [D.nth_zero, D.bool_b, D.str_s] at hW ⊢
    refine W.cond (fun h => ?_) (fun h => ?_)
    · simp only [h, cond_true] at hW
      refine W.bind (w_covered B _ sB hcs) ?_
      rintro _ rfl
      simp only [D.nth_zero, D.bool_b]
      refine W.cond (fun h => ?_) (fun h => ?_)
      · refine W.cond (fun _ => ?_) (fun h => absurd (lim_mk (n := s.length + 1) (by omega)) (by rw [h]; simp))
        simp only [h, cond_true] at hW
        exact hW
      · simp only [h, cond_false] at hW
        exact hW
    · simp only [h, cond_false] at hW
      exact hW
  · unfold b_gateref2_MeetOf_0
    simp only [D.nth_zero, D.nth_succ, D.int_i, D.list_n, List.length_map]
    refine W.cond (fun h => by simp at h) (fun _ => W.ret ?_)
    rw [foldl_filter, List.nil_append, filter_mapS C (fun s => bif A.any (fun h => cov h s) then B.any (fun h => cov h s) else false)]
  · rintro _ rfl
    simp only [D.nth_zero, D.nth_succ, D.list_n]
    have hf := List.length_filter_le (fun s => bif A.any (fun h => cov h s) then B.any (fun h => cov h s) else false) C
    refine W.bind (w_LeastOf _ ⟨by omega, fun s hs => hC s (List.mem_filter.1 hs).1⟩) ?_
    rintro _ rfl
    exact W.ret rfl
theorem signed : W (fun K _ => f_gatelaw2_signed K) (· = [.b true]) :=
  ⟨_, rfl, 20, fun K n hK hn => by
    obtain ⟨m, rfl⟩ : ∃ m, K = m + 20 := ⟨K - 20, by omega⟩
    kernel_rfl⟩
/-! ### The law -/
theorem w_errs2n (x y : Int) : W (fun K _ => f_gatelaw2_errs K (.n [.i x, .i y])) (fun r => r = [.i (bif x != 0 then x else y)]) := by
  unfold f_gatelaw2_errs
  refine W.bind (W.early 2 (fun j => [.n [.i x, .i y], .i 2, .i (j : Int)]) (fun j => bif ((D.nth [.i x, .i y] j).int != 0) then some (0, [D.nth [.i x, .i y] j]) else none) (1, []) (fun j hj hp p rc h1 h2 => ?_) (fun rc => ?_)) ?_
  · unfold b_gatelaw2_errs_0
    simp only [D.nth_zero, D.nth_succ, D.int_i, D.list_n, Int.toNat_natCast]
    refine W.cond (fun _ => ?_) (fun h => by simp at h; omega)
    refine W.cond (fun _ => ?_) (fun h => by simp at h; omega)
    refine W.cond (fun h => W.ret (h1 _ (by rw [h]; rfl))) (fun h => ?_)
    rw [wrap_i64 (by omega) (by omega)]
    exact h2 (by rw [h]; rfl)
  · unfold b_gatelaw2_errs_0
    simp only [D.nth_zero, D.nth_succ, D.int_i]
    exact W.cond (fun h => by simp at h) (fun _ => W.ret rfl)
  · rintro _ rfl
    simp only [scan, D.nth_zero, D.nth_succ, D.int_i]
    cases h1 : x != 0 with
    | true => exact W.ret (by simp)
    | false =>
      cases h2 : y != 0 with
      | true => exact W.ret (by simp)
      | false =>
        have : y = 0 := by simpa using h2
        subst this
        exact W.ret (by simp)
theorem w_EqualStr (l : List D) (hl : l.length ≤ 1000) : W (fun K _ => f_slices_Equal_string K (.n l) (.n l)) (fun r => r = [.b true]) := by
  unfold f_slices_Equal_string
  simp only [D.list_n]
  refine W.cond (fun h => by simp at h) (fun _ => ?_)
  refine W.bind (W.early l.length (fun j => [.n l, .n l, .i l.length, .i j]) (fun _ => none) (1, []) (fun j hj hp p rc h1 h2 => ?_) (fun rc => ?_)) ?_
  · unfold b_slices_Equal_string_0
    simp only [D.nth_zero, D.nth_succ, D.list_n, D.int_i, Int.toNat_natCast]
    refine W.cond (fun _ => ?_) (fun h => by simp at h; omega)
    refine W.cond (fun _ => ?_) (fun h => by simp at h; omega)
    refine W.cond (fun _ => ?_) (fun h => by simp at h; omega)
    refine W.cond (fun h => by simp at h) (fun h => ?_)
    rw [wrap_i64 (by omega) (by omega)]
    exact h2 rfl
  · unfold b_slices_Equal_string_0
    simp only [D.nth_zero, D.nth_succ, D.list_n, D.int_i]
    exact W.cond (fun h => by simp at h) (fun _ => W.ret rfl)
  · rintro _ rfl
    rcases scan_cases (fun _ => (none : Option (Nat × List D))) (1, []) l.length 0 with ⟨i, r, h1, h2, h3, _⟩ | ⟨h1, h2⟩
    · cases h3
    · rw [h2]; exact W.ret rfl
theorem e2S_zero {a b : List D} (h0 : e2S a b = 0) : fltS a = 0 ∧ fltS b = 0 := by
  have h1 : fltS a = 0 := by
    unfold e2S at h0
    cases hx : fltS a != 0 with
    | false => simpa using hx
    | true => rw [hx] at h0; simpa using h0
  refine ⟨h1, ?_⟩
  unfold e2S at h0
  rw [h1] at h0
  simpa using h0
theorem pure (zs : List Int) (h : zs.length ≤ maxLen) (hw : ∀ n ∈ zs, (Lit.int .i64 n).wf = true) : ∃ K, f_gatelaw2_ScopesCover K (.n (zs.map D.i)) = some [.b true] := by
  have : W (fun K _ => f_gatelaw2_ScopesCover K (.n (zs.map D.i))) (fun r => r = [.b true]) := by
    unfold f_gatelaw2_ScopesCover
    refine W.bind (w_Scopes 0 _ ⟨_, 0, rfl, by omega, by omega⟩ (by omega)) ?_
    rintro _ ⟨s1, a, rfl, ha, h1⟩
    simp only [D.nth_zero, D.nth_succ, D.list_n]
    refine W.bind (w_Scopes _ _ h1 (by omega)) ?_
    rintro _ ⟨s2, b, rfl, hb, h2⟩
    simp only [D.nth_zero, D.nth_succ, D.list_n]
    refine W.bind (w_Covers ha hb) ?_
    rintro _ rfl
    refine W.bind (w_LeastScopes ha) ?_
    rintro _ rfl
    refine W.bind (w_Meet ha hb) ?_
    rintro _ rfl
    refine W.bind (w_ScopesFault ha) ?_
    rintro _ rfl
    refine W.bind (w_ScopesFault ha) ?_
    rintro _ rfl
    refine W.bind (w_ScopesFault hb) ?_
    rintro _ rfl
    simp only [D.nth_zero, D.nth_succ, D.list_n]
    refine W.bind (w_errs2n _ _) ?_
    rintro _ rfl
    simp only [D.nth_zero, D.nth_succ, D.list_n, D.int_i]
    rw [show (bif fltS a != 0 then fltS a else fltS b) = e2S a b from rfl]
    refine W.bind (p := fun r => r = (0, [.b false, .n a, .n b])) ?_ ?_
    · unfold b_gatelaw2_ScopesCover_0
      simp only [D.nth_zero, D.nth_succ, D.list_n, D.int_i, D.bool_b]
      refine W.bind (w_CheckScopes ha) ?_
      rintro _ rfl
      simp only [D.nth_zero, D.int_i, bne_self_eq_false, cond_false, Bool.not_false]
      refine W.cond (fun _ => ?_) (fun h => by simp at h)
      refine W.cond (fun h => ?_) (fun h => W.ret (by rw [h]; rfl))
      have h0 : e2S a b = 0 := by simpa using h
      obtain ⟨g1, g2⟩ := e2S_zero h0
      obtain ⟨A, rfl, hA1, hA2⟩ := flt_ok ha g1
      obtain ⟨B, rfl, hB1, hB2⟩ := flt_ok hb g2
      refine W.bind (w_CoversOf A B (.of hA1 hA2) (.of hB1 hB2)) ?_
      rintro _ rfl
      refine W.ret ?_
      rw [h, str_map, str_map]
      simp only [cond_true, D.nth_zero, D.bool_b, beq_self_eq_true, Bool.not_true]
    · rintro _ rfl
      simp only [D.nth_zero, D.nth_succ, D.list_n, D.bool_b]
      refine W.cond (fun h => by simp at h) (fun _ => ?_)
      refine W.bind (p := fun r => r = (0, [.n a, .n (bif fltS a == 0 then (leastL (a.map D.str)).map D.s else [])])) ?_ ?_
      · unfold b_gatelaw2_ScopesCover_1
        simp only [D.nth_zero, D.nth_succ, D.list_n, D.bool_b]
        refine W.cond (fun h => ?_) (fun h => W.ret (by rw [h]; rfl))
        have h0 : fltS a = 0 := by simpa using h
        obtain ⟨A, rfl, hA1, hA2⟩ := flt_ok ha h0
        refine W.bind (w_LeastOf A (.of hA1 hA2)) ?_
        rintro _ rfl
        exact W.ret (by rw [h, str_map]; rfl)
      rintro _ rfl
      simp only [D.nth_zero, D.nth_succ, D.list_n]
      refine W.bind (p := fun r => r = (0, [.n a, .n b, .n (bif e2S a b == 0 then (leastL (meetP (a.map D.str) (b.map D.str))).map D.s else [])])) ?_ ?_
      · unfold b_gatelaw2_ScopesCover_2
        simp only [D.nth_zero, D.nth_succ, D.list_n, D.bool_b]
        refine W.cond (fun h => ?_) (fun h => W.ret (by rw [h]; rfl))
        have h0 : e2S a b = 0 := by simpa using h
        obtain ⟨g1, g2⟩ := e2S_zero h0
        obtain ⟨A, rfl, hA1, hA2⟩ := flt_ok ha g1
        obtain ⟨B, rfl, hB1, hB2⟩ := flt_ok hb g2
        refine W.bind (w_MeetOf hA1 hB1 hA2 hB2) ?_
        rintro _ rfl
        exact W.ret (by rw [h, str_map, str_map]; rfl)
      rintro _ rfl
      simp only [D.nth_zero, D.nth_succ, D.list_n]
      refine W.bind (w_EqualStr _ ?_) ?_
      · have h1 := leastL_len (a.map D.str)
        have h2 := ha.len
        cases fltS a == 0
        · simp
        · simp at h1 ⊢; omega
      rintro _ rfl
      simp only [D.nth_zero, D.bool_b]
      refine W.cond (fun _ => ?_) (fun h => by simp at h)
      refine W.bind (w_EqualStr _ ?_) ?_
      · cases he : e2S a b == 0 with
        | false => simp
        | true =>
          have h0 : e2S a b = 0 := by simpa using he
          obtain ⟨g1, g2⟩ := e2S_zero h0
          obtain ⟨A, rfl, hA1, hA2⟩ := flt_ok ha g1
          obtain ⟨B, rfl, hB1, hB2⟩ := flt_ok hb g2
          rw [str_map, str_map]
          have g3 := leastL_len (meetP A B)
          have g4 := flatMap_len (fun x => B.flatMap fun y => gM x y) 5 (fun x => by
            have := flatMap_len (fun y => gM x y) 1 (fun y => gM_len x y) B
            omega) A
          simp only [cond_true, List.length_map]
          unfold meetP at g3 ⊢
          omega
      rintro _ rfl
      simp only [D.nth_zero, D.bool_b]
      refine W.cond (fun _ => ?_) (fun h => by simp at h)
      refine W.bind signed ?_
      rintro _ rfl
      exact W.ret rfl
  obtain ⟨K, r, h1, rfl⟩ := this.get
  exact ⟨K, h1⟩
end Go.Proofs.YtpmkecjkbajcgaaGreatDoorP
