/- The plain law: what the printed functions come to. -/
import Derived.Test.YtlogmjgkbfahjaaYtTr
import Derived.Test.YtlogmjgkbfahjaaEvPure
namespace Go.Proofs.YtlogmjgkbfahjaaP
open Go Go.Ev
set_option linter.unusedVariables false
set_option linter.unusedSimpArgs false
/-! ### The stream of numbers -/
def St (c : Int) (s : D) : Prop := ∃ L at', s = .n [L, .i at'] ∧ 0 ≤ at' ∧ at' ≤ c
theorem St.le {c c' : Int} {s : D} (h : St c s) (hc : c ≤ c') : St c' s := let ⟨L, a, h1, h2, h3⟩ := h; ⟨L, a, h1, h2, by omega⟩
theorem w_Below (x n : D) (hn : n.int ≤ 4611686018427387904) : W (fun K _ => f_gatemake_Below K x n) (fun r => ∃ i, r = [.i i] ∧ 0 ≤ i ∧ (1 ≤ n.int → i < n.int)) := by
  unfold f_gatemake_Below
  refine W.cond (fun h => ?_) (fun h => ?_)
  · simp at h
    exact W.ret ⟨0, rfl, by omega, by omega⟩
  · simp at h
    have h1 := Int.tmod_lt_of_pos x.int (show 0 < n.int by omega)
    have h2 := Int.lt_tmod_of_pos x.int (show 0 < n.int by omega)
    refine W.cond (fun _ => ?_) (fun h' => by simp at h'; omega)
    refine W.cond (fun h' => ?_) (fun h' => ?_)
    · simp at h'
      rw [wrap_i64 (by omega) (by omega)]
      exact W.ret ⟨_, rfl, by omega, fun _ => by omega⟩
    · simp at h'
      exact W.ret ⟨_, rfl, by omega, fun _ => by omega⟩
theorem w_Next (c : Int) (n s : D) (hs : St c s) (hc : c ≤ 1000000000000) (hn : n.int ≤ 4611686018427387904) : W (fun K _ => f_gatemake_Stream_Next K n s) (fun r => ∃ i s', r = [.i i, s'] ∧ 0 ≤ i ∧ (1 ≤ n.int → i < n.int) ∧ St (c + 1) s') := by
  obtain ⟨L, a, rfl, h1, h2⟩ := hs
  unfold f_gatemake_Stream_Next
  simp only [D.at_n, D.nth_zero, D.nth_succ, D.int_i]
  have e1 : IntKind.i64.wrap (a + 1) = a + 1 := wrap_i64 (by omega) (by omega)
  have e2 : IntKind.i64.wrap (a + 1 - 1) = a := by rw [wrap_i64 (by omega) (by omega)]; omega
  simp only [e1, e2]
  have hfin : ∀ i : Int, 0 ≤ i → (1 ≤ n.int → i < n.int) → W (fun _ _ => some [D.i i, D.n [L, D.i (a + 1)]]) (fun r => ∃ i s', r = [.i i, s'] ∧ 0 ≤ i ∧ (1 ≤ n.int → i < n.int) ∧ St (c + 1) s') := fun i h3 h4 => W.ret ⟨i, _, rfl, h3, h4, L, a + 1, rfl, by omega, by omega⟩
  refine W.cond (fun h => ?_) (fun h => ?_)
  · refine W.bind (w_Below _ n hn) ?_
    rintro _ ⟨i, rfl, h3, h4⟩
    exact hfin i h3 h4
  · have hL : 0 < L.list.length := by
      simp only [beq_eq_false_iff_ne, ne_eq] at h
      omega
    refine W.cond (fun _ => ?_) (fun h' => by simp at h'; simp [h'] at hL)
    refine W.cond (fun _ => ?_) (fun h' => by simp at h'; simp [h'] at hL)
    have h5 := Int.tmod_nonneg (L.list.length : Int) h1
    have h6 := Int.tmod_lt_of_pos a (show 0 < (L.list.length : Int) by omega)
    refine W.cond (fun _ => ?_) (fun h' => by simp [inB] at h'; omega)
    refine W.bind (w_Below _ (.i 1073741824) (by simp)) ?_
    rintro _ ⟨i, rfl, _, _⟩
    refine W.bind (w_Below _ n hn) ?_
    rintro _ ⟨j, rfl, h3, h4⟩
    exact hfin j h3 h4
theorem w_Flip (c : Int) (n s : D) (hs : St c s) (hc : c ≤ 1000000000000) (hn : n.int ≤ 4611686018427387904) : W (fun K _ => f_gatemake_Stream_Flip K n s) (fun r => ∃ b s', r = [.b b, s'] ∧ St (c + 1) s') := by
  unfold f_gatemake_Stream_Flip
  refine W.bind (w_Next c n s hs hc hn) ?_
  rintro _ ⟨i, s', rfl, _, _, h⟩
  exact W.ret ⟨_, s', rfl, h⟩
theorem nth_mem : ∀ {l : List D} {j : Nat}, j < l.length → D.nth l j ∈ l
  | a :: l, 0, _ => by simp
  | a :: l, j + 1, h => by simp only [D.nth_succ]; exact List.mem_cons_of_mem _ (nth_mem (by simpa using h))
/-- One of some numbers (or other data). -/
theorem w_Pick (c : Int) (s : D) (l : List D) (hs : St c s) (hc : c ≤ 1000000000000) (hl : l ≠ []) (hl2 : l.length ≤ 1000000) : W (fun K _ => f_gatemake_Stream_Pick K s (.n l)) (fun r => ∃ x s' t, r = [x, s', t] ∧ x ∈ l ∧ St (c + 1) s') := by
  unfold f_gatemake_Stream_Pick
  have : 0 < l.length := List.length_pos_iff.2 hl
  refine W.bind (w_Next c _ s hs hc (by simp; omega)) ?_
  rintro _ ⟨i, s', rfl, h1, h2, h3⟩
  simp only [D.int_i, D.list_n] at h2
  have h2 := h2 (by omega)
  refine W.cond (fun h => ?_) (fun h => absurd (inB_mk h1 h2) (by rw [D.nth_zero, D.int_i, D.list_n] at h; rw [h]; simp))
  exact W.ret ⟨_, s', _, rfl, nth_mem (show i.toNat < l.length by omega), h3⟩
theorem w_Range (c : Int) (lo hi : Int) (s : D) (hs : St c s) (hc : c ≤ 1000000000000) (h1 : 0 ≤ lo) (h2 : hi ≤ 1000000000000) : W (fun K _ => f_gatemake_Stream_Range K (.i lo) (.i hi) s) (fun r => ∃ x s', r = [.i x, s'] ∧ lo ≤ x ∧ (lo ≤ hi → x ≤ hi) ∧ St (c + 1) s') := by
  unfold f_gatemake_Stream_Range
  refine W.cond (fun h => ?_) (fun h => ?_)
  · simp at h
    exact W.ret ⟨lo, s, rfl, by omega, by omega, hs.le (by omega)⟩
  · simp at h
    have e1 : IntKind.i64.wrap (hi - lo) = hi - lo := wrap_i64 (by omega) (by omega)
    have e2 : IntKind.i64.wrap (hi - lo + 1) = hi - lo + 1 := wrap_i64 (by omega) (by omega)
    simp only [D.int_i, e1, e2]
    refine W.bind (w_Next c _ s hs hc (by simp; omega)) ?_
    rintro _ ⟨i, s', rfl, h3, h4, h5⟩
    simp only [D.int_i] at h4
    have h4 := h4 (by omega)
    simp only [D.nth_zero, D.nth_succ, D.int_i]
    rw [wrap_i64 (by omega) (by omega)]
    exact W.ret ⟨_, s', rfl, by omega, fun _ => by omega, h5⟩
theorem w_Odd (c : Int) (lo hi : Int) (s : D) (hs : St c s) (hc : c ≤ 999999999990) (h1 : 0 ≤ lo) (h0 : lo ≤ hi) (h2 : hi ≤ 1000000000000) : W (fun K _ => f_gatemake_Stream_Odd K (.i lo) (.i hi) s) (fun r => ∃ x s', r = [.i x, s'] ∧ -2000000000000 ≤ x ∧ x ≤ 2000000000000 ∧ St (c + 2) s') := by
  unfold f_gatemake_Stream_Odd
  refine W.bind (w_Flip c _ s hs (by omega) (by simp)) ?_
  rintro _ ⟨b, s', rfl, h3⟩
  simp only [D.nth_zero, D.nth_succ, D.bool_b]
  have e1 : IntKind.i64.wrap (lo - 1) = lo - 1 := wrap_i64 (by omega) (by omega)
  have e2 : IntKind.i64.wrap (hi + 1) = hi + 1 := wrap_i64 (by omega) (by omega)
  simp only [D.int_i, e1, e2]
  refine W.cond (fun _ => ?_) (fun _ => ?_)
  · refine W.bind (w_Pick (c + 1) s' _ h3 (by omega) (by simp) (by simp)) ?_
    rintro _ ⟨x, s2, t, rfl, hx, h4⟩
    simp only [List.mem_cons, List.not_mem_nil, or_false] at hx
    rcases hx with rfl | rfl | rfl | rfl | rfl | rfl <;> exact W.ret ⟨_, s2, rfl, by omega, by omega, h4.le (by omega)⟩
  · refine W.bind (w_Range (c + 1) lo hi s' h3 (by omega) h1 h2) ?_
    rintro _ ⟨x, s2, rfl, h4, h5, h6⟩
    exact W.ret ⟨x, s2, rfl, by omega, by have := h5 h0; omega, h6.le (by omega)⟩
/-! ### Sorting few numbers -/
def Asc (l : List D) (n : Nat) : Prop := ∀ p q : Nat, p < q → q < n → (D.nth l p).int ≤ (D.nth l q).int
/-- Ascending up to place i, but for place j, which may be too small for what is ahead of it. -/
def Asc1 (l : List D) (i j : Nat) : Prop := ∀ p q : Nat, p < q → q ≤ i → q ≠ j → (D.nth l p).int ≤ (D.nth l q).int
theorem less_ltI (x y : D) : (D.nth (p_cmp_Less_int x y) 0).bool = ltI x.int y.int := by
  simp [p_cmp_Less_int, p_cmp_isNaN_int]
theorem w_insert (l : List D) (i : Nat) (hi : i < l.length) (hl : l.length ≤ 1000) (ha : Asc l i) :
    W (fun K _ => fixN (b_slices_insertionSortOrdered_int_1 K) K [.i 0, .i (i : Int), .n l]) (fun r => ∃ l', r = (0, [.n l']) ∧ l'.Perm l ∧ Asc l' (i + 1)) := by
  refine W.rounds (S := Nat × List D) (fun s => [.i 0, .i (s.1 : Int), .n s.2]) (fun s => s.1 ≤ i ∧ s.2.Perm l ∧ Asc1 s.2 i s.1) (fun s => s.1) (fun s hI rc ih => ?_) (i, l) ⟨Nat.le_refl _, List.Perm.refl _, fun p q h1 h2 h3 => ha p q h1 (by simp only at h3; omega)⟩
  obtain ⟨j, row⟩ := s
  obtain ⟨hj, hp, hA⟩ := hI
  simp only at hj hp hA
  have hlen : row.length = l.length := hp.length_eq
  unfold b_slices_insertionSortOrdered_int_1
  simp only [D.nth_zero, D.nth_succ, D.int_i, D.list_n, Int.toNat_natCast, less_ltI]
  have hin : inB (j : Int) row.length = true := inB_mk (by omega) (by omega)
  rw [hin]
  refine W.cond (fun _ => ?_) (fun h => by simp at h)
  cases j with
  | zero =>
    have hg : gtI ((0 : Nat) : Int) 0 = false := by simp
    rw [hg]
    refine W.cond (fun _ => ?_) (fun h => by simp at h)
    refine W.cond (fun h => by simp at h) (fun _ => ?_)
    exact W.ret ⟨row, rfl, hp, fun p q h1 h2 => hA p q h1 (by omega) (by omega)⟩
  | succ j =>
    have hg : gtI ((j + 1 : Nat) : Int) 0 = true := by simp
    have hw : IntKind.i64.wrap (((j + 1 : Nat) : Int) - 1) = (j : Int) := by rw [wrap_i64 (by omega) (by omega)]; omega
    have hin2 : inB (j : Int) row.length = true := inB_mk (by omega) (by omega)
    rw [hg, hw]
    simp only [Int.toNat_natCast, cond_true]
    rw [hin2]
    refine W.cond (fun _ => ?_) (fun h => by simp at h)
    refine W.cond (fun hlt => ?_) (fun hge => ?_)
    · have hin3 : inB (j : Int) (D.setNth row (j + 1) (D.nth row j)).length = true := by rw [length_setNth (by omega)]; exact hin2
      rw [hin3]
      simp only [cond_true]
      simp at hlt
      have hrow : ∀ p, D.nth (D.setNth (D.setNth row (j + 1) (D.nth row j)) j (D.nth row (j + 1))) p = if p = j then D.nth row (j + 1) else if p = j + 1 then D.nth row j else D.nth row p := fun p => by
        rw [nth_setNth (by rw [length_setNth (by omega)]; omega), nth_setNth (by omega)]
      refine ih (j, _) ⟨by simp only; omega, (swap_perm (by omega) (by omega)).trans hp, fun p q h1 h2 h3 => ?_⟩ (by simp only; omega)
      simp only at h3 ⊢
      rw [hrow, hrow, if_neg h3]
      by_cases hq : q = j + 1
      · rw [if_pos hq]
        by_cases hp' : p = j
        · rw [if_pos hp']; omega
        · rw [if_neg hp', if_neg (by omega)]
          exact hA p j (by omega) (by omega) (by omega)
      · rw [if_neg hq]
        by_cases hp' : p = j
        · rw [if_pos hp']
          exact hA (j + 1) q (by omega) h2 hq
        · rw [if_neg hp']
          by_cases hp2 : p = j + 1
          · rw [if_pos hp2]
            exact hA j q (by omega) h2 hq
          · rw [if_neg hp2]
            exact hA p q h1 h2 hq
    · simp at hge
      refine W.ret ⟨row, rfl, hp, fun p q h1 h2 => ?_⟩
      by_cases hq : q = j + 1
      · subst hq
        by_cases hp' : p = j
        · subst hp'; exact hge
        · have := hA p j (by omega) (by omega) (by omega)
          omega
      · exact hA p q h1 (by omega) hq
theorem w_insertion (l : List D) (hl : l.length ≤ 1000) : W (fun K _ => f_slices_insertionSortOrdered_int K (.i 0) (.i (l.length : Int)) (.n l)) (fun r => ∃ l', r = [.n l'] ∧ l'.Perm l ∧ Asc l' l.length) := by
  unfold f_slices_insertionSortOrdered_int
  have e0 : IntKind.i64.wrap ((D.i 0).int + 1) = ((1 : Nat) : Int) := by rw [D.int_i, wrap_i64 (by omega) (by omega)]; rfl
  rw [e0]
  refine W.bind (W.rounds (p := fun r => ∃ l', r = (0, [.n l']) ∧ l'.Perm l ∧ Asc l' l.length) (S := Nat × List D) (fun s => [.i 0, .i (l.length : Int), .i (s.1 : Int), .n s.2]) (fun s => 1 ≤ s.1 ∧ s.2.Perm l ∧ Asc s.2 s.1) (fun s => l.length - s.1) (fun s hI rc ih => ?_) (1, l) ⟨Nat.le_refl _, List.Perm.refl _, fun p q h1 h2 => by simp only at h2; omega⟩) ?_
  · obtain ⟨i, row⟩ := s
    obtain ⟨hi, hp, hA⟩ := hI
    simp only at hi hp hA
    have hlen : row.length = l.length := hp.length_eq
    unfold b_slices_insertionSortOrdered_int_0
    simp only [D.nth_zero, D.nth_succ, D.int_i, D.list_n]
    refine W.cond (fun h => ?_) (fun h => ?_)
    · simp at h
      refine W.bind (w_insert row i (by omega) (by omega) hA) ?_
      rintro _ ⟨l', rfl, hp', hA'⟩
      simp only [D.nth_zero, D.list_n]
      have e1 : IntKind.i64.wrap ((i : Int) + 1) = ((i + 1 : Nat) : Int) := by rw [wrap_i64 (by omega) (by omega)]; omega
      rw [e1]
      exact ih (i + 1, l') ⟨by simp only; omega, hp'.trans hp, hA'⟩ (by simp only; omega)
    · simp at h
      exact W.ret ⟨row, rfl, hp, fun p q h1 h2 => hA p q h1 (by omega)⟩
  · rintro _ ⟨l', rfl, h1, h2⟩
    exact W.ret ⟨l', rfl, h1, h2⟩
theorem w_Len (n : Nat) (hn : n ≤ 12) : W (fun K _ => f_bits_Len K (.i (IntKind.u64.wrap (n : Int)))) (fun r => ∃ m, r = [m]) := by
  have : n = 0 ∨ n = 1 ∨ n = 2 ∨ n = 3 ∨ n = 4 ∨ n = 5 ∨ n = 6 ∨ n = 7 ∨ n = 8 ∨ n = 9 ∨ n = 10 ∨ n = 11 ∨ n = 12 := by omega
  rcases this with rfl | rfl | rfl | rfl | rfl | rfl | rfl | rfl | rfl | rfl | rfl | rfl | rfl
  · exact W.congr (b := fun _ _ => some [.i 0]) (W.ret ⟨_, rfl⟩) fun K n => by kernel_rfl
  · exact W.congr (b := fun _ _ => some [.i 1]) (W.ret ⟨_, rfl⟩) fun K n => by kernel_rfl
  · exact W.congr (b := fun _ _ => some [.i 2]) (W.ret ⟨_, rfl⟩) fun K n => by kernel_rfl
  · exact W.congr (b := fun _ _ => some [.i 2]) (W.ret ⟨_, rfl⟩) fun K n => by kernel_rfl
  · exact W.congr (b := fun _ _ => some [.i 3]) (W.ret ⟨_, rfl⟩) fun K n => by kernel_rfl
  · exact W.congr (b := fun _ _ => some [.i 3]) (W.ret ⟨_, rfl⟩) fun K n => by kernel_rfl
  · exact W.congr (b := fun _ _ => some [.i 3]) (W.ret ⟨_, rfl⟩) fun K n => by kernel_rfl
  · exact W.congr (b := fun _ _ => some [.i 3]) (W.ret ⟨_, rfl⟩) fun K n => by kernel_rfl
  · exact W.congr (b := fun _ _ => some [.i 4]) (W.ret ⟨_, rfl⟩) fun K n => by kernel_rfl
  · exact W.congr (b := fun _ _ => some [.i 4]) (W.ret ⟨_, rfl⟩) fun K n => by kernel_rfl
  · exact W.congr (b := fun _ _ => some [.i 4]) (W.ret ⟨_, rfl⟩) fun K n => by kernel_rfl
  · exact W.congr (b := fun _ _ => some [.i 4]) (W.ret ⟨_, rfl⟩) fun K n => by kernel_rfl
  · exact W.congr (b := fun _ _ => some [.i 4]) (W.ret ⟨_, rfl⟩) fun K n => by kernel_rfl
theorem w_Sort (l : List D) (hl : l.length ≤ 12) : W (fun K _ => f_slices_Sort_int K (.n l)) (fun r => ∃ l', r = [.n l'] ∧ l'.Perm l ∧ Asc l' l.length) := by
  unfold f_slices_Sort_int
  simp only [D.list_n]
  refine W.bind (w_Len l.length hl) ?_
  rintro _ ⟨m, rfl⟩
  refine W.bind (p := fun r => ∃ l', r = [.n l'] ∧ l'.Perm l ∧ Asc l' l.length) (W.selff fun rc => ?_) ?_
  · unfold F_slices_pdqsortOrdered_int f_slices_pdqsortOrdered_int
    simp only [D.nth_zero, D.nth_succ, D.list_n]
    refine W.bind (p := fun r => ∃ l', r = (0, [.n l']) ∧ l'.Perm l ∧ Asc l' l.length) (W.loop (F := fun K => b_slices_pdqsortOrdered_int_0 K (rc K)) (W.step ?_)) ?_
    · have e : ∀ (K : Nat) (r : List D → Option (Nat × List D)), b_slices_pdqsortOrdered_int_0 K (rc K) r [.i 0, .i (l.length : Int), m, .b true, .b true, .n l] = (f_slices_insertionSortOrdered_int K (.i 0) (.i (l.length : Int)) (.n l)).bind fun t1 => some (0, [.n ((D.nth t1 0).list)]) := fun K r => by
        have h12 : leI (IntKind.i64.wrap ((l.length : Int) - 0)) 12 = true := by rw [wrap_i64 (by omega) (by omega)]; simp; omega
        unfold b_slices_pdqsortOrdered_int_0
        simp only [D.nth_zero, D.nth_succ, D.int_i, D.list_n, h12, cond_true]
      refine W.congr (b := fun K _ => (f_slices_insertionSortOrdered_int K (.i 0) (.i (l.length : Int)) (.n l)).bind fun t1 => some (0, [.n ((D.nth t1 0).list)])) ?_ fun K n => e K _
      refine W.bind (w_insertion l (by omega)) ?_
      rintro _ ⟨l', rfl, h1, h2⟩
      exact W.ret ⟨l', rfl, h1, h2⟩
    · rintro _ ⟨l', rfl, h1, h2⟩
      exact W.ret ⟨l', rfl, h1, h2⟩
  · rintro _ ⟨l', rfl, h1, h2⟩
    exact W.ret ⟨l', rfl, h1, h2⟩
/-! ### The percentile -/
def cnt (l : List D) (n : Int) : Nat := l.countP fun y => leI y.int n
theorem cnt_perm {l m : List D} (h : l.Perm m) (n : Int) : cnt l n = cnt m n := h.countP_eq _
theorem asc_ge {l : List D} (h : Asc l l.length) {k : Nat} (hk : k < l.length) : k + 1 ≤ cnt l (D.nth l k).int := by
  unfold cnt
  have h1 : (l.take (k + 1)).countP (fun y => leI y.int (D.nth l k).int) = (l.take (k + 1)).length := by
    rw [List.countP_eq_length]
    intro x hx
    obtain ⟨j, hj, rfl⟩ := List.getElem_of_mem hx
    rw [List.length_take] at hj
    have hj' : j < l.length := by omega
    rw [List.getElem_take, ← nth_eq hj']
    simp
    rcases Nat.lt_or_ge j k with h2 | h2
    · exact h j k h2 hk
    · have : j = k := by omega
      subst this; exact Int.le_refl _
  have h2 : l.countP (fun y => leI y.int (D.nth l k).int) = (l.take (k + 1)).countP (fun y => leI y.int (D.nth l k).int) + (l.drop (k + 1)).countP (fun y => leI y.int (D.nth l k).int) := by
    rw [← List.countP_append, List.take_append_drop]
  rw [h2, h1, List.length_take]
  omega
theorem asc_lt {l : List D} (h : Asc l l.length) {k : Nat} (hk : k < l.length) {y : Int} (hy : y < (D.nth l k).int) : cnt l y ≤ k := by
  unfold cnt
  have h2 : l.countP (fun z => leI z.int y) = (l.take k).countP (fun z => leI z.int y) + (l.drop k).countP (fun z => leI z.int y) := by
    rw [← List.countP_append, List.take_append_drop]
  have h3 : (l.drop k).countP (fun z => leI z.int y) = 0 := by
    rw [List.countP_eq_zero]
    intro x hx
    obtain ⟨j, hj, rfl⟩ := List.getElem_of_mem hx
    rw [List.length_drop] at hj
    have hj' : k + j < l.length := by omega
    rw [List.getElem_drop, ← nth_eq hj']
    have : (D.nth l k).int ≤ (D.nth l (k + j)).int := by
      rcases Nat.eq_zero_or_pos j with h4 | h4
      · subst h4; exact Int.le_refl _
      · exact h k (k + j) (by omega) hj'
    simp
    omega
  have h4 : (l.take k).countP (fun z => leI z.int y) ≤ (l.take k).length := List.countP_le_length
  rw [List.length_take] at h4
  rw [h2, h3]
  omega
theorem w_count (l : List D) (n : D) (hl : l.length ≤ 1000) : W (fun K _ => fixN (b_gateref2_PercentileOf_1 K) K [n, .i 0, .n l, .i (l.length : Int), .i 0]) (fun r => r = (0, [.i (cnt l n.int : Int)])) := by
  refine W.rounds (S := Nat) (fun j => [n, .i (cnt (l.take j) n.int : Int), .n l, .i (l.length : Int), .i (j : Int)]) (fun j => j ≤ l.length) (fun j => l.length - j) (fun j hj rc ih => ?_) 0 (Nat.zero_le _)
  unfold b_gateref2_PercentileOf_1
  simp only [D.nth_zero, D.nth_succ, D.int_i, D.list_n, Int.toNat_natCast]
  refine W.cond (fun h => ?_) (fun h => ?_)
  · simp at h
    have hc : cnt (l.take j) n.int ≤ j := by
      have := List.countP_le_length (p := fun y : D => leI y.int n.int) (l := l.take j)
      rw [List.length_take] at this
      unfold cnt
      omega
    have e1 : IntKind.i64.wrap ((j : Int) + 1) = ((j + 1 : Nat) : Int) := by rw [wrap_i64 (by omega) (by omega)]; omega
    have e2 : cnt (l.take (j + 1)) n.int = cnt (l.take j) n.int + if leI (D.nth l j).int n.int then 1 else 0 := by
      unfold cnt
      rw [take_nth h, List.countP_append, List.countP_singleton]
    have h' := ih (j + 1) h (by omega)
    refine W.cond (fun _ => ?_) (fun h => by simp at h; omega)
    refine W.cond (fun hc1 => ?_) (fun hc1 => ?_)
    · rw [hc1, if_pos rfl] at e2
      rw [e2] at h'
      have e3 : IntKind.i64.wrap ((cnt (l.take j) n.int : Int) + 1) = ((cnt (l.take j) n.int + 1 : Nat) : Int) := by rw [wrap_i64 (by omega) (by omega)]; omega
      rw [e1, e3]
      exact h'
    · rw [hc1] at e2
      simp at e2
      rw [e2] at h'
      rw [e1]
      exact h'
  · simp at h
    have : j = l.length := by omega
    subst this
    rw [List.take_length]
    exact W.ret rfl
/-- Where the percentile stands among the sorted ones. -/
def kth (n : Nat) (part : Int) : Nat := (IntKind.i64.wrap ((IntKind.i64.wrap (Int.tdiv (IntKind.i64.wrap ((IntKind.i64.wrap ((IntKind.i64.wrap (part * (n : Int))) + (1000 : Int))) - (1 : Int))) (1000 : Int))) - (1 : Int))).toNat
theorem mul_bounds {part : Int} {n : Nat} (h1 : 1 ≤ part) (h2 : part ≤ 1000) (hn : n ≤ 1000) : (n : Int) ≤ part * n ∧ part * n ≤ 1000 * n := by
  constructor
  · have := Int.mul_le_mul_of_nonneg_right h1 (show (0 : Int) ≤ n by omega)
    simpa using this
  · exact Int.mul_le_mul_of_nonneg_right h2 (by omega)
theorem kth_is {n : Nat} {part : Int} (h1 : 1 ≤ part) (h2 : part ≤ 1000) (hn : n ≤ 1000) (h0 : 0 < n) :
    IntKind.i64.wrap ((IntKind.i64.wrap (Int.tdiv (IntKind.i64.wrap ((IntKind.i64.wrap ((IntKind.i64.wrap (part * (n : Int))) + (1000 : Int))) - (1 : Int))) (1000 : Int))) - (1 : Int)) = (kth n part : Int) ∧ kth n part < n ∧ part * n ≤ 1000 * ((kth n part : Int) + 1) ∧ 1000 * (kth n part : Int) < part * n := by
  obtain ⟨b1, b2⟩ := mul_bounds (n := n) h1 h2 hn
  have e1 : IntKind.i64.wrap (part * (n : Int)) = part * n := wrap_i64 (by omega) (by omega)
  unfold kth
  rw [e1]
  generalize part * (n : Int) = x at *
  have e2 : IntKind.i64.wrap (x + 1000) = x + 1000 := wrap_i64 (by omega) (by omega)
  have e3 : IntKind.i64.wrap (x + 1000 - 1) = x + 999 := by rw [wrap_i64 (by omega) (by omega)]; omega
  rw [e2, e3]
  have e4 : Int.tdiv (x + 999) 1000 = (x + 999) / 1000 := Int.tdiv_eq_ediv_of_nonneg (by omega)
  rw [e4]
  have e5 : IntKind.i64.wrap ((x + 999) / 1000) = (x + 999) / 1000 := wrap_i64 (by omega) (by omega)
  rw [e5]
  have e6 : IntKind.i64.wrap ((x + 999) / 1000 - 1) = (x + 999) / 1000 - 1 := wrap_i64 (by omega) (by omega)
  rw [e6]
  refine ⟨by omega, by omega, by omega, by omega⟩
theorem w_PercentileOf (l L : List D) (part : Int) (hl : l.length ≤ 1000) (h0 : 0 < l.length) (hp : L.Perm l) (hA : Asc L l.length) (h1 : 1 ≤ part) (h2 : part ≤ 1000) :
    W (fun K _ => f_gateref2_PercentileOf K (.n l) (.i part)) (fun r => ∃ x, r = [x] ∧ x.int = (D.nth L (kth l.length part)).int) := by
  have hL : L.length = l.length := hp.length_eq
  obtain ⟨-, k1, k2, k3⟩ := kth_is (n := l.length) h1 h2 hl h0
  obtain ⟨b1, b2⟩ := mul_bounds (n := l.length) h1 h2 hl
  have hA' : Asc L L.length := by rw [hL]; exact hA
  -- who qualifies
  let ok : D → Bool := fun y => geI ((cnt l y.int : Int) * 1000) (part * (l.length : Int))
  have hok1 : ∀ y : D, ok y = true → (D.nth L (kth l.length part)).int ≤ y.int := fun y hy => by
    simp only [ok, geI_t] at hy
    rcases Int.lt_or_le y.int (D.nth L (kth l.length part)).int with h | h
    · have := asc_lt hA' (by omega) h
      rw [cnt_perm hp] at this
      omega
    · exact h
  have hok2 : ok (D.nth L (kth l.length part)) = true := by
    have := asc_ge hA' (k := kth l.length part) (by omega)
    rw [cnt_perm hp] at this
    simp only [ok, geI_t]
    omega
  have hmem : D.nth L (kth l.length part) ∈ l := hp.mem_iff.1 (nth_mem (by omega))
  unfold f_gateref2_PercentileOf
  simp only [D.list_n]
  refine W.bind (p := fun r => ∃ x, r = (0, [x]) ∧ x.int = (D.nth L (kth l.length part)).int) (W.rounds (S := Nat × D × Bool) (fun s => [.n l, .i part, s.2.1, .b s.2.2, .n l, .i (l.length : Int), .i (s.1 : Int)])
    (fun s => s.1 ≤ l.length ∧ (s.2.2 = false → ∀ y ∈ l.take s.1, ok y = false) ∧ (s.2.2 = true → ok s.2.1 = true ∧ ∀ y ∈ l.take s.1, ok y = true → s.2.1.int ≤ y.int)) (fun s => l.length - s.1) (fun s hI rc ih => ?_) (0, .i 0, false) ⟨Nat.zero_le _, fun _ y hy => by simp at hy, fun h => by cases h⟩) ?_
  · obtain ⟨j, least, found⟩ := s
    obtain ⟨hj, hf, ht⟩ := hI
    simp only at hj hf ht
    unfold b_gateref2_PercentileOf_0
    simp only [D.nth_zero, D.nth_succ, D.int_i, D.list_n, D.bool_b, Int.toNat_natCast]
    refine W.cond (fun h => ?_) (fun h => ?_)
    · simp at h
      refine W.cond (fun _ => ?_) (fun h => by simp at h; omega)
      refine W.bind (w_count l (D.nth l j) hl) ?_
      rintro _ rfl
      simp only [D.nth_zero, D.int_i]
      have hc : cnt l (D.nth l j).int ≤ l.length := List.countP_le_length
      have e1 : IntKind.i64.wrap ((j : Int) + 1) = ((j + 1 : Nat) : Int) := by rw [wrap_i64 (by omega) (by omega)]; omega
      have e2 : IntKind.i64.wrap ((cnt l (D.nth l j).int : Int) * 1000) = (cnt l (D.nth l j).int : Int) * 1000 := wrap_i64 (by omega) (by omega)
      have e3 : IntKind.i64.wrap (part * (l.length : Int)) = part * (l.length : Int) := wrap_i64 (by omega) (by omega)
      rw [e1, e2, e3]
      have hmem' : ∀ y, y ∈ l.take (j + 1) → y ∈ l.take j ∨ y = D.nth l j := fun y hy => by
        rw [take_nth h] at hy
        simpa using hy
      refine W.cond (fun hc => ?_) (fun hc => ?_)
      · have hokj : ok (D.nth l j) = true := by
          cases h3 : geI ((cnt l (D.nth l j).int : Int) * 1000) (part * (l.length : Int)) with
          | true => exact h3
          | false => rw [h3] at hc; cases hc
        refine ih (j + 1, D.nth l j, true) ⟨h, fun h => (by cases h), fun _ => ⟨hokj, fun y hy hoy => ?_⟩⟩ (by simp only; omega)
        rcases hmem' y hy with hy | rfl
        · cases found with
          | false => rw [hf rfl y hy] at hoy; cases hoy
          | true =>
            have h4 := (ht rfl).2 y hy hoy
            have h5 : ltI (D.nth l j).int least.int = true := by
              have h3 : geI ((cnt l (D.nth l j).int : Int) * 1000) (part * (l.length : Int)) = true := hokj
              rw [h3] at hc
              simpa using hc
            simp only [ltI_t] at h5
            simp only
            omega
        · exact Int.le_refl _
      · refine ih (j + 1, least, found) ⟨h, fun hfo y hy => ?_, fun hfo => ⟨(ht hfo).1, fun y hy hoy => ?_⟩⟩ (by simp only; omega)
        · simp only at hfo
          rcases hmem' y hy with hy | rfl
          · exact hf hfo y hy
          · cases h3 : geI ((cnt l (D.nth l j).int : Int) * 1000) (part * (l.length : Int)) with
            | false => exact h3
            | true => rw [h3, hfo] at hc; cases hc
        · simp only at hfo
          rcases hmem' y hy with hy | rfl
          · exact (ht hfo).2 y hy hoy
          · have h3 : geI ((cnt l (D.nth l j).int : Int) * 1000) (part * (l.length : Int)) = true := hoy
            rw [h3, hfo] at hc
            simp at hc
            exact hc
    · simp at h
      have : j = l.length := by omega
      subst this
      rw [List.take_length] at hf ht
      cases found with
      | false =>
        have := hf rfl _ hmem
        rw [hok2] at this
        cases this
      | true =>
        obtain ⟨h3, h4⟩ := ht rfl
        exact W.ret ⟨least, rfl, Int.le_antisymm (h4 _ hmem hok2) (hok1 _ h3)⟩
  · rintro _ ⟨x, rfl, hx⟩
    exact W.ret ⟨x, rfl, hx⟩
/-- Percentile: its number and its error. -/
theorem w_Percentile (l : List D) (part : Int) (hl : l.length ≤ 12) : W (fun K _ => f_upstream_Percentile K (.n l) (.i part)) (fun r =>
    (l.length = 0 ∧ r = [.i 0, .i 8]) ∨ (0 < l.length ∧ (part < 1 ∨ 1000 < part) ∧ r = [.i 0, .i 1]) ∨ (0 < l.length ∧ 1 ≤ part ∧ part ≤ 1000 ∧ ∃ x L, r = [x, .i 0] ∧ L.Perm l ∧ Asc L l.length ∧ x.int = (D.nth L (kth l.length part)).int)) := by
  unfold f_upstream_Percentile
  simp only [D.list_n, D.int_i, p_kit_Outside, D.nth_zero, D.bool_b]
  refine W.cond (fun h => ?_) (fun h => ?_)
  · simp at h
    exact W.ret (.inl ⟨by simp [h], rfl⟩)
  have h0 : 0 < l.length := by
    rcases Nat.eq_zero_or_pos l.length with h1 | h1
    · rw [h1] at h; simp at h
    · exact h1
  refine W.cond (fun h => by simp at h; omega) (fun _ => ?_)
  refine W.cond (fun h => ?_) (fun h => ?_)
  · refine W.ret (.inr (.inl ⟨h0, ?_, rfl⟩))
    cases h1 : ltI part 1 with
    | true => simp at h1; omega
    | false => rw [h1] at h; simp at h; omega
  have hp1 : 1 ≤ part ∧ part ≤ 1000 := by
    cases h1 : ltI part 1 with
    | true => rw [h1] at h; simp at h
    | false => rw [h1] at h; simp at h h1; omega
  unfold f_slices_Clone_int b_slices_Clone_int_0
  refine W.bind (p := fun r => r = [.n l]) ?_ ?_
  · refine W.bind (p := fun r => r = (0, [.n l])) ?_ ?_
    · simp only [D.nth_zero, D.list_n]
      exact W.cond (fun _ => W.ret rfl) (fun h => absurd (lim_mk (n := 0 + l.length) (by omega)) (by rw [h]; simp))
    · rintro _ rfl
      exact W.ret rfl
  · rintro _ rfl
    refine W.bind (w_Sort l hl) ?_
    rintro _ ⟨L, rfl, hp, hA⟩
    simp only [D.nth_zero, D.list_n]
    have hL : L.length = l.length := hp.length_eq
    obtain ⟨k0, k1, k2, k3⟩ := kth_is (n := l.length) hp1.1 hp1.2 (by omega) h0
    rw [hL, k0]
    simp only [Int.toNat_natCast]
    refine W.cond (fun _ => ?_) (fun h => by simp at h; omega)
    exact W.ret (.inr (.inr ⟨h0, hp1.1, hp1.2, _, L, rfl, hp, hA, rfl⟩))
/-! ### Waiting -/
def bk (wait most : Int) : Nat → Int
  | 0 => wait
  | n + 1 => min (2 * bk wait most n) most
theorem minI_min (x y : Int) : minI x y = min x y := by unfold minI; omega
theorem bk_bound {wait most : Int} (h0 : 0 ≤ wait) (h1 : wait ≤ most) : ∀ n, 0 ≤ bk wait most n ∧ bk wait most n ≤ most
  | 0 => ⟨h0, h1⟩
  | n + 1 => by
    have := bk_bound h0 h1 n
    simp only [bk]
    omega
theorem bk_most {wait most : Int} (h0 : 0 ≤ wait) (h1 : wait ≤ most) {j : Nat} (h : bk wait most j = most) : ∀ n, bk wait most (j + n) = most
  | 0 => h
  | n + 1 => by
    have := bk_most h0 h1 h n
    have h2 := bk_bound h0 h1 (j + n)
    show min (2 * bk wait most (j + n)) most = most
    omega
theorem w_doubled (wait most : Int) (t : Nat) (h0 : 0 ≤ wait) (h1 : wait ≤ most) (h2 : most ≤ 3600000) (ht : t ≤ 1000) :
    W (fun K _ => f_upstream_doubled K (.i wait) (.i (t : Int)) (.i most)) (fun r => r = [.i (bk wait most t)]) := by
  unfold f_upstream_doubled
  refine W.bind (p := fun r => ∃ n, r = (0, [.i n]) ∧ min n most = bk wait most t) (W.rounds (S := Nat × Int) (fun s => [.i s.2, .i most, .i (t : Int), .i (s.1 : Int)]) (fun s => s.1 ≤ t ∧ min s.2 most = bk wait most s.1 ∧ 0 ≤ s.2 ∧ s.2 ≤ 2 * most) (fun s => t - s.1) (fun s hI rc ih => ?_) (0, wait) ⟨Nat.zero_le _, by simp [bk]; omega, h0, by simp only; omega⟩) ?_
  · obtain ⟨j, n⟩ := s
    obtain ⟨a1, a2, a3, a4⟩ := hI
    simp only at a1 a2 a3 a4
    unfold b_upstream_doubled_0
    simp only [D.nth_zero, D.nth_succ, D.int_i]
    refine W.cond (fun h => ?_) (fun h => ?_)
    · simp at h
      refine W.cond (fun hg => ?_) (fun hg => ?_)
      · simp at hg
        refine W.ret ⟨n, rfl, ?_⟩
        have := bk_most h0 h1 (j := j) (by omega) (t - j)
        rw [show j + (t - j) = t by omega] at this
        omega
      · simp at hg
        have e1 : IntKind.i64.wrap ((j : Int) + 1) = ((j + 1 : Nat) : Int) := by rw [wrap_i64 (by omega) (by omega)]; omega
        have e2 : IntKind.i64.wrap (n * 2) = n * 2 := wrap_i64 (by omega) (by omega)
        rw [e1, e2]
        exact ih (j + 1, n * 2) ⟨h, by simp only [bk]; omega, by simp only; omega, by simp only; omega⟩ (by simp only; omega)
    · simp at h
      have : j = t := by omega
      subst this
      exact W.ret ⟨n, rfl, a2⟩
  · rintro _ ⟨n, rfl, h⟩
    exact W.ret (by simp only [D.nth_zero, D.int_i, minI_min, h])
theorem w_BackoffOf (wait most try' : Int) (h0 : 0 ≤ wait) (h1 : wait ≤ most) (h2 : most ≤ 3600000) (h3 : 2 ≤ try') (h4 : try' ≤ 100) :
    W (fun K _ => f_gateref2_BackoffOf K (.i wait) (.i most) (.i try')) (fun r => r = [.i (bk wait most (try' - 2).toNat)]) := by
  unfold f_gateref2_BackoffOf
  have e0 : IntKind.i64.wrap ((D.i try').int - 2) = (((try' - 2).toNat : Nat) : Int) := by rw [D.int_i, wrap_i64 (by omega) (by omega)]; omega
  rw [e0]
  generalize ht : (try' - 2).toNat = t
  refine W.bind (p := fun r => r = (0, [.i (bk wait most t)])) (W.rounds (S := Nat) (fun j => [.i (bk wait most j), .i most, .i (t : Int), .i (j : Int)]) (fun j => j ≤ t) (fun j => t - j) (fun j hj rc ih => ?_) 0 (Nat.zero_le _)) ?_
  · unfold b_gateref2_BackoffOf_0
    simp only [D.nth_zero, D.nth_succ, D.int_i]
    have hb := bk_bound h0 h1 j
    refine W.cond (fun h => ?_) (fun h => ?_)
    · simp at h
      have e1 : IntKind.i64.wrap ((j : Int) + 1) = ((j + 1 : Nat) : Int) := by rw [wrap_i64 (by omega) (by omega)]; omega
      have e2 : IntKind.i64.wrap (2 * bk wait most j) = 2 * bk wait most j := wrap_i64 (by omega) (by omega)
      rw [e1, e2, minI_min]
      exact ih (j + 1) h (by omega)
    · simp at h
      have : j = t := by omega
      subst this
      exact W.ret rfl
  · rintro _ rfl
    exact W.ret rfl
theorem in_out (x a b : Int) : (!(bif leI a x then leI x b else false)) = (bif ltI x a then true else gtI x b) := by
  cases h1 : leI a x <;> cases h2 : leI x b <;> cases h3 : ltI x a <;> cases h4 : gtI x b <;> first | rfl | (exfalso; simp at h1 h2 h3 h4; omega)
def bkB (wait most try' : Int) : Bool := bif (bif (bif ltI wait 0 then true else gtI wait most) then true else gtI most 3600000) then true else (bif ltI try' 2 then true else gtI try' 100)
theorem bkB_f {wait most try' : Int} (h : bkB wait most try' = false) : 0 ≤ wait ∧ wait ≤ most ∧ most ≤ 3600000 ∧ 2 ≤ try' ∧ try' ≤ 100 := by
  unfold bkB at h
  cases h1 : ltI wait 0 <;> cases h2 : gtI wait most <;> cases h3 : gtI most 3600000 <;> cases h4 : ltI try' 2 <;> cases h5 : gtI try' 100 <;> rw [h1, h2, h3, h4, h5] at h <;> simp at h
  simp at h1 h2 h3 h4 h5
  omega
theorem w_BackoffFault (wait most try' : Int) : W (fun K _ => f_gateref2_BackoffFault K (.i wait) (.i most) (.i try')) (fun r => r = bif bkB wait most try' then [.i 1] else [.i 0]) := by
  unfold f_gateref2_BackoffFault
  simp only [p_gateref2_in, D.nth_zero, D.bool_b, D.int_i, in_out]
  refine W.cond (fun h => W.ret ?_) (fun h => W.ret ?_)
  · have : bkB wait most try' = true := h
    rw [this]; rfl
  · have : bkB wait most try' = false := h
    rw [this]; rfl
theorem w_Backoff (wait most try' : Int) : W (fun K _ => f_upstream_Backoff K (.i wait) (.i most) (.i try')) (fun r => r = bif bkB wait most try' then [.i 0, .i 1] else [.i (bk wait most (try' - 2).toNat), .i 0]) := by
  unfold f_upstream_Backoff
  simp only [p_kit_Outside, D.nth_zero, D.bool_b, D.int_i]
  refine W.cond (fun h => W.ret ?_) (fun h => ?_)
  · have : bkB wait most try' = true := h
    rw [this]; rfl
  · have : bkB wait most try' = false := h
    rw [this, cond_false]
    obtain ⟨h0, h1, h2, h3, h4⟩ := bkB_f this
    have e0 : IntKind.i64.wrap (try' - 2) = (((try' - 2).toNat : Nat) : Int) := by rw [wrap_i64 (by omega) (by omega)]; omega
    rw [e0]
    refine W.bind (w_doubled wait most _ h0 h1 h2 (by omega)) ?_
    rintro _ rfl
    exact W.ret rfl
/-! ### Budgets -/
def bgB (a b c : Int) : Bool := bif (bif (bif ltI a 1 then true else gtI a 3600000) then true else (bif ltI b 0 then true else gtI b 300)) then true else (bif ltI c 0 then true else gtI c 1000)
theorem w_CheckBudget (a b c : Int) : W (fun K _ => f_upstream_CheckBudget K (.n [.i a, .i b, .i c])) (fun r => r = [.i (bif bgB a b c then 1 else 0)]) := by
  unfold f_upstream_CheckBudget
  simp only [p_kit_Outside, D.nth_zero, D.nth_succ, D.at_n, D.bool_b, D.int_i]
  refine W.cond (fun h => W.ret ?_) (fun h => W.ret ?_)
  · have : bgB a b c = true := h
    rw [this]; rfl
  · have : bgB a b c = false := h
    rw [this]; rfl
theorem w_BudgetFault (a b c : Int) : W (fun K _ => f_gateref2_BudgetFault K (.n [.i a, .i b, .i c])) (fun r => r = [.i (bif bgB a b c then 1 else 0)]) := by
  unfold f_gateref2_BudgetFault
  simp only [p_gateref2_in, D.nth_zero, D.nth_succ, D.at_n, D.bool_b, D.int_i, in_out]
  refine W.cond (fun h => W.ret ?_) (fun h => W.ret ?_)
  · have : bgB a b c = true := h
    rw [this]; rfl
  · have : bgB a b c = false := h
    rw [this]; rfl
/-! ### Lists joined -/
def cat (l : List D) : List D := l.flatMap D.list
theorem cat_le {l : List D} (h : ∀ x ∈ l, x.list.length ≤ 1000) : (cat l).length ≤ 1000 * l.length := by
  induction l with
  | nil => simp [cat]
  | cons a l ih =>
    have h1 := ih fun x hx => h x (by simp [hx])
    have h2 := h a (by simp)
    simp only [cat, List.flatMap_cons, List.length_append, List.length_cons] at h1 ⊢
    omega
theorem w_Concat (l : List D) (hl : l.length ≤ 10) (h : ∀ x ∈ l, x.list.length ≤ 1000) : W (fun K _ => f_slices_Concat_int K (.n l)) (fun r => r = [.n (cat l)]) := by
  have hsub : ∀ j, (cat (l.take j)).length ≤ 10000 := fun j => by
    have := cat_le (l := l.take j) fun x hx => h x (List.mem_of_mem_take hx)
    rw [List.length_take] at this
    omega
  have hstep : ∀ j, j < l.length → cat (l.take (j + 1)) = cat (l.take j) ++ (D.nth l j).list := fun j hj => by
    unfold cat
    rw [take_nth hj, List.flatMap_append]
    simp
  unfold f_slices_Concat_int
  simp only [D.list_n]
  refine W.bind (p := fun r => r = (0, [.i ((cat l).length : Int)])) (W.rounds (S := Nat) (fun j => [.i ((cat (l.take j)).length : Int), .n l, .i (l.length : Int), .i (j : Int)]) (fun j => j ≤ l.length) (fun j => l.length - j) (fun j hj rc ih => ?_) 0 (Nat.zero_le _)) ?_
  · unfold b_slices_Concat_int_0
    simp only [D.nth_zero, D.nth_succ, D.int_i, D.list_n, Int.toNat_natCast]
    have hb := hsub j
    refine W.cond (fun h1 => ?_) (fun h1 => ?_)
    · simp at h1
      have h2 := h _ (nth_mem h1)
      have h' := ih (j + 1) h1 (by omega)
      rw [hstep j h1, List.length_append] at h'
      have e1 : IntKind.i64.wrap ((j : Int) + 1) = ((j + 1 : Nat) : Int) := by rw [wrap_i64 (by omega) (by omega)]; omega
      have e2 : IntKind.i64.wrap (((cat (l.take j)).length : Int) + ((D.nth l j).list.length : Int)) = (((cat (l.take j)).length + (D.nth l j).list.length : Nat) : Int) := by rw [wrap_i64 (by omega) (by omega)]; omega
      rw [e1, e2]
      refine W.cond (fun _ => ?_) (fun h => by simp at h; omega)
      refine W.cond (fun h => by simp at h; omega) (fun _ => h')
    · simp at h1
      have : j = l.length := by omega
      subst this
      rw [List.take_length]
      exact W.ret rfl
  · rintro _ rfl
    have hcl : (cat l).length ≤ 10000 := by have := hsub l.length; rwa [List.take_length] at this
    refine W.bind (p := fun r => r = [.n []]) ?_ ?_
    · unfold f_slices_Grow_int b_slices_Grow_int_0
      simp only [D.nth_zero, D.int_i, D.bool_b]
      have e1 : IntKind.i64.wrap (((cat l).length : Int) - 0) = ((cat l).length : Int) := by rw [wrap_i64 (by omega) (by omega)]; omega
      rw [e1]
      refine W.bind (p := fun r => r = (0, [])) (W.cond (fun h => by simp at h; omega) (fun _ => W.ret rfl)) ?_
      rintro _ rfl
      refine W.cond (fun h => ?_) (fun _ => W.ret rfl)
      simp at h
      refine W.cond (fun _ => ?_) (fun h => ?_)
      · refine W.cond (fun _ => W.ret (by simp)) (fun h => by simp at h; omega)
      · have h1 := lim_mk (n := (cat l).length) (by omega)
        simp only [Int.toNat_natCast, h1, Bool.and_true] at h
        simp at h
        omega
    · rintro _ rfl
      simp only [D.nth_zero, D.list_n]
      refine W.bind (p := fun r => r = (0, [.n (cat l)])) (W.rounds (S := Nat) (fun j => [.n l, .i (l.length : Int), .i (j : Int), .n (cat (l.take j))]) (fun j => j ≤ l.length) (fun j => l.length - j) (fun j hj rc ih => ?_) 0 (Nat.zero_le _)) ?_
      · unfold b_slices_Concat_int_1
        simp only [D.nth_zero, D.nth_succ, D.int_i, D.list_n, Int.toNat_natCast]
        have hb := hsub j
        refine W.cond (fun h1 => ?_) (fun h1 => ?_)
        · simp at h1
          have h2 := h _ (nth_mem h1)
          have h' := ih (j + 1) h1 (by omega)
          rw [hstep j h1] at h'
          have e1 : IntKind.i64.wrap ((j : Int) + 1) = ((j + 1 : Nat) : Int) := by rw [wrap_i64 (by omega) (by omega)]; omega
          rw [e1]
          refine W.cond (fun _ => ?_) (fun h => by simp at h; omega)
          exact W.cond (fun _ => h') (fun h => absurd (lim_mk (n := (cat (l.take j)).length + (D.nth l j).list.length) (by omega)) (by rw [h]; simp))
        · simp at h1
          have : j = l.length := by omega
          subst this
          rw [List.take_length]
          exact W.ret rfl
      · rintro _ rfl
        exact W.ret rfl
/-! ### Tries that may be made again -/
def mayC (vat win : Int) (x : D) : Bool := bif gtI x.int (vat - win) then leI x.int vat else false
def mayN (vat win : Int) (l : List D) : Nat := l.countP (mayC vat win)
theorem mayN_le (vat win : Int) (l : List D) : mayN vat win l ≤ l.length := List.countP_le_length
theorem mayN_take {vat win : Int} {l : List D} {j : Nat} (h : j < l.length) : mayN vat win (l.take (j + 1)) = mayN vat win (l.take j) + if mayC vat win (D.nth l j) then 1 else 0 := by
  unfold mayN
  rw [take_nth h, List.countP_append, List.countP_singleton]
theorem w_may1 (l : List D) (vat a b c : Int) (hl : l.length ≤ 1000) (hv : -1000000 ≤ vat ∧ vat ≤ 1000000) (ha : -4000000000000 ≤ a ∧ a ≤ 4000000000000) :
    W (fun K _ => f_upstream_may_1 K (.n l) (.i vat) (.n [.i a, .i b, .i c])) (fun r => r = [.i (mayN vat a l : Int)]) := by
  unfold f_upstream_may_1
  refine W.bind (p := fun r => r = (0, [.i (mayN vat a l : Int)])) (W.rounds (S := Nat) (fun j => [.i vat, .n [.i a, .i b, .i c], .i (mayN vat a (l.take j) : Int), .n l, .i (l.length : Int), .i (j : Int)]) (fun j => j ≤ l.length) (fun j => l.length - j) (fun j hj rc ih => ?_) 0 (Nat.zero_le _)) ?_
  · unfold b_upstream_may_1_0
    simp only [D.nth_zero, D.nth_succ, D.int_i, D.list_n, D.at_n, Int.toNat_natCast]
    have e0 : IntKind.i64.wrap (vat - a) = vat - a := wrap_i64 (by omega) (by omega)
    rw [e0]
    refine W.cond (fun h => ?_) (fun h => ?_)
    · simp at h
      have hc := mayN_le vat a (l.take j)
      rw [List.length_take] at hc
      have e1 : IntKind.i64.wrap ((j : Int) + 1) = ((j + 1 : Nat) : Int) := by rw [wrap_i64 (by omega) (by omega)]; omega
      have e2 : IntKind.i64.wrap ((mayN vat a (l.take j) : Int) + 1) = ((mayN vat a (l.take j) + 1 : Nat) : Int) := by rw [wrap_i64 (by omega) (by omega)]; omega
      have h' := ih (j + 1) h (by omega)
      rw [mayN_take h] at h'
      rw [e1, e2]
      refine W.cond (fun _ => ?_) (fun h => by simp at h; omega)
      refine W.cond (fun hc1 => ?_) (fun hc1 => ?_)
      · have : mayC vat a (D.nth l j) = true := hc1
        rw [this] at h'
        exact h'
      · have : mayC vat a (D.nth l j) = false := hc1
        rw [this] at h'
        exact h'
    · simp at h
      have : j = l.length := by omega
      subst this
      rw [List.take_length]
      exact W.ret rfl
  · rintro _ rfl
    exact W.ret rfl
theorem w_mayOf1 (l : List D) (vat a b c : Int) (hl : l.length ≤ 1000) (hv : -1000000 ≤ vat ∧ vat ≤ 1000000) (ha : -4000000000000 ≤ a ∧ a ≤ 4000000000000) :
    W (fun K _ => f_gateref2_MayOf_1 K (.n l) (.i vat) (.n [.i a, .i b, .i c])) (fun r => r = [.i (mayN vat a l : Int)]) := by
  unfold f_gateref2_MayOf_1
  refine W.bind (p := fun r => r = (0, [.i (mayN vat a l : Int)])) (W.rounds (S := Nat) (fun j => [.i vat, .n [.i a, .i b, .i c], .i (mayN vat a (l.take j) : Int), .n l, .i (l.length : Int), .i (j : Int)]) (fun j => j ≤ l.length) (fun j => l.length - j) (fun j hj rc ih => ?_) 0 (Nat.zero_le _)) ?_
  · unfold b_gateref2_MayOf_1_0
    simp only [D.nth_zero, D.nth_succ, D.int_i, D.list_n, D.at_n, D.bool_b, Int.toNat_natCast, p_gateref2_in]
    have e0 : IntKind.i64.wrap (vat - a) = vat - a := wrap_i64 (by omega) (by omega)
    have e0' : IntKind.i64.wrap (vat - a + 1) = vat - a + 1 := wrap_i64 (by omega) (by omega)
    rw [e0, e0']
    have ec : (bif leI (vat - a + 1) (D.nth l j).int then leI (D.nth l j).int vat else false) = mayC vat a (D.nth l j) := by
      unfold mayC
      cases h1 : leI (vat - a + 1) (D.nth l j).int <;> cases h2 : gtI (D.nth l j).int (vat - a) <;> first | rfl | (exfalso; simp at h1 h2; omega)
    rw [ec]
    refine W.cond (fun h => ?_) (fun h => ?_)
    · simp at h
      have hc := mayN_le vat a (l.take j)
      rw [List.length_take] at hc
      have e1 : IntKind.i64.wrap ((j : Int) + 1) = ((j + 1 : Nat) : Int) := by rw [wrap_i64 (by omega) (by omega)]; omega
      have e2 : IntKind.i64.wrap ((mayN vat a (l.take j) : Int) + 1) = ((mayN vat a (l.take j) + 1 : Nat) : Int) := by rw [wrap_i64 (by omega) (by omega)]; omega
      have h' := ih (j + 1) h (by omega)
      rw [mayN_take h] at h'
      rw [e1, e2]
      refine W.cond (fun _ => ?_) (fun h => by simp at h; omega)
      refine W.cond (fun hc1 => ?_) (fun hc1 => ?_)
      · rw [hc1] at h'
        exact h'
      · rw [hc1] at h'
        exact h'
    · simp at h
      have : j = l.length := by omega
      subst this
      rw [List.take_length]
      exact W.ret rfl
  · rintro _ rfl
    exact W.ret rfl
def mayB (l m : List D) (vat a b c : Int) : Bool := ltI (mayN vat a m : Int) (IntKind.i64.wrap (b + IntKind.i64.wrap (Int.tdiv (IntKind.i64.wrap (c * (mayN vat a l : Int))) 1000)))
theorem w_may (l m : List D) (vat a b c : Int) (hl : l.length ≤ 1000) (hm : m.length ≤ 1000) (hv : -1000000 ≤ vat ∧ vat ≤ 1000000) (ha : -4000000000000 ≤ a ∧ a ≤ 4000000000000) :
    W (fun K _ => f_upstream_may K (.n [.i a, .i b, .i c]) (.n l) (.n m) (.i vat)) (fun r => r = [.b (mayB l m vat a b c)]) := by
  unfold f_upstream_may
  refine W.bind (w_may1 m vat a b c hm hv ha) ?_
  rintro _ rfl
  refine W.bind (w_may1 l vat a b c hl hv ha) ?_
  rintro _ rfl
  exact W.ret rfl
theorem w_MayOf (l m : List D) (vat a b c : Int) (hl : l.length ≤ 1000) (hm : m.length ≤ 1000) (hv : -1000000 ≤ vat ∧ vat ≤ 1000000) (ha : -4000000000000 ≤ a ∧ a ≤ 4000000000000) :
    W (fun K _ => f_gateref2_MayOf K (.n [.i a, .i b, .i c]) (.n l) (.n m) (.i vat)) (fun r => r = [.b (mayB l m vat a b c)]) := by
  unfold f_gateref2_MayOf
  refine W.bind (w_mayOf1 m vat a b c hm hv ha) ?_
  rintro _ rfl
  refine W.bind (w_mayOf1 l vat a b c hl hv ha) ?_
  rintro _ rfl
  exact W.ret rfl
def badM (x : D) : Bool := !(bif geI x.int 0 then ltI x.int 345686400000 else false)
def momE (e : Int) (l : List D) : Int := bif e != 0 then e else bif l.any badM then 1 else 0
theorem w_May (l m : List D) (vat a b c : Int) (hl : l.length ≤ 1000) (hm : m.length ≤ 1000) (hv : -1000000 ≤ vat ∧ vat ≤ 1000000) (ha : -4000000000000 ≤ a ∧ a ≤ 4000000000000) :
    W (fun K _ => f_upstream_May K (.n [.i a, .i b, .i c]) (.n l) (.n m) (.i vat)) (fun r => ∃ x, r = [.b x, .i (momE (bif bgB a b c then 1 else 0) (l ++ m ++ [.i vat]))] ∧ (momE (bif bgB a b c then 1 else 0) (l ++ m ++ [.i vat]) = 0 → x = mayB l m vat a b c) ∧ (momE (bif bgB a b c then 1 else 0) (l ++ m ++ [.i vat]) ≠ 0 → x = false)) := by
  unfold f_upstream_May
  refine W.bind (w_CheckBudget a b c) ?_
  rintro _ rfl
  simp only [D.nth_zero, D.int_i, D.list_n]
  cases hB : bgB a b c with
  | true =>
    refine W.cond (fun _ => W.ret ⟨false, rfl, fun h => by simp [momE] at h, fun _ => rfl⟩) (fun h => by simp at h)
  | false =>
    refine W.cond (fun h => by simp at h) (fun _ => ?_)
    refine W.cond (fun h => ?_) (fun _ => ?_)
    · exfalso
      cases h1 : gtI (l.length : Int) 2000 with
      | true => simp at h1; omega
      | false => rw [h1] at h; simp at h; omega
    refine W.bind (w_Concat [.n l, .n m] (by simp) (fun x hx => by simp at hx; rcases hx with rfl | rfl <;> simpa)) ?_
    rintro _ rfl
    have hcat : cat [.n l, .n m] = l ++ m := by simp [cat]
    rw [hcat]
    simp only [D.nth_zero, D.list_n]
    refine W.cond (fun _ => ?_) (fun h => absurd (lim_mk (n := (l ++ m).length + 1) (by simp; omega)) (by rw [h]; simp))
    generalize hL : l ++ m ++ [D.i vat] = L
    have hLl : L.length ≤ 10000 := by rw [← hL]; simp; omega
    refine W.bind (W.early L.length (fun j => [.i (L.length : Int), .i (j : Int), .n L]) (fun j => bif badM (D.nth L j) then some (0, [.b false, .i 1, .n L]) else none) (1, [.n L]) (fun j hj hp p rc h1 h2 => ?_) (fun rc => ?_)) ?_
    · unfold b_upstream_May_0
      simp only [D.nth_zero, D.nth_succ, D.int_i, D.list_n, D.bool_b, Int.toNat_natCast, p_kit_IsMoment]
      refine W.cond (fun _ => ?_) (fun h => by simp at h; omega)
      refine W.cond (fun _ => ?_) (fun h => by simp at h; omega)
      refine W.cond (fun h => W.ret (h1 _ ?_)) (fun h => ?_)
      · have : badM (D.nth L j) = true := h
        rw [this]; rfl
      · have : badM (D.nth L j) = false := h
        rw [wrap_i64 (by omega) (by omega)]
        exact h2 (by rw [this]; rfl)
    · unfold b_upstream_May_0
      simp only [D.nth_zero, D.nth_succ, D.int_i]
      exact W.cond (fun h => by simp at h) (fun _ => W.ret rfl)
    · rintro _ rfl
      rcases scan_any L badM (fun _ => (0, [D.b false, D.i 1, D.n L])) (1, [D.n L]) with ⟨hs, i, hi, h⟩ | ⟨hs, h⟩
      · rw [h]
        refine W.cond (fun _ => W.ret ⟨false, by simp [momE, hs], fun h => by simp [momE, hs] at h, fun _ => rfl⟩) (fun h => by simp at h)
      · rw [h]
        refine W.cond (fun h => by simp at h) (fun _ => ?_)
        refine W.bind (w_may l m vat a b c hl hm hv ha) ?_
        rintro _ rfl
        exact W.ret ⟨mayB l m vat a b c, by simp [momE, hs], fun _ => rfl, fun h => by simp [momE, hs] at h⟩
/-! ### Errors in order -/
theorem w_when (b : Bool) (e : Int) : W (fun K _ => f_gatelaw2_when K (.b b) (.i e)) (fun r => r = [.i (bif b then e else 0)]) := by
  unfold f_gatelaw2_when
  cases b with
  | true => exact W.ret rfl
  | false => exact W.ret rfl
theorem w_errs2 (x y : Int) : W (fun K _ => f_gatelaw2_errs K (.n [.i x, .i y])) (fun r => r = [.i (bif x != 0 then x else y)]) := by
  unfold f_gatelaw2_errs
  refine W.bind (W.early 2 (fun j => [.n [.i x, .i y], .i 2, .i (j : Int)]) (fun j => bif ((D.nth [.i x, .i y] j).int != 0) then some (0, [D.nth [.i x, .i y] j]) else none) (1, []) (fun j hj hp p rc h1 h2 => ?_) (fun rc => ?_)) ?_
  · unfold b_gatelaw2_errs_0
    simp only [D.nth_zero, D.nth_succ, D.int_i, D.list_n, Int.toNat_natCast]
    refine W.cond (fun _ => ?_) (fun h => by simp at h; omega)
    refine W.cond (fun _ => ?_) (fun h => by simp at h; omega)
    refine W.cond (fun h => W.ret (h1 _ (by rw [h]; rfl))) (fun h => ?_)
    rw [wrap_i64 (by omega) (by omega)]
    exact h2 (by rw [h]; rfl)
  · unfold b_gatelaw2_errs_0
    simp only [D.nth_zero, D.nth_succ, D.int_i]
    exact W.cond (fun h => by simp at h) (fun _ => W.ret rfl)
  · rintro _ rfl
    simp only [scan, D.nth_zero, D.nth_succ, D.int_i]
    cases h1 : x != 0 with
    | true => exact W.ret (by simp)
    | false =>
      cases h2 : y != 0 with
      | true => exact W.ret (by simp)
      | false =>
        have : y = 0 := by simpa using h2
        subst this
        exact W.ret (by simp)
theorem w_momentFault (x : D) : W (fun K _ => f_gatelaw2_momentFault K x) (fun r => r = [.i (bif badM x then 1 else 0)]) := by
  unfold f_gatelaw2_momentFault
  refine W.bind (w_when _ 1) ?_
  rintro _ rfl
  refine W.ret ?_
  have : (!(D.nth (p_gateref2_Moment x) 0).bool) = badM x := by
    simp only [p_gateref2_Moment, p_gateref2_in, D.nth_zero, D.bool_b, D.int_i, badM]
    cases h1 : leI 0 x.int <;> cases h2 : leI x.int 345686399999 <;> cases h3 : geI x.int 0 <;> cases h4 : ltI x.int 345686400000 <;> first | rfl | (exfalso; simp at h1 h2 h3 h4; omega)
  rw [this, D.nth_zero]
theorem momE_snoc (e : Int) (l : List D) (x : D) : (bif momE e l != 0 then momE e l else (bif badM x then (1 : Int) else 0)) = momE e (l ++ [x]) := by
  simp only [momE, List.any_append, List.any_cons, List.any_nil, Bool.or_false]
  cases h1 : e != 0 with
  | true => simp only [cond_true, h1]
  | false => cases h2 : l.any badM <;> cases h3 : badM x <;> rfl
theorem w_three (e : Int) (L : List D) (hL : L.length ≤ 10000) : W (fun K _ => fixN (b_gatelaw2_TriesAgain_2 K) K [.i e, .i (L.length : Int), .i 0, .n L]) (fun r => r = (0, [.i (momE e L), .n L])) := by
  have h : W (fun K _ => fixN (b_gatelaw2_TriesAgain_2 K) K [.i (momE e (L.take 0)), .i (L.length : Int), .i ((0 : Nat) : Int), .n L]) (fun r => r = (0, [.i (momE e L), .n L])) := by
    refine W.rounds (S := Nat) (fun j => [.i (momE e (L.take j)), .i (L.length : Int), .i (j : Int), .n L]) (fun j => j ≤ L.length) (fun j => L.length - j) (fun j hj rc ih => ?_) 0 (Nat.zero_le _)
    unfold b_gatelaw2_TriesAgain_2
    simp only [D.nth_zero, D.nth_succ, D.int_i, D.list_n, Int.toNat_natCast]
    refine W.cond (fun h => ?_) (fun h => ?_)
    · simp at h
      refine W.cond (fun _ => ?_) (fun h => by simp at h; omega)
      refine W.bind (w_momentFault _) ?_
      rintro _ rfl
      refine W.bind (w_errs2 _ _) ?_
      rintro _ rfl
      have e1 : IntKind.i64.wrap ((j : Int) + 1) = ((j + 1 : Nat) : Int) := by rw [wrap_i64 (by omega) (by omega)]; omega
      rw [e1, D.nth_zero, momE_snoc, ← take_nth h]
      exact ih (j + 1) h (by omega)
    · simp at h
      have : j = L.length := by omega
      subst this
      rw [List.take_length]
      exact W.ret rfl
  have e0 : momE e (L.take 0) = e := by
    simp only [momE, List.take_zero, List.any_nil]
    cases h1 : e != 0 with
    | true => rfl
    | false => have : e = 0 := by simpa using h1
               subst this; rfl
  rw [e0] at h
  exact h
/-! ### What is drawn -/
theorem balanced : W (fun K _ => f_gatelaw2_balanced K) (· = [.b true]) :=
  ⟨_, rfl, 20, fun K _ hK _ => by obtain ⟨m, rfl⟩ : ∃ m, K = m + 20 := ⟨K - 20, by omega⟩; kernel_rfl⟩
theorem w_PickI (c : Int) (s : D) (l : List Int) (hs : St c s) (hc : c ≤ 1000000000) (h1 : l ≠ []) (h2 : l.length ≤ 100) : W (fun K _ => f_gatemake_Stream_Pick K s (.n (l.map D.i))) (fun r => ∃ x s' t, r = [.i x, s', t] ∧ x ∈ l ∧ St (c + 1) s') := by
  refine (w_Pick c s (l.map D.i) hs (by omega) (by simpa using h1) (by simp; omega)).mono ?_
  rintro _ ⟨x, s', t, rfl, hx, h⟩
  obtain ⟨y, hy, rfl⟩ := List.mem_map.1 hx
  exact ⟨y, s', t, rfl, hy, h⟩
theorem w_Budget (c : Int) (s : D) (hs : St c s) (hc : c ≤ 1000000) : W (fun K _ => f_gatemake_Stream_Budget K s) (fun r => ∃ x y z s', r = [.n [.i x, .i y, .i z], s'] ∧ (-4000000000000 ≤ x ∧ x ≤ 4000000000000) ∧ St (c + 20) s') := by
  unfold f_gatemake_Stream_Budget f_gatemake_Stream_RightBudget
  refine W.bind (p := fun r => ∃ x y z s', r = [.n [.i x, .i y, .i z], s'] ∧ (-4000000000000 ≤ x ∧ x ≤ 4000000000000) ∧ St (c + 3) s') ?_ ?_
  · refine W.bind (w_PickI c s [1, 10, 50, 100, 1000] hs (by omega) (by simp) (by simp)) ?_
    rintro _ ⟨x, s1, _, rfl, hx, h1⟩
    refine W.bind (w_PickI _ s1 [0, 1, 2, 5] h1 (by omega) (by simp) (by simp)) ?_
    rintro _ ⟨y, s2, _, rfl, hy, h2⟩
    refine W.bind (w_PickI _ s2 [0, 100, 333, 500, 1000] h2 (by omega) (by simp) (by simp)) ?_
    rintro _ ⟨z, s3, _, rfl, hz, h3⟩
    simp only [List.mem_cons, List.not_mem_nil, or_false] at hx
    exact W.ret ⟨x, y, z, s3, rfl, by omega, h3.le (by omega)⟩
  · rintro _ ⟨x, y, z, s1, rfl, hx, h1⟩
    simp only [D.nth_zero, D.nth_succ]
    refine W.bind (w_Flip _ _ s1 h1 (by omega) (by simp)) ?_
    rintro _ ⟨b, s2, rfl, h2⟩
    simp only [D.nth_zero, D.nth_succ, D.bool_b]
    refine W.cond (fun _ => ?_) (fun _ => W.ret ⟨x, y, z, s2, rfl, hx, h2.le (by omega)⟩)
    refine W.bind (w_Odd _ 1 3600000 s2 h2 (by omega) (by omega) (by omega) (by omega)) ?_
    rintro _ ⟨x, s3, rfl, hx1, hx2, h3⟩
    refine W.bind (w_Odd _ 0 300 s3 h3 (by omega) (by omega) (by omega) (by omega)) ?_
    rintro _ ⟨y, s4, rfl, _, _, h4⟩
    refine W.bind (w_Odd _ 0 1000 s4 h4 (by omega) (by omega) (by omega) (by omega)) ?_
    rintro _ ⟨z, s5, rfl, _, _, h5⟩
    exact W.ret ⟨x, y, z, s5, rfl, by omega, h5.le (by omega)⟩
theorem w_Times (c : Int) (most : Int) (s : D) (hs : St c s) (hc : c ≤ 1000000) (h0 : 0 ≤ most) (h1 : most ≤ 10) : W (fun K _ => f_gatemake_Stream_Times K (.i most) s) (fun r => ∃ l s', r = [.n l, s'] ∧ l.length ≤ 10 ∧ St (c + 30) s') := by
  unfold f_gatemake_Stream_Times
  refine W.bind (w_Range c 0 most s hs (by omega) (by omega) (by omega)) ?_
  rintro _ ⟨n, s1, rfl, n0, n1, h2⟩
  have n1 := n1 h0
  simp only [D.nth_zero, D.nth_succ]
  refine W.bind (p := fun r => ∃ l s', r = (0, [s', .n l]) ∧ l.length ≤ 10 ∧ St (c + 12) s') (W.rounds (S := Nat × D × List D) (fun q => [.i n, .i (q.1 : Int), q.2.1, .n q.2.2]) (fun q => (q.1 : Int) ≤ n ∧ q.2.2.length = q.1 ∧ St (c + 1 + q.1) q.2.1) (fun q => n.toNat - q.1) (fun q hI rc ih => ?_) (0, s1, []) ⟨by simp only; omega, rfl, by simpa using h2⟩) ?_
  · obtain ⟨j, s2, out⟩ := q
    obtain ⟨a1, a2, a3⟩ := hI
    simp only at a1 a2 a3
    unfold b_gatemake_Stream_Times_0
    simp only [D.nth_zero, D.nth_succ, D.int_i, D.list_n]
    refine W.cond (fun h => ?_) (fun h => ?_)
    · simp at h
      refine W.bind (w_Pick _ s2 _ a3 (by omega) (by simp) (by simp)) ?_
      rintro _ ⟨x, s3, t, rfl, hx, h3⟩
      refine W.cond (fun _ => ?_) (fun h => absurd (lim_mk (n := out.length + 1) (by omega)) (by rw [h]; simp))
      have e1 : IntKind.i64.wrap ((j : Int) + 1) = ((j + 1 : Nat) : Int) := by rw [wrap_i64 (by omega) (by omega)]; omega
      rw [e1]
      exact ih (j + 1, s3, out ++ [x]) ⟨by simp only; omega, by simp [a2], h3.le (by simp only; omega)⟩ (by simp only; omega)
    · exact W.ret ⟨out, s2, rfl, by omega, a3.le (by omega)⟩
  · rintro _ ⟨l, s2, rfl, hl, h3⟩
    simp only [D.nth_zero, D.nth_succ, D.list_n]
    refine W.cond (fun h => ?_) (fun _ => W.ret ⟨l, s2, rfl, hl, h3.le (by omega)⟩)
    simp at h
    refine W.bind (w_Flip _ _ s2 h3 (by omega) (by simp)) ?_
    rintro _ ⟨b, s3, rfl, h4⟩
    simp only [D.nth_zero, D.nth_succ, D.bool_b]
    refine W.cond (fun _ => ?_) (fun _ => W.ret ⟨l, s3, rfl, hl, h4.le (by omega)⟩)
    refine W.bind (w_Odd _ 0 100 s3 h4 (by omega) (by omega) (by omega) (by omega)) ?_
    rintro _ ⟨x, s4, rfl, _, _, h5⟩
    refine W.cond (fun _ => ?_) (fun h' => by rw [inB_mk (by omega) (by omega)] at h'; cases h')
    exact W.ret ⟨_, s4, rfl, by rw [length_setNth (l := l) (i := 0) (show 0 < l.length by omega)]; exact hl, h5.le (by omega)⟩
/-! ### The law -/
theorem mul_toD (l : List Int) : (l.map D.i).length = l.length := by simp
theorem pure (zs : List Int) (h : zs.length ≤ maxLen) (hw : ∀ n ∈ zs, (Lit.int .i64 n).wf = true) : ∃ K, f_gatelaw2_TriesAgain K (.n (zs.map D.i)) = some [.b true] := by
  have : W (fun K _ => f_gatelaw2_TriesAgain K (.n (zs.map D.i))) (· = [.b true]) := by
    unfold f_gatelaw2_TriesAgain
    refine W.bind (w_Range 0 0 8 _ ⟨_, 0, rfl, by omega, by omega⟩ (by omega) (by omega) (by omega)) ?_
    rintro _ ⟨n, s1, rfl, n0, n1, h1⟩
    have n1 := n1 (by omega)
    simp only [D.nth_zero, D.nth_succ]
    refine W.bind (p := fun r => ∃ l s', r = (0, [s', .n l]) ∧ l.length ≤ 8 ∧ St 20 s') (W.rounds (S := Nat × D × List D) (fun q => [.i n, .i (q.1 : Int), q.2.1, .n q.2.2]) (fun q => (q.1 : Int) ≤ n ∧ q.2.2.length = q.1 ∧ St (0 + 1 + q.1) q.2.1) (fun q => n.toNat - q.1) (fun q hI rc ih => ?_) (0, s1, []) ⟨by simp only; omega, rfl, by simpa using h1⟩) ?_
    · obtain ⟨j, s2, out⟩ := q
      obtain ⟨a1, a2, a3⟩ := hI
      simp only at a1 a2 a3
      unfold b_gatelaw2_TriesAgain_0
      simp only [D.nth_zero, D.nth_succ, D.int_i, D.list_n]
      refine W.cond (fun h => ?_) (fun h => ?_)
      · simp at h
        refine W.bind (w_Pick _ s2 _ a3 (by omega) (by simp) (by simp)) ?_
        rintro _ ⟨x, s3, t, rfl, hx, h3⟩
        refine W.cond (fun _ => ?_) (fun h => absurd (lim_mk (n := out.length + 1) (by omega)) (by rw [h]; simp))
        have e1 : IntKind.i64.wrap ((j : Int) + 1) = ((j + 1 : Nat) : Int) := by rw [wrap_i64 (by omega) (by omega)]; omega
        rw [e1]
        exact ih (j + 1, s3, out ++ [x]) ⟨by simp only; omega, by simp [a2], h3.le (by simp only; omega)⟩ (by simp only; omega)
      · exact W.ret ⟨out, s2, rfl, by omega, a3.le (by omega)⟩
    rintro _ ⟨x, s2, rfl, hx, h2⟩
    simp only [D.nth_zero, D.nth_succ, D.list_n]
    refine W.bind (w_PickI _ s2 [1, 250, 500, 501, 900, 999, 1000, 0, 1001] h2 (by omega) (by simp) (by simp)) ?_
    rintro _ ⟨part, s3, _, rfl, -, h3⟩
    refine W.bind (w_PickI _ s3 [0, 1, 10, 100] h3 (by omega) (by simp) (by simp)) ?_
    rintro _ ⟨wait0, s4, _, rfl, -, h4⟩
    refine W.bind (w_PickI _ s4 [100, 150, 1000, 3600000] h4 (by omega) (by simp) (by simp)) ?_
    rintro _ ⟨most0, s5, _, rfl, -, h5⟩
    refine W.bind (w_PickI _ s5 [2, 3, 4, 5, 100, 1, 101] h5 (by omega) (by simp) (by simp)) ?_
    rintro _ ⟨try', s6, _, rfl, -, h6⟩
    refine W.bind (w_Flip _ _ s6 h6 (by omega) (by simp)) ?_
    rintro _ ⟨fl, s7, rfl, h7⟩
    simp only [D.nth_zero, D.nth_succ]
    refine W.bind (p := fun r => ∃ wait most s', r = (0, [.i wait, .i most, s']) ∧ St 40 s') ?_ ?_
    · unfold b_gatelaw2_TriesAgain_1
      simp only [D.nth_zero, D.nth_succ, D.bool_b]
      refine W.cond (fun _ => ?_) (fun _ => W.ret ⟨wait0, most0, s7, rfl, h7.le (by omega)⟩)
      refine W.bind (w_Odd _ 0 100 s7 h7 (by omega) (by omega) (by omega) (by omega)) ?_
      rintro _ ⟨w', s8, rfl, _, _, h8⟩
      refine W.bind (w_Odd _ 0 3600000 s8 h8 (by omega) (by omega) (by omega) (by omega)) ?_
      rintro _ ⟨m', s9, rfl, _, _, h9⟩
      exact W.ret ⟨w', m', s9, rfl, h9.le (by omega)⟩
    rintro _ ⟨wait, most, s8, rfl, h8⟩
    simp only [D.nth_zero, D.nth_succ]
    refine W.bind (w_Budget _ s8 h8 (by omega)) ?_
    rintro _ ⟨a, b, c, s9, rfl, ha, h9⟩
    refine W.bind (w_Times _ 8 s9 h9 (by omega) (by omega) (by omega)) ?_
    rintro _ ⟨calls, s10, rfl, hcl, h10⟩
    refine W.bind (w_Times _ 6 s10 h10 (by omega) (by omega) (by omega)) ?_
    rintro _ ⟨again, s11, rfl, hag, h11⟩
    refine W.bind (w_PickI _ s11 [0, 5, 50, 100, 150, -1] h11 (by omega) (by simp) (by simp)) ?_
    rintro _ ⟨vat, s12, _, rfl, hvat, -⟩
    have hv : -1000000 ≤ vat ∧ vat ≤ 1000000 := by
      simp only [List.mem_cons, List.not_mem_nil, or_false] at hvat
      omega
    simp only [D.nth_zero, D.nth_succ, D.int_i, D.list_n]
    refine W.bind (w_Percentile x part (by omega)) ?_
    intro r13 hr13
    refine W.bind (w_Backoff wait most try') ?_
    rintro _ rfl
    refine W.bind (w_May calls again vat a b c (by omega) (by omega) hv ha) ?_
    rintro _ ⟨mb, rfl, hmb0, hmb1⟩
    refine W.bind (w_when _ 8) ?_
    rintro _ rfl
    refine W.bind (w_when _ 1) ?_
    rintro _ rfl
    refine W.bind (w_errs2 _ _) ?_
    rintro _ rfl
    refine W.bind (w_BackoffFault wait most try') ?_
    rintro _ rfl
    refine W.bind (w_BudgetFault a b c) ?_
    rintro _ rfl
    refine W.bind (w_CheckBudget a b c) ?_
    rintro _ rfl
    simp only [D.nth_zero, D.nth_succ, D.int_i, D.list_n]
    refine W.cond (fun h => by simp at h) (fun _ => ?_)
    refine W.bind (w_Concat [.n calls, .n again, .n [.i vat]] (by simp) (fun y hy => by
      simp only [List.mem_cons, List.not_mem_nil, or_false] at hy
      rcases hy with rfl | rfl | rfl
      · show calls.length ≤ 1000; omega
      · show again.length ≤ 1000; omega
      · simp)) ?_
    rintro _ rfl
    have hcat : cat [.n calls, .n again, .n [.i vat]] = calls ++ again ++ [.i vat] := by simp [cat]
    rw [hcat]
    simp only [D.nth_zero, D.list_n]
    refine W.bind (w_three _ (calls ++ again ++ [.i vat]) (by simp; omega)) ?_
    rintro _ rfl
    simp only [D.nth_zero, D.nth_succ, D.int_i]
    generalize hthree : momE (bif bgB a b c then 1 else 0) (calls ++ again ++ [D.i vat]) = three at hmb0 hmb1 ⊢
    -- the percentile
    refine W.bind (p := fun r => ∃ y, r = (0, [y, .n x]) ∧ (D.nth r13 0).int = y.int ∧ (D.nth r13 1).int = (bif (bif (x.length : Int) == 0 then (8 : Int) else 0) != 0 then (bif (x.length : Int) == 0 then (8 : Int) else 0) else (bif (bif ltI part 1 then true else gtI part 1000) then (1 : Int) else 0))) ?_ ?_
    · unfold b_gatelaw2_TriesAgain_3
      simp only [D.nth_zero, D.nth_succ, D.bool_b, D.list_n]
      rcases hr13 with ⟨h0, rfl⟩ | ⟨h0, hp, rfl⟩ | ⟨h0, hp1, hp2, y, L, rfl, hP, hA, hy⟩
      · have e1 : ((x.length : Int) == 0) = true := by simp [h0]
        rw [e1]
        exact W.cond (fun h => by simp at h) (fun _ => W.ret ⟨.i 0, rfl, rfl, rfl⟩)
      · have e1 : ((x.length : Int) == 0) = false := beq_eq_false_iff_ne.2 (by omega)
        have e2 : (bif ltI part 1 then true else gtI part 1000) = true := by
          cases h1 : ltI part 1 with
          | true => rfl
          | false => simp at h1; simp; omega
        rw [e1, e2]
        exact W.cond (fun h => by simp at h) (fun _ => W.ret ⟨.i 0, rfl, rfl, rfl⟩)
      · have e1 : ((x.length : Int) == 0) = false := beq_eq_false_iff_ne.2 (by omega)
        have e2 : (bif ltI part 1 then true else gtI part 1000) = false := by
          cases h1 : ltI part 1 with
          | true => simp at h1; omega
          | false => simp; omega
        rw [e1, e2]
        refine W.cond (fun _ => ?_) (fun h => by simp at h)
        refine W.bind (w_PercentileOf x L part (by omega) h0 hP hA hp1 hp2) ?_
        rintro _ ⟨z, rfl, hz⟩
        exact W.ret ⟨z, rfl, by simp only [D.nth_zero]; rw [hy, hz], rfl⟩
    rintro _ ⟨wn, rfl, hwn, he1⟩
    simp only [D.nth_zero, D.nth_succ]
    -- the backoff
    refine W.bind (p := fun r => r = (0, [.i (bif bkB wait most try' then 0 else bk wait most (try' - 2).toNat)])) ?_ ?_
    · unfold b_gatelaw2_TriesAgain_4
      simp only [D.nth_zero, D.nth_succ, D.bool_b]
      cases hk : bkB wait most try' with
      | true => exact W.cond (fun h => by simp at h) (fun _ => W.ret rfl)
      | false =>
        refine W.cond (fun _ => ?_) (fun h => by simp at h)
        obtain ⟨k0, k1, k2, k3, k4⟩ := bkB_f hk
        refine W.bind (w_BackoffOf wait most try' k0 k1 k2 k3 k4) ?_
        rintro _ rfl
        exact W.ret rfl
    rintro _ rfl
    simp only [D.nth_zero, D.nth_succ, D.int_i]
    refine W.cond (fun _ => ?_) (fun h => ?_)
    · refine W.cond (fun h => ?_) (fun h => ?_)
      · have h3 : three = 0 := by simpa using h
        refine W.bind (w_MayOf calls again vat a b c (by omega) (by omega) hv ha) ?_
        rintro _ rfl
        rw [hmb0 h3]
        refine W.cond (fun _ => ?_) (fun h => by simp at h)
        refine W.bind balanced ?_
        rintro _ rfl
        exact W.ret rfl
      · have h3 : three ≠ 0 := by simpa using h
        rw [hmb1 h3]
        refine W.cond (fun _ => ?_) (fun h => by simp at h)
        refine W.bind balanced ?_
        rintro _ rfl
        exact W.ret rfl
    · exfalso
      rw [hwn, he1] at h
      cases hk : bkB wait most try' <;> rw [hk] at h <;> simp at h
  obtain ⟨K, r, h1, rfl⟩ := this.get
  exact ⟨K, h1⟩
end Go.Proofs.YtlogmjgkbfahjaaP
