/- The plain law: what the printed functions come to. -/
import Derived.Test.YtpmkecjkbajcgaaGreatDoorYtCd
import Derived.Test.YtpmkecjkbajcgaaGreatDoorEvPure
namespace Go.Proofs.YtpmkecjkbajcgaaGreatDoorP
open Go Go.Ev
set_option linter.unusedVariables false
set_option linter.unusedSimpArgs false
/-! ### The stream of numbers -/
def St (c : Int) (s : D) : Prop := ∃ L at', s = .n [L, .i at'] ∧ 0 ≤ at' ∧ at' ≤ c
theorem St.le {c c' : Int} {s : D} (h : St c s) (hc : c ≤ c') : St c' s := let ⟨L, a, h1, h2, h3⟩ := h; ⟨L, a, h1, h2, by omega⟩
theorem w_Below (x n : D) (hn : n.int ≤ 4611686018427387904) : W (fun K _ => f_gatemake_Below K x n) (fun r => ∃ i, r = [.i i] ∧ 0 ≤ i ∧ (1 ≤ n.int → i < n.int)) := by
  unfold f_gatemake_Below
  refine W.cond (fun h => ?_) (fun h => ?_)
  · simp at h
    exact W.ret ⟨0, rfl, by omega, by omega⟩
  · simp at h
    have h1 := Int.tmod_lt_of_pos x.int (show 0 < n.int by omega)
    have h2 := Int.lt_tmod_of_pos x.int (show 0 < n.int by omega)
    refine W.cond (fun _ => ?_) (fun h' => by simp at h'; omega)
    refine W.cond (fun h' => ?_) (fun h' => ?_)
    · simp at h'
      rw [wrap_i64 (by omega) (by omega)]
      exact W.ret ⟨_, rfl, by omega, fun _ => by omega⟩
    · simp at h'
      exact W.ret ⟨_, rfl, by omega, fun _ => by omega⟩
theorem w_Next (c : Int) (n s : D) (hs : St c s) (hc : c ≤ 1000000000000) (hn : n.int ≤ 4611686018427387904) : W (fun K _ => f_gatemake_Stream_Next K n s) (fun r => ∃ i s', r = [.i i, s'] ∧ 0 ≤ i ∧ (1 ≤ n.int → i < n.int) ∧ St (c + 1) s') := by
  obtain ⟨L, a, rfl, h1, h2⟩ := hs
  unfold f_gatemake_Stream_Next
  simp only [D.at_n, D.nth_zero, D.nth_succ, D.int_i]
  have e1 : IntKind.i64.wrap (a + 1) = a + 1 := wrap_i64 (by omega) (by omega)
  have e2 : IntKind.i64.wrap (a + 1 - 1) = a := by rw [wrap_i64 (by omega) (by omega)]; omega
  simp only [e1, e2]
  have hfin : ∀ i : Int, 0 ≤ i → (1 ≤ n.int → i < n.int) → W (fun _ _ => some [D.i i, D.n [L, D.i (a + 1)]]) (fun r => ∃ i s', r = [.i i, s'] ∧ 0 ≤ i ∧ (1 ≤ n.int → i < n.int) ∧ St (c + 1) s') := fun i h3 h4 => W.ret ⟨i, _, rfl, h3, h4, L, a + 1, rfl, by omega, by omega⟩
  refine W.cond (fun h => ?_) (fun h => ?_)
  · refine W.bind (w_Below _ n hn) ?_
    rintro _ ⟨i, rfl, h3, h4⟩
    exact hfin i h3 h4
  · have hL : 0 < L.list.length := by
      simp only [beq_eq_false_iff_ne, ne_eq] at h
      omega
    refine W.cond (fun _ => ?_) (fun h' => by simp at h'; simp [h'] at hL)
    refine W.cond (fun _ => ?_) (fun h' => by simp at h'; simp [h'] at hL)
    have h5 := Int.tmod_nonneg (L.list.length : Int) h1
    have h6 := Int.tmod_lt_of_pos a (show 0 < (L.list.length : Int) by omega)
    refine W.cond (fun _ => ?_) (fun h' => by simp [inB] at h'; omega)
    refine W.bind (w_Below _ (.i 1073741824) (by simp)) ?_
    rintro _ ⟨i, rfl, _, _⟩
    refine W.bind (w_Below _ n hn) ?_
    rintro _ ⟨j, rfl, h3, h4⟩
    exact hfin j h3 h4
theorem w_Flip (c : Int) (n s : D) (hs : St c s) (hc : c ≤ 1000000000000) (hn : n.int ≤ 4611686018427387904) : W (fun K _ => f_gatemake_Stream_Flip K n s) (fun r => ∃ b s', r = [.b b, s'] ∧ St (c + 1) s') := by
  unfold f_gatemake_Stream_Flip
  refine W.bind (w_Next c n s hs hc hn) ?_
  rintro _ ⟨i, s', rfl, _, _, h⟩
  exact W.ret ⟨_, s', rfl, h⟩
theorem nth_mem : ∀ {l : List D} {j : Nat}, j < l.length → D.nth l j ∈ l
  | a :: l, 0, _ => by simp
  | a :: l, j + 1, h => by simp only [D.nth_succ]; exact List.mem_cons_of_mem _ (nth_mem (by simpa using h))
/-- One of some numbers (or other data). -/
theorem w_Pick (c : Int) (s : D) (l : List D) (hs : St c s) (hc : c ≤ 1000000000000) (hl : l ≠ []) (hl2 : l.length ≤ 1000000) : W (fun K _ => f_gatemake_Stream_Pick K s (.n l)) (fun r => ∃ x s' t, r = [x, s', t] ∧ x ∈ l ∧ St (c + 1) s') := by
  unfold f_gatemake_Stream_Pick
  have : 0 < l.length := List.length_pos_iff.2 hl
  refine W.bind (w_Next c _ s hs hc (by simp; omega)) ?_
  rintro _ ⟨i, s', rfl, h1, h2, h3⟩
  simp only [D.int_i, D.list_n] at h2
  have h2 := h2 (by omega)
  refine W.cond (fun h => ?_) (fun h => absurd (inB_mk h1 h2) (by rw [D.nth_zero, D.int_i, D.list_n] at h; rw [h]; simp))
  exact W.ret ⟨_, s', _, rfl, nth_mem (show i.toNat < l.length by omega), h3⟩
theorem w_Range (c : Int) (lo hi : Int) (s : D) (hs : St c s) (hc : c ≤ 1000000000000) (h1 : 0 ≤ lo) (h2 : hi ≤ 1000000000000) : W (fun K _ => f_gatemake_Stream_Range K (.i lo) (.i hi) s) (fun r => ∃ x s', r = [.i x, s'] ∧ lo ≤ x ∧ (lo ≤ hi → x ≤ hi) ∧ St (c + 1) s') := by
  unfold f_gatemake_Stream_Range
  refine W.cond (fun h => ?_) (fun h => ?_)
  · simp at h
    exact W.ret ⟨lo, s, rfl, by omega, by omega, hs.le (by omega)⟩
  · simp at h
    have e1 : IntKind.i64.wrap (hi - lo) = hi - lo := wrap_i64 (by omega) (by omega)
    have e2 : IntKind.i64.wrap (hi - lo + 1) = hi - lo + 1 := wrap_i64 (by omega) (by omega)
    simp only [D.int_i, e1, e2]
    refine W.bind (w_Next c _ s hs hc (by simp; omega)) ?_
    rintro _ ⟨i, s', rfl, h3, h4, h5⟩
    simp only [D.int_i] at h4
    have h4 := h4 (by omega)
    simp only [D.nth_zero, D.nth_succ, D.int_i]
    rw [wrap_i64 (by omega) (by omega)]
    exact W.ret ⟨_, s', rfl, by omega, fun _ => by omega, h5⟩
theorem w_Odd (c : Int) (lo hi : Int) (s : D) (hs : St c s) (hc : c ≤ 999999999990) (h1 : 0 ≤ lo) (h0 : lo ≤ hi) (h2 : hi ≤ 1000000000000) : W (fun K _ => f_gatemake_Stream_Odd K (.i lo) (.i hi) s) (fun r => ∃ x s', r = [.i x, s'] ∧ -2000000000000 ≤ x ∧ x ≤ 2000000000000 ∧ St (c + 2) s') := by
  unfold f_gatemake_Stream_Odd
  refine W.bind (w_Flip c _ s hs (by omega) (by simp)) ?_
  rintro _ ⟨b, s', rfl, h3⟩
  simp only [D.nth_zero, D.nth_succ, D.bool_b]
  have e1 : IntKind.i64.wrap (lo - 1) = lo - 1 := wrap_i64 (by omega) (by omega)
  have e2 : IntKind.i64.wrap (hi + 1) = hi + 1 := wrap_i64 (by omega) (by omega)
  simp only [D.int_i, e1, e2]
  refine W.cond (fun _ => ?_) (fun _ => ?_)
  · refine W.bind (w_Pick (c + 1) s' _ h3 (by omega) (by simp) (by simp)) ?_
    rintro _ ⟨x, s2, t, rfl, hx, h4⟩
    simp only [List.mem_cons, List.not_mem_nil, or_false] at hx
    rcases hx with rfl | rfl | rfl | rfl | rfl | rfl <;> exact W.ret ⟨_, s2, rfl, by omega, by omega, h4.le (by omega)⟩
  · refine W.bind (w_Range (c + 1) lo hi s' h3 (by omega) h1 h2) ?_
    rintro _ ⟨x, s2, rfl, h4, h5, h6⟩
    exact W.ret ⟨x, s2, rfl, by omega, by have := h5 h0; omega, h6.le (by omega)⟩
/-! ### Keys -/
def smallC (c : UInt8) : Bool := bif leI 97 c.toNat then leI c.toNat 122 else false
def digitC (c : UInt8) : Bool := bif leI 48 c.toNat then leI c.toNat 57 else false
def restC (c : UInt8) : Bool := smallC c || (digitC c || (((c.toNat : Int) == 45) || ((c.toNat : Int) == 95)))
def smallL : List UInt8 := [97, 98, 99, 100, 101, 102, 103, 104, 105, 106, 107, 108, 109, 110, 111, 112, 113, 114, 115, 116, 117, 118, 119, 120, 121, 122]
def restL : List UInt8 := [97, 98, 99, 100, 101, 102, 103, 104, 105, 106, 107, 108, 109, 110, 111, 112, 113, 114, 115, 116, 117, 118, 119, 120, 121, 122, 48, 49, 50, 51, 52, 53, 54, 55, 56, 57, 45, 95]
def keyB (s : List UInt8) : Bool := (leI 1 s.length && leI s.length 40) && ((s.take 1).all smallC && s.all restC)
theorem small_cls (c : UInt8) : (!ltI (Lib.indexByte smallL c) 0) = smallC c := by
  have := all256 (p := fun c => (!ltI (Lib.indexByte smallL c) 0) == smallC c) (by kernel_rfl) c
  simpa using this
theorem rest_cls (c : UInt8) : (!ltI (Lib.indexByte restL c) 0) = restC c := by
  have := all256 (p := fun c => (!ltI (Lib.indexByte restL c) 0) == restC c) (by kernel_rfl) c
  simpa using this
theorem w_only (s l : List UInt8) (hs : s.length ≤ 1000000000000) : W (fun K _ => f_gateref2_only K (.s s) (.s l)) (fun r => r = [.b (s.all fun c => !ltI (Lib.indexByte l c) 0)]) := by
  unfold f_gateref2_only
  refine W.bind (W.early s.length (fun j => [.s s, .s l, .i s.length, .i j]) (fun j => bif !ltI (Lib.indexByte l (s.getD j 0)) 0 then none else some (0, [.b false])) (1, []) (fun j hj hp p rc h1 h2 => ?_) (fun rc => ?_)) ?_
  · unfold b_gateref2_only_0
    simp only [D.nth_zero, D.nth_succ, D.str_s, D.int_i, Int.toNat_natCast]
    refine W.cond (fun _ => ?_) (fun h => by simp at h; omega)
    refine W.cond (fun _ => ?_) (fun h => by simp at h; omega)
    simp only [p_strings_IndexByte, p_stringslite_IndexByte, p_bytealg_IndexByteString, D.nth_zero, D.int_i, D.str_s, byteAt_getD, toUInt8_byte]
    refine W.cond (fun h => W.ret (h1 _ (by rw [h]; rfl))) (fun h => ?_)
    rw [wrap_i64 (by omega) (by omega)]
    exact h2 (by rw [h]; rfl)
  · unfold b_gateref2_only_0
    simp only [D.nth_zero, D.nth_succ, D.str_s, D.int_i]
    exact W.cond (fun h => by simp at h) (fun _ => W.ret rfl)
  · rintro _ rfl
    rw [scan_all s (fun c => !ltI (Lib.indexByte l c) 0)]
    cases s.all fun c => !ltI (Lib.indexByte l c) 0 with
    | true => exact W.ret rfl
    | false => exact W.ret rfl
theorem w_Key (s : List UInt8) (hs : s.length ≤ 1000000000000) : W (fun K _ => f_gateref2_Key K (.s s)) (fun r => r = [.b (keyB s)]) := by
  unfold f_gateref2_Key
  simp only [p_gateref2_in, D.nth_zero, D.bool_b, D.int_i, D.str_s]
  refine W.cond (fun _ => ?_) (fun h => ?_)
  · refine W.cond (fun h => ?_) (fun h => W.ret ?_)
    · have h0 : (leI 1 s.length && leI s.length 40) = true := by cases h1 : leI 1 (s.length : Int) <;> cases h2 : leI (s.length : Int) 40 <;> simp_all
      refine W.bind (w_only (s.take 1) smallL (by rw [List.length_take]; omega)) ?_
      rintro _ rfl
      simp only [small_cls, D.nth_zero, D.bool_b]
      refine W.cond (fun h1 => ?_) (fun h1 => W.ret ?_)
      · refine W.bind (w_only s restL hs) ?_
        rintro _ rfl
        simp only [rest_cls, D.nth_zero, D.bool_b]
        exact W.ret (by simp only [keyB, h0, h1, Bool.true_and])
      · simp only [keyB, h0, h1, Bool.true_and, Bool.false_and]
    · have h0 : (leI 1 s.length && leI s.length 40) = false := by cases h1 : leI 1 (s.length : Int) <;> cases h2 : leI (s.length : Int) 40 <;> simp_all
      simp only [keyB, h0, Bool.false_and]
  · cases h1 : leI 1 (s.length : Int) <;> cases h2 : leI (s.length : Int) 40 <;> simp_all
    omega
def badK (s : List UInt8) (j : Nat) : Bool := !(bif smallC (s.getD j 0) then true else (bif gtI j 0 then restC (s.getD j 0) else false))
theorem keyB_scan (s : List UInt8) (h : ∀ j, j < s.length → badK s j = false) : keyB s = (!(s == []) && leI s.length 40) := by
  cases s with
  | nil => rfl
  | cons a t =>
    have h0 := h 0 (by simp)
    have ha : smallC a = true := by
      simp only [badK, List.getD_cons_zero] at h0
      cases hc : smallC a with
      | true => rfl
      | false => rw [hc] at h0; simp [gtI] at h0
    have hall : (a :: t).all restC = true := by
      rw [all_getD]
      intro j hj
      have := h j hj
      simp only [badK] at this
      cases hc : smallC ((a :: t).getD j 0) with
      | true => simp only [restC, hc, Bool.true_or]
      | false =>
        rw [hc] at this
        cases hg : gtI (j : Int) 0 with
        | false => rw [hg] at this; simp at this
        | true => rw [hg] at this; simpa using this
    have h1 : leI 1 ((a :: t).length : Int) = true := by simp; omega
    have h2 : (a :: t).take 1 = [a] := rfl
    have h3 : ((a :: t) == []) = false := rfl
    simp only [keyB, hall, h1, h2, h3, List.all_cons, List.all_nil, ha, Bool.true_and, Bool.and_true, Bool.not_false]
theorem keyB_bad (s : List UInt8) (j : Nat) (hj : j < s.length) (h : badK s j = true) : keyB s = false := by
  cases s with
  | nil => simp at hj
  | cons a t =>
    cases j with
    | zero =>
      simp only [badK, List.getD_cons_zero] at h
      cases hc : smallC a with
      | true => rw [hc] at h; simp at h
      | false => simp [keyB, hc]
    | succ j =>
      have hr : restC ((a :: t).getD (j + 1) 0) = false := by
        simp only [badK] at h
        have hg : gtI ((j + 1 : Nat) : Int) 0 = true := by simp
        rw [hg] at h
        cases hc : smallC ((a :: t).getD (j + 1) 0) with
        | true => rw [hc] at h; simp at h
        | false => rw [hc] at h; simpa using h
      have : (a :: t).all restC = false := by
        rw [← Bool.not_eq_true, all_getD]
        intro hall
        rw [hall (j + 1) hj] at hr
        cases hr
      simp only [keyB, this, Bool.and_false]
theorem w_IsKey (s : List UInt8) (hs : s.length ≤ 1000000000000) : W (fun K _ => f_kit_IsKey K (.s s)) (fun r => r = [.b (keyB s)]) := by
  unfold f_kit_IsKey
  refine W.bind (W.early s.length (fun j => [.s s, .i j]) (fun j => bif badK s j then some (0, [.b false]) else none) (1, []) (fun j hj hp p rc h1 h2 => ?_) (fun rc => ?_)) ?_
  · unfold b_kit_IsKey_0
    simp only [D.nth_zero, D.nth_succ, D.str_s, D.int_i, Int.toNat_natCast, byteAt_getD]
    refine W.cond (fun _ => ?_) (fun h => by simp at h; omega)
    refine W.cond (fun _ => ?_) (fun h => by simp at h; omega)
    have e : (!(bif (bif (geI ((s.getD j 0).toNat : Int) 97) then (leI ((s.getD j 0).toNat : Int) 122) else false) then true else (bif (gtI (j : Int) 0) then (bif (bif (bif (geI ((s.getD j 0).toNat : Int) 48) then (leI ((s.getD j 0).toNat : Int) 57) else false) then true else (((s.getD j 0).toNat : Int) == (45 : Int))) then true else (((s.getD j 0).toNat : Int) == (95 : Int))) else false))) = badK s j := by
      simp only [badK, restC, smallC, digitC, geI, leI, gtI]
      generalize ((s.getD j 0).toNat : Int) = x
      generalize (j : Int) = y
      cases hd1 : decide (x ≥ 97) <;> cases hd2 : decide (x ≤ 122) <;> cases hd3 : decide (x ≥ 48) <;> cases hd4 : decide (x ≤ 57) <;> cases hd5 : decide (y > 0) <;> cases hd6 : x == 45 <;> cases hd7 : x == 95 <;> simp_all
    rw [e]
    refine W.cond (fun h => W.ret (h1 _ (by rw [h]; rfl))) (fun h => ?_)
    rw [wrap_i64 (by omega) (by omega)]
    exact h2 (by rw [h]; rfl)
  · unfold b_kit_IsKey_0
    simp only [D.nth_zero, D.nth_succ, D.str_s, D.int_i]
    exact W.cond (fun h => by simp at h) (fun _ => W.ret rfl)
  · rintro _ rfl
    rcases scan_cases (fun j => bif badK s j then some (0, [D.b false]) else none) ((1, []) : Nat × List D) s.length 0 with ⟨i, r, h1, h2, h3, h4, h5⟩ | ⟨h1, h2⟩
    · rw [h4]
      cases hb : badK s i with
      | false => rw [hb] at h3; simp at h3
      | true =>
        rw [hb] at h3
        simp only [cond_true, Option.some.injEq] at h3
        subst h3
        exact W.ret (by rw [keyB_bad s i (by omega) hb]; rfl)
    · rw [h2]
      refine W.ret ?_
      rw [keyB_scan s fun j hj => ?_]
      · simp only [D.str_s]
        cases h3 : s == [] <;> rfl
      · have := h1 j (Nat.zero_le _) (by omega)
        cases hb : badK s j with
        | false => rfl
        | true => rw [hb] at this; simp at this
/-- One of some strings (or other data). -/
theorem w_Some (c : Int) (s : D) (l : List D) (hs : St c s) (hc : c ≤ 1000000000000) (hl : l ≠ []) (hl2 : l.length ≤ 1000000) : W (fun K _ => f_gatemake_Stream_Some K s (.n l)) (fun r => ∃ x s' t, r = [x, s', t] ∧ x ∈ l ∧ St (c + 1) s') := by
  unfold f_gatemake_Stream_Some
  have : 0 < l.length := List.length_pos_iff.2 hl
  refine W.bind (w_Next c _ s hs hc (by simp; omega)) ?_
  rintro _ ⟨i, s', rfl, h1, h2, h3⟩
  simp only [D.int_i, D.list_n] at h2
  have h2 := h2 (by omega)
  refine W.cond (fun h => ?_) (fun h => absurd (inB_mk h1 h2) (by rw [D.nth_zero, D.int_i, D.list_n] at h; rw [h]; simp))
  exact W.ret ⟨_, s', _, rfl, nth_mem (show i.toNat < l.length by omega), h3⟩
theorem w_PickI (c : Int) (s : D) (l : List Int) (hs : St c s) (hc : c ≤ 999999999999) (h1 : l ≠ []) (h2 : l.length ≤ 100) : W (fun K _ => f_gatemake_Stream_Pick K s (.n (l.map D.i))) (fun r => ∃ x s' t, r = [.i x, s', t] ∧ x ∈ l ∧ St (c + 1) s') := by
  refine (w_Pick c s (l.map D.i) hs (by omega) (by simpa using h1) (by simp; omega)).mono ?_
  rintro _ ⟨x, s', t, rfl, hx, h⟩
  obtain ⟨y, hy, rfl⟩ := List.mem_map.1 hx
  exact ⟨y, s', t, rfl, hy, h⟩
theorem w_SomeS (c : Int) (s : D) (l : List (List UInt8)) (hs : St c s) (hc : c ≤ 1000000000000) (hl : l ≠ []) (hl2 : l.length ≤ 1000000) : W (fun K _ => f_gatemake_Stream_Some K s (.n (l.map D.s))) (fun r => ∃ x s' t, r = [.s x, s', t] ∧ x ∈ l ∧ St (c + 1) s') := by
  refine (w_Some c s (l.map D.s) hs hc (by simpa using hl) (by simpa using hl2)).mono ?_
  rintro _ ⟨x, s', t, rfl, hx, h⟩
  obtain ⟨y, hy, rfl⟩ := List.mem_map.1 hx
  exact ⟨y, s', t, rfl, hy, h⟩
/-! ### Sorted lists, each once -/
def norm (l : List (List UInt8)) : List (List UInt8) := Lib.compact (l.mergeSort fun x y => decide (x ≤ y))
theorem lt_of_le_ne {x y : List UInt8} (h : x ≤ y) (hn : x ≠ y) : x < y := by
  refine Decidable.byContradiction fun h2 => ?_
  rw [List.not_lt] at h2
  exact hn (List.le_antisymm h h2)
theorem compactUpTo_spec (d : Array (List UInt8)) (hs : ∀ i j, i ≤ j → j < d.size → d[i]! ≤ d[j]!) : ∀ m, m ≤ d.size →
    (Lib.compactUpTo d m).Pairwise (· < ·) ∧ (∀ x, x ∈ Lib.compactUpTo d m ↔ ∃ j, j < m ∧ d[j]! = x) := by
  intro m
  induction m with
  | zero => exact fun _ => ⟨by simp [Lib.compactUpTo], by simp [Lib.compactUpTo]⟩
  | succ m ih =>
    intro hm
    obtain ⟨h1, h2⟩ := ih (by omega)
    rw [Lib.compactUpTo_succ]
    cases hk : Lib.keeps d m with
    | true =>
      simp only [if_true]
      refine ⟨?_, fun x => ?_⟩
      · rw [List.pairwise_append]
        refine ⟨h1, by simp, fun a ha b hb => ?_⟩
        simp only [List.mem_singleton] at hb
        subst hb
        obtain ⟨j, hj, rfl⟩ := (h2 a).1 ha
        have hkp : m = 0 ∨ d[m]! ≠ d[m - 1]! := by simpa [Lib.keeps] using hk
        rcases hkp with hk0 | hk0
        · omega
        · have l1 := hs j (m - 1) (by omega) (by omega)
          have l2 := lt_of_le_ne (hs (m - 1) m (by omega) (by omega)) (fun e => hk0 e.symm)
          exact List.lt_of_le_of_lt l1 l2
      · simp only [List.mem_append, h2, List.mem_singleton]
        constructor
        · rintro (⟨j, hj, rfl⟩ | rfl)
          · exact ⟨j, by omega, rfl⟩
          · exact ⟨m, by omega, rfl⟩
        · rintro ⟨j, hj, rfl⟩
          rcases Nat.lt_or_eq_of_le (Nat.le_of_lt_succ hj) with h | h
          · exact .inl ⟨j, h, rfl⟩
          · subst h; exact .inr rfl
    | false =>
      simp only [Bool.false_eq_true, if_false, List.append_nil]
      refine ⟨h1, fun x => ?_⟩
      rw [h2]
      have hkp : ¬ (m = 0 ∨ d[m]! ≠ d[m - 1]!) := by
        intro h
        have : Lib.keeps d m = true := by simpa [Lib.keeps] using h
        rw [hk] at this; cases this
      have hm0 : m ≠ 0 := fun h => hkp (.inl h)
      have hme : d[m]! = d[m - 1]! := Decidable.byContradiction fun h => hkp (.inr h)
      constructor
      · rintro ⟨j, hj, rfl⟩; exact ⟨j, by omega, rfl⟩
      · rintro ⟨j, hj, rfl⟩
        rcases Nat.lt_or_eq_of_le (Nat.le_of_lt_succ hj) with h | h
        · exact ⟨j, h, rfl⟩
        · subst h; exact ⟨j - 1, by omega, hme.symm⟩
theorem sort_le (l : List (List UInt8)) : (l.mergeSort fun x y => decide (x ≤ y)).Pairwise (fun x y => decide (x ≤ y) = true) :=
  List.pairwise_mergeSort (fun a b c h1 h2 => by simp only [decide_eq_true_eq] at *; exact List.le_trans h1 h2) (fun a b => by simp only [Bool.or_eq_true, decide_eq_true_eq]; exact List.le_total a b) l
theorem norm_spec (l : List (List UInt8)) : (norm l).Pairwise (· < ·) ∧ ∀ x, x ∈ norm l ↔ x ∈ l := by
  have hp := sort_le l
  have hm := List.mergeSort_perm l (fun x y => decide (x ≤ y))
  unfold norm
  generalize (l.mergeSort fun x y => decide (x ≤ y)) = L at hp hm
  have hs : ∀ i j, i ≤ j → j < L.toArray.size → L.toArray[i]! ≤ L.toArray[j]! := fun i j hij hj => by
    have hj : j < L.length := by simpa using hj
    have hi : i < L.length := by omega
    rw [getElem!_pos _ i (by simpa using hi), getElem!_pos _ j (by simpa using hj)]
    simp only [List.getElem_toArray]
    rcases Nat.lt_or_eq_of_le hij with h | h
    · simpa using (List.pairwise_iff_getElem.1 hp) i j hi hj h
    · subst h; exact List.le_refl _
  obtain ⟨h1, h2⟩ := compactUpTo_spec L.toArray hs L.length (by simp)
  refine ⟨h1, fun x => ?_⟩
  show x ∈ Lib.compactUpTo L.toArray L.length ↔ _
  rw [h2, ← hm.mem_iff]
  constructor
  · rintro ⟨j, hj, rfl⟩
    rw [getElem!_pos _ j (by simpa using hj)]
    simp
  · intro hx
    obtain ⟨j, hj, rfl⟩ := List.getElem_of_mem hx
    exact ⟨j, hj, by rw [getElem!_pos _ j (by simpa using hj)]; simp⟩
theorem norm_mem {l : List (List UInt8)} {x : List UInt8} : x ∈ norm l ↔ x ∈ l := (norm_spec l).2 x
theorem strict_eq : ∀ {l m : List (List UInt8)}, l.Pairwise (· < ·) → m.Pairwise (· < ·) → (∀ x, x ∈ l ↔ x ∈ m) → l = m
  | [], [], _, _, _ => rfl
  | [], b :: m, _, _, h => absurd ((h b).2 (by simp)) (by simp)
  | a :: l, [], _, _, h => absurd ((h a).1 (by simp)) (by simp)
  | a :: l, b :: m, hl, hm, h => by
    rw [List.pairwise_cons] at hl hm
    have hab : a = b := by
      rcases List.mem_cons.1 ((h a).1 (by simp)) with e | e
      · exact e
      · rcases List.mem_cons.1 ((h b).2 (by simp)) with e2 | e2
        · exact e2.symm
        · exact absurd (List.lt_trans (hm.1 a e) (hl.1 b e2)) (List.lt_irrefl _)
    subst hab
    rw [strict_eq hl.2 hm.2 fun x => ?_]
    constructor
    · intro hx
      rcases List.mem_cons.1 ((h x).1 (by simp [hx])) with e | e
      · subst e; exact absurd (hl.1 x hx) (List.lt_irrefl _)
      · exact e
    · intro hx
      rcases List.mem_cons.1 ((h x).2 (by simp [hx])) with e | e
      · subst e; exact absurd (hm.1 x hx) (List.lt_irrefl _)
      · exact e
theorem norm_congr {l m : List (List UInt8)} (h : ∀ x, x ∈ l ↔ x ∈ m) : norm l = norm m :=
  strict_eq (norm_spec l).1 (norm_spec m).1 fun x => by rw [norm_mem, norm_mem, h]
theorem norm_filter (l : List (List UInt8)) (p : List UInt8 → Bool) : norm (l.filter p) = (norm l).filter p :=
  strict_eq (norm_spec _).1 ((norm_spec l).1.filter _) fun x => by simp only [norm_mem, List.mem_filter]
theorem norm_len (l : List (List UInt8)) : (norm l).length ≤ l.length := by
  have := Lib.compact_length_le (l.mergeSort fun x y => decide (x ≤ y))
  simpa [norm] using this
theorem norm_id {l : List (List UInt8)} (h : l.Pairwise (· < ·)) : norm l = l := strict_eq (norm_spec l).1 h fun x => norm_mem
theorem str_map (L : List (List UInt8)) : (L.map D.s).map D.str = L := by rw [List.map_map]; exact (List.map_congr_left fun x _ => rfl).trans (List.map_id L)
theorem sortS_map (L : List (List UInt8)) : sortS (L.map D.s) = (L.mergeSort fun x y => decide (x ≤ y)).map D.s := by unfold sortS; rw [str_map]
theorem compS_sort (L : List (List UInt8)) : compS ((L.mergeSort fun x y => decide (x ≤ y)).map D.s) = (norm L).map D.s := by unfold compS norm; rw [str_map]
theorem nthS {L : List (List UInt8)} {j : Nat} (hj : j < L.length) : D.nth (L.map D.s) j = .s (L[j]'hj) := by
  rw [nth_eq (by simpa using hj)]
  simp
theorem any_mapS (L : List (List UInt8)) (p : List UInt8 → Bool) : (L.map D.s).any (fun x => p x.str) = L.any p := by
  rw [List.any_map]; rfl
theorem filter_mapS (L : List (List UInt8)) (p : List UInt8 → Bool) : (L.map D.s).filter (fun x => p x.str) = (L.filter p).map D.s := by
  rw [List.filter_map]; rfl
/-- A search among strings. -/
theorem W.findS {F : Nat → (List D → Option (Nat × List D)) → List D → Option (Nat × List D)} (L : List (List UInt8)) (p : List UInt8 → Bool) (mk : Nat → List D) (yes : Nat → Nat × List D) (no : Nat × List D)
    (h1 : ∀ j (hj : j < L.length), ∀ (q : Nat × List D → Prop) (rc : Nat → Nat → List D → Option (Nat × List D)), (p (L[j]'hj) = true → q (yes j)) → (p (L[j]'hj) = false → W (fun K m => rc K m (mk (j + 1))) q) → W (fun K m => F K (rc K m) (mk j)) q)
    (h2 : ∀ rc : Nat → Nat → List D → Option (Nat × List D), W (fun K m => F K (rc K m) (mk L.length)) (fun r => r = no)) :
    W (fun K _ => fixN (F K) K (mk 0)) (fun r => (L.any p = true ∧ ∃ i, i < L.length ∧ r = yes i) ∨ (L.any p = false ∧ r = no)) := by
  refine (W.early L.length mk (fun j => bif (fun x : D => p x.str) (D.nth (L.map D.s) j) then some (yes j) else none) no (fun j hj hp q rc g1 g2 => ?_) h2).mono fun r hr => ?_
  · refine h1 j hj q rc (fun h => g1 _ ?_) (fun h => g2 ?_)
    · simp only [nthS hj, D.str_s, h, cond_true]
    · simp only [nthS hj, D.str_s, h, cond_false]
  · have := scan_any (L.map D.s) (fun x => p x.str) yes no
    rw [any_mapS, List.length_map] at this
    rcases this with ⟨h1, i, hi, h2⟩ | ⟨h1, h2⟩
    · exact .inl ⟨h1, i, hi, hr.trans h2⟩
    · exact .inr ⟨h1, hr.trans h2⟩
/-- The loop of slices.DeleteFunc, where the question takes steps. -/
theorem W.deleteW {F : Nat → (List D → Option (Nat × List D)) → List D → Option (Nat × List D)} (f : D → Bool) (mk : Nat → Nat → List D → List D) (fin : Nat → List D → Nat × List D)
    (l : List D) (h1 : ∀ (i j : Nat) row, i < j → j < row.length → row.length = l.length → D.nth row j = D.nth l j → ∀ (p : Nat × List D → Prop) (rc : Nat → Nat → List D → Option (Nat × List D)),
      (f (D.nth row j) = true → W (fun K m => rc K m (mk i (j + 1) row)) p) → (f (D.nth row j) = false → W (fun K m => rc K m (mk (i + 1) (j + 1) (D.setNth row i (D.nth row j)))) p) → W (fun K m => F K (rc K m) (mk i j row)) p)
    (h2 : ∀ (i : Nat) row, row.length = l.length → ∀ (rc : Nat → Nat → List D → Option (Nat × List D)), W (fun K m => F K (rc K m) (mk i row.length row)) (fun r => r = fin i row)) (i0 : Nat) (hi : i0 < l.length) (hf : f (D.nth l i0) = true) (hb : ∀ x ∈ l.take i0, f x = false) :
    W (fun K _ => fixN (F K) K (mk i0 (i0 + 1) l)) (fun r => ∃ i row, r = fin i row ∧ i ≤ row.length ∧ row.length = l.length ∧ row.take i = l.filter (fun x => !f x)) := by
  refine W.rounds (S := Nat × Nat × List D) (fun s => mk s.1 s.2.1 s.2.2) (fun s => s.1 < s.2.1 ∧ s.2.1 ≤ l.length ∧ s.2.2.length = l.length ∧ s.2.2.drop s.2.1 = l.drop s.2.1 ∧ s.2.2.take s.1 = (l.take s.2.1).filter (fun x => !f x)) (fun s => l.length - s.2.1) (fun s hI rc ih => ?_) (i0, i0 + 1, l) ⟨by simp, hi, rfl, rfl, ?_⟩
  · obtain ⟨i, j, row⟩ := s
    obtain ⟨hij, hj, hlen, hd, ht⟩ := hI
    simp only at hij hj hlen hd ht
    by_cases hlt : j < l.length
    · have hjr : j < row.length := by omega
      have hnth : D.nth row j = D.nth l j := by
        have h1 := drop_nth hjr
        have h2 := drop_nth hlt
        rw [hd, h2] at h1
        exact (List.cons.inj h1).1.symm
      refine h1 i j row hij hjr hlen hnth _ rc (fun hf => ?_) (fun hf => ?_)
      · refine ih (i, j + 1, row) ⟨by simp only; omega, by simp only; omega, hlen, ?_, ?_⟩ (by simp only; omega)
        · have := congrArg (List.drop 1) hd
          simpa [List.drop_drop, Nat.add_comm] using this
        · simp only
          rw [ht, take_nth hlt, List.filter_append, ← hnth]
          simp [hf]
      · have hset : D.setNth row i (D.nth row j) = row.set i (D.nth row j) := setNth_eq _ (by omega)
        refine ih (i + 1, j + 1, D.setNth row i (D.nth row j)) ⟨by simp only; omega, by simp only; omega, by simp only [hset]; simpa using hlen, ?_, ?_⟩ (by simp only; omega)
        · simp only [hset]
          rw [List.drop_set_of_lt (by omega)]
          have := congrArg (List.drop 1) hd
          simpa [List.drop_drop, Nat.add_comm] using this
        · simp only [hset]
          rw [take_nth (by simp; omega), List.take_set_of_le (by omega), ht, take_nth hlt, List.filter_append, nth_eq (by simp; omega), ← hnth]
          simp [hf]
    · have : j = row.length := by omega
      subst this
      refine (h2 i row hlen rc).mono fun r hr => ⟨i, row, hr, by omega, hlen, ?_⟩
      rw [ht, List.take_of_length_le (by omega)]
  · simp only
    rw [take_nth hi, List.filter_append, filter_none hb]
    simp [hf]
/-! ### Scopes: the strings that are drawn, and which of them are right -/
def tenA : List UInt8 := [97, 58, 97, 58, 97, 58, 97, 58, 97, 58, 97, 58, 97, 58, 97, 58, 97, 58, 97, 58, 97]
def scR : List (List UInt8) := [[97], [97, 58, 42], [97, 58, 98], [97, 58, 98, 58, 42], [97, 58, 98, 58, 99], [98], [98, 58, 42], [98, 58, 99], [42], [99]]
def scB : List (List UInt8) := [[], [97, 58, 42, 58, 98], [65], [97, 58, 58, 98], [97, 58], [42, 42], [97, 42], tenA]
def sc : List (List UInt8) := scR ++ scB
def okS (a : List UInt8) : Bool := scR.contains a
theorem w_isScope {a : List UInt8} (ha : a ∈ sc) : W (fun K _ => f_token_isScope K (.s a)) (fun r => r = [.b (okS a)]) := by
  simp only [sc, scR, scB, List.cons_append, List.nil_append, List.mem_cons, List.not_mem_nil, or_false] at ha
  rcases ha with rfl | rfl | rfl | rfl | rfl | rfl | rfl | rfl | rfl | rfl | rfl | rfl | rfl | rfl | rfl | rfl | rfl | rfl <;>
    exact ⟨_, rfl, 40, fun K n hK _ => by obtain ⟨m, rfl⟩ : ∃ m, K = m + 40 := ⟨K - 40, by omega⟩; kernel_rfl⟩
theorem w_scope {a : List UInt8} (ha : a ∈ sc) : W (fun K _ => f_gateref2_scope K (.s a)) (fun r => r = [.b (okS a)]) := by
  simp only [sc, scR, scB, List.cons_append, List.nil_append, List.mem_cons, List.not_mem_nil, or_false] at ha
  rcases ha with rfl | rfl | rfl | rfl | rfl | rfl | rfl | rfl | rfl | rfl | rfl | rfl | rfl | rfl | rfl | rfl | rfl | rfl <;>
    exact ⟨_, rfl, 40, fun K n hK _ => by obtain ⟨m, rfl⟩ : ∃ m, K = m + 40 := ⟨K - 40, by omega⟩; kernel_rfl⟩
/-- Scopes as they are drawn. -/
def ScR (L : List (List UInt8)) : Prop := L.length ≤ 5 ∧ ∀ a ∈ L, a ∈ sc
def ScL (l : List D) : Prop := l = List.replicate 51 (.n []) ∨ ∃ L : List (List UInt8), l = L.map D.s ∧ ScR L
def fltS (l : List D) : Int := bif gtI l.length 50 then 2 else bif l.all fun x => okS x.str then 0 else 3
theorem ScL.len {l : List D} (h : ScL l) : l.length ≤ 51 := by
  rcases h with rfl | ⟨L, rfl, h, _⟩
  · simp
  · simp; omega
theorem fltS_val (l : List D) : fltS l = 0 ∨ fltS l = 2 ∨ fltS l = 3 := by
  unfold fltS
  cases gtI (l.length : Int) 50 with
  | true => exact .inr (.inl rfl)
  | false => cases l.all fun x => okS x.str with
    | true => exact .inl rfl
    | false => exact .inr (.inr rfl)
theorem flt_ok {l : List D} (h : ScL l) (h0 : fltS l = 0) : ∃ L : List (List UInt8), l = L.map D.s ∧ L.length ≤ 5 ∧ ∀ a ∈ L, a ∈ scR := by
  rcases h with rfl | ⟨L, rfl, h1, h2⟩
  · exfalso
    revert h0
    simp [fltS, gtI]
  · refine ⟨L, rfl, h1, fun a ha => ?_⟩
    unfold fltS at h0
    have hg : gtI ((L.map D.s).length : Int) 50 = false := by simp; omega
    rw [hg, cond_false] at h0
    cases hall : (L.map D.s).all fun x => okS x.str with
    | false => rw [hall] at h0; cases h0
    | true =>
      have := List.all_eq_true.1 hall (.s a) (List.mem_map_of_mem ha)
      simpa [okS] using this
theorem scan_all_D {α : Type} (l : List D) (p : D → Bool) (r fin : α) : scan (fun j => bif !p (D.nth l j) then some r else none) fin l.length 0 = bif l.all p then fin else r := by
  have := scan_any l (fun x => !p x) (fun _ => r) fin
  have hn : l.any (fun x => !p x) = !l.all p := by rw [List.not_all_eq_any_not]
  rcases this with ⟨h1, _, _, h2⟩ | ⟨h1, h2⟩
  · rw [h2]
    rw [hn] at h1
    have : l.all p = false := by simpa using h1
    rw [this]; rfl
  · rw [h2]
    rw [hn] at h1
    have : l.all p = true := by simpa using h1
    rw [this]; rfl
theorem w_CheckScopes {l : List D} (h : ScL l) : W (fun K _ => f_token_CheckScopes K (.n l)) (fun r => r = [.i (fltS l)]) := by
  unfold f_token_CheckScopes
  have hl := h.len
  simp only [D.list_n]
  refine W.cond (fun hg => W.ret (by rw [fltS, hg]; rfl)) (fun hg => ?_)
  have hs : ∃ L : List (List UInt8), l = L.map D.s ∧ ScR L := by
    rcases h with rfl | h
    · exfalso; simp [gtI] at hg
    · exact h
  obtain ⟨L, rfl, _, hL⟩ := hs
  refine W.bind (W.early (L.map D.s).length (fun j => [.n (L.map D.s), .i ((L.map D.s).length : Int), .i (j : Int)]) (fun j => bif !(fun x : D => okS x.str) (D.nth (L.map D.s) j) then some (0, [.i 3]) else none) (1, []) (fun j hj hp p rc h1 h2 => ?_) (fun rc => ?_)) ?_
  · unfold b_token_CheckScopes_0
    simp only [D.nth_zero, D.nth_succ, D.int_i, D.list_n, Int.toNat_natCast]
    have hj' : j < L.length := by simpa using hj
    simp only [nthS hj', D.str_s] at h1 h2 ⊢
    refine W.cond (fun _ => ?_) (fun h => by simp at h; omega)
    refine W.cond (fun _ => ?_) (fun h => by simp at h; omega)
    refine W.bind (w_isScope (hL _ (List.getElem_mem hj'))) ?_
    rintro _ rfl
    simp only [D.nth_zero, D.bool_b]
    refine W.cond (fun h => W.ret (h1 _ (by rw [h]; rfl))) (fun h => ?_)
    rw [wrap_i64 (by omega) (by simp at hl; omega)]
    exact h2 (by rw [h]; rfl)
  · unfold b_token_CheckScopes_0
    simp only [D.nth_zero, D.nth_succ, D.int_i]
    exact W.cond (fun h => by simp at h) (fun _ => W.ret rfl)
  · rintro _ rfl
    rw [scan_all_D (L.map D.s) (fun x => okS x.str)]
    unfold fltS
    rw [hg, cond_false]
    cases (L.map D.s).all fun x => okS x.str with
    | true => exact W.ret rfl
    | false => exact W.ret rfl
theorem w_ScopesFault {l : List D} (h : ScL l) : W (fun K _ => f_gateref2_ScopesFault K (.n l)) (fun r => r = [.i (fltS l)]) := by
  unfold f_gateref2_ScopesFault
  have hl := h.len
  simp only [D.list_n]
  refine W.cond (fun hg => W.ret (by rw [fltS, hg]; rfl)) (fun hg => ?_)
  have hs : ∃ L : List (List UInt8), l = L.map D.s ∧ ScR L := by
    rcases h with rfl | h
    · exfalso; simp [gtI] at hg
    · exact h
  obtain ⟨L, rfl, _, hL⟩ := hs
  refine W.bind (W.early (L.map D.s).length (fun j => [.n (L.map D.s), .i ((L.map D.s).length : Int), .i (j : Int)]) (fun j => bif !(fun x : D => okS x.str) (D.nth (L.map D.s) j) then some (0, [.i 3]) else none) (1, []) (fun j hj hp p rc h1 h2 => ?_) (fun rc => ?_)) ?_
  · unfold b_gateref2_ScopesFault_0
    simp only [D.nth_zero, D.nth_succ, D.int_i, D.list_n, Int.toNat_natCast]
    have hj' : j < L.length := by simpa using hj
    simp only [nthS hj', D.str_s] at h1 h2 ⊢
    refine W.cond (fun _ => ?_) (fun h => by simp at h; omega)
    refine W.cond (fun _ => ?_) (fun h => by simp at h; omega)
    refine W.bind (w_scope (hL _ (List.getElem_mem hj'))) ?_
    rintro _ rfl
    simp only [D.nth_zero, D.bool_b]
    refine W.cond (fun h => W.ret (h1 _ (by rw [h]; rfl))) (fun h => ?_)
    rw [wrap_i64 (by omega) (by simp at hl; omega)]
    exact h2 (by rw [h]; rfl)
  · unfold b_gateref2_ScopesFault_0
    simp only [D.nth_zero, D.nth_succ, D.int_i]
    exact W.cond (fun h => by simp at h) (fun _ => W.ret rfl)
  · rintro _ rfl
    rw [scan_all_D (L.map D.s) (fun x => okS x.str)]
    unfold fltS
    rw [hg, cond_false]
    cases (L.map D.s).all fun x => okS x.str with
    | true => exact W.ret rfl
    | false => exact W.ret rfl
/-! ### Drawing -/
theorem w_RightScopes (c : Int) (s : D) (hs : St c s) (hc : c ≤ 999999999900) : W (fun K _ => f_gatemake_Stream_RightScopes K s) (fun r => ∃ (s' : D) (L : List (List UInt8)), r = [s', .n (L.map D.s)] ∧ L.length ≤ 4 ∧ (∀ a ∈ L, a ∈ scR) ∧ St (c + 5) s') := by
  unfold f_gatemake_Stream_RightScopes
  refine W.bind (w_Range c 0 4 s hs (by omega) (by omega) (by omega)) ?_
  rintro _ ⟨n, s1, rfl, h1, h2, h3⟩
  have h2 := h2 (by omega)
  simp only [D.nth_zero, D.nth_succ]
  refine W.bind (p := fun r => ∃ (s' : D) (L : List (List UInt8)), r = (0, [s', .n (L.map D.s)]) ∧ L.length ≤ 4 ∧ (∀ a ∈ L, a ∈ scR) ∧ St (c + 5) s') ?_ ?_
  · refine W.rounds (S := Nat × D × List (List UInt8)) (fun q => [.i n, .i (q.1 : Int), q.2.1, .n (q.2.2.map D.s)]) (fun q => (q.1 : Int) ≤ n ∧ q.2.2.length = q.1 ∧ (∀ a ∈ q.2.2, a ∈ scR) ∧ St (c + 1 + q.1) q.2.1) (fun q => n.toNat - q.1) (fun q hI rc ih => ?_) (0, s1, []) ⟨by simpa using h1, by simp, by simp, by simpa using h3⟩
    obtain ⟨j, s2, L⟩ := q
    obtain ⟨a1, a2, a3, a4⟩ := hI
    simp only at a1 a2 a3 a4
    unfold b_gatemake_Stream_RightScopes_0
    simp only [D.nth_zero, D.nth_succ, D.int_i, D.list_n]
    refine W.cond (fun h => ?_) (fun h => ?_)
    · simp at h
      refine W.bind (w_Some _ s2 _ a4 (by omega) (by simp) (by simp)) ?_
      rintro _ ⟨x, s3, t, rfl, hx, b1⟩
      simp only [D.nth_zero, D.nth_succ]
      refine W.cond (fun _ => ?_) (fun h => absurd (lim_mk (n := (L.map D.s).length + 1) (by simp; omega)) (by rw [h]; simp))
      rw [wrap_i64 (by omega) (by omega)]
      have hxs : ∃ a, x = .s a ∧ a ∈ scR := by
        simp only [List.mem_cons, List.not_mem_nil, or_false] at hx
        rcases hx with rfl | rfl | rfl | rfl | rfl | rfl | rfl | rfl | rfl <;> exact ⟨_, rfl, by simp [scR]⟩
      obtain ⟨a, rfl, ha⟩ := hxs
      have := ih (j + 1, s3, L ++ [a]) ⟨by simp only; omega, by simp [a2], fun b hb => ?_, by simpa [Int.add_assoc] using b1⟩ (by simp only; omega)
      · simpa using this
      · rcases List.mem_append.1 hb with hb | hb
        · exact a3 b hb
        · simp at hb; subst hb; exact ha
    · simp at h
      exact W.ret ⟨s2, L, rfl, by omega, a3, a4.le (by omega)⟩
  · rintro _ ⟨s', L, rfl, g1, g2, g3⟩
    exact W.ret ⟨s', L, rfl, g1, g2, g3⟩
theorem w_Scope (c : Int) (s : D) (hs : St c s) (hc : c ≤ 999999999900) : W (fun K _ => f_gatemake_Stream_Scope K s) (fun r => ∃ s' a, r = [.s a, s'] ∧ a ∈ sc ∧ St (c + 2) s') := by
  unfold f_gatemake_Stream_Scope
  refine W.bind (w_Flip c _ s hs (by omega) (by simp)) ?_
  rintro _ ⟨b, s1, rfl, h1⟩
  simp only [D.nth_zero, D.nth_succ, D.bool_b]
  refine W.cond (fun _ => ?_) (fun _ => ?_)
  · refine W.bind (p := fun r => r = [.s [97, 58, 97, 58, 97, 58, 97, 58, 97, 58, 97, 58, 97, 58, 97, 58, 97, 58, 97, 58]]) ⟨_, rfl, 0, fun K n _ _ => by kernel_rfl⟩ ?_
    rintro _ rfl
    refine W.cond (fun _ => ?_) (fun h => absurd h (by simp only [D.nth_zero, D.str_s]; decide))
    refine W.bind (w_Some _ s1 _ h1 (by omega) (by simp) (by simp)) ?_
    rintro _ ⟨x, s2, t, rfl, hx, h2⟩
    simp only [D.nth_zero, D.nth_succ, D.str_s, List.mem_cons, List.not_mem_nil, or_false] at hx ⊢
    rcases hx with rfl | rfl | rfl | rfl | rfl | rfl | rfl | rfl <;> exact W.ret ⟨s2, _, rfl, by simp [sc, scR, scB, tenA], h2.le (by omega)⟩
  · refine W.bind (w_Some _ s1 _ h1 (by omega) (by simp) (by simp)) ?_
    rintro _ ⟨x, s2, t, rfl, hx, h2⟩
    simp only [D.nth_zero, D.nth_succ, List.mem_cons, List.not_mem_nil, or_false] at hx ⊢
    rcases hx with rfl | rfl | rfl | rfl | rfl | rfl | rfl | rfl | rfl | rfl <;> exact W.ret ⟨s2, _, rfl, by simp [sc, scR, scB], h2.le (by omega)⟩
theorem w_Scopes (c : Int) (s : D) (hs : St c s) (hc : c ≤ 999999990000) : W (fun K _ => f_gatemake_Stream_Scopes K s) (fun r => ∃ s' l, r = [s', .n l] ∧ ScL l ∧ St (c + 10) s') := by
  unfold f_gatemake_Stream_Scopes
  refine W.bind (w_RightScopes c s hs (by omega)) ?_
  rintro _ ⟨s1, L, rfl, h1, h2, h3⟩
  simp only [D.nth_zero, D.nth_succ, D.list_n]
  refine W.bind (w_Flip _ _ s1 h3 (by omega) (by simp)) ?_
  rintro _ ⟨b, s2, rfl, h4⟩
  simp only [D.nth_zero, D.nth_succ, D.bool_b]
  have hR : ∀ a ∈ L, a ∈ sc := fun a ha => List.mem_append_left _ (h2 a ha)
  refine W.cond (fun _ => ?_) (fun _ => ?_)
  · refine W.bind (w_Scope _ s2 h4 (by omega)) ?_
    rintro _ ⟨s3, a, rfl, ha, h5⟩
    simp only [D.nth_zero, D.nth_succ]
    refine W.cond (fun _ => ?_) (fun h => absurd (lim_mk (n := (L.map D.s).length + 1) (by simp; omega)) (by rw [h]; simp))
    refine W.bind (w_Flip _ _ s3 h5 (by omega) (by simp)) ?_
    rintro _ ⟨b2, s4, rfl, h6⟩
    simp only [D.nth_zero, D.nth_succ, D.bool_b]
    refine W.cond (fun _ => ?_) (fun _ => ?_)
    · exact W.cond (fun _ => W.ret ⟨s4, _, rfl, .inl rfl, h6.le (by omega)⟩) (fun h => absurd (lim_mk (n := 51) (by omega)) (by rw [h]; simp))
    · refine W.ret ⟨s4, _, rfl, .inr ⟨L ++ [a], by simp, by simp; omega, fun b hb => ?_⟩, h6.le (by omega)⟩
      rcases List.mem_append.1 hb with hb | hb
      · exact hR b hb
      · simp at hb; subst hb; exact ha
  · refine W.bind (w_Flip _ _ s2 h4 (by omega) (by simp)) ?_
    rintro _ ⟨b2, s4, rfl, h6⟩
    simp only [D.nth_zero, D.nth_succ, D.bool_b]
    refine W.cond (fun _ => ?_) (fun _ => ?_)
    · exact W.cond (fun _ => W.ret ⟨s4, _, rfl, .inl rfl, h6.le (by omega)⟩) (fun h => absurd (lim_mk (n := 51) (by omega)) (by rw [h]; simp))
    · exact W.ret ⟨s4, _, rfl, .inr ⟨L, rfl, by omega, hR⟩, h6.le (by omega)⟩
/-! ### What covers what -/
def starB (a : List UInt8) : Bool := bif geI (a.length : Int) 1 then (a.drop ((a.length : Int) - 1).toNat == [42]) else false
def headB (a : List UInt8) : List UInt8 := a.take ((a.length : Int) - 1).toNat
def preB (h b : List UInt8) : Bool := bif geI (b.length : Int) (h.length : Int) then (b.take h.length == h) else false
def cov (a b : List UInt8) : Bool := bif a == b then true else (bif starB a then preB (headB a) b else false)
def ovr (a b : List UInt8) : Bool := bif starB a then preB (headB a) b else a == b
theorem sc_len {a : List UInt8} (h : a ∈ sc) : a.length ≤ 21 := by
  have : (sc.all fun a => Nat.ble a.length 21) = true := by kernel_rfl
  exact Nat.le_of_ble_eq_true (List.all_eq_true.1 this a h)
theorem sc_ovr {a b : List UInt8} (ha : a ∈ sc) (hb : b ∈ sc) : ovr a b = cov a b := by
  have : (sc.all fun a => sc.all fun b => ovr a b == cov a b) = true := by kernel_rfl
  simpa using List.all_eq_true.1 (List.all_eq_true.1 this a ha) b hb
theorem scR_anti {a b : List UInt8} (ha : a ∈ scR) (hb : b ∈ scR) (h1 : cov a b = true) (h2 : cov b a = true) : a = b := by
  have : (scR.all fun a => scR.all fun b => (!(cov a b && cov b a)) || a == b) = true := by kernel_rfl
  have := List.all_eq_true.1 (List.all_eq_true.1 this a ha) b hb
  simpa [h1, h2] using this
theorem cov_refl (a : List UInt8) : cov a a = true := by simp [cov]
theorem w_CutSuffix (a : List UInt8) (ha : a.length ≤ 1000) : W (fun K _ => f_strings_CutSuffix K (.s a) (.s [42])) (fun r => r = bif starB a then [.s (headB a), .b true] else [.s a, .b false]) := by
  unfold f_strings_CutSuffix f_stringslite_CutSuffix f_stringslite_HasSuffix
  simp only [D.str_s]
  have e1 : IntKind.i64.wrap ((a.length : Int) - (([42] : List UInt8).length : Int)) = (a.length : Int) - 1 := by
    rw [show ((([42] : List UInt8).length : Nat) : Int) = 1 from rfl]
    exact wrap_i64 (by omega) (by omega)
  have e2 : ((([42] : List UInt8).length : Nat) : Int) = 1 := rfl
  rw [e1, e2]
  refine W.bind (p := fun r => r = bif starB a then [.s (headB a), .b true] else [.s a, .b false]) (W.bind (p := fun r => r = [.b (starB a)]) (W.cond (fun _ => W.ret rfl) (fun h => ?_)) ?_) ?_
  · exfalso
    cases hg : geI (a.length : Int) 1 with
    | false => rw [hg] at h; simp at h
    | true => rw [hg] at h; simp at h hg; omega
  · rintro _ rfl
    simp only [D.nth_zero, D.bool_b]
    refine W.cond (fun h => W.ret ?_) (fun h => ?_)
    · have : starB a = false := by simpa using h
      rw [this]; rfl
    · have : starB a = true := by simpa using h
      have hg : geI (a.length : Int) 1 = true := by
        unfold starB at this
        cases hg : geI (a.length : Int) 1 with
        | true => rfl
        | false => rw [hg] at this; cases this
      simp at hg
      refine W.cond (fun _ => W.ret ?_) (fun h => by simp at h; omega)
      rw [this]; rfl
  · rintro _ rfl
    cases starB a with
    | true => exact W.ret rfl
    | false => exact W.ret rfl
theorem w_HasPrefix (b h : List UInt8) : W (fun K _ => f_strings_HasPrefix K (.s b) (.s h)) (fun r => r = [.b (preB h b)]) := by
  unfold f_strings_HasPrefix f_stringslite_HasPrefix
  simp only [D.str_s]
  refine W.bind (p := fun r => r = [.b (preB h b)]) (W.cond (fun _ => W.ret rfl) (fun h2 => ?_)) ?_
  · exfalso
    cases hg : geI (b.length : Int) (h.length : Int) with
    | false => rw [hg] at h2; simp at h2
    | true => rw [hg] at h2; simp at h2 hg; omega
  · rintro _ rfl
    exact W.ret rfl
theorem w_covers (a b : List UInt8) (ha : a.length ≤ 1000) : W (fun K _ => f_token_covers K (.s a) (.s b)) (fun r => r = [.b (cov a b)]) := by
  unfold f_token_covers
  simp only [D.str_s]
  refine W.cond (fun h => W.ret (by rw [cov, h]; rfl)) (fun h => ?_)
  refine W.bind (w_CutSuffix a ha) ?_
  rintro _ rfl
  cases hs : starB a with
  | true =>
    simp only [cond_true, D.nth_zero, D.nth_succ, D.bool_b]
    refine W.bind (w_HasPrefix b _) ?_
    rintro _ rfl
    exact W.ret (by rw [cov, h, hs]; rfl)
  | false =>
    simp only [cond_false, D.nth_zero, D.nth_succ, D.bool_b]
    exact W.ret (by rw [cov, h, hs]; rfl)
theorem w_over (a b : List UInt8) (ha : a ∈ sc) (hb : b ∈ sc) : W (fun K _ => f_gateref2_over K (.s a) (.s b)) (fun r => r = [.b (cov a b)]) := by
  rw [← sc_ovr ha hb]
  have := sc_len ha
  unfold f_gateref2_over
  refine W.bind (w_CutSuffix a (by omega)) ?_
  rintro _ rfl
  cases hs : starB a with
  | true =>
    simp only [cond_true, D.nth_zero, D.nth_succ, D.bool_b]
    refine W.bind (w_HasPrefix b _) ?_
    rintro _ rfl
    exact W.ret (by rw [ovr, hs]; rfl)
  | false =>
    simp only [cond_false, D.nth_zero, D.nth_succ, D.bool_b]
    exact W.ret (by rw [ovr, hs]; rfl)
/-- Scopes in a list, not too many. -/
def Sm (L : List (List UInt8)) : Prop := L.length ≤ 1000 ∧ ∀ a ∈ L, a ∈ sc
theorem find_end {a : Nat → Nat → Option (Nat × List D)} {L : List (List UInt8)} {p : List UInt8 → Bool} (h : W a (fun r => (L.any p = true ∧ ∃ i : Nat, i < L.length ∧ r = (0, [.i (i : Int)])) ∨ (L.any p = false ∧ r = (1, [])))) :
    W (fun K n => ((a K n).bind fun t1 => bif t1.1.beq 0 then some [D.nth t1.2 0] else some [D.i (-1)]).bind fun t1 => some [D.b (geI ((D.nth t1 0).int) 0)]) (fun r => r = [.b (L.any p)]) := by
  refine W.bind (p := fun r => ∃ i : Int, r = [.i i] ∧ geI i 0 = L.any p) (W.bind h ?_) ?_
  · rintro _ (⟨h1, i, hi, rfl⟩ | ⟨h1, rfl⟩)
    · exact W.ret ⟨i, rfl, by rw [h1]; simp⟩
    · exact W.ret ⟨-1, rfl, by rw [h1]; simp [geI]⟩
  · rintro _ ⟨i, rfl, hi⟩
    exact W.ret (by rw [← hi]; rfl)
theorem w_coveredBy (L : List (List UInt8)) (s : List UInt8) (hL : Sm L) : W (fun K _ => f_token_coveredBy K (.n (L.map D.s)) (.s s)) (fun r => r = [.b (L.any fun h => cov h s)]) := by
  have h1000 := hL.1
  unfold f_token_coveredBy f_slices_ContainsFunc_string_of_token_coveredBy_f1 f_slices_IndexFunc_string_of_token_coveredBy_f1
  simp only [D.list_n, List.length_map]
  refine W.bind (p := fun r => r = [.b (L.any fun h => cov h s)]) (find_end (W.findS L (fun h => cov h s) (fun j => [.n (L.map D.s), .s s, .i (L.length : Int), .i (j : Int)]) (fun i => (0, [.i (i : Int)])) (1, []) (fun j hj q rc h1 h2 => ?_) (fun rc => ?_))) ?_
  · unfold b_slices_IndexFunc_string_of_token_coveredBy_f1_0 f_token_coveredBy_f1
    simp only [D.nth_zero, D.nth_succ, D.int_i, D.list_n, Int.toNat_natCast, nthS hj]
    refine W.cond (fun _ => ?_) (fun h => by simp at h; omega)
    refine W.cond (fun _ => ?_) (fun h => by simp at h; omega)
    refine W.bind (p := fun r => r = [.b (cov (L[j]'hj) s)]) (W.bind (w_covers _ _ (by have := sc_len (hL.2 _ (List.getElem_mem hj)); omega)) ?_) ?_
    · rintro _ rfl; exact W.ret rfl
    · rintro _ rfl
      simp only [D.nth_zero, D.bool_b]
      refine W.cond (fun h => W.ret (h1 h)) (fun h => ?_)
      rw [wrap_i64 (by omega) (by omega)]
      exact h2 h
  · unfold b_slices_IndexFunc_string_of_token_coveredBy_f1_0
    simp only [D.nth_zero, D.nth_succ, D.int_i]
    exact W.cond (fun h => by simp at h) (fun _ => W.ret rfl)
  · rintro _ rfl; exact W.ret rfl
theorem w_covered (L : List (List UInt8)) (s : List UInt8) (hL : Sm L) (hs : s ∈ sc) : W (fun K _ => f_gateref2_covered K (.n (L.map D.s)) (.s s)) (fun r => r = [.b (L.any fun h => cov h s)]) := by
  have h1000 := hL.1
  unfold f_gateref2_covered f_slices_ContainsFunc_string_of_gateref2_covered_f1 f_slices_IndexFunc_string_of_gateref2_covered_f1
  simp only [D.list_n, List.length_map]
  refine W.bind (p := fun r => r = [.b (L.any fun h => cov h s)]) (find_end (W.findS L (fun h => cov h s) (fun j => [.n (L.map D.s), .s s, .i (L.length : Int), .i (j : Int)]) (fun i => (0, [.i (i : Int)])) (1, []) (fun j hj q rc h1 h2 => ?_) (fun rc => ?_))) ?_
  · unfold b_slices_IndexFunc_string_of_gateref2_covered_f1_0 f_gateref2_covered_f1
    simp only [D.nth_zero, D.nth_succ, D.int_i, D.list_n, Int.toNat_natCast, nthS hj]
    refine W.cond (fun _ => ?_) (fun h => by simp at h; omega)
    refine W.cond (fun _ => ?_) (fun h => by simp at h; omega)
    refine W.bind (p := fun r => r = [.b (cov (L[j]'hj) s)]) (W.bind (w_over _ _ (hL.2 _ (List.getElem_mem hj)) hs) ?_) ?_
    · rintro _ rfl; exact W.ret rfl
    · rintro _ rfl
      simp only [D.nth_zero, D.bool_b]
      refine W.cond (fun h => W.ret (h1 h)) (fun h => ?_)
      rw [wrap_i64 (by omega) (by omega)]
      exact h2 h
  · unfold b_slices_IndexFunc_string_of_gateref2_covered_f1_0
    simp only [D.nth_zero, D.nth_succ, D.int_i]
    exact W.cond (fun h => by simp at h) (fun _ => W.ret rfl)
  · rintro _ rfl; exact W.ret rfl
def coversL (A B : List (List UInt8)) : Bool := !B.any fun s => !A.any fun h => cov h s
theorem w_coverAll (A B : List (List UInt8)) (hA : Sm A) (hB : Sm B) : W (fun K _ => f_token_coverAll K (.n (A.map D.s)) (.n (B.map D.s))) (fun r => r = [.b (coversL A B)]) := by
  have h1000 := hB.1
  unfold f_token_coverAll f_slices_ContainsFunc_string_of_token_coverAll_f1 f_slices_IndexFunc_string_of_token_coverAll_f1
  simp only [D.list_n, List.length_map]
  refine W.bind (find_end (W.findS B (fun s => !A.any fun h => cov h s) (fun j => [.n (B.map D.s), .n (A.map D.s), .i (B.length : Int), .i (j : Int)]) (fun i => (0, [.i (i : Int)])) (1, []) (fun j hj q rc h1 h2 => ?_) (fun rc => ?_))) ?_
  · unfold b_slices_IndexFunc_string_of_token_coverAll_f1_0 f_token_coverAll_f1
    simp only [D.nth_zero, D.nth_succ, D.int_i, D.list_n, Int.toNat_natCast, nthS hj]
    refine W.cond (fun _ => ?_) (fun h => by simp at h; omega)
    refine W.cond (fun _ => ?_) (fun h => by simp at h; omega)
    refine W.bind (p := fun r => r = [.b (!A.any fun h => cov h (B[j]'hj))]) (W.bind (w_coveredBy A _ hA) ?_) ?_
    · rintro _ rfl; exact W.ret rfl
    · rintro _ rfl
      simp only [D.nth_zero, D.bool_b]
      refine W.cond (fun h => W.ret (h1 h)) (fun h => ?_)
      rw [wrap_i64 (by omega) (by omega)]
      exact h2 h
  · unfold b_slices_IndexFunc_string_of_token_coverAll_f1_0
    simp only [D.nth_zero, D.nth_succ, D.int_i]
    exact W.cond (fun h => by simp at h) (fun _ => W.ret rfl)
  · rintro _ rfl; exact W.ret rfl
theorem w_CoversOf (A B : List (List UInt8)) (hA : Sm A) (hB : Sm B) : W (fun K _ => f_gateref2_CoversOf K (.n (A.map D.s)) (.n (B.map D.s))) (fun r => r = [.b (coversL A B)]) := by
  have h1000 := hB.1
  unfold f_gateref2_CoversOf f_slices_ContainsFunc_string_of_gateref2_CoversOf_f1 f_slices_IndexFunc_string_of_gateref2_CoversOf_f1
  simp only [D.list_n, List.length_map]
  refine W.bind (find_end (W.findS B (fun s => !A.any fun h => cov h s) (fun j => [.n (B.map D.s), .n (A.map D.s), .i (B.length : Int), .i (j : Int)]) (fun i => (0, [.i (i : Int)])) (1, []) (fun j hj q rc h1 h2 => ?_) (fun rc => ?_))) ?_
  · unfold b_slices_IndexFunc_string_of_gateref2_CoversOf_f1_0 f_gateref2_CoversOf_f1
    simp only [D.nth_zero, D.nth_succ, D.int_i, D.list_n, Int.toNat_natCast, nthS hj]
    refine W.cond (fun _ => ?_) (fun h => by simp at h; omega)
    refine W.cond (fun _ => ?_) (fun h => by simp at h; omega)
    refine W.bind (p := fun r => r = [.b (!A.any fun h => cov h (B[j]'hj))]) (W.bind (w_covered A _ hA (hB.2 _ (List.getElem_mem hj))) ?_) ?_
    · rintro _ rfl; exact W.ret rfl
    · rintro _ rfl
      simp only [D.nth_zero, D.bool_b]
      refine W.cond (fun h => W.ret (h1 h)) (fun h => ?_)
      rw [wrap_i64 (by omega) (by omega)]
      exact h2 h
  · unfold b_slices_IndexFunc_string_of_gateref2_CoversOf_f1_0
    simp only [D.nth_zero, D.nth_succ, D.int_i]
    exact W.cond (fun h => by simp at h) (fun _ => W.ret rfl)
  · rintro _ rfl; exact W.ret rfl
/-! ### The scopes that no other one covers -/
def lessB (M : List (List UInt8)) (s : List UInt8) : Bool := M.any fun h => bif !(h == s) then cov h s else false
def leastL (L : List (List UInt8)) : List (List UInt8) := (norm L).filter fun s => !lessB (norm L) s
theorem lessB_congr {L M : List (List UInt8)} (h : ∀ x, x ∈ L ↔ x ∈ M) (s : List UInt8) : lessB L s = lessB M s := by
  rw [Bool.eq_iff_iff]
  unfold lessB
  rw [List.any_eq_true, List.any_eq_true]
  constructor
  · rintro ⟨x, hx, hp⟩; exact ⟨x, (h x).1 hx, hp⟩
  · rintro ⟨x, hx, hp⟩; exact ⟨x, (h x).2 hx, hp⟩
theorem leastL_congr {L M : List (List UInt8)} (h : ∀ x, x ∈ L ↔ x ∈ M) : leastL L = leastL M := by unfold leastL; rw [norm_congr h]
theorem leastL_ref (L : List (List UInt8)) : norm (L.filter fun s => !lessB L s) = leastL L := by
  rw [norm_filter]
  unfold leastL
  congr 1
  funext s
  rw [lessB_congr (L := L) (M := norm L) (fun x => norm_mem.symm)]
theorem leastL_len (L : List (List UInt8)) : (leastL L).length ≤ L.length := Nat.le_trans (List.length_filter_le _ _) (norm_len L)
theorem leastL_mem {L : List (List UInt8)} {x : List UInt8} (h : x ∈ leastL L) : x ∈ L := norm_mem.1 (List.mem_filter.1 h).1
theorem Sm.norm {L : List (List UInt8)} (h : Sm L) : Sm (norm L) := ⟨Nat.le_trans (norm_len L) h.1, fun a ha => h.2 a (norm_mem.1 ha)⟩
/-- The first of some strings, and that it is the first. -/
theorem W.firstS {F : Nat → (List D → Option (Nat × List D)) → List D → Option (Nat × List D)} (L : List (List UInt8)) (p : List UInt8 → Bool) (mk : Nat → List D) (yes : Nat → Nat × List D) (no : Nat × List D)
    (h1 : ∀ j (hj : j < L.length), ∀ (q : Nat × List D → Prop) (rc : Nat → Nat → List D → Option (Nat × List D)), (p (L[j]'hj) = true → q (yes j)) → (p (L[j]'hj) = false → W (fun K m => rc K m (mk (j + 1))) q) → W (fun K m => F K (rc K m) (mk j)) q)
    (h2 : ∀ rc : Nat → Nat → List D → Option (Nat × List D), W (fun K m => F K (rc K m) (mk L.length)) (fun r => r = no)) :
    W (fun K _ => fixN (F K) K (mk 0)) (fun r => (∃ i, i < L.length ∧ (fun x : D => p x.str) (D.nth (L.map D.s) i) = true ∧ (∀ x ∈ (L.map D.s).take i, (fun x : D => p x.str) x = false) ∧ r = yes i) ∨ ((∀ x ∈ L.map D.s, (fun x : D => p x.str) x = false) ∧ r = no)) := by
  refine (W.early L.length mk (fun j => bif (fun x : D => p x.str) (D.nth (L.map D.s) j) then some (yes j) else none) no (fun j hj hp q rc g1 g2 => ?_) h2).mono fun r hr => ?_
  · refine h1 j hj q rc (fun h => g1 _ ?_) (fun h => g2 ?_)
    · simp only [nthS hj, D.str_s, h, cond_true]
    · simp only [nthS hj, D.str_s, h, cond_false]
  · subst hr
    rcases scan_cases (fun j => bif (fun x : D => p x.str) (D.nth (L.map D.s) j) then some (yes j) else none) no L.length 0 with ⟨i, r, g1, g2, g3, g4, g5⟩ | ⟨g1, g2⟩
    · have hi : i < L.length := by omega
      cases hp : (fun x : D => p x.str) (D.nth (L.map D.s) i) with
      | false => simp only [hp, cond_false] at g3; cases g3
      | true =>
        simp only [hp, cond_true, Option.some.injEq] at g3
        subst g3
        refine .inl ⟨i, hi, hp, fun x hx => ?_, g4⟩
        obtain ⟨k, hk, rfl⟩ := List.getElem_of_mem hx
        have hk' : k < i := by simp at hk; omega
        have := g5 k (Nat.zero_le _) hk'
        cases hp2 : (fun x : D => p x.str) (D.nth (L.map D.s) k) with
        | true => simp only [hp2, cond_true] at this; cases this
        | false =>
          rw [nth_eq (by simp; omega)] at hp2
          simpa [List.getElem_take] using hp2
    · refine .inr ⟨fun x hx => ?_, g2⟩
      obtain ⟨k, hk, rfl⟩ := List.getElem_of_mem hx
      have hk' : k < L.length := by simpa using hk
      have := g1 k (Nat.zero_le _) (by omega)
      cases hp2 : (fun x : D => p x.str) (D.nth (L.map D.s) k) with
      | true => simp only [hp2, cond_true] at this; cases this
      | false =>
        rw [nth_eq hk] at hp2
        exact hp2
theorem w_Clone (l : List D) (hl : l.length ≤ 1000000) : W (fun K _ => f_slices_Clone_string K (.n l)) (fun r => r = [.n l]) := by
  unfold f_slices_Clone_string b_slices_Clone_string_0
  simp only [D.nth_zero, D.list_n]
  refine W.bind (p := fun r => r = (0, [.n l])) (W.cond (fun _ => W.ret rfl) (fun h => absurd (lim_mk (n := 0 + l.length) (by omega)) (by rw [h]; simp))) ?_
  rintro _ rfl
  exact W.ret rfl
theorem w_SortS (L : List (List UInt8)) (hl : L.length ≤ 1000000) : W (fun _ _ => f_slices_Sort_string (.n (L.map D.s))) (fun r => r = [.n ((L.mergeSort fun x y => decide (x ≤ y)).map D.s)]) := by
  unfold f_slices_Sort_string sortG
  simp only [D.list_n, List.length_map]
  refine W.cond (fun _ => W.ret (by rw [sortS_map])) (fun h => ?_)
  rw [Nat.ble_eq_true_of_le (by omega)] at h
  cases h
theorem w_Rising (L : List (List UInt8)) (hl : L.length ≤ 1000000) : W (fun K _ => f_kit_Rising K (.n (L.map D.s))) (fun r => r = [.n ((norm L).map D.s)]) := by
  unfold f_kit_Rising
  refine W.bind (w_Clone _ (by simpa using hl)) ?_
  rintro _ rfl
  simp only [D.nth_zero, D.list_n]
  refine W.bind (w_SortS L hl) ?_
  rintro _ rfl
  simp only [D.nth_zero, D.list_n, p_slices_Compact_string]
  exact W.ret (by rw [compS_sort])
theorem w_least_f1 (M : List (List UInt8)) (s : List UInt8) (hM : Sm M) : W (fun K _ => f_token_least_f1 K (.s s) (.n (M.map D.s))) (fun r => r = [.b (lessB M s), .n (M.map D.s)]) := by
  have h1000 := hM.1
  unfold f_token_least_f1 f_slices_ContainsFunc_string_of_token_least_f1_f1 f_slices_IndexFunc_string_of_token_least_f1_f1
  simp only [D.list_n, List.length_map]
  refine W.bind (p := fun r => r = [.b (lessB M s)]) (find_end (W.findS M (fun h => bif !(h == s) then cov h s else false) (fun j => [.n (M.map D.s), .s s, .i (M.length : Int), .i (j : Int)]) (fun i => (0, [.i (i : Int)])) (1, []) (fun j hj q rc h1 h2 => ?_) (fun rc => ?_))) ?_
  · unfold b_slices_IndexFunc_string_of_token_least_f1_f1_0 f_token_least_f1_f1
    simp only [D.nth_zero, D.nth_succ, D.int_i, D.list_n, D.str_s, Int.toNat_natCast, nthS hj]
    refine W.cond (fun _ => ?_) (fun h => by simp at h; omega)
    refine W.cond (fun _ => ?_) (fun h => by simp at h; omega)
    refine W.bind (p := fun r => r = [.b (bif !((M[j]'hj) == s) then cov (M[j]'hj) s else false)]) (W.cond (fun h => ?_) (fun h => W.ret (by rw [h]; rfl))) ?_
    · refine W.bind (w_covers _ _ (by have := sc_len (hM.2 _ (List.getElem_mem hj)); omega)) ?_
      rintro _ rfl
      exact W.ret (by rw [h]; rfl)
    · rintro _ rfl
      simp only [D.nth_zero, D.bool_b]
      refine W.cond (fun h => W.ret (h1 h)) (fun h => ?_)
      rw [wrap_i64 (by omega) (by omega)]
      exact h2 h
  · unfold b_slices_IndexFunc_string_of_token_least_f1_f1_0
    simp only [D.nth_zero, D.nth_succ, D.int_i]
    exact W.cond (fun h => by simp at h) (fun _ => W.ret rfl)
  · rintro _ rfl; exact W.ret rfl
theorem w_DeleteS (M : List (List UInt8)) (hM : Sm M) : W (fun K _ => f_slices_DeleteFunc_string_of_token_least_f1 K (.n (M.map D.s)) (.n (M.map D.s))) (fun r => r = [.n ((M.filter fun s => !lessB M s).map D.s), .n (M.map D.s)]) := by
  have h1000 := hM.1
  unfold f_slices_DeleteFunc_string_of_token_least_f1 f_slices_IndexFunc_string_of_token_least_f1
  simp only [D.list_n, List.length_map]
  refine W.bind (p := fun r => (∃ i, i < M.length ∧ (fun x : D => lessB M x.str) (D.nth (M.map D.s) i) = true ∧ (∀ x ∈ (M.map D.s).take i, (fun x : D => lessB M x.str) x = false) ∧ r = [.i (i : Int), .n (M.map D.s)]) ∨ ((∀ x ∈ M.map D.s, (fun x : D => lessB M x.str) x = false) ∧ r = [.i (-1), .n (M.map D.s)])) (W.bind (W.firstS M (lessB M) (fun j => [.n (M.map D.s), .i (M.length : Int), .i (j : Int), .n (M.map D.s)]) (fun i => (0, [.i (i : Int), .n (M.map D.s)])) (1, [.n (M.map D.s)]) (fun j hj q rc h1 h2 => ?_) (fun rc => ?_)) ?_) ?_
  · unfold b_slices_IndexFunc_string_of_token_least_f1_0
    simp only [D.nth_zero, D.nth_succ, D.int_i, D.list_n, Int.toNat_natCast, nthS hj]
    refine W.cond (fun _ => ?_) (fun h => by simp at h; omega)
    refine W.cond (fun _ => ?_) (fun h => by simp at h; omega)
    refine W.bind (w_least_f1 M _ hM) ?_
    rintro _ rfl
    simp only [D.nth_zero, D.nth_succ, D.bool_b, D.list_n]
    refine W.cond (fun h => W.ret (h1 h)) (fun h => ?_)
    rw [wrap_i64 (by omega) (by omega)]
    exact h2 h
  · unfold b_slices_IndexFunc_string_of_token_least_f1_0
    simp only [D.nth_zero, D.nth_succ, D.int_i, D.list_n]
    exact W.cond (fun h => by simp at h) (fun _ => W.ret rfl)
  · rintro _ (⟨i, h1, h2, h3, rfl⟩ | ⟨h1, rfl⟩)
    · exact W.ret (.inl ⟨i, h1, h2, h3, rfl⟩)
    · exact W.ret (.inr ⟨h1, rfl⟩)
  · rintro _ (⟨i, h1, h2, h3, rfl⟩ | ⟨h1, rfl⟩)
    · simp only [D.nth_zero, D.nth_succ, D.int_i, D.list_n]
      refine W.cond (fun h => by simp at h) (fun _ => ?_)
      have e1 : IntKind.i64.wrap ((i : Int) + 1) = ((i + 1 : Nat) : Int) := by rw [wrap_i64 (by omega) (by omega)]; simp
      rw [e1]
      refine W.bind (W.deleteW (fun x => lessB M x.str) (fun i j row => [.i (i : Int), .i (j : Int), .n row, .n (M.map D.s)]) (fun i row => (0, [.i (i : Int), .n row, .n (M.map D.s)])) (M.map D.s) ?_ ?_ i (by simpa using h1) h2 h3) ?_
      · intro i j row hij hj hlen hnth p rc g1 g2
        have hj' : j < M.length := by simpa [hlen] using hj
        unfold b_slices_DeleteFunc_string_of_token_least_f1_0
        simp only [D.nth_zero, D.nth_succ, D.int_i, D.list_n, Int.toNat_natCast]
        refine W.cond (fun _ => ?_) (fun h => by simp at h; omega)
        refine W.cond (fun _ => ?_) (fun h => by simp at h; omega)
        rw [hnth, nthS hj'] at g1 g2 ⊢
        refine W.bind (w_least_f1 M _ hM) ?_
        rintro _ rfl
        simp only [D.nth_zero, D.nth_succ, D.bool_b, D.list_n, D.str_s] at g1 g2 ⊢
        have e2 : IntKind.i64.wrap ((i : Int) + 1) = ((i + 1 : Nat) : Int) := by rw [wrap_i64 (by omega) (by omega)]; simp
        have e3 : IntKind.i64.wrap ((j : Int) + 1) = ((j + 1 : Nat) : Int) := by rw [wrap_i64 (by omega) (by omega)]; simp
        rw [e2, e3]
        refine W.cond (fun h => ?_) (fun h => g1 (by simpa using h))
        refine W.cond (fun _ => g2 (by simpa using h)) (fun h => by simp at h; omega)
      · intro i row hlen rc
        unfold b_slices_DeleteFunc_string_of_token_least_f1_0
        simp only [D.nth_zero, D.nth_succ, D.int_i, D.list_n]
        exact W.cond (fun h => by simp at h) (fun _ => W.ret rfl)
      · rintro _ ⟨i', row, rfl, h5, h6, h7⟩
        have hin : inB (i' : Int) (row.length + 1) = true := inB_mk (by omega) (by omega)
        rw [filter_mapS M (fun s => !lessB M s)] at h7
        refine W.congr (b := fun _ _ => some [.n (row.take i'), .n (M.map D.s)]) (W.ret (by rw [h7])) fun K n => ?_
        have hmin : min i' row.length = i' := by omega
        have hin2 : inB (i' : Int) (i' + (row.length - i') + 1) = true := inB_mk (by omega) (by omega)
        simp [clearRow, hin, hmin, hin2]
    · refine W.cond (fun _ => W.ret ?_) (fun h => by simp at h)
      have := filter_none h1
      rw [filter_mapS M (fun s => !lessB M s)] at this
      rw [this]
      rfl
theorem w_least (L : List (List UInt8)) (hL : Sm L) : W (fun K _ => f_token_least K (.n (L.map D.s))) (fun r => r = [.n ((leastL L).map D.s)]) := by
  have h1000 := hL.1
  have hn := hL.norm
  unfold f_token_least
  refine W.bind (w_Rising L (by omega)) ?_
  rintro _ rfl
  simp only [D.nth_zero, D.list_n]
  refine W.bind (w_Clone _ (by have := hn.1; simp; omega)) ?_
  rintro _ rfl
  simp only [D.nth_zero, D.list_n]
  refine W.bind (w_DeleteS _ hn) ?_
  rintro _ rfl
  exact W.ret rfl
theorem foldl_filter (p : D → Bool) : ∀ (l acc : List D), l.foldl (fun s x => bif p x then s ++ [x] else s) acc = acc ++ l.filter p
  | [], acc => by simp
  | x :: l, acc => by
    cases h : p x <;> simp [h, foldl_filter p l]
theorem w_LeastOf (L : List (List UInt8)) (hL : Sm L) : W (fun K _ => f_gateref2_LeastOf K (.n (L.map D.s))) (fun r => r = [.n ((leastL L).map D.s)]) := by
  have h1000 := hL.1
  unfold f_gateref2_LeastOf
  simp only [D.list_n, List.length_map]
  refine W.bind (p := fun r => r = (0, [.n ((L.filter fun s => !lessB L s).map D.s)])) (W.foldl (S := List D) (L.map D.s) (fun j s => [.n (L.map D.s), .n (L.map D.s), .i (L.length : Int), .i (j : Int), .n s]) (fun s x => bif (fun x : D => !lessB L x.str) x then s ++ [x] else s) [] (fun j s hj hs hW => ?_) ?_) ?_
  · have hj' : j < L.length := by simpa using hj
    have hsl : s.length ≤ 1000 := by
      rw [hs, foldl_filter]
      have := List.length_filter_le (fun x : D => !lessB L x.str) ((L.map D.s).take j)
      simp at this ⊢
      omega
    rw [nthS hj'] at hW
    unfold b_gateref2_LeastOf_0
    simp only [D.nth_zero, D.nth_succ, D.int_i, D.list_n, Int.toNat_natCast, nthS hj']
    refine W.cond (fun _ => ?_) (fun h => by simp at h; omega)
    refine W.cond (fun _ => ?_) (fun h => by simp at h; omega)
    have e1 : IntKind.i64.wrap ((j : Int) + 1) = ((j + 1 : Nat) : Int) := by rw [wrap_i64 (by omega) (by omega)]; simp
    rw [e1]
    refine W.bind (p := fun r => r = [.b (lessB L (L[j]'hj')), .s (L[j]'hj')]) ?_ ?_
    · unfold f_slices_ContainsFunc_string_of_gateref2_LeastOf_f1 f_slices_IndexFunc_string_of_gateref2_LeastOf_f1
      simp only [D.list_n, List.length_map]
      refine W.bind (p := fun r => ∃ i : Int, r = [.i i, .s (L[j]'hj')] ∧ geI i 0 = lessB L (L[j]'hj')) (W.bind (W.findS L (fun h => bif !(h == (L[j]'hj')) then cov h (L[j]'hj') else false) (fun k => [.n (L.map D.s), .i (L.length : Int), .i (k : Int), .s (L[j]'hj')]) (fun i => (0, [.i (i : Int), .s (L[j]'hj')])) (1, [.s (L[j]'hj')]) (fun k hk q rc h1 h2 => ?_) (fun rc => ?_)) ?_) ?_
      · unfold b_slices_IndexFunc_string_of_gateref2_LeastOf_f1_0 f_gateref2_LeastOf_f1
        simp only [D.nth_zero, D.nth_succ, D.int_i, D.list_n, D.str_s, Int.toNat_natCast, nthS hk]
        refine W.cond (fun _ => ?_) (fun h => by simp at h; omega)
        refine W.cond (fun _ => ?_) (fun h => by simp at h; omega)
        refine W.bind (p := fun r => r = [.b (bif !((L[k]'hk) == (L[j]'hj')) then cov (L[k]'hk) (L[j]'hj') else false), .s (L[j]'hj')]) (W.cond (fun h => ?_) (fun h => W.ret (by rw [h]; rfl))) ?_
        · refine W.bind (w_over _ _ (hL.2 _ (List.getElem_mem hk)) (hL.2 _ (List.getElem_mem hj'))) ?_
          rintro _ rfl
          exact W.ret (by rw [h]; rfl)
        · rintro _ rfl
          simp only [D.nth_zero, D.nth_succ, D.bool_b]
          refine W.cond (fun h => W.ret (h1 h)) (fun h => ?_)
          rw [wrap_i64 (by omega) (by omega)]
          exact h2 h
      · unfold b_slices_IndexFunc_string_of_gateref2_LeastOf_f1_0
        simp only [D.nth_zero, D.nth_succ, D.int_i]
        exact W.cond (fun h => by simp at h) (fun _ => W.ret rfl)
      · rintro _ (⟨h1, i, hi, rfl⟩ | ⟨h1, rfl⟩)
        · exact W.ret ⟨i, rfl, by unfold lessB; rw [h1]; simp⟩
        · exact W.ret ⟨-1, rfl, by unfold lessB; rw [h1]; simp [geI]⟩
      · rintro _ ⟨i, rfl, hi⟩
        exact W.ret (by rw [← hi]; rfl)
    · rintro _ rfl
      simp only [D.nth_zero, D.nth_succ, D.bool_b]
      refine W.cond (fun h => ?_) (fun h => ?_)
      · refine W.cond (fun _ => ?_) (fun h => absurd (lim_mk (n := s.length + 1) (by omega)) (by rw [h]; simp))
        simp only [D.str_s, h, cond_true] at hW
        exact hW
      · simp only [D.str_s, h, cond_false] at hW
        exact hW
  · unfold b_gateref2_LeastOf_0
    simp only [D.nth_zero, D.nth_succ, D.int_i, D.list_n, List.length_map]
    refine W.cond (fun h => by simp at h) (fun _ => W.ret ?_)
    rw [foldl_filter, List.nil_append, filter_mapS L (fun s => !lessB L s)]
  · rintro _ rfl
    simp only [D.nth_zero, D.list_n]
    have hf := List.length_filter_le (fun s => !lessB L s) L
    refine W.bind (w_SortS _ (by omega)) ?_
    rintro _ rfl
    simp only [D.nth_zero, D.list_n, p_slices_Compact_string]
    exact W.ret (by rw [compS_sort, leastL_ref])
theorem signed : W (fun K _ => f_gatelaw2_signed K) (· = [.b true]) :=
  ⟨_, rfl, 20, fun K n hK hn => by
    obtain ⟨m, rfl⟩ : ∃ m, K = m + 20 := ⟨K - 20, by omega⟩
    kernel_rfl⟩
/-! ### Claims -/
/-- Strings that rise: the first fault, if any. -/
def ordS (A : List (List UInt8)) (j : Nat) : Bool := bif gtI (j : Int) 0 then (Op.bytesLess (A.getD j []) (A.getD (j - 1) []) || (A.getD j []) == (A.getD (j - 1) [])) else false
def risE (A : List (List UInt8)) (j : Nat) : Option Int := bif !keyB (A.getD j []) then some 5 else bif ordS A j then some 7 else none
def risO (A : List (List UInt8)) : Option Int := scan (fun j => (risE A j).map some) none A.length 0
theorem scan_map {α : Type} (e : Nat → Option Int) (g : Int → α) (fin : α) : ∀ (m j : Nat), scan (fun j => (e j).map g) fin m j = match scan (fun j => (e j).map some) none m j with | some r => g r | none => fin
  | 0, _ => rfl
  | m + 1, j => by
    simp only [scan]
    cases h : e j with
    | some r => rfl
    | none => exact scan_map e g fin m (j + 1)
theorem risO_ne {A : List (List UInt8)} {r : Int} (h : risO A = some r) : (r != 0) = true := by
  unfold risO at h
  rcases scan_cases (fun j => (risE A j).map some) none A.length 0 with ⟨i, r', h1, h2, h3, h4, h5⟩ | ⟨h1, h2⟩
  · rw [h4] at h
    subst h
    unfold risE at h3
    cases hk : !keyB (A.getD i []) with
    | true => rw [hk] at h3; simp at h3; subst h3; rfl
    | false =>
      cases ho : ordS A i with
      | true => rw [hk, ho] at h3; simp at h3; subst h3; rfl
      | false => rw [hk, ho] at h3; simp at h3
  · rw [h2] at h; cases h
theorem getD_nth {A : List (List UInt8)} {j : Nat} (hj : j < A.length) : D.nth (A.map D.s) j = .s (A.getD j []) := by
  rw [nthS hj, List.getD_eq_getElem?_getD, List.getElem?_eq_getElem hj]; rfl
def Aud (A : List (List UInt8)) : Prop := A.length ≤ 100 ∧ ∀ a ∈ A, a.length ≤ 1000
theorem Aud.get {A : List (List UInt8)} (h : Aud A) {j : Nat} (hj : j < A.length) : (A.getD j []).length ≤ 1000 := by
  rw [List.getD_eq_getElem?_getD, List.getElem?_eq_getElem hj]
  exact h.2 _ (List.getElem_mem hj)
theorem w_RisingFault (A : List (List UInt8)) (hA : Aud A) : W (fun K _ => f_kit_RisingFault K (.n (A.map D.s))) (fun r => r = [.i ((risO A).getD 0)]) := by
  have hl := hA.1
  unfold f_kit_RisingFault
  simp only [D.list_n, List.length_map]
  refine W.bind (W.early A.length (fun j => [.n (A.map D.s), .n (A.map D.s), .i (A.length : Int), .i (j : Int)]) (fun j => (risE A j).map fun r => (0, [.i r])) (1, []) (fun j hj hp p rc h1 h2 => ?_) (fun rc => ?_)) ?_
  · unfold b_kit_RisingFault_0
    have e1 : IntKind.i64.wrap ((j : Int) - 1) = (j : Int) - 1 := wrap_i64 (by omega) (by omega)
    simp only [D.nth_zero, D.nth_succ, D.int_i, D.list_n, Int.toNat_natCast, getD_nth hj, e1, List.length_map]
    refine W.cond (fun _ => ?_) (fun h => by simp at h; omega)
    refine W.cond (fun _ => ?_) (fun h => by simp at h; omega)
    refine W.bind (w_IsKey _ (by have := hA.get hj; omega)) ?_
    rintro _ rfl
    simp only [D.nth_zero, D.bool_b]
    refine W.cond (fun h => W.ret (h1 _ (by unfold risE; rw [h]; rfl))) (fun h => ?_)
    refine W.cond (fun _ => ?_) (fun h2 => ?_)
    · have e2 : (bif gtI (j : Int) 0 then (Op.bytesLess (D.s (A.getD j [])).str (D.nth (A.map D.s) ((j : Int) - 1).toNat).str || ((D.s (A.getD j [])).str == (D.nth (A.map D.s) ((j : Int) - 1).toNat).str)) else false) = ordS A j := by
        unfold ordS
        rw [show ((j : Int) - 1).toNat = j - 1 by omega, getD_nth (by omega)]
        rfl
      rw [e2]
      refine W.cond (fun h3 => W.ret (h1 _ (by unfold risE; rw [h, h3]; rfl))) (fun h3 => ?_)
      rw [wrap_i64 (by omega) (by omega)]
      exact h2 (by unfold risE; rw [h, h3]; rfl)
    · exfalso
      cases hg : gtI (j : Int) 0 with
      | false => rw [hg] at h2; simp at h2
      | true => rw [hg] at h2; simp at h2 hg; omega
  · unfold b_kit_RisingFault_0
    simp only [D.nth_zero, D.nth_succ, D.int_i]
    exact W.cond (fun h => by simp at h) (fun _ => W.ret rfl)
  · rintro _ rfl
    rw [scan_map (risE A) (fun r => ((0, [.i r]) : Nat × List D)) (1, [])]
    unfold risO
    cases scan (fun j => (risE A j).map some) none A.length 0 with
    | some r => exact W.ret rfl
    | none => exact W.ret rfl
theorem w_Equal2 (A B : List (List UInt8)) (hA : A.length ≤ 1000) : W (fun K _ => f_slices_Equal_string K (.n (A.map D.s)) (.n (B.map D.s))) (fun r => r = [.b (A == B)]) := by
  unfold f_slices_Equal_string
  simp only [D.list_n, List.length_map]
  refine W.cond (fun h => W.ret ?_) (fun h => ?_)
  · have : (A == B) = false := by
      cases hab : A == B with
      | false => rfl
      | true => have := eq_of_beq hab; subst this; simp at h
    rw [this]
  have hlen : A.length = B.length := by simp at h; omega
  refine W.bind (W.early A.length (fun j => [.n (A.map D.s), .n (B.map D.s), .i (A.length : Int), .i (j : Int)]) (fun j => bif !(A.getD j [] == B.getD j []) then some (0, [.b false]) else none) (1, []) (fun j hj hp p rc h1 h2 => ?_) (fun rc => ?_)) ?_
  · unfold b_slices_Equal_string_0
    simp only [D.nth_zero, D.nth_succ, D.list_n, D.int_i, Int.toNat_natCast, getD_nth hj, getD_nth (A := B) (j := j) (by omega), List.length_map, D.str_s]
    refine W.cond (fun _ => ?_) (fun h => by simp at h; omega)
    refine W.cond (fun _ => ?_) (fun h => by simp at h; omega)
    refine W.cond (fun _ => ?_) (fun h => by simp at h; omega)
    refine W.cond (fun h => W.ret (h1 _ (by rw [h]; rfl))) (fun h => ?_)
    rw [wrap_i64 (by omega) (by omega)]
    exact h2 (by rw [h]; rfl)
  · unfold b_slices_Equal_string_0
    simp only [D.nth_zero, D.nth_succ, D.list_n, D.int_i]
    exact W.cond (fun h => by simp at h) (fun _ => W.ret rfl)
  · rintro _ rfl
    rcases scan_cases (fun j => bif !(A.getD j [] == B.getD j []) then some ((0, [.b false]) : Nat × List D) else none) (1, []) A.length 0 with ⟨i, r, h1, h2, h3, h4, _⟩ | ⟨h1, h2⟩
    · rw [h4]
      have hne : (A == B) = false := by
        cases hab : A == B with
        | false => rfl
        | true => have := eq_of_beq hab; subst this; simp at h3
      cases hb : (A.getD i [] == B.getD i []) with
      | true => rw [hb] at h3; simp at h3
      | false =>
        rw [hb] at h3
        simp at h3
        subst h3
        exact W.ret (by rw [hne]; rfl)
    · rw [h2]
      have : A = B := by
        refine List.ext_getElem hlen fun i hi1 hi2 => ?_
        have := h1 i (Nat.zero_le _) (by omega)
        cases hb : (A.getD i [] == B.getD i []) with
        | false => rw [hb] at this; simp at this
        | true =>
          have := eq_of_beq hb
          simpa [List.getD_eq_getElem?_getD, List.getElem?_eq_getElem hi1, List.getElem?_eq_getElem hi2] using this
      subst this
      exact W.ret (by simp)
def bad4 (a b c d : List UInt8) : Bool := bif !(!keyB a) then (bif !(!keyB b) then (bif !(!keyB c) then (bif !(d == []) then !keyB d else false) else true) else true) else true
def timeB (x y : Int) : Bool := bif (bif (bif (ltI x 0) then true else (geI x y)) then true else (gtI y 345686400000)) then true else false
def clF (a b c d : List UInt8) (A : List (List UInt8)) (l : List D) (x y : Int) : Int :=
  bif bad4 a b c d then 5 else bif gtI (A.length : Int) 50 then 2 else match risO A with
    | some r => r
    | none => bif fltS l != 0 then fltS l else bif !(l.map D.str == leastL (l.map D.str)) then 7 else bif timeB x y then 1 else 0
def Cl (x : D) : Prop := ∃ a b c d A l fr tm, x = .n [.s a, .s b, .s c, .s d, .n (A.map D.s), .n l, .i fr, .i tm] ∧ a.length ≤ 1000 ∧ b.length ≤ 1000 ∧ c.length ≤ 1000 ∧ d.length ≤ 1000 ∧ Aud A ∧ ScL l
theorem w_CheckClaims (a b c d : List UInt8) (A : List (List UInt8)) (l : List D) (fr tm : Int) (ha : a.length ≤ 1000) (hb : b.length ≤ 1000) (hc : c.length ≤ 1000) (hd : d.length ≤ 1000) (hA : Aud A) (hl : ScL l) :
    W (fun K _ => f_token_CheckClaims K (.n [.s a, .s b, .s c, .s d, .n (A.map D.s), .n l, .i fr, .i tm])) (fun r => r = [.i (clF a b c d A l fr tm)]) := by
  unfold f_token_CheckClaims
  refine W.bind (p := fun r => r = (0, [.b (bad4 a b c d)])) ?_ ?_
  · unfold b_token_CheckClaims_0
    simp only [D.nth_zero, D.nth_succ, D.at_n]
    refine W.bind (w_IsKey a (by omega)) ?_
    rintro _ rfl
    simp only [D.nth_zero, D.bool_b]
    refine W.cond (fun h1 => ?_) (fun h1 => W.ret (by rw [bad4, h1]; rfl))
    refine W.bind (w_IsKey b (by omega)) ?_
    rintro _ rfl
    simp only [D.nth_zero, D.bool_b]
    refine W.cond (fun h2 => ?_) (fun h2 => W.ret (by rw [bad4, h1, h2]; rfl))
    refine W.bind (w_IsKey c (by omega)) ?_
    rintro _ rfl
    simp only [D.nth_zero, D.bool_b, D.str_s]
    refine W.cond (fun h3 => ?_) (fun h3 => W.ret (by rw [bad4, h1, h2, h3]; rfl))
    refine W.cond (fun h4 => ?_) (fun h4 => W.ret (by rw [bad4, h1, h2, h3, h4]; rfl))
    refine W.bind (w_IsKey d (by omega)) ?_
    rintro _ rfl
    exact W.ret (by rw [bad4, h1, h2, h3, h4]; rfl)
  rintro _ rfl
  simp only [D.nth_zero, D.nth_succ, D.at_n, D.bool_b, D.list_n, D.int_i, List.length_map]
  refine W.cond (fun h => W.ret (by rw [clF, h]; rfl)) (fun h5 => ?_)
  refine W.cond (fun h => W.ret (by rw [clF, h5, h]; rfl)) (fun h6 => ?_)
  refine W.bind (w_RisingFault A hA) ?_
  rintro _ rfl
  simp only [D.nth_zero, D.int_i]
  cases hr : risO A with
  | some r =>
    have hne := risO_ne hr
    refine W.cond (fun _ => W.ret (by rw [clF, h5, h6, hr]; rfl)) (fun h => ?_)
    simp only [Option.getD_some] at h
    rw [hne] at h; cases h
  | none =>
    refine W.cond (fun h => by simp at h) (fun _ => ?_)
    refine W.bind (w_CheckScopes hl) ?_
    rintro _ rfl
    simp only [D.nth_zero, D.int_i]
    refine W.cond (fun h => W.ret (by rw [clF, h5, h6, hr]; simp only [cond_false, h, cond_true])) (fun h7 => ?_)
    have h0 : fltS l = 0 := by simpa using h7
    obtain ⟨L, rfl, hL1, hL2⟩ := flt_ok hl h0
    refine W.bind (w_least L (⟨by omega, fun x hx => List.mem_append_left _ (hL2 x hx)⟩)) ?_
    rintro _ rfl
    simp only [D.nth_zero, D.list_n]
    refine W.bind (w_Equal2 L _ (by omega)) ?_
    rintro _ rfl
    simp only [D.nth_zero, D.bool_b]
    refine W.cond (fun h => W.ret (by rw [clF, h5, h6, hr, str_map]; simp only [cond_false, h7, h, cond_true])) (fun h8 => ?_)
    refine W.cond (fun h => W.ret (by rw [clF, h5, h6, hr, str_map]; simp only [cond_false, h7, h8, timeB, h, cond_true])) (fun h => W.ret (by rw [clF, h5, h6, hr, str_map]; simp only [cond_false, h7, h8, timeB, h]))
theorem beq_swap (A B : List (List UInt8)) : (A == B) = (B == A) := by
  rw [Bool.eq_iff_iff, beq_iff_eq, beq_iff_eq]
  exact eq_comm
theorem w_ClaimsFault (a b c d : List UInt8) (A : List (List UInt8)) (l : List D) (fr tm : Int) (ha : a.length ≤ 1000) (hb : b.length ≤ 1000) (hc : c.length ≤ 1000) (hd : d.length ≤ 1000) (hA : Aud A) (hl : ScL l) :
    W (fun K _ => f_gateref2_ClaimsFault K (.n [.s a, .s b, .s c, .s d, .n (A.map D.s), .n l, .i fr, .i tm])) (fun r => r = [.i (clF a b c d A l fr tm)]) := by
  have hAl := hA.1
  unfold f_gateref2_ClaimsFault
  refine W.bind (p := fun r => r = (0, [.b (bad4 a b c d)])) ?_ ?_
  · unfold b_gateref2_ClaimsFault_0
    simp only [D.nth_zero, D.nth_succ, D.at_n]
    refine W.bind (w_Key a (by omega)) ?_
    rintro _ rfl
    simp only [D.nth_zero, D.bool_b]
    refine W.cond (fun h1 => ?_) (fun h1 => W.ret (by rw [bad4, h1]; rfl))
    refine W.bind (w_Key b (by omega)) ?_
    rintro _ rfl
    simp only [D.nth_zero, D.bool_b]
    refine W.cond (fun h2 => ?_) (fun h2 => W.ret (by rw [bad4, h1, h2]; rfl))
    refine W.bind (w_Key c (by omega)) ?_
    rintro _ rfl
    simp only [D.nth_zero, D.bool_b, D.str_s]
    refine W.cond (fun h3 => ?_) (fun h3 => W.ret (by rw [bad4, h1, h2, h3]; rfl))
    refine W.cond (fun h4 => ?_) (fun h4 => W.ret (by rw [bad4, h1, h2, h3, h4]; rfl))
    refine W.bind (w_Key d (by omega)) ?_
    rintro _ rfl
    exact W.ret (by rw [bad4, h1, h2, h3, h4]; rfl)
  rintro _ rfl
  simp only [D.nth_zero, D.nth_succ, D.at_n, D.bool_b, D.list_n, D.int_i, List.length_map]
  refine W.cond (fun h => W.ret (by rw [clF, h]; rfl)) (fun h5 => ?_)
  refine W.cond (fun h => W.ret (by rw [clF, h5, h]; rfl)) (fun h6 => ?_)
  refine W.bind (p := fun r => r = match risO A with | some r => (0, [.i r]) | none => (1, [])) ?_ ?_
  · refine (W.early A.length (fun j => [.n [.s a, .s b, .s c, .s d, .n (A.map D.s), .n l, .i fr, .i tm], .n (A.map D.s), .i (A.length : Int), .i (j : Int)]) (fun j => (risE A j).map fun r => (0, [.i r])) (1, []) (fun j hj hp p rc h1 h2 => ?_) (fun rc => ?_)).mono fun r hr => hr.trans (scan_map (risE A) (fun r => ((0, [.i r]) : Nat × List D)) (1, []) A.length 0)
    · unfold b_gateref2_ClaimsFault_1
      have e1 : IntKind.i64.wrap ((j : Int) - 1) = (j : Int) - 1 := wrap_i64 (by omega) (by omega)
      simp only [D.nth_zero, D.nth_succ, D.at_n, D.int_i, D.list_n, Int.toNat_natCast, getD_nth hj, e1, List.length_map]
      refine W.cond (fun _ => ?_) (fun h => by simp at h; omega)
      refine W.cond (fun _ => ?_) (fun h => by simp at h; omega)
      refine W.bind (w_Key _ (by have := hA.get hj; omega)) ?_
      rintro _ rfl
      simp only [D.nth_zero, D.bool_b]
      refine W.cond (fun h => W.ret (h1 _ (by unfold risE; rw [h]; rfl))) (fun h => ?_)
      refine W.cond (fun _ => ?_) (fun h2 => ?_)
      · have e2 : (bif gtI (j : Int) 0 then (Op.bytesLess (D.s (A.getD j [])).str (D.nth (A.map D.s) ((j : Int) - 1).toNat).str || ((D.s (A.getD j [])).str == (D.nth (A.map D.s) ((j : Int) - 1).toNat).str)) else false) = ordS A j := by
          unfold ordS
          rw [show ((j : Int) - 1).toNat = j - 1 by omega, getD_nth (by omega)]
          rfl
        rw [e2]
        refine W.cond (fun h3 => W.ret (h1 _ (by unfold risE; rw [h, h3]; rfl))) (fun h3 => ?_)
        rw [wrap_i64 (by omega) (by omega)]
        exact h2 (by unfold risE; rw [h, h3]; rfl)
      · exfalso
        cases hg : gtI (j : Int) 0 with
        | false => rw [hg] at h2; simp at h2
        | true => rw [hg] at h2; simp at h2 hg; omega
    · unfold b_gateref2_ClaimsFault_1
      simp only [D.nth_zero, D.nth_succ, D.int_i]
      exact W.cond (fun h => by simp at h) (fun _ => W.ret rfl)
  rintro _ rfl
  cases hr : risO A with
  | some r => exact W.ret (by rw [clF, h5, h6, hr]; rfl)
  | none =>
    refine W.cond (fun h => by simp at h) (fun _ => ?_)
    refine W.bind (w_ScopesFault hl) ?_
    rintro _ rfl
    simp only [D.nth_zero, D.int_i]
    refine W.cond (fun h => W.ret (by rw [clF, h5, h6, hr]; simp only [cond_false, h, cond_true])) (fun h7 => ?_)
    have h0 : fltS l = 0 := by simpa using h7
    obtain ⟨L, rfl, hL1, hL2⟩ := flt_ok hl h0
    have hll := leastL_len L
    refine W.bind (w_LeastOf L (⟨by omega, fun x hx => List.mem_append_left _ (hL2 x hx)⟩)) ?_
    rintro _ rfl
    simp only [D.nth_zero, D.list_n]
    refine W.bind (w_Equal2 _ L (by omega)) ?_
    rintro _ rfl
    simp only [D.nth_zero, D.bool_b]
    rw [beq_swap]
    refine W.cond (fun h => W.ret (by rw [clF, h5, h6, hr, str_map]; simp only [cond_false, h7, h, cond_true])) (fun h8 => ?_)
    refine W.cond (fun h => W.ret (by rw [clF, h5, h6, hr, str_map]; simp only [cond_false, h7, h8, timeB, h, cond_true])) (fun h => W.ret (by rw [clF, h5, h6, hr, str_map]; simp only [cond_false, h7, h8, timeB, h]))
theorem clF_ok {a b c d : List UInt8} {A : List (List UInt8)} {l : List D} {x y : Int} (hl : ScL l) (h : clF a b c d A l x y = 0) : fltS l = 0 := by
  unfold clF at h
  cases h1 : bad4 a b c d with
  | true => rw [h1] at h; cases h
  | false =>
    rw [h1, cond_false] at h
    cases h2 : gtI (A.length : Int) 50 with
    | true => rw [h2] at h; cases h
    | false =>
      rw [h2, cond_false] at h
      cases hr : risO A with
      | some r =>
        have := risO_ne hr
        rw [hr] at h
        simp only at h
        subst h
        cases this
      | none =>
        rw [hr] at h
        simp only at h
        cases h3 : fltS l != 0 with
        | true => rw [h3] at h; simpa using h
        | false => simpa using h3
/-! ### Claims that are drawn -/
theorem aud5 {i : Nat} (hi : i < 5) : ∃ A : List (List UInt8), D.nth [D.n [], D.n [], D.n [D.s [115, 104, 111, 112]], D.n [D.s [109, 97, 112, 115], D.s [115, 104, 111, 112]], D.n [D.s [109, 97, 112, 115]]] i = .n (A.map D.s) ∧ Aud A := by
  match i, hi with
  | 0, _ => exact ⟨[], rfl, by simp [Aud]⟩
  | 1, _ => exact ⟨[], rfl, by simp [Aud]⟩
  | 2, _ => exact ⟨[[115, 104, 111, 112]], rfl, by simp [Aud]⟩
  | 3, _ => exact ⟨[[109, 97, 112, 115], [115, 104, 111, 112]], rfl, by simp [Aud]⟩
  | 4, _ => exact ⟨[[109, 97, 112, 115]], rfl, by simp [Aud]⟩
theorem aud3 {i : Nat} (hi : i < 3) : ∃ A : List (List UInt8), D.nth [D.n [D.s [115, 104, 111, 112], D.s [109, 97, 112, 115]], D.n [D.s []], D.n [D.s [97], D.s [97]]] i = .n (A.map D.s) ∧ Aud A := by
  match i, hi with
  | 0, _ => exact ⟨[[115, 104, 111, 112], [109, 97, 112, 115]], rfl, by simp [Aud]⟩
  | 1, _ => exact ⟨[[]], rfl, by simp [Aud]⟩
  | 2, _ => exact ⟨[[97], [97]], rfl, by simp [Aud]⟩
theorem ScL.least {L : List (List UInt8)} (h : L.length ≤ 5) (h2 : ∀ a ∈ L, a ∈ sc) : ScL ((leastL L).map D.s) :=
  .inr ⟨leastL L, rfl, Nat.le_trans (leastL_len L) h, fun a ha => h2 a (leastL_mem ha)⟩
theorem w_RightClaims (c0 : Int) (s : D) (hs : St c0 s) (hc : c0 ≤ 999999990000) : W (fun K _ => f_gatemake_Stream_RightClaims K s) (fun r => ∃ a b c d A l fr tm s', r = [.s a, .s b, .s c, .s d, .n (A.map D.s), .i fr, .i tm, s', .n l] ∧ a.length ≤ 1000 ∧ b.length ≤ 1000 ∧ c.length ≤ 1000 ∧ d.length ≤ 1000 ∧ Aud A ∧ ScL l ∧ St (c0 + 20) s') := by
  unfold f_gatemake_Stream_RightClaims
  refine W.bind (w_SomeS _ s [[116, 49], [116, 49], [116, 50], [116, 51]] hs (by omega) (by simp) (by simp)) ?_
  rintro _ ⟨a, s1, t, rfl, ha, h1⟩
  refine W.bind (w_SomeS _ s1 [[97, 110, 110], [98, 111, 98]] h1 (by omega) (by simp) (by simp)) ?_
  rintro _ ⟨b, s2, t, rfl, hb, h2⟩
  refine W.bind (w_SomeS _ s2 [[103, 97, 116, 101], [103, 97, 116, 101], [103, 97, 116, 101], [111, 116, 104, 101, 114]] h2 (by omega) (by simp) (by simp)) ?_
  rintro _ ⟨c, s3, t, rfl, hc3, h3⟩
  refine W.bind (w_SomeS _ s3 [[], [], [], [116, 48], [116, 50]] h3 (by omega) (by simp) (by simp)) ?_
  rintro _ ⟨d, s4, t, rfl, hd, h4⟩
  simp only [D.nth_zero, D.nth_succ]
  refine W.bind (w_Next _ _ s4 h4 (by omega) (by simp)) ?_
  rintro _ ⟨i, s5, rfl, g1, g2, h5⟩
  have g2 := g2 (by simp)
  simp only [D.int_i] at g2
  simp only [D.nth_zero, D.nth_succ, D.int_i]
  refine W.cond (fun _ => ?_) (fun h => absurd (inB_mk g1 (by omega)) (by rw [h]; simp))
  refine W.bind (w_RightScopes _ s5 h5 (by omega)) ?_
  rintro _ ⟨s6, L, rfl, g3, g4, h6⟩
  have hL : ∀ a ∈ L, a ∈ sc := fun a ha => List.mem_append_left _ (g4 a ha)
  simp only [D.nth_zero, D.nth_succ, D.list_n]
  refine W.bind (w_LeastOf L ⟨by omega, hL⟩) ?_
  rintro _ rfl
  refine W.bind (w_PickI _ s6 [0, 50, 100] h6 (by omega) (by simp) (by simp)) ?_
  rintro _ ⟨fr, s7, t, rfl, _, h7⟩
  simp only [D.nth_zero, D.nth_succ]
  refine W.bind (w_PickI _ s7 [1, 50, 100, 200] h7 (by omega) (by simp) (by simp)) ?_
  rintro _ ⟨x, s8, t, rfl, _, h8⟩
  obtain ⟨A, hA, hA2⟩ := aud5 (i := i.toNat) (by omega)
  simp only [D.nth_zero, D.nth_succ, D.list_n, D.int_i]
  rw [hA]
  refine W.ret ⟨a, b, c, d, A, _, fr, _, s8, rfl, ?_, ?_, ?_, ?_, hA2, ScL.least (by omega) hL, h8.le (by omega)⟩
  · simp only [List.mem_cons, List.not_mem_nil, or_false] at ha; rcases ha with rfl | rfl | rfl | rfl <;> simp
  · simp only [List.mem_cons, List.not_mem_nil, or_false] at hb; rcases hb with rfl | rfl <;> simp
  · simp only [List.mem_cons, List.not_mem_nil, or_false] at hc3; rcases hc3 with rfl | rfl | rfl | rfl <;> simp
  · simp only [List.mem_cons, List.not_mem_nil, or_false] at hd; rcases hd with rfl | rfl | rfl | rfl | rfl <;> simp
theorem mem_len {l : List (List UInt8)} {x : List UInt8} (h : (l.all fun y => Nat.ble y.length 1000) = true) (hx : x ∈ l) : x.length ≤ 1000 := Nat.le_of_ble_eq_true (List.all_eq_true.1 h x hx)
theorem w_Claims (c0 : Int) (s : D) (hs : St c0 s) (hc : c0 ≤ 999999980000) : W (fun K _ => f_gatemake_Stream_Claims K s) (fun r => ∃ a b c d A l fr tm s', r = [.s a, .s b, .s c, .s d, .n (A.map D.s), .i fr, .i tm, s', .n l] ∧ a.length ≤ 1000 ∧ b.length ≤ 1000 ∧ c.length ≤ 1000 ∧ d.length ≤ 1000 ∧ Aud A ∧ ScL l ∧ St (c0 + 50) s') := by
  unfold f_gatemake_Stream_Claims
  refine W.bind (w_RightClaims c0 s hs (by omega)) ?_
  rintro _ ⟨a, b, c, d, A, l, fr, tm, s1, rfl, ha, hb, hc1, hd, hA, hl, h1⟩
  simp only [D.nth_zero, D.nth_succ, D.list_n]
  refine W.bind (w_Flip _ _ s1 h1 (by omega) (by simp)) ?_
  rintro _ ⟨f, s2, rfl, h2⟩
  simp only [D.nth_zero, D.nth_succ, D.bool_b]
  refine W.cond (fun _ => ?_) (fun _ => W.ret ⟨a, b, c, d, A, l, fr, tm, s2, rfl, ha, hb, hc1, hd, hA, hl, h2.le (by omega)⟩)
  refine W.bind (w_Next _ _ s2 h2 (by omega) (by simp)) ?_
  rintro _ ⟨i, s3, rfl, g1, g2, h3⟩
  simp only [D.nth_zero, D.nth_succ, D.int_i]
  refine W.cond (fun _ => ?_) (fun _ => ?_)
  · refine W.bind (w_SomeS _ s3 [[], [65], [116, 49]] h3 (by omega) (by simp) (by simp)) ?_
    rintro _ ⟨x, s4, t, rfl, hx, h4⟩
    simp only [D.nth_zero, D.nth_succ]
    refine W.bind (w_SomeS _ s4 [[97, 110, 110], []] h4 (by omega) (by simp) (by simp)) ?_
    rintro _ ⟨y, s5, t, rfl, hy, h5⟩
    exact W.ret ⟨x, y, c, d, A, l, fr, tm, s5, rfl, mem_len (by decide) hx, mem_len (by decide) hy, hc1, hd, hA, hl, h5.le (by omega)⟩
  refine W.cond (fun _ => ?_) (fun _ => ?_)
  · refine W.bind (w_SomeS _ s3 [[], [103, 97, 116, 101]] h3 (by omega) (by simp) (by simp)) ?_
    rintro _ ⟨x, s4, t, rfl, hx, h4⟩
    simp only [D.nth_zero, D.nth_succ]
    refine W.bind (w_SomeS _ s4 [[65], [116, 48]] h4 (by omega) (by simp) (by simp)) ?_
    rintro _ ⟨y, s5, t, rfl, hy, h5⟩
    exact W.ret ⟨a, b, x, y, A, l, fr, tm, s5, rfl, ha, hb, mem_len (by decide) hx, mem_len (by decide) hy, hA, hl, h5.le (by omega)⟩
  refine W.cond (fun _ => ?_) (fun _ => ?_)
  · refine W.bind (w_Next _ _ s3 h3 (by omega) (by simp)) ?_
    rintro _ ⟨i2, s4, rfl, g3, g4, h4⟩
    have g4 := g4 (by simp)
    simp only [D.int_i] at g4
    simp only [D.nth_zero, D.nth_succ, D.int_i]
    refine W.cond (fun _ => ?_) (fun h => absurd (inB_mk g3 (by omega)) (by rw [h]; simp))
    obtain ⟨A2, hA2, hA3⟩ := aud3 (i := i2.toNat) (by omega)
    rw [hA2]
    exact W.ret ⟨a, b, c, d, A2, l, fr, tm, s4, rfl, ha, hb, hc1, hd, hA3, hl, h4.le (by omega)⟩
  refine W.cond (fun _ => ?_) (fun _ => ?_)
  · refine W.bind (w_Scopes _ s3 h3 (by omega)) ?_
    rintro _ ⟨s4, l2, rfl, hl2, h4⟩
    exact W.ret ⟨a, b, c, d, A, l2, fr, tm, s4, rfl, ha, hb, hc1, hd, hA, hl2, h4.le (by omega)⟩
  · refine W.bind (w_Odd _ 0 300 s3 h3 (by omega) (by omega) (by omega) (by omega)) ?_
    rintro _ ⟨x, s4, rfl, _, _, h4⟩
    simp only [D.nth_zero, D.nth_succ]
    refine W.bind (w_Odd _ 0 300 s4 h4 (by omega) (by omega) (by omega) (by omega)) ?_
    rintro _ ⟨y, s5, rfl, _, _, h5⟩
    exact W.ret ⟨a, b, c, d, A, l, x, y, s5, rfl, ha, hb, hc1, hd, hA, hl, h5.le (by omega)⟩
/-! ### Claims for somebody else -/
def key2 (x y : List UInt8) : Bool := bif !(!keyB x) then !keyB y else true
def delE (a b c d : List UInt8) (A : List (List UInt8)) (l : List D) (fr tm : Int) (x y : List UInt8) (m : List D) (wf wt : Int) : Int :=
  bif clF a b c d A l fr tm != 0 then clF a b c d A l fr tm else bif fltS m != 0 then fltS m else bif key2 x y then 5 else bif x == a then 14 else bif !coversL (l.map D.str) (m.map D.str) then 16 else bif (bif ltI wf fr then true else gtI wt tm) then 16 else clF x y c a A ((leastL (m.map D.str)).map D.s) wf wt
def delR (a c : List UInt8) (A : List (List UInt8)) (x y : List UInt8) (m : List D) (wf wt e : Int) : List D :=
  bif e != 0 then [.s [], .s [], .s [], .s [], .i 0, .i 0, .i e, .n [], .n []] else [.s x, .s y, .s c, .s a, .i wf, .i wt, .i 0, .n (A.map D.s), .n ((leastL (m.map D.str)).map D.s)]
section
variable {a b c d x y : List UInt8} {A : List (List UInt8)} {l m : List D} {fr tm wf wt : Int}
theorem w_Delegate (ha : a.length ≤ 1000) (hb : b.length ≤ 1000) (hc : c.length ≤ 1000) (hd : d.length ≤ 1000) (hx : x.length ≤ 1000) (hy : y.length ≤ 1000) (hA : Aud A) (hl : ScL l) (hm : ScL m) :
    W (fun K _ => f_token_Delegate K (.n [.s a, .s b, .s c, .s d, .n (A.map D.s), .n l, .i fr, .i tm]) (.s x) (.s y) (.n m) (.n [.i wf, .i wt])) (fun r => r = delR a c A x y m wf wt (delE a b c d A l fr tm x y m wf wt)) := by
  have hAl := hA.1
  unfold f_token_Delegate
  simp only [D.nth_zero, D.nth_succ, D.at_n, D.str_s, D.int_i, D.list_n]
  refine W.bind (w_CheckClaims a b c d A l fr tm ha hb hc hd hA hl) ?_
  rintro _ rfl
  simp only [D.nth_zero, D.int_i]
  refine W.cond (fun h1 => W.ret (by rw [delE, h1]; simp only [cond_true, delR, h1])) (fun h1 => ?_)
  have hf := clF_ok hl (by simpa using h1)
  refine W.bind (w_CheckScopes hm) ?_
  rintro _ rfl
  simp only [D.nth_zero, D.int_i]
  refine W.cond (fun h2 => W.ret (by rw [delE, h1, h2]; simp only [cond_true, cond_false, delR, h2])) (fun h2 => ?_)
  refine W.bind (p := fun r => r = (0, [.b (key2 x y)])) ?_ ?_
  · unfold b_token_Delegate_0
    simp only [D.nth_zero, D.nth_succ]
    refine W.bind (w_IsKey x (by omega)) ?_
    rintro _ rfl
    simp only [D.nth_zero, D.bool_b]
    refine W.cond (fun h3 => ?_) (fun h3 => W.ret (by rw [key2, h3]; rfl))
    refine W.bind (w_IsKey y (by omega)) ?_
    rintro _ rfl
    exact W.ret (by rw [key2, h3]; rfl)
  rintro _ rfl
  simp only [D.nth_zero, D.bool_b]
  refine W.cond (fun h3 => W.ret (by rw [delE, h1, h2, h3]; rfl)) (fun h3 => ?_)
  refine W.cond (fun h4 => W.ret (by rw [delE, h1, h2, h3, h4]; rfl)) (fun h4 => ?_)
  obtain ⟨L, rfl, hL1, hL2⟩ := flt_ok hl hf
  obtain ⟨M, rfl, hM1, hM2⟩ := flt_ok hm (by simpa using h2)
  have sL : Sm L := ⟨by omega, fun x hx => List.mem_append_left _ (hL2 x hx)⟩
  have sM : Sm M := ⟨by omega, fun x hx => List.mem_append_left _ (hM2 x hx)⟩
  refine W.bind (w_coverAll L M sL sM) ?_
  rintro _ rfl
  simp only [D.nth_zero, D.bool_b]
  refine W.cond (fun h5 => W.ret (by rw [delE, h1, h2, h3, h4, str_map, str_map, h5]; rfl)) (fun h5 => ?_)
  refine W.cond (fun h6 => W.ret (by rw [delE, h1, h2, h3, h4, str_map, str_map, h5, h6]; rfl)) (fun h6 => ?_)
  refine W.bind (w_Clone _ (by simp; omega)) ?_
  rintro _ rfl
  refine W.bind (w_least M sM) ?_
  rintro _ rfl
  simp only [D.nth_zero, D.list_n]
  refine W.bind (w_CheckClaims x y c a A _ wf wt hx hy hc ha hA (ScL.least hM1 sM.2)) ?_
  rintro _ rfl
  simp only [D.nth_zero, D.int_i]
  refine W.cond (fun h7 => W.ret (by rw [delE, h1, h2, h3, h4, str_map, str_map, h5, h6]; simp only [cond_false, delR, h7, cond_true])) (fun h7 => W.ret (by rw [delE, h1, h2, h3, h4, str_map, str_map, h5, h6]; simp only [cond_false, delR, h7, str_map]))
theorem w_DelegateOf (ha : a.length ≤ 1000) (hb : b.length ≤ 1000) (hc : c.length ≤ 1000) (hd : d.length ≤ 1000) (hx : x.length ≤ 1000) (hy : y.length ≤ 1000) (hA : Aud A) (hl : ScL l) (hm : ScL m) :
    W (fun K _ => f_gateref2_DelegateOf K (.n [.s a, .s b, .s c, .s d, .n (A.map D.s), .n l, .i fr, .i tm]) (.s x) (.s y) (.n m) (.n [.i wf, .i wt])) (fun r => r = delR a c A x y m wf wt (delE a b c d A l fr tm x y m wf wt)) := by
  have hAl := hA.1
  unfold f_gateref2_DelegateOf
  simp only [D.nth_zero, D.nth_succ, D.at_n, D.str_s, D.int_i, D.list_n]
  refine W.bind (w_ClaimsFault a b c d A l fr tm ha hb hc hd hA hl) ?_
  rintro _ rfl
  refine W.bind (w_ScopesFault hm) ?_
  rintro _ rfl
  simp only [D.nth_zero]
  generalize hE : clF a b c d A l fr tm = E
  refine W.bind (p := fun r => r = bif E != 0 then (0, [.i E, .s [], .s [], .s [], .s [], .i 0, .i 0, .n [.i E, .i (fltS m)]]) else bif fltS m != 0 then (0, [.i (fltS m), .s [], .s [], .s [], .s [], .i 0, .i 0, .n [.i E, .i (fltS m)]]) else (1, [.s [], .s [], .s [], .s [], .i 0, .i 0, .n [.i E, .i (fltS m)]])) ?_ ?_
  · refine W.loop (W.step ?_)
    unfold b_gateref2_DelegateOf_0
    simp only [D.nth_zero, D.nth_succ, D.int_i, D.list_n]
    refine W.cond (fun _ => ?_) (fun h => by simp at h)
    refine W.cond (fun _ => ?_) (fun h => by simp at h)
    rw [show ((0 : Int)).toNat = 0 from rfl]
    simp only [D.nth_zero, D.int_i]
    refine W.cond (fun h => W.ret (by rw [h]; rfl)) (fun h => ?_)
    rw [h, cond_false]
    refine W.step ?_
    rw [wrap_i64 (by omega) (by omega)]
    simp only [D.nth_zero, D.nth_succ, D.int_i, D.list_n]
    refine W.cond (fun _ => ?_) (fun h => by simp at h)
    refine W.cond (fun _ => ?_) (fun h => by simp at h)
    rw [show ((0 : Int) + 1).toNat = 1 from rfl]
    simp only [D.nth_zero, D.nth_succ, D.int_i]
    refine W.cond (fun h => W.ret (by rw [h]; rfl)) (fun h => ?_)
    rw [h, cond_false]
    refine W.step ?_
    rw [wrap_i64 (by omega) (by omega)]
    simp only [D.nth_zero, D.nth_succ, D.int_i, D.list_n]
    exact W.cond (fun h => by simp at h) (fun _ => W.ret rfl)
  rintro _ rfl
  cases h1 : E != 0 with
  | true => exact W.ret (by rw [delE, hE, h1]; simp only [cond_true, delR, h1]; rfl)
  | false =>
  simp only [cond_false]
  cases h2 : fltS m != 0 with
  | true => exact W.ret (by rw [delE, hE, h1, h2]; simp only [cond_true, cond_false, delR, h2]; rfl)
  | false =>
  simp only [cond_false, D.nth_zero, D.nth_succ]
  rw [← hE] at h1
  have hf := clF_ok hl (by simpa using h1)
  refine W.cond (fun h => by simp at h) (fun _ => ?_)
  refine W.bind (p := fun r => r = (0, [.b (key2 x y)])) ?_ ?_
  · unfold b_gateref2_DelegateOf_1
    simp only [D.nth_zero, D.nth_succ]
    refine W.bind (w_Key x (by omega)) ?_
    rintro _ rfl
    simp only [D.nth_zero, D.bool_b]
    refine W.cond (fun h3 => ?_) (fun h3 => W.ret (by rw [key2, h3]; rfl))
    refine W.bind (w_Key y (by omega)) ?_
    rintro _ rfl
    exact W.ret (by rw [key2, h3]; rfl)
  rintro _ rfl
  simp only [D.nth_zero, D.bool_b]
  refine W.cond (fun h3 => W.ret (by rw [delE, h1, h2, h3]; rfl)) (fun h3 => ?_)
  refine W.cond (fun h4 => W.ret (by rw [delE, h1, h2, h3, h4]; rfl)) (fun h4 => ?_)
  obtain ⟨L, rfl, hL1, hL2⟩ := flt_ok hl hf
  obtain ⟨M, rfl, hM1, hM2⟩ := flt_ok hm (by simpa using h2)
  have sL : Sm L := ⟨by omega, fun x hx => List.mem_append_left _ (hL2 x hx)⟩
  have sM : Sm M := ⟨by omega, fun x hx => List.mem_append_left _ (hM2 x hx)⟩
  refine W.bind (w_CoversOf L M sL sM) ?_
  rintro _ rfl
  simp only [D.nth_zero, D.bool_b]
  have hsplit : (bif (bif (!coversL L M) then true else ltI wf fr) then true else gtI wt tm) = (bif !coversL L M then true else (bif ltI wf fr then true else gtI wt tm)) := by
    cases coversL L M <;> cases ltI wf fr <;> rfl
  rw [hsplit]
  refine W.cond (fun h5 => W.ret ?_) (fun h5 => ?_)
  · rw [delE, h1, h2, h3, h4, str_map, str_map]
    cases hc1 : coversL L M with
    | false => rfl
    | true =>
      rw [hc1] at h5
      simp only [Bool.not_true, cond_false] at h5
      simp only [cond_false, Bool.not_true, h5]
      rfl
  have h5' : (!coversL L M) = false := by cases hc1 : coversL L M with
    | true => rfl
    | false => rw [hc1] at h5; simp at h5
  rw [h5', cond_false] at h5
  refine W.bind (w_Clone _ (by simp; omega)) ?_
  rintro _ rfl
  refine W.bind (w_LeastOf M sM) ?_
  rintro _ rfl
  simp only [D.nth_zero, D.list_n]
  refine W.bind (w_ClaimsFault x y c a A _ wf wt hx hy hc ha hA (ScL.least hM1 sM.2)) ?_
  rintro _ rfl
  simp only [D.nth_zero, D.int_i]
  refine W.cond (fun h7 => W.ret (by rw [delE, h1, h2, h3, h4, str_map, str_map, h5', h5]; simp only [cond_false, delR, h7, cond_true])) (fun h7 => W.ret (by rw [delE, h1, h2, h3, h4, str_map, str_map, h5', h5]; simp only [cond_false, delR, h7, str_map]))
end
/-! ### Chains -/
def idC (x : D) : List UInt8 := (x.at' 0).str
def clD (x : D) : Int := clF (x.at' 0).str (x.at' 1).str (x.at' 2).str (x.at' 3).str ((x.at' 4).list.map D.str) (x.at' 5).list (x.at' 6).int (x.at' 7).int
def cfD (l : List D) (i : Nat) : Int :=
  bif !((D.nth l i).at' 3).str == ((D.nth l (i - 1)).at' 0).str then 3
  else bif (l.take i).any (fun o => (o.at' 0).str == ((D.nth l i).at' 0).str) then 14
  else bif (bif !(!((D.nth l i).at' 2).str == ((D.nth l (i - 1)).at' 2).str) then !(((D.nth l i).at' 4).list.map D.str == ((D.nth l (i - 1)).at' 4).list.map D.str) else true) then 13
  else bif (bif (bif !coversL (((D.nth l (i - 1)).at' 5).list.map D.str) (((D.nth l i).at' 5).list.map D.str) then true else ltI ((D.nth l i).at' 6).int ((D.nth l (i - 1)).at' 6).int) then true else gtI ((D.nth l i).at' 7).int ((D.nth l (i - 1)).at' 7).int) then 16 else 0
def chE (l : List D) : Nat × List D := scan (fun j => bif clD (D.nth l j) != 0 then some (0, [.i (clD (D.nth l j))]) else none) (1, []) l.length 0
def chG (l : List D) : Nat × List D := scan (fun j => bif cfD l (j + 1) != 0 then some (0, [.i (cfD l (j + 1))]) else none) (1, []) (l.length - 1) 0
def chF (l : List D) : Int :=
  bif gtI (l.length : Int) 10 then 2 else bif (chE l).1.beq 0 then (D.nth (chE l).2 0).int else bif (l.length : Int) == 0 then 8 else bif !(((D.nth l 0).at' 3).str == []) then 3 else bif (chG l).1.beq 0 then (D.nth (chG l).2 0).int else 0
def ClL (l : List D) : Prop := l.length ≤ 100 ∧ ∀ x ∈ l, Cl x
theorem ClL.nth {l : List D} {j : Nat} (h : ClL l) (hj : j < l.length) : Cl (D.nth l j) := h.2 _ (nth_mem hj)
theorem w_CheckClaimsD {x : D} (h : Cl x) : W (fun K _ => f_token_CheckClaims K x) (fun r => r = [.i (clD x)]) := by
  obtain ⟨a, b, c, d, A, l, fr, tm, rfl, ha, hb, hc, hd, hA, hl⟩ := h
  refine (w_CheckClaims a b c d A l fr tm ha hb hc hd hA hl).mono ?_
  rintro _ rfl
  simp only [clD, D.at_n, D.nth_zero, D.nth_succ, D.str_s, D.list_n, D.int_i, str_map]
theorem w_ClaimsFaultD {x : D} (h : Cl x) : W (fun K _ => f_gateref2_ClaimsFault K x) (fun r => r = [.i (clD x)]) := by
  obtain ⟨a, b, c, d, A, l, fr, tm, rfl, ha, hb, hc, hd, hA, hl⟩ := h
  refine (w_ClaimsFault a b c d A l fr tm ha hb hc hd hA hl).mono ?_
  rintro _ rfl
  simp only [clD, D.at_n, D.nth_zero, D.nth_succ, D.str_s, D.list_n, D.int_i, str_map]
/-- What claims that are right hold. -/
theorem cl_parts {x : D} (h : Cl x) (h0 : clD x = 0) : ∃ A L : List (List UInt8), (x.at' 4) = .n (A.map D.s) ∧ Aud A ∧ (x.at' 5) = .n (L.map D.s) ∧ Sm L := by
  obtain ⟨a, b, c, d, A, l, fr, tm, rfl, ha, hb, hc, hd, hA, hl⟩ := h
  have h1 : clF a b c d A l fr tm = 0 := by
    simpa only [clD, D.at_n, D.nth_zero, D.nth_succ, D.str_s, D.list_n, D.int_i, str_map] using h0
  obtain ⟨L, rfl, hL1, hL2⟩ := flt_ok hl (clF_ok hl h1)
  exact ⟨A, L, rfl, hA, rfl, by omega, fun x hx => List.mem_append_left _ (hL2 x hx)⟩
theorem w_hasP (l : List D) (x : D) (hl : l.length ≤ 1000000) : W (fun K _ => f_slices_ContainsFunc_api_Claims_of_token_chainFault_f1 K (.n l) x) (fun r => r = [.b (l.any fun y => (y.at' 0).str == (x.at' 0).str), x]) := by
  unfold f_slices_ContainsFunc_api_Claims_of_token_chainFault_f1 f_slices_IndexFunc_api_Claims_of_token_chainFault_f1
  simp only [D.list_n]
  refine W.bind (p := fun r => ∃ i : Int, r = [.i i, x] ∧ geI i 0 = l.any fun y => (y.at' 0).str == (x.at' 0).str) (W.bind (W.early l.length (fun j => [.n l, .i (l.length : Int), .i (j : Int), x]) (fun j => bif (fun y : D => (y.at' 0).str == (x.at' 0).str) (D.nth l j) then some (0, [.i (j : Int), x]) else none) (1, [x]) (fun j hj hp p rc h1 h2 => ?_) (fun rc => ?_)) ?_) ?_
  · unfold b_slices_IndexFunc_api_Claims_of_token_chainFault_f1_0 p_token_chainFault_f1
    simp only [D.nth_zero, D.nth_succ, D.list_n, D.int_i, D.bool_b, Int.toNat_natCast]
    refine W.cond (fun _ => ?_) (fun h => by simp at h; omega)
    refine W.cond (fun _ => ?_) (fun h => by simp at h; omega)
    refine W.cond (fun h => W.ret (h1 _ (by simp only [h, cond_true]))) (fun h => ?_)
    rw [wrap_i64 (by omega) (by omega)]
    exact h2 (by simp only [h, cond_false])
  · unfold b_slices_IndexFunc_api_Claims_of_token_chainFault_f1_0
    simp only [D.nth_zero, D.nth_succ, D.list_n, D.int_i]
    exact W.cond (fun h => by simp at h) (fun _ => W.ret rfl)
  · rintro _ rfl
    rcases scan_any l (fun y : D => (y.at' 0).str == (x.at' 0).str) (fun j => ((0, [.i (j : Int), x]) : Nat × List D)) (1, [x]) with ⟨h1, i, hi, h2⟩ | ⟨h1, h2⟩
    · rw [h2, h1]; exact W.ret ⟨i, rfl, by simp⟩
    · rw [h2, h1]; exact W.ret ⟨-1, rfl, by simp [geI]⟩
  · rintro _ ⟨i, rfl, hi⟩
    exact W.ret (by rw [← hi]; rfl)
theorem w_hasR (l : List D) (x : D) (hl : l.length ≤ 1000000) : W (fun K _ => f_slices_ContainsFunc_api_Claims_of_gateref2_ChainFault_f1 K (.n l) x) (fun r => r = [.b (l.any fun y => (y.at' 0).str == (x.at' 0).str), x]) := by
  unfold f_slices_ContainsFunc_api_Claims_of_gateref2_ChainFault_f1 f_slices_IndexFunc_api_Claims_of_gateref2_ChainFault_f1
  simp only [D.list_n]
  refine W.bind (p := fun r => ∃ i : Int, r = [.i i, x] ∧ geI i 0 = l.any fun y => (y.at' 0).str == (x.at' 0).str) (W.bind (W.early l.length (fun j => [.n l, .i (l.length : Int), .i (j : Int), x]) (fun j => bif (fun y : D => (y.at' 0).str == (x.at' 0).str) (D.nth l j) then some (0, [.i (j : Int), x]) else none) (1, [x]) (fun j hj hp p rc h1 h2 => ?_) (fun rc => ?_)) ?_) ?_
  · unfold b_slices_IndexFunc_api_Claims_of_gateref2_ChainFault_f1_0 p_gateref2_ChainFault_f1
    simp only [D.nth_zero, D.nth_succ, D.list_n, D.int_i, D.bool_b, Int.toNat_natCast]
    refine W.cond (fun _ => ?_) (fun h => by simp at h; omega)
    refine W.cond (fun _ => ?_) (fun h => by simp at h; omega)
    refine W.cond (fun h => W.ret (h1 _ (by simp only [h, cond_true]))) (fun h => ?_)
    rw [wrap_i64 (by omega) (by omega)]
    exact h2 (by simp only [h, cond_false])
  · unfold b_slices_IndexFunc_api_Claims_of_gateref2_ChainFault_f1_0
    simp only [D.nth_zero, D.nth_succ, D.list_n, D.int_i]
    exact W.cond (fun h => by simp at h) (fun _ => W.ret rfl)
  · rintro _ rfl
    rcases scan_any l (fun y : D => (y.at' 0).str == (x.at' 0).str) (fun j => ((0, [.i (j : Int), x]) : Nat × List D)) (1, [x]) with ⟨h1, i, hi, h2⟩ | ⟨h1, h2⟩
    · rw [h2, h1]; exact W.ret ⟨i, rfl, by simp⟩
    · rw [h2, h1]; exact W.ret ⟨-1, rfl, by simp [geI]⟩
  · rintro _ ⟨i, rfl, hi⟩
    exact W.ret (by rw [← hi]; rfl)
theorem w_EqualD {x y : D} {A B : List (List UInt8)} (hx : x = .n (A.map D.s)) (hy : y = .n (B.map D.s)) (hA : A.length ≤ 1000) : W (fun K _ => f_slices_Equal_string K x y) (fun r => r = [.b (x.list.map D.str == y.list.map D.str)]) := by
  subst hx hy
  rw [D.list_n, D.list_n, str_map, str_map]
  exact w_Equal2 A B hA
theorem w_chainFault (l : List D) (hl : ClL l) (h0 : ∀ x ∈ l, clD x = 0) (j : Nat) (hj : j + 1 < l.length) : W (fun K _ => f_token_chainFault K (.n l) (.i ((j + 1 : Nat) : Int))) (fun r => r = [.i (cfD l (j + 1))]) := by
  have hl1 := hl.1
  have hj0 : j < l.length := by omega
  obtain ⟨A, L, hA1, hA2, hL1, hL2⟩ := cl_parts (hl.nth hj) (h0 _ (nth_mem hj))
  obtain ⟨B, M, hB1, hB2, hM1, hM2⟩ := cl_parts (hl.nth hj0) (h0 _ (nth_mem hj0))
  have hAl := hA2.1
  unfold f_token_chainFault
  have e1 : IntKind.i64.wrap (((j + 1 : Nat) : Int) - 1) = (j : Int) := by rw [wrap_i64 (by omega) (by omega)]; omega
  simp only [D.int_i, D.list_n, e1, Int.toNat_natCast]
  refine W.cond (fun _ => ?_) (fun h => by simp at h; omega)
  refine W.cond (fun _ => ?_) (fun h => by simp at h; omega)
  refine W.cond (fun h => W.ret (by rw [cfD, Nat.add_sub_cancel, h]; rfl)) (fun h1 => ?_)
  refine W.cond (fun _ => ?_) (fun h => by simp at h; omega)
  refine W.bind (w_hasP _ _ (by simp; omega)) ?_
  rintro _ rfl
  simp only [D.nth_zero, D.nth_succ, D.bool_b]
  refine W.cond (fun h => W.ret (by rw [cfD, Nat.add_sub_cancel, h1, h]; rfl)) (fun h2 => ?_)
  refine W.bind (p := fun r => r = (0, [.b (bif !(!((D.nth l (j + 1)).at' 2).str == ((D.nth l j).at' 2).str) then !(((D.nth l (j + 1)).at' 4).list.map D.str == ((D.nth l j).at' 4).list.map D.str) else true), D.nth l (j + 1), D.nth l j])) ?_ ?_
  · unfold b_token_chainFault_0
    simp only [D.nth_zero, D.nth_succ]
    refine W.cond (fun h => ?_) (fun h => W.ret (by rw [h]; rfl))
    refine W.bind (w_EqualD hA1 hB1 (by omega)) ?_
    rintro _ rfl
    exact W.ret (by rw [h]; rfl)
  rintro _ rfl
  simp only [D.nth_zero, D.nth_succ, D.bool_b]
  refine W.cond (fun h => W.ret (by rw [cfD, Nat.add_sub_cancel, h1, h2, h]; rfl)) (fun h3 => ?_)
  refine W.bind (p := fun r => r = [.b (coversL (((D.nth l j).at' 5).list.map D.str) (((D.nth l (j + 1)).at' 5).list.map D.str))]) ?_ ?_
  · rw [hL1, hM1, D.list_n, D.list_n, str_map, str_map]
    exact w_coverAll M L hM2 hL2
  rintro _ rfl
  simp only [D.nth_zero, D.bool_b]
  refine W.cond (fun h => W.ret (by rw [cfD, Nat.add_sub_cancel, h1, h2, h3, h]; rfl)) (fun h => W.ret (by rw [cfD, Nat.add_sub_cancel, h1, h2, h3, h]; rfl))
theorem chE_none {l : List D} (h : (chE l).1.beq 0 = false) : (∀ x ∈ l, clD x = 0) ∧ chE l = (1, []) := by
  unfold chE at h ⊢
  rcases scan_cases (fun j => bif clD (D.nth l j) != 0 then some ((0, [.i (clD (D.nth l j))]) : Nat × List D) else none) (1, []) l.length 0 with ⟨i, r, h1, h2, h3, h4, _⟩ | ⟨h1, h2⟩
  · exfalso
    rw [h4] at h
    cases hc : clD (D.nth l i) != 0 with
    | false => simp only [hc, cond_false] at h3; cases h3
    | true =>
      simp only [hc, cond_true, Option.some.injEq] at h3
      subst h3
      cases h
  · refine ⟨fun x hx => ?_, h2⟩
    obtain ⟨k, hk, rfl⟩ := List.getElem_of_mem hx
    have := h1 k (Nat.zero_le _) (by omega)
    rw [nth_eq hk] at this
    cases hc : clD l[k] != 0 with
    | true => rw [hc] at this; cases this
    | false => simpa using hc
theorem w_CheckChain (l : List D) (hl : ClL l) : W (fun K _ => f_token_CheckChain K (.n l)) (fun r => r = [.i (chF l)]) := by
  have hl1 := hl.1
  unfold f_token_CheckChain
  simp only [D.list_n]
  refine W.cond (fun h => W.ret (by rw [chF, h]; rfl)) (fun h1 => ?_)
  refine W.bind (p := fun r => r = chE l) ?_ ?_
  · refine W.early l.length (fun j => [.n l, .i (l.length : Int), .i (j : Int)]) (fun j => bif clD (D.nth l j) != 0 then some (0, [.i (clD (D.nth l j))]) else none) (1, []) (fun j hj hp p rc h1 h2 => ?_) (fun rc => ?_)
    · unfold b_token_CheckChain_0
      simp only [D.nth_zero, D.nth_succ, D.list_n, D.int_i, Int.toNat_natCast]
      refine W.cond (fun _ => ?_) (fun h => by simp at h; omega)
      refine W.cond (fun _ => ?_) (fun h => by simp at h; omega)
      refine W.bind (w_CheckClaimsD (hl.nth hj)) ?_
      rintro _ rfl
      simp only [D.nth_zero, D.int_i]
      refine W.cond (fun h => W.ret (h1 _ (by rw [h]; rfl))) (fun h => ?_)
      rw [wrap_i64 (by omega) (by omega)]
      exact h2 (by rw [h]; rfl)
    · unfold b_token_CheckChain_0
      simp only [D.nth_zero, D.nth_succ, D.list_n, D.int_i]
      exact W.cond (fun h => by simp at h) (fun _ => W.ret rfl)
  rintro _ rfl
  refine W.cond (fun h => W.ret ?_) (fun h2 => ?_)
  · rw [chF, h1, h]
    unfold chE
    rcases scan_cases (fun j => bif clD (D.nth l j) != 0 then some ((0, [.i (clD (D.nth l j))]) : Nat × List D) else none) (1, []) l.length 0 with ⟨i, r, g1, g2, g3, g4, _⟩ | ⟨g1, g2⟩
    · rw [g4]
      cases hc : clD (D.nth l i) != 0 with
      | false => simp only [hc, cond_false] at g3; cases g3
      | true =>
        simp only [hc, cond_true, Option.some.injEq] at g3
        subst g3
        rfl
    · exfalso
      unfold chE at h
      rw [g2] at h
      cases h
  obtain ⟨h0, hE⟩ := chE_none h2
  refine W.cond (fun h => W.ret (by rw [chF, h1, h2, h]; rfl)) (fun h3 => ?_)
  have hpos : 0 < l.length := List.length_pos_iff.2 (by intro e; rw [e] at h3; simp at h3)
  refine W.cond (fun _ => ?_) (fun h => by rw [inB_f] at h; omega)
  refine W.cond (fun h => W.ret (by rw [chF, h1, h2, h3, h]; rfl)) (fun h4 => ?_)
  refine W.bind (p := fun r => r = chG l) ?_ ?_
  · refine W.early (l.length - 1) (fun j => [.n l, .i ((j + 1 : Nat) : Int)]) (fun j => bif cfD l (j + 1) != 0 then some (0, [.i (cfD l (j + 1))]) else none) (1, []) (fun j hj hp p rc h1 h2 => ?_) (fun rc => ?_)
    · unfold b_token_CheckChain_1
      simp only [D.nth_zero, D.nth_succ, D.list_n, D.int_i]
      refine W.cond (fun _ => ?_) (fun h => by simp at h; omega)
      refine W.bind (w_chainFault l hl h0 j (by omega)) ?_
      rintro _ rfl
      simp only [D.nth_zero, D.int_i]
      refine W.cond (fun h => W.ret (h1 _ (by rw [h]; rfl))) (fun h => ?_)
      have e1 : IntKind.i64.wrap (((j + 1 : Nat) : Int) + 1) = ((j + 1 + 1 : Nat) : Int) := by rw [wrap_i64 (by omega) (by omega)]; omega
      rw [e1]
      exact h2 (by rw [h]; rfl)
    · unfold b_token_CheckChain_1
      simp only [D.nth_zero, D.nth_succ, D.list_n, D.int_i]
      exact W.cond (fun h => by exfalso; rw [ltI_t] at h; omega) (fun _ => W.ret rfl)
  rintro _ rfl
  refine W.cond (fun h => W.ret ?_) (fun h => W.ret (by rw [chF, h1, h2, h3, h4, h]; rfl))
  rw [chF, h1, h2, h3, h4, h]
  unfold chG
  rcases scan_cases (fun j => bif cfD l (j + 1) != 0 then some ((0, [.i (cfD l (j + 1))]) : Nat × List D) else none) (1, []) (l.length - 1) 0 with ⟨i, r, g1, g2, g3, g4, _⟩ | ⟨g1, g2⟩
  · rw [g4]
    cases hc : cfD l (i + 1) != 0 with
    | false => simp only [hc, cond_false] at g3; cases g3
    | true =>
      simp only [hc, cond_true, Option.some.injEq] at g3
      subst g3
      rfl
  · exfalso
    unfold chG at h
    rw [g2] at h
    cases h
theorem w_ChainFault (l : List D) (hl : ClL l) : W (fun K _ => f_gateref2_ChainFault K (.n l)) (fun r => r = [.i (chF l)]) := by
  have hl1 := hl.1
  unfold f_gateref2_ChainFault
  simp only [D.list_n]
  refine W.cond (fun h => W.ret (by rw [chF, h]; rfl)) (fun h1 => ?_)
  refine W.bind (p := fun r => r = chE l) ?_ ?_
  · refine W.early l.length (fun j => [.n l, .i (l.length : Int), .i (j : Int)]) (fun j => bif clD (D.nth l j) != 0 then some (0, [.i (clD (D.nth l j))]) else none) (1, []) (fun j hj hp p rc h1 h2 => ?_) (fun rc => ?_)
    · unfold b_gateref2_ChainFault_0
      simp only [D.nth_zero, D.nth_succ, D.list_n, D.int_i, Int.toNat_natCast]
      refine W.cond (fun _ => ?_) (fun h => by simp at h; omega)
      refine W.cond (fun _ => ?_) (fun h => by simp at h; omega)
      refine W.bind (w_ClaimsFaultD (hl.nth hj)) ?_
      rintro _ rfl
      simp only [D.nth_zero, D.int_i]
      refine W.cond (fun h => W.ret (h1 _ (by rw [h]; rfl))) (fun h => ?_)
      rw [wrap_i64 (by omega) (by omega)]
      exact h2 (by rw [h]; rfl)
    · unfold b_gateref2_ChainFault_0
      simp only [D.nth_zero, D.nth_succ, D.list_n, D.int_i]
      exact W.cond (fun h => by simp at h) (fun _ => W.ret rfl)
  rintro _ rfl
  refine W.cond (fun h => W.ret ?_) (fun h2 => ?_)
  · rw [chF, h1, h]
    unfold chE
    rcases scan_cases (fun j => bif clD (D.nth l j) != 0 then some ((0, [.i (clD (D.nth l j))]) : Nat × List D) else none) (1, []) l.length 0 with ⟨i, r, g1, g2, g3, g4, _⟩ | ⟨g1, g2⟩
    · rw [g4]
      cases hc : clD (D.nth l i) != 0 with
      | false => simp only [hc, cond_false] at g3; cases g3
      | true =>
        simp only [hc, cond_true, Option.some.injEq] at g3
        subst g3
        rfl
    · exfalso
      unfold chE at h
      rw [g2] at h
      cases h
  obtain ⟨h0, hE⟩ := chE_none h2
  refine W.cond (fun h => W.ret (by rw [chF, h1, h2, h]; rfl)) (fun h3 => ?_)
  have hpos : 0 < l.length := List.length_pos_iff.2 (by intro e; rw [e] at h3; simp at h3)
  refine W.cond (fun _ => ?_) (fun h => by rw [inB_f] at h; omega)
  refine W.cond (fun h => W.ret (by rw [chF, h1, h2, h3, h]; rfl)) (fun h4 => ?_)
  refine W.bind (p := fun r => r = chG l) ?_ ?_
  · refine W.early (l.length - 1) (fun j => [.n l, .i ((j + 1 : Nat) : Int)]) (fun j => bif cfD l (j + 1) != 0 then some (0, [.i (cfD l (j + 1))]) else none) (1, []) (fun j hj hp p rc h1 h2 => ?_) (fun rc => ?_)
    · have hj1 : j + 1 < l.length := by omega
      have hj0 : j < l.length := by omega
      obtain ⟨A, L, hA1, hA2, hL1, hL2⟩ := cl_parts (hl.nth hj1) (h0 _ (nth_mem hj1))
      obtain ⟨B, M, hB1, hB2, hM1, hM2⟩ := cl_parts (hl.nth hj0) (h0 _ (nth_mem hj0))
      have hAl := hA2.1
      have e1 : IntKind.i64.wrap (((j + 1 : Nat) : Int) - 1) = (j : Int) := by rw [wrap_i64 (by omega) (by omega)]; omega
      unfold b_gateref2_ChainFault_1
      simp only [D.nth_zero, D.nth_succ, D.int_i, D.list_n, e1, Int.toNat_natCast]
      refine W.cond (fun _ => ?_) (fun h => by simp at h; omega)
      refine W.cond (fun _ => ?_) (fun h => by simp at h; omega)
      refine W.cond (fun _ => ?_) (fun h => by simp at h; omega)
      refine W.cond (fun h => W.ret (h1 _ (by rw [cfD, Nat.add_sub_cancel, h]; rfl))) (fun g1 => ?_)
      refine W.cond (fun _ => ?_) (fun h => by simp at h; omega)
      refine W.bind (w_hasR _ _ (by simp; omega)) ?_
      rintro _ rfl
      simp only [D.nth_zero, D.nth_succ, D.bool_b]
      refine W.cond (fun h => W.ret (h1 _ (by rw [cfD, Nat.add_sub_cancel, g1, h]; rfl))) (fun g2 => ?_)
      refine W.bind (p := fun r => r = (0, [.b (bif !(!((D.nth l (j + 1)).at' 2).str == ((D.nth l j).at' 2).str) then !(((D.nth l (j + 1)).at' 4).list.map D.str == ((D.nth l j).at' 4).list.map D.str) else true), D.nth l j, D.nth l (j + 1)])) ?_ ?_
      · unfold b_gateref2_ChainFault_2
        simp only [D.nth_zero, D.nth_succ]
        refine W.cond (fun h => ?_) (fun h => W.ret (by rw [h]; rfl))
        refine W.bind (w_EqualD hA1 hB1 (by omega)) ?_
        rintro _ rfl
        exact W.ret (by rw [h]; rfl)
      rintro _ rfl
      simp only [D.nth_zero, D.nth_succ, D.bool_b]
      refine W.cond (fun h => W.ret (h1 _ (by rw [cfD, Nat.add_sub_cancel, g1, g2, h]; rfl))) (fun g3 => ?_)
      refine W.bind (p := fun r => r = [.b (coversL (((D.nth l j).at' 5).list.map D.str) (((D.nth l (j + 1)).at' 5).list.map D.str))]) ?_ ?_
      · rw [hL1, hM1, D.list_n, D.list_n, str_map, str_map]
        exact w_CoversOf M L hM2 hL2
      rintro _ rfl
      simp only [D.nth_zero, D.bool_b]
      refine W.cond (fun h => W.ret (h1 _ (by rw [cfD, Nat.add_sub_cancel, g1, g2, g3, h]; rfl))) (fun h => ?_)
      have e2 : IntKind.i64.wrap (((j + 1 : Nat) : Int) + 1) = ((j + 1 + 1 : Nat) : Int) := by rw [wrap_i64 (by omega) (by omega)]; omega
      rw [e2]
      exact h2 (by rw [cfD, Nat.add_sub_cancel, g1, g2, g3, h]; rfl)
    · unfold b_gateref2_ChainFault_1
      simp only [D.nth_zero, D.nth_succ, D.list_n, D.int_i]
      exact W.cond (fun h => by exfalso; rw [ltI_t] at h; omega) (fun _ => W.ret rfl)
  rintro _ rfl
  refine W.cond (fun h => W.ret ?_) (fun h => W.ret (by rw [chF, h1, h2, h3, h4, h]; rfl))
  rw [chF, h1, h2, h3, h4, h]
  unfold chG
  rcases scan_cases (fun j => bif cfD l (j + 1) != 0 then some ((0, [.i (cfD l (j + 1))]) : Nat × List D) else none) (1, []) (l.length - 1) 0 with ⟨i, r, g1, g2, g3, g4, _⟩ | ⟨g1, g2⟩
  · rw [g4]
    cases hc : cfD l (i + 1) != 0 with
    | false => simp only [hc, cond_false] at g3; cases g3
    | true =>
      simp only [hc, cond_true, Option.some.injEq] at g3
      subst g3
      rfl
  · exfalso
    unfold chG at h
    rw [g2] at h
    cases h
/-! ### The law -/
theorem w_Same (a b c d : List UInt8) (A L : List (List UInt8)) (x y : Int) (hA : A.length ≤ 1000) (hL : L.length ≤ 1000) :
    W (fun K _ => f_gateref2_SameClaims K (.n [.s a, .s b, .s c, .s d, .n (A.map D.s), .n (L.map D.s), .i x, .i y]) (.n [.s a, .s b, .s c, .s d, .n (A.map D.s), .n (L.map D.s), .i x, .i y])) (fun r => r = [.b true]) := by
  unfold f_gateref2_SameClaims
  simp only [D.nth_zero, D.nth_succ, D.at_n, eqK_refl]
  refine W.cond (fun _ => ?_) (fun h => by cases h)
  refine W.bind (w_Equal2 A A hA) ?_
  rintro _ rfl
  simp only [D.nth_zero, D.bool_b, beq_self_eq_true]
  refine W.cond (fun _ => ?_) (fun h => by cases h)
  refine W.bind (w_Equal2 L L hL) ?_
  rintro _ rfl
  exact W.ret (by simp)
theorem noChain : W (fun K _ => (f_token_CheckChain K (.n (List.replicate (0 : Int).toNat (D.n [])))).bind fun t18 => (f_gateref2_ChainFault K (.n (List.replicate (0 : Int).toNat (D.n [])))).bind fun t19 => bif (((D.nth t18 0).int) == ((D.nth t19 0).int)) then (f_gatelaw2_signed K).bind fun t20 => some [D.b ((D.nth t20 0).bool)] else some [D.b false]) (fun r => r = [D.b true]) :=
  ⟨_, rfl, 40, fun K n hK _ => by obtain ⟨m, rfl⟩ : ∃ m, K = m + 40 := ⟨K - 40, by omega⟩; kernel_rfl⟩
theorem longChain : W (fun K _ => (f_token_CheckChain K (.n (List.replicate (11 : Int).toNat (D.n [])))).bind fun t18 => (f_gateref2_ChainFault K (.n (List.replicate (11 : Int).toNat (D.n [])))).bind fun t19 => bif (((D.nth t18 0).int) == ((D.nth t19 0).int)) then (f_gatelaw2_signed K).bind fun t20 => some [D.b ((D.nth t20 0).bool)] else some [D.b false]) (fun r => r = [D.b true]) :=
  ⟨_, rfl, 40, fun K n hK _ => by obtain ⟨m, rfl⟩ : ∃ m, K = m + 40 := ⟨K - 40, by omega⟩; kernel_rfl⟩
def keysC : List D := [.s [116, 55], .s [116, 56], .s [116, 57]]
theorem w_chainMade (c0 : Int) (n : Nat) (s : D) (l0 : List D) (hs : St c0 s) (hc : c0 ≤ 999999900000) (hl : ClL l0) (h1 : l0.length = 1) (hn : n ≤ 3) :
    W (fun K _ => fixN (b_gatelaw2_ClaimsDelegated_3 K) K [.i ((([.s [116, 55], .s [116, 56], .s [116, 57]] : List D).take n).length : Int), .i 0, s, .n l0, .n (([.s [116, 55], .s [116, 56], .s [116, 57]] : List D).take n)])
      (fun r => ∃ s' l1 t, r = (0, [s', .n t, .n l1]) ∧ ClL l1 ∧ St (c0 + 100) s') := by
  have hT : ∀ z ∈ (([.s [116, 55], .s [116, 56], .s [116, 57]] : List D).take n), ∃ k : List UInt8, z = .s k ∧ k.length ≤ 1000 := fun z hz => by
    have := List.mem_of_mem_take hz
    simp only [List.mem_cons, List.not_mem_nil, or_false] at this
    rcases this with rfl | rfl | rfl <;> exact ⟨_, rfl, by simp⟩
  have hTl : (([.s [116, 55], .s [116, 56], .s [116, 57]] : List D).take n).length ≤ 3 := by rw [List.length_take]; simp; omega
  generalize (([.s [116, 55], .s [116, 56], .s [116, 57]] : List D).take n) = T at hT hTl
  refine W.rounds (S := Nat × D × List D) (fun q => [.i (T.length : Int), .i (q.1 : Int), q.2.1, .n q.2.2, .n T]) (fun q => q.1 ≤ T.length ∧ St (c0 + 10 * q.1) q.2.1 ∧ q.2.2.length = q.1 + 1 ∧ ∀ z ∈ q.2.2, Cl z) (fun q => T.length - q.1) (fun q hI rc ih => ?_) (0, s, l0) ⟨by simp, by simpa using hs, by simpa using h1, hl.2⟩
  obtain ⟨j, s1, l⟩ := q
  obtain ⟨a1, a2, a3, a4⟩ := hI
  simp only at a1 a2 a3 a4
  unfold b_gatelaw2_ClaimsDelegated_3
  simp only [D.nth_zero, D.nth_succ, D.int_i, D.list_n]
  have e1 : IntKind.i64.wrap ((l.length : Int) - 1) = (j : Int) := by rw [wrap_i64 (by omega) (by omega)]; omega
  simp only [e1, Int.toNat_natCast]
  refine W.cond (fun h => ?_) (fun h => ?_)
  · have hj : j < T.length := by rw [ltI_t] at h; omega
    have e2 : IntKind.i64.wrap ((j : Int) + 1) = ((j + 1 : Nat) : Int) := by rw [wrap_i64 (by omega) (by omega)]; simp
    simp only [e2]
    refine W.cond (fun _ => ?_) (fun h => by simp at h; omega)
    refine W.cond (fun _ => ?_) (fun h => by simp at h; omega)
    obtain ⟨k, hk, hk2⟩ := hT _ (nth_mem hj)
    obtain ⟨a, b, c, d, A, L, fr, tm, hx, ha, hb, hc1, hd, hA, hL⟩ := a4 _ (nth_mem (show j < l.length by omega))
    rw [hk, hx]
    simp only [D.at_n, D.nth_zero, D.nth_succ]
    refine W.bind (w_DelegateOf (x := k) (y := [98, 111, 116]) (m := L) (wf := fr) (wt := tm) ha hb hc1 hd hk2 (by simp) hA hL hL) ?_
    rintro _ rfl
    generalize delE a b c d A L fr tm k [98, 111, 116] L fr tm = E
    cases hE : E != 0 with
    | true =>
      simp only [delR, hE, cond_true, D.nth_zero, D.nth_succ, D.int_i]
      exact W.ret ⟨s1, l, T, rfl, ⟨by omega, a4⟩, a2.le (by omega)⟩
    | false =>
      simp only [delR, hE, cond_false, D.nth_zero, D.nth_succ, D.int_i, D.list_n]
      refine W.cond (fun h => by simp at h) (fun _ => ?_)
      have hM : ScL ((leastL (L.map D.str)).map D.s) := by
        rcases hL with rfl | ⟨L2, rfl, g1, g2⟩
        · have : leastL ((List.replicate 51 (D.n [])).map D.str) = leastL [[]] := leastL_congr fun x => by simp [List.mem_replicate, D.str]
          rw [this]
          exact ScL.least (by simp) (by simp [sc, scR, scB])
        · rw [str_map]; exact ScL.least g1 g2
      generalize ((leastL (L.map D.str)).map D.s) = M at hM
      have hnext : ∀ (z : D) (s2 : D), Cl z → St (c0 + 10 * (j + 1 : Nat)) s2 → W (fun K m => rc K m [.i (T.length : Int), .i ((j + 1 : Nat) : Int), s2, .n (l ++ [z]), .n T]) (fun r => ∃ s' l1 t, r = (0, [s', .n t, .n l1]) ∧ ClL l1 ∧ St (c0 + 100) s') := fun z s2 hz hs2 =>
        ih (j + 1, s2, l ++ [z]) ⟨by simp only; omega, hs2, by simp [a3], fun w hw => by
          rcases List.mem_append.1 hw with hw | hw
          · exact a4 w hw
          · simp only [List.mem_singleton] at hw; subst hw; exact hz⟩ (by simp only; omega)
      have hlim : ∀ {p : Nat × List D → Prop} {x y : Nat → Nat → Option (Nat × List D)}, W x p → W (fun K n => bif lim (l.length + 1) then x K n else y K n) p := fun h =>
        W.cond (fun _ => h) (fun h2 => absurd (lim_mk (n := l.length + 1) (by omega)) (by rw [h2]; simp))
      refine W.bind (w_Flip _ _ s1 a2 (by omega) (by simp)) ?_
      rintro _ ⟨f, s2, rfl, h2⟩
      simp only [D.nth_zero, D.nth_succ, D.bool_b]
      refine W.cond (fun _ => ?_) (fun _ => hlim (hnext _ s2 ⟨k, [98, 111, 116], c, a, A, M, fr, tm, rfl, hk2, by simp, hc1, ha, hA, hM⟩ (h2.le (by omega))))
      refine W.bind (w_Next _ _ s2 h2 (by omega) (by simp)) ?_
      rintro _ ⟨i, s3, rfl, _, _, h3⟩
      simp only [D.nth_zero, D.nth_succ, D.int_i]
      refine W.bind (p := fun r => ∃ s4, St (c0 + 10 * (j + 1 : Nat)) s4 ∧ ((∃ a' d' c' tm', r = (0, [s4, .s a', .s [98, 111, 116], .s c', .s d', .i fr, .i tm', .n (A.map D.s), .n M]) ∧ a'.length ≤ 1000 ∧ c'.length ≤ 1000 ∧ d'.length ≤ 1000) ∨ r = (1, [s4, .s k, .s [98, 111, 116], .s c, .s a, .i fr, .i tm, .n (A.map D.s), .n M, .n [.s [42]]]))) ?_ ?_
      · unfold b_gatelaw2_ClaimsDelegated_4
        simp only [D.nth_zero, D.nth_succ, D.bool_b, D.int_i, D.list_n]
        refine W.cond (fun _ => ?_) (fun _ => ?_)
        · refine W.bind (w_SomeS _ s3 [[], [116, 48], [116, 55]] h3 (by omega) (by simp) (by simp)) ?_
          rintro _ ⟨x, s4, t, rfl, hx2, h4⟩
          exact W.ret ⟨s4, h4.le (by omega), .inl ⟨k, x, c, tm, rfl, hk2, hc1, mem_len (by decide) hx2⟩⟩
        refine W.cond (fun _ => ?_) (fun _ => ?_)
        · refine W.bind (w_SomeS _ s3 [[116, 49], [116, 55]] h3 (by omega) (by simp) (by simp)) ?_
          rintro _ ⟨x, s4, t, rfl, hx2, h4⟩
          exact W.ret ⟨s4, h4.le (by omega), .inl ⟨x, a, c, tm, rfl, mem_len (by decide) hx2, hc1, ha⟩⟩
        refine W.cond (fun _ => W.ret ⟨s3, h3.le (by omega), .inl ⟨k, a, _, tm, rfl, hk2, by simp, ha⟩⟩) (fun _ => ?_)
        refine W.cond (fun _ => W.ret ⟨s3, h3.le (by omega), .inl ⟨k, a, c, _, rfl, hk2, hc1, ha⟩⟩) (fun _ => W.ret ⟨s3, h3.le (by omega), .inr rfl⟩)
      · rintro _ ⟨s4, h4, ⟨a', d', c', tm', rfl, g1, g2, g3⟩ | rfl⟩
        · simp only [D.nth_zero, D.nth_succ, D.list_n]
          refine W.cond (fun _ => hlim (hnext _ s4 ⟨a', [98, 111, 116], c', d', A, M, fr, tm', rfl, g1, by simp, g2, g3, hA, hM⟩ h4)) (fun h => by simp at h)
        · simp only [D.nth_zero, D.nth_succ, D.list_n]
          refine W.cond (fun h => by simp at h) (fun _ => hlim (hnext _ s4 ⟨k, [98, 111, 116], c, a, A, [.s [42]], fr, tm, rfl, hk2, by simp, hc1, ha, hA, .inr ⟨[[42]], rfl, by simp, by simp [sc, scR, scB]⟩⟩ h4))
  · exact W.ret ⟨s1, l, T, rfl, ⟨by omega, a4⟩, a2.le (by omega)⟩
theorem pure (zs : List Int) (h : zs.length ≤ maxLen) (hw : ∀ n ∈ zs, (Lit.int .i64 n).wf = true) : ∃ K, f_gatelaw2_ClaimsDelegated K (.n (zs.map D.i)) = some [.b true] := by
  have : W (fun K _ => f_gatelaw2_ClaimsDelegated K (.n (zs.map D.i))) (fun r => r = [.b true]) := by
    unfold f_gatelaw2_ClaimsDelegated
    refine W.bind (w_Claims 0 _ ⟨_, 0, rfl, by omega, by omega⟩ (by omega)) ?_
    rintro _ ⟨a, b, c, d, A, l, fr, tm, s1, rfl, ha, hb, hc, hd, hA, hl, h1⟩
    simp only [D.nth_zero, D.nth_succ]
    refine W.bind (w_SomeS _ s1 [[116, 57], [116, 57], [116, 56], [116, 49], [], [65]] h1 (by omega) (by simp) (by simp)) ?_
    rintro _ ⟨x, s2, t, rfl, hx0, h2⟩
    have hx : x.length ≤ 1000 := mem_len (by decide) hx0
    simp only [D.nth_zero, D.nth_succ]
    refine W.bind (w_SomeS _ s2 [[98, 111, 116], [98, 111, 116], []] h2 (by omega) (by simp) (by simp)) ?_
    rintro _ ⟨y, s3, t, rfl, hy0, h3⟩
    have hy : y.length ≤ 1000 := mem_len (by decide) hy0
    simp only [D.nth_zero, D.nth_succ]
    refine W.bind (w_Scopes _ s3 h3 (by omega)) ?_
    rintro _ ⟨s4, m, rfl, hm, h4⟩
    simp only [D.nth_zero, D.nth_succ, D.list_n]
    refine W.bind (w_Flip _ _ s4 h4 (by omega) (by simp)) ?_
    rintro _ ⟨f, s5, rfl, h5⟩
    simp only [D.nth_zero, D.nth_succ]
    refine W.bind (p := fun r => r = bif f then (0, [.s a, .s b, .s c, .s d, .n (A.map D.s), .i fr, .i tm, .n m, .n l]) else (1, [.s a, .s b, .s c, .s d, .n (A.map D.s), .i fr, .i tm, .n m, .n l])) ?_ ?_
    · unfold b_gatelaw2_ClaimsDelegated_0
      simp only [D.nth_zero, D.nth_succ, D.bool_b, D.list_n]
      exact W.cond (fun h => W.ret (by rw [h]; rfl)) (fun h => W.ret (by rw [h]; rfl))
    rintro _ rfl
    cases f with
    | true =>
      simp only [cond_true, D.nth_zero, D.nth_succ, D.list_n, D.int_i]
      refine W.cond (fun _ => ?_) (fun h => by cases h)
      refine W.bind (w_PickI _ s5 [0, 0, 1, -1] h5 (by omega) (by simp) (by simp)) ?_
      rintro _ ⟨x1, s6, t, rfl, _, h6⟩
      simp only [D.nth_zero, D.nth_succ]
      refine W.bind (w_PickI _ s6 [0, 0, 1, -1, 300] h6 (by omega) (by simp) (by simp)) ?_
      rintro _ ⟨x2, s7, t, rfl, _, h7⟩
      simp only [D.nth_zero, D.nth_succ, D.list_n, D.int_i]
      generalize IntKind.i64.wrap (fr + x1) = wf
      generalize IntKind.i64.wrap (tm - x2) = wt
      refine W.bind (w_Delegate ha hb hc hd hx hy hA hl hl) ?_
      rintro _ rfl
      refine W.bind (w_DelegateOf ha hb hc hd hx hy hA hl hl) ?_
      rintro _ rfl
      generalize delE a b c d A l fr tm x y l wf wt = E
      refine W.bind (p := fun r => (D.nth r.2 0).bool = false) ?_ ?_
      · cases hE : E != 0 with
        | true =>
          simp only [delR, hE, cond_true, D.nth_zero, D.nth_succ, D.list_n]
          unfold b_gatelaw2_ClaimsDelegated_1
          simp only [D.nth_zero, D.nth_succ, D.int_i, bne_self_eq_false, Bool.not_false, D.list_n]
          refine W.cond (fun _ => ?_) (fun h => by simp at h)
          refine W.bind (w_Same [] [] [] [] [] [] 0 0 (by simp) (by simp)) ?_
          rintro _ rfl
          exact W.ret rfl
        | false =>
          simp only [delR, hE, cond_false, D.nth_zero, D.nth_succ, D.list_n]
          unfold b_gatelaw2_ClaimsDelegated_1
          simp only [D.nth_zero, D.nth_succ, D.int_i, bne_self_eq_false, Bool.not_false, D.list_n]
          refine W.cond (fun _ => ?_) (fun h => by simp at h)
          refine W.bind (w_Same x y c a A (leastL (l.map D.str)) wf wt (by have := hA.1; omega) (by have := leastL_len (l.map D.str); have := hl.len; simp at *; omega)) ?_
          rintro _ rfl
          exact W.ret rfl
      intro r1 hr1
      refine W.cond (fun h => by rw [hr1] at h; cases h) (fun _ => ?_)
      refine W.bind (w_Flip _ _ s7 h7 (by omega) (by simp)) ?_
      rintro _ ⟨f2, s8, rfl, h8⟩
      simp only [D.nth_zero, D.nth_succ]
      refine W.bind (p := fun r => ∃ l0, r = (0, [.n l0]) ∧ ClL l0 ∧ l0.length = 1) ?_ ?_
      · unfold b_gatelaw2_ClaimsDelegated_2
        simp only [D.nth_zero, D.nth_succ, D.bool_b, D.list_n]
        refine W.cond (fun _ => ?_) (fun _ => W.ret ⟨_, rfl, ⟨by simp, fun z hz => ?_⟩, rfl⟩)
        · refine W.cond (fun _ => W.ret ⟨_, rfl, ⟨by simp [D.setNth], fun z hz => ?_⟩, rfl⟩) (fun h => by simp at h)
          simp only [D.setNth, List.mem_singleton] at hz
          subst hz
          exact ⟨a, b, c, [], A, l, fr, tm, rfl, ha, hb, hc, by simp, hA, hl⟩
        · simp only [List.mem_singleton] at hz
          subst hz
          exact ⟨a, b, c, d, A, l, fr, tm, rfl, ha, hb, hc, hd, hA, hl⟩
      rintro _ ⟨l0, rfl, hl0, hl01⟩
      simp only [D.nth_zero, D.nth_succ, D.list_n]
      refine W.bind (w_Range _ 0 3 s8 h8 (by omega) (by omega) (by omega)) ?_
      rintro _ ⟨n, s9, rfl, k1, k2, h9⟩
      have k2 := k2 (by omega)
      simp only [D.nth_zero, D.nth_succ, D.int_i]
      refine W.cond (fun _ => ?_) (fun h => by simp at h; omega)
      refine W.bind (w_chainMade _ n.toNat s9 l0 h9 (by omega) hl0 hl01 (by omega)) ?_
      rintro _ ⟨sA, l1, t1, rfl, hl1, hA1⟩
      simp only [D.nth_zero, D.nth_succ, D.list_n]
      refine W.bind (w_Flip _ _ sA hA1 (by omega) (by simp)) ?_
      rintro _ ⟨f3, sB, rfl, hB1⟩
      simp only [D.nth_zero, D.nth_succ, D.bool_b]
      refine W.cond (fun _ => ?_) (fun _ => ?_)
      · refine W.bind (w_PickI _ sB [0, 11] hB1 (by omega) (by simp) (by simp)) ?_
        rintro _ ⟨q, sC, t, rfl, hq, _⟩
        simp only [List.mem_cons, List.not_mem_nil, or_false] at hq
        simp only [D.nth_zero, D.nth_succ, D.int_i]
        rcases hq with rfl | rfl
        · refine W.cond (fun _ => ?_) (fun h => by simp [lim] at h)
          exact noChain
        · refine W.cond (fun _ => ?_) (fun h => by simp [lim] at h)
          exact longChain
      · refine W.bind (w_CheckChain l1 hl1) ?_
        rintro _ rfl
        refine W.bind (w_ChainFault l1 hl1) ?_
        rintro _ rfl
        simp only [D.nth_zero, D.int_i, beq_self_eq_true]
        refine W.cond (fun _ => ?_) (fun h => by cases h)
        refine W.bind signed ?_
        rintro _ rfl
        exact W.ret rfl
    | false =>
      simp only [cond_false, D.nth_zero, D.nth_succ, D.list_n, D.int_i]
      refine W.cond (fun h => by cases h) (fun _ => ?_)
      refine W.bind (w_PickI _ s5 [0, 0, 1, -1] h5 (by omega) (by simp) (by simp)) ?_
      rintro _ ⟨x1, s6, t, rfl, _, h6⟩
      simp only [D.nth_zero, D.nth_succ]
      refine W.bind (w_PickI _ s6 [0, 0, 1, -1, 300] h6 (by omega) (by simp) (by simp)) ?_
      rintro _ ⟨x2, s7, t, rfl, _, h7⟩
      simp only [D.nth_zero, D.nth_succ, D.list_n, D.int_i]
      generalize IntKind.i64.wrap (fr + x1) = wf
      generalize IntKind.i64.wrap (tm - x2) = wt
      refine W.bind (w_Delegate ha hb hc hd hx hy hA hl hm) ?_
      rintro _ rfl
      refine W.bind (w_DelegateOf ha hb hc hd hx hy hA hl hm) ?_
      rintro _ rfl
      generalize delE a b c d A l fr tm x y m wf wt = E
      refine W.bind (p := fun r => (D.nth r.2 0).bool = false) ?_ ?_
      · cases hE : E != 0 with
        | true =>
          simp only [delR, hE, cond_true, D.nth_zero, D.nth_succ, D.list_n]
          unfold b_gatelaw2_ClaimsDelegated_1
          simp only [D.nth_zero, D.nth_succ, D.int_i, bne_self_eq_false, Bool.not_false, D.list_n]
          refine W.cond (fun _ => ?_) (fun h => by simp at h)
          refine W.bind (w_Same [] [] [] [] [] [] 0 0 (by simp) (by simp)) ?_
          rintro _ rfl
          exact W.ret rfl
        | false =>
          simp only [delR, hE, cond_false, D.nth_zero, D.nth_succ, D.list_n]
          unfold b_gatelaw2_ClaimsDelegated_1
          simp only [D.nth_zero, D.nth_succ, D.int_i, bne_self_eq_false, Bool.not_false, D.list_n]
          refine W.cond (fun _ => ?_) (fun h => by simp at h)
          refine W.bind (w_Same x y c a A (leastL (m.map D.str)) wf wt (by have := hA.1; omega) (by have := leastL_len (m.map D.str); have := hm.len; simp at *; omega)) ?_
          rintro _ rfl
          exact W.ret rfl
      intro r1 hr1
      refine W.cond (fun h => by rw [hr1] at h; cases h) (fun _ => ?_)
      refine W.bind (w_Flip _ _ s7 h7 (by omega) (by simp)) ?_
      rintro _ ⟨f2, s8, rfl, h8⟩
      simp only [D.nth_zero, D.nth_succ]
      refine W.bind (p := fun r => ∃ l0, r = (0, [.n l0]) ∧ ClL l0 ∧ l0.length = 1) ?_ ?_
      · unfold b_gatelaw2_ClaimsDelegated_2
        simp only [D.nth_zero, D.nth_succ, D.bool_b, D.list_n]
        refine W.cond (fun _ => ?_) (fun _ => W.ret ⟨_, rfl, ⟨by simp, fun z hz => ?_⟩, rfl⟩)
        · refine W.cond (fun _ => W.ret ⟨_, rfl, ⟨by simp [D.setNth], fun z hz => ?_⟩, rfl⟩) (fun h => by simp at h)
          simp only [D.setNth, List.mem_singleton] at hz
          subst hz
          exact ⟨a, b, c, [], A, l, fr, tm, rfl, ha, hb, hc, by simp, hA, hl⟩
        · simp only [List.mem_singleton] at hz
          subst hz
          exact ⟨a, b, c, d, A, l, fr, tm, rfl, ha, hb, hc, hd, hA, hl⟩
      rintro _ ⟨l0, rfl, hl0, hl01⟩
      simp only [D.nth_zero, D.nth_succ, D.list_n]
      refine W.bind (w_Range _ 0 3 s8 h8 (by omega) (by omega) (by omega)) ?_
      rintro _ ⟨n, s9, rfl, k1, k2, h9⟩
      have k2 := k2 (by omega)
      simp only [D.nth_zero, D.nth_succ, D.int_i]
      refine W.cond (fun _ => ?_) (fun h => by simp at h; omega)
      refine W.bind (w_chainMade _ n.toNat s9 l0 h9 (by omega) hl0 hl01 (by omega)) ?_
      rintro _ ⟨sA, l1, t1, rfl, hl1, hA1⟩
      simp only [D.nth_zero, D.nth_succ, D.list_n]
      refine W.bind (w_Flip _ _ sA hA1 (by omega) (by simp)) ?_
      rintro _ ⟨f3, sB, rfl, hB1⟩
      simp only [D.nth_zero, D.nth_succ, D.bool_b]
      refine W.cond (fun _ => ?_) (fun _ => ?_)
      · refine W.bind (w_PickI _ sB [0, 11] hB1 (by omega) (by simp) (by simp)) ?_
        rintro _ ⟨q, sC, t, rfl, hq, _⟩
        simp only [List.mem_cons, List.not_mem_nil, or_false] at hq
        simp only [D.nth_zero, D.nth_succ, D.int_i]
        rcases hq with rfl | rfl
        · refine W.cond (fun _ => ?_) (fun h => by simp [lim] at h)
          exact noChain
        · refine W.cond (fun _ => ?_) (fun h => by simp [lim] at h)
          exact longChain
      · refine W.bind (w_CheckChain l1 hl1) ?_
        rintro _ rfl
        refine W.bind (w_ChainFault l1 hl1) ?_
        rintro _ rfl
        simp only [D.nth_zero, D.int_i, beq_self_eq_true]
        refine W.cond (fun _ => ?_) (fun h => by cases h)
        refine W.bind signed ?_
        rintro _ rfl
        exact W.ret rfl
  obtain ⟨K, r, h1, rfl⟩ := this.get
  exact ⟨K, h1⟩
end Go.Proofs.YtpmkecjkbajcgaaGreatDoorP
