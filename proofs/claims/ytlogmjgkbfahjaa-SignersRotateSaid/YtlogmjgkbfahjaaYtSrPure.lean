/- The plain law: what the printed functions come to. -/
import Derived.Test.YtlogmjgkbfahjaaYtSr
import Derived.Test.YtlogmjgkbfahjaaEvPure
namespace Go.Proofs.YtlogmjgkbfahjaaP
open Go Go.Ev
set_option linter.unusedVariables false
set_option linter.unusedSimpArgs false
/-! ### The stream of numbers -/
def St (c : Int) (s : D) : Prop := ∃ L at', s = .n [L, .i at'] ∧ 0 ≤ at' ∧ at' ≤ c
theorem St.le {c c' : Int} {s : D} (h : St c s) (hc : c ≤ c') : St c' s := let ⟨L, a, h1, h2, h3⟩ := h; ⟨L, a, h1, h2, by omega⟩
theorem w_Below (x n : D) (hn : n.int ≤ 4611686018427387904) : W (fun K _ => f_gatemake_Below K x n) (fun r => ∃ i, r = [.i i] ∧ 0 ≤ i ∧ (1 ≤ n.int → i < n.int)) := by
  unfold f_gatemake_Below
  refine W.cond (fun h => ?_) (fun h => ?_)
  · simp at h
    exact W.ret ⟨0, rfl, by omega, by omega⟩
  · simp at h
    have h1 := Int.tmod_lt_of_pos x.int (show 0 < n.int by omega)
    have h2 := Int.lt_tmod_of_pos x.int (show 0 < n.int by omega)
    refine W.cond (fun _ => ?_) (fun h' => by simp at h'; omega)
    refine W.cond (fun h' => ?_) (fun h' => ?_)
    · simp at h'
      rw [wrap_i64 (by omega) (by omega)]
      exact W.ret ⟨_, rfl, by omega, fun _ => by omega⟩
    · simp at h'
      exact W.ret ⟨_, rfl, by omega, fun _ => by omega⟩
theorem w_Next (c : Int) (n s : D) (hs : St c s) (hc : c ≤ 1000000000000) (hn : n.int ≤ 4611686018427387904) : W (fun K _ => f_gatemake_Stream_Next K n s) (fun r => ∃ i s', r = [.i i, s'] ∧ 0 ≤ i ∧ (1 ≤ n.int → i < n.int) ∧ St (c + 1) s') := by
  obtain ⟨L, a, rfl, h1, h2⟩ := hs
  unfold f_gatemake_Stream_Next
  simp only [D.at_n, D.nth_zero, D.nth_succ, D.int_i]
  have e1 : IntKind.i64.wrap (a + 1) = a + 1 := wrap_i64 (by omega) (by omega)
  have e2 : IntKind.i64.wrap (a + 1 - 1) = a := by rw [wrap_i64 (by omega) (by omega)]; omega
  simp only [e1, e2]
  have hfin : ∀ i : Int, 0 ≤ i → (1 ≤ n.int → i < n.int) → W (fun _ _ => some [D.i i, D.n [L, D.i (a + 1)]]) (fun r => ∃ i s', r = [.i i, s'] ∧ 0 ≤ i ∧ (1 ≤ n.int → i < n.int) ∧ St (c + 1) s') := fun i h3 h4 => W.ret ⟨i, _, rfl, h3, h4, L, a + 1, rfl, by omega, by omega⟩
  refine W.cond (fun h => ?_) (fun h => ?_)
  · refine W.bind (w_Below _ n hn) ?_
    rintro _ ⟨i, rfl, h3, h4⟩
    exact hfin i h3 h4
  · have hL : 0 < L.list.length := by
      simp only [beq_eq_false_iff_ne, ne_eq] at h
      omega
    refine W.cond (fun _ => ?_) (fun h' => by simp at h'; simp [h'] at hL)
    refine W.cond (fun _ => ?_) (fun h' => by simp at h'; simp [h'] at hL)
    have h5 := Int.tmod_nonneg (L.list.length : Int) h1
    have h6 := Int.tmod_lt_of_pos a (show 0 < (L.list.length : Int) by omega)
    refine W.cond (fun _ => ?_) (fun h' => by simp [inB] at h'; omega)
    refine W.bind (w_Below _ (.i 1073741824) (by simp)) ?_
    rintro _ ⟨i, rfl, _, _⟩
    refine W.bind (w_Below _ n hn) ?_
    rintro _ ⟨j, rfl, h3, h4⟩
    exact hfin j h3 h4
theorem w_Flip (c : Int) (n s : D) (hs : St c s) (hc : c ≤ 1000000000000) (hn : n.int ≤ 4611686018427387904) : W (fun K _ => f_gatemake_Stream_Flip K n s) (fun r => ∃ b s', r = [.b b, s'] ∧ St (c + 1) s') := by
  unfold f_gatemake_Stream_Flip
  refine W.bind (w_Next c n s hs hc hn) ?_
  rintro _ ⟨i, s', rfl, _, _, h⟩
  exact W.ret ⟨_, s', rfl, h⟩
theorem nth_mem : ∀ {l : List D} {j : Nat}, j < l.length → D.nth l j ∈ l
  | a :: l, 0, _ => by simp
  | a :: l, j + 1, h => by simp only [D.nth_succ]; exact List.mem_cons_of_mem _ (nth_mem (by simpa using h))
/-- One of some numbers (or other data). -/
theorem w_Pick (c : Int) (s : D) (l : List D) (hs : St c s) (hc : c ≤ 1000000000000) (hl : l ≠ []) (hl2 : l.length ≤ 1000000) : W (fun K _ => f_gatemake_Stream_Pick K s (.n l)) (fun r => ∃ x s' t, r = [x, s', t] ∧ x ∈ l ∧ St (c + 1) s') := by
  unfold f_gatemake_Stream_Pick
  have : 0 < l.length := List.length_pos_iff.2 hl
  refine W.bind (w_Next c _ s hs hc (by simp; omega)) ?_
  rintro _ ⟨i, s', rfl, h1, h2, h3⟩
  simp only [D.int_i, D.list_n] at h2
  have h2 := h2 (by omega)
  refine W.cond (fun h => ?_) (fun h => absurd (inB_mk h1 h2) (by rw [D.nth_zero, D.int_i, D.list_n] at h; rw [h]; simp))
  exact W.ret ⟨_, s', _, rfl, nth_mem (show i.toNat < l.length by omega), h3⟩
theorem w_Range (c : Int) (lo hi : Int) (s : D) (hs : St c s) (hc : c ≤ 1000000000000) (h1 : 0 ≤ lo) (h2 : hi ≤ 1000000000000) : W (fun K _ => f_gatemake_Stream_Range K (.i lo) (.i hi) s) (fun r => ∃ x s', r = [.i x, s'] ∧ lo ≤ x ∧ (lo ≤ hi → x ≤ hi) ∧ St (c + 1) s') := by
  unfold f_gatemake_Stream_Range
  refine W.cond (fun h => ?_) (fun h => ?_)
  · simp at h
    exact W.ret ⟨lo, s, rfl, by omega, by omega, hs.le (by omega)⟩
  · simp at h
    have e1 : IntKind.i64.wrap (hi - lo) = hi - lo := wrap_i64 (by omega) (by omega)
    have e2 : IntKind.i64.wrap (hi - lo + 1) = hi - lo + 1 := wrap_i64 (by omega) (by omega)
    simp only [D.int_i, e1, e2]
    refine W.bind (w_Next c _ s hs hc (by simp; omega)) ?_
    rintro _ ⟨i, s', rfl, h3, h4, h5⟩
    simp only [D.int_i] at h4
    have h4 := h4 (by omega)
    simp only [D.nth_zero, D.nth_succ, D.int_i]
    rw [wrap_i64 (by omega) (by omega)]
    exact W.ret ⟨_, s', rfl, by omega, fun _ => by omega, h5⟩
theorem w_Odd (c : Int) (lo hi : Int) (s : D) (hs : St c s) (hc : c ≤ 999999999990) (h1 : 0 ≤ lo) (h0 : lo ≤ hi) (h2 : hi ≤ 1000000000000) : W (fun K _ => f_gatemake_Stream_Odd K (.i lo) (.i hi) s) (fun r => ∃ x s', r = [.i x, s'] ∧ -2000000000000 ≤ x ∧ x ≤ 2000000000000 ∧ St (c + 2) s') := by
  unfold f_gatemake_Stream_Odd
  refine W.bind (w_Flip c _ s hs (by omega) (by simp)) ?_
  rintro _ ⟨b, s', rfl, h3⟩
  simp only [D.nth_zero, D.nth_succ, D.bool_b]
  have e1 : IntKind.i64.wrap (lo - 1) = lo - 1 := wrap_i64 (by omega) (by omega)
  have e2 : IntKind.i64.wrap (hi + 1) = hi + 1 := wrap_i64 (by omega) (by omega)
  simp only [D.int_i, e1, e2]
  refine W.cond (fun _ => ?_) (fun _ => ?_)
  · refine W.bind (w_Pick (c + 1) s' _ h3 (by omega) (by simp) (by simp)) ?_
    rintro _ ⟨x, s2, t, rfl, hx, h4⟩
    simp only [List.mem_cons, List.not_mem_nil, or_false] at hx
    rcases hx with rfl | rfl | rfl | rfl | rfl | rfl <;> exact W.ret ⟨_, s2, rfl, by omega, by omega, h4.le (by omega)⟩
  · refine W.bind (w_Range (c + 1) lo hi s' h3 (by omega) h1 h2) ?_
    rintro _ ⟨x, s2, rfl, h4, h5, h6⟩
    exact W.ret ⟨x, s2, rfl, by omega, by have := h5 h0; omega, h6.le (by omega)⟩
/-! ### Keys -/
def smallC (c : UInt8) : Bool := bif leI 97 c.toNat then leI c.toNat 122 else false
def digitC (c : UInt8) : Bool := bif leI 48 c.toNat then leI c.toNat 57 else false
def restC (c : UInt8) : Bool := smallC c || (digitC c || (((c.toNat : Int) == 45) || ((c.toNat : Int) == 95)))
def smallL : List UInt8 := [97, 98, 99, 100, 101, 102, 103, 104, 105, 106, 107, 108, 109, 110, 111, 112, 113, 114, 115, 116, 117, 118, 119, 120, 121, 122]
def restL : List UInt8 := [97, 98, 99, 100, 101, 102, 103, 104, 105, 106, 107, 108, 109, 110, 111, 112, 113, 114, 115, 116, 117, 118, 119, 120, 121, 122, 48, 49, 50, 51, 52, 53, 54, 55, 56, 57, 45, 95]
def keyB (s : List UInt8) : Bool := (leI 1 s.length && leI s.length 40) && ((s.take 1).all smallC && s.all restC)
theorem small_cls (c : UInt8) : (!ltI (Lib.indexByte smallL c) 0) = smallC c := by
  have := all256 (p := fun c => (!ltI (Lib.indexByte smallL c) 0) == smallC c) (by kernel_rfl) c
  simpa using this
theorem rest_cls (c : UInt8) : (!ltI (Lib.indexByte restL c) 0) = restC c := by
  have := all256 (p := fun c => (!ltI (Lib.indexByte restL c) 0) == restC c) (by kernel_rfl) c
  simpa using this
theorem w_only (s l : List UInt8) (hs : s.length ≤ 1000000000000) : W (fun K _ => f_gateref2_only K (.s s) (.s l)) (fun r => r = [.b (s.all fun c => !ltI (Lib.indexByte l c) 0)]) := by
  unfold f_gateref2_only
  refine W.bind (W.early s.length (fun j => [.s s, .s l, .i s.length, .i j]) (fun j => bif !ltI (Lib.indexByte l (s.getD j 0)) 0 then none else some (0, [.b false])) (1, []) (fun j hj hp p rc h1 h2 => ?_) (fun rc => ?_)) ?_
  · unfold b_gateref2_only_0
    simp only [D.nth_zero, D.nth_succ, D.str_s, D.int_i, Int.toNat_natCast]
    refine W.cond (fun _ => ?_) (fun h => by simp at h; omega)
    refine W.cond (fun _ => ?_) (fun h => by simp at h; omega)
    simp only [p_strings_IndexByte, p_stringslite_IndexByte, p_bytealg_IndexByteString, D.nth_zero, D.int_i, D.str_s, byteAt_getD, toUInt8_byte]
    refine W.cond (fun h => W.ret (h1 _ (by rw [h]; rfl))) (fun h => ?_)
    rw [wrap_i64 (by omega) (by omega)]
    exact h2 (by rw [h]; rfl)
  · unfold b_gateref2_only_0
    simp only [D.nth_zero, D.nth_succ, D.str_s, D.int_i]
    exact W.cond (fun h => by simp at h) (fun _ => W.ret rfl)
  · rintro _ rfl
    rw [scan_all s (fun c => !ltI (Lib.indexByte l c) 0)]
    cases s.all fun c => !ltI (Lib.indexByte l c) 0 with
    | true => exact W.ret rfl
    | false => exact W.ret rfl
theorem w_Key (s : List UInt8) (hs : s.length ≤ 1000000000000) : W (fun K _ => f_gateref2_Key K (.s s)) (fun r => r = [.b (keyB s)]) := by
  unfold f_gateref2_Key
  simp only [p_gateref2_in, D.nth_zero, D.bool_b, D.int_i, D.str_s]
  refine W.cond (fun _ => ?_) (fun h => ?_)
  · refine W.cond (fun h => ?_) (fun h => W.ret ?_)
    · have h0 : (leI 1 s.length && leI s.length 40) = true := by cases h1 : leI 1 (s.length : Int) <;> cases h2 : leI (s.length : Int) 40 <;> simp_all
      refine W.bind (w_only (s.take 1) smallL (by rw [List.length_take]; omega)) ?_
      rintro _ rfl
      simp only [small_cls, D.nth_zero, D.bool_b]
      refine W.cond (fun h1 => ?_) (fun h1 => W.ret ?_)
      · refine W.bind (w_only s restL hs) ?_
        rintro _ rfl
        simp only [rest_cls, D.nth_zero, D.bool_b]
        exact W.ret (by simp only [keyB, h0, h1, Bool.true_and])
      · simp only [keyB, h0, h1, Bool.true_and, Bool.false_and]
    · have h0 : (leI 1 s.length && leI s.length 40) = false := by cases h1 : leI 1 (s.length : Int) <;> cases h2 : leI (s.length : Int) 40 <;> simp_all
      simp only [keyB, h0, Bool.false_and]
  · cases h1 : leI 1 (s.length : Int) <;> cases h2 : leI (s.length : Int) 40 <;> simp_all
    omega
def badK (s : List UInt8) (j : Nat) : Bool := !(bif smallC (s.getD j 0) then true else (bif gtI j 0 then restC (s.getD j 0) else false))
theorem keyB_scan (s : List UInt8) (h : ∀ j, j < s.length → badK s j = false) : keyB s = (!(s == []) && leI s.length 40) := by
  cases s with
  | nil => rfl
  | cons a t =>
    have h0 := h 0 (by simp)
    have ha : smallC a = true := by
      simp only [badK, List.getD_cons_zero] at h0
      cases hc : smallC a with
      | true => rfl
      | false => rw [hc] at h0; simp [gtI] at h0
    have hall : (a :: t).all restC = true := by
      rw [all_getD]
      intro j hj
      have := h j hj
      simp only [badK] at this
      cases hc : smallC ((a :: t).getD j 0) with
      | true => simp only [restC, hc, Bool.true_or]
      | false =>
        rw [hc] at this
        cases hg : gtI (j : Int) 0 with
        | false => rw [hg] at this; simp at this
        | true => rw [hg] at this; simpa using this
    have h1 : leI 1 ((a :: t).length : Int) = true := by simp; omega
    have h2 : (a :: t).take 1 = [a] := rfl
    have h3 : ((a :: t) == []) = false := rfl
    simp only [keyB, hall, h1, h2, h3, List.all_cons, List.all_nil, ha, Bool.true_and, Bool.and_true, Bool.not_false]
theorem keyB_bad (s : List UInt8) (j : Nat) (hj : j < s.length) (h : badK s j = true) : keyB s = false := by
  cases s with
  | nil => simp at hj
  | cons a t =>
    cases j with
    | zero =>
      simp only [badK, List.getD_cons_zero] at h
      cases hc : smallC a with
      | true => rw [hc] at h; simp at h
      | false => simp [keyB, hc]
    | succ j =>
      have hr : restC ((a :: t).getD (j + 1) 0) = false := by
        simp only [badK] at h
        have hg : gtI ((j + 1 : Nat) : Int) 0 = true := by simp
        rw [hg] at h
        cases hc : smallC ((a :: t).getD (j + 1) 0) with
        | true => rw [hc] at h; simp at h
        | false => rw [hc] at h; simpa using h
      have : (a :: t).all restC = false := by
        rw [← Bool.not_eq_true, all_getD]
        intro hall
        rw [hall (j + 1) hj] at hr
        cases hr
      simp only [keyB, this, Bool.and_false]
theorem w_IsKey (s : List UInt8) (hs : s.length ≤ 1000000000000) : W (fun K _ => f_kit_IsKey K (.s s)) (fun r => r = [.b (keyB s)]) := by
  unfold f_kit_IsKey
  refine W.bind (W.early s.length (fun j => [.s s, .i j]) (fun j => bif badK s j then some (0, [.b false]) else none) (1, []) (fun j hj hp p rc h1 h2 => ?_) (fun rc => ?_)) ?_
  · unfold b_kit_IsKey_0
    simp only [D.nth_zero, D.nth_succ, D.str_s, D.int_i, Int.toNat_natCast, byteAt_getD]
    refine W.cond (fun _ => ?_) (fun h => by simp at h; omega)
    refine W.cond (fun _ => ?_) (fun h => by simp at h; omega)
    have e : (!(bif (bif (geI ((s.getD j 0).toNat : Int) 97) then (leI ((s.getD j 0).toNat : Int) 122) else false) then true else (bif (gtI (j : Int) 0) then (bif (bif (bif (geI ((s.getD j 0).toNat : Int) 48) then (leI ((s.getD j 0).toNat : Int) 57) else false) then true else (((s.getD j 0).toNat : Int) == (45 : Int))) then true else (((s.getD j 0).toNat : Int) == (95 : Int))) else false))) = badK s j := by
      simp only [badK, restC, smallC, digitC, geI, leI, gtI]
      generalize ((s.getD j 0).toNat : Int) = x
      generalize (j : Int) = y
      cases hd1 : decide (x ≥ 97) <;> cases hd2 : decide (x ≤ 122) <;> cases hd3 : decide (x ≥ 48) <;> cases hd4 : decide (x ≤ 57) <;> cases hd5 : decide (y > 0) <;> cases hd6 : x == 45 <;> cases hd7 : x == 95 <;> simp_all
    rw [e]
    refine W.cond (fun h => W.ret (h1 _ (by rw [h]; rfl))) (fun h => ?_)
    rw [wrap_i64 (by omega) (by omega)]
    exact h2 (by rw [h]; rfl)
  · unfold b_kit_IsKey_0
    simp only [D.nth_zero, D.nth_succ, D.str_s, D.int_i]
    exact W.cond (fun h => by simp at h) (fun _ => W.ret rfl)
  · rintro _ rfl
    rcases scan_cases (fun j => bif badK s j then some (0, [D.b false]) else none) ((1, []) : Nat × List D) s.length 0 with ⟨i, r, h1, h2, h3, h4, h5⟩ | ⟨h1, h2⟩
    · rw [h4]
      cases hb : badK s i with
      | false => rw [hb] at h3; simp at h3
      | true =>
        rw [hb] at h3
        simp only [cond_true, Option.some.injEq] at h3
        subst h3
        exact W.ret (by rw [keyB_bad s i (by omega) hb]; rfl)
    · rw [h2]
      refine W.ret ?_
      rw [keyB_scan s fun j hj => ?_]
      · simp only [D.str_s]
        cases h3 : s == [] <;> rfl
      · have := h1 j (Nat.zero_le _) (by omega)
        cases hb : badK s j with
        | false => rfl
        | true => rw [hb] at this; simp at this
/-- One of some strings (or other data). -/
theorem w_Some (c : Int) (s : D) (l : List D) (hs : St c s) (hc : c ≤ 1000000000000) (hl : l ≠ []) (hl2 : l.length ≤ 1000000) : W (fun K _ => f_gatemake_Stream_Some K s (.n l)) (fun r => ∃ x s' t, r = [x, s', t] ∧ x ∈ l ∧ St (c + 1) s') := by
  unfold f_gatemake_Stream_Some
  have : 0 < l.length := List.length_pos_iff.2 hl
  refine W.bind (w_Next c _ s hs hc (by simp; omega)) ?_
  rintro _ ⟨i, s', rfl, h1, h2, h3⟩
  simp only [D.int_i, D.list_n] at h2
  have h2 := h2 (by omega)
  refine W.cond (fun h => ?_) (fun h => absurd (inB_mk h1 h2) (by rw [D.nth_zero, D.int_i, D.list_n] at h; rw [h]; simp))
  exact W.ret ⟨_, s', _, rfl, nth_mem (show i.toNat < l.length by omega), h3⟩
/-! ### Signers -/
def Sg (x : D) : Prop := ∃ a b c d e, x = .n [.s a, .s b, .i c, .i d, .i e] ∧ a.length ≤ 1000 ∧ b.length ≤ 1000
def SgL (l : List D) : Prop := l.length ≤ 10 ∧ ∀ x ∈ l, Sg x
theorem SgL.snoc {l : List D} {x : D} (h : ∀ y ∈ l, Sg y) (hx : Sg x) : ∀ y ∈ l ++ [x], Sg y := fun y hy => by
  rcases List.mem_append.1 hy with hy | hy
  · exact h y hy
  · simp at hy; subst hy; exact hx
theorem SgL.set {l : List D} {j : Nat} {x : D} (h : SgL l) (hj : j < l.length) (hx : Sg x) : SgL (D.setNth l j x) := by
  rw [setNth_eq _ hj]
  refine ⟨by simpa using h.1, fun y hy => ?_⟩
  rcases List.mem_or_eq_of_mem_set hy with hy | hy
  · exact h.2 y hy
  · subst hy; exact hx
theorem SgL.nth {l : List D} {j : Nat} (h : SgL l) (hj : j < l.length) : Sg (D.nth l j) := h.2 _ (nth_mem hj)
theorem w_Secret (c : Int) (s : D) (hs : St c s) (hc : c ≤ 1000000000000) : W (fun K _ => f_gatemake_Stream_Secret K s) (fun r => ∃ x s', r = [.s x, s'] ∧ x.length ≤ 1000 ∧ St (c + 1) s') := by
  unfold f_gatemake_Stream_Secret
  refine W.bind (p := fun r => ∃ x : List UInt8, r = [.s x] ∧ x.length ≤ 1000) ?_ ?_
  · exact W.congr (b := fun _ _ => some [.s (Lib.repeatL [115] 101)]) (W.ret ⟨_, rfl, Nat.le_of_ble_eq_true (by kernel_rfl)⟩) fun K n => by kernel_rfl
  · rintro _ ⟨x, rfl, hx⟩
    refine W.bind (w_Some c s _ hs hc (by simp) (by simp)) ?_
    rintro _ ⟨y, s', t, rfl, hy, h1⟩
    simp only [D.nth_zero, D.nth_succ, List.mem_cons, List.not_mem_nil, or_false] at hy ⊢
    rcases hy with rfl | rfl | rfl | rfl | rfl | rfl | rfl | rfl | rfl <;> first | exact W.ret ⟨_, s', rfl, by simp, h1⟩ | exact W.ret ⟨_, s', rfl, hx, h1⟩
theorem w_RightSigners (c : Int) (s : D) (hs : St c s) (hc : c ≤ 999999999900) : W (fun K _ => f_gatemake_Stream_RightSigners K s) (fun r => ∃ s' l, r = [s', .n l] ∧ SgL l ∧ St (c + 20) s') := by
  unfold f_gatemake_Stream_RightSigners
  refine W.bind (w_Range c 0 3 s hs (by omega) (by omega) (by omega)) ?_
  rintro _ ⟨n, s1, rfl, h1, h2, h3⟩
  have h2 := h2 (by omega)
  simp only [D.nth_zero, D.nth_succ, D.int_i]
  refine W.cond (fun _ => ?_) (fun h => by simp at h; omega)
  obtain ⟨m, rfl⟩ : ∃ m : Nat, n = (m : Int) := ⟨n.toNat, by omega⟩
  simp only [Int.toNat_natCast]
  generalize hT : ([D.s [115, 49], D.s [115, 50], D.s [115, 51]] : List D).take m = T
  have hTl : T.length = m := by rw [← hT, List.length_take]; simp; omega
  have hTm : ∀ x ∈ T, ∃ a : List UInt8, x = .s a ∧ a.length ≤ 1000 := fun x hx => by
    rw [← hT] at hx
    have := List.mem_of_mem_take hx
    simp only [List.mem_cons, List.not_mem_nil, or_false] at this
    rcases this with rfl | rfl | rfl <;> exact ⟨_, rfl, by simp⟩
  refine W.bind (p := fun r => ∃ s' l t, r = (0, [s', t, .n l]) ∧ SgL l ∧ St (c + 20) s') ?_ ?_
  · refine W.rounds (S := Int × Nat × D × List D) (fun q => [.i q.1, .i (T.length : Int), .i q.2.1, q.2.2.1, .n T, .n q.2.2.2]) (fun q => -1000000000000 ≤ q.1 ∧ q.1 ≤ (q.2.1 : Int) * 100 ∧ q.2.1 ≤ T.length ∧ q.2.2.2.length = q.2.1 ∧ (∀ x ∈ q.2.2.2, Sg x) ∧ St (c + 1 + 4 * q.2.1) q.2.2.1) (fun q => T.length - q.2.1) (fun q hI rc ih => ?_) (0, 0, s1, []) ⟨by simp, by simp, by simp, by simp, by simp, by simpa using h3⟩
    obtain ⟨fr, j, s2, out⟩ := q
    obtain ⟨a1, a2, a3, a4, a5, a6⟩ := hI
    simp only at a1 a2 a3 a4 a5 a6
    unfold b_gatemake_Stream_RightSigners_0
    simp only [D.nth_zero, D.nth_succ, D.int_i, D.list_n, Int.toNat_natCast]
    refine W.cond (fun h => ?_) (fun h => ?_)
    · simp at h
      have hj : j < T.length := by omega
      refine W.cond (fun _ => ?_) (fun h => by simp at h; omega)
      refine W.bind (w_Pick _ s2 _ a6 (by omega) (by simp) (by simp)) ?_
      rintro _ ⟨x1, s3, t, rfl, hx1, b1⟩
      refine W.bind (w_Some _ s3 _ b1 (by omega) (by simp) (by simp)) ?_
      rintro _ ⟨x2, s4, t, rfl, hx2, b2⟩
      refine W.bind (w_Pick _ s4 _ b2 (by omega) (by simp) (by simp)) ?_
      rintro _ ⟨x3, s5, t, rfl, hx3, b3⟩
      refine W.bind (w_Pick _ s5 _ b3 (by omega) (by simp) (by simp)) ?_
      rintro _ ⟨x4, s6, t, rfl, hx4, b4⟩
      simp only [D.nth_zero, D.nth_succ]
      refine W.cond (fun _ => ?_) (fun h => absurd (lim_mk (n := out.length + 1) (by omega)) (by rw [h]; simp))
      obtain ⟨ida, hida, hidl⟩ := hTm _ (nth_mem hj)
      have e1 : IntKind.i64.wrap ((j : Int) + 1) = ((j + 1 : Nat) : Int) := by rw [wrap_i64 (by omega) (by omega)]; omega
      have hx1' : ∃ v : Int, x1 = .i v ∧ 0 ≤ v ∧ v ≤ 100 := by
        simp only [List.mem_cons, List.not_mem_nil, or_false] at hx1
        rcases hx1 with rfl | rfl | rfl | rfl <;> exact ⟨_, rfl, by omega, by omega⟩
      obtain ⟨v, rfl, v0, v1⟩ := hx1'
      have e2 : IntKind.i64.wrap (fr + v) = fr + v := wrap_i64 (by omega) (by omega)
      simp only [D.int_i, e1, e2]
      refine ih (fr + v, j + 1, s6, out ++ [_]) ⟨by simp only; omega, by simp only; omega, by simp only; omega, by simp [a4], ?_, ?_⟩ (by simp only; omega)
      · refine SgL.snoc a5 ?_
        rw [hida]
        have hx2' : ∃ y : List UInt8, x2 = .s y ∧ y.length ≤ 1000 := by
          simp only [List.mem_cons, List.not_mem_nil, or_false] at hx2
          rcases hx2 with rfl | rfl | rfl <;> exact ⟨_, rfl, by simp⟩
        obtain ⟨y, rfl, hy⟩ := hx2'
        exact ⟨_, _, _, _, _, rfl, hidl, hy⟩
      · simp only
        exact b4.le (by omega)
    · simp at h
      exact W.ret ⟨s2, out, _, rfl, ⟨by omega, a5⟩, a6.le (by omega)⟩
  · rintro _ ⟨s2, l, t, rfl, h4, h5⟩
    exact W.ret ⟨s2, l, rfl, h4, h5⟩
theorem w_Signers (c : Int) (s : D) (hs : St c s) (hc : c ≤ 999999999000) : W (fun K _ => f_gatemake_Stream_Signers K s) (fun r => ∃ s' l, r = [s', .n l] ∧ SgL l ∧ St (c + 40) s') := by
  unfold f_gatemake_Stream_Signers
  refine W.bind (w_RightSigners c s hs (by omega)) ?_
  rintro _ ⟨s1, l, rfl, h1, h2⟩
  simp only [D.nth_zero, D.nth_succ, D.list_n]
  refine W.bind (p := fun r => ∃ b s', r = (0, [.b b, s', .n l]) ∧ (b = true → 0 < l.length) ∧ St (c + 21) s') ?_ ?_
  · unfold b_gatemake_Stream_Signers_0
    simp only [D.nth_zero, D.nth_succ, D.list_n]
    refine W.cond (fun h => ?_) (fun h => W.ret ⟨false, s1, rfl, fun h => by simp at h, h2.le (by omega)⟩)
    refine W.bind (w_Flip _ _ s1 h2 (by omega) (by simp)) ?_
    rintro _ ⟨b, s2, rfl, h3⟩
    simp at h
    exact W.ret ⟨b, s2, rfl, fun _ => by omega, h3.le (by omega)⟩
  · rintro _ ⟨b, s2, rfl, h3, h4⟩
    simp only [D.nth_zero, D.nth_succ, D.list_n, D.bool_b]
    refine W.cond (fun hb => ?_) (fun _ => W.ret ⟨s2, l, rfl, h1, h4.le (by omega)⟩)
    have hl := h3 hb
    have hl10 := h1.1
    refine W.bind (w_Next _ _ s2 h4 (by omega) (by simp; omega)) ?_
    rintro _ ⟨i, s3, rfl, i0, i1, h5⟩
    simp only [D.int_i] at i1
    have i1 := i1 (by omega)
    obtain ⟨j, rfl⟩ : ∃ j : Nat, i = (j : Int) := ⟨i.toNat, by omega⟩
    have hj : j < l.length := by omega
    simp only [D.nth_zero, D.nth_succ, D.int_i, Int.toNat_natCast]
    refine W.cond (fun _ => ?_) (fun h => by simp at h; omega)
    refine W.bind (w_Next _ _ s3 h5 (by omega) (by simp)) ?_
    rintro _ ⟨i, s4, rfl, _, _, h6⟩
    obtain ⟨a, b', c', d, e, he, ha, hb'⟩ := h1.nth hj
    rw [he]
    simp only [D.nth_zero, D.nth_succ, D.int_i, D.list_n]
    refine W.cond (fun _ => ?_) (fun _ => W.cond (fun _ => ?_) (fun _ => ?_))
    · refine W.bind (w_Some _ s4 _ h6 (by omega) (by simp) (by simp)) ?_
      rintro _ ⟨x, s5, t, rfl, hx, h7⟩
      simp only [List.mem_cons, List.not_mem_nil, or_false] at hx
      rcases hx with rfl | rfl | rfl <;> exact W.ret ⟨s5, _, rfl, h1.set hj ⟨_, _, _, _, _, rfl, by simp, hb'⟩, h7.le (by omega)⟩
    · refine W.bind (w_Secret _ s4 h6 (by omega)) ?_
      rintro _ ⟨x, s5, rfl, hx, h7⟩
      exact W.ret ⟨s5, _, rfl, h1.set hj ⟨_, _, _, _, _, rfl, ha, hx⟩, h7.le (by omega)⟩
    · refine W.bind (w_Odd _ 0 300 s4 h6 (by omega) (by omega) (by omega) (by omega)) ?_
      rintro _ ⟨x, s5, rfl, _, _, h7⟩
      refine W.bind (w_Odd _ 0 300 s5 h7 (by omega) (by omega) (by omega) (by omega)) ?_
      rintro _ ⟨y, s6, rfl, _, _, h8⟩
      simp only [D.nth_zero, D.nth_succ]
      have g1 : SgL (D.setNth l j (.n (D.setNth [.s a, .s b', .i c', .i d, .i e] 2 (.i x)))) := h1.set hj ⟨_, _, _, _, _, rfl, ha, hb'⟩
      have hlen : (D.setNth l j (.n (D.setNth [.s a, .s b', .i c', .i d, .i e] 2 (.i x)))).length = l.length := by rw [setNth_eq _ hj]; simp
      have hn : D.nth (D.setNth l j (.n (D.setNth [.s a, .s b', .i c', .i d, .i e] 2 (.i x)))) j = .n (D.setNth [.s a, .s b', .i c', .i d, .i e] 2 (.i x)) := by
        rw [setNth_eq _ hj, nth_eq (by simpa using hj)]
        simp
      rw [hn]
      exact W.ret ⟨s6, _, rfl, g1.set (by omega) ⟨_, _, _, _, _, rfl, ha, hb'⟩, h8.le (by omega)⟩
/-! ### What is wrong with signers -/
def visC (c : UInt8) : Bool := !(bif ltI c.toNat 33 then true else gtI c.toNat 126)
def secD (s : List UInt8) : List D := bif s.all visC then (bif s == ([] : List UInt8) then [.i 3] else bif gtI s.length 100 then [.i 2] else [.i 0]) else [.i 3]
theorem w_secretFault (s : List UInt8) (hs : s.length ≤ 1000000000000) : W (fun K _ => f_token_secretFault K (.s s)) (fun r => r = secD s) := by
  unfold f_token_secretFault
  refine W.bind (W.early s.length (fun j => [.s s, .i s.length, .i j]) (fun j => bif visC (s.getD j 0) then none else some (0, [.i 3])) (1, []) (fun j hj hp p rc h1 h2 => ?_) (fun rc => ?_)) ?_
  · unfold b_token_secretFault_0
    simp only [D.nth_zero, D.nth_succ, D.str_s, D.int_i, Int.toNat_natCast, byteAt_getD]
    have hin : inB (j : Int) s.length = true := inB_mk (by omega) (by omega)
    refine W.cond (fun _ => ?_) (fun h => by simp at h; omega)
    refine W.cond (fun _ => ?_) (fun h => by rw [hin] at h; cases h)
    refine W.cond (fun _ => ?_) (fun h => by rw [hin] at h; simp at h)
    refine W.cond (fun h => W.ret (h1 _ (by simp only [visC]; rw [h]; rfl))) (fun h => ?_)
    rw [wrap_i64 (by omega) (by omega)]
    exact h2 (by simp only [visC]; rw [h]; rfl)
  · unfold b_token_secretFault_0
    simp only [D.nth_zero, D.nth_succ, D.str_s, D.int_i]
    exact W.cond (fun h => by simp at h) (fun _ => W.ret rfl)
  · rintro _ rfl
    rw [scan_all s visC]
    unfold secD
    cases s.all visC with
    | false => exact W.ret rfl
    | true =>
      simp only [cond_true, D.str_s]
      refine W.cond (fun h => by simp at h) (fun _ => ?_)
      refine W.cond (fun h => W.ret (by rw [h]; rfl)) (fun h => ?_)
      rw [h]
      exact W.cond (fun h => W.ret (by rw [h]; rfl)) (fun h => W.ret (by rw [h]; rfl))
theorem w_SecretFault (s : List UInt8) (hs : s.length ≤ 1000000000000) : W (fun K _ => f_gateref2_SecretFault K (.s s)) (fun r => r = secD s) := by
  unfold f_gateref2_SecretFault f_gateref2_visible
  simp only [D.str_s]
  have hvis : W (fun K _ => f_gateref2_visible K (.s s) (.i 33)) (fun r => r = [.b (s.all visC)]) := by
    unfold f_gateref2_visible
    refine W.bind (W.early s.length (fun j => [.s s, .i 33, .i s.length, .i j]) (fun j => bif visC (s.getD j 0) then none else some (0, [.b false])) (1, []) (fun j hj hp p rc h1 h2 => ?_) (fun rc => ?_)) ?_
    · unfold b_gateref2_visible_0
      simp only [D.nth_zero, D.nth_succ, D.str_s, D.int_i, Int.toNat_natCast, byteAt_getD]
      have hin : inB (j : Int) s.length = true := inB_mk (by omega) (by omega)
      refine W.cond (fun _ => ?_) (fun h => by simp at h; omega)
      refine W.cond (fun _ => ?_) (fun h => by rw [hin] at h; cases h)
      refine W.cond (fun _ => ?_) (fun h => by rw [hin] at h; simp at h)
      refine W.cond (fun h => W.ret (h1 _ (by simp only [visC]; rw [h]; rfl))) (fun h => ?_)
      rw [wrap_i64 (by omega) (by omega)]
      exact h2 (by simp only [visC]; rw [h]; rfl)
    · unfold b_gateref2_visible_0
      simp only [D.nth_zero, D.nth_succ, D.str_s, D.int_i]
      exact W.cond (fun h => by simp at h) (fun _ => W.ret rfl)
    · rintro _ rfl
      rw [scan_all s visC]
      cases s.all visC with
      | false => exact W.ret rfl
      | true => exact W.ret rfl
  refine W.cond (fun h0 => ?_) (fun h0 => W.ret ?_)
  · refine W.bind hvis ?_
    rintro _ rfl
    simp only [D.nth_zero, D.bool_b]
    have h0' : (s == []) = false := by simpa using h0
    refine W.cond (fun h => W.ret ?_) (fun h => ?_)
    · have : s.all visC = false := by simpa using h
      simp only [secD, this, cond_false]
    · have : s.all visC = true := by simpa using h
      exact W.cond (fun h => W.ret (by simp only [secD, this, h0', h, cond_true, cond_false])) (fun h => W.ret (by simp only [secD, this, h0', h, cond_true, cond_false]))
  · have : s = [] := by simpa using h0
    subst this
    rfl
theorem secD_one (s : List UInt8) : ∃ n, secD s = [.i n] := by
  unfold secD
  cases s.all visC with
  | false => exact ⟨_, rfl⟩
  | true =>
    cases s == [] with
    | true => exact ⟨_, rfl⟩
    | false => cases gtI (s.length : Int) 100 <;> exact ⟨_, rfl⟩
/-! Who has an identifier -/
theorem w_has (l : List D) (x : D) (hl : l.length ≤ 1000000) : W (fun K _ => f_slices_ContainsFunc_api_Signer K (.n l) x) (fun r => r = [.b (l.any fun y => (y.at' 0).str == (x.at' 0).str), x]) := by
  unfold f_slices_ContainsFunc_api_Signer f_slices_IndexFunc_api_Signer
  refine W.bind (p := fun r => ∃ i, r = [.i i, x] ∧ geI i 0 = l.any fun y => (y.at' 0).str == (x.at' 0).str) ?_ ?_
  · refine W.bind (W.early l.length (fun j => [.n l, .i l.length, .i j, x]) (fun j => bif (fun y : D => (y.at' 0).str == (x.at' 0).str) (D.nth l j) then some (0, [.i (j : Int), x]) else none) (1, [x]) (fun j hj hp p rc h1 h2 => ?_) (fun rc => ?_)) ?_
    · unfold b_slices_IndexFunc_api_Signer_0
      simp only [D.nth_zero, D.nth_succ, D.list_n, D.int_i, Int.toNat_natCast, p_token_signerFault_1, D.bool_b]
      refine W.cond (fun _ => ?_) (fun h => by simp at h; omega)
      refine W.cond (fun _ => ?_) (fun h => by simp at h; omega)
      refine W.cond (fun h => W.ret (h1 _ (by simp only [h, cond_true]))) (fun h => ?_)
      rw [wrap_i64 (by omega) (by omega)]
      exact h2 (by simp only [h, cond_false])
    · unfold b_slices_IndexFunc_api_Signer_0
      simp only [D.nth_zero, D.nth_succ, D.list_n, D.int_i]
      exact W.cond (fun h => by simp at h) (fun _ => W.ret rfl)
    · rintro _ rfl
      rcases scan_any l (fun y : D => (y.at' 0).str == (x.at' 0).str) (fun j => (0, [D.i (j : Int), x])) (1, [x]) with ⟨ha, i, hi, h⟩ | ⟨ha, h⟩
      · rw [h, ha]
        exact W.ret ⟨i, rfl, by simp⟩
      · rw [h, ha]
        exact W.ret ⟨-1, rfl, by simp⟩
  · rintro _ ⟨i, rfl, h⟩
    exact W.ret (by simp [h])
theorem w_hasb (l : List D) (x : D) (hl : l.length ≤ 1000000) : W (fun K _ => f_slices_ContainsFunc_api_Signerb K (.n l) x) (fun r => r = [.b (l.any fun y => (y.at' 0).str == (x.at' 0).str), x]) := w_has l x hl
theorem w_hasa (l : List D) (x : D) (hl : l.length ≤ 1000000) : W (fun K _ => f_slices_ContainsFunc_api_Signera K (.n l) x) (fun r => r = [.b (l.any fun y => (y.at' 0).str == x.str)]) := by
  unfold f_slices_ContainsFunc_api_Signera f_slices_IndexFunc_api_Signera
  refine W.bind (p := fun r => ∃ i, r = [.i i] ∧ geI i 0 = l.any fun y => (y.at' 0).str == x.str) ?_ ?_
  · refine W.bind (W.early l.length (fun j => [.n l, x, .i l.length, .i j]) (fun j => bif (fun y : D => (y.at' 0).str == x.str) (D.nth l j) then some (0, [.i (j : Int)]) else none) (1, []) (fun j hj hp p rc h1 h2 => ?_) (fun rc => ?_)) ?_
    · unfold b_slices_IndexFunc_api_Signera_0
      simp only [D.nth_zero, D.nth_succ, D.list_n, D.int_i, Int.toNat_natCast, p_token_rotateFault_1, D.bool_b]
      refine W.cond (fun _ => ?_) (fun h => by simp at h; omega)
      refine W.cond (fun _ => ?_) (fun h => by simp at h; omega)
      refine W.cond (fun h => W.ret (h1 _ (by simp only [h, cond_true]))) (fun h => ?_)
      rw [wrap_i64 (by omega) (by omega)]
      exact h2 (by simp only [h, cond_false])
    · unfold b_slices_IndexFunc_api_Signera_0
      simp only [D.nth_zero, D.nth_succ, D.list_n, D.int_i]
      exact W.cond (fun h => by simp at h) (fun _ => W.ret rfl)
    · rintro _ rfl
      rcases scan_any l (fun y : D => (y.at' 0).str == x.str) (fun j => (0, [D.i (j : Int)])) (1, []) with ⟨ha, i, hi, h⟩ | ⟨ha, h⟩
      · rw [h, ha]
        exact W.ret ⟨i, rfl, by simp⟩
      · rw [h, ha]
        exact W.ret ⟨-1, rfl, by simp⟩
  · rintro _ ⟨i, rfl, h⟩
    exact W.ret (by simp [h])
theorem w_hasc (l : List D) (x : D) (hl : l.length ≤ 1000000) : W (fun K _ => f_slices_ContainsFunc_api_Signerc K (.n l) x) (fun r => r = [.b (l.any fun y => (y.at' 0).str == x.str)]) := w_hasa l x hl
/-! ### The error of a list of signers -/
def argB (x : D) : Bool := bif (bif (bif ltI (x.at' 2).int 0 then true else gtI (x.at' 2).int (x.at' 3).int) then true else gtI (x.at' 3).int (x.at' 4).int) then true else gtI (x.at' 4).int 345686400000
def ordB (l : List D) (j : Nat) : Bool := bif gtI (j : Int) 0 then ltI (((D.nth l j).at' 2).int) (((D.nth l ((IntKind.i64.wrap ((j : Int) - (1 : Int))).toNat)).at' 2).int) else false
def sgF (l : List D) (j : Nat) : List D :=
  bif !keyB ((D.nth l j).at' 0).str then [.i 5]
  else bif (l.take j).any (fun y => (y.at' 0).str == ((D.nth l j).at' 0).str) then [.i 6]
  else bif ((D.nth (secD ((D.nth l j).at' 1).str) 0).int != 0) then [D.nth (secD ((D.nth l j).at' 1).str) 0]
  else bif argB (D.nth l j) then [.i 1] else bif ordB l j then [.i 7] else [.i 0]
theorem Sg.at {x : D} (h : Sg x) : ∃ a b c d e, x = .n [.s a, .s b, .i c, .i d, .i e] ∧ a.length ≤ 1000 ∧ b.length ≤ 1000 ∧ (x.at' 0) = .s a ∧ (x.at' 1) = .s b := by
  obtain ⟨a, b, c, d, e, h, h1, h2⟩ := h
  exact ⟨a, b, c, d, e, h, h1, h2, by rw [h]; rfl, by rw [h]; rfl⟩
theorem w_signerFault (l : List D) (hl : SgL l) (j : Nat) (hj : j < l.length) : W (fun K _ => f_token_signerFault K (.n l) (.i (j : Int))) (fun r => r = sgF l j) := by
  have hl10 := hl.1
  unfold f_token_signerFault
  simp only [D.list_n, D.int_i, Int.toNat_natCast]
  obtain ⟨a, b, c, d, e, hx, ha, hb, h0, h1⟩ := (hl.nth hj).at
  have hin : inB (j : Int) l.length = true := inB_mk (by omega) (by omega)
  refine W.cond (fun _ => ?_) (fun h => by rw [hin] at h; cases h)
  rw [h0]
  refine W.bind (w_IsKey a (by omega)) ?_
  rintro _ rfl
  simp only [D.nth_zero, D.bool_b]
  refine W.cond (fun h => W.ret ?_) (fun hk => ?_)
  · simp only [sgF, h0, D.str_s, h, cond_true]
  refine W.cond (fun _ => ?_) (fun h => by simp at h; omega)
  refine W.bind (w_has (l.take j) _ (by rw [List.length_take]; omega)) ?_
  rintro _ rfl
  simp only [D.nth_zero, D.nth_succ, D.bool_b]
  refine W.cond (fun h => W.ret ?_) (fun hh => ?_)
  · have hk' := hk
    simp only [sgF, hk, h, h0, D.str_s, cond_true, cond_false] at *
    simp only [h, cond_true]
  rw [h1]
  refine W.bind (w_secretFault b (by omega)) ?_
  rintro _ rfl
  refine W.cond (fun h => W.ret ?_) (fun hs => ?_)
  · simp only [h0, D.str_s] at hk hh
    simp only [sgF, h0, h1, D.str_s, hk, hh, h, cond_true, cond_false]
  simp only [h0, D.str_s] at hk hh
  have hsg : sgF l j = bif argB (D.nth l j) then [.i 1] else bif ordB l j then [.i 7] else [.i 0] := by simp only [sgF, h0, h1, D.str_s, hk, hh, hs, cond_false]
  rw [hsg]
  simp only [p_kit_Outside, D.nth_zero, D.bool_b, D.int_i]
  refine W.cond (fun h => W.ret ?_) (fun h => ?_)
  · have : argB (D.nth l j) = true := h
    rw [this]; rfl
  · have : argB (D.nth l j) = false := h
    rw [this, cond_false]
    have hw : IntKind.i64.wrap ((j : Int) - 1) = (j : Int) - 1 := wrap_i64 (by omega) (by omega)
    refine W.cond (fun _ => ?_) (fun h => ?_)
    · refine W.cond (fun h => W.ret ?_) (fun h => W.ret ?_)
      · have : ordB l j = true := h
        rw [this]; rfl
      · have : ordB l j = false := h
        rw [this]; rfl
    · rw [hw] at h
      simp at h
      omega
def chkD (l : List D) : List D := bif gtI (l.length : Int) 50 then [.i 2] else
  bif ((scan (fun j => bif ((D.nth (sgF l j) 0).int != 0) then some (0, [D.nth (sgF l j) 0]) else none) (1, []) l.length 0).1.beq 0) then [D.nth (scan (fun j => bif ((D.nth (sgF l j) 0).int != 0) then some (0, [D.nth (sgF l j) 0]) else none) ((1, []) : Nat × List D) l.length 0).2 0] else [.i 0]
theorem w_CheckSigners (l : List D) (hl : SgL l) : W (fun K _ => f_token_CheckSigners K (.n l)) (fun r => r = chkD l) := by
  have hl10 := hl.1
  unfold f_token_CheckSigners chkD
  simp only [D.list_n]
  refine W.cond (fun h => W.ret (by rw [h]; rfl)) (fun h => ?_)
  rw [h, cond_false]
  refine W.bind (W.early l.length (fun j => [.n l, .i l.length, .i j]) (fun j => bif ((D.nth (sgF l j) 0).int != 0) then some (0, [D.nth (sgF l j) 0]) else none) (1, []) (fun j hj hp p rc h1 h2 => ?_) (fun rc => ?_)) ?_
  · unfold b_token_CheckSigners_0
    simp only [D.nth_zero, D.nth_succ, D.int_i]
    refine W.cond (fun _ => ?_) (fun h => by simp at h; omega)
    refine W.bind (w_signerFault l hl j hj) ?_
    rintro _ rfl
    refine W.cond (fun h => W.ret (h1 _ (by simp only [h, cond_true]))) (fun h => ?_)
    rw [wrap_i64 (by omega) (by omega)]
    exact h2 (by simp only [h, cond_false])
  · unfold b_token_CheckSigners_0
    simp only [D.nth_zero, D.nth_succ, D.int_i]
    exact W.cond (fun h => by simp at h) (fun _ => W.ret rfl)
  · rintro _ rfl
    exact W.cond (fun h => W.ret (by rw [h]; rfl)) (fun h => W.ret (by rw [h]; rfl))
theorem w_SignersFault (l : List D) (hl : SgL l) : W (fun K _ => f_gateref2_SignersFault K (.n l)) (fun r => r = chkD l) := by
  have hl10 := hl.1
  unfold f_gateref2_SignersFault chkD
  simp only [D.list_n]
  refine W.cond (fun h => W.ret (by rw [h]; rfl)) (fun h => ?_)
  rw [h, cond_false]
  refine W.bind (W.early l.length (fun j => [.n l, .n l, .i l.length, .i j]) (fun j => bif ((D.nth (sgF l j) 0).int != 0) then some (0, [D.nth (sgF l j) 0]) else none) (1, []) (fun j hj hp p rc g1 g2 => ?_) (fun rc => ?_)) ?_
  · unfold b_gateref2_SignersFault_0
    simp only [D.nth_zero, D.nth_succ, D.int_i, D.list_n, Int.toNat_natCast]
    obtain ⟨a, b, c, d, e, hx, ha, hb, h0, h1⟩ := (hl.nth hj).at
    have hin : inB (j : Int) l.length = true := inB_mk (by omega) (by omega)
    refine W.cond (fun _ => ?_) (fun h => by simp at h; omega)
    refine W.cond (fun _ => ?_) (fun h => by rw [hin] at h; cases h)
    rw [h0]
    refine W.bind (w_Key a (by omega)) ?_
    rintro _ rfl
    simp only [D.nth_zero, D.bool_b]
    refine W.cond (fun h => W.ret (g1 _ ?_)) (fun hk => ?_)
    · have : sgF l j = [.i 5] := by simp only [sgF, h0, D.str_s, h, cond_true]
      rw [this]; rfl
    refine W.cond (fun _ => ?_) (fun h => by simp at h; omega)
    refine W.bind (w_hasb (l.take j) _ (by rw [List.length_take]; omega)) ?_
    rintro _ rfl
    simp only [D.nth_zero, D.nth_succ, D.bool_b]
    refine W.cond (fun h => W.ret (g1 _ ?_)) (fun hh => ?_)
    · simp only [h0, D.str_s] at h
      have : sgF l j = [.i 6] := by simp only [sgF, h0, D.str_s, hk, h, cond_true, cond_false]
      rw [this]; rfl
    rw [h1]
    simp only [h0, D.str_s] at hk hh
    refine W.bind (w_SecretFault b (by omega)) ?_
    rintro _ rfl
    refine W.cond (fun h => W.ret (g1 _ ?_)) (fun hs => ?_)
    · have : sgF l j = [D.nth (secD b) 0] := by simp only [sgF, h0, h1, D.str_s, hk, hh, h, cond_true, cond_false]
      rw [this, D.nth_zero, h]; rfl
    have hsg : sgF l j = bif argB (D.nth l j) then [.i 1] else bif ordB l j then [.i 7] else [.i 0] := by simp only [sgF, h0, h1, D.str_s, hk, hh, hs, cond_false]
    rw [hsg] at g1 g2
    simp only [p_gateref2_in, D.nth_zero, D.bool_b, D.int_i]
    have harg : (bif (bif (!(bif leI 0 ((D.nth l j).at' 2).int then leI ((D.nth l j).at' 2).int ((D.nth l j).at' 3).int else false)) then true else gtI ((D.nth l j).at' 3).int ((D.nth l j).at' 4).int) then true else gtI ((D.nth l j).at' 4).int 345686400000) = argB (D.nth l j) := by
      have e : (!(bif leI 0 ((D.nth l j).at' 2).int then leI ((D.nth l j).at' 2).int ((D.nth l j).at' 3).int else false)) = (bif ltI ((D.nth l j).at' 2).int 0 then true else gtI ((D.nth l j).at' 2).int ((D.nth l j).at' 3).int) := by
        generalize ((D.nth l j).at' 2).int = x
        generalize ((D.nth l j).at' 3).int = y
        cases h1 : leI 0 x <;> cases h2 : leI x y <;> cases h3 : ltI x 0 <;> cases h4 : gtI x y <;> first | rfl | (exfalso; simp at h1 h2 h3 h4; omega)
      rw [e]
      rfl
    rw [harg]
    refine W.cond (fun h => W.ret (g1 _ (by rw [h]; rfl))) (fun h => ?_)
    rw [h, cond_false] at g1 g2
    have hw : IntKind.i64.wrap ((j : Int) - 1) = (j : Int) - 1 := wrap_i64 (by omega) (by omega)
    refine W.cond (fun _ => ?_) (fun h => ?_)
    · refine W.cond (fun h => W.ret (g1 _ ?_)) (fun h => ?_)
      · have : ordB l j = true := h
        rw [this]; rfl
      · have : ordB l j = false := h
        rw [wrap_i64 (x := (j : Int) + 1) (by omega) (by omega)]
        exact g2 (by rw [this]; rfl)
    · rw [hw] at h
      simp at h
      omega
  · unfold b_gateref2_SignersFault_0
    simp only [D.nth_zero, D.nth_succ, D.int_i]
    exact W.cond (fun h => by simp at h) (fun _ => W.ret rfl)
  · rintro _ rfl
    exact W.cond (fun h => W.ret (by rw [h]; rfl)) (fun h => W.ret (by rw [h]; rfl))
/-! ### A signer that is added -/
def badR (vat long life : Int) : Bool := bif (bif (!(bif geI vat 0 then ltI vat 345686400000 else false)) then true else (bif ltI long 1 then true else gtI long 345686400000)) then true else (bif ltI life 0 then true else gtI life 345686400000)
def lastB (l : List D) (vat : Int) : Bool := bif gtI (l.length : Int) 0 then ltI vat (((D.nth l ((IntKind.i64.wrap ((l.length : Int) - (1 : Int))).toNat)).at' 2).int) else false
def rotD (l : List D) (id sec : List UInt8) (vat long life : Int) : List D :=
  bif !keyB id then [.i 5] else bif l.any (fun y => (y.at' 0).str == id) then [.i 6]
  else bif ((D.nth (secD sec) 0).int != 0) then [D.nth (secD sec) 0]
  else bif badR vat long life then [.i 1] else bif lastB l vat then [.i 7] else bif geI (l.length : Int) 50 then [.i 2] else [.i 0]
theorem w_rotateFault (l : List D) (hl : SgL l) (id sec : List UInt8) (hi : id.length ≤ 1000) (hs : sec.length ≤ 1000) (vat long life : Int) :
    W (fun K _ => f_token_rotateFault K (.n l) (.s id) (.s sec) (.i vat) (.i long) (.i life)) (fun r => r = bif ((D.nth (chkD l) 0).int != 0) then [D.nth (chkD l) 0] else rotD l id sec vat long life) := by
  have hl10 := hl.1
  unfold f_token_rotateFault
  refine W.bind (w_CheckSigners l hl) ?_
  rintro _ rfl
  refine W.cond (fun h => W.ret (by rw [h]; rfl)) (fun h => ?_)
  rw [h, cond_false]
  unfold rotD
  refine W.bind (w_IsKey id (by omega)) ?_
  rintro _ rfl
  simp only [D.nth_zero, D.bool_b]
  refine W.cond (fun h => W.ret (by rw [h]; rfl)) (fun h => ?_)
  rw [h, cond_false]
  refine W.bind (w_hasa l _ (by omega)) ?_
  rintro _ rfl
  simp only [D.nth_zero, D.bool_b, D.str_s]
  refine W.cond (fun h => W.ret (by rw [h]; rfl)) (fun h => ?_)
  rw [h, cond_false]
  refine W.bind (w_secretFault sec (by omega)) ?_
  rintro _ rfl
  refine W.cond (fun h => W.ret (by rw [h]; rfl)) (fun h => ?_)
  rw [h, cond_false]
  simp only [p_kit_IsMoment, p_kit_Outside, D.nth_zero, D.bool_b, D.int_i, D.list_n]
  refine W.cond (fun h => W.ret ?_) (fun h => ?_)
  · have : badR vat long life = true := h
    rw [this]; rfl
  have : badR vat long life = false := h
  rw [this, cond_false]
  have hw : IntKind.i64.wrap ((l.length : Int) - 1) = (l.length : Int) - 1 := wrap_i64 (by omega) (by omega)
  refine W.cond (fun _ => ?_) (fun h => ?_)
  · refine W.cond (fun h => W.ret ?_) (fun h => ?_)
    · have : lastB l vat = true := h
      rw [this]; rfl
    · have : lastB l vat = false := h
      rw [this, cond_false]
      exact W.cond (fun h => W.ret (by rw [h]; rfl)) (fun h => W.ret (by rw [h]; rfl))
  · rw [hw] at h
    simp at h
    omega
def setTo (vat : Int) (x : D) : D := .n [x.at' 0, x.at' 1, x.at' 2, .i (minI (x.at' 3).int vat), x.at' 4]
def newS (id sec : List UInt8) (vat long life : Int) : D := .n [.s id, .s sec, .i vat, .i (minI (IntKind.i64.wrap (vat + long)) 345686400000), .i (minI (IntKind.i64.wrap ((minI (IntKind.i64.wrap (vat + long)) 345686400000) + life)) 345686400000)]
def ansR (e : List D) (l : List D) (id sec : List UInt8) (vat long life : Int) : List D := bif ((D.nth e 0).int != 0) then [D.nth e 0, .n []] else [.i 0, .n (l.map (setTo vat) ++ [newS id sec vat long life])]
theorem w_Rotate (l : List D) (hl : SgL l) (id sec : List UInt8) (hi : id.length ≤ 1000) (hs : sec.length ≤ 1000) (vat long life : Int) :
    W (fun K _ => f_token_Rotate K (.n l) (.s id) (.s sec) (.i vat) (.i long) (.i life)) (fun r => r = ansR (bif ((D.nth (chkD l) 0).int != 0) then [D.nth (chkD l) 0] else rotD l id sec vat long life) l id sec vat long life) := by
  have hl10 := hl.1
  unfold f_token_Rotate
  refine W.bind (w_rotateFault l hl id sec hi hs vat long life) ?_
  rintro _ rfl
  generalize (bif ((D.nth (chkD l) 0).int != 0) then [D.nth (chkD l) 0] else rotD l id sec vat long life) = e
  unfold ansR
  refine W.cond (fun h => W.ret (by rw [h]; rfl)) (fun h => ?_)
  rw [h, cond_false]
  unfold f_slices_Clone_api_Signer b_slices_Clone_api_Signer_0
  refine W.bind (p := fun r => r = [.n l]) ?_ ?_
  · refine W.bind (p := fun r => r = (0, [.n l])) ?_ ?_
    · simp only [D.nth_zero, D.list_n]
      exact W.cond (fun _ => W.ret rfl) (fun h => absurd (lim_mk (n := 0 + l.length) (by omega)) (by rw [h]; simp))
    · rintro _ rfl
      exact W.ret rfl
  · rintro _ rfl
    simp only [D.nth_zero, D.list_n, D.int_i]
    refine W.bind (W.each l (fun j row => [.i vat, .i (l.length : Int), .i (j : Int), .n row]) (setTo vat) (fun row => (0, [.n row])) (fun j row hj hr hn p rc h1 => ?_) (fun row hr rc => ?_)) ?_
    · unfold b_token_Rotate_0
      simp only [D.nth_zero, D.nth_succ, D.int_i, D.list_n, Int.toNat_natCast]
      refine W.cond (fun _ => ?_) (fun h => by simp at h; omega)
      refine W.cond (fun _ => ?_) (fun h => by simp at h; omega)
      refine W.cond (fun _ => ?_) (fun h => by simp at h; omega)
      rw [wrap_i64 (by omega) (by omega), hn]
      obtain ⟨a, b, c, d, e, hx, ha, hb⟩ := hl.nth hj
      rw [hx] at h1 ⊢
      exact h1
    · unfold b_token_Rotate_0
      simp only [D.nth_zero, D.nth_succ, D.int_i, D.list_n]
      exact W.cond (fun h => by simp at h) (fun _ => W.ret rfl)
    · rintro _ rfl
      simp only [D.nth_zero, D.list_n]
      exact W.cond (fun _ => W.ret rfl) (fun h => absurd (lim_mk (n := (l.map (setTo vat)).length + 1) (by simp; omega)) (by rw [h]; simp))
theorem w_RotateOf (l : List D) (hl : SgL l) (id sec : List UInt8) (hi : id.length ≤ 1000) (hs : sec.length ≤ 1000) (vat long life : Int) :
    W (fun K _ => f_gateref2_RotateOf K (.n l) (.s id) (.s sec) (.i vat) (.i long) (.i life)) (fun r => r = ansR (rotD l id sec vat long life) l id sec vat long life) := by
  have hl10 := hl.1
  unfold f_gateref2_RotateOf
  unfold rotD
  refine W.bind (w_Key id (by omega)) ?_
  rintro _ rfl
  simp only [D.nth_zero, D.bool_b]
  refine W.cond (fun h => W.ret (by rw [h]; rfl)) (fun h => ?_)
  rw [h, cond_false]
  refine W.bind (w_hasc l _ (by omega)) ?_
  rintro _ rfl
  simp only [D.nth_zero, D.bool_b, D.str_s]
  refine W.cond (fun h => W.ret (by rw [h]; rfl)) (fun h => ?_)
  rw [h, cond_false]
  refine W.bind (w_SecretFault sec (by omega)) ?_
  rintro _ rfl
  refine W.cond (fun h => W.ret (by rw [h]; simp only [cond_true, ansR, D.nth_zero, h])) (fun h => ?_)
  rw [h, cond_false]
  simp only [p_gateref2_Moment, p_gateref2_in, D.nth_zero, D.bool_b, D.int_i, D.list_n]
  have harg : (bif (bif (!(bif leI 0 vat then leI vat 345686399999 else false)) then true else (!(bif leI 1 long then leI long 345686400000 else false))) then true else (!(bif leI 0 life then leI life 345686400000 else false))) = badR vat long life := by
    have e1 : (!(bif leI 0 vat then leI vat 345686399999 else false)) = (!(bif geI vat 0 then ltI vat 345686400000 else false)) := by
      cases h1 : leI 0 vat <;> cases h2 : leI vat 345686399999 <;> cases h3 : geI vat 0 <;> cases h4 : ltI vat 345686400000 <;> first | rfl | (exfalso; simp at h1 h2 h3 h4; omega)
    have e2 : ∀ (x a b : Int), (!(bif leI a x then leI x b else false)) = (bif ltI x a then true else gtI x b) := fun x a b => by
      cases h1 : leI a x <;> cases h2 : leI x b <;> cases h3 : ltI x a <;> cases h4 : gtI x b <;> first | rfl | (exfalso; simp at h1 h2 h3 h4; omega)
    rw [e1, e2, e2]
    rfl
  rw [harg]
  refine W.cond (fun h => W.ret (by rw [h]; rfl)) (fun h => ?_)
  rw [h, cond_false]
  have hw : IntKind.i64.wrap ((l.length : Int) - 1) = (l.length : Int) - 1 := wrap_i64 (by omega) (by omega)
  refine W.cond (fun _ => ?_) (fun h => ?_)
  · refine W.cond (fun h => W.ret ?_) (fun h => ?_)
    · have : lastB l vat = true := h
      rw [this]; rfl
    · have : lastB l vat = false := h
      rw [this, cond_false]
      refine W.cond (fun h => W.ret (by rw [h]; rfl)) (fun h => ?_)
      rw [h, cond_false]
      refine W.bind (W.foldl l (fun j row => [.i vat, .n l, .i (l.length : Int), .i (j : Int), .n row]) (fun acc x => acc ++ [setTo vat x]) [] (p := fun r => r = (0, [.n (l.map (setTo vat))])) (fun j row hj hrow h1 => ?_) ?_) ?_
      · have hlen : row.length = j := by rw [hrow, foldl_snoc]; simp; omega
        refine W.congr (b := fun K n => bif lim (row.length + 1) then fixN (b_gateref2_RotateOf_0 K) n [.i vat, .n l, .i (l.length : Int), .i ((j + 1 : Nat) : Int), .n (row ++ [setTo vat (D.nth l j)])] else none) ?_ fun K n => ?_
        · exact W.cond (fun _ => h1) (fun h => absurd (lim_mk (n := row.length + 1) (by omega)) (by rw [h]; simp))
        · have hlt : ltI (j : Int) (l.length : Int) = true := by simp; omega
          have hin : inB (j : Int) l.length = true := inB_mk (by omega) (by omega)
          have e1 : IntKind.i64.wrap ((j : Int) + 1) = ((j + 1 : Nat) : Int) := by rw [wrap_i64 (by omega) (by omega)]; omega
          show b_gateref2_RotateOf_0 K _ _ = _
          conv => lhs; unfold b_gateref2_RotateOf_0
          simp only [D.nth_zero, D.nth_succ, D.int_i, D.list_n, Int.toNat_natCast, hlt, hin, cond_true, e1]
          rfl
      · refine W.congr (b := fun _ _ => some (0, [.n (l.map (setTo vat))])) (W.ret rfl) fun K n => ?_
        have hlt : ltI (l.length : Int) (l.length : Int) = false := by simp
        conv => lhs; unfold b_gateref2_RotateOf_0
        simp only [D.nth_zero, D.nth_succ, D.int_i, D.list_n, hlt, cond_false, foldl_snoc, List.nil_append]
      · rintro _ rfl
        simp only [D.nth_zero, D.list_n]
        exact W.cond (fun _ => W.ret rfl) (fun h => absurd (lim_mk (n := (l.map (setTo vat)).length + 1) (by simp; omega)) (by rw [h]; simp))
  · rw [hw] at h
    simp at h
    omega
theorem w_EqualS (l : List D) (hl : l.length ≤ 1000) : W (fun K _ => f_slices_Equal_api_Signer K (.n l) (.n l)) (fun r => r = [.b true]) := by
  unfold f_slices_Equal_api_Signer
  simp only [D.list_n]
  refine W.cond (fun h => by simp at h) (fun _ => ?_)
  refine W.bind (W.early l.length (fun j => [.n l, .n l, .i l.length, .i j]) (fun j => none) (1, []) (fun j hj hp p rc h1 h2 => ?_) (fun rc => ?_)) ?_
  · unfold b_slices_Equal_api_Signer_0
    simp only [D.nth_zero, D.nth_succ, D.list_n, D.int_i, Int.toNat_natCast, eqK_refl]
    refine W.cond (fun _ => ?_) (fun h => by simp at h; omega)
    refine W.cond (fun _ => ?_) (fun h => by simp at h; omega)
    refine W.cond (fun _ => ?_) (fun h => by simp at h; omega)
    refine W.cond (fun h => by simp at h) (fun _ => ?_)
    rw [wrap_i64 (by omega) (by omega)]
    exact h2 rfl
  · unfold b_slices_Equal_api_Signer_0
    simp only [D.nth_zero, D.nth_succ, D.list_n, D.int_i]
    exact W.cond (fun h => by simp at h) (fun _ => W.ret rfl)
  · rintro _ rfl
    rcases scan_cases (fun _ => none) ((1, []) : Nat × List D) l.length 0 with ⟨i, r, _, _, h, _⟩ | ⟨_, h⟩
    · cases h
    · rw [h]
      exact W.ret rfl
theorem signed : W (fun K _ => f_gatelaw2_signed K) (· = [.b true]) :=
  ⟨_, rfl, 20, fun K n hK hn => by
    obtain ⟨m, rfl⟩ : ∃ m, K = m + 20 := ⟨K - 20, by omega⟩
    kernel_rfl⟩
theorem pure (zs : List Int) (h : zs.length ≤ maxLen) (hw : ∀ n ∈ zs, (Lit.int .i64 n).wf = true) : ∃ K, f_gatelaw2_SignersRotate K (.n (zs.map D.i)) = some [.b true] := by
  have : W (fun K _ => f_gatelaw2_SignersRotate K (.n (zs.map D.i))) (· = [.b true]) := by
    unfold f_gatelaw2_SignersRotate
    refine W.bind (w_Signers 0 _ ⟨_, 0, rfl, by omega, by omega⟩ (by omega)) ?_
    rintro _ ⟨s1, l, rfl, hl, h1⟩
    simp only [D.nth_zero, D.nth_succ, D.list_n]
    refine W.bind (w_Some _ s1 _ h1 (by omega) (by simp) (by simp)) ?_
    rintro _ ⟨x, s2, t, rfl, hx, h2⟩
    have hid : ∃ id : List UInt8, x = .s id ∧ id.length ≤ 1000 := by
      simp only [List.mem_cons, List.not_mem_nil, or_false] at hx
      rcases hx with rfl | rfl | rfl | rfl | rfl | rfl <;> exact ⟨_, rfl, by simp⟩
    obtain ⟨id, rfl, hid⟩ := hid
    refine W.bind (w_Secret _ s2 h2 (by omega)) ?_
    rintro _ ⟨sec, s3, rfl, hsec, h3⟩
    refine W.bind (p := fun r => ∃ vat s4, r = [.i vat, s4] ∧ St 50 s4) ?_ ?_
    · unfold f_gatemake_Stream_Moment
      refine W.bind (w_Pick _ s3 _ h3 (by omega) (by simp) (by simp)) ?_
      rintro _ ⟨y, s4, t, rfl, hy, h4⟩
      simp only [List.mem_cons, List.not_mem_nil, or_false] at hy
      rcases hy with rfl | rfl | rfl | rfl | rfl | rfl | rfl | rfl | rfl | rfl | rfl | rfl | rfl | rfl | rfl <;> exact W.ret ⟨_, s4, rfl, h4.le (by omega)⟩
    rintro _ ⟨vat, s4, rfl, h4⟩
    simp only [D.nth_zero, D.nth_succ]
    refine W.bind (w_Pick _ s4 _ h4 (by omega) (by simp) (by simp)) ?_
    rintro _ ⟨y, s5, t, rfl, hy, h5⟩
    have hlong : ∃ n : Int, y = .i n := by
      simp only [List.mem_cons, List.not_mem_nil, or_false] at hy
      rcases hy with rfl | rfl | rfl | rfl | rfl | rfl <;> exact ⟨_, rfl⟩
    obtain ⟨long, rfl⟩ := hlong
    refine W.bind (w_Pick _ s5 _ h5 (by omega) (by simp) (by simp)) ?_
    rintro _ ⟨y, s6, t, rfl, hy, h6⟩
    have hlife : ∃ n : Int, y = .i n := by
      simp only [List.mem_cons, List.not_mem_nil, or_false] at hy
      rcases hy with rfl | rfl | rfl | rfl | rfl <;> exact ⟨_, rfl⟩
    obtain ⟨life, rfl⟩ := hlife
    simp only [D.nth_zero, D.nth_succ]
    refine W.bind (w_Rotate l hl id sec hid hsec vat long life) ?_
    rintro _ rfl
    refine W.bind (w_SignersFault l hl) ?_
    rintro _ rfl
    have hfin : ∀ (e : D) (m : List D), m.length ≤ 1000 → W (fun K _ => (f_slices_Equal_api_Signer K (.n m) (.n m)).bind fun t10 => bif (D.nth t10 0).bool then (f_gatelaw2_signed K).bind fun t11 => some [D.b ((D.nth t11 0).bool)] else some [D.b false]) (· = [.b true]) := fun e m hm => by
      refine W.bind (w_EqualS m hm) ?_
      rintro _ rfl
      simp only [D.nth_zero, D.bool_b]
      refine W.cond (fun _ => ?_) (fun h => by cases h)
      refine W.bind signed ?_
      rintro _ rfl
      exact W.ret rfl
    have hl10 := hl.1
    unfold b_gatelaw2_SignersRotate_0
    simp only [D.nth_zero, D.nth_succ, D.list_n, D.bool_b]
    cases hc : ((D.nth (chkD l) 0).int == (0 : Int)) with
    | true =>
      have hc' : ((D.nth (chkD l) 0).int != (0 : Int)) = false := by simp only [bne, hc]; rfl
      rw [hc', cond_false]
      refine W.bind (p := fun r => r = (0, [D.nth (ansR (rotD l id sec vat long life) l id sec vat long life) 0, .n l, .n (D.nth (ansR (rotD l id sec vat long life) l id sec vat long life) 1).list])) ?_ ?_
      · refine W.cond (fun _ => ?_) (fun h => by cases h)
        refine W.bind (w_RotateOf l hl id sec hid hsec vat long life) ?_
        rintro _ rfl
        exact W.ret rfl
      · rintro _ rfl
        simp only [D.nth_zero, D.nth_succ, D.list_n]
        refine W.cond (fun _ => ?_) (fun h => by simp at h)
        refine hfin (.i 0) _ ?_
        unfold ansR
        cases ((D.nth (rotD l id sec vat long life) 0).int != 0) with
        | true => simp
        | false => simp; omega
    | false =>
      have hc' : ((D.nth (chkD l) 0).int != (0 : Int)) = true := by simp only [bne, hc]; rfl
      rw [hc', cond_true]
      refine W.bind (p := fun r => r = (0, [D.nth (chkD l) 0, .n l, .n []])) ?_ ?_
      · exact W.cond (fun h => by cases h) (fun _ => W.ret rfl)
      · rintro _ rfl
        simp only [ansR, D.nth_zero, D.nth_succ, D.list_n, hc', cond_true]
        refine W.cond (fun _ => ?_) (fun h => by simp at h)
        exact hfin (.i 0) [] (by simp)
  obtain ⟨K, r, h1, rfl⟩ := this.get
  exact ⟨K, h1⟩
end Go.Proofs.YtlogmjgkbfahjaaP
