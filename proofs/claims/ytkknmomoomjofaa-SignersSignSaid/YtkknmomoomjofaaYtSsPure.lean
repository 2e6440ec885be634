/- The plain law: what the printed functions come to. -/
import Derived.Test.YtkknmomoomjofaaYtSs
import Derived.Test.YtkknmomoomjofaaEvPure
namespace Go.Proofs.YtkknmomoomjofaaP
open Go Go.Ev
set_option linter.unusedVariables false
set_option linter.unusedSimpArgs false
/-! ### The stream of numbers -/
def St (c : Int) (s : D) : Prop := ∃ L at', s = .n [L, .i at'] ∧ 0 ≤ at' ∧ at' ≤ c
theorem St.le {c c' : Int} {s : D} (h : St c s) (hc : c ≤ c') : St c' s := let ⟨L, a, h1, h2, h3⟩ := h; ⟨L, a, h1, h2, by omega⟩
theorem w_Below (x n : D) (hn : n.int ≤ 4611686018427387904) : W (fun K _ => f_gatemake_Below K x n) (fun r => ∃ i, r = [.i i] ∧ 0 ≤ i ∧ (1 ≤ n.int → i < n.int)) := by
  unfold f_gatemake_Below
  refine W.cond (fun h => ?_) (fun h => ?_)
  · simp at h
    exact W.ret ⟨0, rfl, by omega, by omega⟩
  · simp at h
    have h1 := Int.tmod_lt_of_pos x.int (show 0 < n.int by omega)
    have h2 := Int.lt_tmod_of_pos x.int (show 0 < n.int by omega)
    refine W.cond (fun _ => ?_) (fun h' => by simp at h'; omega)
    refine W.cond (fun h' => ?_) (fun h' => ?_)
    · simp at h'
      rw [wrap_i64 (by omega) (by omega)]
      exact W.ret ⟨_, rfl, by omega, fun _ => by omega⟩
    · simp at h'
      exact W.ret ⟨_, rfl, by omega, fun _ => by omega⟩
theorem w_Next (c : Int) (n s : D) (hs : St c s) (hc : c ≤ 1000000000000) (hn : n.int ≤ 4611686018427387904) : W (fun K _ => f_gatemake_Stream_Next K n s) (fun r => ∃ i s', r = [.i i, s'] ∧ 0 ≤ i ∧ (1 ≤ n.int → i < n.int) ∧ St (c + 1) s') := by
  obtain ⟨L, a, rfl, h1, h2⟩ := hs
  unfold f_gatemake_Stream_Next
  simp only [D.at_n, D.nth_zero, D.nth_succ, D.int_i]
  have e1 : IntKind.i64.wrap (a + 1) = a + 1 := wrap_i64 (by omega) (by omega)
  have e2 : IntKind.i64.wrap (a + 1 - 1) = a := by rw [wrap_i64 (by omega) (by omega)]; omega
  simp only [e1, e2]
  have hfin : ∀ i : Int, 0 ≤ i → (1 ≤ n.int → i < n.int) → W (fun _ _ => some [D.i i, D.n [L, D.i (a + 1)]]) (fun r => ∃ i s', r = [.i i, s'] ∧ 0 ≤ i ∧ (1 ≤ n.int → i < n.int) ∧ St (c + 1) s') := fun i h3 h4 => W.ret ⟨i, _, rfl, h3, h4, L, a + 1, rfl, by omega, by omega⟩
  refine W.cond (fun h => ?_) (fun h => ?_)
  · refine W.bind (w_Below _ n hn) ?_
    rintro _ ⟨i, rfl, h3, h4⟩
    exact hfin i h3 h4
  · have hL : 0 < L.list.length := by
      simp only [beq_eq_false_iff_ne, ne_eq] at h
      omega
    refine W.cond (fun _ => ?_) (fun h' => by simp at h'; simp [h'] at hL)
    refine W.cond (fun _ => ?_) (fun h' => by simp at h'; simp [h'] at hL)
    have h5 := Int.tmod_nonneg (L.list.length : Int) h1
    have h6 := Int.tmod_lt_of_pos a (show 0 < (L.list.length : Int) by omega)
    refine W.cond (fun _ => ?_) (fun h' => by simp [inB] at h'; omega)
    refine W.bind (w_Below _ (.i 1073741824) (by simp)) ?_
    rintro _ ⟨i, rfl, _, _⟩
    refine W.bind (w_Below _ n hn) ?_
    rintro _ ⟨j, rfl, h3, h4⟩
    exact hfin j h3 h4
theorem w_Flip (c : Int) (n s : D) (hs : St c s) (hc : c ≤ 1000000000000) (hn : n.int ≤ 4611686018427387904) : W (fun K _ => f_gatemake_Stream_Flip K n s) (fun r => ∃ b s', r = [.b b, s'] ∧ St (c + 1) s') := by
  unfold f_gatemake_Stream_Flip
  refine W.bind (w_Next c n s hs hc hn) ?_
  rintro _ ⟨i, s', rfl, _, _, h⟩
  exact W.ret ⟨_, s', rfl, h⟩
theorem nth_mem : ∀ {l : List D} {j : Nat}, j < l.length → D.nth l j ∈ l
  | a :: l, 0, _ => by simp
  | a :: l, j + 1, h => by simp only [D.nth_succ]; exact List.mem_cons_of_mem _ (nth_mem (by simpa using h))
/-- One of some numbers (or other data). -/
theorem w_Pick (c : Int) (s : D) (l : List D) (hs : St c s) (hc : c ≤ 1000000000000) (hl : l ≠ []) (hl2 : l.length ≤ 1000000) : W (fun K _ => f_gatemake_Stream_Pick K s (.n l)) (fun r => ∃ x s' t, r = [x, s', t] ∧ x ∈ l ∧ St (c + 1) s') := by
  unfold f_gatemake_Stream_Pick
  have : 0 < l.length := List.length_pos_iff.2 hl
  refine W.bind (w_Next c _ s hs hc (by simp; omega)) ?_
  rintro _ ⟨i, s', rfl, h1, h2, h3⟩
  simp only [D.int_i, D.list_n] at h2
  have h2 := h2 (by omega)
  refine W.cond (fun h => ?_) (fun h => absurd (inB_mk h1 h2) (by rw [D.nth_zero, D.int_i, D.list_n] at h; rw [h]; simp))
  exact W.ret ⟨_, s', _, rfl, nth_mem (show i.toNat < l.length by omega), h3⟩
theorem w_Range (c : Int) (lo hi : Int) (s : D) (hs : St c s) (hc : c ≤ 1000000000000) (h1 : 0 ≤ lo) (h2 : hi ≤ 1000000000000) : W (fun K _ => f_gatemake_Stream_Range K (.i lo) (.i hi) s) (fun r => ∃ x s', r = [.i x, s'] ∧ lo ≤ x ∧ (lo ≤ hi → x ≤ hi) ∧ St (c + 1) s') := by
  unfold f_gatemake_Stream_Range
  refine W.cond (fun h => ?_) (fun h => ?_)
  · simp at h
    exact W.ret ⟨lo, s, rfl, by omega, by omega, hs.le (by omega)⟩
  · simp at h
    have e1 : IntKind.i64.wrap (hi - lo) = hi - lo := wrap_i64 (by omega) (by omega)
    have e2 : IntKind.i64.wrap (hi - lo + 1) = hi - lo + 1 := wrap_i64 (by omega) (by omega)
    simp only [D.int_i, e1, e2]
    refine W.bind (w_Next c _ s hs hc (by simp; omega)) ?_
    rintro _ ⟨i, s', rfl, h3, h4, h5⟩
    simp only [D.int_i] at h4
    have h4 := h4 (by omega)
    simp only [D.nth_zero, D.nth_succ, D.int_i]
    rw [wrap_i64 (by omega) (by omega)]
    exact W.ret ⟨_, s', rfl, by omega, fun _ => by omega, h5⟩
theorem w_Odd (c : Int) (lo hi : Int) (s : D) (hs : St c s) (hc : c ≤ 999999999990) (h1 : 0 ≤ lo) (h0 : lo ≤ hi) (h2 : hi ≤ 1000000000000) : W (fun K _ => f_gatemake_Stream_Odd K (.i lo) (.i hi) s) (fun r => ∃ x s', r = [.i x, s'] ∧ -2000000000000 ≤ x ∧ x ≤ 2000000000000 ∧ St (c + 2) s') := by
  unfold f_gatemake_Stream_Odd
  refine W.bind (w_Flip c _ s hs (by omega) (by simp)) ?_
  rintro _ ⟨b, s', rfl, h3⟩
  simp only [D.nth_zero, D.nth_succ, D.bool_b]
  have e1 : IntKind.i64.wrap (lo - 1) = lo - 1 := wrap_i64 (by omega) (by omega)
  have e2 : IntKind.i64.wrap (hi + 1) = hi + 1 := wrap_i64 (by omega) (by omega)
  simp only [D.int_i, e1, e2]
  refine W.cond (fun _ => ?_) (fun _ => ?_)
  · refine W.bind (w_Pick (c + 1) s' _ h3 (by omega) (by simp) (by simp)) ?_
    rintro _ ⟨x, s2, t, rfl, hx, h4⟩
    simp only [List.mem_cons, List.not_mem_nil, or_false] at hx
    rcases hx with rfl | rfl | rfl | rfl | rfl | rfl <;> exact W.ret ⟨_, s2, rfl, by omega, by omega, h4.le (by omega)⟩
  · refine W.bind (w_Range (c + 1) lo hi s' h3 (by omega) h1 h2) ?_
    rintro _ ⟨x, s2, rfl, h4, h5, h6⟩
    exact W.ret ⟨x, s2, rfl, by omega, by have := h5 h0; omega, h6.le (by omega)⟩
/-! ### Keys -/
def smallC (c : UInt8) : Bool := bif leI 97 c.toNat then leI c.toNat 122 else false
def digitC (c : UInt8) : Bool := bif leI 48 c.toNat then leI c.toNat 57 else false
def restC (c : UInt8) : Bool := smallC c || (digitC c || (((c.toNat : Int) == 45) || ((c.toNat : Int) == 95)))
def smallL : List UInt8 := [97, 98, 99, 100, 101, 102, 103, 104, 105, 106, 107, 108, 109, 110, 111, 112, 113, 114, 115, 116, 117, 118, 119, 120, 121, 122]
def restL : List UInt8 := [97, 98, 99, 100, 101, 102, 103, 104, 105, 106, 107, 108, 109, 110, 111, 112, 113, 114, 115, 116, 117, 118, 119, 120, 121, 122, 48, 49, 50, 51, 52, 53, 54, 55, 56, 57, 45, 95]
def keyB (s : List UInt8) : Bool := (leI 1 s.length && leI s.length 40) && ((s.take 1).all smallC && s.all restC)
theorem small_cls (c : UInt8) : (!ltI (Lib.indexByte smallL c) 0) = smallC c := by
  have := all256 (p := fun c => (!ltI (Lib.indexByte smallL c) 0) == smallC c) (by kernel_rfl) c
  simpa using this
theorem rest_cls (c : UInt8) : (!ltI (Lib.indexByte restL c) 0) = restC c := by
  have := all256 (p := fun c => (!ltI (Lib.indexByte restL c) 0) == restC c) (by kernel_rfl) c
  simpa using this
theorem w_only (s l : List UInt8) (hs : s.length ≤ 1000000000000) : W (fun K _ => f_gateref2_only K (.s s) (.s l)) (fun r => r = [.b (s.all fun c => !ltI (Lib.indexByte l c) 0)]) := by
  unfold f_gateref2_only
  refine W.bind (W.early s.length (fun j => [.s s, .s l, .i s.length, .i j]) (fun j => bif !ltI (Lib.indexByte l (s.getD j 0)) 0 then none else some (0, [.b false])) (1, []) (fun j hj hp p rc h1 h2 => ?_) (fun rc => ?_)) ?_
  · unfold b_gateref2_only_0
    simp only [D.nth_zero, D.nth_succ, D.str_s, D.int_i, Int.toNat_natCast]
    refine W.cond (fun _ => ?_) (fun h => by simp at h; omega)
    refine W.cond (fun _ => ?_) (fun h => by simp at h; omega)
    simp only [p_strings_IndexByte, p_stringslite_IndexByte, p_bytealg_IndexByteString, D.nth_zero, D.int_i, D.str_s, byteAt_getD, toUInt8_byte]
    refine W.cond (fun h => W.ret (h1 _ (by rw [h]; rfl))) (fun h => ?_)
    rw [wrap_i64 (by omega) (by omega)]
    exact h2 (by rw [h]; rfl)
  · unfold b_gateref2_only_0
    simp only [D.nth_zero, D.nth_succ, D.str_s, D.int_i]
    exact W.cond (fun h => by simp at h) (fun _ => W.ret rfl)
  · rintro _ rfl
    rw [scan_all s (fun c => !ltI (Lib.indexByte l c) 0)]
    cases s.all fun c => !ltI (Lib.indexByte l c) 0 with
    | true => exact W.ret rfl
    | false => exact W.ret rfl
theorem w_Key (s : List UInt8) (hs : s.length ≤ 1000000000000) : W (fun K _ => f_gateref2_Key K (.s s)) (fun r => r = [.b (keyB s)]) := by
  unfold f_gateref2_Key
  simp only [p_gateref2_in, D.nth_zero, D.bool_b, D.int_i, D.str_s]
  refine W.cond (fun _ => ?_) (fun h => ?_)
  · refine W.cond (fun h => ?_) (fun h => W.ret ?_)
    · have h0 : (leI 1 s.length && leI s.length 40) = true := by cases h1 : leI 1 (s.length : Int) <;> cases h2 : leI (s.length : Int) 40 <;> simp_all
      refine W.bind (w_only (s.take 1) smallL (by rw [List.length_take]; omega)) ?_
      rintro _ rfl
      simp only [small_cls, D.nth_zero, D.bool_b]
      refine W.cond (fun h1 => ?_) (fun h1 => W.ret ?_)
      · refine W.bind (w_only s restL hs) ?_
        rintro _ rfl
        simp only [rest_cls, D.nth_zero, D.bool_b]
        exact W.ret (by simp only [keyB, h0, h1, Bool.true_and])
      · simp only [keyB, h0, h1, Bool.true_and, Bool.false_and]
    · have h0 : (leI 1 s.length && leI s.length 40) = false := by cases h1 : leI 1 (s.length : Int) <;> cases h2 : leI (s.length : Int) 40 <;> simp_all
      simp only [keyB, h0, Bool.false_and]
  · cases h1 : leI 1 (s.length : Int) <;> cases h2 : leI (s.length : Int) 40 <;> simp_all
    omega
def badK (s : List UInt8) (j : Nat) : Bool := !(bif smallC (s.getD j 0) then true else (bif gtI j 0 then restC (s.getD j 0) else false))
theorem keyB_scan (s : List UInt8) (h : ∀ j, j < s.length → badK s j = false) : keyB s = (!(s == []) && leI s.length 40) := by
  cases s with
  | nil => rfl
  | cons a t =>
    have h0 := h 0 (by simp)
    have ha : smallC a = true := by
      simp only [badK, List.getD_cons_zero] at h0
      cases hc : smallC a with
      | true => rfl
      | false => rw [hc] at h0; simp [gtI] at h0
    have hall : (a :: t).all restC = true := by
      rw [all_getD]
      intro j hj
      have := h j hj
      simp only [badK] at this
      cases hc : smallC ((a :: t).getD j 0) with
      | true => simp only [restC, hc, Bool.true_or]
      | false =>
        rw [hc] at this
        cases hg : gtI (j : Int) 0 with
        | false => rw [hg] at this; simp at this
        | true => rw [hg] at this; simpa using this
    have h1 : leI 1 ((a :: t).length : Int) = true := by simp; omega
    have h2 : (a :: t).take 1 = [a] := rfl
    have h3 : ((a :: t) == []) = false := rfl
    simp only [keyB, hall, h1, h2, h3, List.all_cons, List.all_nil, ha, Bool.true_and, Bool.and_true, Bool.not_false]
theorem keyB_bad (s : List UInt8) (j : Nat) (hj : j < s.length) (h : badK s j = true) : keyB s = false := by
  cases s with
  | nil => simp at hj
  | cons a t =>
    cases j with
    | zero =>
      simp only [badK, List.getD_cons_zero] at h
      cases hc : smallC a with
      | true => rw [hc] at h; simp at h
      | false => simp [keyB, hc]
    | succ j =>
      have hr : restC ((a :: t).getD (j + 1) 0) = false := by
        simp only [badK] at h
        have hg : gtI ((j + 1 : Nat) : Int) 0 = true := by simp
        rw [hg] at h
        cases hc : smallC ((a :: t).getD (j + 1) 0) with
        | true => rw [hc] at h; simp at h
        | false => rw [hc] at h; simpa using h
      have : (a :: t).all restC = false := by
        rw [← Bool.not_eq_true, all_getD]
        intro hall
        rw [hall (j + 1) hj] at hr
        cases hr
      simp only [keyB, this, Bool.and_false]
theorem w_IsKey (s : List UInt8) (hs : s.length ≤ 1000000000000) : W (fun K _ => f_kit_IsKey K (.s s)) (fun r => r = [.b (keyB s)]) := by
  unfold f_kit_IsKey
  refine W.bind (W.early s.length (fun j => [.s s, .i j]) (fun j => bif badK s j then some (0, [.b false]) else none) (1, []) (fun j hj hp p rc h1 h2 => ?_) (fun rc => ?_)) ?_
  · unfold b_kit_IsKey_0
    simp only [D.nth_zero, D.nth_succ, D.str_s, D.int_i, Int.toNat_natCast, byteAt_getD]
    refine W.cond (fun _ => ?_) (fun h => by simp at h; omega)
    refine W.cond (fun _ => ?_) (fun h => by simp at h; omega)
    have e : (!(bif (bif (geI ((s.getD j 0).toNat : Int) 97) then (leI ((s.getD j 0).toNat : Int) 122) else false) then true else (bif (gtI (j : Int) 0) then (bif (bif (bif (geI ((s.getD j 0).toNat : Int) 48) then (leI ((s.getD j 0).toNat : Int) 57) else false) then true else (((s.getD j 0).toNat : Int) == (45 : Int))) then true else (((s.getD j 0).toNat : Int) == (95 : Int))) else false))) = badK s j := by
      simp only [badK, restC, smallC, digitC, geI, leI, gtI]
      generalize ((s.getD j 0).toNat : Int) = x
      generalize (j : Int) = y
      cases hd1 : decide (x ≥ 97) <;> cases hd2 : decide (x ≤ 122) <;> cases hd3 : decide (x ≥ 48) <;> cases hd4 : decide (x ≤ 57) <;> cases hd5 : decide (y > 0) <;> cases hd6 : x == 45 <;> cases hd7 : x == 95 <;> simp_all
    rw [e]
    refine W.cond (fun h => W.ret (h1 _ (by rw [h]; rfl))) (fun h => ?_)
    rw [wrap_i64 (by omega) (by omega)]
    exact h2 (by rw [h]; rfl)
  · unfold b_kit_IsKey_0
    simp only [D.nth_zero, D.nth_succ, D.str_s, D.int_i]
    exact W.cond (fun h => by simp at h) (fun _ => W.ret rfl)
  · rintro _ rfl
    rcases scan_cases (fun j => bif badK s j then some (0, [D.b false]) else none) ((1, []) : Nat × List D) s.length 0 with ⟨i, r, h1, h2, h3, h4, h5⟩ | ⟨h1, h2⟩
    · rw [h4]
      cases hb : badK s i with
      | false => rw [hb] at h3; simp at h3
      | true =>
        rw [hb] at h3
        simp only [cond_true, Option.some.injEq] at h3
        subst h3
        exact W.ret (by rw [keyB_bad s i (by omega) hb]; rfl)
    · rw [h2]
      refine W.ret ?_
      rw [keyB_scan s fun j hj => ?_]
      · simp only [D.str_s]
        cases h3 : s == [] <;> rfl
      · have := h1 j (Nat.zero_le _) (by omega)
        cases hb : badK s j with
        | false => rfl
        | true => rw [hb] at this; simp at this
/-- One of some strings (or other data). -/
theorem w_Some (c : Int) (s : D) (l : List D) (hs : St c s) (hc : c ≤ 1000000000000) (hl : l ≠ []) (hl2 : l.length ≤ 1000000) : W (fun K _ => f_gatemake_Stream_Some K s (.n l)) (fun r => ∃ x s' t, r = [x, s', t] ∧ x ∈ l ∧ St (c + 1) s') := by
  unfold f_gatemake_Stream_Some
  have : 0 < l.length := List.length_pos_iff.2 hl
  refine W.bind (w_Next c _ s hs hc (by simp; omega)) ?_
  rintro _ ⟨i, s', rfl, h1, h2, h3⟩
  simp only [D.int_i, D.list_n] at h2
  have h2 := h2 (by omega)
  refine W.cond (fun h => ?_) (fun h => absurd (inB_mk h1 h2) (by rw [D.nth_zero, D.int_i, D.list_n] at h; rw [h]; simp))
  exact W.ret ⟨_, s', _, rfl, nth_mem (show i.toNat < l.length by omega), h3⟩
/-! ### Signers -/
def Sg (x : D) : Prop := ∃ a b c d e, x = .n [.s a, .s b, .i c, .i d, .i e] ∧ a.length ≤ 1000 ∧ b.length ≤ 1000
def SgL (l : List D) : Prop := l.length ≤ 3 ∧ ∀ x ∈ l, Sg x
theorem SgL.snoc {l : List D} {x : D} (h : ∀ y ∈ l, Sg y) (hx : Sg x) : ∀ y ∈ l ++ [x], Sg y := fun y hy => by
  rcases List.mem_append.1 hy with hy | hy
  · exact h y hy
  · simp at hy; subst hy; exact hx
theorem SgL.set {l : List D} {j : Nat} {x : D} (h : SgL l) (hj : j < l.length) (hx : Sg x) : SgL (D.setNth l j x) := by
  rw [setNth_eq _ hj]
  refine ⟨by simpa using h.1, fun y hy => ?_⟩
  rcases List.mem_or_eq_of_mem_set hy with hy | hy
  · exact h.2 y hy
  · subst hy; exact hx
theorem SgL.nth {l : List D} {j : Nat} (h : SgL l) (hj : j < l.length) : Sg (D.nth l j) := h.2 _ (nth_mem hj)
theorem w_Secret (c : Int) (s : D) (hs : St c s) (hc : c ≤ 1000000000000) : W (fun K _ => f_gatemake_Stream_Secret K s) (fun r => ∃ x s', r = [.s x, s'] ∧ x.length ≤ 1000 ∧ St (c + 1) s') := by
  unfold f_gatemake_Stream_Secret
  refine W.bind (p := fun r => ∃ x : List UInt8, r = [.s x] ∧ x.length ≤ 1000) ?_ ?_
  · exact W.congr (b := fun _ _ => some [.s (Lib.repeatL [115] 101)]) (W.ret ⟨_, rfl, Nat.le_of_ble_eq_true (by kernel_rfl)⟩) fun K n => by kernel_rfl
  · rintro _ ⟨x, rfl, hx⟩
    refine W.bind (w_Some c s _ hs hc (by simp) (by simp)) ?_
    rintro _ ⟨y, s', t, rfl, hy, h1⟩
    simp only [D.nth_zero, D.nth_succ, List.mem_cons, List.not_mem_nil, or_false] at hy ⊢
    rcases hy with rfl | rfl | rfl | rfl | rfl | rfl | rfl | rfl | rfl <;> first | exact W.ret ⟨_, s', rfl, by simp, h1⟩ | exact W.ret ⟨_, s', rfl, hx, h1⟩
theorem w_RightSigners (c : Int) (s : D) (hs : St c s) (hc : c ≤ 999999999900) : W (fun K _ => f_gatemake_Stream_RightSigners K s) (fun r => ∃ s' l, r = [s', .n l] ∧ SgL l ∧ St (c + 20) s') := by
  unfold f_gatemake_Stream_RightSigners
  refine W.bind (w_Range c 0 3 s hs (by omega) (by omega) (by omega)) ?_
  rintro _ ⟨n, s1, rfl, h1, h2, h3⟩
  have h2 := h2 (by omega)
  simp only [D.nth_zero, D.nth_succ, D.int_i]
  refine W.cond (fun _ => ?_) (fun h => by simp at h; omega)
  obtain ⟨m, rfl⟩ : ∃ m : Nat, n = (m : Int) := ⟨n.toNat, by omega⟩
  simp only [Int.toNat_natCast]
  generalize hT : ([D.s [115, 49], D.s [115, 50], D.s [115, 51]] : List D).take m = T
  have hTl : T.length = m := by rw [← hT, List.length_take]; simp; omega
  have hTm : ∀ x ∈ T, ∃ a : List UInt8, x = .s a ∧ a.length ≤ 1000 := fun x hx => by
    rw [← hT] at hx
    have := List.mem_of_mem_take hx
    simp only [List.mem_cons, List.not_mem_nil, or_false] at this
    rcases this with rfl | rfl | rfl <;> exact ⟨_, rfl, by simp⟩
  refine W.bind (p := fun r => ∃ s' l t, r = (0, [s', t, .n l]) ∧ SgL l ∧ St (c + 20) s') ?_ ?_
  · refine W.rounds (S := Int × Nat × D × List D) (fun q => [.i q.1, .i (T.length : Int), .i q.2.1, q.2.2.1, .n T, .n q.2.2.2]) (fun q => -1000000000000 ≤ q.1 ∧ q.1 ≤ (q.2.1 : Int) * 100 ∧ q.2.1 ≤ T.length ∧ q.2.2.2.length = q.2.1 ∧ (∀ x ∈ q.2.2.2, Sg x) ∧ St (c + 1 + 4 * q.2.1) q.2.2.1) (fun q => T.length - q.2.1) (fun q hI rc ih => ?_) (0, 0, s1, []) ⟨by simp, by simp, by simp, by simp, by simp, by simpa using h3⟩
    obtain ⟨fr, j, s2, out⟩ := q
    obtain ⟨a1, a2, a3, a4, a5, a6⟩ := hI
    simp only at a1 a2 a3 a4 a5 a6
    unfold b_gatemake_Stream_RightSigners_0
    simp only [D.nth_zero, D.nth_succ, D.int_i, D.list_n, Int.toNat_natCast]
    refine W.cond (fun h => ?_) (fun h => ?_)
    · simp at h
      have hj : j < T.length := by omega
      refine W.cond (fun _ => ?_) (fun h => by simp at h; omega)
      refine W.bind (w_Pick _ s2 _ a6 (by omega) (by simp) (by simp)) ?_
      rintro _ ⟨x1, s3, t, rfl, hx1, b1⟩
      refine W.bind (w_Some _ s3 _ b1 (by omega) (by simp) (by simp)) ?_
      rintro _ ⟨x2, s4, t, rfl, hx2, b2⟩
      refine W.bind (w_Pick _ s4 _ b2 (by omega) (by simp) (by simp)) ?_
      rintro _ ⟨x3, s5, t, rfl, hx3, b3⟩
      refine W.bind (w_Pick _ s5 _ b3 (by omega) (by simp) (by simp)) ?_
      rintro _ ⟨x4, s6, t, rfl, hx4, b4⟩
      simp only [D.nth_zero, D.nth_succ]
      refine W.cond (fun _ => ?_) (fun h => absurd (lim_mk (n := out.length + 1) (by omega)) (by rw [h]; simp))
      obtain ⟨ida, hida, hidl⟩ := hTm _ (nth_mem hj)
      have e1 : IntKind.i64.wrap ((j : Int) + 1) = ((j + 1 : Nat) : Int) := by rw [wrap_i64 (by omega) (by omega)]; omega
      have hx1' : ∃ v : Int, x1 = .i v ∧ 0 ≤ v ∧ v ≤ 100 := by
        simp only [List.mem_cons, List.not_mem_nil, or_false] at hx1
        rcases hx1 with rfl | rfl | rfl | rfl <;> exact ⟨_, rfl, by omega, by omega⟩
      obtain ⟨v, rfl, v0, v1⟩ := hx1'
      have e2 : IntKind.i64.wrap (fr + v) = fr + v := wrap_i64 (by omega) (by omega)
      simp only [D.int_i, e1, e2]
      refine ih (fr + v, j + 1, s6, out ++ [_]) ⟨by simp only; omega, by simp only; omega, by simp only; omega, by simp [a4], ?_, ?_⟩ (by simp only; omega)
      · refine SgL.snoc a5 ?_
        rw [hida]
        have hx2' : ∃ y : List UInt8, x2 = .s y ∧ y.length ≤ 1000 := by
          simp only [List.mem_cons, List.not_mem_nil, or_false] at hx2
          rcases hx2 with rfl | rfl | rfl <;> exact ⟨_, rfl, by simp⟩
        obtain ⟨y, rfl, hy⟩ := hx2'
        exact ⟨_, _, _, _, _, rfl, hidl, hy⟩
      · simp only
        exact b4.le (by omega)
    · simp at h
      exact W.ret ⟨s2, out, _, rfl, ⟨by omega, a5⟩, a6.le (by omega)⟩
  · rintro _ ⟨s2, l, t, rfl, h4, h5⟩
    exact W.ret ⟨s2, l, rfl, h4, h5⟩
theorem w_Signers (c : Int) (s : D) (hs : St c s) (hc : c ≤ 999999999000) : W (fun K _ => f_gatemake_Stream_Signers K s) (fun r => ∃ s' l, r = [s', .n l] ∧ SgL l ∧ St (c + 40) s') := by
  unfold f_gatemake_Stream_Signers
  refine W.bind (w_RightSigners c s hs (by omega)) ?_
  rintro _ ⟨s1, l, rfl, h1, h2⟩
  simp only [D.nth_zero, D.nth_succ, D.list_n]
  refine W.bind (p := fun r => ∃ b s', r = (0, [.b b, s', .n l]) ∧ (b = true → 0 < l.length) ∧ St (c + 21) s') ?_ ?_
  · unfold b_gatemake_Stream_Signers_0
    simp only [D.nth_zero, D.nth_succ, D.list_n]
    refine W.cond (fun h => ?_) (fun h => W.ret ⟨false, s1, rfl, fun h => by simp at h, h2.le (by omega)⟩)
    refine W.bind (w_Flip _ _ s1 h2 (by omega) (by simp)) ?_
    rintro _ ⟨b, s2, rfl, h3⟩
    simp at h
    exact W.ret ⟨b, s2, rfl, fun _ => by omega, h3.le (by omega)⟩
  · rintro _ ⟨b, s2, rfl, h3, h4⟩
    simp only [D.nth_zero, D.nth_succ, D.list_n, D.bool_b]
    refine W.cond (fun hb => ?_) (fun _ => W.ret ⟨s2, l, rfl, h1, h4.le (by omega)⟩)
    have hl := h3 hb
    have hl10 := h1.1
    refine W.bind (w_Next _ _ s2 h4 (by omega) (by simp; omega)) ?_
    rintro _ ⟨i, s3, rfl, i0, i1, h5⟩
    simp only [D.int_i] at i1
    have i1 := i1 (by omega)
    obtain ⟨j, rfl⟩ : ∃ j : Nat, i = (j : Int) := ⟨i.toNat, by omega⟩
    have hj : j < l.length := by omega
    simp only [D.nth_zero, D.nth_succ, D.int_i, Int.toNat_natCast]
    refine W.cond (fun _ => ?_) (fun h => by simp at h; omega)
    refine W.bind (w_Next _ _ s3 h5 (by omega) (by simp)) ?_
    rintro _ ⟨i, s4, rfl, _, _, h6⟩
    obtain ⟨a, b', c', d, e, he, ha, hb'⟩ := h1.nth hj
    rw [he]
    simp only [D.nth_zero, D.nth_succ, D.int_i, D.list_n]
    refine W.cond (fun _ => ?_) (fun _ => W.cond (fun _ => ?_) (fun _ => ?_))
    · refine W.bind (w_Some _ s4 _ h6 (by omega) (by simp) (by simp)) ?_
      rintro _ ⟨x, s5, t, rfl, hx, h7⟩
      simp only [List.mem_cons, List.not_mem_nil, or_false] at hx
      rcases hx with rfl | rfl | rfl <;> exact W.ret ⟨s5, _, rfl, h1.set hj ⟨_, _, _, _, _, rfl, by simp, hb'⟩, h7.le (by omega)⟩
    · refine W.bind (w_Secret _ s4 h6 (by omega)) ?_
      rintro _ ⟨x, s5, rfl, hx, h7⟩
      exact W.ret ⟨s5, _, rfl, h1.set hj ⟨_, _, _, _, _, rfl, ha, hx⟩, h7.le (by omega)⟩
    · refine W.bind (w_Odd _ 0 300 s4 h6 (by omega) (by omega) (by omega) (by omega)) ?_
      rintro _ ⟨x, s5, rfl, _, _, h7⟩
      refine W.bind (w_Odd _ 0 300 s5 h7 (by omega) (by omega) (by omega) (by omega)) ?_
      rintro _ ⟨y, s6, rfl, _, _, h8⟩
      simp only [D.nth_zero, D.nth_succ]
      have g1 : SgL (D.setNth l j (.n (D.setNth [.s a, .s b', .i c', .i d, .i e] 2 (.i x)))) := h1.set hj ⟨_, _, _, _, _, rfl, ha, hb'⟩
      have hlen : (D.setNth l j (.n (D.setNth [.s a, .s b', .i c', .i d, .i e] 2 (.i x)))).length = l.length := by rw [setNth_eq _ hj]; simp
      have hn : D.nth (D.setNth l j (.n (D.setNth [.s a, .s b', .i c', .i d, .i e] 2 (.i x)))) j = .n (D.setNth [.s a, .s b', .i c', .i d, .i e] 2 (.i x)) := by
        rw [setNth_eq _ hj, nth_eq (by simpa using hj)]
        simp
      rw [hn]
      exact W.ret ⟨s6, _, rfl, g1.set (by omega) ⟨_, _, _, _, _, rfl, ha, hb'⟩, h8.le (by omega)⟩
/-! ### What is wrong with signers -/
def visC (c : UInt8) : Bool := !(bif ltI c.toNat 33 then true else gtI c.toNat 126)
def secD (s : List UInt8) : List D := bif s.all visC then (bif s == ([] : List UInt8) then [.i 3] else bif gtI s.length 100 then [.i 2] else [.i 0]) else [.i 3]
theorem w_secretFault (s : List UInt8) (hs : s.length ≤ 1000000000000) : W (fun K _ => f_token_secretFault K (.s s)) (fun r => r = secD s) := by
  unfold f_token_secretFault
  refine W.bind (W.early s.length (fun j => [.s s, .i s.length, .i j]) (fun j => bif visC (s.getD j 0) then none else some (0, [.i 3])) (1, []) (fun j hj hp p rc h1 h2 => ?_) (fun rc => ?_)) ?_
  · unfold b_token_secretFault_0
    simp only [D.nth_zero, D.nth_succ, D.str_s, D.int_i, Int.toNat_natCast, byteAt_getD]
    have hin : inB (j : Int) s.length = true := inB_mk (by omega) (by omega)
    refine W.cond (fun _ => ?_) (fun h => by simp at h; omega)
    refine W.cond (fun _ => ?_) (fun h => by rw [hin] at h; cases h)
    refine W.cond (fun _ => ?_) (fun h => by rw [hin] at h; simp at h)
    refine W.cond (fun h => W.ret (h1 _ (by simp only [visC]; rw [h]; rfl))) (fun h => ?_)
    rw [wrap_i64 (by omega) (by omega)]
    exact h2 (by simp only [visC]; rw [h]; rfl)
  · unfold b_token_secretFault_0
    simp only [D.nth_zero, D.nth_succ, D.str_s, D.int_i]
    exact W.cond (fun h => by simp at h) (fun _ => W.ret rfl)
  · rintro _ rfl
    rw [scan_all s visC]
    unfold secD
    cases s.all visC with
    | false => exact W.ret rfl
    | true =>
      simp only [cond_true, D.str_s]
      refine W.cond (fun h => by simp at h) (fun _ => ?_)
      refine W.cond (fun h => W.ret (by rw [h]; rfl)) (fun h => ?_)
      rw [h]
      exact W.cond (fun h => W.ret (by rw [h]; rfl)) (fun h => W.ret (by rw [h]; rfl))
theorem w_SecretFault (s : List UInt8) (hs : s.length ≤ 1000000000000) : W (fun K _ => f_gateref2_SecretFault K (.s s)) (fun r => r = secD s) := by
  unfold f_gateref2_SecretFault f_gateref2_visible
  simp only [D.str_s]
  have hvis : W (fun K _ => f_gateref2_visible K (.s s) (.i 33)) (fun r => r = [.b (s.all visC)]) := by
    unfold f_gateref2_visible
    refine W.bind (W.early s.length (fun j => [.s s, .i 33, .i s.length, .i j]) (fun j => bif visC (s.getD j 0) then none else some (0, [.b false])) (1, []) (fun j hj hp p rc h1 h2 => ?_) (fun rc => ?_)) ?_
    · unfold b_gateref2_visible_0
      simp only [D.nth_zero, D.nth_succ, D.str_s, D.int_i, Int.toNat_natCast, byteAt_getD]
      have hin : inB (j : Int) s.length = true := inB_mk (by omega) (by omega)
      refine W.cond (fun _ => ?_) (fun h => by simp at h; omega)
      refine W.cond (fun _ => ?_) (fun h => by rw [hin] at h; cases h)
      refine W.cond (fun _ => ?_) (fun h => by rw [hin] at h; simp at h)
      refine W.cond (fun h => W.ret (h1 _ (by simp only [visC]; rw [h]; rfl))) (fun h => ?_)
      rw [wrap_i64 (by omega) (by omega)]
      exact h2 (by simp only [visC]; rw [h]; rfl)
    · unfold b_gateref2_visible_0
      simp only [D.nth_zero, D.nth_succ, D.str_s, D.int_i]
      exact W.cond (fun h => by simp at h) (fun _ => W.ret rfl)
    · rintro _ rfl
      rw [scan_all s visC]
      cases s.all visC with
      | false => exact W.ret rfl
      | true => exact W.ret rfl
  refine W.cond (fun h0 => ?_) (fun h0 => W.ret ?_)
  · refine W.bind hvis ?_
    rintro _ rfl
    simp only [D.nth_zero, D.bool_b]
    have h0' : (s == []) = false := by simpa using h0
    refine W.cond (fun h => W.ret ?_) (fun h => ?_)
    · have : s.all visC = false := by simpa using h
      simp only [secD, this, cond_false]
    · have : s.all visC = true := by simpa using h
      exact W.cond (fun h => W.ret (by simp only [secD, this, h0', h, cond_true, cond_false])) (fun h => W.ret (by simp only [secD, this, h0', h, cond_true, cond_false]))
  · have : s = [] := by simpa using h0
    subst this
    rfl
theorem secD_one (s : List UInt8) : ∃ n, secD s = [.i n] := by
  unfold secD
  cases s.all visC with
  | false => exact ⟨_, rfl⟩
  | true =>
    cases s == [] with
    | true => exact ⟨_, rfl⟩
    | false => cases gtI (s.length : Int) 100 <;> exact ⟨_, rfl⟩
/-! Who has an identifier -/
theorem w_has (l : List D) (x : D) (hl : l.length ≤ 1000000) : W (fun K _ => f_slices_ContainsFunc_api_Signer K (.n l) x) (fun r => r = [.b (l.any fun y => (y.at' 0).str == (x.at' 0).str), x]) := by
  unfold f_slices_ContainsFunc_api_Signer f_slices_IndexFunc_api_Signer
  refine W.bind (p := fun r => ∃ i, r = [.i i, x] ∧ geI i 0 = l.any fun y => (y.at' 0).str == (x.at' 0).str) ?_ ?_
  · refine W.bind (W.early l.length (fun j => [.n l, .i l.length, .i j, x]) (fun j => bif (fun y : D => (y.at' 0).str == (x.at' 0).str) (D.nth l j) then some (0, [.i (j : Int), x]) else none) (1, [x]) (fun j hj hp p rc h1 h2 => ?_) (fun rc => ?_)) ?_
    · unfold b_slices_IndexFunc_api_Signer_0
      simp only [D.nth_zero, D.nth_succ, D.list_n, D.int_i, Int.toNat_natCast, p_token_signerFault_1, D.bool_b]
      refine W.cond (fun _ => ?_) (fun h => by simp at h; omega)
      refine W.cond (fun _ => ?_) (fun h => by simp at h; omega)
      refine W.cond (fun h => W.ret (h1 _ (by simp only [h, cond_true]))) (fun h => ?_)
      rw [wrap_i64 (by omega) (by omega)]
      exact h2 (by simp only [h, cond_false])
    · unfold b_slices_IndexFunc_api_Signer_0
      simp only [D.nth_zero, D.nth_succ, D.list_n, D.int_i]
      exact W.cond (fun h => by simp at h) (fun _ => W.ret rfl)
    · rintro _ rfl
      rcases scan_any l (fun y : D => (y.at' 0).str == (x.at' 0).str) (fun j => (0, [D.i (j : Int), x])) (1, [x]) with ⟨ha, i, hi, h⟩ | ⟨ha, h⟩
      · rw [h, ha]
        exact W.ret ⟨i, rfl, by simp⟩
      · rw [h, ha]
        exact W.ret ⟨-1, rfl, by simp⟩
  · rintro _ ⟨i, rfl, h⟩
    exact W.ret (by simp [h])
theorem w_hasb (l : List D) (x : D) (hl : l.length ≤ 1000000) : W (fun K _ => f_slices_ContainsFunc_api_Signera K (.n l) x) (fun r => r = [.b (l.any fun y => (y.at' 0).str == (x.at' 0).str), x]) := w_has l x hl
/-! ### The error of a list of signers -/
def argB (x : D) : Bool := bif (bif (bif ltI (x.at' 2).int 0 then true else gtI (x.at' 2).int (x.at' 3).int) then true else gtI (x.at' 3).int (x.at' 4).int) then true else gtI (x.at' 4).int 345686400000
def ordB (l : List D) (j : Nat) : Bool := bif gtI (j : Int) 0 then ltI (((D.nth l j).at' 2).int) (((D.nth l ((IntKind.i64.wrap ((j : Int) - (1 : Int))).toNat)).at' 2).int) else false
def sgF (l : List D) (j : Nat) : List D :=
  bif !keyB ((D.nth l j).at' 0).str then [.i 5]
  else bif (l.take j).any (fun y => (y.at' 0).str == ((D.nth l j).at' 0).str) then [.i 6]
  else bif ((D.nth (secD ((D.nth l j).at' 1).str) 0).int != 0) then [D.nth (secD ((D.nth l j).at' 1).str) 0]
  else bif argB (D.nth l j) then [.i 1] else bif ordB l j then [.i 7] else [.i 0]
theorem Sg.at {x : D} (h : Sg x) : ∃ a b c d e, x = .n [.s a, .s b, .i c, .i d, .i e] ∧ a.length ≤ 1000 ∧ b.length ≤ 1000 ∧ (x.at' 0) = .s a ∧ (x.at' 1) = .s b := by
  obtain ⟨a, b, c, d, e, h, h1, h2⟩ := h
  exact ⟨a, b, c, d, e, h, h1, h2, by rw [h]; rfl, by rw [h]; rfl⟩
theorem w_signerFault (l : List D) (hl : SgL l) (j : Nat) (hj : j < l.length) : W (fun K _ => f_token_signerFault K (.n l) (.i (j : Int))) (fun r => r = sgF l j) := by
  have hl10 := hl.1
  unfold f_token_signerFault
  simp only [D.list_n, D.int_i, Int.toNat_natCast]
  obtain ⟨a, b, c, d, e, hx, ha, hb, h0, h1⟩ := (hl.nth hj).at
  have hin : inB (j : Int) l.length = true := inB_mk (by omega) (by omega)
  refine W.cond (fun _ => ?_) (fun h => by rw [hin] at h; cases h)
  rw [h0]
  refine W.bind (w_IsKey a (by omega)) ?_
  rintro _ rfl
  simp only [D.nth_zero, D.bool_b]
  refine W.cond (fun h => W.ret ?_) (fun hk => ?_)
  · simp only [sgF, h0, D.str_s, h, cond_true]
  refine W.cond (fun _ => ?_) (fun h => by simp at h; omega)
  refine W.bind (w_has (l.take j) _ (by rw [List.length_take]; omega)) ?_
  rintro _ rfl
  simp only [D.nth_zero, D.nth_succ, D.bool_b]
  refine W.cond (fun h => W.ret ?_) (fun hh => ?_)
  · have hk' := hk
    simp only [sgF, hk, h, h0, D.str_s, cond_true, cond_false] at *
    simp only [h, cond_true]
  rw [h1]
  refine W.bind (w_secretFault b (by omega)) ?_
  rintro _ rfl
  refine W.cond (fun h => W.ret ?_) (fun hs => ?_)
  · simp only [h0, D.str_s] at hk hh
    simp only [sgF, h0, h1, D.str_s, hk, hh, h, cond_true, cond_false]
  simp only [h0, D.str_s] at hk hh
  have hsg : sgF l j = bif argB (D.nth l j) then [.i 1] else bif ordB l j then [.i 7] else [.i 0] := by simp only [sgF, h0, h1, D.str_s, hk, hh, hs, cond_false]
  rw [hsg]
  simp only [p_kit_Outside, D.nth_zero, D.bool_b, D.int_i]
  refine W.cond (fun h => W.ret ?_) (fun h => ?_)
  · have : argB (D.nth l j) = true := h
    rw [this]; rfl
  · have : argB (D.nth l j) = false := h
    rw [this, cond_false]
    have hw : IntKind.i64.wrap ((j : Int) - 1) = (j : Int) - 1 := wrap_i64 (by omega) (by omega)
    refine W.cond (fun _ => ?_) (fun h => ?_)
    · refine W.cond (fun h => W.ret ?_) (fun h => W.ret ?_)
      · have : ordB l j = true := h
        rw [this]; rfl
      · have : ordB l j = false := h
        rw [this]; rfl
    · rw [hw] at h
      simp at h
      omega
def chkD (l : List D) : List D := bif gtI (l.length : Int) 50 then [.i 2] else
  bif ((scan (fun j => bif ((D.nth (sgF l j) 0).int != 0) then some (0, [D.nth (sgF l j) 0]) else none) (1, []) l.length 0).1.beq 0) then [D.nth (scan (fun j => bif ((D.nth (sgF l j) 0).int != 0) then some (0, [D.nth (sgF l j) 0]) else none) ((1, []) : Nat × List D) l.length 0).2 0] else [.i 0]
theorem w_CheckSigners (l : List D) (hl : SgL l) : W (fun K _ => f_token_CheckSigners K (.n l)) (fun r => r = chkD l) := by
  have hl10 := hl.1
  unfold f_token_CheckSigners chkD
  simp only [D.list_n]
  refine W.cond (fun h => W.ret (by rw [h]; rfl)) (fun h => ?_)
  rw [h, cond_false]
  refine W.bind (W.early l.length (fun j => [.n l, .i l.length, .i j]) (fun j => bif ((D.nth (sgF l j) 0).int != 0) then some (0, [D.nth (sgF l j) 0]) else none) (1, []) (fun j hj hp p rc h1 h2 => ?_) (fun rc => ?_)) ?_
  · unfold b_token_CheckSigners_0
    simp only [D.nth_zero, D.nth_succ, D.int_i]
    refine W.cond (fun _ => ?_) (fun h => by simp at h; omega)
    refine W.bind (w_signerFault l hl j hj) ?_
    rintro _ rfl
    refine W.cond (fun h => W.ret (h1 _ (by simp only [h, cond_true]))) (fun h => ?_)
    rw [wrap_i64 (by omega) (by omega)]
    exact h2 (by simp only [h, cond_false])
  · unfold b_token_CheckSigners_0
    simp only [D.nth_zero, D.nth_succ, D.int_i]
    exact W.cond (fun h => by simp at h) (fun _ => W.ret rfl)
  · rintro _ rfl
    exact W.cond (fun h => W.ret (by rw [h]; rfl)) (fun h => W.ret (by rw [h]; rfl))
theorem w_SignersFault (l : List D) (hl : SgL l) : W (fun K _ => f_gateref2_SignersFault K (.n l)) (fun r => r = chkD l) := by
  have hl10 := hl.1
  unfold f_gateref2_SignersFault chkD
  simp only [D.list_n]
  refine W.cond (fun h => W.ret (by rw [h]; rfl)) (fun h => ?_)
  rw [h, cond_false]
  refine W.bind (W.early l.length (fun j => [.n l, .n l, .i l.length, .i j]) (fun j => bif ((D.nth (sgF l j) 0).int != 0) then some (0, [D.nth (sgF l j) 0]) else none) (1, []) (fun j hj hp p rc g1 g2 => ?_) (fun rc => ?_)) ?_
  · unfold b_gateref2_SignersFault_0
    simp only [D.nth_zero, D.nth_succ, D.int_i, D.list_n, Int.toNat_natCast]
    obtain ⟨a, b, c, d, e, hx, ha, hb, h0, h1⟩ := (hl.nth hj).at
    have hin : inB (j : Int) l.length = true := inB_mk (by omega) (by omega)
    refine W.cond (fun _ => ?_) (fun h => by simp at h; omega)
    refine W.cond (fun _ => ?_) (fun h => by rw [hin] at h; cases h)
    rw [h0]
    refine W.bind (w_Key a (by omega)) ?_
    rintro _ rfl
    simp only [D.nth_zero, D.bool_b]
    refine W.cond (fun h => W.ret (g1 _ ?_)) (fun hk => ?_)
    · have : sgF l j = [.i 5] := by simp only [sgF, h0, D.str_s, h, cond_true]
      rw [this]; rfl
    refine W.cond (fun _ => ?_) (fun h => by simp at h; omega)
    refine W.bind (w_hasb (l.take j) _ (by rw [List.length_take]; omega)) ?_
    rintro _ rfl
    simp only [D.nth_zero, D.nth_succ, D.bool_b]
    refine W.cond (fun h => W.ret (g1 _ ?_)) (fun hh => ?_)
    · simp only [h0, D.str_s] at h
      have : sgF l j = [.i 6] := by simp only [sgF, h0, D.str_s, hk, h, cond_true, cond_false]
      rw [this]; rfl
    rw [h1]
    simp only [h0, D.str_s] at hk hh
    refine W.bind (w_SecretFault b (by omega)) ?_
    rintro _ rfl
    refine W.cond (fun h => W.ret (g1 _ ?_)) (fun hs => ?_)
    · have : sgF l j = [D.nth (secD b) 0] := by simp only [sgF, h0, h1, D.str_s, hk, hh, h, cond_true, cond_false]
      rw [this, D.nth_zero, h]; rfl
    have hsg : sgF l j = bif argB (D.nth l j) then [.i 1] else bif ordB l j then [.i 7] else [.i 0] := by simp only [sgF, h0, h1, D.str_s, hk, hh, hs, cond_false]
    rw [hsg] at g1 g2
    simp only [p_gateref2_in, D.nth_zero, D.bool_b, D.int_i]
    have harg : (bif (bif (!(bif leI 0 ((D.nth l j).at' 2).int then leI ((D.nth l j).at' 2).int ((D.nth l j).at' 3).int else false)) then true else gtI ((D.nth l j).at' 3).int ((D.nth l j).at' 4).int) then true else gtI ((D.nth l j).at' 4).int 345686400000) = argB (D.nth l j) := by
      have e : (!(bif leI 0 ((D.nth l j).at' 2).int then leI ((D.nth l j).at' 2).int ((D.nth l j).at' 3).int else false)) = (bif ltI ((D.nth l j).at' 2).int 0 then true else gtI ((D.nth l j).at' 2).int ((D.nth l j).at' 3).int) := by
        generalize ((D.nth l j).at' 2).int = x
        generalize ((D.nth l j).at' 3).int = y
        cases h1 : leI 0 x <;> cases h2 : leI x y <;> cases h3 : ltI x 0 <;> cases h4 : gtI x y <;> first | rfl | (exfalso; simp at h1 h2 h3 h4; omega)
      rw [e]
      rfl
    rw [harg]
    refine W.cond (fun h => W.ret (g1 _ (by rw [h]; rfl))) (fun h => ?_)
    rw [h, cond_false] at g1 g2
    have hw : IntKind.i64.wrap ((j : Int) - 1) = (j : Int) - 1 := wrap_i64 (by omega) (by omega)
    refine W.cond (fun _ => ?_) (fun h => ?_)
    · refine W.cond (fun h => W.ret (g1 _ ?_)) (fun h => ?_)
      · have : ordB l j = true := h
        rw [this]; rfl
      · have : ordB l j = false := h
        rw [wrap_i64 (x := (j : Int) + 1) (by omega) (by omega)]
        exact g2 (by rw [this]; rfl)
    · rw [hw] at h
      simp at h
      omega
  · unfold b_gateref2_SignersFault_0
    simp only [D.nth_zero, D.nth_succ, D.int_i]
    exact W.cond (fun h => by simp at h) (fun _ => W.ret rfl)
  · rintro _ rfl
    exact W.cond (fun h => W.ret (by rw [h]; rfl)) (fun h => W.ret (by rw [h]; rfl))
/-! ### A signer that is added -/
/-! ### Sorting few numbers -/
def Asc (l : List D) (n : Nat) : Prop := ∀ p q : Nat, p < q → q < n → (D.nth l p).int ≤ (D.nth l q).int
/-- Ascending up to place i, but for place j, which may be too small for what is ahead of it. -/
def Asc1 (l : List D) (i j : Nat) : Prop := ∀ p q : Nat, p < q → q ≤ i → q ≠ j → (D.nth l p).int ≤ (D.nth l q).int
theorem less_ltI (x y : D) : (D.nth (p_cmp_Less_int x y) 0).bool = ltI x.int y.int := by
  simp [p_cmp_Less_int, p_cmp_isNaN_int]
theorem w_insert (l : List D) (i : Nat) (hi : i < l.length) (hl : l.length ≤ 1000) (ha : Asc l i) :
    W (fun K _ => fixN (b_slices_insertionSortOrdered_int_1 K) K [.i 0, .i (i : Int), .n l]) (fun r => ∃ l', r = (0, [.n l']) ∧ l'.Perm l ∧ Asc l' (i + 1)) := by
  refine W.rounds (S := Nat × List D) (fun s => [.i 0, .i (s.1 : Int), .n s.2]) (fun s => s.1 ≤ i ∧ s.2.Perm l ∧ Asc1 s.2 i s.1) (fun s => s.1) (fun s hI rc ih => ?_) (i, l) ⟨Nat.le_refl _, List.Perm.refl _, fun p q h1 h2 h3 => ha p q h1 (by simp only at h3; omega)⟩
  obtain ⟨j, row⟩ := s
  obtain ⟨hj, hp, hA⟩ := hI
  simp only at hj hp hA
  have hlen : row.length = l.length := hp.length_eq
  unfold b_slices_insertionSortOrdered_int_1
  simp only [D.nth_zero, D.nth_succ, D.int_i, D.list_n, Int.toNat_natCast, less_ltI]
  have hin : inB (j : Int) row.length = true := inB_mk (by omega) (by omega)
  rw [hin]
  refine W.cond (fun _ => ?_) (fun h => by simp at h)
  cases j with
  | zero =>
    have hg : gtI ((0 : Nat) : Int) 0 = false := by simp
    rw [hg]
    refine W.cond (fun _ => ?_) (fun h => by simp at h)
    refine W.cond (fun h => by simp at h) (fun _ => ?_)
    exact W.ret ⟨row, rfl, hp, fun p q h1 h2 => hA p q h1 (by omega) (by omega)⟩
  | succ j =>
    have hg : gtI ((j + 1 : Nat) : Int) 0 = true := by simp
    have hw : IntKind.i64.wrap (((j + 1 : Nat) : Int) - 1) = (j : Int) := by rw [wrap_i64 (by omega) (by omega)]; omega
    have hin2 : inB (j : Int) row.length = true := inB_mk (by omega) (by omega)
    rw [hg, hw]
    simp only [Int.toNat_natCast, cond_true]
    rw [hin2]
    refine W.cond (fun _ => ?_) (fun h => by simp at h)
    refine W.cond (fun hlt => ?_) (fun hge => ?_)
    · have hin3 : inB (j : Int) (D.setNth row (j + 1) (D.nth row j)).length = true := by rw [length_setNth (by omega)]; exact hin2
      rw [hin3]
      simp only [cond_true]
      simp at hlt
      have hrow : ∀ p, D.nth (D.setNth (D.setNth row (j + 1) (D.nth row j)) j (D.nth row (j + 1))) p = if p = j then D.nth row (j + 1) else if p = j + 1 then D.nth row j else D.nth row p := fun p => by
        rw [nth_setNth (by rw [length_setNth (by omega)]; omega), nth_setNth (by omega)]
      refine ih (j, _) ⟨by simp only; omega, (swap_perm (by omega) (by omega)).trans hp, fun p q h1 h2 h3 => ?_⟩ (by simp only; omega)
      simp only at h3 ⊢
      rw [hrow, hrow, if_neg h3]
      by_cases hq : q = j + 1
      · rw [if_pos hq]
        by_cases hp' : p = j
        · rw [if_pos hp']; omega
        · rw [if_neg hp', if_neg (by omega)]
          exact hA p j (by omega) (by omega) (by omega)
      · rw [if_neg hq]
        by_cases hp' : p = j
        · rw [if_pos hp']
          exact hA (j + 1) q (by omega) h2 hq
        · rw [if_neg hp']
          by_cases hp2 : p = j + 1
          · rw [if_pos hp2]
            exact hA j q (by omega) h2 hq
          · rw [if_neg hp2]
            exact hA p q h1 h2 hq
    · simp at hge
      refine W.ret ⟨row, rfl, hp, fun p q h1 h2 => ?_⟩
      by_cases hq : q = j + 1
      · subst hq
        by_cases hp' : p = j
        · subst hp'; exact hge
        · have := hA p j (by omega) (by omega) (by omega)
          omega
      · exact hA p q h1 (by omega) hq
theorem w_insertion (l : List D) (hl : l.length ≤ 1000) : W (fun K _ => f_slices_insertionSortOrdered_int K (.i 0) (.i (l.length : Int)) (.n l)) (fun r => ∃ l', r = [.n l'] ∧ l'.Perm l ∧ Asc l' l.length) := by
  unfold f_slices_insertionSortOrdered_int
  have e0 : IntKind.i64.wrap ((D.i 0).int + 1) = ((1 : Nat) : Int) := by rw [D.int_i, wrap_i64 (by omega) (by omega)]; rfl
  rw [e0]
  refine W.bind (W.rounds (p := fun r => ∃ l', r = (0, [.n l']) ∧ l'.Perm l ∧ Asc l' l.length) (S := Nat × List D) (fun s => [.i 0, .i (l.length : Int), .i (s.1 : Int), .n s.2]) (fun s => 1 ≤ s.1 ∧ s.2.Perm l ∧ Asc s.2 s.1) (fun s => l.length - s.1) (fun s hI rc ih => ?_) (1, l) ⟨Nat.le_refl _, List.Perm.refl _, fun p q h1 h2 => by simp only at h2; omega⟩) ?_
  · obtain ⟨i, row⟩ := s
    obtain ⟨hi, hp, hA⟩ := hI
    simp only at hi hp hA
    have hlen : row.length = l.length := hp.length_eq
    unfold b_slices_insertionSortOrdered_int_0
    simp only [D.nth_zero, D.nth_succ, D.int_i, D.list_n]
    refine W.cond (fun h => ?_) (fun h => ?_)
    · simp at h
      refine W.bind (w_insert row i (by omega) (by omega) hA) ?_
      rintro _ ⟨l', rfl, hp', hA'⟩
      simp only [D.nth_zero, D.list_n]
      have e1 : IntKind.i64.wrap ((i : Int) + 1) = ((i + 1 : Nat) : Int) := by rw [wrap_i64 (by omega) (by omega)]; omega
      rw [e1]
      exact ih (i + 1, l') ⟨by simp only; omega, hp'.trans hp, hA'⟩ (by simp only; omega)
    · simp at h
      exact W.ret ⟨row, rfl, hp, fun p q h1 h2 => hA p q h1 (by omega)⟩
  · rintro _ ⟨l', rfl, h1, h2⟩
    exact W.ret ⟨l', rfl, h1, h2⟩
theorem w_Len (n : Nat) (hn : n ≤ 12) : W (fun K _ => f_bits_Len K (.i (IntKind.u64.wrap (n : Int)))) (fun r => ∃ m, r = [m]) := by
  have : n = 0 ∨ n = 1 ∨ n = 2 ∨ n = 3 ∨ n = 4 ∨ n = 5 ∨ n = 6 ∨ n = 7 ∨ n = 8 ∨ n = 9 ∨ n = 10 ∨ n = 11 ∨ n = 12 := by omega
  rcases this with rfl | rfl | rfl | rfl | rfl | rfl | rfl | rfl | rfl | rfl | rfl | rfl | rfl
  · exact W.congr (b := fun _ _ => some [.i 0]) (W.ret ⟨_, rfl⟩) fun K n => by kernel_rfl
  · exact W.congr (b := fun _ _ => some [.i 1]) (W.ret ⟨_, rfl⟩) fun K n => by kernel_rfl
  · exact W.congr (b := fun _ _ => some [.i 2]) (W.ret ⟨_, rfl⟩) fun K n => by kernel_rfl
  · exact W.congr (b := fun _ _ => some [.i 2]) (W.ret ⟨_, rfl⟩) fun K n => by kernel_rfl
  · exact W.congr (b := fun _ _ => some [.i 3]) (W.ret ⟨_, rfl⟩) fun K n => by kernel_rfl
  · exact W.congr (b := fun _ _ => some [.i 3]) (W.ret ⟨_, rfl⟩) fun K n => by kernel_rfl
  · exact W.congr (b := fun _ _ => some [.i 3]) (W.ret ⟨_, rfl⟩) fun K n => by kernel_rfl
  · exact W.congr (b := fun _ _ => some [.i 3]) (W.ret ⟨_, rfl⟩) fun K n => by kernel_rfl
  · exact W.congr (b := fun _ _ => some [.i 4]) (W.ret ⟨_, rfl⟩) fun K n => by kernel_rfl
  · exact W.congr (b := fun _ _ => some [.i 4]) (W.ret ⟨_, rfl⟩) fun K n => by kernel_rfl
  · exact W.congr (b := fun _ _ => some [.i 4]) (W.ret ⟨_, rfl⟩) fun K n => by kernel_rfl
  · exact W.congr (b := fun _ _ => some [.i 4]) (W.ret ⟨_, rfl⟩) fun K n => by kernel_rfl
  · exact W.congr (b := fun _ _ => some [.i 4]) (W.ret ⟨_, rfl⟩) fun K n => by kernel_rfl
theorem w_Sort (l : List D) (hl : l.length ≤ 12) : W (fun K _ => f_slices_Sort_int K (.n l)) (fun r => ∃ l', r = [.n l'] ∧ l'.Perm l ∧ Asc l' l.length) := by
  unfold f_slices_Sort_int
  simp only [D.list_n]
  refine W.bind (w_Len l.length hl) ?_
  rintro _ ⟨m, rfl⟩
  refine W.bind (p := fun r => ∃ l', r = [.n l'] ∧ l'.Perm l ∧ Asc l' l.length) (W.selff fun rc => ?_) ?_
  · unfold F_slices_pdqsortOrdered_int f_slices_pdqsortOrdered_int
    simp only [D.nth_zero, D.nth_succ, D.list_n]
    refine W.bind (p := fun r => ∃ l', r = (0, [.n l']) ∧ l'.Perm l ∧ Asc l' l.length) (W.loop (F := fun K => b_slices_pdqsortOrdered_int_0 K (rc K)) (W.step ?_)) ?_
    · have e : ∀ (K : Nat) (r : List D → Option (Nat × List D)), b_slices_pdqsortOrdered_int_0 K (rc K) r [.i 0, .i (l.length : Int), m, .b true, .b true, .n l] = (f_slices_insertionSortOrdered_int K (.i 0) (.i (l.length : Int)) (.n l)).bind fun t1 => some (0, [.n ((D.nth t1 0).list)]) := fun K r => by
        have h12 : leI (IntKind.i64.wrap ((l.length : Int) - 0)) 12 = true := by rw [wrap_i64 (by omega) (by omega)]; simp; omega
        unfold b_slices_pdqsortOrdered_int_0
        simp only [D.nth_zero, D.nth_succ, D.int_i, D.list_n, h12, cond_true]
      refine W.congr (b := fun K _ => (f_slices_insertionSortOrdered_int K (.i 0) (.i (l.length : Int)) (.n l)).bind fun t1 => some (0, [.n ((D.nth t1 0).list)])) ?_ fun K n => e K _
      refine W.bind (w_insertion l (by omega)) ?_
      rintro _ ⟨l', rfl, h1, h2⟩
      exact W.ret ⟨l', rfl, h1, h2⟩
    · rintro _ ⟨l', rfl, h1, h2⟩
      exact W.ret ⟨l', rfl, h1, h2⟩
  · rintro _ ⟨l', rfl, h1, h2⟩
    exact W.ret ⟨l', rfl, h1, h2⟩
/-! ### Which error -/
theorem w_when (b : Bool) (e : Int) : W (fun K _ => f_gatelaw2_when K (.b b) (.i e)) (fun r => r = [.i (bif b then e else 0)]) := by
  unfold f_gatelaw2_when
  cases b with
  | true => exact W.ret rfl
  | false => exact W.ret rfl
theorem w_errs2 (x y : Int) : W (fun K _ => f_gatelaw2_errs K (.n [.i x, .i y])) (fun r => r = [.i (bif x != 0 then x else y)]) := by
  unfold f_gatelaw2_errs
  refine W.bind (W.early 2 (fun j => [.n [.i x, .i y], .i 2, .i (j : Int)]) (fun j => bif ((D.nth [.i x, .i y] j).int != 0) then some (0, [D.nth [.i x, .i y] j]) else none) (1, []) (fun j hj hp p rc h1 h2 => ?_) (fun rc => ?_)) ?_
  · unfold b_gatelaw2_errs_0
    simp only [D.nth_zero, D.nth_succ, D.int_i, D.list_n, Int.toNat_natCast]
    refine W.cond (fun _ => ?_) (fun h => by simp at h; omega)
    refine W.cond (fun _ => ?_) (fun h => by simp at h; omega)
    refine W.cond (fun h => W.ret (h1 _ (by rw [h]; rfl))) (fun h => ?_)
    rw [wrap_i64 (by omega) (by omega)]
    exact h2 (by rw [h]; rfl)
  · unfold b_gatelaw2_errs_0
    simp only [D.nth_zero, D.nth_succ, D.int_i]
    exact W.cond (fun h => by simp at h) (fun _ => W.ret rfl)
  · rintro _ rfl
    simp only [scan, D.nth_zero, D.nth_succ, D.int_i]
    cases h1 : x != 0 with
    | true => exact W.ret (by simp)
    | false =>
      cases h2 : y != 0 with
      | true => exact W.ret (by simp)
      | false =>
        have : y = 0 := by simpa using h2
        subst this
        exact W.ret (by simp)
theorem signed : W (fun K _ => f_gatelaw2_signed K) (· = [.b true]) :=
  ⟨_, rfl, 20, fun K n hK hn => by
    obtain ⟨m, rfl⟩ : ∃ m, K = m + 20 := ⟨K - 20, by omega⟩
    kernel_rfl⟩
/-! ### Who signs -/
def covB (t : Int) (x : D) : Bool := bif leI (x.at' 2).int t then ltI t (x.at' 3).int else false
def lastS (l : List D) (t : Int) : Nat → Option D
  | 0 => none
  | k + 1 => bif covB t (D.nth l k) then some (D.nth l k) else lastS l t k
def sigD (l : List D) (t : Int) : List D := match lastS l t l.length with
  | some x => [x, .b true]
  | none => [.n [.s [], .s [], .i 0, .i 0, .i 0], .b false]
theorem range_sign (l : List D) (t o0 o1 : D) (K : Nat) : ∀ k, rangeN 1 (b_token_signerAt_0 K) (z_token_signerAt_0 K) k [t, .n l, o0, o1] = match lastS l t.int k with
    | some x => some (0, [x, .b true])
    | none => some (1, [o0, o1])
  | 0 => rfl
  | k + 1 => by
    have ih := range_sign l t o0 o1 K k
    simp only [rangeN, lastS, D.nth_zero, D.nth_succ, D.list_n]
    unfold b_token_signerAt_0
    simp only [D.nth_zero, D.nth_succ]
    have e : (bif leI ((D.nth l k).at' 2).int t.int then ltI t.int ((D.nth l k).at' 3).int else false) = covB t.int (D.nth l k) := rfl
    rw [e]
    cases covB t.int (D.nth l k) with
    | true => rfl
    | false => exact ih
theorem w_signerAt (l : List D) (t : D) : W (fun K _ => f_token_signerAt K (.n l) t) (fun r => r = sigD l t.int) := by
  refine W.congr (b := fun _ _ => some (sigD l t.int)) (W.ret rfl) fun K n => ?_
  unfold f_token_signerAt
  rw [D.list_n, range_sign]
  unfold sigD
  cases lastS l t.int l.length <;> rfl
theorem w_SignerOf (l : List D) (t : D) : W (fun K _ => f_gateref2_SignerOf K (.n l) t) (fun r => r = sigD l t.int) := w_signerAt l t
/-! ### Sorted numbers -/
theorem sorted_ext : ∀ (l m : List Int), l.Pairwise (· < ·) → m.Pairwise (· < ·) → (∀ x, x ∈ l ↔ x ∈ m) → l = m
  | [], [], _, _, _ => rfl
  | [], b :: m, _, _, h => by have := (h b).2 (by simp); simp at this
  | a :: l, [], _, _, h => by have := (h a).1 (by simp); simp at this
  | a :: l, b :: m, hl, hm, h => by
    rw [List.pairwise_cons] at hl hm
    have hab : a = b := by
      rcases List.mem_cons.1 ((h a).1 (by simp)) with h1 | h1
      · exact h1
      · rcases List.mem_cons.1 ((h b).2 (by simp)) with h2 | h2
        · exact h2.symm
        · have := hm.1 a h1
          have := hl.1 b h2
          omega
    subst hab
    congr 1
    refine sorted_ext l m hl.2 hm.2 fun x => ⟨fun hx => ?_, fun hx => ?_⟩
    · rcases List.mem_cons.1 ((h x).1 (by simp [hx])) with h1 | h1
      · subst h1
        have := hl.1 x hx
        omega
      · exact h1
    · rcases List.mem_cons.1 ((h x).2 (by simp [hx])) with h1 | h1
      · subst h1
        have := hm.1 x hx
        omega
      · exact h1
/-- Each number once. -/
def ded : List Int → List Int
  | [] => []
  | a :: l => match l with
    | [] => [a]
    | b :: _ => bif a == b then ded l else a :: ded l
theorem ded_mem : ∀ (l : List Int) (x : Int), x ∈ ded l ↔ x ∈ l
  | [], x => Iff.rfl
  | [a], x => Iff.rfl
  | a :: b :: r, x => by
    have ih := ded_mem (b :: r) x
    have e : ded (a :: b :: r) = bif a == b then ded (b :: r) else a :: ded (b :: r) := rfl
    rw [e]
    cases h : a == b with
    | true =>
      have : a = b := by simpa using h
      subst this
      rw [cond_true, ih]
      simp
    | false => rw [cond_false, List.mem_cons, List.mem_cons, ih]
theorem ded_sorted : ∀ (l : List Int), l.Pairwise (· ≤ ·) → (ded l).Pairwise (· < ·)
  | [], _ => .nil
  | [a], _ => by simp [ded]
  | a :: b :: r, h => by
    have h' := h
    rw [List.pairwise_cons] at h
    have ih := ded_sorted (b :: r) h.2
    have hm := fun x => ded_mem (b :: r) x
    have e : ded (a :: b :: r) = bif a == b then ded (b :: r) else a :: ded (b :: r) := rfl
    rw [e]
    cases hab : a == b with
    | true => exact ih
    | false =>
      rw [cond_false, List.pairwise_cons]
      refine ⟨fun x hx => ?_, ih⟩
      have hne : a ≠ b := by simpa using hab
      have h1 := h.1 b (by simp)
      rcases List.mem_cons.1 ((hm x).1 hx) with rfl | hx
      · omega
      · have h2 := (List.pairwise_cons.1 h.2).1 x hx
        omega
theorem arr_get (zs : List Int) (j : Nat) (h : j < zs.length) : zs.toArray[j]! = zs[j] := by simp [h]
theorem compact_mem (zs : List Int) (h : zs.Pairwise (· ≤ ·)) (x : Int) : x ∈ Lib.compact zs ↔ x ∈ zs := by
  have hp : ∀ i j (hi : i < zs.length) (hj : j < zs.length), i < j → zs[i] ≤ zs[j] := fun i j hi hj hij => List.pairwise_iff_getElem.1 h i j hi hj hij
  unfold Lib.compact Lib.compactUpTo
  simp only [List.mem_map, List.mem_filter, List.mem_range, Lib.keeps, decide_eq_true_eq]
  constructor
  · rintro ⟨j, ⟨hj, _⟩, rfl⟩
    rw [arr_get zs j hj]
    exact List.getElem_mem hj
  · intro hx
    obtain ⟨j, hj, rfl⟩ := List.mem_iff_getElem.1 hx
    -- the first place with this number
    have : ∀ j (hj : j < zs.length), ∃ i, i ≤ j ∧ ∃ hi : i < zs.length, zs[i] = zs[j] ∧ (i = 0 ∨ zs.toArray[i]! ≠ zs.toArray[i - 1]!) := by
      intro j
      induction j with
      | zero => exact fun hj => ⟨0, Nat.le_refl _, hj, rfl, .inl rfl⟩
      | succ j ih =>
        intro hj
        by_cases he : zs[j] = zs[j + 1]
        · obtain ⟨i, h1, hi, h2, h3⟩ := ih (by omega)
          exact ⟨i, by omega, hi, h2.trans he, h3⟩
        · refine ⟨j + 1, Nat.le_refl _, hj, rfl, .inr ?_⟩
          rw [arr_get zs _ hj, Nat.add_sub_cancel, arr_get zs _ (by omega)]
          exact fun e => he e.symm
    obtain ⟨i, _, hi, h2, h3⟩ := this j hj
    exact ⟨i, ⟨hi, h3⟩, by rw [arr_get zs i hi]; exact h2⟩
theorem compact_sorted (zs : List Int) (h : zs.Pairwise (· ≤ ·)) : (Lib.compact zs).Pairwise (· < ·) := by
  have hp : ∀ i j (hi : i < zs.length) (hj : j < zs.length), i < j → zs[i] ≤ zs[j] := fun i j hi hj hij => List.pairwise_iff_getElem.1 h i j hi hj hij
  unfold Lib.compact Lib.compactUpTo
  rw [List.pairwise_map]
  have hr : ((List.range zs.length).filter (Lib.keeps zs.toArray)).Pairwise (· < ·) := List.Pairwise.filter _ List.pairwise_lt_range
  refine hr.imp_of_mem fun {i j} hi hj hij => ?_
  simp only [List.mem_filter, List.mem_range, Lib.keeps, decide_eq_true_eq] at hi hj
  obtain ⟨hj1, hj2⟩ := hj
  obtain ⟨hi1, _⟩ := hi
  rw [arr_get zs i hi1, arr_get zs j hj1]
  rcases hj2 with h0 | h0
  · omega
  · rw [arr_get zs j hj1, arr_get zs (j - 1) (by omega)] at h0
    have h1 := hp (j - 1) j (by omega) hj1 (by omega)
    rcases Nat.lt_or_ge i (j - 1) with h2 | h2
    · have := hp i (j - 1) hi1 (by omega) h2
      omega
    · have : i = j - 1 := by omega
      subst this
      omega
/-! ### The windows -/
def stepU (l : List D) (life : Int) (out : List D) (a b : Int) : List D :=
  bif (bif (D.nth (sigD l a) 1).bool then geI ((D.nth (sigD l a) 0).at' 4).int (IntKind.i64.wrap (a + life)) else false) then out
  else bif (bif geI ((out.length : Int) - 1) 0 then ((D.nth out (out.length - 1)).at' 1).int == a else false) then D.setNth out (out.length - 1) (.n (D.setNth (D.nth out (out.length - 1)).list 1 (.i b)))
  else out ++ [.n [.i a, .i b]]
def runU (l : List D) (life : Int) : List Int → List D → List D
  | a :: r, out => match r with
    | [] => out
    | b :: _ => runU l life r (stepU l life out a b)
  | [], out => out
def runV (l : List D) (life : Int) : List Int → List D → List D
  | a :: r, out => match r with
    | [] => out
    | b :: _ => runV l life r (bif a == b then out else stepU l life out a b)
  | [], out => out
theorem ded_cons (b : Int) : ∀ (r : List Int), ∃ r', ded (b :: r) = b :: r'
  | [] => ⟨[], rfl⟩
  | c :: r => by
    have e : ded (b :: c :: r) = bif b == c then ded (c :: r) else b :: ded (c :: r) := rfl
    rw [e]
    cases h : b == c with
    | true =>
      have : b = c := by simpa using h
      subst this
      exact ded_cons b r
    | false => exact ⟨_, rfl⟩
theorem runV_ded (l : List D) (life : Int) : ∀ (zs : List Int) (out : List D), runV l life zs out = runU l life (ded zs) out
  | [], out => rfl
  | [a], out => rfl
  | a :: b :: r, out => by
    have ih := runV_ded l life (b :: r)
    have e : ded (a :: b :: r) = bif a == b then ded (b :: r) else a :: ded (b :: r) := rfl
    have e2 : runV l life (a :: b :: r) out = runV l life (b :: r) (bif a == b then out else stepU l life out a b) := rfl
    rw [e, e2, ih]
    cases h : a == b with
    | true => rfl
    | false =>
      obtain ⟨r', hr⟩ := ded_cons b r
      simp only [cond_false]
      rw [hr]
      rfl
theorem stepU_len (l : List D) (life : Int) (out : List D) (a b : Int) : (stepU l life out a b).length ≤ out.length + 1 := by
  unfold stepU
  cases (bif (D.nth (sigD l a) 1).bool then geI ((D.nth (sigD l a) 0).at' 4).int (IntKind.i64.wrap (a + life)) else false) with
  | true => simp
  | false =>
    cases h : (bif geI ((out.length : Int) - 1) 0 then ((D.nth out (out.length - 1)).at' 1).int == a else false) with
    | true =>
      cases hg : geI ((out.length : Int) - 1) 0 with
      | false => rw [hg] at h; cases h
      | true =>
        simp at hg
        simp only [cond_false, cond_true]
        rw [length_setNth (by omega)]
        omega
    | false => simp
theorem runU_len (l : List D) (life : Int) : ∀ (zs : List Int) (out : List D), (runU l life zs out).length ≤ out.length + zs.length
  | [], out => by simp [runU]
  | [a], out => by simp [runU]
  | a :: b :: r, out => by
    have e2 : runU l life (a :: b :: r) out = runU l life (b :: r) (stepU l life out a b) := rfl
    have ih := runU_len l life (b :: r) (stepU l life out a b)
    have := stepU_len l life out a b
    rw [e2]
    simp only [List.length_cons] at ih ⊢
    omega
theorem nthI (zs : List Int) (j : Nat) (h : j < zs.length) : D.nth (zs.map D.i) j = .i zs[j] := by
  rw [nth_eq (by simpa using h)]
  simp
/-- One step of the two loops, as both write it. -/
theorem step_tail (out : List D) (a b : Int) (ho : out.length ≤ 1000) {α : Type} (X : List D → Option α) :
    (bif ((!(geI (IntKind.i64.wrap ((out.length : Int) - (1 : Int))) 0)) || (inB (IntKind.i64.wrap ((out.length : Int) - (1 : Int))) out.length)) then
      bif (bif (geI (IntKind.i64.wrap ((out.length : Int) - (1 : Int))) 0) then ((((D.nth out ((IntKind.i64.wrap ((out.length : Int) - (1 : Int))).toNat)).at' 1).int) == a) else false) then
        bif (inB (IntKind.i64.wrap ((out.length : Int) - (1 : Int))) out.length) then X (D.setNth out ((IntKind.i64.wrap ((out.length : Int) - (1 : Int))).toNat) (.n (D.setNth ((D.nth out ((IntKind.i64.wrap ((out.length : Int) - (1 : Int))).toNat)).list) 1 (.i b)))) else none
      else bif (lim (out.length + 1)) then X (out ++ [.n [.i a, .i b]]) else none
    else none) = X (bif (bif geI ((out.length : Int) - 1) 0 then ((D.nth out (out.length - 1)).at' 1).int == a else false) then D.setNth out (out.length - 1) (.n (D.setNth (D.nth out (out.length - 1)).list 1 (.i b))) else out ++ [.n [.i a, .i b]]) := by
  have e1 : IntKind.i64.wrap ((out.length : Int) - 1) = (out.length : Int) - 1 := wrap_i64 (by omega) (by omega)
  have e2 : ((out.length : Int) - 1).toNat = out.length - 1 := by omega
  have e3 : lim (out.length + 1) = true := lim_mk (by omega)
  rw [e1, e2, e3]
  cases hg : geI ((out.length : Int) - 1) 0 with
  | false => rfl
  | true =>
    simp at hg
    have e4 : inB ((out.length : Int) - 1) out.length = true := inB_mk (by omega) (by omega)
    rw [e4]
    cases ((D.nth out (out.length - 1)).at' 1).int == a <;> rfl
theorem w_runU (l : List D) (life : Int) (zs : List Int) (hz : zs.length ≤ 100) : W (fun K n => fixN (b_token_Uncovered_2 K) K [.n l, .i life, .i 0, .n (zs.map D.i), .n []]) (fun r => r = (0, [.n (zs.map D.i), .n (runU l life zs [])])) := by
  refine (W.rounds (F := fun K => b_token_Uncovered_2 K) (p := fun r => r = (0, [.n (zs.map D.i), .n (runU l life zs [])])) (S := Nat × List D) (fun q => [.n l, .i life, .i (q.1 : Int), .n (zs.map D.i), .n q.2]) (fun q => q.1 ≤ zs.length ∧ q.2.length ≤ q.1 ∧ runU l life (zs.drop q.1) q.2 = runU l life zs []) (fun q => zs.length - q.1) (fun q hI rc ih => ?_) (0, []) ⟨by simp, by simp, by simp⟩)
  obtain ⟨j, out⟩ := q
  obtain ⟨a1, a2, a3⟩ := hI
  simp only at a1 a2 a3
  unfold b_token_Uncovered_2
  simp only [D.nth_zero, D.nth_succ, D.int_i, D.list_n, Int.toNat_natCast, List.length_map]
  have e1 : IntKind.i64.wrap ((j : Int) + 1) = ((j + 1 : Nat) : Int) := by rw [wrap_i64 (by omega) (by omega)]; omega
  rw [e1]
  refine W.cond (fun h => ?_) (fun h => ?_)
  · simp at h
    have hj : j < zs.length := by omega
    refine W.cond (fun _ => ?_) (fun h => by simp at h; omega)
    have hd : zs.drop j = zs[j] :: zs[j + 1] :: zs.drop (j + 2) := by rw [List.drop_eq_getElem_cons hj, List.drop_eq_getElem_cons (by omega : j + 1 < zs.length)]
    have hd2 : zs.drop (j + 1) = zs[j + 1] :: zs.drop (j + 2) := by rw [List.drop_eq_getElem_cons (by omega : j + 1 < zs.length)]
    rw [nthI zs j hj]
    refine W.bind (w_signerAt l _) ?_
    rintro _ rfl
    simp only [D.int_i]
    have hin : inB (j : Int) zs.length = true := inB_mk (by omega) (by omega)
    have hin2 : inB ((j + 1 : Nat) : Int) zs.length = true := inB_mk (by omega) (by omega)
    simp only [hin, hin2, Bool.or_true, cond_true, Int.toNat_natCast]
    rw [nthI zs (j + 1) (by omega)]
    rw [hd] at a3
    have a3 : runU l life (zs.drop (j + 1)) (stepU l life out zs[j] zs[j + 1]) = runU l life zs [] := by rw [hd2]; exact a3
    have hsl := stepU_len l life out zs[j] zs[j + 1]
    have ih := fun out' (h : out' = stepU l life out zs[j] zs[j + 1]) => ih (j + 1, out') ⟨by simp only; omega, by simp only [h]; omega, by simp only [h]; exact a3⟩ (by simp only; omega)
    refine W.cond (fun hk => ?_) (fun hk => ?_)
    · exact ih out (by unfold stepU; rw [hk]; rfl)
    · have ht := fun (K n : Nat) => step_tail out zs[j] zs[j + 1] (by omega) (fun o => rc K n [.n l, .i life, .i ((j + 1 : Nat) : Int), .n (zs.map D.i), .n o])
      refine W.congr (ih _ ?_) (fun K n => ht K n)
      unfold stepU
      rw [hk, cond_false]
      cases (bif geI ((out.length : Int) - 1) 0 then ((D.nth out (out.length - 1)).at' 1).int == zs[j] else false) <;> rfl
  · simp at h
    refine W.ret ?_
    rcases Nat.lt_or_ge j zs.length with h1 | h1
    · have hd : zs.drop j = [zs[j]] := by rw [List.drop_eq_getElem_cons h1, List.drop_eq_nil_of_le (by omega)]
      rw [hd] at a3
      rw [← a3]
      rfl
    · rw [List.drop_eq_nil_of_le h1] at a3
      rw [← a3]
      rfl
theorem w_runV (l : List D) (life : Int) (zs : List Int) (hz : zs.length ≤ 100) : W (fun K n => fixN (b_gateref2_UncoveredOf_2 K) K [.n l, .i life, .i 1, .n (zs.map D.i), .n []]) (fun r => r = (0, [.n (zs.map D.i), .n (runV l life zs [])])) := by
  refine (W.rounds (F := fun K => b_gateref2_UncoveredOf_2 K) (p := fun r => r = (0, [.n (zs.map D.i), .n (runV l life zs [])])) (S := Nat × List D) (fun q => [.n l, .i life, .i ((q.1 + 1 : Nat) : Int), .n (zs.map D.i), .n q.2]) (fun q => q.1 ≤ zs.length ∧ q.2.length ≤ q.1 ∧ runV l life (zs.drop q.1) q.2 = runV l life zs []) (fun q => zs.length - q.1) (fun q hI rc ih => ?_) (0, []) ⟨by simp, by simp, by simp⟩)
  obtain ⟨j, out⟩ := q
  obtain ⟨a1, a2, a3⟩ := hI
  simp only at a1 a2 a3
  unfold b_gateref2_UncoveredOf_2
  simp only [D.nth_zero, D.nth_succ, D.int_i, D.list_n, Int.toNat_natCast, List.length_map]
  have e1 : IntKind.i64.wrap (((j + 1 : Nat) : Int) + 1) = ((j + 1 + 1 : Nat) : Int) := by rw [wrap_i64 (by omega) (by omega)]; omega
  have e0 : IntKind.i64.wrap (((j + 1 : Nat) : Int) - 1) = (j : Int) := by rw [wrap_i64 (by omega) (by omega)]; omega
  rw [e1, e0]
  refine W.cond (fun h => ?_) (fun h => ?_)
  · simp at h
    have hj : j < zs.length := by omega
    refine W.cond (fun _ => ?_) (fun h => by simp at h; omega)
    refine W.cond (fun _ => ?_) (fun h => by simp at h; omega)
    have hd : zs.drop j = zs[j] :: zs[j + 1] :: zs.drop (j + 2) := by rw [List.drop_eq_getElem_cons hj, List.drop_eq_getElem_cons (by omega : j + 1 < zs.length)]
    have hd2 : zs.drop (j + 1) = zs[j + 1] :: zs.drop (j + 2) := by rw [List.drop_eq_getElem_cons (by omega : j + 1 < zs.length)]
    simp only [Int.toNat_natCast]
    rw [nthI zs j hj]
    refine W.bind (w_SignerOf l _) ?_
    rintro _ rfl
    rw [nthI zs (j + 1) (by omega)]
    simp only [D.int_i]
    rw [hd] at a3
    have a3 : runV l life (zs.drop (j + 1)) (bif zs[j] == zs[j + 1] then out else stepU l life out zs[j] zs[j + 1]) = runV l life zs [] := by rw [hd2]; exact a3
    have hsl := stepU_len l life out zs[j] zs[j + 1]
    have ih := fun out' (h : out' = bif zs[j] == zs[j + 1] then out else stepU l life out zs[j] zs[j + 1]) => ih (j + 1, out') ⟨by simp only; omega, by simp only [h]; cases zs[j] == zs[j + 1] <;> simp only [cond_true, cond_false] <;> omega, by simp only [h]; exact a3⟩ (by simp only; omega)
    refine W.cond (fun hk => ?_) (fun hk => ?_)
    · refine ih out ?_
      cases hab : zs[j] == zs[j + 1] with
      | true => rfl
      | false =>
        rw [hab, cond_false] at hk
        unfold stepU
        rw [hk]
        rfl
    · have ht := fun (K n : Nat) => step_tail out zs[j] zs[j + 1] (by omega) (fun o => rc K n [.n l, .i life, .i ((j + 1 + 1 : Nat) : Int), .n (zs.map D.i), .n o])
      refine W.congr (ih _ ?_) (fun K n => ht K n)
      cases hab : zs[j] == zs[j + 1] with
      | true => rw [hab] at hk; cases hk
      | false =>
        rw [hab, cond_false] at hk
        unfold stepU
        rw [hk, cond_false, cond_false]
        cases (bif geI ((out.length : Int) - 1) 0 then ((D.nth out (out.length - 1)).at' 1).int == zs[j] else false) <;> rfl
  · simp at h
    refine W.ret ?_
    rcases Nat.lt_or_ge j zs.length with h1 | h1
    · have hd : zs.drop j = [zs[j]] := by rw [List.drop_eq_getElem_cons h1, List.drop_eq_nil_of_le (by omega)]
      rw [hd] at a3
      rw [← a3]
      rfl
    · rw [List.drop_eq_nil_of_le h1] at a3
      rw [← a3]
      rfl
/-! ### The cuts -/
def esK (l : List D) (life : Int) (k : Nat) : List Int := [((D.nth l k).at' 2).int, ((D.nth l k).at' 3).int, IntKind.i64.wrap (IntKind.i64.wrap (((D.nth l k).at' 4).int - life) + 1)]
def inP (f t x : Int) : Bool := bif gtI x f then ltI x t else false
def inR (f t x : Int) : Bool := bif leI f x then leI x t else false
def Cut3 (l : List D) (life f t : Int) (c : Int → Bool) (n : Nat) (zs : List Int) : Prop := zs.length ≤ 2 + 3 * n ∧ ∀ x, x ∈ zs ↔ (x = f ∨ x = t ∨ ∃ k, k < n ∧ x ∈ esK l life k ∧ c x = true)
theorem in_step {zs es : List Int} {c : Int → Bool} {j : Nat} {zs' : List Int} (hj : j < es.length) (h : ∀ x, x ∈ zs' ↔ (x ∈ zs ∨ (x ∈ es.take j ∧ c x = true))) : ∀ x, x ∈ (bif c es[j] then zs' ++ [es[j]] else zs') ↔ (x ∈ zs ∨ (x ∈ es.take (j + 1) ∧ c x = true)) := fun x => by
  have ht : es.take (j + 1) = es.take j ++ [es[j]] := by rw [List.take_add_one, List.getElem?_eq_getElem hj]; rfl
  rw [ht]
  cases hc : c es[j] with
  | true =>
    simp only [cond_true, List.mem_append, List.mem_singleton, h]
    constructor
    · rintro ((h1 | ⟨h1, h2⟩) | rfl)
      · exact .inl h1
      · exact .inr ⟨.inl h1, h2⟩
      · exact .inr ⟨.inr rfl, hc⟩
    · rintro (h1 | ⟨h1 | rfl, h2⟩)
      · exact .inl (.inl h1)
      · exact .inl (.inr ⟨h1, h2⟩)
      · exact .inr rfl
  | false =>
    simp only [cond_false, List.mem_append, List.mem_singleton, h]
    constructor
    · rintro (h1 | ⟨h1, h2⟩)
      · exact .inl h1
      · exact .inr ⟨.inl h1, h2⟩
    · rintro (h1 | ⟨h1 | rfl, h2⟩)
      · exact .inl h1
      · exact .inr ⟨h1, h2⟩
      · rw [hc] at h2; cases h2
theorem w_in1 (f t : Int) (es zs : List Int) (he : es.length ≤ 3) (hz : zs.length ≤ 100) : W (fun K n => fixN (b_token_Uncovered_1 K) K [.n [.i f, .i t], .i (es.length : Int), .i 0, .n (zs.map D.i), .n (es.map D.i)]) (fun r => ∃ zs' : List Int, r = (0, [.n (es.map D.i), .n (zs'.map D.i)]) ∧ zs'.length ≤ zs.length + es.length ∧ ∀ x, x ∈ zs' ↔ (x ∈ zs ∨ (x ∈ es ∧ inP f t x = true))) := by
  refine W.rounds (F := fun K => b_token_Uncovered_1 K) (S := Nat × List Int) (fun q => [.n [.i f, .i t], .i (es.length : Int), .i (q.1 : Int), .n (q.2.map D.i), .n (es.map D.i)]) (fun q => q.1 ≤ es.length ∧ q.2.length ≤ zs.length + q.1 ∧ ∀ x, x ∈ q.2 ↔ (x ∈ zs ∨ (x ∈ es.take q.1 ∧ inP f t x = true))) (fun q => es.length - q.1) (fun q hI rc ih => ?_) (0, zs) ⟨by simp, by simp, by simp⟩
  obtain ⟨j, ys⟩ := q
  obtain ⟨a1, a2, a3⟩ := hI
  simp only at a1 a2 a3
  unfold b_token_Uncovered_1
  simp only [D.nth_zero, D.nth_succ, D.int_i, D.list_n, D.at_n, Int.toNat_natCast, List.length_map]
  have e1 : IntKind.i64.wrap ((j : Int) + 1) = ((j + 1 : Nat) : Int) := by rw [wrap_i64 (by omega) (by omega)]; omega
  rw [e1]
  refine W.cond (fun h => ?_) (fun h => ?_)
  · simp at h
    refine W.cond (fun _ => ?_) (fun h => by simp at h; omega)
    rw [nthI es j h]
    simp only [D.int_i]
    have hst := in_step h a3
    have hc : (bif gtI es[j] f then ltI es[j] t else false) = inP f t es[j] := rfl
    rw [hc]
    refine W.cond (fun hb => ?_) (fun hb => ?_)
    · rw [hb, cond_true] at hst
      refine W.cond (fun _ => ?_) (fun h => absurd (lim_mk (n := ys.length + 1) (by omega)) (by rw [h]; simp))
      have := ih (j + 1, ys ++ [es[j]]) ⟨by simp only; omega, by simp; omega, hst⟩ (by simp only; omega)
      simpa using this
    · rw [hb, cond_false] at hst
      exact ih (j + 1, ys) ⟨by simp only; omega, by simp only; omega, hst⟩ (by simp only; omega)
  · simp at h
    have : j = es.length := by omega
    subst this
    rw [List.take_length] at a3
    exact W.ret ⟨ys, rfl, a2, a3⟩
theorem w_in2 (f t : Int) (es zs : List Int) (he : es.length ≤ 3) (hz : zs.length ≤ 100) : W (fun K n => fixN (b_gateref2_UncoveredOf_1 K) K [.n [.i f, .i t], .i (es.length : Int), .i 0, .n (zs.map D.i), .n (es.map D.i)]) (fun r => ∃ zs' : List Int, r = (0, [.n (es.map D.i), .n (zs'.map D.i)]) ∧ zs'.length ≤ zs.length + es.length ∧ ∀ x, x ∈ zs' ↔ (x ∈ zs ∨ (x ∈ es ∧ inR f t x = true))) := by
  refine W.rounds (F := fun K => b_gateref2_UncoveredOf_1 K) (S := Nat × List Int) (fun q => [.n [.i f, .i t], .i (es.length : Int), .i (q.1 : Int), .n (q.2.map D.i), .n (es.map D.i)]) (fun q => q.1 ≤ es.length ∧ q.2.length ≤ zs.length + q.1 ∧ ∀ x, x ∈ q.2 ↔ (x ∈ zs ∨ (x ∈ es.take q.1 ∧ inR f t x = true))) (fun q => es.length - q.1) (fun q hI rc ih => ?_) (0, zs) ⟨by simp, by simp, by simp⟩
  obtain ⟨j, ys⟩ := q
  obtain ⟨a1, a2, a3⟩ := hI
  simp only at a1 a2 a3
  unfold b_gateref2_UncoveredOf_1
  simp only [D.nth_zero, D.nth_succ, D.int_i, D.list_n, D.at_n, Int.toNat_natCast, List.length_map]
  have e1 : IntKind.i64.wrap ((j : Int) + 1) = ((j + 1 : Nat) : Int) := by rw [wrap_i64 (by omega) (by omega)]; omega
  rw [e1]
  refine W.cond (fun h => ?_) (fun h => ?_)
  · simp at h
    refine W.cond (fun _ => ?_) (fun h => by simp at h; omega)
    rw [nthI es j h]
    have hst := in_step h a3
    have hc : (D.nth (p_gateref2_in (.i es[j]) (.i f) (.i t)) 0).bool = inR f t es[j] := rfl
    rw [hc]
    refine W.cond (fun hb => ?_) (fun hb => ?_)
    · rw [hb, cond_true] at hst
      refine W.cond (fun _ => ?_) (fun h => absurd (lim_mk (n := ys.length + 1) (by omega)) (by rw [h]; simp))
      have := ih (j + 1, ys ++ [es[j]]) ⟨by simp only; omega, by simp; omega, hst⟩ (by simp only; omega)
      simpa using this
    · rw [hb, cond_false] at hst
      exact ih (j + 1, ys) ⟨by simp only; omega, by simp only; omega, hst⟩ (by simp only; omega)
  · simp at h
    have : j = es.length := by omega
    subst this
    rw [List.take_length] at a3
    exact W.ret ⟨ys, rfl, a2, a3⟩
theorem Sg.at2 {x : D} (h : Sg x) : x.at' 2 = .i (x.at' 2).int ∧ x.at' 3 = .i (x.at' 3).int := by
  obtain ⟨a, b, c, d, e, rfl, _⟩ := h
  exact ⟨rfl, rfl⟩
theorem cut_step {l : List D} {life f t : Int} {c : Int → Bool} {k : Nat} {zs zs' : List Int} (h : Cut3 l life f t c k zs) (hl : zs'.length ≤ zs.length + 3) (hm : ∀ x, x ∈ zs' ↔ (x ∈ zs ∨ (x ∈ esK l life k ∧ c x = true))) : Cut3 l life f t c (k + 1) zs' := by
  refine ⟨by have := h.1; omega, fun x => ?_⟩
  rw [hm, h.2]
  constructor
  · rintro ((h1 | h1 | ⟨q, h1, h2⟩) | h1)
    · exact .inl h1
    · exact .inr (.inl h1)
    · exact .inr (.inr ⟨q, by omega, h2⟩)
    · exact .inr (.inr ⟨k, by omega, h1⟩)
  · rintro (h1 | h1 | ⟨q, h1, h2⟩)
    · exact .inl (.inl h1)
    · exact .inl (.inr (.inl h1))
    · rcases Nat.lt_or_ge q k with h3 | h3
      · exact .inl (.inr (.inr ⟨q, h3, h2⟩))
      · have : q = k := by omega
        subst this
        exact .inr h2
theorem w_cutsP (l : List D) (hl : SgL l) (life f t : Int) : W (fun K n => fixN (b_token_Uncovered_0 K) K [.i life, .n [.i f, .i t], .n l, .i (l.length : Int), .i 0, .n [.i f, .i t]]) (fun r => ∃ zs : List Int, r = (0, [.n (zs.map D.i)]) ∧ Cut3 l life f t (inP f t) l.length zs) := by
  have hl3 := hl.1
  refine W.rounds (F := fun K => b_token_Uncovered_0 K) (S := Nat × List Int) (fun q => [.i life, .n [.i f, .i t], .n l, .i (l.length : Int), .i (q.1 : Int), .n (q.2.map D.i)]) (fun q => q.1 ≤ l.length ∧ Cut3 l life f t (inP f t) q.1 q.2) (fun q => l.length - q.1) (fun q hI rc ih => ?_) (0, [f, t]) ⟨by simp, by simp, by simp⟩
  obtain ⟨j, zs⟩ := q
  obtain ⟨a1, a2⟩ := hI
  simp only at a1 a2
  have hzl := a2.1
  unfold b_token_Uncovered_0
  simp only [D.nth_zero, D.nth_succ, D.int_i, D.list_n, Int.toNat_natCast]
  have e1 : IntKind.i64.wrap ((j : Int) + 1) = ((j + 1 : Nat) : Int) := by rw [wrap_i64 (by omega) (by omega)]; omega
  rw [e1]
  refine W.cond (fun h => ?_) (fun h => ?_)
  · simp at h
    refine W.cond (fun _ => ?_) (fun h => by simp at h; omega)
    obtain ⟨g2, g3⟩ := (hl.nth h).at2
    have e2 : [(D.nth l j).at' 2, (D.nth l j).at' 3, D.i (IntKind.i64.wrap (IntKind.i64.wrap (((D.nth l j).at' 4).int - life) + 1))] = (esK l life j).map D.i := by rw [g2, g3]; rfl
    rw [e2]
    have hw := w_in1 f t (esK l life j) zs (Nat.le_refl _) (by omega)
    have e3 : ((esK l life j).length : Int) = 3 := rfl
    rw [e3] at hw
    refine W.bind hw ?_
    rintro _ ⟨zs', rfl, h1, h2⟩
    exact ih (j + 1, zs') ⟨by simp only; omega, cut_step a2 h1 h2⟩ (by simp only; omega)
  · simp at h
    have : j = l.length := by omega
    subst this
    exact W.ret ⟨zs, rfl, a2⟩
theorem w_cutsR (l : List D) (hl : SgL l) (life f t : Int) : W (fun K n => fixN (b_gateref2_UncoveredOf_0 K) K [.i life, .n [.i f, .i t], .n l, .i (l.length : Int), .i 0, .n [.i f, .i t]]) (fun r => ∃ zs : List Int, r = (0, [.n (zs.map D.i)]) ∧ Cut3 l life f t (inR f t) l.length zs) := by
  have hl3 := hl.1
  refine W.rounds (F := fun K => b_gateref2_UncoveredOf_0 K) (S := Nat × List Int) (fun q => [.i life, .n [.i f, .i t], .n l, .i (l.length : Int), .i (q.1 : Int), .n (q.2.map D.i)]) (fun q => q.1 ≤ l.length ∧ Cut3 l life f t (inR f t) q.1 q.2) (fun q => l.length - q.1) (fun q hI rc ih => ?_) (0, [f, t]) ⟨by simp, by simp, by simp⟩
  obtain ⟨j, zs⟩ := q
  obtain ⟨a1, a2⟩ := hI
  simp only at a1 a2
  have hzl := a2.1
  unfold b_gateref2_UncoveredOf_0
  simp only [D.nth_zero, D.nth_succ, D.int_i, D.list_n, Int.toNat_natCast]
  have e1 : IntKind.i64.wrap ((j : Int) + 1) = ((j + 1 : Nat) : Int) := by rw [wrap_i64 (by omega) (by omega)]; omega
  rw [e1]
  refine W.cond (fun h => ?_) (fun h => ?_)
  · simp at h
    refine W.cond (fun _ => ?_) (fun h => by simp at h; omega)
    obtain ⟨g2, g3⟩ := (hl.nth h).at2
    have e2 : [(D.nth l j).at' 2, (D.nth l j).at' 3, D.i (IntKind.i64.wrap (IntKind.i64.wrap (((D.nth l j).at' 4).int - life) + 1))] = (esK l life j).map D.i := by rw [g2, g3]; rfl
    rw [e2]
    have hw := w_in2 f t (esK l life j) zs (Nat.le_refl _) (by omega)
    have e3 : ((esK l life j).length : Int) = 3 := rfl
    rw [e3] at hw
    refine W.bind hw ?_
    rintro _ ⟨zs', rfl, h1, h2⟩
    exact ih (j + 1, zs') ⟨by simp only; omega, cut_step a2 h1 h2⟩ (by simp only; omega)
  · simp at h
    have : j = l.length := by omega
    subst this
    exact W.ret ⟨zs, rfl, a2⟩
/-! ### Both sides -/
def Mem3 (l : List D) (life f t x : Int) : Prop := x = f ∨ x = t ∨ ∃ k, k < l.length ∧ x ∈ esK l life k ∧ inP f t x = true
theorem asc_ints {l' : List D} {zs : List Int} (h : l'.Perm (zs.map D.i)) (ha : Asc l' (zs.map D.i).length) : l' = (l'.map D.int).map D.i ∧ (l'.map D.int).Pairwise (· ≤ ·) ∧ ∀ x, x ∈ l'.map D.int ↔ x ∈ zs := by
  have hel : ∀ y ∈ l', ∃ n : Int, y = .i n := fun y hy => by
    obtain ⟨n, _, rfl⟩ := List.mem_map.1 (h.subset hy)
    exact ⟨n, rfl⟩
  refine ⟨?_, ?_, fun x => ?_⟩
  · rw [List.map_map]
    exact (List.map_id l').symm.trans (List.map_congr_left fun y hy => by obtain ⟨n, rfl⟩ := hel y hy; rfl)
  · rw [List.pairwise_iff_getElem]
    intro i j hi hj hij
    have hi' : i < l'.length := by simpa using hi
    have hj' : j < l'.length := by simpa using hj
    have := ha i j hij (by rw [← h.length_eq]; exact hj')
    rw [nth_eq hi', nth_eq hj'] at this
    simpa using this
  · have h2 := (h.map D.int).mem_iff (a := x)
    rw [h2, List.map_map]
    have : D.int ∘ D.i = id := rfl
    rw [this, List.map_id]
theorem Sorted3 (l : List D) (life f t : Int) : ∀ zs zs' : List Int, zs.Pairwise (· < ·) → zs'.Pairwise (· < ·) → (∀ x, x ∈ zs ↔ Mem3 l life f t x) → (∀ x, x ∈ zs' ↔ Mem3 l life f t x) → zs = zs' := fun zs zs' h1 h2 h3 h4 => sorted_ext zs zs' h1 h2 fun x => by rw [h3, h4]
def argU (f t life : Int) : Bool := bif (bif (bif ltI f 0 then true else gtI f t) then true else gtI t 345686400000) then true else (bif ltI life 0 then true else gtI life 345686400000)
theorem w_Uncovered (l : List D) (hl : SgL l) (life f t : Int) : W (fun K _ => f_token_Uncovered K (.n l) (.n [.i f, .i t]) (.i life)) (fun r => bif ((D.nth (chkD l) 0).int != 0) then r = [D.nth (chkD l) 0, .n []] else bif argU f t life then r = [.i 1, .n []] else ∃ zs : List Int, zs.length ≤ 100 ∧ zs.Pairwise (· < ·) ∧ (∀ x, x ∈ zs ↔ Mem3 l life f t x) ∧ r = [.i 0, .n (runU l life zs [])]) := by
  have hl3 := hl.1
  unfold f_token_Uncovered
  refine W.bind (w_CheckSigners l hl) ?_
  rintro _ rfl
  refine W.cond (fun h => W.ret (by rw [h]; rfl)) (fun h => ?_)
  rw [h]
  simp only [cond_false, D.at_n, D.nth_zero, D.nth_succ]
  have ha : (bif (bif (D.nth (p_kit_Outside (.i f) (D.i 0) (.i t)) 0).bool then true else gtI (D.i t).int 345686400000) then true else (D.nth (p_kit_Outside (.i life) (D.i 0) (D.i 345686400000)) 0).bool) = argU f t life := rfl
  rw [ha]
  refine W.cond (fun h => W.ret (by rw [h]; rfl)) (fun h => ?_)
  simp only [h, cond_false, D.list_n]
  refine W.bind (w_cutsP l hl life f t) ?_
  rintro _ ⟨zs, rfl, hz1, hz2⟩
  simp only [D.nth_zero, D.list_n]
  refine W.bind (w_Sort (zs.map D.i) (by simp; omega)) ?_
  rintro _ ⟨l', rfl, hp, hasc⟩
  obtain ⟨g1, g2, g3⟩ := asc_ints hp hasc
  simp only [D.nth_zero, D.list_n, p_slices_Compact_int, compI]
  have hlen : (l'.map D.int).length ≤ 12 := by rw [List.length_map, hp.length_eq, List.length_map]; omega
  have hcl := Lib.compact_length_le (l'.map D.int)
  refine W.bind (w_runU l life (Lib.compact (l'.map D.int)) (by omega)) ?_
  rintro _ rfl
  refine W.ret ⟨Lib.compact (l'.map D.int), by omega, compact_sorted _ g2, fun x => ?_, rfl⟩
  rw [compact_mem _ g2, g3, hz2]
  exact Iff.rfl
theorem w_UncoveredOf (l : List D) (hl : SgL l) (life f t : Int) (hft : f ≤ t) : W (fun K _ => f_gateref2_UncoveredOf K (.n l) (.n [.i f, .i t]) (.i life)) (fun r => ∃ zs : List Int, zs.length ≤ 100 ∧ zs.Pairwise (· < ·) ∧ (∀ x, x ∈ zs ↔ Mem3 l life f t x) ∧ r = [.n (runU l life zs [])]) := by
  have hl3 := hl.1
  unfold f_gateref2_UncoveredOf
  simp only [D.at_n, D.nth_zero, D.nth_succ, D.list_n]
  refine W.bind (w_cutsR l hl life f t) ?_
  rintro _ ⟨zs, rfl, hz1, hz2⟩
  simp only [D.nth_zero, D.list_n]
  refine W.bind (w_Sort (zs.map D.i) (by simp; omega)) ?_
  rintro _ ⟨l', rfl, hp, hasc⟩
  obtain ⟨g1, g2, g3⟩ := asc_ints hp hasc
  simp only [D.nth_zero, D.list_n]
  have hlen : (l'.map D.int).length ≤ 12 := by rw [List.length_map, hp.length_eq, List.length_map]; omega
  rw [g1]
  refine W.bind (w_runV l life (l'.map D.int) (by omega)) ?_
  rintro _ rfl
  have hdl : ∀ zs : List Int, (ded zs).length ≤ zs.length := fun zs => by
    induction zs with
    | nil => simp [ded]
    | cons a r ih =>
      cases r with
      | nil => simp [ded]
      | cons b r =>
        have e : ded (a :: b :: r) = bif a == b then ded (b :: r) else a :: ded (b :: r) := rfl
        rw [e]
        simp only [List.length_cons] at ih ⊢
        cases a == b <;> simp only [cond_true, cond_false, List.length_cons] <;> omega
  refine W.ret ⟨ded (l'.map D.int), by have := hdl (l'.map D.int); omega, ded_sorted _ g2, fun x => ?_, by rw [runV_ded]; rfl⟩
  rw [ded_mem, g3, hz2]
  unfold Mem3
  constructor
  · rintro (h | h | ⟨k, h1, h2, h3⟩)
    · exact .inl h
    · exact .inr (.inl h)
    · by_cases hf : x = f
      · exact .inl hf
      by_cases ht : x = t
      · exact .inr (.inl ht)
      refine .inr (.inr ⟨k, h1, h2, ?_⟩)
      unfold inR at h3
      unfold inP
      cases q1 : leI f x with
      | false => rw [q1] at h3; cases h3
      | true =>
        rw [q1, cond_true] at h3
        simp at q1 h3
        have q2 : gtI x f = true := by simp; omega
        rw [q2, cond_true]
        simp
        omega
  · rintro (h | h | ⟨k, h1, h2, h3⟩)
    · exact .inl h
    · exact .inr (.inl h)
    · refine .inr (.inr ⟨k, h1, h2, ?_⟩)
      unfold inP at h3
      unfold inR
      cases q1 : gtI x f with
      | false => rw [q1] at h3; cases h3
      | true =>
        rw [q1, cond_true] at h3
        simp at q1 h3
        have q2 : leI f x = true := by simp; omega
        rw [q2, cond_true]
        simp
        omega
/-! ### The law -/
def firstNZ : List D → Int
  | [] => 0
  | x :: r => bif x.int != 0 then x.int else firstNZ r
theorem firstNZ_scan : ∀ (xs : List D) (j m : Nat), m + j = xs.length → (D.nth (bif (scan (fun j => bif ((D.nth xs j).int != 0) then some (0, [D.nth xs j]) else none) ((1, []) : Nat × List D) m j).1.beq 0 then [D.nth (scan (fun j => bif ((D.nth xs j).int != 0) then some (0, [D.nth xs j]) else none) ((1, []) : Nat × List D) m j).2 0] else [.i 0]) 0).int = firstNZ (xs.drop j)
  | xs, j, 0, h => by rw [List.drop_eq_nil_of_le (by omega)]; rfl
  | xs, j, m + 1, h => by
    have hj : j < xs.length := by omega
    have ih := firstNZ_scan xs (j + 1) m (by omega)
    rw [drop_nth hj]
    simp only [scan, firstNZ]
    cases hx : (D.nth xs j).int != 0 with
    | true => rfl
    | false => exact ih
theorem w_errsI (xs : List D) (hx : xs.length ≤ 100) : W (fun K _ => f_gatelaw2_errs K (.n xs)) (fun r => ∃ x, r = [x] ∧ x.int = firstNZ xs) := by
  unfold f_gatelaw2_errs
  simp only [D.list_n]
  refine W.bind (W.early xs.length (fun j => [.n xs, .i xs.length, .i (j : Int)]) (fun j => bif ((D.nth xs j).int != 0) then some (0, [D.nth xs j]) else none) (1, []) (fun j hj hp p rc h1 h2 => ?_) (fun rc => ?_)) ?_
  · unfold b_gatelaw2_errs_0
    simp only [D.nth_zero, D.nth_succ, D.int_i, D.list_n, Int.toNat_natCast]
    refine W.cond (fun _ => ?_) (fun h => by simp at h; omega)
    refine W.cond (fun _ => ?_) (fun h => by simp at h; omega)
    refine W.cond (fun h => W.ret (h1 _ (by rw [h]; rfl))) (fun h => ?_)
    rw [wrap_i64 (by omega) (by omega)]
    exact h2 (by rw [h]; rfl)
  · unfold b_gatelaw2_errs_0
    simp only [D.nth_zero, D.nth_succ, D.int_i]
    exact W.cond (fun h => by simp at h) (fun _ => W.ret rfl)
  · rintro _ rfl
    have := firstNZ_scan xs 0 xs.length (by omega)
    rw [List.drop_zero] at this
    generalize (scan (fun j => bif ((D.nth xs j).int != 0) then some (0, [D.nth xs j]) else none) ((1, []) : Nat × List D) xs.length 0) = s at this ⊢
    refine W.cond (fun h => ?_) (fun h => ?_)
    · rw [h] at this
      exact W.ret ⟨_, rfl, this⟩
    · rw [h] at this
      exact W.ret ⟨_, rfl, this⟩
theorem w_EqualW (l : List D) (hl : l.length ≤ 1000) : W (fun K _ => f_slices_Equal_api_Window K (.n l) (.n l)) (fun r => r = [.b true]) := by
  unfold f_slices_Equal_api_Window
  simp only [D.list_n]
  refine W.cond (fun h => by simp at h) (fun _ => ?_)
  refine W.bind (W.early l.length (fun j => [.n l, .n l, .i l.length, .i j]) (fun _ => none) (1, []) (fun j hj hp p rc h1 h2 => ?_) (fun rc => ?_)) ?_
  · unfold b_slices_Equal_api_Window_0
    simp only [D.nth_zero, D.nth_succ, D.list_n, D.int_i, Int.toNat_natCast]
    refine W.cond (fun _ => ?_) (fun h => by simp at h; omega)
    refine W.cond (fun _ => ?_) (fun h => by simp at h; omega)
    refine W.cond (fun _ => ?_) (fun h => by simp at h; omega)
    rw [eqK_refl]
    refine W.cond (fun h => by simp at h) (fun h => ?_)
    rw [wrap_i64 (by omega) (by omega)]
    exact h2 rfl
  · unfold b_slices_Equal_api_Window_0
    simp only [D.nth_zero, D.nth_succ, D.list_n, D.int_i]
    exact W.cond (fun h => by simp at h) (fun _ => W.ret rfl)
  · rintro _ rfl
    rcases scan_cases (fun _ => (none : Option (Nat × List D))) (1, []) l.length 0 with ⟨i, r, h1, h2, h3, _⟩ | ⟨h1, h2⟩
    · cases h3
    · rw [h2]; exact W.ret rfl
def momB (a : Int) : Bool := bif geI a 0 then ltI a 345686400000 else false
theorem moment2 (x : D) : (D.nth (p_gateref2_Moment x) 0).bool = momB x.int := by
  simp only [p_gateref2_Moment, p_gateref2_in, D.nth_zero, D.bool_b, D.int_i, momB]
  generalize x.int = x
  cases h1 : leI 0 x <;> cases h2 : leI x 345686399999 <;> cases h3 : geI x 0 <;> cases h4 : ltI x 345686400000 <;> first | rfl | (exfalso; simp at h1 h2 h3 h4; omega)
theorem w_moment (t : Int) : W (fun K _ => f_gatelaw2_momentFault K (.i t)) (fun r => r = [.i (bif !momB t then 1 else 0)]) := by
  unfold f_gatelaw2_momentFault
  rw [moment2]
  refine W.bind (w_when _ _) ?_
  rintro _ rfl
  exact W.ret rfl
theorem w_SignerAt (l : List D) (hl : SgL l) (t : Int) : W (fun K _ => f_token_SignerAt K (.n l) (.i t)) (fun r => r = bif ((D.nth (chkD l) 0).int != 0) then [.s [], D.nth (chkD l) 0] else bif !momB t then [.s [], .i 1] else bif !(D.nth (sigD l t) 1).bool then [.s [], .i 8] else [(D.nth (sigD l t) 0).at' 0, .i 0]) := by
  unfold f_token_SignerAt
  refine W.bind (w_CheckSigners l hl) ?_
  rintro _ rfl
  refine W.cond (fun h => W.ret (by rw [h]; rfl)) (fun h => ?_)
  rw [h, cond_false]
  refine W.bind (p := fun r => r = [.i (bif !momB t then 1 else 0)]) ?_ ?_
  · unfold f_token_momentFault
    have : (D.nth (p_kit_IsMoment (.i t)) 0).bool = momB t := rfl
    rw [this]
    exact W.cond (fun h => W.ret (by rw [h]; rfl)) (fun h => W.ret (by rw [h]; rfl))
  rintro _ rfl
  cases hm : !momB t with
  | true => exact W.cond (fun _ => W.ret rfl) (fun h => by simp at h)
  | false =>
    refine W.cond (fun h => by simp at h) (fun _ => ?_)
    refine W.bind (w_signerAt l _) ?_
    rintro _ rfl
    simp only [D.int_i]
    exact W.cond (fun h => W.ret (by rw [h]; rfl)) (fun h => W.ret (by rw [h]; rfl))
theorem int_of_mem {y : D} {l : List Int} (h : y ∈ l.map D.i) : ∃ n : Int, y = .i n := by
  obtain ⟨n, _, rfl⟩ := List.mem_map.1 h
  exact ⟨n, rfl⟩
theorem w_PickI (c : Int) (s : D) (l : List Int) (hs : St c s) (hc : c ≤ 999999999999) (h1 : l ≠ []) (h2 : l.length ≤ 100) : W (fun K _ => f_gatemake_Stream_Pick K s (.n (l.map D.i))) (fun r => ∃ x s' t, r = [.i x, s', t] ∧ x ∈ l ∧ St (c + 1) s') := by
  refine (W.mono (w_Pick c s (l.map D.i) hs (by omega) (by simpa using h1) (by simp; omega))) ?_
  rintro _ ⟨x, s', t, rfl, hx, h⟩
  obtain ⟨y, hy, rfl⟩ := List.mem_map.1 hx
  exact ⟨y, s', t, rfl, hy, h⟩
theorem pure (zs : List Int) (h : zs.length ≤ maxLen) (hw : ∀ n ∈ zs, (Lit.int .i64 n).wf = true) : ∃ K, f_gatelaw2_SignersSign K (.n (zs.map D.i)) = some [.b true] := by
  have : W (fun K _ => f_gatelaw2_SignersSign K (.n (zs.map D.i))) (· = [.b true]) := by
    unfold f_gatelaw2_SignersSign
    refine W.bind (w_Signers 0 _ ⟨_, 0, rfl, by omega, by omega⟩ (by omega)) ?_
    rintro _ ⟨s1, l, rfl, hl, h1⟩
    simp only [D.nth_zero, D.nth_succ, D.list_n]
    refine W.bind (p := fun r => ∃ t s', r = [.i t, s'] ∧ St 50 s') ?_ ?_
    · unfold f_gatemake_Stream_Moment
      refine W.bind (w_PickI _ s1 [0, 10, 49, 50, 60, 99, 100, 101, 149, 150, 200, 300, 1000, -1, 345686400000] h1 (by omega) (by simp) (by simp)) ?_
      rintro _ ⟨t, s2, _, rfl, _, h2⟩
      exact W.ret ⟨t, s2, rfl, h2.le (by omega)⟩
    rintro _ ⟨t, s2, rfl, h2⟩
    simp only [D.nth_zero, D.nth_succ]
    refine W.bind (w_PickI _ s2 [0, 1, 5, 50, 100, 1000, -1, 345686400001] h2 (by omega) (by simp) (by simp)) ?_
    rintro _ ⟨life, s3, _, rfl, _, h3⟩
    simp only [D.nth_zero, D.nth_succ]
    refine W.bind (w_PickI _ s3 [0, 10, 60] h3 (by omega) (by simp) (by simp)) ?_
    rintro _ ⟨f0, s4, _, rfl, _, h4⟩
    simp only [D.nth_zero, D.nth_succ]
    refine W.bind (w_PickI _ s4 [60, 100, 300, 1000] h4 (by omega) (by simp) (by simp)) ?_
    rintro _ ⟨t0, s5, _, rfl, _, h5⟩
    simp only [D.nth_zero, D.nth_succ]
    refine W.bind (w_Flip _ _ s5 h5 (by omega) (by simp)) ?_
    rintro _ ⟨b, s6, rfl, h6⟩
    simp only [D.nth_zero, D.nth_succ]
    refine W.bind (p := fun r => ∃ f tt s', r = (0, [s', .n [.i f, .i tt]])) ?_ ?_
    · unfold b_gatelaw2_SignersSign_0
      simp only [D.nth_zero, D.nth_succ, D.bool_b]
      refine W.cond (fun _ => ?_) (fun _ => W.ret ⟨_, _, _, rfl⟩)
      refine W.bind (w_Odd _ 0 100 s6 h6 (by omega) (by omega) (by omega) (by omega)) ?_
      rintro _ ⟨z1, s9, rfl, _, _, h9⟩
      simp only [D.nth_zero, D.nth_succ]
      refine W.bind (w_Odd _ 0 1000 s9 h9 (by omega) (by omega) (by omega) (by omega)) ?_
      rintro _ ⟨z2, s10, rfl, _, _, h10⟩
      exact W.ret ⟨_, _, _, rfl⟩
    rintro _ ⟨f, tt, s7, rfl⟩
    simp only [D.nth_zero, D.nth_succ]
    generalize hc : (D.nth (chkD l) 0) = ck
    refine W.bind (w_SignerAt l hl t) ?_
    rintro _ rfl
    rw [hc]
    refine W.bind (w_Uncovered l hl life f tt) ?_
    intro u hu
    rw [hc] at hu
    refine W.bind (w_SignersFault l hl) ?_
    rintro _ rfl
    refine W.bind (w_CheckSigners l hl) ?_
    rintro _ rfl
    rw [hc]
    refine W.cond (fun h => by simp at h) (fun _ => ?_)
    refine W.bind (w_moment t) ?_
    rintro _ rfl
    simp only [D.nth_zero]
    refine W.bind (w_errsI _ (by simp)) ?_
    rintro _ ⟨e1, rfl, he1⟩
    simp only [D.nth_zero]
    simp only [firstNZ, D.int_i] at he1
    -- who signs
    refine W.bind (p := fun q => ∃ one want : D, q = (0, [one, want, .n l]) ∧ (bif (((D.nth (bif (ck.int != 0) then [.s [], ck] else bif !momB t then [.s [], .i 1] else bif !(D.nth (sigD l t) 1).bool then [.s [], .i 8] else [(D.nth (sigD l t) 0).at' 0, .i 0]) 1).int) == one.int) then (((D.nth (bif (ck.int != 0) then [.s [], ck] else bif !momB t then [.s [], .i 1] else bif !(D.nth (sigD l t) 1).bool then [.s [], .i 8] else [(D.nth (sigD l t) 0).at' 0, .i 0]) 0).str) == want.str) else false) = true) ?_ ?_
    · unfold b_gatelaw2_SignersSign_1
      simp only [D.nth_zero, D.nth_succ, D.list_n, D.bool_b]
      cases hk : ck.int != 0 with
      | true =>
        rw [hk] at he1
        have hne : (e1.int == 0) = false := by rw [he1]; simpa [bne] using hk
        refine W.cond (fun h => by rw [hne] at h; cases h) (fun _ => W.ret ⟨e1, _, rfl, ?_⟩)
        simp [he1]
      | false =>
        rw [hk] at he1
        cases hm : !momB t with
        | true =>
          rw [hm] at he1
          have he1 : e1.int = 1 := he1
          refine W.cond (fun h => by rw [he1] at h; cases h) (fun _ => W.ret ⟨e1, _, rfl, ?_⟩)
          simp [he1]
        | false =>
          rw [hm] at he1
          have he1 : e1.int = 0 := he1
          refine W.cond (fun _ => ?_) (fun h => by rw [he1] at h; cases h)
          refine W.bind (w_SignerOf l _) ?_
          rintro _ rfl
          simp only [D.int_i]
          refine W.bind (w_when _ _) ?_
          rintro _ rfl
          refine W.ret ⟨_, _, rfl, ?_⟩
          cases hs : !(D.nth (sigD l t) 1).bool with
          | true =>
            have hnone : lastS l t l.length = none := by
              unfold sigD at hs
              cases hL : lastS l t l.length with
              | none => rfl
              | some x => rw [hL] at hs; simp at hs
            unfold sigD
            rw [hnone]
            rfl
          | false => simp
    rintro _ ⟨one, want, rfl, hone⟩
    simp only [D.nth_zero, D.nth_succ, D.list_n, D.at_n, D.int_i]
    rw [hone]
    -- what is uncovered
    refine W.bind (w_when _ _) ?_
    rintro _ rfl
    refine W.bind (w_when _ _) ?_
    rintro _ rfl
    simp only [D.nth_zero]
    refine W.bind (w_errsI _ (by simp)) ?_
    rintro _ ⟨e2, rfl, he2⟩
    simp only [D.nth_zero]
    simp only [firstNZ, D.int_i] at he2
    have hfin : ∀ {m : List D}, m.length ≤ 1000 → W (fun K _ => (f_slices_Equal_api_Window K (.n m) (.n m)).bind fun t19 => bif (D.nth t19 0).bool then (f_gatelaw2_signed K).bind fun t20 => some [D.b ((D.nth t20 0).bool)] else some [D.b false]) (· = [.b true]) := fun {m} hm => by
      refine W.bind (w_EqualW m hm) ?_
      rintro _ rfl
      refine W.cond (fun _ => ?_) (fun h => by simp at h)
      refine W.bind signed ?_
      rintro _ rfl
      exact W.ret rfl
    have harg : (bif (bif (bif ltI f 0 then true else gtI f tt) then true else gtI tt 345686400000) then true else (bif ltI life 0 then true else gtI life 345686400000)) = argU f tt life := rfl
    cases hk : ck.int != 0 with
    | true =>
      rw [hk] at hu he2
      have hu : u = [ck, .n []] := hu
      subst hu
      have hne : (e2.int == 0) = false := by rw [he2]; simpa [bne] using hk
      refine W.bind (p := fun q => q = (0, [.n l, .n [.i f, .i tt], .n []])) ?_ ?_
      · unfold b_gatelaw2_SignersSign_2
        simp only [D.nth_zero, D.nth_succ, D.list_n, D.bool_b]
        exact W.cond (fun h => by rw [hne] at h; cases h) (fun _ => W.ret rfl)
      rintro _ rfl
      simp only [D.nth_zero, D.nth_succ, D.list_n]
      refine W.cond (fun _ => hfin (by simp)) (fun h => ?_)
      rw [he2] at h
      simp at h
    | false =>
      rw [hk] at hu he2
      cases ha : argU f tt life with
      | true =>
        rw [ha] at hu
        have hu : u = [.i 1, .n []] := hu
        subst hu
        have he2 : e2.int = 1 := by
          rw [he2]
          unfold argU at ha
          cases q1 : (bif (bif ltI f 0 then true else gtI f tt) then true else gtI tt 345686400000) with
          | true => rfl
          | false =>
            rw [q1] at ha
            have ha : (bif ltI life 0 then true else gtI life 345686400000) = true := ha
            rw [ha]
            rfl
        refine W.bind (p := fun q => q = (0, [.n l, .n [.i f, .i tt], .n []])) ?_ ?_
        · unfold b_gatelaw2_SignersSign_2
          simp only [D.nth_zero, D.nth_succ, D.list_n, D.bool_b]
          exact W.cond (fun h => by rw [he2] at h; cases h) (fun _ => W.ret rfl)
        rintro _ rfl
        simp only [D.nth_zero, D.nth_succ, D.list_n]
        refine W.cond (fun _ => hfin (by simp)) (fun h => ?_)
        rw [he2] at h
        simp at h
      | false =>
        rw [ha] at hu
        obtain ⟨zs1, g1, g2, g3, hu⟩ := hu
        subst hu
        have hft : f ≤ tt := by
          unfold argU at ha
          cases q1 : ltI f 0 <;> cases q2 : gtI f tt <;> rw [q1, q2] at ha <;> simp at ha
          simpa using q2
        have he2 : e2.int = 0 := by
          rw [he2]
          unfold argU at ha
          cases q1 : (bif (bif ltI f 0 then true else gtI f tt) then true else gtI tt 345686400000) with
          | true => rw [q1] at ha; cases ha
          | false =>
            rw [q1] at ha
            have ha : (bif ltI life 0 then true else gtI life 345686400000) = false := ha
            rw [ha]
            rfl
        refine W.bind (p := fun q => q = (0, [.n l, .n [.i f, .i tt], .n (runU l life zs1 [])])) ?_ ?_
        · unfold b_gatelaw2_SignersSign_2
          simp only [D.nth_zero, D.nth_succ, D.list_n, D.bool_b]
          refine W.cond (fun _ => ?_) (fun h => by rw [he2] at h; cases h)
          refine W.bind (w_UncoveredOf l hl life f tt hft) ?_
          rintro _ ⟨zs2, k1, k2, k3, rfl⟩
          rw [Sorted3 l life f tt zs1 zs2 g2 k2 g3 k3]
          exact W.ret rfl
        rintro _ rfl
        simp only [D.nth_zero, D.nth_succ, D.list_n]
        have hrl := runU_len l life zs1 []
        refine W.cond (fun _ => hfin (by simp at hrl; omega)) (fun h => ?_)
        rw [he2] at h
        simp at h
  obtain ⟨K, r, h1, rfl⟩ := this.get
  exact ⟨K, h1⟩
end Go.Proofs.YtkknmomoomjofaaP
