/- The plain law: what the printed functions come to. -/
import Derived.Test.YtlogmjgkbfahjaaYtDc
import Derived.Test.YtlogmjgkbfahjaaEvPure
namespace Go.Proofs.YtlogmjgkbfahjaaP
open Go Go.Ev
set_option linter.unusedVariables false
set_option linter.unusedSimpArgs false
/-! ### The stream of numbers -/
def St (c : Int) (s : D) : Prop := ∃ L at', s = .n [L, .i at'] ∧ 0 ≤ at' ∧ at' ≤ c
theorem St.le {c c' : Int} {s : D} (h : St c s) (hc : c ≤ c') : St c' s := let ⟨L, a, h1, h2, h3⟩ := h; ⟨L, a, h1, h2, by omega⟩
theorem w_Below (x n : D) (hn : n.int ≤ 4611686018427387904) : W (fun K _ => f_gatemake_Below K x n) (fun r => ∃ i, r = [.i i] ∧ 0 ≤ i ∧ (1 ≤ n.int → i < n.int)) := by
  unfold f_gatemake_Below
  refine W.cond (fun h => ?_) (fun h => ?_)
  · simp at h
    exact W.ret ⟨0, rfl, by omega, by omega⟩
  · simp at h
    have h1 := Int.tmod_lt_of_pos x.int (show 0 < n.int by omega)
    have h2 := Int.lt_tmod_of_pos x.int (show 0 < n.int by omega)
    refine W.cond (fun _ => ?_) (fun h' => by simp at h'; omega)
    refine W.cond (fun h' => ?_) (fun h' => ?_)
    · simp at h'
      rw [wrap_i64 (by omega) (by omega)]
      exact W.ret ⟨_, rfl, by omega, fun _ => by omega⟩
    · simp at h'
      exact W.ret ⟨_, rfl, by omega, fun _ => by omega⟩
theorem w_Next (c : Int) (n s : D) (hs : St c s) (hc : c ≤ 1000000000000) (hn : n.int ≤ 4611686018427387904) : W (fun K _ => f_gatemake_Stream_Next K n s) (fun r => ∃ i s', r = [.i i, s'] ∧ 0 ≤ i ∧ (1 ≤ n.int → i < n.int) ∧ St (c + 1) s') := by
  obtain ⟨L, a, rfl, h1, h2⟩ := hs
  unfold f_gatemake_Stream_Next
  simp only [D.at_n, D.nth_zero, D.nth_succ, D.int_i]
  have e1 : IntKind.i64.wrap (a + 1) = a + 1 := wrap_i64 (by omega) (by omega)
  have e2 : IntKind.i64.wrap (a + 1 - 1) = a := by rw [wrap_i64 (by omega) (by omega)]; omega
  simp only [e1, e2]
  have hfin : ∀ i : Int, 0 ≤ i → (1 ≤ n.int → i < n.int) → W (fun _ _ => some [D.i i, D.n [L, D.i (a + 1)]]) (fun r => ∃ i s', r = [.i i, s'] ∧ 0 ≤ i ∧ (1 ≤ n.int → i < n.int) ∧ St (c + 1) s') := fun i h3 h4 => W.ret ⟨i, _, rfl, h3, h4, L, a + 1, rfl, by omega, by omega⟩
  refine W.cond (fun h => ?_) (fun h => ?_)
  · refine W.bind (w_Below _ n hn) ?_
    rintro _ ⟨i, rfl, h3, h4⟩
    exact hfin i h3 h4
  · have hL : 0 < L.list.length := by
      simp only [beq_eq_false_iff_ne, ne_eq] at h
      omega
    refine W.cond (fun _ => ?_) (fun h' => by simp at h'; simp [h'] at hL)
    refine W.cond (fun _ => ?_) (fun h' => by simp at h'; simp [h'] at hL)
    have h5 := Int.tmod_nonneg (L.list.length : Int) h1
    have h6 := Int.tmod_lt_of_pos a (show 0 < (L.list.length : Int) by omega)
    refine W.cond (fun _ => ?_) (fun h' => by simp [inB] at h'; omega)
    refine W.bind (w_Below _ (.i 1073741824) (by simp)) ?_
    rintro _ ⟨i, rfl, _, _⟩
    refine W.bind (w_Below _ n hn) ?_
    rintro _ ⟨j, rfl, h3, h4⟩
    exact hfin j h3 h4
theorem w_Flip (c : Int) (n s : D) (hs : St c s) (hc : c ≤ 1000000000000) (hn : n.int ≤ 4611686018427387904) : W (fun K _ => f_gatemake_Stream_Flip K n s) (fun r => ∃ b s', r = [.b b, s'] ∧ St (c + 1) s') := by
  unfold f_gatemake_Stream_Flip
  refine W.bind (w_Next c n s hs hc hn) ?_
  rintro _ ⟨i, s', rfl, _, _, h⟩
  exact W.ret ⟨_, s', rfl, h⟩
theorem nth_mem : ∀ {l : List D} {j : Nat}, j < l.length → D.nth l j ∈ l
  | a :: l, 0, _ => by simp
  | a :: l, j + 1, h => by simp only [D.nth_succ]; exact List.mem_cons_of_mem _ (nth_mem (by simpa using h))
/-- One of some numbers (or other data). -/
theorem w_Pick (c : Int) (s : D) (l : List D) (hs : St c s) (hc : c ≤ 1000000000000) (hl : l ≠ []) (hl2 : l.length ≤ 1000000) : W (fun K _ => f_gatemake_Stream_Pick K s (.n l)) (fun r => ∃ x s' t, r = [x, s', t] ∧ x ∈ l ∧ St (c + 1) s') := by
  unfold f_gatemake_Stream_Pick
  have : 0 < l.length := List.length_pos_iff.2 hl
  refine W.bind (w_Next c _ s hs hc (by simp; omega)) ?_
  rintro _ ⟨i, s', rfl, h1, h2, h3⟩
  simp only [D.int_i, D.list_n] at h2
  have h2 := h2 (by omega)
  refine W.cond (fun h => ?_) (fun h => absurd (inB_mk h1 h2) (by rw [D.nth_zero, D.int_i, D.list_n] at h; rw [h]; simp))
  exact W.ret ⟨_, s', _, rfl, nth_mem (show i.toNat < l.length by omega), h3⟩
theorem w_Range (c : Int) (lo hi : Int) (s : D) (hs : St c s) (hc : c ≤ 1000000000000) (h1 : 0 ≤ lo) (h2 : hi ≤ 1000000000000) : W (fun K _ => f_gatemake_Stream_Range K (.i lo) (.i hi) s) (fun r => ∃ x s', r = [.i x, s'] ∧ lo ≤ x ∧ (lo ≤ hi → x ≤ hi) ∧ St (c + 1) s') := by
  unfold f_gatemake_Stream_Range
  refine W.cond (fun h => ?_) (fun h => ?_)
  · simp at h
    exact W.ret ⟨lo, s, rfl, by omega, by omega, hs.le (by omega)⟩
  · simp at h
    have e1 : IntKind.i64.wrap (hi - lo) = hi - lo := wrap_i64 (by omega) (by omega)
    have e2 : IntKind.i64.wrap (hi - lo + 1) = hi - lo + 1 := wrap_i64 (by omega) (by omega)
    simp only [D.int_i, e1, e2]
    refine W.bind (w_Next c _ s hs hc (by simp; omega)) ?_
    rintro _ ⟨i, s', rfl, h3, h4, h5⟩
    simp only [D.int_i] at h4
    have h4 := h4 (by omega)
    simp only [D.nth_zero, D.nth_succ, D.int_i]
    rw [wrap_i64 (by omega) (by omega)]
    exact W.ret ⟨_, s', rfl, by omega, fun _ => by omega, h5⟩
theorem w_Odd (c : Int) (lo hi : Int) (s : D) (hs : St c s) (hc : c ≤ 999999999990) (h1 : 0 ≤ lo) (h0 : lo ≤ hi) (h2 : hi ≤ 1000000000000) : W (fun K _ => f_gatemake_Stream_Odd K (.i lo) (.i hi) s) (fun r => ∃ x s', r = [.i x, s'] ∧ -2000000000000 ≤ x ∧ x ≤ 2000000000000 ∧ St (c + 2) s') := by
  unfold f_gatemake_Stream_Odd
  refine W.bind (w_Flip c _ s hs (by omega) (by simp)) ?_
  rintro _ ⟨b, s', rfl, h3⟩
  simp only [D.nth_zero, D.nth_succ, D.bool_b]
  have e1 : IntKind.i64.wrap (lo - 1) = lo - 1 := wrap_i64 (by omega) (by omega)
  have e2 : IntKind.i64.wrap (hi + 1) = hi + 1 := wrap_i64 (by omega) (by omega)
  simp only [D.int_i, e1, e2]
  refine W.cond (fun _ => ?_) (fun _ => ?_)
  · refine W.bind (w_Pick (c + 1) s' _ h3 (by omega) (by simp) (by simp)) ?_
    rintro _ ⟨x, s2, t, rfl, hx, h4⟩
    simp only [List.mem_cons, List.not_mem_nil, or_false] at hx
    rcases hx with rfl | rfl | rfl | rfl | rfl | rfl <;> exact W.ret ⟨_, s2, rfl, by omega, by omega, h4.le (by omega)⟩
  · refine W.bind (w_Range (c + 1) lo hi s' h3 (by omega) h1 h2) ?_
    rintro _ ⟨x, s2, rfl, h4, h5, h6⟩
    exact W.ret ⟨x, s2, rfl, by omega, by have := h5 h0; omega, h6.le (by omega)⟩
/-! ### Keys -/
def smallC (c : UInt8) : Bool := bif leI 97 c.toNat then leI c.toNat 122 else false
def digitC (c : UInt8) : Bool := bif leI 48 c.toNat then leI c.toNat 57 else false
def restC (c : UInt8) : Bool := smallC c || (digitC c || (((c.toNat : Int) == 45) || ((c.toNat : Int) == 95)))
def smallL : List UInt8 := [97, 98, 99, 100, 101, 102, 103, 104, 105, 106, 107, 108, 109, 110, 111, 112, 113, 114, 115, 116, 117, 118, 119, 120, 121, 122]
def restL : List UInt8 := [97, 98, 99, 100, 101, 102, 103, 104, 105, 106, 107, 108, 109, 110, 111, 112, 113, 114, 115, 116, 117, 118, 119, 120, 121, 122, 48, 49, 50, 51, 52, 53, 54, 55, 56, 57, 45, 95]
def keyB (s : List UInt8) : Bool := (leI 1 s.length && leI s.length 40) && ((s.take 1).all smallC && s.all restC)
theorem small_cls (c : UInt8) : (!ltI (Lib.indexByte smallL c) 0) = smallC c := by
  have := all256 (p := fun c => (!ltI (Lib.indexByte smallL c) 0) == smallC c) (by kernel_rfl) c
  simpa using this
theorem rest_cls (c : UInt8) : (!ltI (Lib.indexByte restL c) 0) = restC c := by
  have := all256 (p := fun c => (!ltI (Lib.indexByte restL c) 0) == restC c) (by kernel_rfl) c
  simpa using this
theorem w_only (s l : List UInt8) (hs : s.length ≤ 1000000000000) : W (fun K _ => f_gateref2_only K (.s s) (.s l)) (fun r => r = [.b (s.all fun c => !ltI (Lib.indexByte l c) 0)]) := by
  unfold f_gateref2_only
  refine W.bind (W.early s.length (fun j => [.s s, .s l, .i s.length, .i j]) (fun j => bif !ltI (Lib.indexByte l (s.getD j 0)) 0 then none else some (0, [.b false])) (1, []) (fun j hj hp p rc h1 h2 => ?_) (fun rc => ?_)) ?_
  · unfold b_gateref2_only_0
    simp only [D.nth_zero, D.nth_succ, D.str_s, D.int_i, Int.toNat_natCast]
    refine W.cond (fun _ => ?_) (fun h => by simp at h; omega)
    refine W.cond (fun _ => ?_) (fun h => by simp at h; omega)
    simp only [p_strings_IndexByte, p_stringslite_IndexByte, p_bytealg_IndexByteString, D.nth_zero, D.int_i, D.str_s, byteAt_getD, toUInt8_byte]
    refine W.cond (fun h => W.ret (h1 _ (by rw [h]; rfl))) (fun h => ?_)
    rw [wrap_i64 (by omega) (by omega)]
    exact h2 (by rw [h]; rfl)
  · unfold b_gateref2_only_0
    simp only [D.nth_zero, D.nth_succ, D.str_s, D.int_i]
    exact W.cond (fun h => by simp at h) (fun _ => W.ret rfl)
  · rintro _ rfl
    rw [scan_all s (fun c => !ltI (Lib.indexByte l c) 0)]
    cases s.all fun c => !ltI (Lib.indexByte l c) 0 with
    | true => exact W.ret rfl
    | false => exact W.ret rfl
theorem w_Key (s : List UInt8) (hs : s.length ≤ 1000000000000) : W (fun K _ => f_gateref2_Key K (.s s)) (fun r => r = [.b (keyB s)]) := by
  unfold f_gateref2_Key
  simp only [p_gateref2_in, D.nth_zero, D.bool_b, D.int_i, D.str_s]
  refine W.cond (fun _ => ?_) (fun h => ?_)
  · refine W.cond (fun h => ?_) (fun h => W.ret ?_)
    · have h0 : (leI 1 s.length && leI s.length 40) = true := by cases h1 : leI 1 (s.length : Int) <;> cases h2 : leI (s.length : Int) 40 <;> simp_all
      refine W.bind (w_only (s.take 1) smallL (by rw [List.length_take]; omega)) ?_
      rintro _ rfl
      simp only [small_cls, D.nth_zero, D.bool_b]
      refine W.cond (fun h1 => ?_) (fun h1 => W.ret ?_)
      · refine W.bind (w_only s restL hs) ?_
        rintro _ rfl
        simp only [rest_cls, D.nth_zero, D.bool_b]
        exact W.ret (by simp only [keyB, h0, h1, Bool.true_and])
      · simp only [keyB, h0, h1, Bool.true_and, Bool.false_and]
    · have h0 : (leI 1 s.length && leI s.length 40) = false := by cases h1 : leI 1 (s.length : Int) <;> cases h2 : leI (s.length : Int) 40 <;> simp_all
      simp only [keyB, h0, Bool.false_and]
  · cases h1 : leI 1 (s.length : Int) <;> cases h2 : leI (s.length : Int) 40 <;> simp_all
    omega
def badK (s : List UInt8) (j : Nat) : Bool := !(bif smallC (s.getD j 0) then true else (bif gtI j 0 then restC (s.getD j 0) else false))
theorem keyB_scan (s : List UInt8) (h : ∀ j, j < s.length → badK s j = false) : keyB s = (!(s == []) && leI s.length 40) := by
  cases s with
  | nil => rfl
  | cons a t =>
    have h0 := h 0 (by simp)
    have ha : smallC a = true := by
      simp only [badK, List.getD_cons_zero] at h0
      cases hc : smallC a with
      | true => rfl
      | false => rw [hc] at h0; simp [gtI] at h0
    have hall : (a :: t).all restC = true := by
      rw [all_getD]
      intro j hj
      have := h j hj
      simp only [badK] at this
      cases hc : smallC ((a :: t).getD j 0) with
      | true => simp only [restC, hc, Bool.true_or]
      | false =>
        rw [hc] at this
        cases hg : gtI (j : Int) 0 with
        | false => rw [hg] at this; simp at this
        | true => rw [hg] at this; simpa using this
    have h1 : leI 1 ((a :: t).length : Int) = true := by simp; omega
    have h2 : (a :: t).take 1 = [a] := rfl
    have h3 : ((a :: t) == []) = false := rfl
    simp only [keyB, hall, h1, h2, h3, List.all_cons, List.all_nil, ha, Bool.true_and, Bool.and_true, Bool.not_false]
theorem keyB_bad (s : List UInt8) (j : Nat) (hj : j < s.length) (h : badK s j = true) : keyB s = false := by
  cases s with
  | nil => simp at hj
  | cons a t =>
    cases j with
    | zero =>
      simp only [badK, List.getD_cons_zero] at h
      cases hc : smallC a with
      | true => rw [hc] at h; simp at h
      | false => simp [keyB, hc]
    | succ j =>
      have hr : restC ((a :: t).getD (j + 1) 0) = false := by
        simp only [badK] at h
        have hg : gtI ((j + 1 : Nat) : Int) 0 = true := by simp
        rw [hg] at h
        cases hc : smallC ((a :: t).getD (j + 1) 0) with
        | true => rw [hc] at h; simp at h
        | false => rw [hc] at h; simpa using h
      have : (a :: t).all restC = false := by
        rw [← Bool.not_eq_true, all_getD]
        intro hall
        rw [hall (j + 1) hj] at hr
        cases hr
      simp only [keyB, this, Bool.and_false]
theorem w_IsKey (s : List UInt8) (hs : s.length ≤ 1000000000000) : W (fun K _ => f_kit_IsKey K (.s s)) (fun r => r = [.b (keyB s)]) := by
  unfold f_kit_IsKey
  refine W.bind (W.early s.length (fun j => [.s s, .i j]) (fun j => bif badK s j then some (0, [.b false]) else none) (1, []) (fun j hj hp p rc h1 h2 => ?_) (fun rc => ?_)) ?_
  · unfold b_kit_IsKey_0
    simp only [D.nth_zero, D.nth_succ, D.str_s, D.int_i, Int.toNat_natCast, byteAt_getD]
    refine W.cond (fun _ => ?_) (fun h => by simp at h; omega)
    refine W.cond (fun _ => ?_) (fun h => by simp at h; omega)
    have e : (!(bif (bif (geI ((s.getD j 0).toNat : Int) 97) then (leI ((s.getD j 0).toNat : Int) 122) else false) then true else (bif (gtI (j : Int) 0) then (bif (bif (bif (geI ((s.getD j 0).toNat : Int) 48) then (leI ((s.getD j 0).toNat : Int) 57) else false) then true else (((s.getD j 0).toNat : Int) == (45 : Int))) then true else (((s.getD j 0).toNat : Int) == (95 : Int))) else false))) = badK s j := by
      simp only [badK, restC, smallC, digitC, geI, leI, gtI]
      generalize ((s.getD j 0).toNat : Int) = x
      generalize (j : Int) = y
      cases hd1 : decide (x ≥ 97) <;> cases hd2 : decide (x ≤ 122) <;> cases hd3 : decide (x ≥ 48) <;> cases hd4 : decide (x ≤ 57) <;> cases hd5 : decide (y > 0) <;> cases hd6 : x == 45 <;> cases hd7 : x == 95 <;> simp_all
    rw [e]
    refine W.cond (fun h => W.ret (h1 _ (by rw [h]; rfl))) (fun h => ?_)
    rw [wrap_i64 (by omega) (by omega)]
    exact h2 (by rw [h]; rfl)
  · unfold b_kit_IsKey_0
    simp only [D.nth_zero, D.nth_succ, D.str_s, D.int_i]
    exact W.cond (fun h => by simp at h) (fun _ => W.ret rfl)
  · rintro _ rfl
    rcases scan_cases (fun j => bif badK s j then some (0, [D.b false]) else none) ((1, []) : Nat × List D) s.length 0 with ⟨i, r, h1, h2, h3, h4, h5⟩ | ⟨h1, h2⟩
    · rw [h4]
      cases hb : badK s i with
      | false => rw [hb] at h3; simp at h3
      | true =>
        rw [hb] at h3
        simp only [cond_true, Option.some.injEq] at h3
        subst h3
        exact W.ret (by rw [keyB_bad s i (by omega) hb]; rfl)
    · rw [h2]
      refine W.ret ?_
      rw [keyB_scan s fun j hj => ?_]
      · simp only [D.str_s]
        cases h3 : s == [] <;> rfl
      · have := h1 j (Nat.zero_le _) (by omega)
        cases hb : badK s j with
        | false => rfl
        | true => rw [hb] at this; simp at this
/-- One of some strings (or other data). -/
theorem w_Some (c : Int) (s : D) (l : List D) (hs : St c s) (hc : c ≤ 1000000000000) (hl : l ≠ []) (hl2 : l.length ≤ 1000000) : W (fun K _ => f_gatemake_Stream_Some K s (.n l)) (fun r => ∃ x s' t, r = [x, s', t] ∧ x ∈ l ∧ St (c + 1) s') := by
  unfold f_gatemake_Stream_Some
  have : 0 < l.length := List.length_pos_iff.2 hl
  refine W.bind (w_Next c _ s hs hc (by simp; omega)) ?_
  rintro _ ⟨i, s', rfl, h1, h2, h3⟩
  simp only [D.int_i, D.list_n] at h2
  have h2 := h2 (by omega)
  refine W.cond (fun h => ?_) (fun h => absurd (inB_mk h1 h2) (by rw [D.nth_zero, D.int_i, D.list_n] at h; rw [h]; simp))
  exact W.ret ⟨_, s', _, rfl, nth_mem (show i.toNat < l.length by omega), h3⟩
/-! ### Instances -/
def In (x : D) : Prop := ∃ a w, x = .n [.s a, .i w] ∧ a.length ≤ 1000
def InL (l : List D) : Prop := l.length ≤ 10 ∧ ∀ x ∈ l, In x
theorem InL.nth {l : List D} {j : Nat} (h : InL l) (hj : j < l.length) : ∃ a w, D.nth l j = .n [.s a, .i w] ∧ a.length ≤ 1000 ∧ (D.nth l j).at' 0 = .s a ∧ (D.nth l j).at' 1 = .i w := by
  obtain ⟨a, w, h1, h2⟩ := h.2 _ (nth_mem hj)
  exact ⟨a, w, h1, h2, by rw [h1]; rfl, by rw [h1]; rfl⟩
def idS (x : D) : List UInt8 := (x.at' 0).str
def ordI (l : List D) (j : Nat) : Bool := bif gtI (j : Int) 0 then (Op.bytesLess (idS (D.nth l j)) (idS (D.nth l (j - 1))) || (idS (D.nth l j) == idS (D.nth l (j - 1)))) else false
def wB (x : D) : Bool := bif ltI (x.at' 1).int 1 then true else gtI (x.at' 1).int 100
def insF (l : List D) (j : Nat) : Int := bif !keyB (idS (D.nth l j)) then 5 else bif ordI l j then 7 else bif wB (D.nth l j) then 1 else 0
def errAt (F : Nat → Int) (j : Nat) : Option (Nat × List D) := bif F j != 0 then some (0, [.i (F j)]) else none
def insR (l : List D) : Nat × List D := scan (errAt (insF l)) (1, []) l.length 0
def errD (r : Nat × List D) : List D := bif r.1.beq 0 then [D.nth r.2 0] else [.i 0]
def insD (l : List D) : List D := bif gtI (l.length : Int) 50 then [.i 2] else errD (insR l)
theorem errAt_some {F : Nat → Int} {j : Nat} {n : Int} (h : F j = n) (hn : n ≠ 0) : errAt F j = some (0, [.i n]) := by
  have : (n != 0) = true := by simpa using hn
  simp only [errAt, h, this, cond_true]
theorem errAt_none {F : Nat → Int} {j : Nat} (h : F j = 0) : errAt F j = none := by simp only [errAt, h]; rfl
theorem errAt_none_iff {F : Nat → Int} {j : Nat} (h : errAt F j = none) : F j = 0 := by
  unfold errAt at h
  cases h1 : F j != 0 with
  | true => rw [h1] at h; cases h
  | false => simpa using h1
theorem keyB_ne {s : List UInt8} (h : keyB s = true) : s ≠ [] := by
  rintro rfl
  simp [keyB, leI] at h
theorem w_CheckInstances (l : List D) (hl : InL l) : W (fun K _ => f_upstream_CheckInstances K (.n l)) (fun r => r = insD l) := by
  have hl10 := hl.1
  unfold f_upstream_CheckInstances insD
  simp only [D.list_n]
  refine W.cond (fun h => W.ret (by rw [h]; rfl)) (fun h => ?_)
  rw [h, cond_false]
  refine W.bind (W.early l.length (fun j => [.n l, .n l, .i l.length, .i j]) (errAt (insF l)) (1, []) (fun j hj hp p rc g1 g2 => ?_) (fun rc => ?_)) ?_
  · unfold b_upstream_CheckInstances_0
    simp only [D.nth_zero, D.nth_succ, D.int_i, D.list_n, Int.toNat_natCast]
    obtain ⟨a, w, hx, ha, h0, h1⟩ := hl.nth hj
    have hid : idS (D.nth l j) = a := by unfold idS; rw [h0]; rfl
    refine W.cond (fun _ => ?_) (fun h => by simp at h; omega)
    refine W.cond (fun _ => ?_) (fun h => by simp at h; omega)
    rw [h0]
    refine W.bind (w_IsKey a (by omega)) ?_
    rintro _ rfl
    simp only [D.nth_zero, D.bool_b, D.str_s]
    refine W.cond (fun hk => W.ret (g1 _ ?_)) (fun hk => ?_)
    · exact errAt_some (by simp only [insF, hid, hk, cond_true]) (by omega)
    have hw : IntKind.i64.wrap ((j : Int) - 1) = (j : Int) - 1 := wrap_i64 (by omega) (by omega)
    have hn : ((j : Int) - 1).toNat = j - 1 := by omega
    rw [hw, hn]
    have hord : (bif gtI (j : Int) 0 then (Op.bytesLess a ((D.nth l (j - 1)).at' 0).str || (a == ((D.nth l (j - 1)).at' 0).str)) else false) = ordI l j := by unfold ordI; rw [hid]; rfl
    rw [hord]
    refine W.cond (fun _ => ?_) (fun h => by simp at h; omega)
    refine W.cond (fun ho => W.ret (g1 _ ?_)) (fun ho => ?_)
    · exact errAt_some (by simp only [insF, hid, hk, ho, cond_true, cond_false]) (by omega)
    simp only [p_kit_Outside, D.nth_zero, D.bool_b, D.int_i]
    refine W.cond (fun hb => W.ret (g1 _ ?_)) (fun hb => ?_)
    · have : wB (D.nth l j) = true := hb
      exact errAt_some (by simp only [insF, hid, hk, ho, this, cond_true, cond_false]) (by omega)
    · have : wB (D.nth l j) = false := hb
      rw [wrap_i64 (x := (j : Int) + 1) (by omega) (by omega)]
      exact g2 (errAt_none (by simp only [insF, hid, hk, ho, this, cond_false]))
  · unfold b_upstream_CheckInstances_0
    simp only [D.nth_zero, D.nth_succ, D.int_i]
    exact W.cond (fun h => by simp at h) (fun _ => W.ret rfl)
  · rintro _ rfl
    show W (fun _ _ => bif (insR l).1.beq 0 then some [D.nth (insR l).2 0] else some [.i 0]) _
    unfold errD
    exact W.cond (fun h => W.ret (by rw [h]; rfl)) (fun h => W.ret (by rw [h]; rfl))
theorem w_InstancesFault (l : List D) (hl : InL l) : W (fun K _ => f_gateref2_InstancesFault K (.n l)) (fun r => r = insD l) := by
  have hl10 := hl.1
  unfold f_gateref2_InstancesFault insD
  simp only [D.list_n]
  refine W.cond (fun h => W.ret (by rw [h]; rfl)) (fun h => ?_)
  rw [h, cond_false]
  refine W.bind (W.early l.length (fun j => [bif j.beq 0 then .s [] else (D.nth l (j - 1)).at' 0, .n l, .i l.length, .i j]) (errAt (insF l)) (1, []) (fun j hj hp p rc g1 g2 => ?_) (fun rc => ?_)) ?_
  · unfold b_gateref2_InstancesFault_0
    simp only [D.nth_zero, D.nth_succ, D.int_i, D.list_n, Int.toNat_natCast]
    obtain ⟨a, w, hx, ha, h0, h1⟩ := hl.nth hj
    have hid : idS (D.nth l j) = a := by unfold idS; rw [h0]; rfl
    refine W.cond (fun _ => ?_) (fun h => by simp at h; omega)
    refine W.cond (fun _ => ?_) (fun h => by simp at h; omega)
    rw [h0]
    refine W.bind (w_Key a (by omega)) ?_
    rintro _ rfl
    simp only [D.nth_zero, D.bool_b, D.str_s]
    refine W.cond (fun hk => W.ret (g1 _ ?_)) (fun hk => ?_)
    · exact errAt_some (by simp only [insF, hid, hk, cond_true]) (by omega)
    have hkey : keyB a = true := by simpa using hk
    have hord : (Op.bytesLess a (bif j.beq 0 then D.s [] else (D.nth l (j - 1)).at' 0).str || (a == (bif j.beq 0 then D.s [] else (D.nth l (j - 1)).at' 0).str)) = ordI l j := by
      unfold ordI
      rw [hid]
      cases j with
      | zero =>
        have : (a == ([] : List UInt8)) = false := by simpa using keyB_ne hkey
        simp [less_nil, this]
      | succ j =>
        have hg : gtI ((j + 1 : Nat) : Int) 0 = true := by simp
        rw [hg]
        rfl
    rw [hord]
    refine W.cond (fun ho => W.ret (g1 _ ?_)) (fun ho => ?_)
    · exact errAt_some (by simp only [insF, hid, hk, ho, cond_true, cond_false]) (by omega)
    simp only [p_gateref2_in, D.nth_zero, D.bool_b, D.int_i, in_out]
    refine W.cond (fun hb => W.ret (g1 _ ?_)) (fun hb => ?_)
    · have : wB (D.nth l j) = true := hb
      exact errAt_some (by simp only [insF, hid, hk, ho, this, cond_true, cond_false]) (by omega)
    · have : wB (D.nth l j) = false := hb
      rw [wrap_i64 (x := (j : Int) + 1) (by omega) (by omega)]
      have h2 := g2 (errAt_none (by simp only [insF, hid, hk, ho, this, cond_false]))
      simp only [Nat.beq, Nat.add_sub_cancel, cond_false, h0] at h2
      exact h2
  · unfold b_gateref2_InstancesFault_0
    simp only [D.nth_zero, D.nth_succ, D.int_i]
    exact W.cond (fun h => by simp at h) (fun _ => W.ret rfl)
  · rintro _ rfl
    show W (fun _ _ => bif (insR l).1.beq 0 then some [D.nth (insR l).2 0] else some [.i 0]) _
    unfold errD
    exact W.cond (fun h => W.ret (by rw [h]; rfl)) (fun h => W.ret (by rw [h]; rfl))
/-- Right instances stand in the order of their keys. -/
theorem insD_zero {l : List D} (hl : InL l) (h : (D.nth (insD l) 0).int = 0) : Inc idS l := by
  have hl10 := hl.1
  have hg : gtI (l.length : Int) 50 = false := by simp; omega
  unfold insD at h
  rw [hg, cond_false] at h
  rcases scan_cases (errAt (insF l)) (1, []) l.length 0 with ⟨i, r, h1, h2, h3, h4, h5⟩ | ⟨h1, h2⟩
  · exfalso
    unfold insR at h
    rw [h4] at h
    unfold errAt at h3
    cases hc : insF l i != 0 with
    | false => rw [hc] at h3; cases h3
    | true =>
      rw [hc] at h3
      cases h3
      have : insF l i = 0 := h
      simp [this] at hc
  · intro j hj0 hj
    have hz := errAt_none_iff (h1 j (Nat.zero_le _) (by omega))
    have ho : ordI l j = false := by
      unfold insF at hz
      cases hk : !keyB (idS (D.nth l j)) <;> rw [hk] at hz <;> simp at hz
      cases ho : ordI l j with
      | false => rfl
      | true => rw [ho] at hz; simp at hz
    unfold ordI at ho
    have hg : gtI (j : Int) 0 = true := by simp; omega
    rw [hg, cond_true, Bool.or_eq_false_iff] at ho
    exact less_total ho.1 (by simpa using ho.2)
theorem any_inc {l : List D} (h : Inc idS l) {i : Nat} {key : List UInt8} (hi : i ≤ l.length) (h1 : ∀ p, p < i → Op.bytesLess (idS (D.nth l p)) key = true) (h2 : ∀ p, i ≤ p → p < l.length → Op.bytesLess (idS (D.nth l p)) key = false) :
    (l.any fun x => idS x == key) = (decide (i < l.length) && (idS (D.nth l i) == key)) := by
  rw [Bool.eq_iff_iff, any_nth]
  simp only [Bool.and_eq_true, decide_eq_true_eq, beq_iff_eq]
  constructor
  · rintro ⟨j, hj, he⟩
    have hij : i ≤ j := by
      rcases Nat.lt_or_ge j i with h3 | h3
      · have := h1 j h3
        rw [he, less_irrefl] at this
        cases this
      · exact h3
    rcases Nat.lt_or_eq_of_le hij with h3 | h3
    · have := h.lt h3 hj
      rw [he, h2 i (Nat.le_refl _) (by omega)] at this
      cases this
    · subst h3; exact ⟨hj, he⟩
  · rintro ⟨hj, he⟩
    exact ⟨i, hj, he⟩
/-! ### Instances that are drawn -/
theorem In.set0 {x : D} (h : In x) {a : List UInt8} (ha : a.length ≤ 1000) : In (.n (D.setNth x.list 0 (.s a))) := by
  obtain ⟨b, w, rfl, _⟩ := h
  exact ⟨a, w, rfl, ha⟩
theorem In.set1 {x : D} (h : In x) {w : Int} : In (.n (D.setNth x.list 1 (.i w))) := by
  obtain ⟨b, w', rfl, hb⟩ := h
  exact ⟨b, w, rfl, hb⟩
theorem InL.set {l : List D} {j : Nat} {x : D} (h : InL l) (hj : j < l.length) (hx : In x) : InL (D.setNth l j x) := by
  rw [setNth_eq _ hj]
  refine ⟨by simpa using h.1, fun y hy => ?_⟩
  rcases List.mem_or_eq_of_mem_set hy with hy | hy
  · exact h.2 y hy
  · subst hy; exact hx
theorem w_RightInstances (c : Int) (s : D) (hs : St c s) (hc : c ≤ 999999999900) : W (fun K _ => f_gatemake_Stream_RightInstances K s) (fun r => ∃ s' l, r = [s', .n l] ∧ InL l ∧ 0 < l.length ∧ St (c + 10) s') := by
  unfold f_gatemake_Stream_RightInstances
  generalize hT : ([D.s [105, 97], D.s [105, 98], D.s [105, 99], D.s [105, 100]] : List D) = T
  have hTl : T.length = 4 := by rw [← hT]; rfl
  have hTm : ∀ j, j < 4 → ∃ a : List UInt8, D.nth T j = .s a ∧ a.length ≤ 1000 ∧ (j = 3 → a = [105, 100]) := fun j hj => by
    rw [← hT]
    have : j = 0 ∨ j = 1 ∨ j = 2 ∨ j = 3 := by omega
    rcases this with rfl | rfl | rfl | rfl
    · exact ⟨_, rfl, by simp, fun h => by omega⟩
    · exact ⟨_, rfl, by simp, fun h => by omega⟩
    · exact ⟨_, rfl, by simp, fun h => by omega⟩
    · exact ⟨_, rfl, by simp, fun _ => rfl⟩
  refine W.bind (p := fun r => ∃ s' l t, r = (0, [s', t, .n l]) ∧ InL l ∧ 0 < l.length ∧ St (c + 10) s') (W.rounds (S := Nat × D × List D) (fun q => [.i 4, .i (q.1 : Int), q.2.1, .n T, .n q.2.2]) (fun q => q.1 ≤ 4 ∧ q.2.2.length ≤ q.1 ∧ (∀ x ∈ q.2.2, In x) ∧ (q.1 = 4 → 0 < q.2.2.length) ∧ St (c + 2 * q.1) q.2.1) (fun q => 4 - q.1) (fun q hI rc ih => ?_) (0, s, []) ⟨by simp, by simp, by simp, by simp, by simpa using hs⟩) ?_
  · obtain ⟨j, s2, out⟩ := q
    obtain ⟨a1, a2, a3, a4, a5⟩ := hI
    simp only at a1 a2 a3 a4 a5
    unfold b_gatemake_Stream_RightInstances_0
    simp only [D.nth_zero, D.nth_succ, D.int_i, D.list_n, Int.toNat_natCast]
    refine W.cond (fun h => ?_) (fun h => ?_)
    · simp at h
      have hj : j < 4 := by omega
      refine W.cond (fun _ => ?_) (fun h => by simp at h; omega)
      obtain ⟨a, ha, hal, ha3⟩ := hTm j hj
      rw [ha]
      have e1 : IntKind.i64.wrap ((j : Int) + 1) = ((j + 1 : Nat) : Int) := by rw [wrap_i64 (by omega) (by omega)]; omega
      refine W.bind (p := fun r => ∃ b s3, r = (0, [.b b, s3, .n out]) ∧ (j = 3 → out = [] → b = true) ∧ St (c + 2 * j + 1) s3) ?_ ?_
      · unfold b_gatemake_Stream_RightInstances_1
        simp only [D.nth_zero, D.nth_succ, D.list_n, D.str_s]
        refine W.cond (fun hc1 => ?_) (fun _ => W.ret ⟨true, s2, rfl, fun _ _ => rfl, a5.le (by omega)⟩)
        refine W.bind (w_Flip _ _ s2 a5 (by omega) (by simp)) ?_
        rintro _ ⟨b, s3, rfl, h3⟩
        refine W.ret ⟨!b, s3, rfl, fun hj3 ho => ?_, h3⟩
        subst ho
        rw [ha3 hj3] at hc1
        simp at hc1
      rintro _ ⟨b, s3, rfl, hb, h3⟩
      simp only [D.nth_zero, D.nth_succ, D.bool_b, D.list_n]
      refine W.cond (fun _ => ?_) (fun hbf => ?_)
      · refine W.bind (w_Pick _ s3 _ h3 (by omega) (by simp) (by simp)) ?_
        rintro _ ⟨x, s4, t, rfl, hx, h4⟩
        simp only [D.nth_zero, D.nth_succ]
        refine W.cond (fun _ => ?_) (fun h => absurd (lim_mk (n := out.length + 1) (by omega)) (by rw [h]; simp))
        have hx' : ∃ w : Int, x = .i w := by
          simp only [List.mem_cons, List.not_mem_nil, or_false] at hx
          rcases hx with rfl | rfl | rfl | rfl | rfl <;> exact ⟨_, rfl⟩
        obtain ⟨w, rfl⟩ := hx'
        rw [e1]
        refine ih (j + 1, s4, out ++ [.n [.s a, .i w]]) ⟨by simp only; omega, by simp; omega, fun y hy => ?_, fun _ => by simp, h4.le (by simp only; omega)⟩ (by simp only; omega)
        rcases List.mem_append.1 hy with hy | hy
        · exact a3 y hy
        · simp at hy; subst hy; exact ⟨a, w, rfl, hal⟩
      · rw [e1]
        refine ih (j + 1, s3, out) ⟨by simp only; omega, by simp only; omega, a3, fun h4 => ?_, h3.le (by simp only; omega)⟩ (by simp only; omega)
        simp only at h4 ⊢
        rcases Nat.eq_zero_or_pos out.length with h5 | h5
        · have := hb (by omega) (List.eq_nil_of_length_eq_zero h5)
          rw [this] at hbf
          cases hbf
        · exact h5
    · simp at h
      have : j = 4 := by omega
      subst this
      exact W.ret ⟨s2, out, _, rfl, ⟨by omega, a3⟩, a4 rfl, a5.le (by omega)⟩
  · rintro _ ⟨s2, l, t, rfl, h1, h2, h3⟩
    exact W.ret ⟨s2, l, rfl, h1, h2, h3⟩
theorem w_Instances (c : Int) (s : D) (hs : St c s) (hc : c ≤ 999999999800) : W (fun K _ => f_gatemake_Stream_Instances K s) (fun r => ∃ s' l, r = [s', .n l] ∧ InL l ∧ St (c + 20) s') := by
  unfold f_gatemake_Stream_Instances
  refine W.bind (w_RightInstances c s hs (by omega)) ?_
  rintro _ ⟨s1, l, rfl, hl, hl0, h1⟩
  have hl10 := hl.1
  simp only [D.nth_zero, D.nth_succ, D.list_n]
  refine W.bind (w_Flip _ _ s1 h1 (by omega) (by simp)) ?_
  rintro _ ⟨b, s2, rfl, h2⟩
  simp only [D.nth_zero, D.nth_succ, D.bool_b]
  refine W.cond (fun _ => ?_) (fun _ => ?_)
  · refine W.bind (w_Next _ _ s2 h2 (by omega) (by simp; omega)) ?_
    rintro _ ⟨i, s3, rfl, i0, i1, h3⟩
    simp only [D.int_i] at i1
    have i1 := i1 (by omega)
    obtain ⟨j, rfl⟩ : ∃ j : Nat, i = (j : Int) := ⟨i.toNat, by omega⟩
    have hj : j < l.length := by omega
    simp only [D.nth_zero, D.nth_succ, D.int_i, Int.toNat_natCast]
    refine W.cond (fun _ => ?_) (fun h => by simp at h; omega)
    obtain ⟨a, w, hx, ha, hx0, hx1⟩ := hl.nth hj
    rw [hx0]
    refine W.bind (w_Some _ s3 _ h3 (by omega) (by simp) (by simp)) ?_
    rintro _ ⟨y, s4, t, rfl, hy, h4⟩
    have hy' : ∃ b : List UInt8, y = .s b ∧ b.length ≤ 1000 := by
      simp only [List.mem_cons, List.not_mem_nil, or_false] at hy
      rcases hy with rfl | rfl | rfl | rfl
      · exact ⟨_, rfl, ha⟩
      all_goals exact ⟨_, rfl, by simp⟩
    obtain ⟨b', rfl, hb'⟩ := hy'
    refine W.bind (w_Odd _ 1 100 s4 h4 (by omega) (by omega) (by omega) (by omega)) ?_
    rintro _ ⟨w', s5, rfl, _, _, h5⟩
    simp only [D.nth_zero, D.nth_succ]
    refine W.bind (w_Flip _ _ s5 h5 (by omega) (by simp)) ?_
    rintro _ ⟨b2, s6, rfl, h6⟩
    simp only [D.nth_zero, D.nth_succ, D.bool_b]
    refine W.cond (fun _ => W.ret ⟨s6, [], rfl, ⟨by simp, by simp⟩, h6.le (by omega)⟩) (fun _ => W.ret ⟨s6, _, rfl, ?_, h6.le (by omega)⟩)
    have g1 : In (.n (D.setNth (D.nth l j).list 0 (.s b'))) := (hl.2 _ (nth_mem hj)).set0 hb'
    have g2 := hl.set hj g1
    have hlen : (D.setNth l j (.n (D.setNth (D.nth l j).list 0 (.s b')))).length = l.length := length_setNth hj
    refine g2.set (by omega) ?_
    rw [at_set_same]
    exact g1.set1
  · refine W.bind (w_Flip _ _ s2 h2 (by omega) (by simp)) ?_
    rintro _ ⟨b2, s6, rfl, h6⟩
    simp only [D.nth_zero, D.nth_succ, D.bool_b]
    exact W.cond (fun _ => W.ret ⟨s6, [], rfl, ⟨by simp, by simp⟩, h6.le (by omega)⟩) (fun _ => W.ret ⟨s6, l, rfl, hl, h6.le (by omega)⟩)
/-! ### Where an instance is -/
theorem w_place (l : List D) (key : List UInt8) (hl : InL l) (h : Inc idS l) : W (fun K _ => f_upstream_place K (.n l) (.s key)) (fun r => ∃ i : Nat, r = [.i (i : Int), .b (l.any fun x => idS x == key)] ∧ ((l.any fun x => idS x == key) = true → i < l.length ∧ idS (D.nth l i) = key)) := by
  have hl10 := hl.1
  unfold f_upstream_place f_slices_BinarySearchFunc_string
  simp only [D.list_n]
  refine W.bind (p := fun r => ∃ i : Nat, r = [.i (i : Int), .b (l.any fun x => idS x == key)] ∧ ((l.any fun x => idS x == key) = true → i < l.length ∧ idS (D.nth l i) = key)) (W.bind (W.bsearch (F := fun K => b_slices_BinarySearchFunc_string_0 K) l.length (fun i j => [.n l, .s key, .i (i : Int), .i (j : Int)]) (fun p => Op.bytesLess (idS (D.nth l p)) key) (fun i => (0, [.i (i : Int)])) (fun i j hij hj p rc g1 g2 => ?_) (fun i hi rc => ?_) (fun a b hab hb hlt => less_trans (h.lt hab hb) hlt)) ?_) ?_
  · unfold b_slices_BinarySearchFunc_string_0
    simp only [D.nth_zero, D.nth_succ, D.int_i, D.list_n]
    rw [half_mid i j (by omega)]
    simp only [Int.toNat_natCast, p_upstream_place_1, p_strings_Compare, p_bytealg_CompareString, p_bytealg_abigen_runtime_cmpstring, D.nth_zero, D.int_i, D.str_s]
    have hc := cmp_spec (idS (D.nth l ((i + j) / 2))) key
    have hin : inB (((i + j) / 2 : Nat) : Int) l.length = true := inB_mk (by omega) (by omega)
    refine W.cond (fun _ => ?_) (fun h => by simp at h; omega)
    refine W.cond (fun _ => ?_) (fun h => by rw [hin] at h; cases h)
    refine W.cond (fun hq => ?_) (fun hq => ?_)
    · have e1 : IntKind.i64.wrap ((((i + j) / 2 : Nat) : Int) + 1) = (((i + j) / 2 + 1 : Nat) : Int) := by rw [wrap_i64 (by omega) (by omega)]; omega
      rw [e1]
      exact g1 (hc.1.1 (by simpa [idS] using hq))
    · refine g2 ?_
      rw [← Bool.not_eq_true]
      intro h3
      have := hc.1.2 h3
      simp only [ltI_f] at hq
      have hq : 0 ≤ Lib.compareBytes (idS (D.nth l ((i + j) / 2))) key := hq
      omega
  · unfold b_slices_BinarySearchFunc_string_0
    simp only [D.nth_zero, D.nth_succ, D.int_i]
    exact W.cond (fun h => by simp at h) (fun _ => W.ret rfl)
  · rintro _ ⟨i, rfl, hi, h1, h2⟩
    have ha := any_inc h hi h1 h2
    simp only [D.nth_zero, D.int_i, Int.toNat_natCast, p_upstream_place_1, p_strings_Compare, p_bytealg_CompareString, p_bytealg_abigen_runtime_cmpstring, D.str_s]
    refine W.cond (fun _ => ?_) (fun h => by simp at h; omega)
    refine W.cond (fun hlt => W.ret ⟨i, ?_, fun ht => ?_⟩) (fun hlt => W.ret ⟨i, ?_, fun ht => ?_⟩)
    · simp at hlt
      have hc := (cmp_spec (idS (D.nth l i)) key).2.1
      rw [ha]
      have : decide (i < l.length) = true := by simpa using hlt
      rw [this, Bool.true_and]
      have e : (Lib.compareBytes ((D.nth l i).at' 0).str key == 0) = (idS (D.nth l i) == key) := by
        rw [Bool.eq_iff_iff]
        simp only [beq_iff_eq]
        exact hc
      rw [e]
    · rw [ha] at ht
      simpa using ht
    · simp at hlt
      rw [ha]
      have : decide (i < l.length) = false := by simp; omega
      rw [this]
      rfl
    · rw [ha] at ht
      simpa using ht
  · rintro _ ⟨i, rfl, h1⟩
    exact W.ret ⟨i, rfl, h1⟩
theorem w_InstanceAt (l : List D) (key : List UInt8) (hl : InL l) : W (fun K _ => f_gateref2_InstanceAt K (.n l) (.s key)) (fun r => ∃ i, r = [.i i] ∧ ltI i 0 = !(l.any fun x => idS x == key)) := by
  have hl10 := hl.1
  unfold f_gateref2_InstanceAt f_slices_IndexFunc_api_Instance
  simp only [D.list_n]
  refine W.bind (p := fun r => ∃ i, r = [.i i] ∧ ltI i 0 = !(l.any fun x => idS x == key)) (W.bind (W.early l.length (fun j => [.n l, .s key, .i l.length, .i j]) (fun j => bif (fun x => idS x == key) (D.nth l j) then some (0, [.i (j : Int)]) else none) (1, []) (fun j hj hp p rc h1 h2 => ?_) (fun rc => ?_)) ?_) ?_
  · unfold b_slices_IndexFunc_api_Instance_0
    simp only [D.nth_zero, D.nth_succ, D.list_n, D.int_i, Int.toNat_natCast, p_gateref2_InstanceAt_1, D.bool_b, D.str_s]
    refine W.cond (fun _ => ?_) (fun h => by simp at h; omega)
    refine W.cond (fun _ => ?_) (fun h => by simp at h; omega)
    refine W.cond (fun h => W.ret (h1 _ ?_)) (fun h => ?_)
    · have : (idS (D.nth l j) == key) = true := h
      simp only [this, cond_true]
    · have : (idS (D.nth l j) == key) = false := h
      rw [wrap_i64 (by omega) (by omega)]
      exact h2 (by simp only [this, cond_false])
  · unfold b_slices_IndexFunc_api_Instance_0
    simp only [D.nth_zero, D.nth_succ, D.list_n, D.int_i]
    exact W.cond (fun h => by simp at h) (fun _ => W.ret rfl)
  · rintro _ rfl
    rcases scan_any l (fun x => idS x == key) (fun j => (0, [D.i (j : Int)])) (1, []) with ⟨ha, i, hi, h⟩ | ⟨ha, h⟩
    · rw [h, ha]
      refine W.ret ⟨(i : Int), rfl, ?_⟩
      simp
    · rw [h, ha]
      exact W.ret ⟨-1, rfl, by simp⟩
  · rintro _ ⟨i, rfl, h1⟩
    exact W.ret ⟨i, rfl, h1⟩
/-! ### Setups, calls and phases that are drawn -/
theorem w_PickI (c : Int) (s : D) (l : List Int) (hs : St c s) (hc : c ≤ 999999999999) (h1 : l ≠ []) (h2 : l.length ≤ 100) : W (fun K _ => f_gatemake_Stream_Pick K s (.n (l.map D.i))) (fun r => ∃ x s' t, r = [.i x, s', t] ∧ x ∈ l ∧ St (c + 1) s') := by
  refine (w_Pick c s (l.map D.i) hs (by omega) (by simpa using h1) (by simp; omega)).mono ?_
  rintro _ ⟨x, s', t, rfl, hx, h⟩
  obtain ⟨y, hy, rfl⟩ := List.mem_map.1 hx
  exact ⟨y, s', t, rfl, hy, h⟩
def I3 (x : D) : Prop := ∃ a b c, x = .n [.i a, .i b, .i c]
def I4 (x : D) : Prop := ∃ a b c d, x = .n [.i a, .i b, .i c, .i d]
theorem w_RightBudget (c : Int) (s : D) (hs : St c s) (hc : c ≤ 999999999900) : W (fun K _ => f_gatemake_Stream_RightBudget K s) (fun r => ∃ x s', r = [x, s'] ∧ I3 x ∧ St (c + 3) s') := by
  unfold f_gatemake_Stream_RightBudget
  refine W.bind (w_PickI c s [1, 10, 50, 100, 1000] hs (by omega) (by simp) (by simp)) ?_
  rintro _ ⟨x, s1, _, rfl, hx, h1⟩
  refine W.bind (w_PickI _ s1 [0, 1, 2, 5] h1 (by omega) (by simp) (by simp)) ?_
  rintro _ ⟨y, s2, _, rfl, hy, h2⟩
  refine W.bind (w_PickI _ s2 [0, 100, 333, 500, 1000] h2 (by omega) (by simp) (by simp)) ?_
  rintro _ ⟨z, s3, _, rfl, hz, h3⟩
  exact W.ret ⟨_, s3, rfl, ⟨x, y, z, rfl⟩, h3.le (by omega)⟩
theorem w_RightOutliers (c : Int) (s : D) (hs : St c s) (hc : c ≤ 999999999900) : W (fun K _ => f_gatemake_Stream_RightOutliers K s) (fun r => ∃ x s', r = [x, s'] ∧ I4 x ∧ St (c + 4) s') := by
  unfold f_gatemake_Stream_RightOutliers
  refine W.bind (w_PickI c s [1, 2, 2, 3] hs (by omega) (by simp) (by simp)) ?_
  rintro _ ⟨x, s1, _, rfl, hx, h1⟩
  refine W.bind (w_PickI _ s1 [1, 5, 10] h1 (by omega) (by simp) (by simp)) ?_
  rintro _ ⟨y, s2, _, rfl, hy, h2⟩
  refine W.bind (w_PickI _ s2 [0, 333, 500, 1000] h2 (by omega) (by simp) (by simp)) ?_
  rintro _ ⟨z, s3, _, rfl, hz, h3⟩
  refine W.bind (w_PickI _ s3 [1, 2, 3, 8] h3 (by omega) (by simp) (by simp)) ?_
  rintro _ ⟨u, s4, _, rfl, hu, h4⟩
  exact W.ret ⟨_, s4, rfl, ⟨_, _, _, _, rfl⟩, h4.le (by omega)⟩
theorem w_Budget (c : Int) (s : D) (hs : St c s) (hc : c ≤ 999999999800) : W (fun K _ => f_gatemake_Stream_Budget K s) (fun r => ∃ x s', r = [x, s'] ∧ I3 x ∧ St (c + 20) s') := by
  unfold f_gatemake_Stream_Budget
  refine W.bind (w_RightBudget c s hs (by omega)) ?_
  rintro _ ⟨x, s1, rfl, hx, h1⟩
  simp only [D.nth_zero, D.nth_succ]
  refine W.bind (w_Flip _ _ s1 h1 (by omega) (by simp)) ?_
  rintro _ ⟨b, s2, rfl, h2⟩
  simp only [D.nth_zero, D.nth_succ, D.bool_b]
  refine W.cond (fun _ => ?_) (fun _ => W.ret ⟨x, s2, rfl, hx, h2.le (by omega)⟩)
  refine W.bind (w_Odd _ 1 3600000 s2 h2 (by omega) (by omega) (by omega) (by omega)) ?_
  rintro _ ⟨x, s3, rfl, _, _, h3⟩
  refine W.bind (w_Odd _ 0 300 s3 h3 (by omega) (by omega) (by omega) (by omega)) ?_
  rintro _ ⟨y, s4, rfl, _, _, h4⟩
  refine W.bind (w_Odd _ 0 1000 s4 h4 (by omega) (by omega) (by omega) (by omega)) ?_
  rintro _ ⟨z, s5, rfl, _, _, h5⟩
  exact W.ret ⟨_, s5, rfl, ⟨x, y, z, rfl⟩, h5.le (by omega)⟩
theorem w_Outliers (c : Int) (s : D) (hs : St c s) (hc : c ≤ 999999999800) : W (fun K _ => f_gatemake_Stream_Outliers K s) (fun r => ∃ x s', r = [x, s'] ∧ I4 x ∧ St (c + 20) s') := by
  unfold f_gatemake_Stream_Outliers
  refine W.bind (w_RightOutliers c s hs (by omega)) ?_
  rintro _ ⟨x, s1, rfl, hx, h1⟩
  simp only [D.nth_zero, D.nth_succ]
  refine W.bind (w_Flip _ _ s1 h1 (by omega) (by simp)) ?_
  rintro _ ⟨b, s2, rfl, h2⟩
  simp only [D.nth_zero, D.nth_succ, D.bool_b]
  refine W.cond (fun _ => ?_) (fun _ => W.ret ⟨x, s2, rfl, hx, h2.le (by omega)⟩)
  refine W.bind (w_Odd _ 1 100 s2 h2 (by omega) (by omega) (by omega) (by omega)) ?_
  rintro _ ⟨x, s3, rfl, _, _, h3⟩
  refine W.bind (w_Odd _ 1 20 s3 h3 (by omega) (by omega) (by omega) (by omega)) ?_
  rintro _ ⟨y, s4, rfl, _, _, h4⟩
  refine W.bind (w_Odd _ 1 3600000 s4 h4 (by omega) (by omega) (by omega) (by omega)) ?_
  rintro _ ⟨z, s5, rfl, _, _, h5⟩
  refine W.bind (w_Odd _ 0 1000 s5 h5 (by omega) (by omega) (by omega) (by omega)) ?_
  rintro _ ⟨u, s6, rfl, _, _, h6⟩
  exact W.ret ⟨_, s6, rfl, ⟨_, _, _, _, rfl⟩, h6.le (by omega)⟩
theorem w_Setup (c : Int) (s : D) (hs : St c s) (hc : c ≤ 999999990000) : W (fun K _ => f_gatemake_Stream_Setup K s) (fun r => ∃ a b d e bu ou s' l, r = [.i a, .i b, .i d, .i e, bu, ou, s', .n l] ∧ I3 bu ∧ I4 ou ∧ InL l ∧ St (c + 100) s') := by
  unfold f_gatemake_Stream_Setup
  refine W.bind (p := fun r => ∃ a b d e bu ou s' l, r = [.i a, .i b, .i d, .i e, bu, ou, s', .n l] ∧ I3 bu ∧ I4 ou ∧ InL l ∧ St (c + 30) s') ?_ ?_
  · unfold f_gatemake_Stream_RightSetup
    refine W.bind (w_RightInstances c s hs (by omega)) ?_
    rintro _ ⟨s1, l, rfl, hl, _, h1⟩
    simp only [D.nth_zero, D.nth_succ, D.list_n]
    refine W.bind (w_PickI _ s1 [1, 2, 3, 5] h1 (by omega) (by simp) (by simp)) ?_
    rintro _ ⟨a, s2, _, rfl, _, h2⟩
    refine W.bind (w_PickI _ s2 [1, 10, 20, 50] h2 (by omega) (by simp) (by simp)) ?_
    rintro _ ⟨b, s3, _, rfl, _, h3⟩
    refine W.bind (w_PickI _ s3 [0, 0, 5, 10] h3 (by omega) (by simp) (by simp)) ?_
    rintro _ ⟨d, s4, _, rfl, _, h4⟩
    refine W.bind (w_RightBudget _ s4 h4 (by omega)) ?_
    rintro _ ⟨bu, s5, rfl, hbu, h5⟩
    refine W.bind (w_RightOutliers _ s5 h5 (by omega)) ?_
    rintro _ ⟨ou, s6, rfl, hou, h6⟩
    refine W.bind (w_PickI _ s6 [1, 2, 4] h6 (by omega) (by simp) (by simp)) ?_
    rintro _ ⟨e, s7, _, rfl, _, h7⟩
    exact W.ret ⟨a, b, d, _, bu, ou, s7, l, rfl, hbu, hou, hl, h7.le (by omega)⟩
  · rintro _ ⟨a, b, d, e, bu, ou, s1, l, rfl, hbu, hou, hl, h1⟩
    simp only [D.nth_zero, D.nth_succ, D.list_n]
    refine W.bind (w_Flip _ _ s1 h1 (by omega) (by simp)) ?_
    rintro _ ⟨fl, s2, rfl, h2⟩
    simp only [D.nth_zero, D.nth_succ, D.bool_b]
    refine W.cond (fun _ => ?_) (fun _ => W.ret ⟨a, b, d, e, bu, ou, s2, l, rfl, hbu, hou, hl, h2.le (by omega)⟩)
    refine W.bind (w_Next _ _ s2 h2 (by omega) (by simp)) ?_
    rintro _ ⟨i, s3, rfl, _, _, h3⟩
    simp only [D.nth_zero, D.nth_succ]
    refine W.cond (fun _ => ?_) (fun _ => W.cond (fun _ => ?_) (fun _ => W.cond (fun _ => ?_) (fun _ => ?_)))
    · refine W.bind (w_Instances _ s3 h3 (by omega)) ?_
      rintro _ ⟨s4, l', rfl, hl', h4⟩
      exact W.ret ⟨a, b, d, e, bu, ou, s4, l', rfl, hbu, hou, hl', h4.le (by omega)⟩
    · refine W.bind (w_Odd _ 1 5 s3 h3 (by omega) (by omega) (by omega) (by omega)) ?_
      rintro _ ⟨x, s4, rfl, _, _, h4⟩
      refine W.bind (w_Odd _ 1 3600000 s4 h4 (by omega) (by omega) (by omega) (by omega)) ?_
      rintro _ ⟨y, s5, rfl, _, _, h5⟩
      exact W.ret ⟨x, y, d, e, bu, ou, s5, l, rfl, hbu, hou, hl, h5.le (by omega)⟩
    · refine W.bind (w_Odd _ 0 10 s3 h3 (by omega) (by omega) (by omega) (by omega)) ?_
      rintro _ ⟨x, s4, rfl, _, _, h4⟩
      refine W.bind (w_Odd _ 0 3600000 s4 h4 (by omega) (by omega) (by omega) (by omega)) ?_
      rintro _ ⟨y, s5, rfl, _, _, h5⟩
      exact W.ret ⟨a, b, x, y, bu, ou, s5, l, rfl, hbu, hou, hl, h5.le (by omega)⟩
    · refine W.bind (w_Budget _ s3 h3 (by omega)) ?_
      rintro _ ⟨bu', s4, rfl, hbu', h4⟩
      refine W.bind (w_Outliers _ s4 h4 (by omega)) ?_
      rintro _ ⟨ou', s5, rfl, hou', h5⟩
      exact W.ret ⟨a, b, d, e, bu', ou', s5, l, rfl, hbu', hou', hl, h5.le (by omega)⟩
/-! Calls -/
theorem utf_len (j : Nat) (hj : j < 12) : (Utf8.encode (IntKind.i32.wrap (IntKind.i64.wrap ((97 : Int) + (j : Int))))).data.toList.length ≤ 4 := by
  have : (List.range 12).all (fun j => Nat.ble (Utf8.encode (IntKind.i32.wrap (IntKind.i64.wrap ((97 : Int) + (j : Int))))).data.toList.length 4) = true := by kernel_rfl
  have := List.all_eq_true.1 this j (by simpa using hj)
  exact Nat.le_of_ble_eq_true this
theorem w_Calls (c most : Int) (s : D) (hs : St c s) (hc : c ≤ 999999990000) (h0 : 0 ≤ most) (h1 : most ≤ 9) : W (fun K _ => f_gatemake_Stream_Calls K (.i most) s) (fun r => ∃ s' l, r = [s', .n l] ∧ InL l ∧ St (c + 40) s') := by
  unfold f_gatemake_Stream_Calls
  refine W.bind (p := fun r => ∃ s' l, r = [s', .n l] ∧ InL l ∧ St (c + 12) s') ?_ ?_
  · unfold f_gatemake_Stream_RightCalls
    refine W.bind (w_Range c 0 most s hs (by omega) (by omega) (by omega)) ?_
    rintro _ ⟨n, s1, rfl, n0, n1, h2⟩
    have n1 := n1 h0
    simp only [D.nth_zero, D.nth_succ]
    refine W.bind (p := fun r => ∃ s' l, r = (0, [s', .n l]) ∧ InL l ∧ St (c + 12) s') (W.rounds (S := Int × Nat × D × List D) (fun q => [.i q.1, .i n, .i (q.2.1 : Int), q.2.2.1, .n q.2.2.2]) (fun q => (q.2.1 : Int) ≤ n ∧ q.2.2.2.length = q.2.1 ∧ (∀ x ∈ q.2.2.2, In x) ∧ St (c + 1 + q.2.1) q.2.2.1) (fun q => n.toNat - q.2.1) (fun q hI rc ih => ?_) (0, 0, s1, []) ⟨by simp only; omega, rfl, by simp, by simpa using h2⟩) ?_
    · obtain ⟨vat, j, s2, out⟩ := q
      obtain ⟨a1, a2, a3, a4⟩ := hI
      simp only at a1 a2 a3 a4
      unfold b_gatemake_Stream_RightCalls_0
      simp only [D.nth_zero, D.nth_succ, D.int_i, D.list_n]
      refine W.cond (fun h => ?_) (fun h => ?_)
      · simp at h
        refine W.bind (w_PickI _ s2 [0, 0, 1, 5, 10, 40] a4 (by omega) (by simp) (by simp)) ?_
        rintro _ ⟨x, s3, t, rfl, hx, h3⟩
        have hu := utf_len j (by omega)
        refine W.cond (fun _ => ?_) (fun h => absurd (lim_mk (n := [99].length + (Utf8.encode (IntKind.i32.wrap (IntKind.i64.wrap ((97 : Int) + (j : Int))))).data.toList.length) (by simp only [List.length_cons, List.length_nil]; omega)) (by rw [h]; simp))
        refine W.cond (fun _ => ?_) (fun h => absurd (lim_mk (n := out.length + 1) (by omega)) (by rw [h]; simp))
        have e1 : IntKind.i64.wrap ((j : Int) + 1) = ((j + 1 : Nat) : Int) := by rw [wrap_i64 (by omega) (by omega)]; omega
        rw [e1]
        refine ih (_, j + 1, s3, out ++ [_]) ⟨by simp only; omega, by simp [a2], fun y hy => ?_, h3.le (by simp only; omega)⟩ (by simp only; omega)
        rcases List.mem_append.1 hy with hy | hy
        · exact a3 y hy
        · simp only [List.mem_singleton] at hy
          subst hy
          exact ⟨_, _, rfl, by rw [List.length_append, List.length_singleton]; omega⟩
      · simp at h
        exact W.ret ⟨s2, out, rfl, ⟨by omega, a3⟩, a4.le (by omega)⟩
    · rintro _ ⟨s2, l, rfl, hl, h3⟩
      exact W.ret ⟨s2, l, rfl, hl, h3⟩
  · rintro _ ⟨s1, l, rfl, hl, h2⟩
    have hl10 := hl.1
    simp only [D.nth_zero, D.nth_succ, D.list_n]
    refine W.bind (p := fun r => ∃ b s', r = (0, [.b b, s', .n l]) ∧ (b = true → 0 < l.length) ∧ St (c + 13) s') ?_ ?_
    · unfold b_gatemake_Stream_Calls_0
      simp only [D.nth_zero, D.nth_succ, D.list_n]
      refine W.cond (fun h => ?_) (fun h => W.ret ⟨false, s1, rfl, fun h => by simp at h, h2.le (by omega)⟩)
      refine W.bind (w_Flip _ _ s1 h2 (by omega) (by simp)) ?_
      rintro _ ⟨b, s2, rfl, h3⟩
      simp at h
      exact W.ret ⟨b, s2, rfl, fun _ => by omega, h3.le (by omega)⟩
    · rintro _ ⟨b, s2, rfl, h3, h4⟩
      simp only [D.nth_zero, D.nth_succ, D.list_n, D.bool_b]
      refine W.cond (fun hb => ?_) (fun _ => W.ret ⟨s2, l, rfl, hl, h4.le (by omega)⟩)
      have hl0 := h3 hb
      refine W.bind (w_Next _ _ s2 h4 (by omega) (by simp; omega)) ?_
      rintro _ ⟨i, s3, rfl, i0, i1, h5⟩
      simp only [D.int_i] at i1
      have i1 := i1 (by omega)
      obtain ⟨j, rfl⟩ : ∃ j : Nat, i = (j : Int) := ⟨i.toNat, by omega⟩
      have hj : j < l.length := by omega
      simp only [D.nth_zero, D.nth_succ, D.int_i, Int.toNat_natCast]
      refine W.cond (fun _ => ?_) (fun h => by simp at h; omega)
      obtain ⟨a, w, hx, ha, hx0, hx1⟩ := hl.nth hj
      rw [hx0]
      refine W.bind (w_Some _ s3 _ h5 (by omega) (by simp) (by simp)) ?_
      rintro _ ⟨y, s4, t, rfl, hy, h6⟩
      have hy' : ∃ b : List UInt8, y = .s b ∧ b.length ≤ 1000 := by
        simp only [List.mem_cons, List.not_mem_nil, or_false] at hy
        rcases hy with rfl | rfl | rfl
        · exact ⟨_, rfl, ha⟩
        all_goals exact ⟨_, rfl, by simp⟩
      obtain ⟨b', rfl, hb'⟩ := hy'
      refine W.bind (w_Odd _ 0 100 s4 h6 (by omega) (by omega) (by omega) (by omega)) ?_
      rintro _ ⟨w', s5, rfl, _, _, h7⟩
      refine W.ret ⟨s5, _, rfl, ?_, h7.le (by omega)⟩
      have g1 : In (.n (D.setNth (D.nth l j).list 0 (.s b'))) := (hl.2 _ (nth_mem hj)).set0 hb'
      have g2 := hl.set hj g1
      refine g2.set (by rw [length_setNth hj]; exact hj) ?_
      rw [at_set_same]
      exact g1.set1
/-! Phases -/
def Ph (x : D) : Prop := ∃ a f t s k, x = .n [.s a, .n [.i f, .i t], .i s, .i k] ∧ a.length ≤ 1000
def PhL (l : List D) : Prop := l.length ≤ 400 ∧ ∀ x ∈ l, Ph x
theorem PhL.set {l : List D} {j : Nat} {x : D} (h : PhL l) (hj : j < l.length) (hx : Ph x) : PhL (D.setNth l j x) := by
  rw [setNth_eq _ hj]
  refine ⟨by simpa using h.1, fun y hy => ?_⟩
  rcases List.mem_or_eq_of_mem_set hy with hy | hy
  · exact h.2 y hy
  · subst hy; exact hx
theorem Ph.set0 {x : D} (h : Ph x) {a : List UInt8} (ha : a.length ≤ 1000) : Ph (.n (D.setNth x.list 0 (.s a))) := by
  obtain ⟨b, f, t, s, k, rfl, _⟩ := h
  exact ⟨a, f, t, s, k, rfl, ha⟩
theorem Ph.set1 {x : D} (h : Ph x) {f : Int} : Ph (.n (D.setNth x.list 1 (.n (D.setNth (x.at' 1).list 0 (.i f))))) := by
  obtain ⟨b, f', t, s, k, rfl, hb⟩ := h
  exact ⟨b, f, t, s, k, rfl, hb⟩
theorem Ph.set2 {x : D} (h : Ph x) {v : Int} : Ph (.n (D.setNth x.list 2 (.i v))) := by
  obtain ⟨b, f', t, s, k, rfl, hb⟩ := h
  exact ⟨b, f', t, v, k, rfl, hb⟩
theorem Ph.set3 {x : D} (h : Ph x) {v : Int} : Ph (.n (D.setNth x.list 3 (.i v))) := by
  obtain ⟨b, f', t, s, k, rfl, hb⟩ := h
  exact ⟨b, f', t, s, v, rfl, hb⟩
theorem w_Phases (c : Int) (s : D) (l : List D) (hl : InL l) (hs : St c s) (hc : c ≤ 999999990000) : W (fun K _ => f_gatemake_Stream_Phases K s (.n l)) (fun r => ∃ s' p, r = [s', .n l, .n p] ∧ PhL p ∧ St (c + 300) s') := by
  have hl10 := hl.1
  unfold f_gatemake_Stream_Phases
  simp only [D.list_n]
  refine W.bind (p := fun r => ∃ s' p, r = [s', .n l, .n p] ∧ PhL p ∧ St (c + 200) s') ?_ ?_
  · unfold f_gatemake_Stream_RightPhases
    simp only [D.list_n]
    refine W.bind (p := fun r => ∃ s' p, r = (0, [s', .n l, .n p]) ∧ PhL p ∧ St (c + 200) s') (W.rounds (S := Nat × D × List D) (fun q => [.i (l.length : Int), .i (q.1 : Int), q.2.1, .n l, .n q.2.2]) (fun q => q.1 ≤ l.length ∧ q.2.2.length ≤ 4 * q.1 ∧ (∀ x ∈ q.2.2, Ph x) ∧ St (c + 20 * q.1) q.2.1) (fun q => l.length - q.1) (fun q hI rc ih => ?_) (0, s, []) ⟨by simp, by simp, by simp, by simpa using hs⟩) ?_
    · obtain ⟨j, s2, out⟩ := q
      obtain ⟨a1, a2, a3, a4⟩ := hI
      simp only at a1 a2 a3 a4
      unfold b_gatemake_Stream_RightPhases_0
      simp only [D.nth_zero, D.nth_succ, D.int_i, D.list_n, Int.toNat_natCast]
      refine W.cond (fun h => ?_) (fun h => ?_)
      · simp at h
        refine W.cond (fun _ => ?_) (fun h => by simp at h; omega)
        refine W.bind (w_Range _ 0 3 s2 a4 (by omega) (by omega) (by omega)) ?_
        rintro _ ⟨n, s3, rfl, n0, n1, h3⟩
        have n1 := n1 (by omega)
        simp only [D.nth_zero, D.nth_succ]
        obtain ⟨ka, kw, hk, hka, hk0, hk1⟩ := hl.nth h
        refine W.bind (p := fun r => ∃ s' t p, r = (0, [s', t, .n p]) ∧ p.length ≤ 4 * j + 3 ∧ (∀ x ∈ p, Ph x) ∧ St (c + 20 * j + 18) s') (W.rounds (S := Int × Nat × D × List D) (fun q => [.i q.1, .i n, .i (q.2.1 : Int), q.2.2.1, D.nth l j, .n q.2.2.2]) (fun q => (q.2.1 : Int) ≤ n ∧ q.2.2.2.length ≤ 4 * j + q.2.1 ∧ (∀ x ∈ q.2.2.2, Ph x) ∧ St (c + 20 * j + 1 + 4 * q.2.1) q.2.2.1) (fun q => n.toNat - q.2.1) (fun q hI rc2 ih2 => ?_) (0, 0, s3, out) ⟨by simp only; omega, by simp only; omega, a3, h3.le (by simp only; omega)⟩) ?_
        · obtain ⟨fr, i, s4, out2⟩ := q
          obtain ⟨b1, b2, b3, b4⟩ := hI
          simp only at b1 b2 b3 b4
          unfold b_gatemake_Stream_RightPhases_1
          simp only [D.nth_zero, D.nth_succ, D.int_i, D.list_n]
          refine W.cond (fun h => ?_) (fun h => ?_)
          · simp at h
            refine W.bind (w_PickI _ s4 [0, 0, 20] b4 (by omega) (by simp) (by simp)) ?_
            rintro _ ⟨x1, s5, t, rfl, _, c1⟩
            refine W.bind (w_PickI _ s5 [10, 30, 100, 1000] c1 (by omega) (by simp) (by simp)) ?_
            rintro _ ⟨x2, s6, t, rfl, _, c2⟩
            refine W.bind (w_PickI _ s6 [200, 200, 404, 500, 503] c2 (by omega) (by simp) (by simp)) ?_
            rintro _ ⟨x3, s7, t, rfl, _, c3⟩
            refine W.bind (w_PickI _ s7 [0, 0, 3, 10, 20, 50] c3 (by omega) (by simp) (by simp)) ?_
            rintro _ ⟨x4, s8, t, rfl, _, c4⟩
            refine W.cond (fun _ => ?_) (fun h => absurd (lim_mk (n := out2.length + 1) (by omega)) (by rw [h]; simp))
            have e1 : IntKind.i64.wrap ((i : Int) + 1) = ((i + 1 : Nat) : Int) := by rw [wrap_i64 (by omega) (by omega)]; omega
            rw [e1, hk0]
            refine ih2 (_, i + 1, s8, out2 ++ [_]) ⟨by simp only; omega, by simp; omega, fun y hy => ?_, c4.le (by simp only; omega)⟩ (by simp only; omega)
            rcases List.mem_append.1 hy with hy | hy
            · exact b3 y hy
            · simp only [List.mem_singleton] at hy
              subst hy
              exact ⟨_, _, _, _, _, rfl, hka⟩
          · simp at h
            exact W.ret ⟨s4, _, out2, rfl, by omega, b3, b4.le (by omega)⟩
        · rintro _ ⟨s4, t, p, rfl, hp1, hp2, h4⟩
          simp only [D.nth_zero, D.nth_succ, D.list_n]
          have e1 : IntKind.i64.wrap ((j : Int) + 1) = ((j + 1 : Nat) : Int) := by rw [wrap_i64 (by omega) (by omega)]; omega
          rw [e1]
          exact ih (j + 1, s4, p) ⟨by simp only; omega, by simp only; omega, hp2, h4.le (by simp only; omega)⟩ (by simp only; omega)
      · simp at h
        exact W.ret ⟨s2, out, rfl, ⟨by omega, a3⟩, a4.le (by omega)⟩
    · rintro _ ⟨s2, p, rfl, hp, h2⟩
      exact W.ret ⟨s2, p, rfl, hp, h2⟩
  · rintro _ ⟨s1, p, rfl, hp, h2⟩
    have hp4 := hp.1
    simp only [D.nth_zero, D.nth_succ, D.list_n]
    refine W.bind (p := fun r => ∃ b s', r = (0, [.b b, s', .n p]) ∧ (b = true → 0 < p.length) ∧ St (c + 201) s') ?_ ?_
    · unfold b_gatemake_Stream_Phases_0
      simp only [D.nth_zero, D.nth_succ, D.list_n]
      refine W.cond (fun h => ?_) (fun h => W.ret ⟨false, s1, rfl, fun h => by simp at h, h2.le (by omega)⟩)
      refine W.bind (w_Flip _ _ s1 h2 (by omega) (by simp)) ?_
      rintro _ ⟨b, s2, rfl, h3⟩
      simp at h
      exact W.ret ⟨b, s2, rfl, fun _ => by omega, h3.le (by omega)⟩
    · rintro _ ⟨b, s2, rfl, h3, h4⟩
      simp only [D.nth_zero, D.nth_succ, D.list_n, D.bool_b]
      refine W.cond (fun hb => ?_) (fun _ => W.ret ⟨s2, p, rfl, hp, h4.le (by omega)⟩)
      have hl0 := h3 hb
      refine W.bind (w_Next _ _ s2 h4 (by omega) (by simp; omega)) ?_
      rintro _ ⟨i, s3, rfl, i0, i1, h5⟩
      simp only [D.int_i] at i1
      have i1 := i1 (by omega)
      obtain ⟨j, rfl⟩ : ∃ j : Nat, i = (j : Int) := ⟨i.toNat, by omega⟩
      have hj : j < p.length := by omega
      simp only [D.nth_zero, D.nth_succ, D.int_i, Int.toNat_natCast]
      refine W.cond (fun _ => ?_) (fun h => by simp at h; omega)
      have hph := hp.2 _ (nth_mem hj)
      obtain ⟨a, f, t, st, k, hx, ha⟩ := id hph
      have hx0 : (D.nth p j).at' 0 = .s a := by rw [hx]; rfl
      rw [hx0]
      refine W.bind (w_Some _ s3 _ h5 (by omega) (by simp) (by simp)) ?_
      rintro _ ⟨y, s4, t, rfl, hy, h6⟩
      have hy' : ∃ b : List UInt8, y = .s b ∧ b.length ≤ 1000 := by
        simp only [List.mem_cons, List.not_mem_nil, or_false] at hy
        rcases hy with rfl | rfl
        · exact ⟨_, rfl, ha⟩
        · exact ⟨_, rfl, by simp⟩
      obtain ⟨b', rfl, hb'⟩ := hy'
      refine W.bind (w_Odd _ 0 50 s4 h6 (by omega) (by omega) (by omega) (by omega)) ?_
      rintro _ ⟨v1, s5, rfl, _, _, h7⟩
      refine W.bind (w_Odd _ 100 599 s5 h7 (by omega) (by omega) (by omega) (by omega)) ?_
      rintro _ ⟨v2, s6, rfl, _, _, h8⟩
      refine W.bind (w_Odd _ 0 3600000 s6 h8 (by omega) (by omega) (by omega) (by omega)) ?_
      rintro _ ⟨v3, s7, rfl, _, _, h9⟩
      simp only [D.nth_zero, D.nth_succ, at_set_same]
      refine W.ret ⟨s7, _, rfl, ?_, h9.le (by omega)⟩
      have q1 : Ph (.n (D.setNth (D.nth p j).list 0 (.s b'))) := hph.set0 hb'
      have q2 := q1.set1 (f := v1)
      have q3 := q2.set2 (v := v2)
      have q4 := q3.set3 (v := v3)
      have g1 := hp.set hj q1
      have n1 := length_setNth (v := .n (D.setNth (D.nth p j).list 0 (.s b'))) hj
      have g2 := g1.set (by rw [n1]; exact hj) q2
      have n2 := length_setNth (l := D.setNth p j (.n (D.setNth (D.nth p j).list 0 (.s b')))) (i := j) (v := .n (D.setNth (D.n (D.setNth (D.nth p j).list 0 (.s b'))).list 1 (.n (D.setNth ((D.n (D.setNth (D.nth p j).list 0 (.s b'))).at' 1).list 0 (.i v1))))) (by rw [n1]; exact hj)
      have g3 := g2.set (by rw [n2, n1]; exact hj) q3
      refine g3.set ?_ q4
      rw [length_setNth (by rw [n2, n1]; exact hj), n2, n1]
      exact hj
/-! ### Calls -/
theorem scan_errD {F : Nat → Int} {ex : Nat → List D} {fex : List D} : ∀ (m j : Nat), errD (scan (fun j => bif F j != 0 then some (0, .i (F j) :: ex j) else none) (1, fex) m j) = errD (scan (errAt F) (1, []) m j)
  | 0, j => rfl
  | m + 1, j => by
    cases h : F j != 0 with
    | true => simp only [scan, errAt, h, cond_true]; rfl
    | false =>
      simp only [scan, errAt, h, cond_false]
      exact scan_errD m (j + 1)
theorem get_set (k k' : D) : ∀ (m : List D), (mapGet .str k (mapSet .str k' (.b true) m)).bool = ((k.str == k'.str) || (mapGet .str k m).bool)
  | [] => by
    simp only [mapSet, mapGet, eqK, D.at_n, D.nth_zero, D.nth_succ]
    cases k.str == k'.str <;> rfl
  | x :: m => by
    have ih := get_set k k' m
    simp only [mapSet, eqK]
    cases h1 : k'.str == (x.at' 0).str with
    | true =>
      have e1 : k'.str = (x.at' 0).str := by simpa using h1
      simp only [cond_true, mapGet, eqK, D.at_n, D.nth_zero, D.nth_succ]
      rw [e1]
      cases k.str == (x.at' 0).str <;> rfl
    | false =>
      simp only [cond_false, mapGet, eqK]
      cases h2 : k.str == (x.at' 0).str with
      | true =>
        have e2 : k.str = (x.at' 0).str := by simpa using h2
        have : (k.str == k'.str) = false := by
          rw [e2]
          have : k'.str ≠ (x.at' 0).str := by simpa using h1
          simpa using fun h => this h.symm
        rw [this]
        rfl
      | false => exact ih
def seenM (l : List D) : List D := l.foldl (fun m x => mapSet .str (x.at' 0) (.b true) m) []
theorem seen_any (k : D) (l : List D) : (mapGet .str k (seenM l)).bool = l.any fun x => idS x == k.str := by
  unfold seenM
  have : ∀ (l m : List D), (mapGet .str k (l.foldl (fun m x => mapSet .str (x.at' 0) (.b true) m) m)).bool = ((l.any fun x => idS x == k.str) || (mapGet .str k m).bool) := fun l => by
    induction l with
    | nil => intro m; simp
    | cons x l ih =>
      intro m
      rw [List.foldl_cons, ih, get_set]
      simp only [List.any_cons, idS]
      have : (k.str == (x.at' 0).str) = ((x.at' 0).str == k.str) := by
        rw [Bool.eq_iff_iff]
        simp only [beq_iff_eq]
        exact ⟨fun h => h.symm, fun h => h.symm⟩
      rw [this]
      cases (l.any fun x => (x.at' 0).str == k.str) <;> cases ((x.at' 0).str == k.str) <;> rfl
  rw [this]
  simp [mapGet, D.bool]
def badC (x : D) : Bool := !(bif geI (x.at' 1).int 0 then ltI (x.at' 1).int 345686400000 else false)
def ordC (l : List D) (j : Nat) : Bool := bif gtI (j : Int) 0 then ltI ((D.nth l j).at' 1).int ((D.nth l (j - 1)).at' 1).int else false
def callF (l : List D) (j : Nat) : Int := bif !keyB (idS (D.nth l j)) then 5 else bif (l.take j).any (fun x => idS x == idS (D.nth l j)) then 6 else bif badC (D.nth l j) then 1 else bif ordC l j then 7 else 0
def callD (l : List D) : List D := bif gtI (l.length : Int) 300 then [.i 2] else errD (scan (errAt (callF l)) (1, []) l.length 0)
theorem w_CheckCalls (l : List D) (hl : InL l) : W (fun K _ => f_upstream_CheckCalls K (.n l)) (fun r => r = callD l) := by
  have hl10 := hl.1
  unfold f_upstream_CheckCalls callD
  simp only [D.list_n]
  refine W.cond (fun h => W.ret (by rw [h]; rfl)) (fun h => ?_)
  rw [h, cond_false, ← scan_errD (ex := fun j => [.n (seenM (l.take j))]) (fex := [.n (seenM (l.take l.length))])]
  have hf : ∀ {j : Nat} {n : Int}, callF l j = n → n ≠ 0 → (bif callF l j != 0 then some (0, D.i (callF l j) :: [.n (seenM (l.take j))]) else none) = some (0, [.i n, .n (seenM (l.take j))]) := fun {j n} h hn => by
    have : (n != 0) = true := by simpa using hn
    rw [h, this]; rfl
  have h0 : ∀ {j : Nat}, callF l j = 0 → (bif callF l j != 0 then some (0, D.i (callF l j) :: [.n (seenM (l.take j))]) else none) = none := fun {j} h => by rw [h]; rfl
  refine W.bind (W.early l.length (fun j => [.n l, .n l, .i l.length, .i j, .n (seenM (l.take j))]) (fun j => bif callF l j != 0 then some (0, D.i (callF l j) :: [.n (seenM (l.take j))]) else none) (1, [.n (seenM (l.take l.length))]) (fun j hj hp p rc g1 g2 => ?_) (fun rc => ?_)) ?_
  · unfold b_upstream_CheckCalls_0
    simp only [D.nth_zero, D.nth_succ, D.int_i, D.list_n, Int.toNat_natCast, seen_any]
    obtain ⟨a, w, hx, ha, hx0, hx1⟩ := hl.nth hj
    have hid : idS (D.nth l j) = a := by unfold idS; rw [hx0]; rfl
    refine W.cond (fun _ => ?_) (fun h => by simp at h; omega)
    refine W.cond (fun _ => ?_) (fun h => by simp at h; omega)
    rw [hx0]
    refine W.bind (w_IsKey a (by omega)) ?_
    rintro _ rfl
    simp only [D.nth_zero, D.bool_b, D.str_s]
    refine W.cond (fun hk => W.ret (g1 _ ?_)) (fun hk => ?_)
    · exact hf (by simp only [callF, hid, hk, cond_true]) (by omega)
    refine W.cond (fun hs => W.ret (g1 _ ?_)) (fun hs => ?_)
    · exact hf (by simp only [callF, hid, hk, hs, cond_true, cond_false]) (by omega)
    simp only [p_kit_IsMoment, D.nth_zero, D.bool_b]
    refine W.cond (fun hb => W.ret (g1 _ ?_)) (fun hb => ?_)
    · have : badC (D.nth l j) = true := hb
      exact hf (by simp only [callF, hid, hk, hs, this, cond_true, cond_false]) (by omega)
    have hb' : badC (D.nth l j) = false := hb
    have hw : IntKind.i64.wrap ((j : Int) - 1) = (j : Int) - 1 := wrap_i64 (by omega) (by omega)
    have hn : ((j : Int) - 1).toNat = j - 1 := by omega
    rw [hw, hn]
    refine W.cond (fun _ => ?_) (fun h => by simp at h; omega)
    refine W.cond (fun ho => W.ret (g1 _ ?_)) (fun ho => ?_)
    · have : ordC l j = true := ho
      exact hf (by simp only [callF, hid, hk, hs, hb', this, cond_true, cond_false]) (by omega)
    · have : ordC l j = false := ho
      have e1 : seenM (l.take (j + 1)) = mapSet .str (.s a) (.b true) (seenM (l.take j)) := by
        unfold seenM
        rw [take_nth hj, List.foldl_append, List.foldl_cons, List.foldl_nil, hx0]
      have h2 := g2 (h0 (by simp only [callF, hid, hk, hs, hb', this, cond_false]))
      rw [e1] at h2
      rw [wrap_i64 (x := (j : Int) + 1) (by omega) (by omega)]
      exact h2
  · unfold b_upstream_CheckCalls_0
    simp only [D.nth_zero, D.nth_succ, D.int_i]
    exact W.cond (fun h => by simp at h) (fun _ => W.ret rfl)
  · rintro _ rfl
    generalize scan (fun j => bif callF l j != 0 then some (0, D.i (callF l j) :: [.n (seenM (l.take j))]) else none) (1, [.n (seenM (l.take l.length))]) l.length 0 = r
    unfold errD
    exact W.cond (fun h => W.ret (by rw [h]; rfl)) (fun h => W.ret (by rw [h]; rfl))
theorem w_hasCall (l : List D) (x : D) (hl : l.length ≤ 1000000) : W (fun K _ => f_slices_ContainsFunc_api_Call K (.n l) x) (fun r => r = [.b (l.any fun y => idS y == idS x), x]) := by
  unfold f_slices_ContainsFunc_api_Call f_slices_IndexFunc_api_Call
  refine W.bind (p := fun r => ∃ i, r = [.i i, x] ∧ geI i 0 = l.any fun y => idS y == idS x) ?_ ?_
  · refine W.bind (W.early l.length (fun j => [.n l, .i l.length, .i j, x]) (fun j => bif (fun y : D => idS y == idS x) (D.nth l j) then some (0, [.i (j : Int), x]) else none) (1, [x]) (fun j hj hp p rc h1 h2 => ?_) (fun rc => ?_)) ?_
    · unfold b_slices_IndexFunc_api_Call_0
      simp only [D.nth_zero, D.nth_succ, D.list_n, D.int_i, Int.toNat_natCast, p_gateref2_CallsFault_1, D.bool_b]
      refine W.cond (fun _ => ?_) (fun h => by simp at h; omega)
      refine W.cond (fun _ => ?_) (fun h => by simp at h; omega)
      refine W.cond (fun h => W.ret (h1 _ ?_)) (fun h => ?_)
      · have : (idS (D.nth l j) == idS x) = true := h
        simp only [this, cond_true]
      · have : (idS (D.nth l j) == idS x) = false := h
        rw [wrap_i64 (by omega) (by omega)]
        exact h2 (by simp only [this, cond_false])
    · unfold b_slices_IndexFunc_api_Call_0
      simp only [D.nth_zero, D.nth_succ, D.list_n, D.int_i]
      exact W.cond (fun h => by simp at h) (fun _ => W.ret rfl)
    · rintro _ rfl
      rcases scan_any l (fun y : D => idS y == idS x) (fun j => (0, [D.i (j : Int), x])) (1, [x]) with ⟨ha, i, hi, h⟩ | ⟨ha, h⟩
      · rw [h, ha]
        exact W.ret ⟨i, rfl, by simp⟩
      · rw [h, ha]
        exact W.ret ⟨-1, rfl, by simp⟩
  · rintro _ ⟨i, rfl, h⟩
    exact W.ret (by simp [h])
theorem w_CallsFault (l : List D) (hl : InL l) : W (fun K _ => f_gateref2_CallsFault K (.n l)) (fun r => r = callD l) := by
  have hl10 := hl.1
  unfold f_gateref2_CallsFault callD
  simp only [D.list_n]
  refine W.cond (fun h => W.ret (by rw [h]; rfl)) (fun h => ?_)
  rw [h, cond_false]
  refine W.bind (W.early l.length (fun j => [.n l, .n l, .i l.length, .i j]) (errAt (callF l)) (1, []) (fun j hj hp p rc g1 g2 => ?_) (fun rc => ?_)) ?_
  · unfold b_gateref2_CallsFault_0
    simp only [D.nth_zero, D.nth_succ, D.int_i, D.list_n, Int.toNat_natCast]
    obtain ⟨a, w, hx, ha, hx0, hx1⟩ := hl.nth hj
    have hid : idS (D.nth l j) = a := by unfold idS; rw [hx0]; rfl
    refine W.cond (fun _ => ?_) (fun h => by simp at h; omega)
    refine W.cond (fun _ => ?_) (fun h => by simp at h; omega)
    rw [hx0]
    refine W.bind (w_Key a (by omega)) ?_
    rintro _ rfl
    simp only [D.nth_zero, D.bool_b]
    refine W.cond (fun hk => W.ret (g1 _ ?_)) (fun hk => ?_)
    · exact errAt_some (by simp only [callF, hid, hk, cond_true]) (by omega)
    refine W.cond (fun _ => ?_) (fun h => by simp at h; omega)
    refine W.bind (w_hasCall (l.take j) _ (by rw [List.length_take]; omega)) ?_
    rintro _ rfl
    simp only [D.nth_zero, D.nth_succ, D.bool_b]
    refine W.cond (fun hs => W.ret (g1 _ ?_)) (fun hs => ?_)
    · rw [hid] at hs
      exact errAt_some (by simp only [callF, hid, hk, hs, cond_true, cond_false]) (by omega)
    rw [hid] at hs
    have hmo : (!(D.nth (p_gateref2_Moment ((D.nth l j).at' 1)) 0).bool) = badC (D.nth l j) := by
      simp only [p_gateref2_Moment, p_gateref2_in, D.nth_zero, D.bool_b, D.int_i, badC]
      generalize ((D.nth l j).at' 1).int = x
      cases h1 : leI 0 x <;> cases h2 : leI x 345686399999 <;> cases h3 : geI x 0 <;> cases h4 : ltI x 345686400000 <;> first | rfl | (exfalso; simp at h1 h2 h3 h4; omega)
    rw [hmo]
    refine W.cond (fun hb => W.ret (g1 _ ?_)) (fun hb => ?_)
    · exact errAt_some (by simp only [callF, hid, hk, hs, hb, cond_true, cond_false]) (by omega)
    have hw : IntKind.i64.wrap ((j : Int) - 1) = (j : Int) - 1 := wrap_i64 (by omega) (by omega)
    have hn : ((j : Int) - 1).toNat = j - 1 := by omega
    rw [hw, hn]
    refine W.cond (fun _ => ?_) (fun h => by simp at h; omega)
    refine W.cond (fun ho => W.ret (g1 _ ?_)) (fun ho => ?_)
    · have : ordC l j = true := ho
      exact errAt_some (by simp only [callF, hid, hk, hs, hb, this, cond_true, cond_false]) (by omega)
    · have : ordC l j = false := ho
      rw [wrap_i64 (x := (j : Int) + 1) (by omega) (by omega)]
      exact g2 (errAt_none (by simp only [callF, hid, hk, hs, hb, this, cond_false]))
  · unfold b_gateref2_CallsFault_0
    simp only [D.nth_zero, D.nth_succ, D.int_i]
    exact W.cond (fun h => by simp at h) (fun _ => W.ret rfl)
  · rintro _ rfl
    generalize scan (errAt (callF l)) (1, []) l.length 0 = r
    unfold errD
    exact W.cond (fun h => W.ret (by rw [h]; rfl)) (fun h => W.ret (by rw [h]; rfl))
/-! ### Phases -/
def frT (x : D) : Int := ((x.at' 1).at' 0).int
def toT (x : D) : Int := ((x.at' 1).at' 1).int
def rngB (x : D) : Bool := bif (bif (bif (bif ltI (frT x) 0 then true else geI (frT x) (toT x)) then true else gtI (toT x) 345686400000) then true else (bif ltI (x.at' 2).int 100 then true else gtI (x.at' 2).int 599)) then true else (bif ltI (x.at' 3).int 0 then true else gtI (x.at' 3).int 3600000)
def ordP0 (p : List D) (j : Nat) : Bool := bif Op.bytesLess (idS (D.nth p j)) (idS (D.nth p (j - 1))) then true else (bif (idS (D.nth p j) == idS (D.nth p (j - 1))) then ltI (frT (D.nth p j)) (toT (D.nth p (j - 1))) else false)
def phF (l p : List D) (j : Nat) : Int := bif !(l.any fun x => idS x == idS (D.nth p j)) then 8 else bif rngB (D.nth p j) then 1 else bif (bif gtI (j : Int) 0 then ordP0 p j else false) then 7 else 0
def phD (l p : List D) : List D := bif gtI (p.length : Int) 500 then [.i 2] else errD (scan (errAt (phF l p)) (1, []) p.length 0)
theorem w_CheckPhases (l p : List D) (hl : InL l) (hp : PhL p) : W (fun K _ => f_upstream_CheckPhases K (.n l) (.n p)) (fun r => r = bif ((D.nth (insD l) 0).int != 0) then [D.nth (insD l) 0] else phD l p) := by
  have hl10 := hl.1
  have hp4 := hp.1
  unfold f_upstream_CheckPhases phD
  refine W.bind (w_CheckInstances l hl) ?_
  rintro _ rfl
  simp only [D.list_n]
  refine W.cond (fun h => W.ret (by rw [h]; rfl)) (fun h => ?_)
  rw [h, cond_false]
  have hinc := insD_zero hl (by simpa using h)
  refine W.cond (fun h => W.ret (by rw [h]; rfl)) (fun h => ?_)
  rw [h, cond_false]
  refine W.bind (W.early p.length (fun j => [.n l, .n p, .n p, .i p.length, .i j]) (errAt (phF l p)) (1, []) (fun j hj hpr q rc g1 g2 => ?_) (fun rc => ?_)) ?_
  · unfold b_upstream_CheckPhases_0
    simp only [D.nth_zero, D.nth_succ, D.int_i, D.list_n, Int.toNat_natCast]
    obtain ⟨a, f, t, st, k, hx, ha⟩ := hp.2 _ (nth_mem hj)
    have hx0 : (D.nth p j).at' 0 = .s a := by rw [hx]; rfl
    have hid : idS (D.nth p j) = a := by unfold idS; rw [hx0]; rfl
    refine W.cond (fun _ => ?_) (fun h => by simp at h; omega)
    refine W.cond (fun _ => ?_) (fun h => by simp at h; omega)
    rw [hx0]
    refine W.bind (w_place l a hl hinc) ?_
    rintro _ ⟨i, rfl, _⟩
    simp only [D.nth_zero, D.nth_succ, D.bool_b, D.str_s]
    refine W.cond (fun hn => W.ret (g1 _ ?_)) (fun hn => ?_)
    · exact errAt_some (by simp only [phF, hid, hn, cond_true]) (by omega)
    simp only [p_kit_Outside, D.nth_zero, D.bool_b, D.int_i]
    refine W.cond (fun hb => W.ret (g1 _ ?_)) (fun hb => ?_)
    · have : rngB (D.nth p j) = true := hb
      exact errAt_some (by simp only [phF, hid, hn, this, cond_true, cond_false]) (by omega)
    have hb' : rngB (D.nth p j) = false := hb
    have e1 : IntKind.i64.wrap ((j : Int) + 1) = ((j + 1 : Nat) : Int) := by rw [wrap_i64 (by omega) (by omega)]; omega
    rw [e1]
    refine W.cond (fun hj0 => ?_) (fun hj0 => ?_)
    · have hj0' : j = 0 := by simpa using hj0
      subst hj0'
      exact g2 (errAt_none (by simp only [phF, hid, hn, hb', cond_false]; rfl))
    · have hjp : 0 < j := by
        rcases Nat.eq_zero_or_pos j with h | h
        · subst h; simp at hj0
        · exact h
      have hw : IntKind.i64.wrap ((j : Int) - 1) = ((j - 1 : Nat) : Int) := by rw [wrap_i64 (by omega) (by omega)]; omega
      have hg : gtI (j : Int) 0 = true := by simp; omega
      rw [hw]
      simp only [Int.toNat_natCast]
      refine W.cond (fun _ => ?_) (fun h => by simp at h; omega)
      have ho' : (bif Op.bytesLess a ((D.nth p (j - 1)).at' 0).str then true else (bif (a == ((D.nth p (j - 1)).at' 0).str) then ltI (((D.nth p j).at' 1).at' 0).int (((D.nth p (j - 1)).at' 1).at' 1).int else false)) = ordP0 p j := by unfold ordP0; rw [hid]; rfl
      rw [ho']
      refine W.cond (fun ho => W.ret (g1 _ ?_)) (fun ho => ?_)
      · exact errAt_some (by simp only [phF, hid, hn, hb', hg, ho, cond_true, cond_false]) (by omega)
      · exact g2 (errAt_none (by simp only [phF, hid, hn, hb', hg, ho, cond_true, cond_false]))
  · unfold b_upstream_CheckPhases_0
    simp only [D.nth_zero, D.nth_succ, D.int_i]
    exact W.cond (fun h => by simp at h) (fun _ => W.ret rfl)
  · rintro _ rfl
    generalize scan (errAt (phF l p)) (1, []) p.length 0 = r
    unfold errD
    exact W.cond (fun h => W.ret (by rw [h]; rfl)) (fun h => W.ret (by rw [h]; rfl))
theorem w_PhasesFault (l p : List D) (hl : InL l) (hp : PhL p) : W (fun K _ => f_gateref2_PhasesFault K (.n l) (.n p)) (fun r => r = phD l p) := by
  have hl10 := hl.1
  have hp4 := hp.1
  unfold f_gateref2_PhasesFault phD
  simp only [D.list_n]
  refine W.cond (fun h => W.ret (by rw [h]; rfl)) (fun h => ?_)
  rw [h, cond_false]
  refine W.bind (W.early p.length (fun j => [.n l, .n p, .n p, .i p.length, .i j]) (errAt (phF l p)) (1, []) (fun j hj hpr q rc g1 g2 => ?_) (fun rc => ?_)) ?_
  · unfold b_gateref2_PhasesFault_0
    simp only [D.nth_zero, D.nth_succ, D.int_i, D.list_n, Int.toNat_natCast]
    obtain ⟨a, f, t, st, k, hx, ha⟩ := hp.2 _ (nth_mem hj)
    have hx0 : (D.nth p j).at' 0 = .s a := by rw [hx]; rfl
    have hid : idS (D.nth p j) = a := by unfold idS; rw [hx0]; rfl
    refine W.cond (fun _ => ?_) (fun h => by simp at h; omega)
    refine W.cond (fun _ => ?_) (fun h => by simp at h; omega)
    rw [hx0]
    refine W.bind (w_InstanceAt l a hl) ?_
    rintro _ ⟨i, rfl, hi⟩
    simp only [D.nth_zero, D.int_i, D.str_s]
    rw [hi]
    refine W.cond (fun hn => W.ret (g1 _ ?_)) (fun hn => ?_)
    · exact errAt_some (by simp only [phF, hid, hn, cond_true]) (by omega)
    simp only [p_gateref2_in, D.nth_zero, D.bool_b, D.int_i, in_out]
    refine W.cond (fun hb => W.ret (g1 _ ?_)) (fun hb => ?_)
    · have : rngB (D.nth p j) = true := hb
      exact errAt_some (by simp only [phF, hid, hn, this, cond_true, cond_false]) (by omega)
    have hb' : rngB (D.nth p j) = false := hb
    have e1 : IntKind.i64.wrap ((j : Int) + 1) = ((j + 1 : Nat) : Int) := by rw [wrap_i64 (by omega) (by omega)]; omega
    rw [e1]
    rcases Nat.eq_zero_or_pos j with h0 | h0
    · subst h0
      have hg : gtI ((0 : Nat) : Int) 0 = false := by simp
      rw [hg]
      simp only [Bool.not_false, Bool.true_or, Bool.false_and, cond_true, cond_false]
      exact g2 (errAt_none (by simp only [phF, hid, hn, hb', hg, cond_false]))
    · have hw : IntKind.i64.wrap ((j : Int) - 1) = ((j - 1 : Nat) : Int) := by rw [wrap_i64 (by omega) (by omega)]; omega
      have hg : gtI (j : Int) 0 = true := by simp; omega
      have hin : inB ((j - 1 : Nat) : Int) p.length = true := inB_mk (by omega) (by omega)
      rw [hw, hin]
      simp only [Int.toNat_natCast, Bool.or_true, cond_true, hg]
      have ho' : (bif Op.bytesLess a ((D.nth p (j - 1)).at' 0).str then true else (bif (a == ((D.nth p (j - 1)).at' 0).str) then ltI (((D.nth p j).at' 1).at' 0).int (((D.nth p (j - 1)).at' 1).at' 1).int else false)) = ordP0 p j := by unfold ordP0; rw [hid]; rfl
      rw [ho']
      refine W.cond (fun ho => W.ret (g1 _ ?_)) (fun ho => ?_)
      · exact errAt_some (by simp only [phF, hid, hn, hb', hg, ho, cond_true, cond_false]) (by omega)
      · exact g2 (errAt_none (by simp only [phF, hid, hn, hb', hg, ho, cond_true, cond_false]))
  · unfold b_gateref2_PhasesFault_0
    simp only [D.nth_zero, D.nth_succ, D.int_i]
    exact W.cond (fun h => by simp at h) (fun _ => W.ret rfl)
  · rintro _ rfl
    generalize scan (errAt (phF l p)) (1, []) p.length 0 = r
    unfold errD
    exact W.cond (fun h => W.ret (by rw [h]; rfl)) (fun h => W.ret (by rw [h]; rfl))
/-! ### Setups -/
def setB (a b d e : Int) : Bool := bif (bif (bif (bif ltI a 1 then true else gtI a 5) then true else (bif ltI b 1 then true else gtI b 3600000)) then true else (bif ltI d 0 then true else gtI d e)) then true else gtI e 3600000
def bud3 (x : D) : Bool := bif (bif (bif ltI (x.at' 0).int 1 then true else gtI (x.at' 0).int 3600000) then true else (bif ltI (x.at' 1).int 0 then true else gtI (x.at' 1).int 300)) then true else (bif ltI (x.at' 2).int 0 then true else gtI (x.at' 2).int 1000)
def out4 (x : D) : Bool := bif (bif (bif (bif ltI (x.at' 0).int 1 then true else gtI (x.at' 0).int 100) then true else (bif ltI (x.at' 1).int 1 then true else gtI (x.at' 1).int (x.at' 2).int)) then true else gtI (x.at' 2).int 3600000) then true else (bif ltI (x.at' 3).int 0 then true else gtI (x.at' 3).int 1000)
theorem w_CheckBudget (x : D) : W (fun K _ => f_upstream_CheckBudget K x) (fun r => r = [.i (bif bud3 x then 1 else 0)]) := by
  unfold f_upstream_CheckBudget
  simp only [p_kit_Outside, D.nth_zero, D.bool_b, D.int_i]
  refine W.cond (fun h => W.ret ?_) (fun h => W.ret ?_)
  · have : bud3 x = true := h
    rw [this]; rfl
  · have : bud3 x = false := h
    rw [this]; rfl
theorem w_BudgetFault (x : D) : W (fun K _ => f_gateref2_BudgetFault K x) (fun r => r = [.i (bif bud3 x then 1 else 0)]) := by
  unfold f_gateref2_BudgetFault
  simp only [p_gateref2_in, D.nth_zero, D.bool_b, D.int_i, in_out]
  refine W.cond (fun h => W.ret ?_) (fun h => W.ret ?_)
  · have : bud3 x = true := h
    rw [this]; rfl
  · have : bud3 x = false := h
    rw [this]; rfl
theorem w_outliersFault (x : D) : W (fun K _ => f_upstream_outliersFault K x) (fun r => r = [.i (bif out4 x then 1 else 0)]) := by
  unfold f_upstream_outliersFault
  simp only [p_kit_Outside, D.nth_zero, D.bool_b, D.int_i]
  refine W.cond (fun h => W.ret ?_) (fun h => W.ret ?_)
  · have : out4 x = true := h
    rw [this]; rfl
  · have : out4 x = false := h
    rw [this]; rfl
theorem w_OutliersFault (x : D) : W (fun K _ => f_gateref2_OutliersFault K x) (fun r => r = [.i (bif out4 x then 1 else 0)]) := by
  unfold f_gateref2_OutliersFault
  simp only [p_gateref2_in, D.nth_zero, D.bool_b, D.int_i, in_out]
  refine W.cond (fun h => W.ret ?_) (fun h => W.ret ?_)
  · have : out4 x = true := h
    rw [this]; rfl
  · have : out4 x = false := h
    rw [this]; rfl
def setD (l : List D) (a b d e : Int) (bu ou : D) : List D := bif ((D.nth (insD l) 0).int != 0) then [D.nth (insD l) 0] else bif setB a b d e then [.i 1] else bif bud3 bu then [.i 1] else [.i (bif out4 ou then 1 else 0)]
theorem w_CheckSetup (l : List D) (hl : InL l) (a b d e : Int) (bu ou : D) : W (fun K _ => f_upstream_CheckSetup K (.n [.n l, .i a, .i b, .i d, .i e, bu, ou])) (fun r => r = setD l a b d e bu ou) := by
  unfold f_upstream_CheckSetup setD
  simp only [D.at_n, D.nth_zero, D.nth_succ]
  refine W.bind (w_CheckInstances l hl) ?_
  rintro _ rfl
  refine W.cond (fun h => W.ret (by rw [h]; rfl)) (fun h => ?_)
  rw [h, cond_false]
  simp only [p_kit_Outside, D.nth_zero, D.bool_b, D.int_i]
  refine W.cond (fun h => W.ret ?_) (fun h => ?_)
  · have : setB a b d e = true := h
    rw [this]; rfl
  have : setB a b d e = false := h
  rw [this, cond_false]
  refine W.bind (w_CheckBudget bu) ?_
  rintro _ rfl
  cases hb : bud3 bu with
  | true => exact W.cond (fun _ => W.ret rfl) (fun h => by simp at h)
  | false =>
    refine W.cond (fun h => by simp at h) (fun _ => ?_)
    refine W.bind (w_outliersFault ou) ?_
    rintro _ rfl
    exact W.ret rfl
theorem w_SetupFault (l : List D) (hl : InL l) (a b d e : Int) (bu ou : D) : W (fun K _ => f_gateref2_SetupFault K (.n [.n l, .i a, .i b, .i d, .i e, bu, ou])) (fun r => r = setD l a b d e bu ou) := by
  unfold f_gateref2_SetupFault setD
  simp only [D.at_n, D.nth_zero, D.nth_succ]
  refine W.bind (w_InstancesFault l hl) ?_
  rintro _ rfl
  refine W.cond (fun h => W.ret (by rw [h]; rfl)) (fun h => ?_)
  rw [h, cond_false]
  simp only [p_gateref2_in, D.nth_zero, D.bool_b, D.int_i, in_out]
  refine W.cond (fun h => W.ret ?_) (fun h => ?_)
  · have : setB a b d e = true := h
    rw [this]; rfl
  have : setB a b d e = false := h
  rw [this, cond_false]
  refine W.bind (w_BudgetFault bu) ?_
  rintro _ rfl
  cases hb : bud3 bu with
  | true => exact W.cond (fun _ => W.ret rfl) (fun h => by simp at h)
  | false =>
    refine W.cond (fun h => by simp at h) (fun _ => ?_)
    refine W.bind (w_OutliersFault ou) ?_
    rintro _ rfl
    exact W.ret rfl
/-! ### The law -/
theorem balanced : W (fun K _ => f_gatelaw2_balanced K) (· = [.b true]) :=
  ⟨_, rfl, 20, fun K _ hK _ => by obtain ⟨m, rfl⟩ : ∃ m, K = m + 20 := ⟨K - 20, by omega⟩; kernel_rfl⟩
theorem pure (zs : List Int) (h : zs.length ≤ maxLen) (hw : ∀ n ∈ zs, (Lit.int .i64 n).wf = true) : ∃ K, f_gatelaw2_DaysCheck K (.n (zs.map D.i)) = some [.b true] := by
  have : W (fun K _ => f_gatelaw2_DaysCheck K (.n (zs.map D.i))) (· = [.b true]) := by
    unfold f_gatelaw2_DaysCheck
    refine W.bind (w_Setup 0 _ ⟨_, 0, rfl, by omega, by omega⟩ (by omega)) ?_
    rintro _ ⟨a, b, d, e, bu, ou, s1, l, rfl, hbu, hou, hl, h1⟩
    simp only [D.nth_zero, D.nth_succ, D.list_n]
    refine W.bind (w_Calls _ 6 s1 h1 (by omega) (by omega) (by omega)) ?_
    rintro _ ⟨s2, c, rfl, hc, h2⟩
    simp only [D.nth_zero, D.nth_succ, D.list_n]
    refine W.bind (w_Phases _ s2 l hl h2 (by omega)) ?_
    rintro _ ⟨s3, p, rfl, hp, h3⟩
    simp only [D.nth_zero, D.nth_succ, D.list_n]
    refine W.bind (w_InstancesFault l hl) ?_
    rintro _ rfl
    refine W.bind (p := fun r => ∃ one, r = (0, [one, .i a, .i b, .i d, .i e, bu, ou, .n p, .n l]) ∧ one.int = (D.nth (bif ((D.nth (insD l) 0).int != 0) then [D.nth (insD l) 0] else phD l p) 0).int) ?_ ?_
    · unfold b_gatelaw2_DaysCheck_0
      simp only [D.nth_zero, D.nth_succ, D.list_n, D.bool_b]
      cases hz : ((D.nth (insD l) 0).int == (0 : Int)) with
      | true =>
        have hz' : ((D.nth (insD l) 0).int != (0 : Int)) = false := by simp only [bne, hz]; rfl
        rw [hz', cond_false]
        refine W.cond (fun _ => ?_) (fun h => by cases h)
        refine W.bind (w_PhasesFault l p hl hp) ?_
        rintro _ rfl
        exact W.ret ⟨_, rfl, rfl⟩
      | false =>
        have hz' : ((D.nth (insD l) 0).int != (0 : Int)) = true := by simp only [bne, hz]; rfl
        rw [hz', cond_true]
        exact W.cond (fun h => by cases h) (fun _ => W.ret ⟨_, rfl, rfl⟩)
    rintro _ ⟨one, rfl, hone⟩
    simp only [D.nth_zero, D.nth_succ, D.list_n]
    refine W.bind (w_CheckSetup l hl a b d e bu ou) ?_
    rintro _ rfl
    refine W.bind (w_SetupFault l hl a b d e bu ou) ?_
    rintro _ rfl
    refine W.cond (fun _ => ?_) (fun h => by simp at h)
    refine W.bind (w_CheckCalls c hc) ?_
    rintro _ rfl
    refine W.bind (w_CallsFault c hc) ?_
    rintro _ rfl
    refine W.cond (fun _ => ?_) (fun h => by simp at h)
    refine W.bind (w_CheckPhases l p hl hp) ?_
    rintro _ rfl
    rw [hone]
    refine W.cond (fun _ => ?_) (fun h => by simp at h)
    refine W.bind balanced ?_
    rintro _ rfl
    exact W.ret rfl
  obtain ⟨K, r, h1, rfl⟩ := this.get
  exact ⟨K, h1⟩
end Go.Proofs.YtlogmjgkbfahjaaP
