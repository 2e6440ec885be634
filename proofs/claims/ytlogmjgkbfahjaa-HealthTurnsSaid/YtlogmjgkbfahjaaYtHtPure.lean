/- The plain law: what the printed functions come to. -/
import Derived.Test.YtlogmjgkbfahjaaYtHt
import Derived.Test.YtlogmjgkbfahjaaEvPure
namespace Go.Proofs.YtlogmjgkbfahjaaP
open Go Go.Ev
set_option linter.unusedVariables false
set_option linter.unusedSimpArgs false
/-! ### The stream of numbers -/
def St (c : Int) (s : D) : Prop := ∃ L at', s = .n [L, .i at'] ∧ 0 ≤ at' ∧ at' ≤ c
theorem St.le {c c' : Int} {s : D} (h : St c s) (hc : c ≤ c') : St c' s := let ⟨L, a, h1, h2, h3⟩ := h; ⟨L, a, h1, h2, by omega⟩
theorem w_Below (x n : D) (hn : n.int ≤ 4611686018427387904) : W (fun K _ => f_gatemake_Below K x n) (fun r => ∃ i, r = [.i i] ∧ 0 ≤ i ∧ (1 ≤ n.int → i < n.int)) := by
  unfold f_gatemake_Below
  refine W.cond (fun h => ?_) (fun h => ?_)
  · simp at h
    exact W.ret ⟨0, rfl, by omega, by omega⟩
  · simp at h
    have h1 := Int.tmod_lt_of_pos x.int (show 0 < n.int by omega)
    have h2 := Int.lt_tmod_of_pos x.int (show 0 < n.int by omega)
    refine W.cond (fun _ => ?_) (fun h' => by simp at h'; omega)
    refine W.cond (fun h' => ?_) (fun h' => ?_)
    · simp at h'
      rw [wrap_i64 (by omega) (by omega)]
      exact W.ret ⟨_, rfl, by omega, fun _ => by omega⟩
    · simp at h'
      exact W.ret ⟨_, rfl, by omega, fun _ => by omega⟩
theorem w_Next (c : Int) (n s : D) (hs : St c s) (hc : c ≤ 1000000000000) (hn : n.int ≤ 4611686018427387904) : W (fun K _ => f_gatemake_Stream_Next K n s) (fun r => ∃ i s', r = [.i i, s'] ∧ 0 ≤ i ∧ (1 ≤ n.int → i < n.int) ∧ St (c + 1) s') := by
  obtain ⟨L, a, rfl, h1, h2⟩ := hs
  unfold f_gatemake_Stream_Next
  simp only [D.at_n, D.nth_zero, D.nth_succ, D.int_i]
  have e1 : IntKind.i64.wrap (a + 1) = a + 1 := wrap_i64 (by omega) (by omega)
  have e2 : IntKind.i64.wrap (a + 1 - 1) = a := by rw [wrap_i64 (by omega) (by omega)]; omega
  simp only [e1, e2]
  have hfin : ∀ i : Int, 0 ≤ i → (1 ≤ n.int → i < n.int) → W (fun _ _ => some [D.i i, D.n [L, D.i (a + 1)]]) (fun r => ∃ i s', r = [.i i, s'] ∧ 0 ≤ i ∧ (1 ≤ n.int → i < n.int) ∧ St (c + 1) s') := fun i h3 h4 => W.ret ⟨i, _, rfl, h3, h4, L, a + 1, rfl, by omega, by omega⟩
  refine W.cond (fun h => ?_) (fun h => ?_)
  · refine W.bind (w_Below _ n hn) ?_
    rintro _ ⟨i, rfl, h3, h4⟩
    exact hfin i h3 h4
  · have hL : 0 < L.list.length := by
      simp only [beq_eq_false_iff_ne, ne_eq] at h
      omega
    refine W.cond (fun _ => ?_) (fun h' => by simp at h'; simp [h'] at hL)
    refine W.cond (fun _ => ?_) (fun h' => by simp at h'; simp [h'] at hL)
    have h5 := Int.tmod_nonneg (L.list.length : Int) h1
    have h6 := Int.tmod_lt_of_pos a (show 0 < (L.list.length : Int) by omega)
    refine W.cond (fun _ => ?_) (fun h' => by simp [inB] at h'; omega)
    refine W.bind (w_Below _ (.i 1073741824) (by simp)) ?_
    rintro _ ⟨i, rfl, _, _⟩
    refine W.bind (w_Below _ n hn) ?_
    rintro _ ⟨j, rfl, h3, h4⟩
    exact hfin j h3 h4
theorem w_Flip (c : Int) (n s : D) (hs : St c s) (hc : c ≤ 1000000000000) (hn : n.int ≤ 4611686018427387904) : W (fun K _ => f_gatemake_Stream_Flip K n s) (fun r => ∃ b s', r = [.b b, s'] ∧ St (c + 1) s') := by
  unfold f_gatemake_Stream_Flip
  refine W.bind (w_Next c n s hs hc hn) ?_
  rintro _ ⟨i, s', rfl, _, _, h⟩
  exact W.ret ⟨_, s', rfl, h⟩
theorem nth_mem : ∀ {l : List D} {j : Nat}, j < l.length → D.nth l j ∈ l
  | a :: l, 0, _ => by simp
  | a :: l, j + 1, h => by simp only [D.nth_succ]; exact List.mem_cons_of_mem _ (nth_mem (by simpa using h))
/-- One of some numbers (or other data). -/
theorem w_Pick (c : Int) (s : D) (l : List D) (hs : St c s) (hc : c ≤ 1000000000000) (hl : l ≠ []) (hl2 : l.length ≤ 1000000) : W (fun K _ => f_gatemake_Stream_Pick K s (.n l)) (fun r => ∃ x s' t, r = [x, s', t] ∧ x ∈ l ∧ St (c + 1) s') := by
  unfold f_gatemake_Stream_Pick
  have : 0 < l.length := List.length_pos_iff.2 hl
  refine W.bind (w_Next c _ s hs hc (by simp; omega)) ?_
  rintro _ ⟨i, s', rfl, h1, h2, h3⟩
  simp only [D.int_i, D.list_n] at h2
  have h2 := h2 (by omega)
  refine W.cond (fun h => ?_) (fun h => absurd (inB_mk h1 h2) (by rw [D.nth_zero, D.int_i, D.list_n] at h; rw [h]; simp))
  exact W.ret ⟨_, s', _, rfl, nth_mem (show i.toNat < l.length by omega), h3⟩
theorem w_Range (c : Int) (lo hi : Int) (s : D) (hs : St c s) (hc : c ≤ 1000000000000) (h1 : 0 ≤ lo) (h2 : hi ≤ 1000000000000) : W (fun K _ => f_gatemake_Stream_Range K (.i lo) (.i hi) s) (fun r => ∃ x s', r = [.i x, s'] ∧ lo ≤ x ∧ (lo ≤ hi → x ≤ hi) ∧ St (c + 1) s') := by
  unfold f_gatemake_Stream_Range
  refine W.cond (fun h => ?_) (fun h => ?_)
  · simp at h
    exact W.ret ⟨lo, s, rfl, by omega, by omega, hs.le (by omega)⟩
  · simp at h
    have e1 : IntKind.i64.wrap (hi - lo) = hi - lo := wrap_i64 (by omega) (by omega)
    have e2 : IntKind.i64.wrap (hi - lo + 1) = hi - lo + 1 := wrap_i64 (by omega) (by omega)
    simp only [D.int_i, e1, e2]
    refine W.bind (w_Next c _ s hs hc (by simp; omega)) ?_
    rintro _ ⟨i, s', rfl, h3, h4, h5⟩
    simp only [D.int_i] at h4
    have h4 := h4 (by omega)
    simp only [D.nth_zero, D.nth_succ, D.int_i]
    rw [wrap_i64 (by omega) (by omega)]
    exact W.ret ⟨_, s', rfl, by omega, fun _ => by omega, h5⟩
theorem w_Odd (c : Int) (lo hi : Int) (s : D) (hs : St c s) (hc : c ≤ 999999999990) (h1 : 0 ≤ lo) (h0 : lo ≤ hi) (h2 : hi ≤ 1000000000000) : W (fun K _ => f_gatemake_Stream_Odd K (.i lo) (.i hi) s) (fun r => ∃ x s', r = [.i x, s'] ∧ -2000000000000 ≤ x ∧ x ≤ 2000000000000 ∧ St (c + 2) s') := by
  unfold f_gatemake_Stream_Odd
  refine W.bind (w_Flip c _ s hs (by omega) (by simp)) ?_
  rintro _ ⟨b, s', rfl, h3⟩
  simp only [D.nth_zero, D.nth_succ, D.bool_b]
  have e1 : IntKind.i64.wrap (lo - 1) = lo - 1 := wrap_i64 (by omega) (by omega)
  have e2 : IntKind.i64.wrap (hi + 1) = hi + 1 := wrap_i64 (by omega) (by omega)
  simp only [D.int_i, e1, e2]
  refine W.cond (fun _ => ?_) (fun _ => ?_)
  · refine W.bind (w_Pick (c + 1) s' _ h3 (by omega) (by simp) (by simp)) ?_
    rintro _ ⟨x, s2, t, rfl, hx, h4⟩
    simp only [List.mem_cons, List.not_mem_nil, or_false] at hx
    rcases hx with rfl | rfl | rfl | rfl | rfl | rfl <;> exact W.ret ⟨_, s2, rfl, by omega, by omega, h4.le (by omega)⟩
  · refine W.bind (w_Range (c + 1) lo hi s' h3 (by omega) h1 h2) ?_
    rintro _ ⟨x, s2, rfl, h4, h5, h6⟩
    exact W.ret ⟨x, s2, rfl, by omega, by have := h5 h0; omega, h6.le (by omega)⟩
/-! ### Keys -/
def smallC (c : UInt8) : Bool := bif leI 97 c.toNat then leI c.toNat 122 else false
def digitC (c : UInt8) : Bool := bif leI 48 c.toNat then leI c.toNat 57 else false
def restC (c : UInt8) : Bool := smallC c || (digitC c || (((c.toNat : Int) == 45) || ((c.toNat : Int) == 95)))
def smallL : List UInt8 := [97, 98, 99, 100, 101, 102, 103, 104, 105, 106, 107, 108, 109, 110, 111, 112, 113, 114, 115, 116, 117, 118, 119, 120, 121, 122]
def restL : List UInt8 := [97, 98, 99, 100, 101, 102, 103, 104, 105, 106, 107, 108, 109, 110, 111, 112, 113, 114, 115, 116, 117, 118, 119, 120, 121, 122, 48, 49, 50, 51, 52, 53, 54, 55, 56, 57, 45, 95]
def keyB (s : List UInt8) : Bool := (leI 1 s.length && leI s.length 40) && ((s.take 1).all smallC && s.all restC)
theorem small_cls (c : UInt8) : (!ltI (Lib.indexByte smallL c) 0) = smallC c := by
  have := all256 (p := fun c => (!ltI (Lib.indexByte smallL c) 0) == smallC c) (by kernel_rfl) c
  simpa using this
theorem rest_cls (c : UInt8) : (!ltI (Lib.indexByte restL c) 0) = restC c := by
  have := all256 (p := fun c => (!ltI (Lib.indexByte restL c) 0) == restC c) (by kernel_rfl) c
  simpa using this
theorem w_only (s l : List UInt8) (hs : s.length ≤ 1000000000000) : W (fun K _ => f_gateref2_only K (.s s) (.s l)) (fun r => r = [.b (s.all fun c => !ltI (Lib.indexByte l c) 0)]) := by
  unfold f_gateref2_only
  refine W.bind (W.early s.length (fun j => [.s s, .s l, .i s.length, .i j]) (fun j => bif !ltI (Lib.indexByte l (s.getD j 0)) 0 then none else some (0, [.b false])) (1, []) (fun j hj hp p rc h1 h2 => ?_) (fun rc => ?_)) ?_
  · unfold b_gateref2_only_0
    simp only [D.nth_zero, D.nth_succ, D.str_s, D.int_i, Int.toNat_natCast]
    refine W.cond (fun _ => ?_) (fun h => by simp at h; omega)
    refine W.cond (fun _ => ?_) (fun h => by simp at h; omega)
    simp only [p_strings_IndexByte, p_stringslite_IndexByte, p_bytealg_IndexByteString, D.nth_zero, D.int_i, D.str_s, byteAt_getD, toUInt8_byte]
    refine W.cond (fun h => W.ret (h1 _ (by rw [h]; rfl))) (fun h => ?_)
    rw [wrap_i64 (by omega) (by omega)]
    exact h2 (by rw [h]; rfl)
  · unfold b_gateref2_only_0
    simp only [D.nth_zero, D.nth_succ, D.str_s, D.int_i]
    exact W.cond (fun h => by simp at h) (fun _ => W.ret rfl)
  · rintro _ rfl
    rw [scan_all s (fun c => !ltI (Lib.indexByte l c) 0)]
    cases s.all fun c => !ltI (Lib.indexByte l c) 0 with
    | true => exact W.ret rfl
    | false => exact W.ret rfl
theorem w_Key (s : List UInt8) (hs : s.length ≤ 1000000000000) : W (fun K _ => f_gateref2_Key K (.s s)) (fun r => r = [.b (keyB s)]) := by
  unfold f_gateref2_Key
  simp only [p_gateref2_in, D.nth_zero, D.bool_b, D.int_i, D.str_s]
  refine W.cond (fun _ => ?_) (fun h => ?_)
  · refine W.cond (fun h => ?_) (fun h => W.ret ?_)
    · have h0 : (leI 1 s.length && leI s.length 40) = true := by cases h1 : leI 1 (s.length : Int) <;> cases h2 : leI (s.length : Int) 40 <;> simp_all
      refine W.bind (w_only (s.take 1) smallL (by rw [List.length_take]; omega)) ?_
      rintro _ rfl
      simp only [small_cls, D.nth_zero, D.bool_b]
      refine W.cond (fun h1 => ?_) (fun h1 => W.ret ?_)
      · refine W.bind (w_only s restL hs) ?_
        rintro _ rfl
        simp only [rest_cls, D.nth_zero, D.bool_b]
        exact W.ret (by simp only [keyB, h0, h1, Bool.true_and])
      · simp only [keyB, h0, h1, Bool.true_and, Bool.false_and]
    · have h0 : (leI 1 s.length && leI s.length 40) = false := by cases h1 : leI 1 (s.length : Int) <;> cases h2 : leI (s.length : Int) 40 <;> simp_all
      simp only [keyB, h0, Bool.false_and]
  · cases h1 : leI 1 (s.length : Int) <;> cases h2 : leI (s.length : Int) 40 <;> simp_all
    omega
def badK (s : List UInt8) (j : Nat) : Bool := !(bif smallC (s.getD j 0) then true else (bif gtI j 0 then restC (s.getD j 0) else false))
theorem keyB_scan (s : List UInt8) (h : ∀ j, j < s.length → badK s j = false) : keyB s = (!(s == []) && leI s.length 40) := by
  cases s with
  | nil => rfl
  | cons a t =>
    have h0 := h 0 (by simp)
    have ha : smallC a = true := by
      simp only [badK, List.getD_cons_zero] at h0
      cases hc : smallC a with
      | true => rfl
      | false => rw [hc] at h0; simp [gtI] at h0
    have hall : (a :: t).all restC = true := by
      rw [all_getD]
      intro j hj
      have := h j hj
      simp only [badK] at this
      cases hc : smallC ((a :: t).getD j 0) with
      | true => simp only [restC, hc, Bool.true_or]
      | false =>
        rw [hc] at this
        cases hg : gtI (j : Int) 0 with
        | false => rw [hg] at this; simp at this
        | true => rw [hg] at this; simpa using this
    have h1 : leI 1 ((a :: t).length : Int) = true := by simp; omega
    have h2 : (a :: t).take 1 = [a] := rfl
    have h3 : ((a :: t) == []) = false := rfl
    simp only [keyB, hall, h1, h2, h3, List.all_cons, List.all_nil, ha, Bool.true_and, Bool.and_true, Bool.not_false]
theorem keyB_bad (s : List UInt8) (j : Nat) (hj : j < s.length) (h : badK s j = true) : keyB s = false := by
  cases s with
  | nil => simp at hj
  | cons a t =>
    cases j with
    | zero =>
      simp only [badK, List.getD_cons_zero] at h
      cases hc : smallC a with
      | true => rw [hc] at h; simp at h
      | false => simp [keyB, hc]
    | succ j =>
      have hr : restC ((a :: t).getD (j + 1) 0) = false := by
        simp only [badK] at h
        have hg : gtI ((j + 1 : Nat) : Int) 0 = true := by simp
        rw [hg] at h
        cases hc : smallC ((a :: t).getD (j + 1) 0) with
        | true => rw [hc] at h; simp at h
        | false => rw [hc] at h; simpa using h
      have : (a :: t).all restC = false := by
        rw [← Bool.not_eq_true, all_getD]
        intro hall
        rw [hall (j + 1) hj] at hr
        cases hr
      simp only [keyB, this, Bool.and_false]
theorem w_IsKey (s : List UInt8) (hs : s.length ≤ 1000000000000) : W (fun K _ => f_kit_IsKey K (.s s)) (fun r => r = [.b (keyB s)]) := by
  unfold f_kit_IsKey
  refine W.bind (W.early s.length (fun j => [.s s, .i j]) (fun j => bif badK s j then some (0, [.b false]) else none) (1, []) (fun j hj hp p rc h1 h2 => ?_) (fun rc => ?_)) ?_
  · unfold b_kit_IsKey_0
    simp only [D.nth_zero, D.nth_succ, D.str_s, D.int_i, Int.toNat_natCast, byteAt_getD]
    refine W.cond (fun _ => ?_) (fun h => by simp at h; omega)
    refine W.cond (fun _ => ?_) (fun h => by simp at h; omega)
    have e : (!(bif (bif (geI ((s.getD j 0).toNat : Int) 97) then (leI ((s.getD j 0).toNat : Int) 122) else false) then true else (bif (gtI (j : Int) 0) then (bif (bif (bif (geI ((s.getD j 0).toNat : Int) 48) then (leI ((s.getD j 0).toNat : Int) 57) else false) then true else (((s.getD j 0).toNat : Int) == (45 : Int))) then true else (((s.getD j 0).toNat : Int) == (95 : Int))) else false))) = badK s j := by
      simp only [badK, restC, smallC, digitC, geI, leI, gtI]
      generalize ((s.getD j 0).toNat : Int) = x
      generalize (j : Int) = y
      cases hd1 : decide (x ≥ 97) <;> cases hd2 : decide (x ≤ 122) <;> cases hd3 : decide (x ≥ 48) <;> cases hd4 : decide (x ≤ 57) <;> cases hd5 : decide (y > 0) <;> cases hd6 : x == 45 <;> cases hd7 : x == 95 <;> simp_all
    rw [e]
    refine W.cond (fun h => W.ret (h1 _ (by rw [h]; rfl))) (fun h => ?_)
    rw [wrap_i64 (by omega) (by omega)]
    exact h2 (by rw [h]; rfl)
  · unfold b_kit_IsKey_0
    simp only [D.nth_zero, D.nth_succ, D.str_s, D.int_i]
    exact W.cond (fun h => by simp at h) (fun _ => W.ret rfl)
  · rintro _ rfl
    rcases scan_cases (fun j => bif badK s j then some (0, [D.b false]) else none) ((1, []) : Nat × List D) s.length 0 with ⟨i, r, h1, h2, h3, h4, h5⟩ | ⟨h1, h2⟩
    · rw [h4]
      cases hb : badK s i with
      | false => rw [hb] at h3; simp at h3
      | true =>
        rw [hb] at h3
        simp only [cond_true, Option.some.injEq] at h3
        subst h3
        exact W.ret (by rw [keyB_bad s i (by omega) hb]; rfl)
    · rw [h2]
      refine W.ret ?_
      rw [keyB_scan s fun j hj => ?_]
      · simp only [D.str_s]
        cases h3 : s == [] <;> rfl
      · have := h1 j (Nat.zero_le _) (by omega)
        cases hb : badK s j with
        | false => rfl
        | true => rw [hb] at this; simp at this
/-- One of some strings (or other data). -/
theorem w_Some (c : Int) (s : D) (l : List D) (hs : St c s) (hc : c ≤ 1000000000000) (hl : l ≠ []) (hl2 : l.length ≤ 1000000) : W (fun K _ => f_gatemake_Stream_Some K s (.n l)) (fun r => ∃ x s' t, r = [x, s', t] ∧ x ∈ l ∧ St (c + 1) s') := by
  unfold f_gatemake_Stream_Some
  have : 0 < l.length := List.length_pos_iff.2 hl
  refine W.bind (w_Next c _ s hs hc (by simp; omega)) ?_
  rintro _ ⟨i, s', rfl, h1, h2, h3⟩
  simp only [D.int_i, D.list_n] at h2
  have h2 := h2 (by omega)
  refine W.cond (fun h => ?_) (fun h => absurd (inB_mk h1 h2) (by rw [D.nth_zero, D.int_i, D.list_n] at h; rw [h]; simp))
  exact W.ret ⟨_, s', _, rfl, nth_mem (show i.toNat < l.length by omega), h3⟩
/-! ### Instances -/
def In (x : D) : Prop := ∃ a w, x = .n [.s a, .i w] ∧ a.length ≤ 1000
def InL (l : List D) : Prop := l.length ≤ 10 ∧ ∀ x ∈ l, In x
theorem InL.nth {l : List D} {j : Nat} (h : InL l) (hj : j < l.length) : ∃ a w, D.nth l j = .n [.s a, .i w] ∧ a.length ≤ 1000 ∧ (D.nth l j).at' 0 = .s a ∧ (D.nth l j).at' 1 = .i w := by
  obtain ⟨a, w, h1, h2⟩ := h.2 _ (nth_mem hj)
  exact ⟨a, w, h1, h2, by rw [h1]; rfl, by rw [h1]; rfl⟩
def idS (x : D) : List UInt8 := (x.at' 0).str
def ordI (l : List D) (j : Nat) : Bool := bif gtI (j : Int) 0 then (Op.bytesLess (idS (D.nth l j)) (idS (D.nth l (j - 1))) || (idS (D.nth l j) == idS (D.nth l (j - 1)))) else false
def wB (x : D) : Bool := bif ltI (x.at' 1).int 1 then true else gtI (x.at' 1).int 100
def insF (l : List D) (j : Nat) : Int := bif !keyB (idS (D.nth l j)) then 5 else bif ordI l j then 7 else bif wB (D.nth l j) then 1 else 0
def errAt (F : Nat → Int) (j : Nat) : Option (Nat × List D) := bif F j != 0 then some (0, [.i (F j)]) else none
def insR (l : List D) : Nat × List D := scan (errAt (insF l)) (1, []) l.length 0
def errD (r : Nat × List D) : List D := bif r.1.beq 0 then [D.nth r.2 0] else [.i 0]
def insD (l : List D) : List D := bif gtI (l.length : Int) 50 then [.i 2] else errD (insR l)
theorem errAt_some {F : Nat → Int} {j : Nat} {n : Int} (h : F j = n) (hn : n ≠ 0) : errAt F j = some (0, [.i n]) := by
  have : (n != 0) = true := by simpa using hn
  simp only [errAt, h, this, cond_true]
theorem errAt_none {F : Nat → Int} {j : Nat} (h : F j = 0) : errAt F j = none := by simp only [errAt, h]; rfl
theorem errAt_none_iff {F : Nat → Int} {j : Nat} (h : errAt F j = none) : F j = 0 := by
  unfold errAt at h
  cases h1 : F j != 0 with
  | true => rw [h1] at h; cases h
  | false => simpa using h1
theorem keyB_ne {s : List UInt8} (h : keyB s = true) : s ≠ [] := by
  rintro rfl
  simp [keyB, leI] at h
theorem w_CheckInstances (l : List D) (hl : InL l) : W (fun K _ => f_upstream_CheckInstances K (.n l)) (fun r => r = insD l) := by
  have hl10 := hl.1
  unfold f_upstream_CheckInstances insD
  simp only [D.list_n]
  refine W.cond (fun h => W.ret (by rw [h]; rfl)) (fun h => ?_)
  rw [h, cond_false]
  refine W.bind (W.early l.length (fun j => [.n l, .n l, .i l.length, .i j]) (errAt (insF l)) (1, []) (fun j hj hp p rc g1 g2 => ?_) (fun rc => ?_)) ?_
  · unfold b_upstream_CheckInstances_0
    simp only [D.nth_zero, D.nth_succ, D.int_i, D.list_n, Int.toNat_natCast]
    obtain ⟨a, w, hx, ha, h0, h1⟩ := hl.nth hj
    have hid : idS (D.nth l j) = a := by unfold idS; rw [h0]; rfl
    refine W.cond (fun _ => ?_) (fun h => by simp at h; omega)
    refine W.cond (fun _ => ?_) (fun h => by simp at h; omega)
    rw [h0]
    refine W.bind (w_IsKey a (by omega)) ?_
    rintro _ rfl
    simp only [D.nth_zero, D.bool_b, D.str_s]
    refine W.cond (fun hk => W.ret (g1 _ ?_)) (fun hk => ?_)
    · exact errAt_some (by simp only [insF, hid, hk, cond_true]) (by omega)
    have hw : IntKind.i64.wrap ((j : Int) - 1) = (j : Int) - 1 := wrap_i64 (by omega) (by omega)
    have hn : ((j : Int) - 1).toNat = j - 1 := by omega
    rw [hw, hn]
    have hord : (bif gtI (j : Int) 0 then (Op.bytesLess a ((D.nth l (j - 1)).at' 0).str || (a == ((D.nth l (j - 1)).at' 0).str)) else false) = ordI l j := by unfold ordI; rw [hid]; rfl
    rw [hord]
    refine W.cond (fun _ => ?_) (fun h => by simp at h; omega)
    refine W.cond (fun ho => W.ret (g1 _ ?_)) (fun ho => ?_)
    · exact errAt_some (by simp only [insF, hid, hk, ho, cond_true, cond_false]) (by omega)
    simp only [p_kit_Outside, D.nth_zero, D.bool_b, D.int_i]
    refine W.cond (fun hb => W.ret (g1 _ ?_)) (fun hb => ?_)
    · have : wB (D.nth l j) = true := hb
      exact errAt_some (by simp only [insF, hid, hk, ho, this, cond_true, cond_false]) (by omega)
    · have : wB (D.nth l j) = false := hb
      rw [wrap_i64 (x := (j : Int) + 1) (by omega) (by omega)]
      exact g2 (errAt_none (by simp only [insF, hid, hk, ho, this, cond_false]))
  · unfold b_upstream_CheckInstances_0
    simp only [D.nth_zero, D.nth_succ, D.int_i]
    exact W.cond (fun h => by simp at h) (fun _ => W.ret rfl)
  · rintro _ rfl
    show W (fun _ _ => bif (insR l).1.beq 0 then some [D.nth (insR l).2 0] else some [.i 0]) _
    unfold errD
    exact W.cond (fun h => W.ret (by rw [h]; rfl)) (fun h => W.ret (by rw [h]; rfl))
theorem w_InstancesFault (l : List D) (hl : InL l) : W (fun K _ => f_gateref2_InstancesFault K (.n l)) (fun r => r = insD l) := by
  have hl10 := hl.1
  unfold f_gateref2_InstancesFault insD
  simp only [D.list_n]
  refine W.cond (fun h => W.ret (by rw [h]; rfl)) (fun h => ?_)
  rw [h, cond_false]
  refine W.bind (W.early l.length (fun j => [bif j.beq 0 then .s [] else (D.nth l (j - 1)).at' 0, .n l, .i l.length, .i j]) (errAt (insF l)) (1, []) (fun j hj hp p rc g1 g2 => ?_) (fun rc => ?_)) ?_
  · unfold b_gateref2_InstancesFault_0
    simp only [D.nth_zero, D.nth_succ, D.int_i, D.list_n, Int.toNat_natCast]
    obtain ⟨a, w, hx, ha, h0, h1⟩ := hl.nth hj
    have hid : idS (D.nth l j) = a := by unfold idS; rw [h0]; rfl
    refine W.cond (fun _ => ?_) (fun h => by simp at h; omega)
    refine W.cond (fun _ => ?_) (fun h => by simp at h; omega)
    rw [h0]
    refine W.bind (w_Key a (by omega)) ?_
    rintro _ rfl
    simp only [D.nth_zero, D.bool_b, D.str_s]
    refine W.cond (fun hk => W.ret (g1 _ ?_)) (fun hk => ?_)
    · exact errAt_some (by simp only [insF, hid, hk, cond_true]) (by omega)
    have hkey : keyB a = true := by simpa using hk
    have hord : (Op.bytesLess a (bif j.beq 0 then D.s [] else (D.nth l (j - 1)).at' 0).str || (a == (bif j.beq 0 then D.s [] else (D.nth l (j - 1)).at' 0).str)) = ordI l j := by
      unfold ordI
      rw [hid]
      cases j with
      | zero =>
        have : (a == ([] : List UInt8)) = false := by simpa using keyB_ne hkey
        simp [less_nil, this]
      | succ j =>
        have hg : gtI ((j + 1 : Nat) : Int) 0 = true := by simp
        rw [hg]
        rfl
    rw [hord]
    refine W.cond (fun ho => W.ret (g1 _ ?_)) (fun ho => ?_)
    · exact errAt_some (by simp only [insF, hid, hk, ho, cond_true, cond_false]) (by omega)
    simp only [p_gateref2_in, D.nth_zero, D.bool_b, D.int_i, in_out]
    refine W.cond (fun hb => W.ret (g1 _ ?_)) (fun hb => ?_)
    · have : wB (D.nth l j) = true := hb
      exact errAt_some (by simp only [insF, hid, hk, ho, this, cond_true, cond_false]) (by omega)
    · have : wB (D.nth l j) = false := hb
      rw [wrap_i64 (x := (j : Int) + 1) (by omega) (by omega)]
      have h2 := g2 (errAt_none (by simp only [insF, hid, hk, ho, this, cond_false]))
      simp only [Nat.beq, Nat.add_sub_cancel, cond_false, h0] at h2
      exact h2
  · unfold b_gateref2_InstancesFault_0
    simp only [D.nth_zero, D.nth_succ, D.int_i]
    exact W.cond (fun h => by simp at h) (fun _ => W.ret rfl)
  · rintro _ rfl
    show W (fun _ _ => bif (insR l).1.beq 0 then some [D.nth (insR l).2 0] else some [.i 0]) _
    unfold errD
    exact W.cond (fun h => W.ret (by rw [h]; rfl)) (fun h => W.ret (by rw [h]; rfl))
/-- Right instances stand in the order of their keys. -/
theorem insD_zero {l : List D} (hl : InL l) (h : (D.nth (insD l) 0).int = 0) : Inc idS l := by
  have hl10 := hl.1
  have hg : gtI (l.length : Int) 50 = false := by simp; omega
  unfold insD at h
  rw [hg, cond_false] at h
  rcases scan_cases (errAt (insF l)) (1, []) l.length 0 with ⟨i, r, h1, h2, h3, h4, h5⟩ | ⟨h1, h2⟩
  · exfalso
    unfold insR at h
    rw [h4] at h
    unfold errAt at h3
    cases hc : insF l i != 0 with
    | false => rw [hc] at h3; cases h3
    | true =>
      rw [hc] at h3
      cases h3
      have : insF l i = 0 := h
      simp [this] at hc
  · intro j hj0 hj
    have hz := errAt_none_iff (h1 j (Nat.zero_le _) (by omega))
    have ho : ordI l j = false := by
      unfold insF at hz
      cases hk : !keyB (idS (D.nth l j)) <;> rw [hk] at hz <;> simp at hz
      cases ho : ordI l j with
      | false => rfl
      | true => rw [ho] at hz; simp at hz
    unfold ordI at ho
    have hg : gtI (j : Int) 0 = true := by simp; omega
    rw [hg, cond_true, Bool.or_eq_false_iff] at ho
    exact less_total ho.1 (by simpa using ho.2)
theorem any_inc {l : List D} (h : Inc idS l) {i : Nat} {key : List UInt8} (hi : i ≤ l.length) (h1 : ∀ p, p < i → Op.bytesLess (idS (D.nth l p)) key = true) (h2 : ∀ p, i ≤ p → p < l.length → Op.bytesLess (idS (D.nth l p)) key = false) :
    (l.any fun x => idS x == key) = (decide (i < l.length) && (idS (D.nth l i) == key)) := by
  rw [Bool.eq_iff_iff, any_nth]
  simp only [Bool.and_eq_true, decide_eq_true_eq, beq_iff_eq]
  constructor
  · rintro ⟨j, hj, he⟩
    have hij : i ≤ j := by
      rcases Nat.lt_or_ge j i with h3 | h3
      · have := h1 j h3
        rw [he, less_irrefl] at this
        cases this
      · exact h3
    rcases Nat.lt_or_eq_of_le hij with h3 | h3
    · have := h.lt h3 hj
      rw [he, h2 i (Nat.le_refl _) (by omega)] at this
      cases this
    · subst h3; exact ⟨hj, he⟩
  · rintro ⟨hj, he⟩
    exact ⟨i, hj, he⟩
/-! ### Instances that are drawn -/
theorem In.set0 {x : D} (h : In x) {a : List UInt8} (ha : a.length ≤ 1000) : In (.n (D.setNth x.list 0 (.s a))) := by
  obtain ⟨b, w, rfl, _⟩ := h
  exact ⟨a, w, rfl, ha⟩
theorem In.set1 {x : D} (h : In x) {w : Int} : In (.n (D.setNth x.list 1 (.i w))) := by
  obtain ⟨b, w', rfl, hb⟩ := h
  exact ⟨b, w, rfl, hb⟩
theorem InL.set {l : List D} {j : Nat} {x : D} (h : InL l) (hj : j < l.length) (hx : In x) : InL (D.setNth l j x) := by
  rw [setNth_eq _ hj]
  refine ⟨by simpa using h.1, fun y hy => ?_⟩
  rcases List.mem_or_eq_of_mem_set hy with hy | hy
  · exact h.2 y hy
  · subst hy; exact hx
theorem w_RightInstances (c : Int) (s : D) (hs : St c s) (hc : c ≤ 999999999900) : W (fun K _ => f_gatemake_Stream_RightInstances K s) (fun r => ∃ s' l, r = [s', .n l] ∧ InL l ∧ 0 < l.length ∧ St (c + 10) s') := by
  unfold f_gatemake_Stream_RightInstances
  generalize hT : ([D.s [105, 97], D.s [105, 98], D.s [105, 99], D.s [105, 100]] : List D) = T
  have hTl : T.length = 4 := by rw [← hT]; rfl
  have hTm : ∀ j, j < 4 → ∃ a : List UInt8, D.nth T j = .s a ∧ a.length ≤ 1000 ∧ (j = 3 → a = [105, 100]) := fun j hj => by
    rw [← hT]
    have : j = 0 ∨ j = 1 ∨ j = 2 ∨ j = 3 := by omega
    rcases this with rfl | rfl | rfl | rfl
    · exact ⟨_, rfl, by simp, fun h => by omega⟩
    · exact ⟨_, rfl, by simp, fun h => by omega⟩
    · exact ⟨_, rfl, by simp, fun h => by omega⟩
    · exact ⟨_, rfl, by simp, fun _ => rfl⟩
  refine W.bind (p := fun r => ∃ s' l t, r = (0, [s', t, .n l]) ∧ InL l ∧ 0 < l.length ∧ St (c + 10) s') (W.rounds (S := Nat × D × List D) (fun q => [.i 4, .i (q.1 : Int), q.2.1, .n T, .n q.2.2]) (fun q => q.1 ≤ 4 ∧ q.2.2.length ≤ q.1 ∧ (∀ x ∈ q.2.2, In x) ∧ (q.1 = 4 → 0 < q.2.2.length) ∧ St (c + 2 * q.1) q.2.1) (fun q => 4 - q.1) (fun q hI rc ih => ?_) (0, s, []) ⟨by simp, by simp, by simp, by simp, by simpa using hs⟩) ?_
  · obtain ⟨j, s2, out⟩ := q
    obtain ⟨a1, a2, a3, a4, a5⟩ := hI
    simp only at a1 a2 a3 a4 a5
    unfold b_gatemake_Stream_RightInstances_0
    simp only [D.nth_zero, D.nth_succ, D.int_i, D.list_n, Int.toNat_natCast]
    refine W.cond (fun h => ?_) (fun h => ?_)
    · simp at h
      have hj : j < 4 := by omega
      refine W.cond (fun _ => ?_) (fun h => by simp at h; omega)
      obtain ⟨a, ha, hal, ha3⟩ := hTm j hj
      rw [ha]
      have e1 : IntKind.i64.wrap ((j : Int) + 1) = ((j + 1 : Nat) : Int) := by rw [wrap_i64 (by omega) (by omega)]; omega
      refine W.bind (p := fun r => ∃ b s3, r = (0, [.b b, s3, .n out]) ∧ (j = 3 → out = [] → b = true) ∧ St (c + 2 * j + 1) s3) ?_ ?_
      · unfold b_gatemake_Stream_RightInstances_1
        simp only [D.nth_zero, D.nth_succ, D.list_n, D.str_s]
        refine W.cond (fun hc1 => ?_) (fun _ => W.ret ⟨true, s2, rfl, fun _ _ => rfl, a5.le (by omega)⟩)
        refine W.bind (w_Flip _ _ s2 a5 (by omega) (by simp)) ?_
        rintro _ ⟨b, s3, rfl, h3⟩
        refine W.ret ⟨!b, s3, rfl, fun hj3 ho => ?_, h3⟩
        subst ho
        rw [ha3 hj3] at hc1
        simp at hc1
      rintro _ ⟨b, s3, rfl, hb, h3⟩
      simp only [D.nth_zero, D.nth_succ, D.bool_b, D.list_n]
      refine W.cond (fun _ => ?_) (fun hbf => ?_)
      · refine W.bind (w_Pick _ s3 _ h3 (by omega) (by simp) (by simp)) ?_
        rintro _ ⟨x, s4, t, rfl, hx, h4⟩
        simp only [D.nth_zero, D.nth_succ]
        refine W.cond (fun _ => ?_) (fun h => absurd (lim_mk (n := out.length + 1) (by omega)) (by rw [h]; simp))
        have hx' : ∃ w : Int, x = .i w := by
          simp only [List.mem_cons, List.not_mem_nil, or_false] at hx
          rcases hx with rfl | rfl | rfl | rfl | rfl <;> exact ⟨_, rfl⟩
        obtain ⟨w, rfl⟩ := hx'
        rw [e1]
        refine ih (j + 1, s4, out ++ [.n [.s a, .i w]]) ⟨by simp only; omega, by simp; omega, fun y hy => ?_, fun _ => by simp, h4.le (by simp only; omega)⟩ (by simp only; omega)
        rcases List.mem_append.1 hy with hy | hy
        · exact a3 y hy
        · simp at hy; subst hy; exact ⟨a, w, rfl, hal⟩
      · rw [e1]
        refine ih (j + 1, s3, out) ⟨by simp only; omega, by simp only; omega, a3, fun h4 => ?_, h3.le (by simp only; omega)⟩ (by simp only; omega)
        simp only at h4 ⊢
        rcases Nat.eq_zero_or_pos out.length with h5 | h5
        · have := hb (by omega) (List.eq_nil_of_length_eq_zero h5)
          rw [this] at hbf
          cases hbf
        · exact h5
    · simp at h
      have : j = 4 := by omega
      subst this
      exact W.ret ⟨s2, out, _, rfl, ⟨by omega, a3⟩, a4 rfl, a5.le (by omega)⟩
  · rintro _ ⟨s2, l, t, rfl, h1, h2, h3⟩
    exact W.ret ⟨s2, l, rfl, h1, h2, h3⟩
theorem w_Instances (c : Int) (s : D) (hs : St c s) (hc : c ≤ 999999999800) : W (fun K _ => f_gatemake_Stream_Instances K s) (fun r => ∃ s' l, r = [s', .n l] ∧ InL l ∧ St (c + 20) s') := by
  unfold f_gatemake_Stream_Instances
  refine W.bind (w_RightInstances c s hs (by omega)) ?_
  rintro _ ⟨s1, l, rfl, hl, hl0, h1⟩
  have hl10 := hl.1
  simp only [D.nth_zero, D.nth_succ, D.list_n]
  refine W.bind (w_Flip _ _ s1 h1 (by omega) (by simp)) ?_
  rintro _ ⟨b, s2, rfl, h2⟩
  simp only [D.nth_zero, D.nth_succ, D.bool_b]
  refine W.cond (fun _ => ?_) (fun _ => ?_)
  · refine W.bind (w_Next _ _ s2 h2 (by omega) (by simp; omega)) ?_
    rintro _ ⟨i, s3, rfl, i0, i1, h3⟩
    simp only [D.int_i] at i1
    have i1 := i1 (by omega)
    obtain ⟨j, rfl⟩ : ∃ j : Nat, i = (j : Int) := ⟨i.toNat, by omega⟩
    have hj : j < l.length := by omega
    simp only [D.nth_zero, D.nth_succ, D.int_i, Int.toNat_natCast]
    refine W.cond (fun _ => ?_) (fun h => by simp at h; omega)
    obtain ⟨a, w, hx, ha, hx0, hx1⟩ := hl.nth hj
    rw [hx0]
    refine W.bind (w_Some _ s3 _ h3 (by omega) (by simp) (by simp)) ?_
    rintro _ ⟨y, s4, t, rfl, hy, h4⟩
    have hy' : ∃ b : List UInt8, y = .s b ∧ b.length ≤ 1000 := by
      simp only [List.mem_cons, List.not_mem_nil, or_false] at hy
      rcases hy with rfl | rfl | rfl | rfl
      · exact ⟨_, rfl, ha⟩
      all_goals exact ⟨_, rfl, by simp⟩
    obtain ⟨b', rfl, hb'⟩ := hy'
    refine W.bind (w_Odd _ 1 100 s4 h4 (by omega) (by omega) (by omega) (by omega)) ?_
    rintro _ ⟨w', s5, rfl, _, _, h5⟩
    simp only [D.nth_zero, D.nth_succ]
    refine W.bind (w_Flip _ _ s5 h5 (by omega) (by simp)) ?_
    rintro _ ⟨b2, s6, rfl, h6⟩
    simp only [D.nth_zero, D.nth_succ, D.bool_b]
    refine W.cond (fun _ => W.ret ⟨s6, [], rfl, ⟨by simp, by simp⟩, h6.le (by omega)⟩) (fun _ => W.ret ⟨s6, _, rfl, ?_, h6.le (by omega)⟩)
    have g1 : In (.n (D.setNth (D.nth l j).list 0 (.s b'))) := (hl.2 _ (nth_mem hj)).set0 hb'
    have g2 := hl.set hj g1
    have hlen : (D.setNth l j (.n (D.setNth (D.nth l j).list 0 (.s b')))).length = l.length := length_setNth hj
    refine g2.set (by omega) ?_
    rw [at_set_same]
    exact g1.set1
  · refine W.bind (w_Flip _ _ s2 h2 (by omega) (by simp)) ?_
    rintro _ ⟨b2, s6, rfl, h6⟩
    simp only [D.nth_zero, D.nth_succ, D.bool_b]
    exact W.cond (fun _ => W.ret ⟨s6, [], rfl, ⟨by simp, by simp⟩, h6.le (by omega)⟩) (fun _ => W.ret ⟨s6, l, rfl, hl, h6.le (by omega)⟩)
/-! ### Where an instance is -/
theorem w_place (l : List D) (key : List UInt8) (hl : InL l) (h : Inc idS l) : W (fun K _ => f_upstream_place K (.n l) (.s key)) (fun r => ∃ i : Nat, r = [.i (i : Int), .b (l.any fun x => idS x == key)] ∧ ((l.any fun x => idS x == key) = true → i < l.length ∧ idS (D.nth l i) = key)) := by
  have hl10 := hl.1
  unfold f_upstream_place f_slices_BinarySearchFunc_string
  simp only [D.list_n]
  refine W.bind (p := fun r => ∃ i : Nat, r = [.i (i : Int), .b (l.any fun x => idS x == key)] ∧ ((l.any fun x => idS x == key) = true → i < l.length ∧ idS (D.nth l i) = key)) (W.bind (W.bsearch (F := fun K => b_slices_BinarySearchFunc_string_0 K) l.length (fun i j => [.n l, .s key, .i (i : Int), .i (j : Int)]) (fun p => Op.bytesLess (idS (D.nth l p)) key) (fun i => (0, [.i (i : Int)])) (fun i j hij hj p rc g1 g2 => ?_) (fun i hi rc => ?_) (fun a b hab hb hlt => less_trans (h.lt hab hb) hlt)) ?_) ?_
  · unfold b_slices_BinarySearchFunc_string_0
    simp only [D.nth_zero, D.nth_succ, D.int_i, D.list_n]
    rw [half_mid i j (by omega)]
    simp only [Int.toNat_natCast, p_upstream_place_1, p_strings_Compare, p_bytealg_CompareString, p_bytealg_abigen_runtime_cmpstring, D.nth_zero, D.int_i, D.str_s]
    have hc := cmp_spec (idS (D.nth l ((i + j) / 2))) key
    have hin : inB (((i + j) / 2 : Nat) : Int) l.length = true := inB_mk (by omega) (by omega)
    refine W.cond (fun _ => ?_) (fun h => by simp at h; omega)
    refine W.cond (fun _ => ?_) (fun h => by rw [hin] at h; cases h)
    refine W.cond (fun hq => ?_) (fun hq => ?_)
    · have e1 : IntKind.i64.wrap ((((i + j) / 2 : Nat) : Int) + 1) = (((i + j) / 2 + 1 : Nat) : Int) := by rw [wrap_i64 (by omega) (by omega)]; omega
      rw [e1]
      exact g1 (hc.1.1 (by simpa [idS] using hq))
    · refine g2 ?_
      rw [← Bool.not_eq_true]
      intro h3
      have := hc.1.2 h3
      simp only [ltI_f] at hq
      have hq : 0 ≤ Lib.compareBytes (idS (D.nth l ((i + j) / 2))) key := hq
      omega
  · unfold b_slices_BinarySearchFunc_string_0
    simp only [D.nth_zero, D.nth_succ, D.int_i]
    exact W.cond (fun h => by simp at h) (fun _ => W.ret rfl)
  · rintro _ ⟨i, rfl, hi, h1, h2⟩
    have ha := any_inc h hi h1 h2
    simp only [D.nth_zero, D.int_i, Int.toNat_natCast, p_upstream_place_1, p_strings_Compare, p_bytealg_CompareString, p_bytealg_abigen_runtime_cmpstring, D.str_s]
    refine W.cond (fun _ => ?_) (fun h => by simp at h; omega)
    refine W.cond (fun hlt => W.ret ⟨i, ?_, fun ht => ?_⟩) (fun hlt => W.ret ⟨i, ?_, fun ht => ?_⟩)
    · simp at hlt
      have hc := (cmp_spec (idS (D.nth l i)) key).2.1
      rw [ha]
      have : decide (i < l.length) = true := by simpa using hlt
      rw [this, Bool.true_and]
      have e : (Lib.compareBytes ((D.nth l i).at' 0).str key == 0) = (idS (D.nth l i) == key) := by
        rw [Bool.eq_iff_iff]
        simp only [beq_iff_eq]
        exact hc
      rw [e]
    · rw [ha] at ht
      simpa using ht
    · simp at hlt
      rw [ha]
      have : decide (i < l.length) = false := by simp; omega
      rw [this]
      rfl
    · rw [ha] at ht
      simpa using ht
  · rintro _ ⟨i, rfl, h1⟩
    exact W.ret ⟨i, rfl, h1⟩
theorem w_InstanceAt (l : List D) (key : List UInt8) (hl : InL l) : W (fun K _ => f_gateref2_InstanceAt K (.n l) (.s key)) (fun r => ∃ i, r = [.i i] ∧ ltI i 0 = !(l.any fun x => idS x == key)) := by
  have hl10 := hl.1
  unfold f_gateref2_InstanceAt f_slices_IndexFunc_api_Instance
  simp only [D.list_n]
  refine W.bind (p := fun r => ∃ i, r = [.i i] ∧ ltI i 0 = !(l.any fun x => idS x == key)) (W.bind (W.early l.length (fun j => [.n l, .s key, .i l.length, .i j]) (fun j => bif (fun x => idS x == key) (D.nth l j) then some (0, [.i (j : Int)]) else none) (1, []) (fun j hj hp p rc h1 h2 => ?_) (fun rc => ?_)) ?_) ?_
  · unfold b_slices_IndexFunc_api_Instance_0
    simp only [D.nth_zero, D.nth_succ, D.list_n, D.int_i, Int.toNat_natCast, p_gateref2_InstanceAt_1, D.bool_b, D.str_s]
    refine W.cond (fun _ => ?_) (fun h => by simp at h; omega)
    refine W.cond (fun _ => ?_) (fun h => by simp at h; omega)
    refine W.cond (fun h => W.ret (h1 _ ?_)) (fun h => ?_)
    · have : (idS (D.nth l j) == key) = true := h
      simp only [this, cond_true]
    · have : (idS (D.nth l j) == key) = false := h
      rw [wrap_i64 (by omega) (by omega)]
      exact h2 (by simp only [this, cond_false])
  · unfold b_slices_IndexFunc_api_Instance_0
    simp only [D.nth_zero, D.nth_succ, D.list_n, D.int_i]
    exact W.cond (fun h => by simp at h) (fun _ => W.ret rfl)
  · rintro _ rfl
    rcases scan_any l (fun x => idS x == key) (fun j => (0, [D.i (j : Int)])) (1, []) with ⟨ha, i, hi, h⟩ | ⟨ha, h⟩
    · rw [h, ha]
      refine W.ret ⟨(i : Int), rfl, ?_⟩
      simp
    · rw [h, ha]
      exact W.ret ⟨-1, rfl, by simp⟩
  · rintro _ ⟨i, rfl, h1⟩
    exact W.ret ⟨i, rfl, h1⟩
/-! ### Probes that are drawn -/
theorem w_PickI (c : Int) (s : D) (l : List Int) (hs : St c s) (hc : c ≤ 999999999999) (h1 : l ≠ []) (h2 : l.length ≤ 100) : W (fun K _ => f_gatemake_Stream_Pick K s (.n (l.map D.i))) (fun r => ∃ x s' t, r = [.i x, s', t] ∧ x ∈ l ∧ St (c + 1) s') := by
  refine (w_Pick c s (l.map D.i) hs (by omega) (by simpa using h1) (by simp; omega)).mono ?_
  rintro _ ⟨x, s', t, rfl, hx, h⟩
  obtain ⟨y, hy, rfl⟩ := List.mem_map.1 hx
  exact ⟨y, s', t, rfl, hy, h⟩
theorem w_Health (c : Int) (s : D) (hs : St c s) (hc : c ≤ 999999999800) : W (fun K _ => f_gatemake_Stream_Health K s) (fun r => ∃ a b s', r = [.n [.i a, .i b], s'] ∧ St (c + 20) s') := by
  unfold f_gatemake_Stream_Health
  refine W.bind (w_PickI c s [1, 2, 3] hs (by omega) (by simp) (by simp)) ?_
  rintro _ ⟨x, s1, _, rfl, _, h1⟩
  refine W.bind (w_PickI _ s1 [1, 2, 3] h1 (by omega) (by simp) (by simp)) ?_
  rintro _ ⟨y, s2, _, rfl, _, h2⟩
  simp only [D.nth_zero, D.nth_succ]
  refine W.bind (w_Flip _ _ s2 h2 (by omega) (by simp)) ?_
  rintro _ ⟨b, s3, rfl, h3⟩
  simp only [D.nth_zero, D.nth_succ, D.bool_b]
  refine W.cond (fun _ => ?_) (fun _ => W.ret ⟨x, y, s3, rfl, h3.le (by omega)⟩)
  refine W.bind (w_Odd _ 1 100 s3 h3 (by omega) (by omega) (by omega) (by omega)) ?_
  rintro _ ⟨x, s4, rfl, _, _, h4⟩
  refine W.bind (w_Odd _ 1 100 s4 h4 (by omega) (by omega) (by omega) (by omega)) ?_
  rintro _ ⟨y, s5, rfl, _, _, h5⟩
  exact W.ret ⟨x, y, s5, rfl, h5.le (by omega)⟩
def Pr (x : D) : Prop := ∃ a k g, x = .n [.i a, .s k, .b g]
def PrL (l : List D) : Prop := l.length ≤ 100 ∧ ∀ x ∈ l, Pr x
theorem PrL.nth {l : List D} {j : Nat} (h : PrL l) (hj : j < l.length) : ∃ a k g, D.nth l j = .n [.i a, .s k, .b g] ∧ (D.nth l j).at' 0 = .i a ∧ (D.nth l j).at' 1 = .s k ∧ (D.nth l j).at' 2 = .b g := by
  obtain ⟨a, k, s, h1⟩ := h.2 _ (nth_mem hj)
  exact ⟨a, k, s, h1, by rw [h1]; rfl, by rw [h1]; rfl, by rw [h1]; rfl⟩
theorem w_InstanceKey (c : Int) (s : D) (hs : St c s) (hc : c ≤ 999999999900) : W (fun K _ => f_gatemake_Stream_InstanceKey K s) (fun r => ∃ k s', r = [.s k, s'] ∧ St (c + 2) s') := by
  unfold f_gatemake_Stream_InstanceKey
  refine W.bind (w_Flip c _ s hs (by omega) (by simp)) ?_
  rintro _ ⟨b, s1, rfl, h1⟩
  simp only [D.nth_zero, D.nth_succ, D.bool_b]
  refine W.cond (fun _ => ?_) (fun _ => ?_)
  · refine W.bind (w_Some _ s1 _ h1 (by omega) (by simp) (by simp)) ?_
    rintro _ ⟨x, s2, t, rfl, hx, h2⟩
    simp only [List.mem_cons, List.not_mem_nil, or_false] at hx
    rcases hx with rfl | rfl <;> exact W.ret ⟨_, s2, rfl, h2.le (by omega)⟩
  · refine W.bind (w_Some _ s1 _ h1 (by omega) (by simp) (by simp)) ?_
    rintro _ ⟨x, s2, t, rfl, hx, h2⟩
    simp only [List.mem_cons, List.not_mem_nil, or_false] at hx
    rcases hx with rfl | rfl | rfl | rfl <;> exact W.ret ⟨_, s2, rfl, h2.le (by omega)⟩
theorem w_Probes (c : Int) (s : D) (l : List D) (hl : InL l) (hs : St c s) (hc : c ≤ 999999990000) : W (fun K _ => f_gatemake_Stream_Probes K s (.n l)) (fun r => ∃ s' p, r = [s', .n l, .n p] ∧ PrL p ∧ St (c + 400) s') := by
  have hl10 := hl.1
  unfold f_gatemake_Stream_Probes
  refine W.bind (w_Range c 0 16 s hs (by omega) (by omega) (by omega)) ?_
  rintro _ ⟨n, s1, rfl, n0, n1, h1⟩
  have n1 := n1 (by omega)
  simp only [D.nth_zero, D.nth_succ, D.list_n]
  refine W.bind (p := fun r => ∃ s' p, r = (0, [s', .n l, .n p]) ∧ PrL p ∧ St (c + 400) s') (W.rounds (S := Int × Nat × D × List D) (fun q => [.i q.1, .i n, .i (q.2.1 : Int), q.2.2.1, .n l, .n q.2.2.2]) (fun q => (q.2.1 : Int) ≤ n ∧ q.2.2.2.length = q.2.1 ∧ (∀ x ∈ q.2.2.2, Pr x) ∧ St (c + 1 + 20 * q.2.1) q.2.2.1) (fun q => n.toNat - q.2.1) (fun q hI rc ih => ?_) (0, 0, s1, []) ⟨by simp only; omega, rfl, by simp, by simpa using h1⟩) ?_
  · obtain ⟨vat, j, s2, out⟩ := q
    obtain ⟨a1, a2, a3, a4⟩ := hI
    simp only at a1 a2 a3 a4
    unfold b_gatemake_Stream_Probes_0
    simp only [D.nth_zero, D.nth_succ, D.int_i, D.list_n]
    have e1 : IntKind.i64.wrap ((j : Int) + 1) = ((j + 1 : Nat) : Int) := by rw [wrap_i64 (by omega) (by omega)]; omega
    rw [e1]
    refine W.cond (fun h => ?_) (fun h => ?_)
    · simp at h
      refine W.bind (w_PickI _ s2 [0, 1, 5, 10] a4 (by omega) (by simp) (by simp)) ?_
      rintro _ ⟨x, s3, t, rfl, hx, h3⟩
      simp only [D.nth_zero, D.nth_succ, D.int_i]
      refine W.bind (w_InstanceKey _ s3 h3 (by omega)) ?_
      rintro _ ⟨k, s4, rfl, h4⟩
      simp only [D.nth_zero, D.nth_succ]
      refine W.bind (w_Flip _ _ s4 h4 (by omega) (by simp)) ?_
      rintro _ ⟨g, s5, rfl, h5⟩
      simp only [D.nth_zero, D.nth_succ]
      generalize IntKind.i64.wrap (vat + x) = v
      refine W.bind (p := fun r => ∃ b s', r = (0, [.b b, s', .n l]) ∧ (b = true → 0 < l.length) ∧ St (c + 20 * j + 6) s') ?_ ?_
      · unfold b_gatemake_Stream_Probes_1
        simp only [D.nth_zero, D.nth_succ, D.list_n]
        refine W.cond (fun h => ?_) (fun h => W.ret ⟨false, s5, rfl, fun h => by simp at h, h5.le (by omega)⟩)
        refine W.bind (w_Flip _ _ s5 h5 (by omega) (by simp)) ?_
        rintro _ ⟨b, s6, rfl, h6⟩
        simp at h
        exact W.ret ⟨!b, s6, rfl, fun _ => by omega, h6.le (by omega)⟩
      rintro _ ⟨b, s6, rfl, hb, h6⟩
      simp only [D.nth_zero, D.nth_succ, D.list_n]
      refine W.bind (p := fun r => ∃ s' k', r = (0, [s', .n l, .n [.i v, .s k', .b g]]) ∧ St (c + 20 * j + 7) s') ?_ ?_
      · unfold b_gatemake_Stream_Probes_2
        simp only [D.nth_zero, D.nth_succ, D.list_n, D.bool_b, D.at_n]
        refine W.cond (fun hbt => ?_) (fun _ => W.ret ⟨s6, k, rfl, h6.le (by omega)⟩)
        have hl0 := hb hbt
        refine W.bind (w_Next _ _ s6 h6 (by omega) (by simp; omega)) ?_
        rintro _ ⟨i, s7, rfl, i0, i1, h7⟩
        simp only [D.int_i] at i1
        have i1 := i1 (by omega)
        obtain ⟨m, rfl⟩ : ∃ m : Nat, i = (m : Int) := ⟨i.toNat, by omega⟩
        have hm : m < l.length := by omega
        simp only [D.nth_zero, D.nth_succ, D.int_i, Int.toNat_natCast]
        refine W.cond (fun _ => ?_) (fun h => by simp at h; omega)
        obtain ⟨a, w, hx, ha, hx0, hx1⟩ := hl.nth hm
        rw [hx0]
        exact W.ret ⟨s7, a, rfl, h7.le (by omega)⟩
      rintro _ ⟨s7, k', rfl, h7⟩
      simp only [D.nth_zero, D.nth_succ, D.list_n, D.at_n]
      refine W.bind (w_Flip _ _ s7 h7 (by omega) (by simp)) ?_
      rintro _ ⟨b2, s8, rfl, h8⟩
      simp only [D.nth_zero, D.nth_succ, D.bool_b]
      refine W.cond (fun _ => ?_) (fun _ => ?_)
      · refine W.bind (w_Odd _ 0 50 s8 h8 (by omega) (by omega) (by omega) (by omega)) ?_
        rintro _ ⟨z1, s9, rfl, _, _, h9⟩
        simp only [D.nth_zero, D.nth_succ]
        refine W.cond (fun _ => ?_) (fun h => absurd (lim_mk (n := out.length + 1) (by omega)) (by rw [h]; simp))
        refine ih (v, j + 1, s9, out ++ [_]) ⟨by simp only; omega, by simp [a2], fun y hy => ?_, h9.le (by simp only; omega)⟩ (by simp only; omega)
        rcases List.mem_append.1 hy with hy | hy
        · exact a3 y hy
        · simp only [List.mem_singleton] at hy
          subst hy
          exact ⟨_, _, _, rfl⟩
      · refine W.cond (fun _ => ?_) (fun h => absurd (lim_mk (n := out.length + 1) (by omega)) (by rw [h]; simp))
        refine ih (v, j + 1, s8, out ++ [_]) ⟨by simp only; omega, by simp [a2], fun y hy => ?_, h8.le (by simp only; omega)⟩ (by simp only; omega)
        rcases List.mem_append.1 hy with hy | hy
        · exact a3 y hy
        · simp only [List.mem_singleton] at hy
          subst hy
          exact ⟨_, _, _, rfl⟩
    · simp at h
      exact W.ret ⟨s2, out, rfl, ⟨by omega, a3⟩, a4.le (by omega)⟩
  · rintro _ ⟨s2, p, rfl, hp, h2⟩
    exact W.ret ⟨s2, p, rfl, hp, h2⟩
/-! ### Right probes -/
def momB (a : Int) : Bool := bif geI a 0 then ltI a 345686400000 else false
theorem moment2 (x : D) : (D.nth (p_gateref2_Moment x) 0).bool = momB x.int := by
  simp only [p_gateref2_Moment, p_gateref2_in, D.nth_zero, D.bool_b, D.int_i, momB]
  generalize x.int = x
  cases h1 : leI 0 x <;> cases h2 : leI x 345686399999 <;> cases h3 : geI x 0 <;> cases h4 : ltI x 345686400000 <;> first | rfl | (exfalso; simp at h1 h2 h3 h4; omega)
def ordR (r : List D) (j : Nat) : Bool := bif gtI (j : Int) 0 then ltI ((D.nth r j).at' 0).int ((D.nth r (j - 1)).at' 0).int else false
def prF (l r : List D) (j : Nat) : Int := bif !momB ((D.nth r j).at' 0).int then 1 else bif !(l.any fun x => idS x == ((D.nth r j).at' 1).str) then 8 else bif ordR r j then 7 else 0
def prD (l r : List D) : List D := bif gtI (r.length : Int) 2000 then [.i 2] else errD (scan (errAt (prF l r)) (1, []) r.length 0)
theorem w_CheckProbes (l r : List D) (hl : InL l) (hr : PrL r) : W (fun K _ => f_upstream_CheckProbes K (.n l) (.n r)) (fun x => x = bif ((D.nth (insD l) 0).int != 0) then [D.nth (insD l) 0] else prD l r) := by
  have hl10 := hl.1
  have hr4 := hr.1
  unfold f_upstream_CheckProbes prD
  refine W.bind (w_CheckInstances l hl) ?_
  rintro _ rfl
  simp only [D.list_n]
  refine W.cond (fun h => W.ret (by rw [h]; rfl)) (fun h => ?_)
  rw [h, cond_false]
  have hinc := insD_zero hl (by simpa using h)
  refine W.cond (fun h => W.ret (by rw [h]; rfl)) (fun h => ?_)
  rw [h, cond_false]
  refine W.bind (W.early r.length (fun j => [.n l, .n r, .n r, .i r.length, .i j]) (errAt (prF l r)) (1, []) (fun j hj hpr q rc g1 g2 => ?_) (fun rc => ?_)) ?_
  · unfold b_upstream_CheckProbes_0
    simp only [D.nth_zero, D.nth_succ, D.int_i, D.list_n, Int.toNat_natCast]
    obtain ⟨a, k, s, hx, hx0, hx1, hx2⟩ := hr.nth hj
    refine W.cond (fun _ => ?_) (fun h => by simp at h; omega)
    refine W.cond (fun _ => ?_) (fun h => by simp at h; omega)
    have hm : (D.nth (p_kit_IsMoment ((D.nth r j).at' 0)) 0).bool = momB ((D.nth r j).at' 0).int := rfl
    rw [hm]
    refine W.cond (fun hn => W.ret (g1 _ ?_)) (fun hn => ?_)
    · exact errAt_some (by simp only [prF, hn, cond_true]) (by omega)
    have hk : ((D.nth r j).at' 1).str = k := by rw [hx1]; rfl
    rw [hx1]
    refine W.bind (w_place l k hl hinc) ?_
    rintro _ ⟨i, rfl, _⟩
    simp only [D.nth_zero, D.nth_succ, D.bool_b]
    refine W.cond (fun hp => W.ret (g1 _ ?_)) (fun hp => ?_)
    · exact errAt_some (by simp only [prF, hn, hk, hp, cond_true, cond_false]) (by omega)
    have hw : IntKind.i64.wrap ((j : Int) - 1) = (j : Int) - 1 := wrap_i64 (by omega) (by omega)
    have hnn : ((j : Int) - 1).toNat = j - 1 := by omega
    rw [hw, hnn]
    refine W.cond (fun _ => ?_) (fun h => by simp at h; omega)
    have ho' : (bif gtI (j : Int) 0 then ltI ((D.nth r j).at' 0).int ((D.nth r (j - 1)).at' 0).int else false) = ordR r j := rfl
    rw [ho']
    refine W.cond (fun ho => W.ret (g1 _ ?_)) (fun ho => ?_)
    · exact errAt_some (by simp only [prF, hn, hk, hp, ho, cond_true, cond_false]) (by omega)
    · rw [wrap_i64 (x := (j : Int) + 1) (by omega) (by omega)]
      exact g2 (errAt_none (by simp only [prF, hn, hk, hp, ho, cond_true, cond_false]))
  · unfold b_upstream_CheckProbes_0
    simp only [D.nth_zero, D.nth_succ, D.int_i]
    exact W.cond (fun h => by simp at h) (fun _ => W.ret rfl)
  · rintro _ rfl
    generalize scan (errAt (prF l r)) (1, []) r.length 0 = r
    unfold errD
    exact W.cond (fun h => W.ret (by rw [h]; rfl)) (fun h => W.ret (by rw [h]; rfl))
theorem w_ProbesFault (l r : List D) (hl : InL l) (hr : PrL r) : W (fun K _ => f_gateref2_ProbesFault K (.n l) (.n r)) (fun x => x = prD l r) := by
  have hl10 := hl.1
  have hr4 := hr.1
  unfold f_gateref2_ProbesFault prD
  simp only [D.list_n]
  refine W.cond (fun h => W.ret (by rw [h]; rfl)) (fun h => ?_)
  rw [h, cond_false]
  refine W.bind (W.early r.length (fun j => [.n l, .n r, .n r, .i r.length, .i j]) (errAt (prF l r)) (1, []) (fun j hj hpr q rc g1 g2 => ?_) (fun rc => ?_)) ?_
  · unfold b_gateref2_ProbesFault_0
    simp only [D.nth_zero, D.nth_succ, D.int_i, D.list_n, Int.toNat_natCast]
    obtain ⟨a, k, s, hx, hx0, hx1, hx2⟩ := hr.nth hj
    refine W.cond (fun _ => ?_) (fun h => by simp at h; omega)
    refine W.cond (fun _ => ?_) (fun h => by simp at h; omega)
    rw [moment2]
    refine W.cond (fun hn => W.ret (g1 _ ?_)) (fun hn => ?_)
    · exact errAt_some (by simp only [prF, hn, cond_true]) (by omega)
    have hk : ((D.nth r j).at' 1).str = k := by rw [hx1]; rfl
    rw [hx1]
    refine W.bind (w_InstanceAt l k hl) ?_
    rintro _ ⟨i, rfl, hi⟩
    simp only [D.nth_zero, D.int_i]
    rw [hi]
    refine W.cond (fun hp => W.ret (g1 _ ?_)) (fun hp => ?_)
    · exact errAt_some (by simp only [prF, hn, hk, hp, cond_true, cond_false]) (by omega)
    have hw : IntKind.i64.wrap ((j : Int) - 1) = (j : Int) - 1 := wrap_i64 (by omega) (by omega)
    have hnn : ((j : Int) - 1).toNat = j - 1 := by omega
    rw [hw, hnn]
    refine W.cond (fun _ => ?_) (fun h => by simp at h; omega)
    have ho' : (bif gtI (j : Int) 0 then ltI ((D.nth r j).at' 0).int ((D.nth r (j - 1)).at' 0).int else false) = ordR r j := rfl
    rw [ho']
    refine W.cond (fun ho => W.ret (g1 _ ?_)) (fun ho => ?_)
    · exact errAt_some (by simp only [prF, hn, hk, hp, ho, cond_true, cond_false]) (by omega)
    · rw [wrap_i64 (x := (j : Int) + 1) (by omega) (by omega)]
      exact g2 (errAt_none (by simp only [prF, hn, hk, hp, ho, cond_true, cond_false]))
  · unfold b_gateref2_ProbesFault_0
    simp only [D.nth_zero, D.nth_succ, D.int_i]
    exact W.cond (fun h => by simp at h) (fun _ => W.ret rfl)
  · rintro _ rfl
    generalize scan (errAt (prF l r)) (1, []) r.length 0 = r
    unfold errD
    exact W.cond (fun h => W.ret (by rw [h]; rfl)) (fun h => W.ret (by rw [h]; rfl))
theorem prD_zero {l r : List D} (hr : PrL r) (h : (D.nth (prD l r) 0).int = 0) : ∀ j, j < r.length → momB ((D.nth r j).at' 0).int = true ∧ (l.any fun x => idS x == ((D.nth r j).at' 1).str) = true := by
  have hr4 := hr.1
  have hg : gtI (r.length : Int) 2000 = false := by simp; omega
  unfold prD at h
  rw [hg, cond_false] at h
  rcases scan_cases (errAt (prF l r)) (1, []) r.length 0 with ⟨i, q, h1, h2, h3, h4, h5⟩ | ⟨h1, h2⟩
  · exfalso
    rw [h4] at h
    unfold errAt at h3
    cases hc : prF l r i != 0 with
    | false => rw [hc] at h3; cases h3
    | true =>
      rw [hc] at h3
      cases h3
      have : prF l r i = 0 := h
      simp [this] at hc
  · intro j hj
    have hz := errAt_none_iff (h1 j (Nat.zero_le _) (by omega))
    unfold prF at hz
    cases hk : momB ((D.nth r j).at' 0).int with
    | false => rw [hk] at hz; simp at hz
    | true =>
      cases ho : (l.any fun x => idS x == ((D.nth r j).at' 1).str) with
      | false => rw [hk, ho] at hz; simp at hz
      | true => exact ⟨rfl, rfl⟩
/-! ### How instances are -/
theorem prD_ord {l r : List D} (hr : PrL r) (h : (D.nth (prD l r) 0).int = 0) : ∀ j, j < r.length → ordR r j = false := by
  have hr4 := hr.1
  have hg : gtI (r.length : Int) 2000 = false := by simp; omega
  unfold prD at h
  rw [hg, cond_false] at h
  rcases scan_cases (errAt (prF l r)) (1, []) r.length 0 with ⟨i, q, h1, h2, h3, h4, h5⟩ | ⟨h1, h2⟩
  · exfalso
    rw [h4] at h
    unfold errAt at h3
    cases hc : prF l r i != 0 with
    | false => rw [hc] at h3; cases h3
    | true =>
      rw [hc] at h3
      cases h3
      have : prF l r i = 0 := h
      simp [this] at hc
  · intro j hj
    have hz := errAt_none_iff (h1 j (Nat.zero_le _) (by omega))
    unfold prF at hz
    cases hk : momB ((D.nth r j).at' 0).int with
    | false => rw [hk] at hz; simp at hz
    | true =>
      cases ho : (l.any fun x => idS x == ((D.nth r j).at' 1).str) with
      | false => rw [hk, ho] at hz; simp at hz
      | true =>
        cases hq : ordR r j with
        | false => rfl
        | true => rw [hk, ho, hq] at hz; simp at hz
theorem pr_mono {r : List D} (h : ∀ j, j < r.length → ordR r j = false) : ∀ (d j : Nat), j + d < r.length → ((D.nth r j).at' 0).int ≤ ((D.nth r (j + d)).at' 0).int
  | 0, j, _ => Int.le_refl _
  | d + 1, j, hj => by
    have ih := pr_mono h d j (by omega)
    have := h (j + (d + 1)) hj
    unfold ordR at this
    have hg : gtI ((j + (d + 1) : Nat) : Int) 0 = true := by simp; omega
    rw [hg, cond_true] at this
    have e : j + (d + 1) - 1 = j + d := by omega
    rw [e] at this
    simp at this
    omega
abbrev T2 := Bool × Int
def most (r f : Int) (d : Bool) : Int := bif d then r else f
def pz (r f : Int) (s : T2) (g : Bool) : T2 × Bool :=
  bif !(g == s.1) then ((s.1, 0), false)
  else bif ltI (s.2 + 1) (most r f s.1) then ((s.1, s.2 + 1), false)
  else ((!s.1, 0), true)
section
variable (r f : Int) (p : List D)
def pk (j : Nat) : List UInt8 := ((D.nth p j).at' 1).str
def pg (j : Nat) : Bool := ((D.nth p j).at' 2).bool
def stA (k : List UInt8) : Nat → T2
  | 0 => (false, 0)
  | j + 1 => bif pk p j == k then (pz r f (stA k j) (pg p j)).1 else stA k j
def trB (j : Nat) : Bool := (pz r f (stA r f p (pk p j) j) (pg p j)).2
def TJ (j : Nat) : D := .n [(D.nth p j).at' 0, (D.nth p j).at' 1, .b (stA r f p (pk p j) j).1]
def tl : Nat → List D
  | 0 => []
  | j + 1 => tl j ++ (bif trB r f p j then [TJ r f p j] else [])
theorem tl_len : ∀ j, (tl r f p j).length ≤ j
  | 0 => by simp [tl]
  | j + 1 => by
    have := tl_len j
    simp only [tl]
    cases trB r f p j <;> simp <;> omega
end
theorem pz_row {r f : Int} (hr : 1 ≤ r ∧ r ≤ 100) (hf : 1 ≤ f ∧ f ≤ 100) {s : T2} (h : 0 ≤ s.2 ∧ s.2 < most r f s.1) (g : Bool) : 0 ≤ (pz r f s g).1.2 ∧ (pz r f s g).1.2 < most r f (pz r f s g).1.1 := by
  obtain ⟨d, n⟩ := s
  have hm : ∀ d, 1 ≤ most r f d := fun d => by cases d <;> simp only [most, cond_true, cond_false] <;> omega
  unfold pz
  cases h1 : !(g == (d, n).1) with
  | true => simp only [cond_true]; exact ⟨Int.le_refl _, hm _⟩
  | false =>
    simp only [cond_false]
    cases h2 : ltI (n + 1) (most r f d) with
    | true =>
      simp at h2 h
      simp only [cond_true]
      exact ⟨by omega, h2⟩
    | false => simp only [cond_false]; exact ⟨Int.le_refl _, hm _⟩
theorem stA_row {r f : Int} (hr : 1 ≤ r ∧ r ≤ 100) (hf : 1 ≤ f ∧ f ≤ 100) (p : List D) (k : List UInt8) : ∀ j, 0 ≤ (stA r f p k j).2 ∧ (stA r f p k j).2 < most r f (stA r f p k j).1
  | 0 => by simp only [stA, most, cond_false]; omega
  | j + 1 => by
    have := stA_row hr hf p k j
    simp only [stA]
    cases pk p j == k
    · exact this
    · exact pz_row hr hf this _
theorem stA_lt {r f : Int} (hr : 1 ≤ r ∧ r ≤ 100) (hf : 1 ≤ f ∧ f ≤ 100) (p : List D) (k : List UInt8) (j : Nat) : 0 ≤ (stA r f p k j).2 ∧ (stA r f p k j).2 ≤ 1000 := by
  have := stA_row hr hf p k j
  have hm : ∀ d, most r f d ≤ 100 := fun d => by cases d <;> simp only [most, cond_true, cond_false] <;> omega
  have := hm (stA r f p k j).1
  omega
theorem nth_setNth' : ∀ (l : List D) (j k : Nat) (v : D), D.nth (D.setNth l j v) k = if k = j then v else D.nth l k
  | [], 0, k, v => by cases k with
    | zero => rfl
    | succ k => rw [if_neg (by omega)]; exact nth_none (by simp [D.setNth])
  | [], j + 1, k, v => by cases k with
    | zero => rfl
    | succ k =>
      have := nth_setNth' [] j k v
      simp only [D.setNth, D.nth_succ] at this ⊢
      rw [this]
      have e : (k = j) = (k + 1 = j + 1) := by simp
      simp only [e]
      rfl
  | a :: l, 0, k, v => by cases k with
    | zero => rfl
    | succ k => rw [if_neg (by omega)]; rfl
  | a :: l, j + 1, k, v => by cases k with
    | zero => rfl
    | succ k =>
      have := nth_setNth' l j k v
      simp only [D.setNth, D.nth_succ] at this ⊢
      rw [this]
      have e : (k = j) = (k + 1 = j + 1) := by simp
      simp only [e]
theorem at_set (x : D) (j k : Nat) (v : D) : (D.n (D.setNth x.list j v)).at' k = if k = j then v else x.at' k := nth_setNth' _ _ _ _
/-! ### One side -/
theorem w_probed (r f : Int) (L : List D) (i : Nat) (g : Bool) (s : T2) (hi : i < L.length) (hs : 0 ≤ s.2 ∧ s.2 ≤ 1000) (h0 : ((D.nth L i).at' 0).bool = s.1) (h1 : ((D.nth L i).at' 1).int = s.2) :
    W (fun K _ => f_upstream_health_probed K (.i i) (.n [.i r, .i f]) (.b g) (.n L)) (fun q => ∃ L', q = [.b (pz r f s g).2, .n L'] ∧ L'.length = L.length ∧ (∀ j, j ≠ i → D.nth L' j = D.nth L j) ∧ ((D.nth L' i).at' 0).bool = (pz r f s g).1.1 ∧ ((D.nth L' i).at' 1).int = (pz r f s g).1.2) := by
  have hw : IntKind.i64.wrap (s.2 + 1) = s.2 + 1 := wrap_i64 (by omega) (by omega)
  unfold f_upstream_health_probed
  simp only [D.int_i, D.list_n, D.bool_b, Int.toNat_natCast, h0, h1, hw]
  generalize hX : D.n (D.setNth (D.nth L i).list 1 (.i (s.2 + 1))) = X
  have hX0 : (X.at' 0).bool = s.1 := by rw [← hX, at_set, if_neg (by omega)]; exact h0
  have hX1 : (X.at' 1).int = s.2 + 1 := by rw [← hX, at_set, if_pos rfl]; rfl
  simp only [at_set_same, hX0, hX1]
  unfold pz
  refine W.cond (fun h => W.ret ?_) (fun h => ?_)
  · simp only [h, cond_true]
    refine ⟨_, rfl, length_setNth hi, fun j hj => ?_, ?_, ?_⟩
    · rw [nth_setNth', if_neg hj]
    · rw [at_set_same, at_set, if_neg (by omega)]; exact h0
    · rw [at_set_same, at_set, if_pos rfl]; rfl
  simp only [h, cond_false]
  refine W.bind (p := fun q => q = (0, [.i (most r f s.1)])) ?_ ?_
  · unfold b_upstream_health_probed_0 most
    simp only [D.nth_zero, D.nth_succ, D.bool_b, D.at_n, hX0]
    cases s.1 with
    | true => exact W.ret rfl
    | false => exact W.ret rfl
  rintro _ rfl
  simp only [D.nth_zero, D.int_i]
  refine W.cond (fun h2 => W.ret ?_) (fun h2 => W.ret ?_)
  · simp only [h2, cond_true]
    refine ⟨_, rfl, length_setNth hi, fun j hj => ?_, ?_, ?_⟩
    · rw [nth_setNth', if_neg hj]
    · rw [at_set_same]; exact hX0
    · rw [at_set_same]; exact hX1
  · simp only [h2, cond_false]
    refine ⟨_, rfl, ?_, fun j hj => ?_, ?_, ?_⟩
    · have e1 : (D.setNth L i X).length = L.length := length_setNth hi
      rw [length_setNth (by rw [length_setNth (by omega)]; omega), length_setNth (by omega)]
      exact e1
    · simp only [nth_setNth', if_neg hj]
    · rw [at_set_same, at_set, if_neg (by omega), at_set, if_pos rfl]; rfl
    · rw [at_set_same, at_set, if_pos rfl]; rfl
theorem pz_turn {r f : Int} {s : T2} {g : Bool} (h : (pz r f s g).2 = true) : (pz r f s g).1.1 = !s.1 := by
  unfold pz at h ⊢
  cases h1 : !(g == s.1) with
  | true => rw [h1] at h; simp at h
  | false =>
    rw [h1] at h
    cases h2 : ltI (s.2 + 1) (most r f s.1) with
    | true => rw [h2] at h; simp at h
    | false => rfl
theorem pz_stay {r f : Int} {s : T2} {g : Bool} (h : (pz r f s g).2 = false) : (pz r f s g).1.1 = s.1 := by
  unfold pz at h ⊢
  cases h1 : !(g == s.1) with
  | true => rfl
  | false =>
    rw [h1] at h
    cases h2 : ltI (s.2 + 1) (most r f s.1) with
    | true => rfl
    | false => rw [h2] at h; simp at h
theorem stA_other {r f : Int} {p : List D} {k : List UInt8} {j : Nat} (h : pk p j ≠ k) : stA r f p k (j + 1) = stA r f p k j := by
  have : (pk p j == k) = false := by simpa using h
  simp only [stA, this, cond_false]
theorem stA_self {r f : Int} {p : List D} {k : List UInt8} {j : Nat} (h : pk p j = k) : stA r f p k (j + 1) = (pz r f (stA r f p k j) (pg p j)).1 := by
  have : (pk p j == k) = true := by simpa using h
  simp only [stA, this, cond_true]
theorem inc_ne {l : List D} (h : Inc idS l) {i j : Nat} (hi : i < l.length) (hj : j < l.length) (hne : i ≠ j) : idS (D.nth l i) ≠ idS (D.nth l j) := fun e => by
  rcases Nat.lt_or_gt_of_ne hne with h1 | h1
  · have := h.lt h1 hj
    rw [e, less_irrefl] at this
    cases this
  · have := h.lt h1 hi
    rw [e, less_irrefl] at this
    cases this
def Upto (p : List D) (t : Int) (J : Nat) : Prop := J ≤ p.length ∧ (∀ j, j < J → ((D.nth p j).at' 0).int ≤ t) ∧ (J < p.length → t < ((D.nth p J).at' 0).int)
theorem w_turns (r f : Int) (l p : List D) (t : Int) (hl : InL l) (hp : PrL p) (hinc : Inc idS l) (hk : ∀ j, j < p.length → (l.any fun x => idS x == pk p j) = true) (hr : 1 ≤ r ∧ r ≤ 100) (hf : 1 ≤ f ∧ f ≤ 100) :
    W (fun K _ => f_upstream_turns K (.n l) (.n [.i r, .i f]) (.n p) (.i t)) (fun q => ∃ J L, q = [.n (tl r f p J), .n L] ∧ Upto p t J ∧ L.length = l.length ∧ ∀ i, i < l.length → ((D.nth L i).at' 0).bool = (stA r f p (idS (D.nth l i)) J).1) := by
  have hl10 := hl.1
  have hp4 := hp.1
  unfold f_upstream_turns
  simp only [D.list_n, Int.toNat_natCast]
  refine W.cond (fun _ => ?_) (fun h => absurd (lim_mk (n := l.length) (by omega)) (by simpa using h))
  generalize hh : D.n [.i r, .i f] = h
  refine W.bind (p := fun q => ∃ J L, q = (0, [.n L, .n (tl r f p J)]) ∧ Upto p t J ∧ L.length = l.length ∧ ∀ i, i < l.length → ((D.nth L i).at' 0).bool = (stA r f p (idS (D.nth l i)) J).1)
    (W.rounds (S := Nat × List D) (fun q => [.n l, .i t, h, .n p, .i (p.length : Int), .i (q.1 : Int), .n q.2, .n (tl r f p q.1)])
      (fun q => q.1 ≤ p.length ∧ q.2.length = l.length ∧ (∀ j, j < q.1 → ((D.nth p j).at' 0).int ≤ t) ∧ ∀ i, i < l.length → ((D.nth q.2 i).at' 0).bool = (stA r f p (idS (D.nth l i)) q.1).1 ∧ ((D.nth q.2 i).at' 1).int = (stA r f p (idS (D.nth l i)) q.1).2)
      (fun q => p.length - q.1) (fun q hI rc ih => ?_) (0, List.replicate l.length (.n [])) ⟨by simp, by simp, by simp, fun i hi => ?_⟩) ?_
  · obtain ⟨j, L⟩ := q
    obtain ⟨a1, a2, a3, a4⟩ := hI
    simp only at a1 a2 a3 a4
    have htl := tl_len r f p j
    unfold b_upstream_turns_0
    simp only [D.nth_zero, D.nth_succ, D.int_i, D.list_n, Int.toNat_natCast]
    have e1 : IntKind.i64.wrap ((j : Int) + 1) = ((j + 1 : Nat) : Int) := by rw [wrap_i64 (by omega) (by omega)]; omega
    rw [e1]
    refine W.cond (fun hj => ?_) (fun hj => ?_)
    · simp at hj
      refine W.cond (fun _ => ?_) (fun h => by simp at h; omega)
      refine W.cond (fun ha => W.ret ⟨j, L, rfl, ⟨a1, a3, fun _ => by simpa using ha⟩, a2, fun i hi => (a4 i hi).1⟩) (fun ha => ?_)
      simp at ha
      obtain ⟨a, k, g, hx, hx0, hx1, hx2⟩ := hp.nth hj
      have hpk : pk p j = k := by unfold pk; rw [hx1]; rfl
      have hpg : pg p j = g := by unfold pg; rw [hx2]; rfl
      have hka := hk j hj
      rw [hpk] at hka
      rw [hx1]
      refine W.bind (w_place l k hl hinc) ?_
      rintro _ ⟨i, rfl, hi⟩
      obtain ⟨hi1, hi2⟩ := hi hka
      simp only [D.nth_zero, D.nth_succ, D.int_i, Int.toNat_natCast]
      refine W.cond (fun _ => ?_) (fun h => by simp at h; omega)
      rw [hx2]
      subst hh
      have h4 := a4 i hi1
      rw [hi2] at h4
      refine W.bind (w_probed r f L i g (stA r f p k j) (by omega) (stA_lt hr hf p k j) h4.1 h4.2) ?_
      rintro _ ⟨L', rfl, hl', hL1, hL2, hL3⟩
      simp only [D.nth_zero, D.nth_succ, D.bool_b, D.list_n]
      have hnew : ∀ i', i' < l.length → ((D.nth L' i').at' 0).bool = (stA r f p (idS (D.nth l i')) (j + 1)).1 ∧ ((D.nth L' i').at' 1).int = (stA r f p (idS (D.nth l i')) (j + 1)).2 := fun i' hi' => by
        by_cases he : i' = i
        · subst he
          rw [stA_self (by rw [hi2]; exact hpk), hi2, hpg]
          exact ⟨hL2, hL3⟩
        · rw [hL1 i' he, stA_other (by rw [hpk, ← hi2]; exact inc_ne hinc hi1 hi' (fun e => he e.symm))]
          exact a4 i' hi'
      have hle : ∀ j', j' < j + 1 → ((D.nth p j').at' 0).int ≤ t := fun j' hj' => by
        by_cases he : j' = j
        · subst he; exact ha
        · exact a3 j' (by omega)
      have htr : trB r f p j = (pz r f (stA r f p k j) g).2 := by unfold trB; rw [hpk, hpg]
      refine W.cond (fun hb => ?_) (fun hb => ?_)
      · refine W.cond (fun _ => ?_) (fun h => by simp at h; omega)
        refine W.cond (fun _ => ?_) (fun h => absurd (lim_mk (n := (tl r f p j).length + 1) (by omega)) (by rw [h]; simp))
        have := ih (j + 1, L') ⟨by simp only; omega, by simp only; omega, hle, hnew⟩ (by simp only; omega)
        simp only [tl, htr, hb, cond_true, TJ, hpk, hx1] at this
        rw [hL2, pz_turn hb, Bool.not_not]
        exact this
      · have := ih (j + 1, L') ⟨by simp only; omega, by simp only; omega, hle, hnew⟩ (by simp only; omega)
        simp only [tl, htr, hb, cond_false, List.append_nil] at this
        exact this
    · simp at hj
      have : j = p.length := by omega
      exact W.ret ⟨j, L, rfl, ⟨a1, a3, fun h => by omega⟩, a2, fun i hi => (a4 i hi).1⟩
  · have : D.nth (List.replicate l.length (D.n [])) i = .n [] := by
      rw [nth_eq (by simpa using hi)]; simp
    simp only [this, stA]
    exact ⟨rfl, rfl⟩
  · rintro _ ⟨J, L, rfl, h1, h2, h3⟩
    exact W.ret ⟨J, L, rfl, h1, h2, h3⟩
/-! ### The fault of a health -/
def hB (x : D) : Bool := bif (bif ltI (x.at' 0).int 1 then true else gtI (x.at' 0).int 100) then true else (bif ltI (x.at' 1).int 1 then true else gtI (x.at' 1).int 100)
theorem w_HealthFault1 (x : D) : W (fun K _ => f_upstream_HealthFault K x) (fun r => r = [.i (bif hB x then 1 else 0)]) := by
  unfold f_upstream_HealthFault
  simp only [p_kit_Outside, D.nth_zero, D.bool_b, D.int_i]
  refine W.cond (fun h => W.ret ?_) (fun h => W.ret ?_)
  · have : hB x = true := h
    rw [this]; rfl
  · have : hB x = false := h
    rw [this]; rfl
theorem w_HealthFault2 (x : D) : W (fun K _ => f_gateref2_HealthFault K x) (fun r => r = [.i (bif hB x then 1 else 0)]) := by
  unfold f_gateref2_HealthFault
  simp only [p_gateref2_in, D.nth_zero, D.bool_b, D.int_i, in_out]
  refine W.cond (fun h => W.ret ?_) (fun h => W.ret ?_)
  · have : hB x = true := h
    rw [this]; rfl
  · have : hB x = false := h
    rw [this]; rfl
theorem hB_ok {r f : Int} (h : hB (.n [.i r, .i f]) = false) : (1 ≤ r ∧ r ≤ 100) ∧ (1 ≤ f ∧ f ≤ 100) := by
  simp only [hB, D.at_n, D.nth_zero, D.nth_succ, D.int_i] at h
  cases h1 : ltI r 1 <;> cases h2 : gtI r 100 <;> cases h3 : ltI f 1 <;> cases h4 : gtI f 100 <;> rw [h1, h2, h3, h4] at h <;> simp at h <;> simp at h1 h2 h3 h4 <;> omega
def E1 (l : List D) (h : D) (p : List D) : Int := bif (D.nth (insD l) 0).int != 0 then (D.nth (insD l) 0).int else bif hB h then 1 else (D.nth (prD l p) 0).int
theorem errD_i (r : Nat × List D) (h : ∀ x ∈ r.2, ∃ n : Int, x = .i n) (h1 : r.1 = 0 → r.2 ≠ []) : ∃ n : Int, errD r = [.i n] := by
  unfold errD
  cases hb : r.1.beq 0 with
  | false => exact ⟨0, rfl⟩
  | true =>
    obtain ⟨a, b⟩ := r
    cases b with
    | nil => exact absurd rfl (h1 (Nat.eq_of_beq_eq_true hb))
    | cons x b =>
      obtain ⟨n, rfl⟩ := h x (by simp)
      exact ⟨n, rfl⟩
theorem errScan_i (F : Nat → Int) (m : Nat) : ∃ n : Int, errD (scan (errAt F) (1, []) m 0) = [.i n] := by
  rcases scan_cases (errAt F) (1, []) m 0 with ⟨i, r, h1, h2, h3, h4, _⟩ | ⟨h1, h2⟩
  · rw [h4]
    unfold errAt at h3
    cases hc : F i != 0 with
    | false => rw [hc] at h3; cases h3
    | true => rw [hc] at h3; cases h3; exact ⟨_, rfl⟩
  · rw [h2]; exact ⟨0, rfl⟩
theorem insD_i (l : List D) : ∃ n : Int, insD l = [.i n] := by
  unfold insD
  cases gtI (l.length : Int) 50 with
  | true => exact ⟨2, rfl⟩
  | false => exact errScan_i _ _
theorem prD_i (l r : List D) : ∃ n : Int, prD l r = [.i n] := by
  unfold prD
  cases gtI (r.length : Int) 2000 with
  | true => exact ⟨2, rfl⟩
  | false => exact errScan_i _ _
theorem w_healthFault (l p : List D) (h : D) (hl : InL l) (hp : PrL p) : W (fun K _ => f_upstream_healthFault K (.n l) h (.n p)) (fun r => r = [.i (E1 l h p)]) := by
  obtain ⟨ei, hei⟩ := insD_i l
  obtain ⟨ep, hep⟩ := prD_i l p
  unfold f_upstream_healthFault E1
  refine W.bind (w_CheckInstances l hl) ?_
  rintro _ rfl
  rw [hei, hep]
  simp only [D.nth_zero, D.int_i]
  refine W.cond (fun h1 => W.ret (by rw [h1]; rfl)) (fun h1 => ?_)
  rw [h1, cond_false]
  refine W.bind (w_HealthFault1 h) ?_
  rintro _ rfl
  simp only [D.nth_zero, D.int_i]
  cases hb : hB h with
  | true => exact W.cond (fun _ => W.ret rfl) (fun h => by simp at h)
  | false =>
    refine W.cond (fun h => by simp at h) (fun _ => ?_)
    refine W.bind (w_CheckProbes l p hl hp) ?_
    rintro _ rfl
    rw [hei, hep]
    simp only [D.nth_zero, D.int_i, h1, cond_false]
    exact W.ret rfl
structure Fine (l p : List D) (r f : Int) : Prop where
  inc : Inc idS l
  key : ∀ j, j < p.length → (l.any fun x => idS x == pk p j) = true
  mom : ∀ j, j < p.length → momB ((D.nth p j).at' 0).int = true
  mono : ∀ (d j : Nat), j + d < p.length → ((D.nth p j).at' 0).int ≤ ((D.nth p (j + d)).at' 0).int
  r : 1 ≤ r ∧ r ≤ 100
  f : 1 ≤ f ∧ f ≤ 100
theorem fine {l p : List D} {r f : Int} (hl : InL l) (hp : PrL p) (h : E1 l (.n [.i r, .i f]) p = 0) : Fine l p r f := by
  unfold E1 at h
  cases h1 : (D.nth (insD l) 0).int != 0 with
  | true => rw [h1, cond_true] at h; simp [h] at h1
  | false =>
    rw [h1, cond_false] at h
    cases h2 : hB (.n [.i r, .i f]) with
    | true => rw [h2] at h; simp at h
    | false =>
      rw [h2, cond_false] at h
      have hz := prD_zero (l := l) hp h
      exact ⟨insD_zero hl (by simpa using h1), fun j hj => (hz j hj).2, fun j hj => (hz j hj).1, pr_mono (prD_ord hp h), (hB_ok h2).1, (hB_ok h2).2⟩
theorem Fine.upto {l p : List D} {r f : Int} (h : Fine l p r f) {t : Int} {J : Nat} (hJ : Upto p t J) : ∀ j, J ≤ j → j < p.length → t < ((D.nth p j).at' 0).int := fun j h1 h2 => by
  have := hJ.2.2 (by omega)
  have h3 := h.mono (j - J) J (by omega)
  rw [show J + (j - J) = j by omega] at h3
  omega
theorem w_Turns (r f : Int) (l p : List D) (hl : InL l) (hp : PrL p) : W (fun K _ => f_upstream_Turns K (.n l) (.n [.i r, .i f]) (.n p)) (fun q => q = [.i (E1 l (.n [.i r, .i f]) p), .n (bif E1 l (.n [.i r, .i f]) p == 0 then tl r f p p.length else [])]) := by
  unfold f_upstream_Turns
  refine W.bind (w_healthFault l p _ hl hp) ?_
  rintro _ rfl
  simp only [D.nth_zero, D.int_i]
  refine W.cond (fun h => W.ret ?_) (fun h => ?_)
  · have : (E1 l (.n [.i r, .i f]) p == 0) = false := by simpa [bne] using h
    rw [this]; rfl
  have hE : E1 l (.n [.i r, .i f]) p = 0 := by simpa using h
  have hF := fine hl hp hE
  refine W.bind (w_turns r f l p 345686400000 hl hp hF.inc hF.key hF.r hF.f) ?_
  rintro _ ⟨J, L, rfl, hJ, _, _⟩
  rw [hE]
  have : J = p.length := by
    rcases Nat.lt_or_ge J p.length with h1 | h1
    · have h2 := hJ.2.2 h1
      have h3 := hF.mom J h1
      unfold momB at h3
      cases h4 : geI ((D.nth p J).at' 0).int 0 <;> rw [h4] at h3 <;> simp at h3
      omega
    · have := hJ.1; omega
  subst this
  exact W.ret rfl
def upK (c : Nat → Bool) (l : List D) : Nat → List D
  | 0 => []
  | k + 1 => upK c l k ++ (bif !c k then [(D.nth l k).at' 0] else [])
theorem upK_len (c : Nat → Bool) (l : List D) : ∀ k, (upK c l k).length ≤ k
  | 0 => by simp [upK]
  | k + 1 => by
    have := upK_len c l k
    simp only [upK]
    cases !c k <;> simp <;> omega
def dn (r f : Int) (p l : List D) (J : Nat) (i : Nat) : Bool := (stA r f p (idS (D.nth l i)) J).1
theorem w_Up (r f : Int) (l p : List D) (t : Int) (hl : InL l) (hp : PrL p) : W (fun K _ => f_upstream_Up K (.n l) (.n [.i r, .i f]) (.n p) (.i t)) (fun q =>
    (E1 l (.n [.i r, .i f]) p ≠ 0 ∧ q = [.i (E1 l (.n [.i r, .i f]) p), .n []]) ∨ (E1 l (.n [.i r, .i f]) p = 0 ∧ momB t = false ∧ q = [.i 1, .n []]) ∨
    (E1 l (.n [.i r, .i f]) p = 0 ∧ momB t = true ∧ ∃ J, Upto p t J ∧ q = [.i 0, .n (upK (dn r f p l J) l l.length)])) := by
  have hl10 := hl.1
  unfold f_upstream_Up
  refine W.bind (w_healthFault l p _ hl hp) ?_
  rintro _ rfl
  simp only [D.nth_zero, D.int_i]
  refine W.cond (fun h => W.ret (.inl ⟨by simpa using h, rfl⟩)) (fun h => ?_)
  have hE : E1 l (.n [.i r, .i f]) p = 0 := by simpa using h
  have hF := fine hl hp hE
  have hmo : (D.nth (p_kit_IsMoment (.i t)) 0).bool = momB t := rfl
  rw [hmo]
  refine W.cond (fun h => W.ret (.inr (.inl ⟨hE, by simpa using h, rfl⟩))) (fun h6 => ?_)
  refine W.bind (w_turns r f l p t hl hp hF.inc hF.key hF.r hF.f) ?_
  rintro _ ⟨J, L, rfl, hJ, hL, hd⟩
  simp only [D.nth_zero, D.nth_succ, D.list_n]
  refine W.bind (p := fun q => q = (0, [.n L, .n (upK (dn r f p l J) l l.length)])) (W.rounds (S := Nat) (fun k => [.n l, .i (l.length : Int), .i (k : Int), .n L, .n (upK (dn r f p l J) l k)]) (fun k => k ≤ l.length) (fun k => l.length - k) (fun k hI rc ih => ?_) 0 (by simp)) ?_
  · have hc := upK_len (dn r f p l J) l k
    unfold b_upstream_Up_0
    simp only [D.nth_zero, D.nth_succ, D.int_i, D.list_n, Int.toNat_natCast]
    have e1 : IntKind.i64.wrap ((k : Int) + 1) = ((k + 1 : Nat) : Int) := by rw [wrap_i64 (by omega) (by omega)]; omega
    rw [e1]
    refine W.cond (fun hk => ?_) (fun hk => ?_)
    · simp at hk
      refine W.cond (fun _ => ?_) (fun h => by simp at h; omega)
      refine W.cond (fun _ => ?_) (fun h => by simp at h; omega)
      rw [hd k hk]
      have ih := ih (k + 1) (by omega) (by omega)
      have he : (stA r f p (idS (D.nth l k)) J).1 = dn r f p l J k := rfl
      rw [he]
      refine W.cond (fun hb => ?_) (fun hb => ?_)
      · refine W.cond (fun _ => ?_) (fun h => absurd (lim_mk (n := (upK (dn r f p l J) l k).length + 1) (by omega)) (by rw [h]; simp))
        simp only [upK, hb, cond_true] at ih
        exact ih
      · simp only [upK, hb, cond_false, List.append_nil] at ih
        exact ih
    · simp at hk
      have : k = l.length := by omega
      rw [this]
      exact W.ret rfl
  rintro _ rfl
  exact W.ret (.inr (.inr ⟨hE, by simpa using h6, J, hJ, rfl⟩))
/-! ### The other side: each instance by itself -/
def hit (l p : List D) (i j : Nat) : Bool := (l.take i).any fun x => idS x == pk p j
def cell (r f : Int) (l p : List D) (i j : Nat) : D := bif hit l p i j && trB r f p j then .n [TJ r f p j] else .n []
theorem hit_succ {l p : List D} {i j : Nat} (hi : i < l.length) : hit l p (i + 1) j = (hit l p i j || (idS (D.nth l i) == pk p j)) := by
  unfold hit
  rw [take_nth hi, List.any_append]
  simp
theorem w_round (r f : Int) (l p : List D) (i : Nat) (R : List D) (hi : i < l.length) (hl : InL l) (hp : PrL p) (hr : 1 ≤ r ∧ r ≤ 100) (hf : 1 ≤ f ∧ f ≤ 100) (hR : R.length = p.length) (hc : ∀ j, j < p.length → D.nth R j = cell r f l p i j) :
    W (fun K _ => fixN (b_gateref2_TurnsOf_1 K) K [.n [.i r, .i f], .b true, .i 0, .n p, .i (p.length : Int), .i 0, .n R, D.nth l i]) (fun q => ∃ R' x, q = (0, [.n R', x]) ∧ R'.length = p.length ∧ ∀ j, j < p.length → D.nth R' j = cell r f l p (i + 1) j) := by
  have hl10 := hl.1
  have hp4 := hp.1
  obtain ⟨a, w, hx, ha, hx0, hx1⟩ := hl.nth hi
  have hid : idS (D.nth l i) = a := by unfold idS; rw [hx0]; rfl
  generalize hX : D.nth l i = X at hx0 hid
  generalize hh : D.n [.i r, .i f] = h
  have hh0 : (h.at' 0).int = r := by rw [← hh]; rfl
  have hh1 : (h.at' 1).int = f := by rw [← hh]; rfl
  refine W.rounds (S := Nat × List D) (fun q => [h, .b (!(stA r f p a q.1).1), .i (stA r f p a q.1).2, .n p, .i (p.length : Int), .i (q.1 : Int), .n q.2, X])
      (fun q => q.1 ≤ p.length ∧ q.2.length = p.length ∧ (∀ j, j < p.length → D.nth q.2 j = bif decide (j < q.1) then cell r f l p (i + 1) j else cell r f l p i j))
      (fun q => p.length - q.1) (fun q hI rc ih => ?_) (0, R) ⟨by simp, hR, fun j hj => by simpa using hc j hj⟩
  obtain ⟨j, R⟩ := q
  obtain ⟨a1, a2, a3⟩ := hI
  simp only at a1 a2 a3
  have hlt := stA_lt hr hf p a j
  have hrow := stA_row hr hf p a j
  unfold b_gateref2_TurnsOf_1
  simp only [D.nth_zero, D.nth_succ, D.int_i, D.list_n, D.bool_b, Int.toNat_natCast, hh0, hh1]
  have e1 : IntKind.i64.wrap ((j : Int) + 1) = ((j + 1 : Nat) : Int) := by rw [wrap_i64 (by omega) (by omega)]; omega
  have e2 : IntKind.i64.wrap ((stA r f p a j).2 + 1) = (stA r f p a j).2 + 1 := wrap_i64 (by omega) (by omega)
  rw [e1]
  refine W.cond (fun hj => ?_) (fun hj => ?_)
  · simp at hj
    refine W.cond (fun _ => ?_) (fun h => by simp at h; omega)
    obtain ⟨m, k, g, hy, hy0, hy1, hy2⟩ := hp.nth hj
    have hpk : pk p j = k := by unfold pk; rw [hy1]; rfl
    have hpg : pg p j = g := by unfold pg; rw [hy2]; rfl
    have hXs : (X.at' 0).str = a := hid
    rw [hXs, hy0, hy1, hy2]
    simp only [D.str_s, D.bool_b]
    have hhs := hit_succ (p := p) (j := j) hi
    rw [hX, hid, hpk] at hhs
    have keep : ∀ (R' : List D), R'.length = p.length → (∀ q, q ≠ j → D.nth R' q = D.nth R q) → D.nth R' j = cell r f l p (i + 1) j → ∀ q, q < p.length → D.nth R' q = bif decide (q < j + 1) then cell r f l p (i + 1) q else cell r f l p i q := fun R' _ h1 h2 q hq => by
      by_cases he : q = j
      · subst he
        simpa using h2
      · rw [h1 q he, a3 q hq]
        have : decide (q < j + 1) = decide (q < j) := by
          rw [decide_eq_decide]; omega
        rw [this]
    have hRj : D.nth R j = cell r f l p i j := by rw [a3 j hj]; simp
    refine W.cond (fun hne => ?_) (fun hne => ?_)
    · have hka : k ≠ a := by simpa using hne
      have hka' : (a == k) = false := by simpa using fun e => hka e.symm
      have h1 := ih (j + 1, R) ⟨by simp only; omega, a2, keep R a2 (fun _ _ => rfl) (by rw [hRj]; unfold cell; rw [hhs, hka', Bool.or_false])⟩ (by simp only; omega)
      simp only [stA_other (r := r) (f := f) (show pk p j ≠ a by rw [hpk]; exact hka)] at h1
      exact h1
    have hka : k = a := by simpa using hne
    subst hka
    have hss := stA_self (r := r) (f := f) hpk
    rw [hpg] at hss
    have htr : trB r f p j = (pz r f (stA r f p k j) g).2 := by unfold trB; rw [hpk, hpg]
    have hTJ : TJ r f p j = .n [.i m, .s k, .b (stA r f p k j).1] := by unfold TJ; rw [hpk, hy0, hy1]
    generalize hS : stA r f p k j = S at *
    obtain ⟨d, n⟩ := S
    simp only at hlt hrow ⊢
    have stay : (pz r f (d, n) g).2 = false → cell r f l p i j = cell r f l p (i + 1) j := fun hb => by
      unfold cell
      rw [htr, hb]
      simp
    refine W.cond (fun hg => ?_) (fun hg => ?_)
    · have hgd : (!(g == d)) = true := by
        cases g <;> cases d <;> simp at hg ⊢
      have hpz : pz r f (d, n) g = ((d, 0), false) := by simp only [pz, hgd, cond_true]
      have h1 := ih (j + 1, R) ⟨by simp only; omega, a2, keep R a2 (fun _ _ => rfl) (by rw [hRj]; exact stay (by rw [hpz]))⟩ (by simp only; omega)
      simp only [hss, hpz] at h1
      exact h1
    have hgd : (!(g == d)) = false := by
      cases g <;> cases d <;> simp at hg ⊢
    rw [e2]
    have hmost : (bif bif !d then (n + 1 == f) else false then true else bif !!d then (n + 1 == r) else false) = (n + 1 == most r f d) := by
      cases d <;> simp [most]
    rw [hmost]
    refine W.cond (fun ht => ?_) (fun ht => ?_)
    · have hnl : ltI (n + 1) (most r f d) = false := by
        simp at ht ⊢; omega
      have hpz : pz r f (d, n) g = ((!d, 0), true) := by simp only [pz, hgd, hnl, cond_false]
      refine W.cond (fun _ => ?_) (fun h => by simp at h; omega)
      have hX0 : X.at' 0 = .s k := hx0
      have h1 := ih (j + 1, D.setNth R j (.n [.n [.i m, .s k, .b d]])) ⟨by simp only; omega, by simp only; rw [length_setNth (by omega)]; exact a2, keep _ (by rw [length_setNth (by omega)]; exact a2) (fun q hq => by rw [nth_setNth', if_neg hq]) ?_⟩ (by simp only; omega)
      · simp only [hss, hpz, Bool.not_not] at h1
        rw [hX0, Bool.not_not]
        exact h1
      · rw [at_set_same]
        unfold cell
        rw [hhs, htr, hpz, hTJ]
        simp
    · have hnl : ltI (n + 1) (most r f d) = true := by
        simp at ht ⊢; omega
      have hpz : pz r f (d, n) g = ((d, n + 1), false) := by simp only [pz, hgd, hnl, cond_false, cond_true]
      have h1 := ih (j + 1, R) ⟨by simp only; omega, a2, keep R a2 (fun _ _ => rfl) (by rw [hRj]; exact stay (by rw [hpz]))⟩ (by simp only; omega)
      simp only [hss, hpz] at h1
      exact h1
  · simp at hj
    have : j = p.length := by omega
    subst this
    exact W.ret ⟨R, X, rfl, a2, fun q hq => by rw [a3 q hq]; simp [hq]⟩
theorem w_TurnsOf (r f : Int) (l p : List D) (hl : InL l) (hp : PrL p) (hF : Fine l p r f) : W (fun K _ => f_gateref2_TurnsOf K (.n l) (.n [.i r, .i f]) (.n p)) (fun q => q = [.n (tl r f p p.length)]) := by
  have hl10 := hl.1
  have hp4 := hp.1
  unfold f_gateref2_TurnsOf
  simp only [D.list_n, Int.toNat_natCast]
  refine W.cond (fun _ => ?_) (fun h => absurd (lim_mk (n := p.length) (by omega)) (by simpa using h))
  refine W.bind (p := fun q => ∃ R, q = (0, [.n R]) ∧ R.length = p.length ∧ ∀ j, j < p.length → D.nth R j = cell r f l p l.length j) (W.rounds (S := Nat × List D) (fun q => [.n p, .n [.i r, .i f], .n l, .i (l.length : Int), .i (q.1 : Int), .n q.2])
      (fun q => q.1 ≤ l.length ∧ q.2.length = p.length ∧ ∀ j, j < p.length → D.nth q.2 j = cell r f l p q.1 j)
      (fun q => l.length - q.1) (fun q hI rc ih => ?_) (0, List.replicate p.length (.n [])) ⟨by simp, by simp, fun j hj => ?_⟩) ?_
  · obtain ⟨i, R⟩ := q
    obtain ⟨a1, a2, a3⟩ := hI
    simp only at a1 a2 a3
    unfold b_gateref2_TurnsOf_0
    simp only [D.nth_zero, D.nth_succ, D.int_i, D.list_n, Int.toNat_natCast]
    have e1 : IntKind.i64.wrap ((i : Int) + 1) = ((i + 1 : Nat) : Int) := by rw [wrap_i64 (by omega) (by omega)]; omega
    rw [e1]
    refine W.cond (fun hj => ?_) (fun hj => ?_)
    · simp at hj
      refine W.cond (fun _ => ?_) (fun h => by simp at h; omega)
      refine W.bind (w_round r f l p i R hj hl hp hF.r hF.f a2 a3) ?_
      rintro _ ⟨R', x, rfl, h1, h2⟩
      exact ih (i + 1, R') ⟨by simp only; omega, h1, h2⟩ (by simp only; omega)
    · simp at hj
      have : i = l.length := by omega
      subst this
      exact W.ret ⟨R, rfl, a2, a3⟩
  · have : D.nth (List.replicate p.length (D.n [])) j = .n [] := by
      rw [nth_eq (by simpa using hj)]; simp
    simp only [this]
    unfold cell hit
    simp
  rintro _ ⟨R, rfl, hR, hc⟩
  simp only [D.nth_zero, D.nth_succ, D.list_n]
  rw [hR]
  have hc' : ∀ j, j < p.length → D.nth R j = bif trB r f p j then .n [TJ r f p j] else .n [] := fun j hj => by
    rw [hc j hj]
    unfold cell hit
    rw [List.take_length, hF.key j hj, Bool.true_and]
  refine W.bind (p := fun q => q = (0, [.n R, .n (tl r f p p.length)])) (W.rounds (S := Nat) (fun k => [.i (p.length : Int), .i (k : Int), .n R, .n (tl r f p k)]) (fun k => k ≤ p.length) (fun k => p.length - k) (fun k hI rc ih => ?_) 0 (by simp)) ?_
  · have htl := tl_len r f p k
    unfold b_gateref2_TurnsOf_2
    simp only [D.nth_zero, D.nth_succ, D.int_i, D.list_n, Int.toNat_natCast]
    have e1 : IntKind.i64.wrap ((k : Int) + 1) = ((k + 1 : Nat) : Int) := by rw [wrap_i64 (by omega) (by omega)]; omega
    rw [e1]
    refine W.cond (fun hk => ?_) (fun hk => ?_)
    · simp at hk
      refine W.cond (fun _ => ?_) (fun h => by simp at h; omega)
      rw [hc' k hk]
      have ih := ih (k + 1) (by omega) (by omega)
      cases hb : trB r f p k with
      | true =>
        simp only [tl, hb, cond_true] at ih
        simp only [cond_true, D.list_n, D.nth_zero]
        refine W.cond (fun _ => ?_) (fun h => by simp at h)
        refine W.cond (fun _ => ?_) (fun h => by simp at h)
        exact W.cond (fun _ => ih) (fun h => absurd (lim_mk (n := (tl r f p k).length + 1) (by omega)) (by rw [h]; simp))
      | false =>
        simp only [tl, hb, cond_false, List.append_nil] at ih
        simp only [cond_false, D.list_n]
        exact W.cond (fun h => by simp at h) (fun _ => ih)
    · simp at hk
      have : k = p.length := by omega
      rw [this]
      exact W.ret rfl
  rintro _ rfl
  exact W.ret rfl
/-! ### Who is up -/
theorem get_setM (k k' v : D) : ∀ (m : List D), mapGet .str k (mapSet .str k' v m) = bif k.str == k'.str then v else mapGet .str k m
  | [] => by
    simp only [mapSet, mapGet, eqK, D.at_n, D.nth_zero, D.nth_succ]
  | x :: m => by
    have ih := get_setM k k' v m
    simp only [mapSet, eqK]
    cases h1 : k'.str == (x.at' 0).str with
    | true =>
      have e1 : k'.str = (x.at' 0).str := by simpa using h1
      simp only [cond_true, mapGet, eqK, D.at_n, D.nth_zero, D.nth_succ]
      rw [e1]
      cases k.str == (x.at' 0).str <;> rfl
    | false =>
      simp only [cond_false, mapGet, eqK]
      cases h2 : k.str == (x.at' 0).str with
      | true =>
        have e2 : k.str = (x.at' 0).str := by simpa using h2
        have : (k.str == k'.str) = false := by
          rw [e2]
          have : k'.str ≠ (x.at' 0).str := by simpa using h1
          simpa using fun h => this h.symm
        rw [this]
        rfl
      | false => exact ih
def stM (t : Int) (m : List D) (x : D) : List D := bif leI (x.at' 0).int t then mapSet .str (x.at' 1) (.b (!(x.at' 2).bool)) m else m
theorem map_down {l p : List D} {r f : Int} (hF : Fine l p r f) {t : Int} {J : Nat} (hJ : Upto p t J) (k : D) : ∀ j, j ≤ p.length → (mapGet .str k ((tl r f p j).foldl (stM t) [])).bool = (stA r f p k.str (min j J)).1
  | 0, _ => by simp only [tl, List.foldl_nil, mapGet, Nat.zero_min, stA]; rfl
  | j + 1, hj => by
    have ih := map_down hF hJ k j (by omega)
    simp only [tl, List.foldl_append]
    rcases Nat.lt_or_ge j J with h1 | h1
    · have hle : leI ((D.nth p j).at' 0).int t = true := by simpa using hJ.2.1 j h1
      rw [show min j J = j by omega] at ih
      rw [show min (j + 1) J = j + 1 by omega]
      cases hb : trB r f p j with
      | true =>
        have hst : stM t ((tl r f p j).foldl (stM t) []) (TJ r f p j) = mapSet .str ((D.nth p j).at' 1) (.b (!(stA r f p (pk p j) j).1)) ((tl r f p j).foldl (stM t) []) := by
          unfold stM TJ
          simp only [D.at_n, D.nth_zero, D.nth_succ, D.bool_b, hle, cond_true]
        simp only [cond_true, List.foldl_cons, List.foldl_nil]
        rw [hst, get_setM]
        have hpk : ((D.nth p j).at' 1).str = pk p j := rfl
        rw [hpk]
        cases hk : k.str == pk p j with
        | true =>
          have hk : k.str = pk p j := by simpa using hk
          rw [hk, stA_self rfl]
          unfold trB at hb
          rw [pz_turn hb]
          rfl
        | false =>
          rw [cond_false, stA_other (fun e => by rw [e] at hk; simp at hk)]
          exact ih
      | false =>
        simp only [cond_false, List.foldl_nil]
        rw [ih]
        by_cases hk : pk p j = k.str
        · rw [stA_self hk]
          unfold trB at hb
          rw [hk] at hb
          rw [pz_stay hb]
        · rw [stA_other hk]
    · have hlt := hF.upto hJ j h1 (by omega)
      have hle : leI ((D.nth p j).at' 0).int t = false := by simpa using hlt
      rw [show min j J = J by omega] at ih
      rw [show min (j + 1) J = J by omega]
      cases hb : trB r f p j with
      | true =>
        have hst : stM t ((tl r f p j).foldl (stM t) []) (TJ r f p j) = (tl r f p j).foldl (stM t) [] := by
          unfold stM TJ
          simp only [D.at_n, D.nth_zero, hle, cond_false]
        simp only [cond_true, List.foldl_cons, List.foldl_nil]
        rw [hst]
        exact ih
      | false => exact ih
theorem w_UpOf (r f : Int) (l p : List D) (t : Int) (J : Nat) (hl : InL l) (hp : PrL p) (hF : Fine l p r f) (hJ : Upto p t J) : W (fun K _ => f_gateref2_UpOf K (.n l) (.n [.i r, .i f]) (.n p) (.i t)) (fun q => q = [.n (upK (dn r f p l J) l l.length)]) := by
  have hl10 := hl.1
  have hp4 := hp.1
  unfold f_gateref2_UpOf
  refine W.bind (w_TurnsOf r f l p hl hp hF) ?_
  rintro _ rfl
  simp only [D.nth_zero, D.nth_succ, D.list_n]
  have htl := tl_len r f p p.length
  have hmd := fun k => map_down hF hJ k p.length (Nat.le_refl _)
  generalize tl r f p p.length = T at htl hmd
  refine W.bind (p := fun q => q = (0, [.n (T.foldl (stM t) []), .n T])) (W.rounds (S := Nat) (fun m => [.i t, .i (T.length : Int), .i (m : Int), .n ((T.take m).foldl (stM t) []), .n T]) (fun m => m ≤ T.length) (fun m => T.length - m) (fun m hI rc ih => ?_) 0 (by simp)) ?_
  · unfold b_gateref2_UpOf_0
    simp only [D.nth_zero, D.nth_succ, D.int_i, D.list_n, Int.toNat_natCast]
    have e1 : IntKind.i64.wrap ((m : Int) + 1) = ((m + 1 : Nat) : Int) := by rw [wrap_i64 (by omega) (by omega)]; omega
    rw [e1]
    refine W.cond (fun hm => ?_) (fun hm => ?_)
    · simp at hm
      refine W.cond (fun _ => ?_) (fun h => by simp at h; omega)
      have ih := ih (m + 1) (by omega) (by omega)
      rw [take_nth hm, List.foldl_append, List.foldl_cons, List.foldl_nil] at ih
      refine W.cond (fun hb => ?_) (fun hb => ?_)
      · have : stM t ((T.take m).foldl (stM t) []) (D.nth T m) = mapSet .str ((D.nth T m).at' 1) (.b (!((D.nth T m).at' 2).bool)) ((T.take m).foldl (stM t) []) := by
          generalize (T.take m).foldl (stM t) [] = M
          simp only [stM, hb, cond_true]
        rw [this] at ih
        exact ih
      · have : stM t ((T.take m).foldl (stM t) []) (D.nth T m) = (T.take m).foldl (stM t) [] := by
          generalize (T.take m).foldl (stM t) [] = M
          simp only [stM, hb, cond_false]
        rw [this] at ih
        exact ih
    · simp at hm
      have : m = T.length := by omega
      subst this
      rw [List.take_length]
      exact W.ret rfl
  rintro _ rfl
  simp only [D.nth_zero, D.nth_succ, D.list_n]
  generalize T.foldl (stM t) [] = M at hmd
  have hmd' : ∀ k, (mapGet .str k M).bool = (stA r f p k.str J).1 := fun k => by rw [hmd, Nat.min_eq_right hJ.1]
  refine W.bind (p := fun q => q = (0, [.n M, .n (upK (dn r f p l J) l l.length)])) (W.rounds (S := Nat) (fun k => [.n l, .i (l.length : Int), .i (k : Int), .n M, .n (upK (dn r f p l J) l k)]) (fun k => k ≤ l.length) (fun k => l.length - k) (fun k hI rc ih => ?_) 0 (by simp)) ?_
  · have hc := upK_len (dn r f p l J) l k
    unfold b_gateref2_UpOf_1
    simp only [D.nth_zero, D.nth_succ, D.int_i, D.list_n, Int.toNat_natCast]
    have e1 : IntKind.i64.wrap ((k : Int) + 1) = ((k + 1 : Nat) : Int) := by rw [wrap_i64 (by omega) (by omega)]; omega
    rw [e1]
    refine W.cond (fun hk => ?_) (fun hk => ?_)
    · simp at hk
      refine W.cond (fun _ => ?_) (fun h => by simp at h; omega)
      rw [hmd']
      have ih := ih (k + 1) (by omega) (by omega)
      have he : (stA r f p ((D.nth l k).at' 0).str J).1 = dn r f p l J k := rfl
      rw [he]
      refine W.cond (fun hb => ?_) (fun hb => ?_)
      · refine W.cond (fun _ => ?_) (fun h => absurd (lim_mk (n := (upK (dn r f p l J) l k).length + 1) (by omega)) (by rw [h]; simp))
        simp only [upK, hb, cond_true] at ih
        exact ih
      · simp only [upK, hb, cond_false, List.append_nil] at ih
        exact ih
    · simp at hk
      have : k = l.length := by omega
      rw [this]
      exact W.ret rfl
  rintro _ rfl
  exact W.ret rfl
/-! ### Which error -/
theorem w_when (b : Bool) (e : Int) : W (fun K _ => f_gatelaw2_when K (.b b) (.i e)) (fun r => r = [.i (bif b then e else 0)]) := by
  unfold f_gatelaw2_when
  cases b with
  | true => exact W.ret rfl
  | false => exact W.ret rfl
theorem w_errs2 (x y : Int) : W (fun K _ => f_gatelaw2_errs K (.n [.i x, .i y])) (fun r => r = [.i (bif x != 0 then x else y)]) := by
  unfold f_gatelaw2_errs
  refine W.bind (W.early 2 (fun j => [.n [.i x, .i y], .i 2, .i (j : Int)]) (fun j => bif ((D.nth [.i x, .i y] j).int != 0) then some (0, [D.nth [.i x, .i y] j]) else none) (1, []) (fun j hj hp p rc h1 h2 => ?_) (fun rc => ?_)) ?_
  · unfold b_gatelaw2_errs_0
    simp only [D.nth_zero, D.nth_succ, D.int_i, D.list_n, Int.toNat_natCast]
    refine W.cond (fun _ => ?_) (fun h => by simp at h; omega)
    refine W.cond (fun _ => ?_) (fun h => by simp at h; omega)
    refine W.cond (fun h => W.ret (h1 _ (by rw [h]; rfl))) (fun h => ?_)
    rw [wrap_i64 (by omega) (by omega)]
    exact h2 (by rw [h]; rfl)
  · unfold b_gatelaw2_errs_0
    simp only [D.nth_zero, D.nth_succ, D.int_i]
    exact W.cond (fun h => by simp at h) (fun _ => W.ret rfl)
  · rintro _ rfl
    simp only [scan, D.nth_zero, D.nth_succ, D.int_i]
    cases h1 : x != 0 with
    | true => exact W.ret (by simp)
    | false =>
      cases h2 : y != 0 with
      | true => exact W.ret (by simp)
      | false =>
        have : y = 0 := by simpa using h2
        subst this
        exact W.ret (by simp)
theorem balanced : W (fun K _ => f_gatelaw2_balanced K) (· = [.b true]) :=
  ⟨_, rfl, 20, fun K _ hK _ => by obtain ⟨m, rfl⟩ : ∃ m, K = m + 20 := ⟨K - 20, by omega⟩; kernel_rfl⟩
/-! ### The law -/
theorem w_EqualStr (l : List D) (hl : l.length ≤ 1000) : W (fun K _ => f_slices_Equal_string K (.n l) (.n l)) (fun r => r = [.b true]) := by
  unfold f_slices_Equal_string
  simp only [D.list_n]
  refine W.cond (fun h => by simp at h) (fun _ => ?_)
  refine W.bind (W.early l.length (fun j => [.n l, .n l, .i l.length, .i j]) (fun _ => none) (1, []) (fun j hj hp p rc h1 h2 => ?_) (fun rc => ?_)) ?_
  · unfold b_slices_Equal_string_0
    simp only [D.nth_zero, D.nth_succ, D.list_n, D.int_i, Int.toNat_natCast]
    refine W.cond (fun _ => ?_) (fun h => by simp at h; omega)
    refine W.cond (fun _ => ?_) (fun h => by simp at h; omega)
    refine W.cond (fun _ => ?_) (fun h => by simp at h; omega)
    refine W.cond (fun h => by simp at h) (fun h => ?_)
    rw [wrap_i64 (by omega) (by omega)]
    exact h2 rfl
  · unfold b_slices_Equal_string_0
    simp only [D.nth_zero, D.nth_succ, D.list_n, D.int_i]
    exact W.cond (fun h => by simp at h) (fun _ => W.ret rfl)
  · rintro _ rfl
    rcases scan_cases (fun _ => (none : Option (Nat × List D))) (1, []) l.length 0 with ⟨i, r, h1, h2, h3, _⟩ | ⟨h1, h2⟩
    · cases h3
    · rw [h2]; exact W.ret rfl
theorem w_EqualTurn (l : List D) (hl : l.length ≤ 1000) : W (fun K _ => f_slices_Equal_api_Turn K (.n l) (.n l)) (fun r => r = [.b true]) := by
  unfold f_slices_Equal_api_Turn
  simp only [D.list_n]
  refine W.cond (fun h => by simp at h) (fun _ => ?_)
  refine W.bind (W.early l.length (fun j => [.n l, .n l, .i l.length, .i j]) (fun _ => none) (1, []) (fun j hj hp p rc h1 h2 => ?_) (fun rc => ?_)) ?_
  · unfold b_slices_Equal_api_Turn_0
    simp only [D.nth_zero, D.nth_succ, D.list_n, D.int_i, Int.toNat_natCast, eqK_refl]
    refine W.cond (fun _ => ?_) (fun h => by simp at h; omega)
    refine W.cond (fun _ => ?_) (fun h => by simp at h; omega)
    refine W.cond (fun _ => ?_) (fun h => by simp at h; omega)
    refine W.cond (fun h => by simp at h) (fun h => ?_)
    rw [wrap_i64 (by omega) (by omega)]
    exact h2 rfl
  · unfold b_slices_Equal_api_Turn_0
    simp only [D.nth_zero, D.nth_succ, D.list_n, D.int_i]
    exact W.cond (fun h => by simp at h) (fun _ => W.ret rfl)
  · rintro _ rfl
    rcases scan_cases (fun _ => (none : Option (Nat × List D))) (1, []) l.length 0 with ⟨i, r, h1, h2, h3, _⟩ | ⟨h1, h2⟩
    · cases h3
    · rw [h2]; exact W.ret rfl
theorem w_moment (t : Int) : W (fun K _ => f_gatelaw2_momentFault K (.i t)) (fun r => r = [.i (bif !momB t then 1 else 0)]) := by
  unfold f_gatelaw2_momentFault
  rw [moment2]
  refine W.bind (w_when _ _) ?_
  rintro _ rfl
  exact W.ret rfl
theorem pure (zs : List Int) (h : zs.length ≤ maxLen) (hw : ∀ n ∈ zs, (Lit.int .i64 n).wf = true) : ∃ K, f_gatelaw2_HealthTurns K (.n (zs.map D.i)) = some [.b true] := by
  have : W (fun K _ => f_gatelaw2_HealthTurns K (.n (zs.map D.i))) (· = [.b true]) := by
    unfold f_gatelaw2_HealthTurns
    refine W.bind (w_Instances 0 _ ⟨_, 0, rfl, by omega, by omega⟩ (by omega)) ?_
    rintro _ ⟨s1, l, rfl, hl, h1⟩
    simp only [D.nth_zero, D.nth_succ, D.list_n]
    refine W.bind (w_Health _ s1 h1 (by omega)) ?_
    rintro _ ⟨r, f, s2, rfl, h2⟩
    simp only [D.nth_zero, D.nth_succ]
    refine W.bind (w_PickI _ s2 [0, 5, 20, 50, 100, -1] h2 (by omega) (by simp) (by simp)) ?_
    rintro _ ⟨t, s3, _, rfl, _, h3⟩
    simp only [D.nth_zero, D.nth_succ]
    refine W.bind (w_Probes _ s3 l hl h3 (by omega)) ?_
    rintro _ ⟨s4, p, rfl, hp, h4⟩
    simp only [D.nth_zero, D.nth_succ, D.list_n]
    obtain ⟨ei, hei⟩ := insD_i l
    obtain ⟨ep, hep⟩ := prD_i l p
    have hE : E1 l (.n [.i r, .i f]) p = bif ei != 0 then ei else bif hB (.n [.i r, .i f]) then 1 else ep := by unfold E1; rw [hei, hep]; rfl
    refine W.bind (w_Turns r f l p hl hp) ?_
    rintro _ rfl
    simp only [D.nth_zero, D.nth_succ, D.list_n, D.int_i]
    refine W.bind (w_Up r f l p t hl hp) ?_
    rintro b hb
    refine W.bind (w_InstancesFault l hl) ?_
    rintro _ rfl
    rw [hei]
    simp only [D.nth_zero, D.int_i]
    refine W.bind (p := fun q => q = (0, [.b false, .n l, .n p])) ?_ ?_
    · unfold b_gatelaw2_HealthTurns_0
      simp only [D.nth_zero, D.nth_succ, D.list_n, D.int_i]
      refine W.bind (w_CheckInstances l hl) ?_
      rintro _ rfl
      rw [hei]
      simp only [D.nth_zero, D.int_i]
      refine W.cond (fun _ => ?_) (fun h => by simp at h)
      refine W.bind (w_CheckProbes l p hl hp) ?_
      rintro _ rfl
      refine W.bind (w_ProbesFault l p hl hp) ?_
      rintro _ rfl
      rw [hei, hep]
      simp only [D.nth_zero, D.int_i]
      refine W.bind (w_errs2 _ _) ?_
      rintro _ rfl
      refine W.ret ?_
      simp only [D.nth_zero, D.int_i]
      cases ei != 0 <;> simp
    rintro _ rfl
    simp only [D.nth_zero, D.nth_succ, D.list_n, D.bool_b]
    refine W.bind (w_HealthFault2 _) ?_
    rintro _ rfl
    simp only [D.nth_zero]
    refine W.bind (w_errs2 _ _) ?_
    rintro _ rfl
    simp only [D.nth_zero, D.int_i]
    refine W.bind (p := fun q => q = (0, [.i (E1 l (.n [.i r, .i f]) p), .n l, .n p])) ?_ ?_
    · unfold b_gatelaw2_HealthTurns_1
      simp only [D.nth_zero, D.nth_succ, D.list_n, D.bool_b]
      rw [hE]
      cases he : ei != 0 with
      | true =>
        simp only [cond_true]
        refine W.cond (fun h => ?_) (fun _ => W.ret rfl)
        simp at he h
        exact absurd h he
      | false =>
        simp only [cond_false]
        cases hb : hB (.n [.i r, .i f]) with
        | true => exact W.cond (fun h => by simp at h) (fun _ => W.ret rfl)
        | false =>
          refine W.cond (fun _ => ?_) (fun h => by simp at h)
          refine W.bind (w_ProbesFault l p hl hp) ?_
          rintro _ rfl
          rw [hep]
          exact W.ret rfl
    rintro _ rfl
    simp only [D.nth_zero, D.nth_succ, D.list_n, D.int_i]
    clear hE
    refine W.bind (w_moment t) ?_
    rintro _ rfl
    simp only [D.nth_zero]
    refine W.bind (w_errs2 _ _) ?_
    rintro _ rfl
    simp only [D.nth_zero, D.int_i]
    have hfine : E1 l (.n [.i r, .i f]) p = 0 → Fine l p r f := fine hl hp
    generalize E1 l (.n [.i r, .i f]) p = E at *
    refine W.bind (p := fun q => q = (0, [.n l, .n [.i r, .i f], .n p, .n (bif E == 0 then tl r f p p.length else [])])) ?_ ?_
    · unfold b_gatelaw2_HealthTurns_2
      simp only [D.nth_zero, D.nth_succ, D.list_n, D.bool_b]
      refine W.cond (fun h => ?_) (fun h => W.ret (by rw [h]; rfl))
      rw [h, cond_true]
      refine W.bind (w_TurnsOf r f l p hl hp (hfine (by simpa using h))) ?_
      rintro _ rfl
      exact W.ret rfl
    rintro _ rfl
    simp only [D.nth_zero, D.nth_succ, D.list_n]
    have hu : ∃ U : List D, U.length ≤ 1000 ∧ b = [.i (bif E != 0 then E else bif !momB t then 1 else 0), .n U] ∧
        W (fun K _ => b_gatelaw2_HealthTurns_3 K [.i t, .b ((bif E != 0 then E else bif !momB t then 1 else 0) == 0), .n l, .n [.i r, .i f], .n p]) (fun q => ∃ a b c, q = (0, [a, b, c, .n U])) := by
      rcases hb with ⟨h1, rfl⟩ | ⟨h1, h2, rfl⟩ | ⟨h1, h2, J, hJ, rfl⟩
      · have hz : (E != 0) = true := by simpa using h1
        refine ⟨[], by simp, by rw [hz]; rfl, ?_⟩
        unfold b_gatelaw2_HealthTurns_3
        simp only [D.nth_zero, D.nth_succ, D.list_n, D.bool_b, hz, cond_true]
        exact W.cond (fun h => absurd (by simpa using h) h1) (fun _ => W.ret ⟨_, _, _, rfl⟩)
      · subst h1
        rw [h2]
        refine ⟨[], by simp, rfl, ?_⟩
        unfold b_gatelaw2_HealthTurns_3
        simp only [D.nth_zero, D.nth_succ, D.list_n, D.bool_b]
        exact W.cond (fun h => by simp at h) (fun _ => W.ret ⟨_, _, _, rfl⟩)
      · subst h1
        rw [h2]
        have hlen := upK_len (dn r f p l J) l l.length
        have hl10 := hl.1
        refine ⟨_, by omega, rfl, ?_⟩
        unfold b_gatelaw2_HealthTurns_3
        simp only [D.nth_zero, D.nth_succ, D.list_n, D.bool_b]
        refine W.cond (fun _ => ?_) (fun h => by simp at h)
        refine W.bind (w_UpOf r f l p t J hl hp (hfine rfl) hJ) ?_
        rintro _ rfl
        exact W.ret ⟨_, _, _, rfl⟩
    obtain ⟨U, hU, rfl, hW⟩ := hu
    refine W.bind hW ?_
    rintro _ ⟨_, _, _, rfl⟩
    simp only [D.nth_zero, D.nth_succ, D.list_n, D.int_i]
    refine W.cond (fun _ => ?_) (fun h => by simp at h)
    have hlen : (bif E == 0 then tl r f p p.length else []).length ≤ 1000 := by
      cases E == 0 with
      | true =>
        have := tl_len r f p p.length
        have := hp.1
        simp only [cond_true]
        omega
      | false => simp
    refine W.bind (w_EqualTurn _ hlen) ?_
    rintro _ rfl
    simp only [D.nth_zero, D.bool_b]
    refine W.cond (fun _ => ?_) (fun h => by simp at h)
    refine W.bind (w_EqualStr _ hU) ?_
    rintro _ rfl
    refine W.cond (fun _ => ?_) (fun h => by simp at h)
    refine W.bind balanced ?_
    rintro _ rfl
    exact W.ret rfl
  obtain ⟨K, r, h1, rfl⟩ := this.get
  exact ⟨K, h1⟩
end Go.Proofs.YtlogmjgkbfahjaaP
