/- The plain law: what the printed functions come to. -/
import Derived.Test.YtlogmjgkbfahjaaYtOo
import Derived.Test.YtlogmjgkbfahjaaEvPure
namespace Go.Proofs.YtlogmjgkbfahjaaP
open Go Go.Ev
set_option linter.unusedVariables false
set_option linter.unusedSimpArgs false
/-! ### The stream of numbers -/
def St (c : Int) (s : D) : Prop := ∃ L at', s = .n [L, .i at'] ∧ 0 ≤ at' ∧ at' ≤ c
theorem St.le {c c' : Int} {s : D} (h : St c s) (hc : c ≤ c') : St c' s := let ⟨L, a, h1, h2, h3⟩ := h; ⟨L, a, h1, h2, by omega⟩
theorem w_Below (x n : D) (hn : n.int ≤ 4611686018427387904) : W (fun K _ => f_gatemake_Below K x n) (fun r => ∃ i, r = [.i i] ∧ 0 ≤ i ∧ (1 ≤ n.int → i < n.int)) := by
  unfold f_gatemake_Below
  refine W.cond (fun h => ?_) (fun h => ?_)
  · simp at h
    exact W.ret ⟨0, rfl, by omega, by omega⟩
  · simp at h
    have h1 := Int.tmod_lt_of_pos x.int (show 0 < n.int by omega)
    have h2 := Int.lt_tmod_of_pos x.int (show 0 < n.int by omega)
    refine W.cond (fun _ => ?_) (fun h' => by simp at h'; omega)
    refine W.cond (fun h' => ?_) (fun h' => ?_)
    · simp at h'
      rw [wrap_i64 (by omega) (by omega)]
      exact W.ret ⟨_, rfl, by omega, fun _ => by omega⟩
    · simp at h'
      exact W.ret ⟨_, rfl, by omega, fun _ => by omega⟩
theorem w_Next (c : Int) (n s : D) (hs : St c s) (hc : c ≤ 1000000000000) (hn : n.int ≤ 4611686018427387904) : W (fun K _ => f_gatemake_Stream_Next K n s) (fun r => ∃ i s', r = [.i i, s'] ∧ 0 ≤ i ∧ (1 ≤ n.int → i < n.int) ∧ St (c + 1) s') := by
  obtain ⟨L, a, rfl, h1, h2⟩ := hs
  unfold f_gatemake_Stream_Next
  simp only [D.at_n, D.nth_zero, D.nth_succ, D.int_i]
  have e1 : IntKind.i64.wrap (a + 1) = a + 1 := wrap_i64 (by omega) (by omega)
  have e2 : IntKind.i64.wrap (a + 1 - 1) = a := by rw [wrap_i64 (by omega) (by omega)]; omega
  simp only [e1, e2]
  have hfin : ∀ i : Int, 0 ≤ i → (1 ≤ n.int → i < n.int) → W (fun _ _ => some [D.i i, D.n [L, D.i (a + 1)]]) (fun r => ∃ i s', r = [.i i, s'] ∧ 0 ≤ i ∧ (1 ≤ n.int → i < n.int) ∧ St (c + 1) s') := fun i h3 h4 => W.ret ⟨i, _, rfl, h3, h4, L, a + 1, rfl, by omega, by omega⟩
  refine W.cond (fun h => ?_) (fun h => ?_)
  · refine W.bind (w_Below _ n hn) ?_
    rintro _ ⟨i, rfl, h3, h4⟩
    exact hfin i h3 h4
  · have hL : 0 < L.list.length := by
      simp only [beq_eq_false_iff_ne, ne_eq] at h
      omega
    refine W.cond (fun _ => ?_) (fun h' => by simp at h'; simp [h'] at hL)
    refine W.cond (fun _ => ?_) (fun h' => by simp at h'; simp [h'] at hL)
    have h5 := Int.tmod_nonneg (L.list.length : Int) h1
    have h6 := Int.tmod_lt_of_pos a (show 0 < (L.list.length : Int) by omega)
    refine W.cond (fun _ => ?_) (fun h' => by simp [inB] at h'; omega)
    refine W.bind (w_Below _ (.i 1073741824) (by simp)) ?_
    rintro _ ⟨i, rfl, _, _⟩
    refine W.bind (w_Below _ n hn) ?_
    rintro _ ⟨j, rfl, h3, h4⟩
    exact hfin j h3 h4
theorem w_Flip (c : Int) (n s : D) (hs : St c s) (hc : c ≤ 1000000000000) (hn : n.int ≤ 4611686018427387904) : W (fun K _ => f_gatemake_Stream_Flip K n s) (fun r => ∃ b s', r = [.b b, s'] ∧ St (c + 1) s') := by
  unfold f_gatemake_Stream_Flip
  refine W.bind (w_Next c n s hs hc hn) ?_
  rintro _ ⟨i, s', rfl, _, _, h⟩
  exact W.ret ⟨_, s', rfl, h⟩
theorem nth_mem : ∀ {l : List D} {j : Nat}, j < l.length → D.nth l j ∈ l
  | a :: l, 0, _ => by simp
  | a :: l, j + 1, h => by simp only [D.nth_succ]; exact List.mem_cons_of_mem _ (nth_mem (by simpa using h))
/-- One of some numbers (or other data). -/
theorem w_Pick (c : Int) (s : D) (l : List D) (hs : St c s) (hc : c ≤ 1000000000000) (hl : l ≠ []) (hl2 : l.length ≤ 1000000) : W (fun K _ => f_gatemake_Stream_Pick K s (.n l)) (fun r => ∃ x s' t, r = [x, s', t] ∧ x ∈ l ∧ St (c + 1) s') := by
  unfold f_gatemake_Stream_Pick
  have : 0 < l.length := List.length_pos_iff.2 hl
  refine W.bind (w_Next c _ s hs hc (by simp; omega)) ?_
  rintro _ ⟨i, s', rfl, h1, h2, h3⟩
  simp only [D.int_i, D.list_n] at h2
  have h2 := h2 (by omega)
  refine W.cond (fun h => ?_) (fun h => absurd (inB_mk h1 h2) (by rw [D.nth_zero, D.int_i, D.list_n] at h; rw [h]; simp))
  exact W.ret ⟨_, s', _, rfl, nth_mem (show i.toNat < l.length by omega), h3⟩
theorem w_Range (c : Int) (lo hi : Int) (s : D) (hs : St c s) (hc : c ≤ 1000000000000) (h1 : 0 ≤ lo) (h2 : hi ≤ 1000000000000) : W (fun K _ => f_gatemake_Stream_Range K (.i lo) (.i hi) s) (fun r => ∃ x s', r = [.i x, s'] ∧ lo ≤ x ∧ (lo ≤ hi → x ≤ hi) ∧ St (c + 1) s') := by
  unfold f_gatemake_Stream_Range
  refine W.cond (fun h => ?_) (fun h => ?_)
  · simp at h
    exact W.ret ⟨lo, s, rfl, by omega, by omega, hs.le (by omega)⟩
  · simp at h
    have e1 : IntKind.i64.wrap (hi - lo) = hi - lo := wrap_i64 (by omega) (by omega)
    have e2 : IntKind.i64.wrap (hi - lo + 1) = hi - lo + 1 := wrap_i64 (by omega) (by omega)
    simp only [D.int_i, e1, e2]
    refine W.bind (w_Next c _ s hs hc (by simp; omega)) ?_
    rintro _ ⟨i, s', rfl, h3, h4, h5⟩
    simp only [D.int_i] at h4
    have h4 := h4 (by omega)
    simp only [D.nth_zero, D.nth_succ, D.int_i]
    rw [wrap_i64 (by omega) (by omega)]
    exact W.ret ⟨_, s', rfl, by omega, fun _ => by omega, h5⟩
theorem w_Odd (c : Int) (lo hi : Int) (s : D) (hs : St c s) (hc : c ≤ 999999999990) (h1 : 0 ≤ lo) (h0 : lo ≤ hi) (h2 : hi ≤ 1000000000000) : W (fun K _ => f_gatemake_Stream_Odd K (.i lo) (.i hi) s) (fun r => ∃ x s', r = [.i x, s'] ∧ -2000000000000 ≤ x ∧ x ≤ 2000000000000 ∧ St (c + 2) s') := by
  unfold f_gatemake_Stream_Odd
  refine W.bind (w_Flip c _ s hs (by omega) (by simp)) ?_
  rintro _ ⟨b, s', rfl, h3⟩
  simp only [D.nth_zero, D.nth_succ, D.bool_b]
  have e1 : IntKind.i64.wrap (lo - 1) = lo - 1 := wrap_i64 (by omega) (by omega)
  have e2 : IntKind.i64.wrap (hi + 1) = hi + 1 := wrap_i64 (by omega) (by omega)
  simp only [D.int_i, e1, e2]
  refine W.cond (fun _ => ?_) (fun _ => ?_)
  · refine W.bind (w_Pick (c + 1) s' _ h3 (by omega) (by simp) (by simp)) ?_
    rintro _ ⟨x, s2, t, rfl, hx, h4⟩
    simp only [List.mem_cons, List.not_mem_nil, or_false] at hx
    rcases hx with rfl | rfl | rfl | rfl | rfl | rfl <;> exact W.ret ⟨_, s2, rfl, by omega, by omega, h4.le (by omega)⟩
  · refine W.bind (w_Range (c + 1) lo hi s' h3 (by omega) h1 h2) ?_
    rintro _ ⟨x, s2, rfl, h4, h5, h6⟩
    exact W.ret ⟨x, s2, rfl, by omega, by have := h5 h0; omega, h6.le (by omega)⟩
/-! ### Keys -/
def smallC (c : UInt8) : Bool := bif leI 97 c.toNat then leI c.toNat 122 else false
def digitC (c : UInt8) : Bool := bif leI 48 c.toNat then leI c.toNat 57 else false
def restC (c : UInt8) : Bool := smallC c || (digitC c || (((c.toNat : Int) == 45) || ((c.toNat : Int) == 95)))
def smallL : List UInt8 := [97, 98, 99, 100, 101, 102, 103, 104, 105, 106, 107, 108, 109, 110, 111, 112, 113, 114, 115, 116, 117, 118, 119, 120, 121, 122]
def restL : List UInt8 := [97, 98, 99, 100, 101, 102, 103, 104, 105, 106, 107, 108, 109, 110, 111, 112, 113, 114, 115, 116, 117, 118, 119, 120, 121, 122, 48, 49, 50, 51, 52, 53, 54, 55, 56, 57, 45, 95]
def keyB (s : List UInt8) : Bool := (leI 1 s.length && leI s.length 40) && ((s.take 1).all smallC && s.all restC)
theorem small_cls (c : UInt8) : (!ltI (Lib.indexByte smallL c) 0) = smallC c := by
  have := all256 (p := fun c => (!ltI (Lib.indexByte smallL c) 0) == smallC c) (by kernel_rfl) c
  simpa using this
theorem rest_cls (c : UInt8) : (!ltI (Lib.indexByte restL c) 0) = restC c := by
  have := all256 (p := fun c => (!ltI (Lib.indexByte restL c) 0) == restC c) (by kernel_rfl) c
  simpa using this
theorem w_only (s l : List UInt8) (hs : s.length ≤ 1000000000000) : W (fun K _ => f_gateref2_only K (.s s) (.s l)) (fun r => r = [.b (s.all fun c => !ltI (Lib.indexByte l c) 0)]) := by
  unfold f_gateref2_only
  refine W.bind (W.early s.length (fun j => [.s s, .s l, .i s.length, .i j]) (fun j => bif !ltI (Lib.indexByte l (s.getD j 0)) 0 then none else some (0, [.b false])) (1, []) (fun j hj hp p rc h1 h2 => ?_) (fun rc => ?_)) ?_
  · unfold b_gateref2_only_0
    simp only [D.nth_zero, D.nth_succ, D.str_s, D.int_i, Int.toNat_natCast]
    refine W.cond (fun _ => ?_) (fun h => by simp at h; omega)
    refine W.cond (fun _ => ?_) (fun h => by simp at h; omega)
    simp only [p_strings_IndexByte, p_stringslite_IndexByte, p_bytealg_IndexByteString, D.nth_zero, D.int_i, D.str_s, byteAt_getD, toUInt8_byte]
    refine W.cond (fun h => W.ret (h1 _ (by rw [h]; rfl))) (fun h => ?_)
    rw [wrap_i64 (by omega) (by omega)]
    exact h2 (by rw [h]; rfl)
  · unfold b_gateref2_only_0
    simp only [D.nth_zero, D.nth_succ, D.str_s, D.int_i]
    exact W.cond (fun h => by simp at h) (fun _ => W.ret rfl)
  · rintro _ rfl
    rw [scan_all s (fun c => !ltI (Lib.indexByte l c) 0)]
    cases s.all fun c => !ltI (Lib.indexByte l c) 0 with
    | true => exact W.ret rfl
    | false => exact W.ret rfl
theorem w_Key (s : List UInt8) (hs : s.length ≤ 1000000000000) : W (fun K _ => f_gateref2_Key K (.s s)) (fun r => r = [.b (keyB s)]) := by
  unfold f_gateref2_Key
  simp only [p_gateref2_in, D.nth_zero, D.bool_b, D.int_i, D.str_s]
  refine W.cond (fun _ => ?_) (fun h => ?_)
  · refine W.cond (fun h => ?_) (fun h => W.ret ?_)
    · have h0 : (leI 1 s.length && leI s.length 40) = true := by cases h1 : leI 1 (s.length : Int) <;> cases h2 : leI (s.length : Int) 40 <;> simp_all
      refine W.bind (w_only (s.take 1) smallL (by rw [List.length_take]; omega)) ?_
      rintro _ rfl
      simp only [small_cls, D.nth_zero, D.bool_b]
      refine W.cond (fun h1 => ?_) (fun h1 => W.ret ?_)
      · refine W.bind (w_only s restL hs) ?_
        rintro _ rfl
        simp only [rest_cls, D.nth_zero, D.bool_b]
        exact W.ret (by simp only [keyB, h0, h1, Bool.true_and])
      · simp only [keyB, h0, h1, Bool.true_and, Bool.false_and]
    · have h0 : (leI 1 s.length && leI s.length 40) = false := by cases h1 : leI 1 (s.length : Int) <;> cases h2 : leI (s.length : Int) 40 <;> simp_all
      simp only [keyB, h0, Bool.false_and]
  · cases h1 : leI 1 (s.length : Int) <;> cases h2 : leI (s.length : Int) 40 <;> simp_all
    omega
def badK (s : List UInt8) (j : Nat) : Bool := !(bif smallC (s.getD j 0) then true else (bif gtI j 0 then restC (s.getD j 0) else false))
theorem keyB_scan (s : List UInt8) (h : ∀ j, j < s.length → badK s j = false) : keyB s = (!(s == []) && leI s.length 40) := by
  cases s with
  | nil => rfl
  | cons a t =>
    have h0 := h 0 (by simp)
    have ha : smallC a = true := by
      simp only [badK, List.getD_cons_zero] at h0
      cases hc : smallC a with
      | true => rfl
      | false => rw [hc] at h0; simp [gtI] at h0
    have hall : (a :: t).all restC = true := by
      rw [all_getD]
      intro j hj
      have := h j hj
      simp only [badK] at this
      cases hc : smallC ((a :: t).getD j 0) with
      | true => simp only [restC, hc, Bool.true_or]
      | false =>
        rw [hc] at this
        cases hg : gtI (j : Int) 0 with
        | false => rw [hg] at this; simp at this
        | true => rw [hg] at this; simpa using this
    have h1 : leI 1 ((a :: t).length : Int) = true := by simp; omega
    have h2 : (a :: t).take 1 = [a] := rfl
    have h3 : ((a :: t) == []) = false := rfl
    simp only [keyB, hall, h1, h2, h3, List.all_cons, List.all_nil, ha, Bool.true_and, Bool.and_true, Bool.not_false]
theorem keyB_bad (s : List UInt8) (j : Nat) (hj : j < s.length) (h : badK s j = true) : keyB s = false := by
  cases s with
  | nil => simp at hj
  | cons a t =>
    cases j with
    | zero =>
      simp only [badK, List.getD_cons_zero] at h
      cases hc : smallC a with
      | true => rw [hc] at h; simp at h
      | false => simp [keyB, hc]
    | succ j =>
      have hr : restC ((a :: t).getD (j + 1) 0) = false := by
        simp only [badK] at h
        have hg : gtI ((j + 1 : Nat) : Int) 0 = true := by simp
        rw [hg] at h
        cases hc : smallC ((a :: t).getD (j + 1) 0) with
        | true => rw [hc] at h; simp at h
        | false => rw [hc] at h; simpa using h
      have : (a :: t).all restC = false := by
        rw [← Bool.not_eq_true, all_getD]
        intro hall
        rw [hall (j + 1) hj] at hr
        cases hr
      simp only [keyB, this, Bool.and_false]
theorem w_IsKey (s : List UInt8) (hs : s.length ≤ 1000000000000) : W (fun K _ => f_kit_IsKey K (.s s)) (fun r => r = [.b (keyB s)]) := by
  unfold f_kit_IsKey
  refine W.bind (W.early s.length (fun j => [.s s, .i j]) (fun j => bif badK s j then some (0, [.b false]) else none) (1, []) (fun j hj hp p rc h1 h2 => ?_) (fun rc => ?_)) ?_
  · unfold b_kit_IsKey_0
    simp only [D.nth_zero, D.nth_succ, D.str_s, D.int_i, Int.toNat_natCast, byteAt_getD]
    refine W.cond (fun _ => ?_) (fun h => by simp at h; omega)
    refine W.cond (fun _ => ?_) (fun h => by simp at h; omega)
    have e : (!(bif (bif (geI ((s.getD j 0).toNat : Int) 97) then (leI ((s.getD j 0).toNat : Int) 122) else false) then true else (bif (gtI (j : Int) 0) then (bif (bif (bif (geI ((s.getD j 0).toNat : Int) 48) then (leI ((s.getD j 0).toNat : Int) 57) else false) then true else (((s.getD j 0).toNat : Int) == (45 : Int))) then true else (((s.getD j 0).toNat : Int) == (95 : Int))) else false))) = badK s j := by
      simp only [badK, restC, smallC, digitC, geI, leI, gtI]
      generalize ((s.getD j 0).toNat : Int) = x
      generalize (j : Int) = y
      cases hd1 : decide (x ≥ 97) <;> cases hd2 : decide (x ≤ 122) <;> cases hd3 : decide (x ≥ 48) <;> cases hd4 : decide (x ≤ 57) <;> cases hd5 : decide (y > 0) <;> cases hd6 : x == 45 <;> cases hd7 : x == 95 <;> simp_all
    rw [e]
    refine W.cond (fun h => W.ret (h1 _ (by rw [h]; rfl))) (fun h => ?_)
    rw [wrap_i64 (by omega) (by omega)]
    exact h2 (by rw [h]; rfl)
  · unfold b_kit_IsKey_0
    simp only [D.nth_zero, D.nth_succ, D.str_s, D.int_i]
    exact W.cond (fun h => by simp at h) (fun _ => W.ret rfl)
  · rintro _ rfl
    rcases scan_cases (fun j => bif badK s j then some (0, [D.b false]) else none) ((1, []) : Nat × List D) s.length 0 with ⟨i, r, h1, h2, h3, h4, h5⟩ | ⟨h1, h2⟩
    · rw [h4]
      cases hb : badK s i with
      | false => rw [hb] at h3; simp at h3
      | true =>
        rw [hb] at h3
        simp only [cond_true, Option.some.injEq] at h3
        subst h3
        exact W.ret (by rw [keyB_bad s i (by omega) hb]; rfl)
    · rw [h2]
      refine W.ret ?_
      rw [keyB_scan s fun j hj => ?_]
      · simp only [D.str_s]
        cases h3 : s == [] <;> rfl
      · have := h1 j (Nat.zero_le _) (by omega)
        cases hb : badK s j with
        | false => rfl
        | true => rw [hb] at this; simp at this
/-- One of some strings (or other data). -/
theorem w_Some (c : Int) (s : D) (l : List D) (hs : St c s) (hc : c ≤ 1000000000000) (hl : l ≠ []) (hl2 : l.length ≤ 1000000) : W (fun K _ => f_gatemake_Stream_Some K s (.n l)) (fun r => ∃ x s' t, r = [x, s', t] ∧ x ∈ l ∧ St (c + 1) s') := by
  unfold f_gatemake_Stream_Some
  have : 0 < l.length := List.length_pos_iff.2 hl
  refine W.bind (w_Next c _ s hs hc (by simp; omega)) ?_
  rintro _ ⟨i, s', rfl, h1, h2, h3⟩
  simp only [D.int_i, D.list_n] at h2
  have h2 := h2 (by omega)
  refine W.cond (fun h => ?_) (fun h => absurd (inB_mk h1 h2) (by rw [D.nth_zero, D.int_i, D.list_n] at h; rw [h]; simp))
  exact W.ret ⟨_, s', _, rfl, nth_mem (show i.toNat < l.length by omega), h3⟩
/-! ### Instances -/
def In (x : D) : Prop := ∃ a w, x = .n [.s a, .i w] ∧ a.length ≤ 1000
def InL (l : List D) : Prop := l.length ≤ 10 ∧ ∀ x ∈ l, In x
theorem InL.nth {l : List D} {j : Nat} (h : InL l) (hj : j < l.length) : ∃ a w, D.nth l j = .n [.s a, .i w] ∧ a.length ≤ 1000 ∧ (D.nth l j).at' 0 = .s a ∧ (D.nth l j).at' 1 = .i w := by
  obtain ⟨a, w, h1, h2⟩ := h.2 _ (nth_mem hj)
  exact ⟨a, w, h1, h2, by rw [h1]; rfl, by rw [h1]; rfl⟩
def idS (x : D) : List UInt8 := (x.at' 0).str
def ordI (l : List D) (j : Nat) : Bool := bif gtI (j : Int) 0 then (Op.bytesLess (idS (D.nth l j)) (idS (D.nth l (j - 1))) || (idS (D.nth l j) == idS (D.nth l (j - 1)))) else false
def wB (x : D) : Bool := bif ltI (x.at' 1).int 1 then true else gtI (x.at' 1).int 100
def insF (l : List D) (j : Nat) : Int := bif !keyB (idS (D.nth l j)) then 5 else bif ordI l j then 7 else bif wB (D.nth l j) then 1 else 0
def errAt (F : Nat → Int) (j : Nat) : Option (Nat × List D) := bif F j != 0 then some (0, [.i (F j)]) else none
def insR (l : List D) : Nat × List D := scan (errAt (insF l)) (1, []) l.length 0
def errD (r : Nat × List D) : List D := bif r.1.beq 0 then [D.nth r.2 0] else [.i 0]
def insD (l : List D) : List D := bif gtI (l.length : Int) 50 then [.i 2] else errD (insR l)
theorem errAt_some {F : Nat → Int} {j : Nat} {n : Int} (h : F j = n) (hn : n ≠ 0) : errAt F j = some (0, [.i n]) := by
  have : (n != 0) = true := by simpa using hn
  simp only [errAt, h, this, cond_true]
theorem errAt_none {F : Nat → Int} {j : Nat} (h : F j = 0) : errAt F j = none := by simp only [errAt, h]; rfl
theorem errAt_none_iff {F : Nat → Int} {j : Nat} (h : errAt F j = none) : F j = 0 := by
  unfold errAt at h
  cases h1 : F j != 0 with
  | true => rw [h1] at h; cases h
  | false => simpa using h1
theorem keyB_ne {s : List UInt8} (h : keyB s = true) : s ≠ [] := by
  rintro rfl
  simp [keyB, leI] at h
theorem w_CheckInstances (l : List D) (hl : InL l) : W (fun K _ => f_upstream_CheckInstances K (.n l)) (fun r => r = insD l) := by
  have hl10 := hl.1
  unfold f_upstream_CheckInstances insD
  simp only [D.list_n]
  refine W.cond (fun h => W.ret (by rw [h]; rfl)) (fun h => ?_)
  rw [h, cond_false]
  refine W.bind (W.early l.length (fun j => [.n l, .n l, .i l.length, .i j]) (errAt (insF l)) (1, []) (fun j hj hp p rc g1 g2 => ?_) (fun rc => ?_)) ?_
  · unfold b_upstream_CheckInstances_0
    simp only [D.nth_zero, D.nth_succ, D.int_i, D.list_n, Int.toNat_natCast]
    obtain ⟨a, w, hx, ha, h0, h1⟩ := hl.nth hj
    have hid : idS (D.nth l j) = a := by unfold idS; rw [h0]; rfl
    refine W.cond (fun _ => ?_) (fun h => by simp at h; omega)
    refine W.cond (fun _ => ?_) (fun h => by simp at h; omega)
    rw [h0]
    refine W.bind (w_IsKey a (by omega)) ?_
    rintro _ rfl
    simp only [D.nth_zero, D.bool_b, D.str_s]
    refine W.cond (fun hk => W.ret (g1 _ ?_)) (fun hk => ?_)
    · exact errAt_some (by simp only [insF, hid, hk, cond_true]) (by omega)
    have hw : IntKind.i64.wrap ((j : Int) - 1) = (j : Int) - 1 := wrap_i64 (by omega) (by omega)
    have hn : ((j : Int) - 1).toNat = j - 1 := by omega
    rw [hw, hn]
    have hord : (bif gtI (j : Int) 0 then (Op.bytesLess a ((D.nth l (j - 1)).at' 0).str || (a == ((D.nth l (j - 1)).at' 0).str)) else false) = ordI l j := by unfold ordI; rw [hid]; rfl
    rw [hord]
    refine W.cond (fun _ => ?_) (fun h => by simp at h; omega)
    refine W.cond (fun ho => W.ret (g1 _ ?_)) (fun ho => ?_)
    · exact errAt_some (by simp only [insF, hid, hk, ho, cond_true, cond_false]) (by omega)
    simp only [p_kit_Outside, D.nth_zero, D.bool_b, D.int_i]
    refine W.cond (fun hb => W.ret (g1 _ ?_)) (fun hb => ?_)
    · have : wB (D.nth l j) = true := hb
      exact errAt_some (by simp only [insF, hid, hk, ho, this, cond_true, cond_false]) (by omega)
    · have : wB (D.nth l j) = false := hb
      rw [wrap_i64 (x := (j : Int) + 1) (by omega) (by omega)]
      exact g2 (errAt_none (by simp only [insF, hid, hk, ho, this, cond_false]))
  · unfold b_upstream_CheckInstances_0
    simp only [D.nth_zero, D.nth_succ, D.int_i]
    exact W.cond (fun h => by simp at h) (fun _ => W.ret rfl)
  · rintro _ rfl
    show W (fun _ _ => bif (insR l).1.beq 0 then some [D.nth (insR l).2 0] else some [.i 0]) _
    unfold errD
    exact W.cond (fun h => W.ret (by rw [h]; rfl)) (fun h => W.ret (by rw [h]; rfl))
theorem w_InstancesFault (l : List D) (hl : InL l) : W (fun K _ => f_gateref2_InstancesFault K (.n l)) (fun r => r = insD l) := by
  have hl10 := hl.1
  unfold f_gateref2_InstancesFault insD
  simp only [D.list_n]
  refine W.cond (fun h => W.ret (by rw [h]; rfl)) (fun h => ?_)
  rw [h, cond_false]
  refine W.bind (W.early l.length (fun j => [bif j.beq 0 then .s [] else (D.nth l (j - 1)).at' 0, .n l, .i l.length, .i j]) (errAt (insF l)) (1, []) (fun j hj hp p rc g1 g2 => ?_) (fun rc => ?_)) ?_
  · unfold b_gateref2_InstancesFault_0
    simp only [D.nth_zero, D.nth_succ, D.int_i, D.list_n, Int.toNat_natCast]
    obtain ⟨a, w, hx, ha, h0, h1⟩ := hl.nth hj
    have hid : idS (D.nth l j) = a := by unfold idS; rw [h0]; rfl
    refine W.cond (fun _ => ?_) (fun h => by simp at h; omega)
    refine W.cond (fun _ => ?_) (fun h => by simp at h; omega)
    rw [h0]
    refine W.bind (w_Key a (by omega)) ?_
    rintro _ rfl
    simp only [D.nth_zero, D.bool_b, D.str_s]
    refine W.cond (fun hk => W.ret (g1 _ ?_)) (fun hk => ?_)
    · exact errAt_some (by simp only [insF, hid, hk, cond_true]) (by omega)
    have hkey : keyB a = true := by simpa using hk
    have hord : (Op.bytesLess a (bif j.beq 0 then D.s [] else (D.nth l (j - 1)).at' 0).str || (a == (bif j.beq 0 then D.s [] else (D.nth l (j - 1)).at' 0).str)) = ordI l j := by
      unfold ordI
      rw [hid]
      cases j with
      | zero =>
        have : (a == ([] : List UInt8)) = false := by simpa using keyB_ne hkey
        simp [less_nil, this]
      | succ j =>
        have hg : gtI ((j + 1 : Nat) : Int) 0 = true := by simp
        rw [hg]
        rfl
    rw [hord]
    refine W.cond (fun ho => W.ret (g1 _ ?_)) (fun ho => ?_)
    · exact errAt_some (by simp only [insF, hid, hk, ho, cond_true, cond_false]) (by omega)
    simp only [p_gateref2_in, D.nth_zero, D.bool_b, D.int_i, in_out]
    refine W.cond (fun hb => W.ret (g1 _ ?_)) (fun hb => ?_)
    · have : wB (D.nth l j) = true := hb
      exact errAt_some (by simp only [insF, hid, hk, ho, this, cond_true, cond_false]) (by omega)
    · have : wB (D.nth l j) = false := hb
      rw [wrap_i64 (x := (j : Int) + 1) (by omega) (by omega)]
      have h2 := g2 (errAt_none (by simp only [insF, hid, hk, ho, this, cond_false]))
      simp only [Nat.beq, Nat.add_sub_cancel, cond_false, h0] at h2
      exact h2
  · unfold b_gateref2_InstancesFault_0
    simp only [D.nth_zero, D.nth_succ, D.int_i]
    exact W.cond (fun h => by simp at h) (fun _ => W.ret rfl)
  · rintro _ rfl
    show W (fun _ _ => bif (insR l).1.beq 0 then some [D.nth (insR l).2 0] else some [.i 0]) _
    unfold errD
    exact W.cond (fun h => W.ret (by rw [h]; rfl)) (fun h => W.ret (by rw [h]; rfl))
/-- Right instances stand in the order of their keys. -/
theorem insD_zero {l : List D} (hl : InL l) (h : (D.nth (insD l) 0).int = 0) : Inc idS l := by
  have hl10 := hl.1
  have hg : gtI (l.length : Int) 50 = false := by simp; omega
  unfold insD at h
  rw [hg, cond_false] at h
  rcases scan_cases (errAt (insF l)) (1, []) l.length 0 with ⟨i, r, h1, h2, h3, h4, h5⟩ | ⟨h1, h2⟩
  · exfalso
    unfold insR at h
    rw [h4] at h
    unfold errAt at h3
    cases hc : insF l i != 0 with
    | false => rw [hc] at h3; cases h3
    | true =>
      rw [hc] at h3
      cases h3
      have : insF l i = 0 := h
      simp [this] at hc
  · intro j hj0 hj
    have hz := errAt_none_iff (h1 j (Nat.zero_le _) (by omega))
    have ho : ordI l j = false := by
      unfold insF at hz
      cases hk : !keyB (idS (D.nth l j)) <;> rw [hk] at hz <;> simp at hz
      cases ho : ordI l j with
      | false => rfl
      | true => rw [ho] at hz; simp at hz
    unfold ordI at ho
    have hg : gtI (j : Int) 0 = true := by simp; omega
    rw [hg, cond_true, Bool.or_eq_false_iff] at ho
    exact less_total ho.1 (by simpa using ho.2)
theorem any_inc {l : List D} (h : Inc idS l) {i : Nat} {key : List UInt8} (hi : i ≤ l.length) (h1 : ∀ p, p < i → Op.bytesLess (idS (D.nth l p)) key = true) (h2 : ∀ p, i ≤ p → p < l.length → Op.bytesLess (idS (D.nth l p)) key = false) :
    (l.any fun x => idS x == key) = (decide (i < l.length) && (idS (D.nth l i) == key)) := by
  rw [Bool.eq_iff_iff, any_nth]
  simp only [Bool.and_eq_true, decide_eq_true_eq, beq_iff_eq]
  constructor
  · rintro ⟨j, hj, he⟩
    have hij : i ≤ j := by
      rcases Nat.lt_or_ge j i with h3 | h3
      · have := h1 j h3
        rw [he, less_irrefl] at this
        cases this
      · exact h3
    rcases Nat.lt_or_eq_of_le hij with h3 | h3
    · have := h.lt h3 hj
      rw [he, h2 i (Nat.le_refl _) (by omega)] at this
      cases this
    · subst h3; exact ⟨hj, he⟩
  · rintro ⟨hj, he⟩
    exact ⟨i, hj, he⟩
/-! ### Instances that are drawn -/
theorem In.set0 {x : D} (h : In x) {a : List UInt8} (ha : a.length ≤ 1000) : In (.n (D.setNth x.list 0 (.s a))) := by
  obtain ⟨b, w, rfl, _⟩ := h
  exact ⟨a, w, rfl, ha⟩
theorem In.set1 {x : D} (h : In x) {w : Int} : In (.n (D.setNth x.list 1 (.i w))) := by
  obtain ⟨b, w', rfl, hb⟩ := h
  exact ⟨b, w, rfl, hb⟩
theorem InL.set {l : List D} {j : Nat} {x : D} (h : InL l) (hj : j < l.length) (hx : In x) : InL (D.setNth l j x) := by
  rw [setNth_eq _ hj]
  refine ⟨by simpa using h.1, fun y hy => ?_⟩
  rcases List.mem_or_eq_of_mem_set hy with hy | hy
  · exact h.2 y hy
  · subst hy; exact hx
theorem w_RightInstances (c : Int) (s : D) (hs : St c s) (hc : c ≤ 999999999900) : W (fun K _ => f_gatemake_Stream_RightInstances K s) (fun r => ∃ s' l, r = [s', .n l] ∧ InL l ∧ 0 < l.length ∧ St (c + 10) s') := by
  unfold f_gatemake_Stream_RightInstances
  generalize hT : ([D.s [105, 97], D.s [105, 98], D.s [105, 99], D.s [105, 100]] : List D) = T
  have hTl : T.length = 4 := by rw [← hT]; rfl
  have hTm : ∀ j, j < 4 → ∃ a : List UInt8, D.nth T j = .s a ∧ a.length ≤ 1000 ∧ (j = 3 → a = [105, 100]) := fun j hj => by
    rw [← hT]
    have : j = 0 ∨ j = 1 ∨ j = 2 ∨ j = 3 := by omega
    rcases this with rfl | rfl | rfl | rfl
    · exact ⟨_, rfl, by simp, fun h => by omega⟩
    · exact ⟨_, rfl, by simp, fun h => by omega⟩
    · exact ⟨_, rfl, by simp, fun h => by omega⟩
    · exact ⟨_, rfl, by simp, fun _ => rfl⟩
  refine W.bind (p := fun r => ∃ s' l t, r = (0, [s', t, .n l]) ∧ InL l ∧ 0 < l.length ∧ St (c + 10) s') (W.rounds (S := Nat × D × List D) (fun q => [.i 4, .i (q.1 : Int), q.2.1, .n T, .n q.2.2]) (fun q => q.1 ≤ 4 ∧ q.2.2.length ≤ q.1 ∧ (∀ x ∈ q.2.2, In x) ∧ (q.1 = 4 → 0 < q.2.2.length) ∧ St (c + 2 * q.1) q.2.1) (fun q => 4 - q.1) (fun q hI rc ih => ?_) (0, s, []) ⟨by simp, by simp, by simp, by simp, by simpa using hs⟩) ?_
  · obtain ⟨j, s2, out⟩ := q
    obtain ⟨a1, a2, a3, a4, a5⟩ := hI
    simp only at a1 a2 a3 a4 a5
    unfold b_gatemake_Stream_RightInstances_0
    simp only [D.nth_zero, D.nth_succ, D.int_i, D.list_n, Int.toNat_natCast]
    refine W.cond (fun h => ?_) (fun h => ?_)
    · simp at h
      have hj : j < 4 := by omega
      refine W.cond (fun _ => ?_) (fun h => by simp at h; omega)
      obtain ⟨a, ha, hal, ha3⟩ := hTm j hj
      rw [ha]
      have e1 : IntKind.i64.wrap ((j : Int) + 1) = ((j + 1 : Nat) : Int) := by rw [wrap_i64 (by omega) (by omega)]; omega
      refine W.bind (p := fun r => ∃ b s3, r = (0, [.b b, s3, .n out]) ∧ (j = 3 → out = [] → b = true) ∧ St (c + 2 * j + 1) s3) ?_ ?_
      · unfold b_gatemake_Stream_RightInstances_1
        simp only [D.nth_zero, D.nth_succ, D.list_n, D.str_s]
        refine W.cond (fun hc1 => ?_) (fun _ => W.ret ⟨true, s2, rfl, fun _ _ => rfl, a5.le (by omega)⟩)
        refine W.bind (w_Flip _ _ s2 a5 (by omega) (by simp)) ?_
        rintro _ ⟨b, s3, rfl, h3⟩
        refine W.ret ⟨!b, s3, rfl, fun hj3 ho => ?_, h3⟩
        subst ho
        rw [ha3 hj3] at hc1
        simp at hc1
      rintro _ ⟨b, s3, rfl, hb, h3⟩
      simp only [D.nth_zero, D.nth_succ, D.bool_b, D.list_n]
      refine W.cond (fun _ => ?_) (fun hbf => ?_)
      · refine W.bind (w_Pick _ s3 _ h3 (by omega) (by simp) (by simp)) ?_
        rintro _ ⟨x, s4, t, rfl, hx, h4⟩
        simp only [D.nth_zero, D.nth_succ]
        refine W.cond (fun _ => ?_) (fun h => absurd (lim_mk (n := out.length + 1) (by omega)) (by rw [h]; simp))
        have hx' : ∃ w : Int, x = .i w := by
          simp only [List.mem_cons, List.not_mem_nil, or_false] at hx
          rcases hx with rfl | rfl | rfl | rfl | rfl <;> exact ⟨_, rfl⟩
        obtain ⟨w, rfl⟩ := hx'
        rw [e1]
        refine ih (j + 1, s4, out ++ [.n [.s a, .i w]]) ⟨by simp only; omega, by simp; omega, fun y hy => ?_, fun _ => by simp, h4.le (by simp only; omega)⟩ (by simp only; omega)
        rcases List.mem_append.1 hy with hy | hy
        · exact a3 y hy
        · simp at hy; subst hy; exact ⟨a, w, rfl, hal⟩
      · rw [e1]
        refine ih (j + 1, s3, out) ⟨by simp only; omega, by simp only; omega, a3, fun h4 => ?_, h3.le (by simp only; omega)⟩ (by simp only; omega)
        simp only at h4 ⊢
        rcases Nat.eq_zero_or_pos out.length with h5 | h5
        · have := hb (by omega) (List.eq_nil_of_length_eq_zero h5)
          rw [this] at hbf
          cases hbf
        · exact h5
    · simp at h
      have : j = 4 := by omega
      subst this
      exact W.ret ⟨s2, out, _, rfl, ⟨by omega, a3⟩, a4 rfl, a5.le (by omega)⟩
  · rintro _ ⟨s2, l, t, rfl, h1, h2, h3⟩
    exact W.ret ⟨s2, l, rfl, h1, h2, h3⟩
theorem w_Instances (c : Int) (s : D) (hs : St c s) (hc : c ≤ 999999999800) : W (fun K _ => f_gatemake_Stream_Instances K s) (fun r => ∃ s' l, r = [s', .n l] ∧ InL l ∧ St (c + 20) s') := by
  unfold f_gatemake_Stream_Instances
  refine W.bind (w_RightInstances c s hs (by omega)) ?_
  rintro _ ⟨s1, l, rfl, hl, hl0, h1⟩
  have hl10 := hl.1
  simp only [D.nth_zero, D.nth_succ, D.list_n]
  refine W.bind (w_Flip _ _ s1 h1 (by omega) (by simp)) ?_
  rintro _ ⟨b, s2, rfl, h2⟩
  simp only [D.nth_zero, D.nth_succ, D.bool_b]
  refine W.cond (fun _ => ?_) (fun _ => ?_)
  · refine W.bind (w_Next _ _ s2 h2 (by omega) (by simp; omega)) ?_
    rintro _ ⟨i, s3, rfl, i0, i1, h3⟩
    simp only [D.int_i] at i1
    have i1 := i1 (by omega)
    obtain ⟨j, rfl⟩ : ∃ j : Nat, i = (j : Int) := ⟨i.toNat, by omega⟩
    have hj : j < l.length := by omega
    simp only [D.nth_zero, D.nth_succ, D.int_i, Int.toNat_natCast]
    refine W.cond (fun _ => ?_) (fun h => by simp at h; omega)
    obtain ⟨a, w, hx, ha, hx0, hx1⟩ := hl.nth hj
    rw [hx0]
    refine W.bind (w_Some _ s3 _ h3 (by omega) (by simp) (by simp)) ?_
    rintro _ ⟨y, s4, t, rfl, hy, h4⟩
    have hy' : ∃ b : List UInt8, y = .s b ∧ b.length ≤ 1000 := by
      simp only [List.mem_cons, List.not_mem_nil, or_false] at hy
      rcases hy with rfl | rfl | rfl | rfl
      · exact ⟨_, rfl, ha⟩
      all_goals exact ⟨_, rfl, by simp⟩
    obtain ⟨b', rfl, hb'⟩ := hy'
    refine W.bind (w_Odd _ 1 100 s4 h4 (by omega) (by omega) (by omega) (by omega)) ?_
    rintro _ ⟨w', s5, rfl, _, _, h5⟩
    simp only [D.nth_zero, D.nth_succ]
    refine W.bind (w_Flip _ _ s5 h5 (by omega) (by simp)) ?_
    rintro _ ⟨b2, s6, rfl, h6⟩
    simp only [D.nth_zero, D.nth_succ, D.bool_b]
    refine W.cond (fun _ => W.ret ⟨s6, [], rfl, ⟨by simp, by simp⟩, h6.le (by omega)⟩) (fun _ => W.ret ⟨s6, _, rfl, ?_, h6.le (by omega)⟩)
    have g1 : In (.n (D.setNth (D.nth l j).list 0 (.s b'))) := (hl.2 _ (nth_mem hj)).set0 hb'
    have g2 := hl.set hj g1
    have hlen : (D.setNth l j (.n (D.setNth (D.nth l j).list 0 (.s b')))).length = l.length := length_setNth hj
    refine g2.set (by omega) ?_
    rw [at_set_same]
    exact g1.set1
  · refine W.bind (w_Flip _ _ s2 h2 (by omega) (by simp)) ?_
    rintro _ ⟨b2, s6, rfl, h6⟩
    simp only [D.nth_zero, D.nth_succ, D.bool_b]
    exact W.cond (fun _ => W.ret ⟨s6, [], rfl, ⟨by simp, by simp⟩, h6.le (by omega)⟩) (fun _ => W.ret ⟨s6, l, rfl, hl, h6.le (by omega)⟩)
/-! ### Where an instance is -/
theorem w_place (l : List D) (key : List UInt8) (hl : InL l) (h : Inc idS l) : W (fun K _ => f_upstream_place K (.n l) (.s key)) (fun r => ∃ i : Nat, r = [.i (i : Int), .b (l.any fun x => idS x == key)] ∧ ((l.any fun x => idS x == key) = true → i < l.length ∧ idS (D.nth l i) = key)) := by
  have hl10 := hl.1
  unfold f_upstream_place f_slices_BinarySearchFunc_string
  simp only [D.list_n]
  refine W.bind (p := fun r => ∃ i : Nat, r = [.i (i : Int), .b (l.any fun x => idS x == key)] ∧ ((l.any fun x => idS x == key) = true → i < l.length ∧ idS (D.nth l i) = key)) (W.bind (W.bsearch (F := fun K => b_slices_BinarySearchFunc_string_0 K) l.length (fun i j => [.n l, .s key, .i (i : Int), .i (j : Int)]) (fun p => Op.bytesLess (idS (D.nth l p)) key) (fun i => (0, [.i (i : Int)])) (fun i j hij hj p rc g1 g2 => ?_) (fun i hi rc => ?_) (fun a b hab hb hlt => less_trans (h.lt hab hb) hlt)) ?_) ?_
  · unfold b_slices_BinarySearchFunc_string_0
    simp only [D.nth_zero, D.nth_succ, D.int_i, D.list_n]
    rw [half_mid i j (by omega)]
    simp only [Int.toNat_natCast, p_upstream_place_1, p_strings_Compare, p_bytealg_CompareString, p_bytealg_abigen_runtime_cmpstring, D.nth_zero, D.int_i, D.str_s]
    have hc := cmp_spec (idS (D.nth l ((i + j) / 2))) key
    have hin : inB (((i + j) / 2 : Nat) : Int) l.length = true := inB_mk (by omega) (by omega)
    refine W.cond (fun _ => ?_) (fun h => by simp at h; omega)
    refine W.cond (fun _ => ?_) (fun h => by rw [hin] at h; cases h)
    refine W.cond (fun hq => ?_) (fun hq => ?_)
    · have e1 : IntKind.i64.wrap ((((i + j) / 2 : Nat) : Int) + 1) = (((i + j) / 2 + 1 : Nat) : Int) := by rw [wrap_i64 (by omega) (by omega)]; omega
      rw [e1]
      exact g1 (hc.1.1 (by simpa [idS] using hq))
    · refine g2 ?_
      rw [← Bool.not_eq_true]
      intro h3
      have := hc.1.2 h3
      simp only [ltI_f] at hq
      have hq : 0 ≤ Lib.compareBytes (idS (D.nth l ((i + j) / 2))) key := hq
      omega
  · unfold b_slices_BinarySearchFunc_string_0
    simp only [D.nth_zero, D.nth_succ, D.int_i]
    exact W.cond (fun h => by simp at h) (fun _ => W.ret rfl)
  · rintro _ ⟨i, rfl, hi, h1, h2⟩
    have ha := any_inc h hi h1 h2
    simp only [D.nth_zero, D.int_i, Int.toNat_natCast, p_upstream_place_1, p_strings_Compare, p_bytealg_CompareString, p_bytealg_abigen_runtime_cmpstring, D.str_s]
    refine W.cond (fun _ => ?_) (fun h => by simp at h; omega)
    refine W.cond (fun hlt => W.ret ⟨i, ?_, fun ht => ?_⟩) (fun hlt => W.ret ⟨i, ?_, fun ht => ?_⟩)
    · simp at hlt
      have hc := (cmp_spec (idS (D.nth l i)) key).2.1
      rw [ha]
      have : decide (i < l.length) = true := by simpa using hlt
      rw [this, Bool.true_and]
      have e : (Lib.compareBytes ((D.nth l i).at' 0).str key == 0) = (idS (D.nth l i) == key) := by
        rw [Bool.eq_iff_iff]
        simp only [beq_iff_eq]
        exact hc
      rw [e]
    · rw [ha] at ht
      simpa using ht
    · simp at hlt
      rw [ha]
      have : decide (i < l.length) = false := by simp; omega
      rw [this]
      rfl
    · rw [ha] at ht
      simpa using ht
  · rintro _ ⟨i, rfl, h1⟩
    exact W.ret ⟨i, rfl, h1⟩
theorem w_InstanceAt (l : List D) (key : List UInt8) (hl : InL l) : W (fun K _ => f_gateref2_InstanceAt K (.n l) (.s key)) (fun r => ∃ i, r = [.i i] ∧ ltI i 0 = !(l.any fun x => idS x == key)) := by
  have hl10 := hl.1
  unfold f_gateref2_InstanceAt f_slices_IndexFunc_api_Instance
  simp only [D.list_n]
  refine W.bind (p := fun r => ∃ i, r = [.i i] ∧ ltI i 0 = !(l.any fun x => idS x == key)) (W.bind (W.early l.length (fun j => [.n l, .s key, .i l.length, .i j]) (fun j => bif (fun x => idS x == key) (D.nth l j) then some (0, [.i (j : Int)]) else none) (1, []) (fun j hj hp p rc h1 h2 => ?_) (fun rc => ?_)) ?_) ?_
  · unfold b_slices_IndexFunc_api_Instance_0
    simp only [D.nth_zero, D.nth_succ, D.list_n, D.int_i, Int.toNat_natCast, p_gateref2_InstanceAt_1, D.bool_b, D.str_s]
    refine W.cond (fun _ => ?_) (fun h => by simp at h; omega)
    refine W.cond (fun _ => ?_) (fun h => by simp at h; omega)
    refine W.cond (fun h => W.ret (h1 _ ?_)) (fun h => ?_)
    · have : (idS (D.nth l j) == key) = true := h
      simp only [this, cond_true]
    · have : (idS (D.nth l j) == key) = false := h
      rw [wrap_i64 (by omega) (by omega)]
      exact h2 (by simp only [this, cond_false])
  · unfold b_slices_IndexFunc_api_Instance_0
    simp only [D.nth_zero, D.nth_succ, D.list_n, D.int_i]
    exact W.cond (fun h => by simp at h) (fun _ => W.ret rfl)
  · rintro _ rfl
    rcases scan_any l (fun x => idS x == key) (fun j => (0, [D.i (j : Int)])) (1, []) with ⟨ha, i, hi, h⟩ | ⟨ha, h⟩
    · rw [h, ha]
      refine W.ret ⟨(i : Int), rfl, ?_⟩
      simp
    · rw [h, ha]
      exact W.ret ⟨-1, rfl, by simp⟩
  · rintro _ ⟨i, rfl, h1⟩
    exact W.ret ⟨i, rfl, h1⟩
/-! ### Outliers that are drawn -/
theorem w_PickI (c : Int) (s : D) (l : List Int) (hs : St c s) (hc : c ≤ 999999999999) (h1 : l ≠ []) (h2 : l.length ≤ 100) : W (fun K _ => f_gatemake_Stream_Pick K s (.n (l.map D.i))) (fun r => ∃ x s' t, r = [.i x, s', t] ∧ x ∈ l ∧ St (c + 1) s') := by
  refine (w_Pick c s (l.map D.i) hs (by omega) (by simpa using h1) (by simp; omega)).mono ?_
  rintro _ ⟨x, s', t, rfl, hx, h⟩
  obtain ⟨y, hy, rfl⟩ := List.mem_map.1 hx
  exact ⟨y, s', t, rfl, hy, h⟩
def I4 (x : D) : Prop := ∃ a b c d, x = .n [.i a, .i b, .i c, .i d]
theorem w_RightOutliers (c : Int) (s : D) (hs : St c s) (hc : c ≤ 999999999900) : W (fun K _ => f_gatemake_Stream_RightOutliers K s) (fun r => ∃ x s', r = [x, s'] ∧ I4 x ∧ St (c + 4) s') := by
  unfold f_gatemake_Stream_RightOutliers
  refine W.bind (w_PickI c s [1, 2, 2, 3] hs (by omega) (by simp) (by simp)) ?_
  rintro _ ⟨x, s1, _, rfl, hx, h1⟩
  refine W.bind (w_PickI _ s1 [1, 5, 10] h1 (by omega) (by simp) (by simp)) ?_
  rintro _ ⟨y, s2, _, rfl, hy, h2⟩
  refine W.bind (w_PickI _ s2 [0, 333, 500, 1000] h2 (by omega) (by simp) (by simp)) ?_
  rintro _ ⟨z, s3, _, rfl, hz, h3⟩
  refine W.bind (w_PickI _ s3 [1, 2, 3, 8] h3 (by omega) (by simp) (by simp)) ?_
  rintro _ ⟨u, s4, _, rfl, hu, h4⟩
  exact W.ret ⟨_, s4, rfl, ⟨_, _, _, _, rfl⟩, h4.le (by omega)⟩
theorem w_Outliers (c : Int) (s : D) (hs : St c s) (hc : c ≤ 999999999800) : W (fun K _ => f_gatemake_Stream_Outliers K s) (fun r => ∃ x s', r = [x, s'] ∧ I4 x ∧ St (c + 20) s') := by
  unfold f_gatemake_Stream_Outliers
  refine W.bind (w_RightOutliers c s hs (by omega)) ?_
  rintro _ ⟨x, s1, rfl, hx, h1⟩
  simp only [D.nth_zero, D.nth_succ]
  refine W.bind (w_Flip _ _ s1 h1 (by omega) (by simp)) ?_
  rintro _ ⟨b, s2, rfl, h2⟩
  simp only [D.nth_zero, D.nth_succ, D.bool_b]
  refine W.cond (fun _ => ?_) (fun _ => W.ret ⟨x, s2, rfl, hx, h2.le (by omega)⟩)
  refine W.bind (w_Odd _ 1 100 s2 h2 (by omega) (by omega) (by omega) (by omega)) ?_
  rintro _ ⟨x, s3, rfl, _, _, h3⟩
  refine W.bind (w_Odd _ 1 20 s3 h3 (by omega) (by omega) (by omega) (by omega)) ?_
  rintro _ ⟨y, s4, rfl, _, _, h4⟩
  refine W.bind (w_Odd _ 1 3600000 s4 h4 (by omega) (by omega) (by omega) (by omega)) ?_
  rintro _ ⟨z, s5, rfl, _, _, h5⟩
  refine W.bind (w_Odd _ 0 1000 s5 h5 (by omega) (by omega) (by omega) (by omega)) ?_
  rintro _ ⟨u, s6, rfl, _, _, h6⟩
  exact W.ret ⟨_, s6, rfl, ⟨_, _, _, _, rfl⟩, h6.le (by omega)⟩
def out4 (x : D) : Bool := bif (bif (bif (bif ltI (x.at' 0).int 1 then true else gtI (x.at' 0).int 100) then true else (bif ltI (x.at' 1).int 1 then true else gtI (x.at' 1).int (x.at' 2).int)) then true else gtI (x.at' 2).int 3600000) then true else (bif ltI (x.at' 3).int 0 then true else gtI (x.at' 3).int 1000)
theorem w_outliersFault (x : D) : W (fun K _ => f_upstream_outliersFault K x) (fun r => r = [.i (bif out4 x then 1 else 0)]) := by
  unfold f_upstream_outliersFault
  simp only [p_kit_Outside, D.nth_zero, D.bool_b, D.int_i]
  refine W.cond (fun h => W.ret ?_) (fun h => W.ret ?_)
  · have : out4 x = true := h
    rw [this]; rfl
  · have : out4 x = false := h
    rw [this]; rfl
theorem w_OutliersFault (x : D) : W (fun K _ => f_gateref2_OutliersFault K x) (fun r => r = [.i (bif out4 x then 1 else 0)]) := by
  unfold f_gateref2_OutliersFault
  simp only [p_gateref2_in, D.nth_zero, D.bool_b, D.int_i, in_out]
  refine W.cond (fun h => W.ret ?_) (fun h => W.ret ?_)
  · have : out4 x = true := h
    rw [this]; rfl
  · have : out4 x = false := h
    rw [this]; rfl
/-! ### Which error -/
theorem w_when (b : Bool) (e : Int) : W (fun K _ => f_gatelaw2_when K (.b b) (.i e)) (fun r => r = [.i (bif b then e else 0)]) := by
  unfold f_gatelaw2_when
  cases b with
  | true => exact W.ret rfl
  | false => exact W.ret rfl
theorem w_errs2 (x y : Int) : W (fun K _ => f_gatelaw2_errs K (.n [.i x, .i y])) (fun r => r = [.i (bif x != 0 then x else y)]) := by
  unfold f_gatelaw2_errs
  refine W.bind (W.early 2 (fun j => [.n [.i x, .i y], .i 2, .i (j : Int)]) (fun j => bif ((D.nth [.i x, .i y] j).int != 0) then some (0, [D.nth [.i x, .i y] j]) else none) (1, []) (fun j hj hp p rc h1 h2 => ?_) (fun rc => ?_)) ?_
  · unfold b_gatelaw2_errs_0
    simp only [D.nth_zero, D.nth_succ, D.int_i, D.list_n, Int.toNat_natCast]
    refine W.cond (fun _ => ?_) (fun h => by simp at h; omega)
    refine W.cond (fun _ => ?_) (fun h => by simp at h; omega)
    refine W.cond (fun h => W.ret (h1 _ (by rw [h]; rfl))) (fun h => ?_)
    rw [wrap_i64 (by omega) (by omega)]
    exact h2 (by rw [h]; rfl)
  · unfold b_gatelaw2_errs_0
    simp only [D.nth_zero, D.nth_succ, D.int_i]
    exact W.cond (fun h => by simp at h) (fun _ => W.ret rfl)
  · rintro _ rfl
    simp only [scan, D.nth_zero, D.nth_succ, D.int_i]
    cases h1 : x != 0 with
    | true => exact W.ret (by simp)
    | false =>
      cases h2 : y != 0 with
      | true => exact W.ret (by simp)
      | false =>
        have : y = 0 := by simpa using h2
        subst this
        exact W.ret (by simp)
theorem balanced : W (fun K _ => f_gatelaw2_balanced K) (· = [.b true]) :=
  ⟨_, rfl, 20, fun K _ hK _ => by obtain ⟨m, rfl⟩ : ∃ m, K = m + 20 := ⟨K - 20, by omega⟩; kernel_rfl⟩
/-! ### Results that are drawn -/
def Rs (x : D) : Prop := ∃ a k s, x = .n [.i a, .s k, .i s]
def RsL (l : List D) : Prop := l.length ≤ 100 ∧ ∀ x ∈ l, Rs x
theorem RsL.nth {l : List D} {j : Nat} (h : RsL l) (hj : j < l.length) : ∃ a k s, D.nth l j = .n [.i a, .s k, .i s] ∧ (D.nth l j).at' 0 = .i a ∧ (D.nth l j).at' 1 = .s k ∧ (D.nth l j).at' 2 = .i s := by
  obtain ⟨a, k, s, h1⟩ := h.2 _ (nth_mem hj)
  exact ⟨a, k, s, h1, by rw [h1]; rfl, by rw [h1]; rfl, by rw [h1]; rfl⟩
theorem w_InstanceKey (c : Int) (s : D) (hs : St c s) (hc : c ≤ 999999999900) : W (fun K _ => f_gatemake_Stream_InstanceKey K s) (fun r => ∃ k s', r = [.s k, s'] ∧ St (c + 2) s') := by
  unfold f_gatemake_Stream_InstanceKey
  refine W.bind (w_Flip c _ s hs (by omega) (by simp)) ?_
  rintro _ ⟨b, s1, rfl, h1⟩
  simp only [D.nth_zero, D.nth_succ, D.bool_b]
  refine W.cond (fun _ => ?_) (fun _ => ?_)
  · refine W.bind (w_Some _ s1 _ h1 (by omega) (by simp) (by simp)) ?_
    rintro _ ⟨x, s2, t, rfl, hx, h2⟩
    simp only [List.mem_cons, List.not_mem_nil, or_false] at hx
    rcases hx with rfl | rfl <;> exact W.ret ⟨_, s2, rfl, h2.le (by omega)⟩
  · refine W.bind (w_Some _ s1 _ h1 (by omega) (by simp) (by simp)) ?_
    rintro _ ⟨x, s2, t, rfl, hx, h2⟩
    simp only [List.mem_cons, List.not_mem_nil, or_false] at hx
    rcases hx with rfl | rfl | rfl | rfl <;> exact W.ret ⟨_, s2, rfl, h2.le (by omega)⟩
theorem w_Results (c : Int) (s : D) (l : List D) (hl : InL l) (hs : St c s) (hc : c ≤ 999999990000) : W (fun K _ => f_gatemake_Stream_Results K s (.n l)) (fun r => ∃ s' p, r = [s', .n l, .n p] ∧ RsL p ∧ St (c + 400) s') := by
  have hl10 := hl.1
  unfold f_gatemake_Stream_Results
  refine W.bind (w_Range c 0 18 s hs (by omega) (by omega) (by omega)) ?_
  rintro _ ⟨n, s1, rfl, n0, n1, h1⟩
  have n1 := n1 (by omega)
  simp only [D.nth_zero, D.nth_succ, D.list_n]
  refine W.bind (p := fun r => ∃ s' p, r = (0, [s', .n l, .n p]) ∧ RsL p ∧ St (c + 400) s') (W.rounds (S := Int × Nat × D × List D) (fun q => [.i q.1, .i n, .i (q.2.1 : Int), q.2.2.1, .n l, .n q.2.2.2]) (fun q => (q.2.1 : Int) ≤ n ∧ q.2.2.2.length = q.2.1 ∧ (∀ x ∈ q.2.2.2, Rs x) ∧ St (c + 1 + 20 * q.2.1) q.2.2.1) (fun q => n.toNat - q.2.1) (fun q hI rc ih => ?_) (0, 0, s1, []) ⟨by simp only; omega, rfl, by simp, by simpa using h1⟩) ?_
  · obtain ⟨vat, j, s2, out⟩ := q
    obtain ⟨a1, a2, a3, a4⟩ := hI
    simp only at a1 a2 a3 a4
    unfold b_gatemake_Stream_Results_0
    simp only [D.nth_zero, D.nth_succ, D.int_i, D.list_n]
    have e1 : IntKind.i64.wrap ((j : Int) + 1) = ((j + 1 : Nat) : Int) := by rw [wrap_i64 (by omega) (by omega)]; omega
    rw [e1]
    refine W.cond (fun h => ?_) (fun h => ?_)
    · simp at h
      refine W.bind (w_PickI _ s2 [0, 1, 5, 10] a4 (by omega) (by simp) (by simp)) ?_
      rintro _ ⟨x, s3, t, rfl, hx, h3⟩
      simp only [D.nth_zero, D.nth_succ, D.int_i]
      refine W.bind (w_InstanceKey _ s3 h3 (by omega)) ?_
      rintro _ ⟨k, s4, rfl, h4⟩
      simp only [D.nth_zero, D.nth_succ]
      refine W.bind (w_PickI _ s4 [0, 200, 404, 500, 503, 599] h4 (by omega) (by simp) (by simp)) ?_
      rintro _ ⟨y, s5, t2, rfl, hy, h5⟩
      simp only [D.nth_zero, D.nth_succ]
      generalize IntKind.i64.wrap (vat + x) = v
      refine W.bind (p := fun r => ∃ b s', r = (0, [.b b, s', .n l]) ∧ (b = true → 0 < l.length) ∧ St (c + 20 * j + 6) s') ?_ ?_
      · unfold b_gatemake_Stream_Results_1
        simp only [D.nth_zero, D.nth_succ, D.list_n]
        refine W.cond (fun h => ?_) (fun h => W.ret ⟨false, s5, rfl, fun h => by simp at h, h5.le (by omega)⟩)
        refine W.bind (w_Flip _ _ s5 h5 (by omega) (by simp)) ?_
        rintro _ ⟨b, s6, rfl, h6⟩
        simp at h
        exact W.ret ⟨!b, s6, rfl, fun _ => by omega, h6.le (by omega)⟩
      rintro _ ⟨b, s6, rfl, hb, h6⟩
      simp only [D.nth_zero, D.nth_succ, D.list_n]
      refine W.bind (p := fun r => ∃ s' k', r = (0, [s', .n l, .n [.i v, .s k', .i y]]) ∧ St (c + 20 * j + 7) s') ?_ ?_
      · unfold b_gatemake_Stream_Results_2
        simp only [D.nth_zero, D.nth_succ, D.list_n, D.bool_b, D.at_n]
        refine W.cond (fun hbt => ?_) (fun _ => W.ret ⟨s6, k, rfl, h6.le (by omega)⟩)
        have hl0 := hb hbt
        refine W.bind (w_Next _ _ s6 h6 (by omega) (by simp; omega)) ?_
        rintro _ ⟨i, s7, rfl, i0, i1, h7⟩
        simp only [D.int_i] at i1
        have i1 := i1 (by omega)
        obtain ⟨m, rfl⟩ : ∃ m : Nat, i = (m : Int) := ⟨i.toNat, by omega⟩
        have hm : m < l.length := by omega
        simp only [D.nth_zero, D.nth_succ, D.int_i, Int.toNat_natCast]
        refine W.cond (fun _ => ?_) (fun h => by simp at h; omega)
        obtain ⟨a, w, hx, ha, hx0, hx1⟩ := hl.nth hm
        rw [hx0]
        exact W.ret ⟨s7, a, rfl, h7.le (by omega)⟩
      rintro _ ⟨s7, k', rfl, h7⟩
      simp only [D.nth_zero, D.nth_succ, D.list_n, D.at_n]
      refine W.bind (w_Flip _ _ s7 h7 (by omega) (by simp)) ?_
      rintro _ ⟨b2, s8, rfl, h8⟩
      simp only [D.nth_zero, D.nth_succ, D.bool_b]
      refine W.cond (fun _ => ?_) (fun _ => ?_)
      · refine W.bind (w_Odd _ 0 50 s8 h8 (by omega) (by omega) (by omega) (by omega)) ?_
        rintro _ ⟨z1, s9, rfl, _, _, h9⟩
        simp only [D.nth_zero, D.nth_succ]
        refine W.bind (w_Odd _ 100 599 s9 h9 (by omega) (by omega) (by omega) (by omega)) ?_
        rintro _ ⟨z2, s10, rfl, _, _, h10⟩
        simp only [D.nth_zero, D.nth_succ]
        refine W.cond (fun _ => ?_) (fun h => absurd (lim_mk (n := out.length + 1) (by omega)) (by rw [h]; simp))
        refine ih (v, j + 1, s10, out ++ [_]) ⟨by simp only; omega, by simp [a2], fun y hy => ?_, h10.le (by simp only; omega)⟩ (by simp only; omega)
        rcases List.mem_append.1 hy with hy | hy
        · exact a3 y hy
        · simp only [List.mem_singleton] at hy
          subst hy
          exact ⟨_, _, _, rfl⟩
      · refine W.cond (fun _ => ?_) (fun h => absurd (lim_mk (n := out.length + 1) (by omega)) (by rw [h]; simp))
        refine ih (v, j + 1, s8, out ++ [_]) ⟨by simp only; omega, by simp [a2], fun y hy => ?_, h8.le (by simp only; omega)⟩ (by simp only; omega)
        rcases List.mem_append.1 hy with hy | hy
        · exact a3 y hy
        · simp only [List.mem_singleton] at hy
          subst hy
          exact ⟨_, _, _, rfl⟩
    · simp at h
      exact W.ret ⟨s2, out, rfl, ⟨by omega, a3⟩, a4.le (by omega)⟩
  · rintro _ ⟨s2, p, rfl, hp, h2⟩
    exact W.ret ⟨s2, p, rfl, hp, h2⟩
/-! ### Right results -/
def momB (a : Int) : Bool := bif geI a 0 then ltI a 345686400000 else false
theorem moment2 (x : D) : (D.nth (p_gateref2_Moment x) 0).bool = momB x.int := by
  simp only [p_gateref2_Moment, p_gateref2_in, D.nth_zero, D.bool_b, D.int_i, momB]
  generalize x.int = x
  cases h1 : leI 0 x <;> cases h2 : leI x 345686399999 <;> cases h3 : geI x 0 <;> cases h4 : ltI x 345686400000 <;> first | rfl | (exfalso; simp at h1 h2 h3 h4; omega)
def stB (x : D) : Bool := bif (x.at' 2).int != 0 then (bif ltI (x.at' 2).int 100 then true else gtI (x.at' 2).int 599) else false
def ordR (r : List D) (j : Nat) : Bool := bif gtI (j : Int) 0 then ltI ((D.nth r j).at' 0).int ((D.nth r (j - 1)).at' 0).int else false
def resF (l r : List D) (j : Nat) : Int := bif !momB ((D.nth r j).at' 0).int then 1 else bif !(l.any fun x => idS x == ((D.nth r j).at' 1).str) then 8 else bif stB (D.nth r j) then 1 else bif ordR r j then 7 else 0
def resD (l r : List D) : List D := bif gtI (r.length : Int) 2000 then [.i 2] else errD (scan (errAt (resF l r)) (1, []) r.length 0)
theorem w_CheckResults (l r : List D) (hl : InL l) (hr : RsL r) : W (fun K _ => f_upstream_CheckResults K (.n l) (.n r)) (fun x => x = bif ((D.nth (insD l) 0).int != 0) then [D.nth (insD l) 0] else resD l r) := by
  have hl10 := hl.1
  have hr4 := hr.1
  unfold f_upstream_CheckResults resD
  refine W.bind (w_CheckInstances l hl) ?_
  rintro _ rfl
  simp only [D.list_n]
  refine W.cond (fun h => W.ret (by rw [h]; rfl)) (fun h => ?_)
  rw [h, cond_false]
  have hinc := insD_zero hl (by simpa using h)
  refine W.cond (fun h => W.ret (by rw [h]; rfl)) (fun h => ?_)
  rw [h, cond_false]
  refine W.bind (W.early r.length (fun j => [.n l, .n r, .n r, .i r.length, .i j]) (errAt (resF l r)) (1, []) (fun j hj hpr q rc g1 g2 => ?_) (fun rc => ?_)) ?_
  · unfold b_upstream_CheckResults_0
    simp only [D.nth_zero, D.nth_succ, D.int_i, D.list_n, Int.toNat_natCast]
    obtain ⟨a, k, s, hx, hx0, hx1, hx2⟩ := hr.nth hj
    refine W.cond (fun _ => ?_) (fun h => by simp at h; omega)
    refine W.cond (fun _ => ?_) (fun h => by simp at h; omega)
    have hm : (D.nth (p_kit_IsMoment ((D.nth r j).at' 0)) 0).bool = momB ((D.nth r j).at' 0).int := rfl
    rw [hm]
    refine W.cond (fun hn => W.ret (g1 _ ?_)) (fun hn => ?_)
    · exact errAt_some (by simp only [resF, hn, cond_true]) (by omega)
    have hk : ((D.nth r j).at' 1).str = k := by rw [hx1]; rfl
    rw [hx1]
    refine W.bind (w_place l k hl hinc) ?_
    rintro _ ⟨i, rfl, _⟩
    simp only [D.nth_zero, D.nth_succ, D.bool_b]
    refine W.cond (fun hp => W.ret (g1 _ ?_)) (fun hp => ?_)
    · exact errAt_some (by simp only [resF, hn, hk, hp, cond_true, cond_false]) (by omega)
    have hs : (bif (((D.nth r j).at' 2).int != (0 : Int)) then (D.nth (p_kit_Outside ((D.nth r j).at' 2) (D.i 100) (D.i 599)) 0).bool else false) = stB (D.nth r j) := rfl
    rw [hs]
    refine W.cond (fun hb => W.ret (g1 _ ?_)) (fun hb => ?_)
    · exact errAt_some (by simp only [resF, hn, hk, hp, hb, cond_true, cond_false]) (by omega)
    have hw : IntKind.i64.wrap ((j : Int) - 1) = (j : Int) - 1 := wrap_i64 (by omega) (by omega)
    have hnn : ((j : Int) - 1).toNat = j - 1 := by omega
    rw [hw, hnn]
    refine W.cond (fun _ => ?_) (fun h => by simp at h; omega)
    have ho' : (bif gtI (j : Int) 0 then ltI ((D.nth r j).at' 0).int ((D.nth r (j - 1)).at' 0).int else false) = ordR r j := rfl
    rw [ho']
    refine W.cond (fun ho => W.ret (g1 _ ?_)) (fun ho => ?_)
    · exact errAt_some (by simp only [resF, hn, hk, hp, hb, ho, cond_true, cond_false]) (by omega)
    · rw [wrap_i64 (x := (j : Int) + 1) (by omega) (by omega)]
      exact g2 (errAt_none (by simp only [resF, hn, hk, hp, hb, ho, cond_true, cond_false]))
  · unfold b_upstream_CheckResults_0
    simp only [D.nth_zero, D.nth_succ, D.int_i]
    exact W.cond (fun h => by simp at h) (fun _ => W.ret rfl)
  · rintro _ rfl
    generalize scan (errAt (resF l r)) (1, []) r.length 0 = r
    unfold errD
    exact W.cond (fun h => W.ret (by rw [h]; rfl)) (fun h => W.ret (by rw [h]; rfl))
theorem w_ResultsFault (l r : List D) (hl : InL l) (hr : RsL r) : W (fun K _ => f_gateref2_ResultsFault K (.n l) (.n r)) (fun x => x = resD l r) := by
  have hl10 := hl.1
  have hr4 := hr.1
  unfold f_gateref2_ResultsFault resD
  simp only [D.list_n]
  refine W.cond (fun h => W.ret (by rw [h]; rfl)) (fun h => ?_)
  rw [h, cond_false]
  refine W.bind (W.early r.length (fun j => [.n l, .n r, .n r, .i r.length, .i j]) (errAt (resF l r)) (1, []) (fun j hj hpr q rc g1 g2 => ?_) (fun rc => ?_)) ?_
  · unfold b_gateref2_ResultsFault_0
    simp only [D.nth_zero, D.nth_succ, D.int_i, D.list_n, Int.toNat_natCast]
    obtain ⟨a, k, s, hx, hx0, hx1, hx2⟩ := hr.nth hj
    refine W.cond (fun _ => ?_) (fun h => by simp at h; omega)
    refine W.cond (fun _ => ?_) (fun h => by simp at h; omega)
    rw [moment2]
    refine W.cond (fun hn => W.ret (g1 _ ?_)) (fun hn => ?_)
    · exact errAt_some (by simp only [resF, hn, cond_true]) (by omega)
    have hk : ((D.nth r j).at' 1).str = k := by rw [hx1]; rfl
    rw [hx1]
    refine W.bind (w_InstanceAt l k hl) ?_
    rintro _ ⟨i, rfl, hi⟩
    simp only [D.nth_zero, D.int_i]
    rw [hi]
    refine W.cond (fun hp => W.ret (g1 _ ?_)) (fun hp => ?_)
    · exact errAt_some (by simp only [resF, hn, hk, hp, cond_true, cond_false]) (by omega)
    have hs : (bif (((D.nth r j).at' 2).int != (0 : Int)) then (!(D.nth (p_gateref2_in ((D.nth r j).at' 2) (D.i 100) (D.i 599)) 0).bool) else false) = stB (D.nth r j) := by
      simp only [p_gateref2_in, D.nth_zero, D.bool_b, D.int_i, in_out]
      rfl
    rw [hs]
    refine W.cond (fun hb => W.ret (g1 _ ?_)) (fun hb => ?_)
    · exact errAt_some (by simp only [resF, hn, hk, hp, hb, cond_true, cond_false]) (by omega)
    have hw : IntKind.i64.wrap ((j : Int) - 1) = (j : Int) - 1 := wrap_i64 (by omega) (by omega)
    have hnn : ((j : Int) - 1).toNat = j - 1 := by omega
    rw [hw, hnn]
    refine W.cond (fun _ => ?_) (fun h => by simp at h; omega)
    have ho' : (bif gtI (j : Int) 0 then ltI ((D.nth r j).at' 0).int ((D.nth r (j - 1)).at' 0).int else false) = ordR r j := rfl
    rw [ho']
    refine W.cond (fun ho => W.ret (g1 _ ?_)) (fun ho => ?_)
    · exact errAt_some (by simp only [resF, hn, hk, hp, hb, ho, cond_true, cond_false]) (by omega)
    · rw [wrap_i64 (x := (j : Int) + 1) (by omega) (by omega)]
      exact g2 (errAt_none (by simp only [resF, hn, hk, hp, hb, ho, cond_true, cond_false]))
  · unfold b_gateref2_ResultsFault_0
    simp only [D.nth_zero, D.nth_succ, D.int_i]
    exact W.cond (fun h => by simp at h) (fun _ => W.ret rfl)
  · rintro _ rfl
    generalize scan (errAt (resF l r)) (1, []) r.length 0 = r
    unfold errD
    exact W.cond (fun h => W.ret (by rw [h]; rfl)) (fun h => W.ret (by rw [h]; rfl))
theorem resD_zero {l r : List D} (hr : RsL r) (h : (D.nth (resD l r) 0).int = 0) : ∀ j, j < r.length → momB ((D.nth r j).at' 0).int = true ∧ (l.any fun x => idS x == ((D.nth r j).at' 1).str) = true := by
  have hr4 := hr.1
  have hg : gtI (r.length : Int) 2000 = false := by simp; omega
  unfold resD at h
  rw [hg, cond_false] at h
  rcases scan_cases (errAt (resF l r)) (1, []) r.length 0 with ⟨i, q, h1, h2, h3, h4, h5⟩ | ⟨h1, h2⟩
  · exfalso
    rw [h4] at h
    unfold errAt at h3
    cases hc : resF l r i != 0 with
    | false => rw [hc] at h3; cases h3
    | true =>
      rw [hc] at h3
      cases h3
      have : resF l r i = 0 := h
      simp [this] at hc
  · intro j hj
    have hz := errAt_none_iff (h1 j (Nat.zero_le _) (by omega))
    unfold resF at hz
    cases hk : momB ((D.nth r j).at' 0).int with
    | false => rw [hk] at hz; simp at hz
    | true =>
      cases ho : (l.any fun x => idS x == ((D.nth r j).at' 1).str) with
      | false => rw [hk, ho] at hz; simp at hz
      | true => exact ⟨rfl, rfl⟩
/-! ### How instances stand -/
abbrev T3 := Int × Int × Int
def dbl (b m : Int) : Nat → Int
  | 0 => b
  | k + 1 => minI (2 * dbl b m k) m
def cntU (u : Nat → Int) (t : Int) : Nat → Int
  | 0 => 0
  | k + 1 => cntU u t k + (bif ltI t (u k) then 1 else 0)
def outK (l : List D) (u : Nat → Int) (t : Int) : Nat → List D
  | 0 => []
  | k + 1 => outK l u t k ++ (bif ltI t (u k) then [(D.nth l k).at' 0] else [])
theorem cntU_le (u : Nat → Int) (t : Int) : ∀ k, 0 ≤ cntU u t k ∧ cntU u t k ≤ k
  | 0 => by simp [cntU]
  | k + 1 => by
    have := cntU_le u t k
    simp only [cntU]
    cases ltI t (u k) <;> simp <;> omega
theorem outK_len (l : List D) (u : Nat → Int) (t : Int) : ∀ k, ((outK l u t k).length : Int) = cntU u t k
  | 0 => rfl
  | k + 1 => by
    have := outK_len l u t k
    simp only [cntU, outK]
    cases ltI t (u k) <;> simp <;> omega
theorem cntU_congr {u u' : Nat → Int} (t : Int) : ∀ k, (∀ j, j < k → u j = u' j) → cntU u t k = cntU u' t k
  | 0, _ => rfl
  | k + 1, h => by simp only [cntU]; rw [cntU_congr t k fun j hj => h j (by omega), h k (by omega)]
theorem outK_congr {u u' : Nat → Int} (l : List D) (t : Int) : ∀ k, (∀ j, j < k → u j = u' j) → outK l u t k = outK l u' t k
  | 0, _ => rfl
  | k + 1, h => by simp only [outK]; rw [outK_congr l t k fun j hj => h j (by omega), h k (by omega)]
theorem dbl_le {b m : Int} (h1 : 1 ≤ b) (h2 : b ≤ m) : ∀ k, 1 ≤ dbl b m k ∧ dbl b m k ≤ m
  | 0 => ⟨h1, h2⟩
  | k + 1 => by
    have := dbl_le h1 h2 k
    simp only [dbl, minI]
    split <;> omega
theorem dbl_most {b m : Int} (h1 : 1 ≤ b) (h2 : b ≤ m) {k : Nat} (h : dbl b m k = m) : ∀ j, dbl b m (k + j) = m
  | 0 => h
  | j + 1 => by
    have := dbl_most h1 h2 h j
    have e : dbl b m (k + (j + 1)) = minI (2 * dbl b m (k + j)) m := rfl
    rw [e, this]
    unfold minI
    split <;> omega
def t0 : T3 := (0, 0, 0)
def unt (S : List T3) (j : Nat) : Int := (S.getD j t0).2.1
def stepS (o : D) (S : List T3) (i : Nat) (t st : Int) : List T3 :=
  bif ltI t (unt S i) then S
  else bif !(D.nth (p_upstream_fails (.i st)) 0).bool then S.set i (0, (S.getD i t0).2)
  else bif ltI (IntKind.i64.wrap ((S.getD i t0).1 + 1)) (o.at' 0).int then S.set i (IntKind.i64.wrap ((S.getD i t0).1 + 1), (S.getD i t0).2)
  else bif leI (IntKind.i64.wrap ((1 + cntU (unt S) t S.length) * 1000)) (IntKind.i64.wrap ((o.at' 3).int * S.length)) then S.set i (0, IntKind.i64.wrap (t + dbl (o.at' 1).int (o.at' 2).int (S.getD i t0).2.2.toNat), IntKind.i64.wrap ((S.getD i t0).2.2 + 1))
  else S.set i (0, (S.getD i t0).2)
theorem stepS_len (o : D) (S : List T3) (i : Nat) (t st : Int) : (stepS o S i t st).length = S.length := by
  unfold stepS
  repeat' first | (rw [cond_eq_ite]; split) | simp
theorem getD_mem {S : List T3} {i : Nat} (h : i < S.length) : S.getD i t0 ∈ S := by
  rw [List.getD_eq_getElem?_getD, List.getElem?_eq_getElem h]; simp
theorem stepS_times {o : D} {S : List T3} {i : Nat} {t st : Int} {c : Int} (hc : c ≤ 1000000) (hi : i < S.length) (h : ∀ x ∈ S, 0 ≤ x.2.2 ∧ x.2.2 ≤ c) : ∀ x ∈ stepS o S i t st, 0 ≤ x.2.2 ∧ x.2.2 ≤ c + 1 := by
  have h0 := h _ (getD_mem hi)
  have g : ∀ {y : T3}, 0 ≤ y.2.2 → y.2.2 ≤ c + 1 → ∀ x ∈ S.set i y, 0 ≤ x.2.2 ∧ x.2.2 ≤ c + 1 := fun h1 h2 x hx => by
    rcases List.mem_or_eq_of_mem_set hx with hx | rfl
    · have := h x hx; omega
    · exact ⟨h1, h2⟩
  unfold stepS
  cases ltI t (unt S i) with
  | true => intro x hx; have := h x hx; omega
  | false =>
    cases !(D.nth (p_upstream_fails (.i st)) 0).bool with
    | true => exact g (by simp only; omega) (by simp only; omega)
    | false =>
      cases ltI (IntKind.i64.wrap ((S.getD i t0).1 + 1)) (o.at' 0).int with
      | true => exact g (by simp only; omega) (by simp only; omega)
      | false =>
        cases leI (IntKind.i64.wrap ((1 + cntU (unt S) t S.length) * 1000)) (IntKind.i64.wrap ((o.at' 3).int * S.length)) with
        | true =>
          have e : IntKind.i64.wrap ((S.getD i t0).2.2 + 1) = (S.getD i t0).2.2 + 1 := wrap_i64 (by omega) (by omega)
          exact g (by simp only [e]; omega) (by simp only [e]; omega)
        | false => exact g (by simp only; omega) (by simp only; omega)
/-! ### One side: a row -/
def abs1 (x : D) : T3 := ((x.at' 0).int, (x.at' 1).int, (x.at' 2).int)
theorem nth_setNth' : ∀ (l : List D) (j k : Nat) (v : D), D.nth (D.setNth l j v) k = if k = j then v else D.nth l k
  | [], 0, k, v => by cases k with
    | zero => rfl
    | succ k => rw [if_neg (by omega)]; exact nth_none (by simp [D.setNth])
  | [], j + 1, k, v => by cases k with
    | zero => rfl
    | succ k =>
      have := nth_setNth' [] j k v
      simp only [D.setNth, D.nth_succ] at this ⊢
      rw [this]
      have e : (k = j) = (k + 1 = j + 1) := by simp
      simp only [e]
      rfl
  | a :: l, 0, k, v => by cases k with
    | zero => rfl
    | succ k => rw [if_neg (by omega)]; rfl
  | a :: l, j + 1, k, v => by cases k with
    | zero => rfl
    | succ k =>
      have := nth_setNth' l j k v
      simp only [D.setNth, D.nth_succ] at this ⊢
      rw [this]
      have e : (k = j) = (k + 1 = j + 1) := by simp
      simp only [e]
theorem at_set (x : D) (j k : Nat) (v : D) : (D.n (D.setNth x.list j v)).at' k = if k = j then v else x.at' k := nth_setNth' _ _ _ _
theorem abs_set {L : List D} {i : Nat} {x : D} (hi : i < L.length) : (D.setNth L i x).map abs1 = (L.map abs1).set i (abs1 x) := by
  rw [setNth_eq _ hi, List.map_set]
theorem abs_get {L : List D} {i : Nat} (hi : i < L.length) : (L.map abs1).getD i t0 = abs1 (D.nth L i) := by
  rw [List.getD_eq_getElem?_getD, List.getElem?_map, List.getElem?_eq_getElem hi, nth_eq hi]; rfl
theorem w_isOut (o : D) (L : List D) (i : Nat) (t : Int) (hi : i < L.length) : W (fun K _ => f_upstream_standings_isOut K (.i i) (.i t) o (.n L)) (fun r => r = [.b (ltI t ((D.nth L i).at' 1).int), o, .n L]) := by
  unfold f_upstream_standings_isOut
  simp only [D.int_i, D.list_n, Int.toNat_natCast]
  exact W.cond (fun _ => W.ret rfl) (fun h => by simp at h; omega)
theorem w_doubled (b m : Int) (x : D) (h1 : 1 ≤ b) (h2 : b ≤ m) (h3 : m ≤ 3600000) (h4 : 0 ≤ x.int) (h5 : x.int ≤ 1000000) : W (fun K _ => f_upstream_doubled K (.i b) x (.i m)) (fun r => r = [.i (dbl b m x.int.toNat)]) := by
  unfold f_upstream_doubled
  refine W.bind (p := fun r => ∃ n, r = (0, [.i n]) ∧ minI n m = dbl b m x.int.toNat) (W.rounds (S := Int × Nat) (fun q => [.i q.1, .i m, x, .i (q.2 : Int)]) (fun q => (q.2 : Int) ≤ x.int ∧ 1 ≤ q.1 ∧ q.1 ≤ 2 * m ∧ minI q.1 m = dbl b m q.2) (fun q => x.int.toNat - q.2) (fun q hI rc ih => ?_) (b, 0) ⟨by simp only; omega, h1, by simp only; omega, by simp only [minI, dbl]; split <;> omega⟩) ?_
  · obtain ⟨n, j⟩ := q
    obtain ⟨a1, a2, a3, a4⟩ := hI
    simp only at a1 a2 a3 a4
    unfold b_upstream_doubled_0
    simp only [D.nth_zero, D.nth_succ, D.int_i]
    refine W.cond (fun h => ?_) (fun h => ?_)
    · simp at h
      refine W.cond (fun hg => W.ret ⟨n, rfl, ?_⟩) (fun hg => ?_)
      · simp at hg
        have e : minI n m = m := by unfold minI; split <;> omega
        rw [e] at a4 ⊢
        have := dbl_most h1 h2 a4.symm (x.int.toNat - j)
        rw [show j + (x.int.toNat - j) = x.int.toNat by omega] at this
        exact this.symm
      · simp at hg
        have e1 : IntKind.i64.wrap ((j : Int) + 1) = ((j + 1 : Nat) : Int) := by rw [wrap_i64 (by omega) (by omega)]; omega
        have e2 : IntKind.i64.wrap (n * 2) = n * 2 := wrap_i64 (by omega) (by omega)
        rw [e1, e2]
        refine ih (n * 2, j + 1) ⟨by simp only; omega, by simp only; omega, by simp only; omega, ?_⟩ (by simp only; omega)
        have e : minI n m = n := by unfold minI; split <;> omega
        rw [e] at a4
        simp only [dbl, ← a4]
        rw [show n * 2 = 2 * n by omega]
    · simp at h
      have : x.int.toNat = j := by omega
      rw [this]
      exact W.ret ⟨n, rfl, a4⟩
  · rintro _ ⟨n, rfl, h⟩
    exact W.ret (by simp only [D.nth_zero, D.int_i]; rw [h])
theorem w_told (f b m sh : Int) (L : List D) (i : Nat) (t st : Int) (hi : i < L.length) (hL : L.length ≤ 10) (h1 : 1 ≤ b) (h2 : b ≤ m) (h3 : m ≤ 3600000) (ht : ∀ x ∈ L.map abs1, 0 ≤ x.2.2 ∧ x.2.2 ≤ 1000000) :
    W (fun K _ => f_upstream_standings_told K (.i i) (.i t) (.i st) (.n [.i f, .i b, .i m, .i sh]) (.n L)) (fun r => ∃ L', r = [.n [.i f, .i b, .i m, .i sh], .n L'] ∧ L'.length = L.length ∧ L'.map abs1 = stepS (.n [.i f, .i b, .i m, .i sh]) (L.map abs1) i t st) := by
  have hg := abs_get hi
  have hti := ht _ (getD_mem (by simpa using hi : i < (L.map abs1).length))
  have hu : unt (L.map abs1) i = ((D.nth L i).at' 1).int := by unfold unt; rw [hg]; rfl
  unfold f_upstream_standings_told
  refine W.bind (w_isOut _ L i t hi) ?_
  rintro _ rfl
  simp only [D.nth_zero, D.nth_succ, D.bool_b, D.int_i, D.list_n, Int.toNat_natCast]
  refine W.cond (fun h => W.ret ⟨L, rfl, rfl, ?_⟩) (fun h => ?_)
  · unfold stepS; rw [hu, h]; rfl
  refine W.cond (fun _ => ?_) (fun h => by simp at h; omega)
  refine W.cond (fun hf => W.ret ⟨_, rfl, length_setNth hi, ?_⟩) (fun hf => ?_)
  · rw [abs_set hi]
    unfold stepS
    rw [hu, h, hf, hg]
    simp only [cond_true, cond_false, abs1, at_set, D.int_i, if_true, if_neg (show ¬ (1 : Nat) = 0 by omega), if_neg (show ¬ (2 : Nat) = 0 by omega)]
  generalize hv : (((D.nth L i).at' 0).int + (1 : Int)) = v
  have e0 : ((D.nth (D.setNth L i (D.n (D.setNth (D.nth L i).list 0 (D.i (IntKind.i64.wrap v))))) i).at' 0).int = IntKind.i64.wrap v := by rw [at_set_same, at_set, if_pos rfl]; rfl
  have hq : ((L.map abs1).getD i t0).1 + 1 = v := by rw [hg]; exact hv
  rw [e0]
  have h0f : ((D.n [D.i f, D.i b, D.i m, D.i sh]).at' 0).int = f := rfl
  have h1f : ((D.n [D.i f, D.i b, D.i m, D.i sh]).at' 1) = .i b := rfl
  have h2f : ((D.n [D.i f, D.i b, D.i m, D.i sh]).at' 2) = .i m := rfl
  have h3f : ((D.n [D.i f, D.i b, D.i m, D.i sh]).at' 3).int = sh := rfl
  rw [h0f]
  refine W.cond (fun hr => W.ret ⟨_, rfl, length_setNth hi, ?_⟩) (fun hr => ?_)
  · rw [abs_set hi]
    unfold stepS
    rw [hu, h, hf, hq, h0f, hr, hg]
    simp only [cond_true, cond_false, abs1, at_set, D.int_i, if_true, if_neg (show ¬ (1 : Nat) = 0 by omega), if_neg (show ¬ (2 : Nat) = 0 by omega)]
  -- the row is full: it begins anew
  generalize hL2 : D.setNth (D.setNth L i (D.n (D.setNth (D.nth L i).list 0 (D.i (IntKind.i64.wrap v))))) i _ = L2
  have hl2 : L2.length = L.length := by rw [← hL2, length_setNth (by rw [length_setNth hi]; exact hi), length_setNth hi]
  have hn2 : ∀ j, j < L.length → (∀ k, 0 < k → (D.nth L2 j).at' k = (D.nth L j).at' k) ∧ (j ≠ i → D.nth L2 j = D.nth L j) := fun j hj => by
    rw [← hL2, nth_setNth (by rw [length_setNth hi]; exact hi), at_set_same]
    refine ⟨fun k hk => ?_, fun hne => ?_⟩
    · split
      · rename_i he
        subst he
        rw [at_set, if_neg (by omega), at_set, if_neg (by omega)]
      · rename_i he
        rw [nth_setNth hi, if_neg he]
    · rw [if_neg hne, nth_setNth hi, if_neg hne]
  have h02 : ((D.nth L2 i).at' 0).int = 0 := by
    rw [← hL2, nth_setNth (by rw [length_setNth hi]; exact hi), if_pos rfl, at_set, if_pos rfl]; rfl
  have habs2 : L2.map abs1 = (L.map abs1).set i (0, ((L.map abs1).getD i t0).2) := by
    rw [hg, ← hL2, abs_set (by rw [length_setNth hi]; exact hi), abs_set hi, List.set_set]
    congr 1
    simp only [at_set_same, abs1, at_set, D.int_i, if_true, if_neg (show ¬ (1 : Nat) = 0 by omega), if_neg (show ¬ (2 : Nat) = 0 by omega)]
  have hi2 : i < L2.length := by omega
  refine W.bind (p := fun r => r = (0, [.i (1 + cntU (fun j => ((D.nth L j).at' 1).int) t L.length), .n [.i f, .i b, .i m, .i sh], .n L2])) (W.rounds (S := Nat) (fun k => [.i t, .i (1 + cntU (fun j => ((D.nth L j).at' 1).int) t k), .i (L2.length : Int), .i (k : Int), .n [.i f, .i b, .i m, .i sh], .n L2]) (fun k => k ≤ L.length) (fun k => L.length - k) (fun k hI rc ih => ?_) 0 (by simp)) ?_
  · have hc := cntU_le (fun j => ((D.nth L j).at' 1).int) t k
    unfold b_upstream_standings_told_0
    simp only [D.nth_zero, D.nth_succ, D.int_i, D.list_n]
    have e1 : IntKind.i64.wrap ((k : Int) + 1) = ((k + 1 : Nat) : Int) := by rw [wrap_i64 (by omega) (by omega)]; omega
    rw [e1]
    refine W.cond (fun hk => ?_) (fun hk => ?_)
    · simp at hk
      refine W.bind (w_isOut _ L2 k t (by omega)) ?_
      rintro _ rfl
      simp only [D.nth_zero, D.nth_succ, D.bool_b, D.list_n]
      rw [(hn2 k (by omega)).1 1 (by omega)]
      have ih := ih (k + 1) (by omega) (by omega)
      refine W.cond (fun hb => ?_) (fun hb => ?_)
      · have e2 : IntKind.i64.wrap (1 + cntU (fun j => ((D.nth L j).at' 1).int) t k + 1) = 1 + cntU (fun j => ((D.nth L j).at' 1).int) t (k + 1) := by
          rw [wrap_i64 (by omega) (by omega)]
          simp only [cntU, hb, cond_true]
          omega
        rw [e2]
        exact ih
      · have e2 : cntU (fun j => ((D.nth L j).at' 1).int) t (k + 1) = cntU (fun j => ((D.nth L j).at' 1).int) t k := by simp only [cntU, hb, cond_false]; omega
        rw [e2] at ih
        exact ih
    · simp at hk
      have : k = L.length := by omega
      rw [this]
      exact W.ret rfl
  rintro _ rfl
  simp only [D.nth_zero, D.nth_succ, D.int_i, D.list_n, h1f, h2f, h3f]
  have hcu : cntU (unt (L.map abs1)) t (L.map abs1).length = cntU (fun j => ((D.nth L j).at' 1).int) t L.length := by
    rw [List.length_map]
    refine cntU_congr t _ fun j hj => ?_
    unfold unt
    rw [abs_get hj]
    rfl
  rw [hl2]
  refine W.cond (fun hc => ?_) (fun hc => W.ret ⟨L2, rfl, hl2, ?_⟩)
  · have hx : ((D.nth L2 i).at' 2).int = ((L.map abs1).getD i t0).2.2 := by rw [(hn2 i hi).1 2 (by omega), hg]; rfl
    refine W.bind (w_doubled b m _ h1 h2 h3 (by rw [hx]; exact hti.1) (by rw [hx]; exact hti.2)) ?_
    rintro _ rfl
    simp only [D.nth_zero, D.int_i]
    refine W.ret ⟨_, rfl, by rw [length_setNth (by rw [length_setNth hi2]; exact hi2), length_setNth hi2, hl2], ?_⟩
    rw [abs_set (by rw [length_setNth hi2]; exact hi2), abs_set hi2, List.set_set, habs2, List.set_set]
    unfold stepS
    rw [hu, h, hf, hq, h0f, hr, hcu, h3f, List.length_map, hc]
    simp only [cond_true, cond_false]
    congr 1
    simp only [at_set_same, abs1, at_set, D.int_i, if_true, if_neg (show ¬ (1 : Nat) = 0 by omega), if_neg (show ¬ (2 : Nat) = 0 by omega), if_neg (show ¬ (0 : Nat) = 1 by omega), if_neg (show ¬ (0 : Nat) = 2 by omega), if_neg (show ¬ (1 : Nat) = 2 by omega), if_neg (show ¬ (2 : Nat) = 1 by omega), h02, hx, h1f, h2f]
  · rw [habs2]
    unfold stepS
    rw [hu, h, hf, hq, h0f, hr, hcu, h3f, List.length_map, hc]
    rfl
/-! ### The other side: maps -/
theorem get_setM (k k' v : D) : ∀ (m : List D), mapGet .str k (mapSet .str k' v m) = bif k.str == k'.str then v else mapGet .str k m
  | [] => by
    simp only [mapSet, mapGet, eqK, D.at_n, D.nth_zero, D.nth_succ]
  | x :: m => by
    have ih := get_setM k k' v m
    simp only [mapSet, eqK]
    cases h1 : k'.str == (x.at' 0).str with
    | true =>
      have e1 : k'.str = (x.at' 0).str := by simpa using h1
      simp only [cond_true, mapGet, eqK, D.at_n, D.nth_zero, D.nth_succ]
      rw [e1]
      cases k.str == (x.at' 0).str <;> rfl
    | false =>
      simp only [cond_false, mapGet, eqK]
      cases h2 : k.str == (x.at' 0).str with
      | true =>
        have e2 : k.str = (x.at' 0).str := by simpa using h2
        have : (k.str == k'.str) = false := by
          rw [e2]
          have : k'.str ≠ (x.at' 0).str := by simpa using h1
          simpa using fun h => this h.symm
        rw [this]
        rfl
      | false => exact ih
def ent3 (r0 r1 r2 : List D) (k : D) : T3 := ((mapGet .str k r0).int, (mapGet .str k r2).int, (mapGet .str k r1).int)
def absM (l r0 r1 r2 : List D) : List T3 := l.map fun x => ent3 r0 r1 r2 (x.at' 0)
theorem ent3_congr {r0 r1 r2 : List D} {k k' : D} (h : k.str = k'.str) : ent3 r0 r1 r2 k = ent3 r0 r1 r2 k' := by
  have : ∀ m : List D, mapGet .str k m = mapGet .str k' m := fun m => by
    induction m with
    | nil => rfl
    | cons x m ih => simp only [mapGet, eqK, h, ih]
  unfold ent3
  rw [this, this, this]
theorem absM_get {l : List D} {i : Nat} (r0 r1 r2 : List D) (hi : i < l.length) : (absM l r0 r1 r2).getD i t0 = ent3 r0 r1 r2 ((D.nth l i).at' 0) := by
  unfold absM
  rw [List.getD_eq_getElem?_getD, List.getElem?_map, List.getElem?_eq_getElem hi, nth_eq hi]; rfl
theorem inc_ne {l : List D} (h : Inc idS l) {i j : Nat} (hi : i < l.length) (hj : j < l.length) (hne : i ≠ j) : idS (D.nth l i) ≠ idS (D.nth l j) := fun e => by
  rcases Nat.lt_or_gt_of_ne hne with h1 | h1
  · have := h.lt h1 hj
    rw [e, less_irrefl] at this
    cases this
  · have := h.lt h1 hi
    rw [e, less_irrefl] at this
    cases this
theorem absM_set {l : List D} (h : Inc idS l) {i : Nat} (hi : i < l.length) {k : D} (hk : idS (D.nth l i) = k.str) (a b c r0 r1 r2 : List D) (ho : ∀ x : D, x.str ≠ k.str → ent3 a b c x = ent3 r0 r1 r2 x) : absM l a b c = (absM l r0 r1 r2).set i (ent3 a b c k) := by
  refine List.ext_getElem (by simp [absM]) fun j h1 h2 => ?_
  have hj : j < l.length := by simpa [absM] using h1
  rw [List.getElem_set]
  simp only [absM, List.getElem_map]
  have he : l[j] = D.nth l j := (nth_eq hj).symm
  rw [he]
  split
  · rename_i e
    subst e
    exact ent3_congr hk
  · rename_i e
    refine ho _ fun e2 => inc_ne h hi hj e ?_
    rw [hk]
    exact e2.symm
theorem w_out (o : D) (l r0 r1 r2 : List D) (t : Int) (hl : l.length ≤ 10) : W (fun K _ => f_gateref2_bench_out K (.n l) o (.i t) (.n r0) (.n r1) (.n r2)) (fun r => r = [.n r0, .n r1, .n r2, .n (outK l (unt (absM l r0 r1 r2)) t l.length)]) := by
  unfold f_gateref2_bench_out
  simp only [D.list_n]
  generalize hu : unt (absM l r0 r1 r2) = u
  have hn : ∀ k, k < l.length → (mapGet .str ((D.nth l k).at' 0) r2).int = u k := fun k hk => by
    rw [← hu]; unfold unt; rw [absM_get _ _ _ hk]; rfl
  refine W.bind (p := fun r => r = (0, [.n r0, .n r1, .n r2, .n (outK l u t l.length)])) (W.rounds (S := Nat) (fun k => [.n l, o, .i t, .n l, .i (l.length : Int), .i (k : Int), .n r0, .n r1, .n r2, .n (outK l u t k)]) (fun k => k ≤ l.length) (fun k => l.length - k) (fun k hI rc ih => ?_) 0 (by simp)) ?_
  · have hc := cntU_le u t k
    have hc2 := outK_len l u t k
    unfold b_gateref2_bench_out_0
    simp only [D.nth_zero, D.nth_succ, D.int_i, D.list_n, Int.toNat_natCast]
    have e1 : IntKind.i64.wrap ((k : Int) + 1) = ((k + 1 : Nat) : Int) := by rw [wrap_i64 (by omega) (by omega)]; omega
    rw [e1]
    refine W.cond (fun hk => ?_) (fun hk => ?_)
    · simp at hk
      refine W.cond (fun _ => ?_) (fun h => by simp at h; omega)
      rw [hn k hk]
      have ih := ih (k + 1) (by omega) (by omega)
      refine W.cond (fun hb => ?_) (fun hb => ?_)
      · refine W.cond (fun _ => ?_) (fun h => absurd (lim_mk (n := (outK l u t k).length + 1) (by omega)) (by rw [h]; simp))
        simp only [outK, hb, cond_true] at ih
        exact ih
      · simp only [outK, hb, cond_false, List.append_nil] at ih
        exact ih
    · simp at hk
      have : k = l.length := by omega
      rw [this]
      exact W.ret rfl
  rintro _ rfl
  exact W.ret rfl
theorem w_take (f b m sh : Int) (l r0 r1 r2 : List D) (i : Nat) (t st : Int) (k : List UInt8) (hi : i < l.length) (hinc : Inc idS l) (hk : idS (D.nth l i) = k) (hL : l.length ≤ 10) (h1 : 1 ≤ b) (h2 : b ≤ m) (h3 : m ≤ 3600000) (ht : ∀ x ∈ absM l r0 r1 r2, 0 ≤ x.2.2 ∧ x.2.2 ≤ 1000000) :
    W (fun K _ => f_gateref2_bench_take K (.n l) (.n [.i f, .i b, .i m, .i sh]) (.n [.i t, .s k, .i st]) (.n r0) (.n r1) (.n r2)) (fun r => ∃ a b' c, r = [.n a, .n b', .n c] ∧ absM l a b' c = stepS (.n [.i f, .i b, .i m, .i sh]) (absM l r0 r1 r2) i t st) := by
  have hml : (absM l r0 r1 r2).length = l.length := by simp [absM]
  have hkk : idS (D.nth l i) = (D.s k).str := hk
  have hg : (absM l r0 r1 r2).getD i t0 = ent3 r0 r1 r2 (.s k) := by rw [absM_get _ _ _ hi]; exact ent3_congr hkk
  have hti := ht _ (getD_mem (by omega : i < (absM l r0 r1 r2).length))
  have hu : unt (absM l r0 r1 r2) i = (mapGet .str (.s k) r2).int := by unfold unt; rw [hg]; rfl
  have h0f : ((D.n [D.i f, D.i b, D.i m, D.i sh]).at' 0).int = f := rfl
  have h1f : ((D.n [D.i f, D.i b, D.i m, D.i sh]).at' 1) = .i b := rfl
  have h2f : ((D.n [D.i f, D.i b, D.i m, D.i sh]).at' 2) = .i m := rfl
  have h3f : ((D.n [D.i f, D.i b, D.i m, D.i sh]).at' 3).int = sh := rfl
  have hself : ∀ (v : D) (r : List D), mapGet .str (.s k) (mapSet .str (.s k) v r) = v := fun v r => by rw [get_setM]; simp
  have hoth : ∀ (x v : D) (r : List D), x.str ≠ (D.s k).str → mapGet .str x (mapSet .str (.s k) v r) = mapGet .str x r := fun x v r hx => by
    rw [get_setM]
    have : (x.str == (D.s k).str) = false := by simpa using hx
    rw [this]; rfl
  unfold f_gateref2_bench_take
  simp only [D.at_n, D.nth_zero, D.nth_succ, D.int_i, D.list_n]
  refine W.cond (fun h => W.ret ⟨r0, r1, r2, rfl, ?_⟩) (fun h => ?_)
  · unfold stepS; rw [hu, h]; rfl
  have hfa : (!(D.nth (p_gateref2_fails (.i st)) 0).bool) = !(D.nth (p_upstream_fails (.i st)) 0).bool := rfl
  rw [hfa]
  refine W.cond (fun hf => W.ret ⟨_, _, _, rfl, ?_⟩) (fun hf => ?_)
  · rw [absM_set hinc hi hkk _ _ _ r0 r1 r2 (fun x hx => by unfold ent3; rw [hoth _ _ _ hx])]
    unfold stepS
    rw [hu, h, hf, hg]
    simp only [cond_true, cond_false, ent3, hself, D.int_i]
  have hq : ((absM l r0 r1 r2).getD i t0).1 = (mapGet .str (.s k) r0).int := by rw [hg]; rfl
  rw [← hq]
  generalize hv : (((absM l r0 r1 r2).getD i t0).1 + 1) = v
  simp only [hself, D.int_i]
  refine W.cond (fun hr => W.ret ⟨_, _, _, rfl, ?_⟩) (fun hr => ?_)
  · rw [absM_set hinc hi hkk _ _ _ r0 r1 r2 (fun x hx => by unfold ent3; rw [hoth _ _ _ hx])]
    unfold stepS
    rw [hu, h, hf, hv, h0f, hr, hg]
    simp only [cond_true, cond_false, ent3, hself, D.int_i]
  generalize hR : mapSet .str (.s k) (.i 0) (mapSet .str (.s k) (.i (IntKind.i64.wrap v)) r0) = R
  have hRk : mapGet .str (.s k) R = .i 0 := by rw [← hR, hself]
  have hRo : ∀ x : D, x.str ≠ (D.s k).str → mapGet .str x R = mapGet .str x r0 := fun x hx => by rw [← hR, hoth _ _ _ hx, hoth _ _ _ hx]
  refine W.bind (w_out _ l R r1 r2 t hL) ?_
  rintro _ rfl
  simp only [D.nth_zero, D.nth_succ, D.list_n]
  have hcu : (((outK l (unt (absM l R r1 r2)) t l.length).length : Nat) : Int) = cntU (unt (absM l r0 r1 r2)) t (absM l r0 r1 r2).length := by
    rw [outK_len, hml]
    refine cntU_congr t _ fun j hj => ?_
    unfold unt
    rw [absM_get _ _ _ hj, absM_get _ _ _ hj]
    rfl
  have hcl := cntU_le (unt (absM l r0 r1 r2)) t (absM l r0 r1 r2).length
  rw [hcu]
  have e1 : IntKind.i64.wrap (cntU (unt (absM l r0 r1 r2)) t (absM l r0 r1 r2).length + 1) = 1 + cntU (unt (absM l r0 r1 r2)) t (absM l r0 r1 r2).length := by rw [wrap_i64 (by omega) (by omega)]; omega
  rw [e1]
  refine W.cond (fun hc => W.ret ⟨R, r1, r2, rfl, ?_⟩) (fun hc => ?_)
  · rw [absM_set hinc hi hkk _ _ _ r0 r1 r2 (fun x hx => by unfold ent3; rw [hRo x hx])]
    have hc' : leI (IntKind.i64.wrap ((1 + cntU (unt (absM l r0 r1 r2)) t (absM l r0 r1 r2).length) * 1000)) (IntKind.i64.wrap (sh * ((absM l r0 r1 r2).length : Int))) = false := by
      rw [hml] at hc ⊢
      simp at hc ⊢
      exact hc
    unfold stepS
    rw [hu, h, hf, hv, h0f, hr, h3f, hc', hg]
    simp only [cond_true, cond_false, ent3, hRk, D.int_i]
  have hc' : leI (IntKind.i64.wrap ((1 + cntU (unt (absM l r0 r1 r2)) t (absM l r0 r1 r2).length) * 1000)) (IntKind.i64.wrap (sh * ((absM l r0 r1 r2).length : Int))) = true := by
    rw [hml] at hc ⊢
    simp at hc ⊢
    exact hc
  have hx : (mapGet .str (.s k) r1).int = ((absM l r0 r1 r2).getD i t0).2.2 := by rw [hg]; rfl
  have hx0 : 0 ≤ (mapGet .str (.s k) r1).int := by rw [hx]; exact hti.1
  have hx1 : (mapGet .str (.s k) r1).int ≤ 1000000 := by rw [hx]; exact hti.2
  refine W.bind (p := fun r => r = (0, [.i (dbl b m (mapGet .str (.s k) r1).int.toNat), .n R, .n r1, .n r2])) (W.rounds (S := Nat) (fun j => [.n l, .n [.i f, .i b, .i m, .i sh], .i (dbl b m j), mapGet .str (.s k) r1, .i (j : Int), .n R, .n r1, .n r2]) (fun j => (j : Int) ≤ (mapGet .str (.s k) r1).int) (fun j => (mapGet .str (.s k) r1).int.toNat - j) (fun j hI rc ih => ?_) 0 (by simpa using hx0)) ?_
  · have hd := dbl_le h1 h2 j
    unfold b_gateref2_bench_take_0
    simp only [D.nth_zero, D.nth_succ, D.int_i, D.list_n, D.at_n]
    have e1 : IntKind.i64.wrap ((j : Int) + 1) = ((j + 1 : Nat) : Int) := by rw [wrap_i64 (by omega) (by omega)]; omega
    have e2 : IntKind.i64.wrap (2 * dbl b m j) = 2 * dbl b m j := wrap_i64 (by omega) (by omega)
    rw [e1, e2]
    refine W.cond (fun hk => ?_) (fun hk => ?_)
    · simp at hk
      exact ih (j + 1) (by omega) (by omega)
    · simp at hk
      have : (mapGet .str (.s k) r1).int.toNat = j := by omega
      rw [this]
      exact W.ret rfl
  rintro _ rfl
  simp only [D.nth_zero, D.nth_succ, D.int_i, D.list_n]
  refine W.ret ⟨_, _, _, rfl, ?_⟩
  rw [absM_set hinc hi hkk _ _ _ r0 r1 r2 (fun x hx => by unfold ent3; rw [hRo x hx, hoth _ _ _ hx, hoth _ _ _ hx])]
  unfold stepS
  rw [hu, h, hf, hv, h0f, hr, h3f, hc', h1f, h2f, ← hx]
  simp only [cond_true, cond_false, ent3, hself, hRk, D.int_i]
/-! ### All results -/
def ix (l : List D) (k : List UInt8) : Nat := l.findIdx fun x => idS x == k
theorem ix_eq {l : List D} (h : Inc idS l) {i : Nat} {k : List UInt8} (hi : i < l.length) (hk : idS (D.nth l i) = k) : ix l k = i := by
  have h1 : l.findIdx (fun x => idS x == k) < l.length := List.findIdx_lt_length_of_exists ⟨l[i], List.getElem_mem hi, by rw [nth_eq hi] at hk; simp [hk]⟩
  have h2 := List.findIdx_getElem (p := fun x => idS x == k) (w := h1)
  rw [← nth_eq h1] at h2
  have h2 : idS (D.nth l (l.findIdx fun x => idS x == k)) = k := by simpa using h2
  unfold ix
  rcases Decidable.em (l.findIdx (fun x => idS x == k) = i) with h3 | h3
  · exact h3
  · exact absurd (h2.trans hk.symm) (inc_ne h h1 hi h3)
theorem ix_ok {l : List D} (h : Inc idS l) {k : List UInt8} (ha : (l.any fun x => idS x == k) = true) : ix l k < l.length ∧ idS (D.nth l (ix l k)) = k := by
  obtain ⟨j, hj, hp⟩ := (any_nth l _).1 ha
  have hp : idS (D.nth l j) = k := by simpa using hp
  rw [ix_eq h hj hp]
  exact ⟨hj, hp⟩
def runS (o : D) (l r : List D) (t : Int) : Nat → List T3
  | 0 => List.replicate l.length t0
  | j + 1 => bif leI ((D.nth r j).at' 0).int t then stepS o (runS o l r t j) (ix l ((D.nth r j).at' 1).str) ((D.nth r j).at' 0).int ((D.nth r j).at' 2).int else runS o l r t j
theorem runS_len (o : D) (l r : List D) (t : Int) : ∀ j, (runS o l r t j).length = l.length
  | 0 => by simp [runS]
  | j + 1 => by
    have := runS_len o l r t j
    simp only [runS]
    cases leI ((D.nth r j).at' 0).int t
    · exact this
    · simp only [cond_true, stepS_len]; exact this
theorem runS_times {o : D} {l r : List D} {t : Int} : ∀ j, j ≤ 100000 → (∀ i, i < j → ix l ((D.nth r i).at' 1).str < l.length) → ∀ x ∈ runS o l r t j, 0 ≤ x.2.2 ∧ x.2.2 ≤ j
  | 0, _, _ => fun x hx => by
    simp only [runS, List.mem_replicate] at hx
    rw [hx.2]
    simp [t0]
  | j + 1, hj, hi => by
    have ih := runS_times (o := o) (l := l) (r := r) (t := t) j (by omega) fun i h => hi i (by omega)
    simp only [runS]
    cases leI ((D.nth r j).at' 0).int t with
    | false => intro x hx; have := ih x hx; omega
    | true => exact stepS_times (by omega) (by rw [runS_len]; exact hi j (by omega)) ih
theorem out4_ok {f b m sh : Int} (h : out4 (.n [.i f, .i b, .i m, .i sh]) = false) : 1 ≤ b ∧ b ≤ m ∧ m ≤ 3600000 := by
  simp only [out4, D.at_n, D.nth_zero, D.nth_succ, D.int_i] at h
  cases h1 : ltI f 1 <;> cases h2 : gtI f 100 <;> cases h3 : ltI b 1 <;> cases h4 : gtI b m <;> cases h5 : gtI m 3600000 <;> rw [h1, h2, h3, h4, h5] at h <;> simp at h <;> simp at h3 h4 h5 <;> omega
def outAll (o : D) (l r : List D) (t : Int) : List D := outK l (unt (runS o l r t r.length)) t l.length
theorem w_OutOf (f b m sh : Int) (l r : List D) (t : Int) (hl : InL l) (hinc : Inc idS l) (hr : RsL r) (hk : ∀ j, j < r.length → (l.any fun x => idS x == ((D.nth r j).at' 1).str) = true) (ho : 1 ≤ b ∧ b ≤ m ∧ m ≤ 3600000) :
    W (fun K _ => f_gateref2_OutOf K (.n l) (.n [.i f, .i b, .i m, .i sh]) (.n r) (.i t)) (fun q => q = [.n (outAll (.n [.i f, .i b, .i m, .i sh]) l r t)]) := by
  have hl10 := hl.1
  have hr4 := hr.1
  unfold f_gateref2_OutOf
  simp only [D.list_n]
  generalize hoe : (D.n [.i f, .i b, .i m, .i sh]) = o
  refine W.bind (p := fun q => ∃ r0 r1 r2, q = (0, [.n r0, .n r1, .n r2]) ∧ absM l r0 r1 r2 = runS o l r t r.length) (W.rounds (S := Nat × List D × List D × List D) (fun q => [.i t, .n l, o, .n r, .i (r.length : Int), .i (q.1 : Int), .n q.2.1, .n q.2.2.1, .n q.2.2.2]) (fun q => q.1 ≤ r.length ∧ absM l q.2.1 q.2.2.1 q.2.2.2 = runS o l r t q.1) (fun q => r.length - q.1) (fun q hI rc ih => ?_) (0, [], [], []) ⟨by simp, ?_⟩) ?_
  · obtain ⟨j, r0, r1, r2⟩ := q
    obtain ⟨a1, a2⟩ := hI
    simp only at a1 a2
    unfold b_gateref2_OutOf_0
    simp only [D.nth_zero, D.nth_succ, D.int_i, D.list_n, Int.toNat_natCast]
    have e1 : IntKind.i64.wrap ((j : Int) + 1) = ((j + 1 : Nat) : Int) := by rw [wrap_i64 (by omega) (by omega)]; omega
    rw [e1]
    refine W.cond (fun h => ?_) (fun h => ?_)
    · simp at h
      refine W.cond (fun _ => ?_) (fun h => by simp at h; omega)
      obtain ⟨a, k, s, hx, hx0, hx1, hx2⟩ := hr.nth h
      have hxi := ix_ok hinc (hk j h)
      rw [hx1] at hxi
      refine W.cond (fun hle => ?_) (fun hle => ?_)
      · rw [hx]
        subst hoe
        refine W.bind (w_take f b m sh l r0 r1 r2 (ix l k) a s k hxi.1 hinc hxi.2 hl10 ho.1 ho.2.1 ho.2.2 ?_) ?_
        · intro x hx
          rw [a2] at hx
          have := runS_times j (by omega) (fun i hi => (ix_ok hinc (hk i (by omega))).1) x hx
          omega
        rintro _ ⟨a', b', c', rfl, he⟩
        refine ih (j + 1, a', b', c') ⟨by simp only; omega, ?_⟩ (by simp only; omega)
        simp only [runS, hle, cond_true]
        rw [he, a2, hx0, hx1, hx2]
        rfl
      · refine ih (j + 1, r0, r1, r2) ⟨by simp only; omega, ?_⟩ (by simp only; omega)
        simp only [runS, hle, cond_false]
        exact a2
    · simp at h
      have : j = r.length := by omega
      subst this
      exact W.ret ⟨r0, r1, r2, rfl, a2⟩
  · simp only [runS, absM]
    refine List.ext_getElem (by simp) fun j h1 h2 => ?_
    simp [ent3, mapGet, t0, D.int]
  · rintro _ ⟨r0, r1, r2, rfl, he⟩
    simp only [D.nth_zero, D.nth_succ, D.list_n]
    refine W.bind (w_out o l r0 r1 r2 t hl10) ?_
    rintro _ rfl
    refine W.ret ?_
    rw [he]
    rfl
theorem w_Out (f b m sh : Int) (l r : List D) (t : Int) (hl : InL l) (hr : RsL r) :
    W (fun K _ => f_upstream_Out K (.n l) (.n [.i f, .i b, .i m, .i sh]) (.n r) (.i t)) (fun q => q = bif ((D.nth (insD l) 0).int != 0) then [D.nth (insD l) 0, .n []] else bif out4 (.n [.i f, .i b, .i m, .i sh]) then [.i 1, .n []] else bif ((D.nth (resD l r) 0).int != 0) then [D.nth (resD l r) 0, .n []] else bif !momB t then [.i 1, .n []] else [.i 0, .n (outAll (.n [.i f, .i b, .i m, .i sh]) l r t)]) := by
  have hl10 := hl.1
  have hr4 := hr.1
  unfold f_upstream_Out
  refine W.bind (w_CheckInstances l hl) ?_
  rintro _ rfl
  refine W.cond (fun h => W.ret (by rw [h]; rfl)) (fun h => ?_)
  rw [h, cond_false]
  have hinc := insD_zero hl (by simpa using h)
  refine W.bind (w_outliersFault _) ?_
  rintro _ rfl
  cases h4 : out4 (.n [.i f, .i b, .i m, .i sh]) with
  | true => exact W.cond (fun _ => W.ret rfl) (fun h => by simp at h)
  | false =>
  have ho := out4_ok h4
  refine W.cond (fun h => by simp at h) (fun _ => ?_)
  refine W.bind (w_CheckResults l r hl hr) ?_
  rintro _ rfl
  rw [h, cond_false, cond_false]
  refine W.cond (fun h5 => W.ret (by rw [h5]; rfl)) (fun h5 => ?_)
  rw [h5, cond_false]
  have hz := resD_zero (l := l) hr (by simpa using h5)
  have hmo : (D.nth (p_kit_IsMoment (.i t)) 0).bool = momB t := rfl
  rw [hmo]
  refine W.cond (fun h6 => W.ret (by rw [h6]; rfl)) (fun h6 => ?_)
  rw [h6, cond_false]
  simp only [D.list_n, Int.toNat_natCast]
  refine W.cond (fun _ => ?_) (fun h => absurd (lim_mk (n := l.length) (by omega)) (by simpa using h))
  generalize hoe : (D.n [.i f, .i b, .i m, .i sh]) = o
  refine W.bind (p := fun q => ∃ L, q = (0, [o, .n L]) ∧ L.length = l.length ∧ L.map abs1 = runS o l r t r.length) (W.rounds (S := Nat × List D) (fun q => [.n l, .i t, .n r, .i (r.length : Int), .i (q.1 : Int), o, .n q.2]) (fun q => q.1 ≤ r.length ∧ q.2.length = l.length ∧ q.2.map abs1 = runS o l r t q.1) (fun q => r.length - q.1) (fun q hI rc ih => ?_) (0, List.replicate l.length (.n [])) ⟨by simp, by simp, ?_⟩) ?_
  · obtain ⟨j, L⟩ := q
    obtain ⟨a1, a3, a2⟩ := hI
    simp only at a1 a2 a3
    unfold b_upstream_Out_0
    simp only [D.nth_zero, D.nth_succ, D.int_i, D.list_n, Int.toNat_natCast]
    have e1 : IntKind.i64.wrap ((j : Int) + 1) = ((j + 1 : Nat) : Int) := by rw [wrap_i64 (by omega) (by omega)]; omega
    rw [e1]
    refine W.cond (fun h => ?_) (fun h => ?_)
    · simp at h
      refine W.cond (fun _ => ?_) (fun h => by simp at h; omega)
      obtain ⟨a, k, s, hx, hx0, hx1, hx2⟩ := hr.nth h
      have hka : (l.any fun x => idS x == k) = true := by have := (hz j h).2; rw [hx1] at this; exact this
      refine W.cond (fun hle => ?_) (fun hle => ?_)
      · rw [hx1]
        refine W.bind (w_place l k hl hinc) ?_
        rintro _ ⟨i, rfl, hi⟩
        obtain ⟨hi1, hi2⟩ := hi hka
        simp only [D.nth_zero]
        rw [hx0, hx2]
        subst hoe
        refine W.bind (w_told f b m sh L i a s (by omega) (by omega) ho.1 ho.2.1 ho.2.2 ?_) ?_
        · intro x hx
          rw [a2] at hx
          have := runS_times j (by omega) (fun i hi => (ix_ok hinc (hz i (by omega)).2).1) x hx
          omega
        rintro _ ⟨L', rfl, hl', he⟩
        refine ih (j + 1, L') ⟨by simp only; omega, by simp only; omega, ?_⟩ (by simp only; omega)
        simp only [runS, hle, cond_true]
        rw [he, a2, hx0, hx1, hx2]
        have : ix l (D.s k).str = i := ix_eq hinc hi1 hi2
        rw [this]
        rfl
      · refine ih (j + 1, L) ⟨by simp only; omega, a3, ?_⟩ (by simp only; omega)
        simp only [runS, hle, cond_false]
        exact a2
    · simp at h
      have : j = r.length := by omega
      subst this
      exact W.ret ⟨L, rfl, a3, a2⟩
  · simp only [runS]
    rw [List.map_replicate]
    rfl
  · rintro _ ⟨L, rfl, hLl, he⟩
    simp only [D.nth_zero, D.nth_succ, D.list_n]
    have hcg : ∀ k, k < l.length → ((D.nth L k).at' 1).int = unt (runS o l r t r.length) k := fun k hk => by
      unfold unt
      rw [← he, abs_get (by omega)]
      rfl
    refine W.bind (p := fun q => q = (0, [o, .n L, .n (outAll o l r t)])) (W.rounds (S := Nat) (fun k => [.i t, .n l, .i (l.length : Int), .i (k : Int), o, .n L, .n (outK l (unt (runS o l r t r.length)) t k)]) (fun k => k ≤ l.length) (fun k => l.length - k) (fun k hI rc ih => ?_) 0 (by simp)) ?_
    · have hc := cntU_le (unt (runS o l r t r.length)) t k
      have hc2 := outK_len l (unt (runS o l r t r.length)) t k
      unfold b_upstream_Out_1
      simp only [D.nth_zero, D.nth_succ, D.int_i, D.list_n, Int.toNat_natCast]
      have e1 : IntKind.i64.wrap ((k : Int) + 1) = ((k + 1 : Nat) : Int) := by rw [wrap_i64 (by omega) (by omega)]; omega
      rw [e1]
      refine W.cond (fun hk => ?_) (fun hk => ?_)
      · simp at hk
        refine W.cond (fun _ => ?_) (fun h => by simp at h; omega)
        refine W.bind (w_isOut o L k t (by omega)) ?_
        rintro _ rfl
        simp only [D.nth_zero, D.nth_succ, D.bool_b, D.list_n]
        rw [hcg k hk]
        have ih := ih (k + 1) (by omega) (by omega)
        refine W.cond (fun hb => ?_) (fun hb => ?_)
        · refine W.cond (fun _ => ?_) (fun h => absurd (lim_mk (n := (outK l (unt (runS o l r t r.length)) t k).length + 1) (by omega)) (by rw [h]; simp))
          simp only [outK, hb, cond_true] at ih
          exact ih
        · simp only [outK, hb, cond_false, List.append_nil] at ih
          exact ih
      · simp at hk
        have : k = l.length := by omega
        rw [this]
        exact W.ret rfl
    rintro _ rfl
    exact W.ret rfl
/-! ### The law -/
theorem outK_short (l : List D) (u : Nat → Int) (t : Int) (k : Nat) : (outK l u t k).length ≤ k := by
  have h1 := outK_len l u t k
  have h2 := cntU_le u t k
  omega
theorem w_EqualStr (l : List D) (hl : l.length ≤ 1000) : W (fun K _ => f_slices_Equal_string K (.n l) (.n l)) (fun r => r = [.b true]) := by
  unfold f_slices_Equal_string
  simp only [D.list_n]
  refine W.cond (fun h => by simp at h) (fun _ => ?_)
  refine W.bind (W.early l.length (fun j => [.n l, .n l, .i l.length, .i j]) (fun _ => none) (1, []) (fun j hj hp p rc h1 h2 => ?_) (fun rc => ?_)) ?_
  · unfold b_slices_Equal_string_0
    simp only [D.nth_zero, D.nth_succ, D.list_n, D.int_i, Int.toNat_natCast]
    refine W.cond (fun _ => ?_) (fun h => by simp at h; omega)
    refine W.cond (fun _ => ?_) (fun h => by simp at h; omega)
    refine W.cond (fun _ => ?_) (fun h => by simp at h; omega)
    refine W.cond (fun h => by simp at h) (fun h => ?_)
    rw [wrap_i64 (by omega) (by omega)]
    exact h2 rfl
  · unfold b_slices_Equal_string_0
    simp only [D.nth_zero, D.nth_succ, D.list_n, D.int_i]
    exact W.cond (fun h => by simp at h) (fun _ => W.ret rfl)
  · rintro _ rfl
    rcases scan_cases (fun _ => (none : Option (Nat × List D))) (1, []) l.length 0 with ⟨i, r, h1, h2, h3, _⟩ | ⟨h1, h2⟩
    · cases h3
    · rw [h2]; exact W.ret rfl
theorem w_moment (t : Int) : W (fun K _ => f_gatelaw2_momentFault K (.i t)) (fun r => r = [.i (bif !momB t then 1 else 0)]) := by
  unfold f_gatelaw2_momentFault
  rw [moment2]
  refine W.bind (w_when _ _) ?_
  rintro _ rfl
  exact W.ret rfl
theorem errD_i (r : Nat × List D) (h : ∀ x ∈ r.2, ∃ n : Int, x = .i n) (h1 : r.1 = 0 → r.2 ≠ []) : ∃ n : Int, errD r = [.i n] := by
  unfold errD
  cases hb : r.1.beq 0 with
  | false => exact ⟨0, rfl⟩
  | true =>
    obtain ⟨a, b⟩ := r
    cases b with
    | nil => exact absurd rfl (h1 (Nat.eq_of_beq_eq_true hb))
    | cons x b =>
      obtain ⟨n, rfl⟩ := h x (by simp)
      exact ⟨n, rfl⟩
theorem errScan_i (F : Nat → Int) (m : Nat) : ∃ n : Int, errD (scan (errAt F) (1, []) m 0) = [.i n] := by
  rcases scan_cases (errAt F) (1, []) m 0 with ⟨i, r, h1, h2, h3, h4, _⟩ | ⟨h1, h2⟩
  · rw [h4]
    unfold errAt at h3
    cases hc : F i != 0 with
    | false => rw [hc] at h3; cases h3
    | true => rw [hc] at h3; cases h3; exact ⟨_, rfl⟩
  · rw [h2]; exact ⟨0, rfl⟩
theorem insD_i (l : List D) : ∃ n : Int, insD l = [.i n] := by
  unfold insD
  cases gtI (l.length : Int) 50 with
  | true => exact ⟨2, rfl⟩
  | false => exact errScan_i _ _
theorem resD_i (l r : List D) : ∃ n : Int, resD l r = [.i n] := by
  unfold resD
  cases gtI (r.length : Int) 2000 with
  | true => exact ⟨2, rfl⟩
  | false => exact errScan_i _ _
theorem pure (zs : List Int) (h : zs.length ≤ maxLen) (hw : ∀ n ∈ zs, (Lit.int .i64 n).wf = true) : ∃ K, f_gatelaw2_OutliersOut K (.n (zs.map D.i)) = some [.b true] := by
  have : W (fun K _ => f_gatelaw2_OutliersOut K (.n (zs.map D.i))) (· = [.b true]) := by
    unfold f_gatelaw2_OutliersOut
    refine W.bind (w_Instances 0 _ ⟨_, 0, rfl, by omega, by omega⟩ (by omega)) ?_
    rintro _ ⟨s1, l, rfl, hl, h1⟩
    simp only [D.nth_zero, D.nth_succ, D.list_n]
    refine W.bind (w_Outliers _ s1 h1 (by omega)) ?_
    rintro _ ⟨o, s2, rfl, ho, h2⟩
    simp only [D.nth_zero, D.nth_succ]
    refine W.bind (w_PickI _ s2 [0, 5, 20, 50, 100, -1] h2 (by omega) (by simp) (by simp)) ?_
    rintro _ ⟨t, s3, _, rfl, _, h3⟩
    simp only [D.nth_zero, D.nth_succ]
    refine W.bind (w_Results _ s3 l hl h3 (by omega)) ?_
    rintro _ ⟨s4, r, rfl, hr, h4⟩
    simp only [D.nth_zero, D.nth_succ, D.list_n]
    obtain ⟨f, b, m, sh, rfl⟩ := ho
    obtain ⟨ei, hei⟩ := insD_i l
    obtain ⟨er, her⟩ := resD_i l r
    refine W.bind (w_Out f b m sh l r t hl hr) ?_
    rintro _ rfl
    refine W.bind (w_InstancesFault l hl) ?_
    rintro _ rfl
    refine W.bind (w_CheckResults l r hl hr) ?_
    rintro _ rfl
    refine W.bind (w_ResultsFault l r hl hr) ?_
    rintro _ rfl
    rw [her, hei]
    simp only [D.nth_zero, D.int_i]
    refine W.bind (w_errs2 _ _) ?_
    rintro _ rfl
    refine W.cond (fun h => ?_) (fun _ => ?_)
    · exfalso
      cases he : ei != 0 <;> rw [he] at h <;> simp at h
    refine W.bind (w_OutliersFault _) ?_
    rintro _ rfl
    simp only [D.nth_zero]
    refine W.bind (w_errs2 _ _) ?_
    rintro _ rfl
    simp only [D.nth_zero, D.int_i]
    refine W.bind (p := fun q => q = (0, [.i (bif ei != 0 then ei else bif out4 (.n [.i f, .i b, .i m, .i sh]) then 1 else bif er != 0 then er else bif !momB t then 1 else 0), .n l, .n r])) ?_ ?_
    · unfold b_gatelaw2_OutliersOut_0
      simp only [D.nth_zero, D.nth_succ, D.list_n, D.bool_b]
      cases he : ei != 0 with
      | true =>
        refine W.cond (fun h => ?_) (fun _ => W.ret rfl)
        simp only [cond_true] at h
        simp at he h
        exact absurd h he
      | false =>
        simp only [cond_false]
        cases ho4 : out4 (.n [.i f, .i b, .i m, .i sh]) with
        | true => exact W.cond (fun h => by simp at h) (fun _ => W.ret rfl)
        | false =>
          refine W.cond (fun _ => ?_) (fun h => by simp at h)
          refine W.bind (w_ResultsFault l r hl hr) ?_
          rintro _ rfl
          refine W.bind (w_moment t) ?_
          rintro _ rfl
          rw [her]
          simp only [D.nth_zero]
          refine W.bind (w_errs2 _ _) ?_
          rintro _ rfl
          exact W.ret rfl
    rintro _ rfl
    simp only [D.nth_zero, D.nth_succ, D.list_n]
    generalize hE : (bif ei != 0 then ei else bif out4 (.n [.i f, .i b, .i m, .i sh]) then 1 else bif er != 0 then er else bif !momB t then 1 else 0) = E
    generalize hA : (bif ei != 0 then [D.i ei, .n []] else bif out4 (.n [.i f, .i b, .i m, .i sh]) then [.i 1, .n []] else bif er != 0 then [.i er, .n []] else bif !momB t then [.i 1, .n []] else [.i 0, .n (outAll (.n [.i f, .i b, .i m, .i sh]) l r t)]) = A
    have hAE : A = [.i E, .n (bif E == 0 then outAll (.n [.i f, .i b, .i m, .i sh]) l r t else [])] := by
      rw [← hA, ← hE]
      cases he : ei != 0 with
      | true => have : (ei == 0) = false := by simpa [bne] using he
                simp only [cond_true, this, cond_false]
      | false =>
        cases ho4 : out4 (.n [.i f, .i b, .i m, .i sh]) with
        | true => rfl
        | false =>
          cases hq : er != 0 with
          | true => have : (er == 0) = false := by simpa [bne] using hq
                    simp only [cond_true, this, cond_false]
          | false => cases momB t <;> rfl
    refine W.bind (p := fun q => q = (0, [.n l, .n [.i f, .i b, .i m, .i sh], .n r, .n (bif E == 0 then outAll (.n [.i f, .i b, .i m, .i sh]) l r t else [])])) ?_ ?_
    · unfold b_gatelaw2_OutliersOut_1
      simp only [D.nth_zero, D.nth_succ, D.list_n, D.bool_b, D.int_i]
      refine W.cond (fun h => ?_) (fun h => W.ret (by rw [h]; rfl))
      rw [h, cond_true]
      have hE0 : E = 0 := by simpa using h
      subst hE0
      have hz : ei = 0 ∧ out4 (.n [.i f, .i b, .i m, .i sh]) = false ∧ er = 0 := by
        cases he : ei != 0 with
        | true => rw [he, cond_true] at hE; rw [hE] at he; cases he
        | false =>
          rw [he, cond_false] at hE
          cases ho4 : out4 (.n [.i f, .i b, .i m, .i sh]) with
          | true => rw [ho4] at hE; cases hE
          | false =>
            rw [ho4, cond_false] at hE
            cases hq : er != 0 with
            | true => rw [hq, cond_true] at hE; rw [hE] at hq; cases hq
            | false => exact ⟨by simpa using he, rfl, by simpa using hq⟩
      obtain ⟨rfl, ho4, rfl⟩ := hz
      refine W.bind (w_OutOf f b m sh l r t hl (insD_zero hl (by rw [hei]; rfl)) hr (fun j hj => (resD_zero (l := l) hr (by rw [her]; rfl) j hj).2) (out4_ok ho4)) ?_
      rintro _ rfl
      exact W.ret rfl
    rintro _ rfl
    rw [hAE]
    simp only [D.nth_zero, D.nth_succ, D.list_n, D.int_i]
    refine W.cond (fun _ => ?_) (fun h => by simp at h)
    have hlen : (bif E == 0 then outAll (.n [.i f, .i b, .i m, .i sh]) l r t else []).length ≤ 1000 := by
      cases E == 0 with
      | true =>
        have := outK_short l (unt (runS (.n [.i f, .i b, .i m, .i sh]) l r t r.length)) t l.length
        have := hl.1
        simp only [cond_true, outAll]
        omega
      | false => simp
    refine W.bind (w_EqualStr _ hlen) ?_
    rintro _ rfl
    refine W.cond (fun _ => ?_) (fun h => by simp at h)
    refine W.bind balanced ?_
    rintro _ rfl
    exact W.ret rfl
  obtain ⟨K, r, h1, rfl⟩ := this.get
  exact ⟨K, h1⟩
end Go.Proofs.YtlogmjgkbfahjaaP
