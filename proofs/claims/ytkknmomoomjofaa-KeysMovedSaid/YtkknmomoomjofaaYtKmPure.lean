/- The plain law: what the printed functions come to. -/
import Derived.Test.YtkknmomoomjofaaYtKm
import Derived.Test.YtkknmomoomjofaaEvPure
namespace Go.Proofs.YtkknmomoomjofaaP
open Go Go.Ev
set_option linter.unusedVariables false
set_option linter.unusedSimpArgs false
/-! ### The stream of numbers -/
def St (c : Int) (s : D) : Prop := ∃ L at', s = .n [L, .i at'] ∧ 0 ≤ at' ∧ at' ≤ c
theorem St.le {c c' : Int} {s : D} (h : St c s) (hc : c ≤ c') : St c' s := let ⟨L, a, h1, h2, h3⟩ := h; ⟨L, a, h1, h2, by omega⟩
theorem w_Below (x n : D) (hn : n.int ≤ 4611686018427387904) : W (fun K _ => f_gatemake_Below K x n) (fun r => ∃ i, r = [.i i] ∧ 0 ≤ i ∧ (1 ≤ n.int → i < n.int)) := by
  unfold f_gatemake_Below
  refine W.cond (fun h => ?_) (fun h => ?_)
  · simp at h
    exact W.ret ⟨0, rfl, by omega, by omega⟩
  · simp at h
    have h1 := Int.tmod_lt_of_pos x.int (show 0 < n.int by omega)
    have h2 := Int.lt_tmod_of_pos x.int (show 0 < n.int by omega)
    refine W.cond (fun _ => ?_) (fun h' => by simp at h'; omega)
    refine W.cond (fun h' => ?_) (fun h' => ?_)
    · simp at h'
      rw [wrap_i64 (by omega) (by omega)]
      exact W.ret ⟨_, rfl, by omega, fun _ => by omega⟩
    · simp at h'
      exact W.ret ⟨_, rfl, by omega, fun _ => by omega⟩
theorem w_Next (c : Int) (n s : D) (hs : St c s) (hc : c ≤ 1000000000000) (hn : n.int ≤ 4611686018427387904) : W (fun K _ => f_gatemake_Stream_Next K n s) (fun r => ∃ i s', r = [.i i, s'] ∧ 0 ≤ i ∧ (1 ≤ n.int → i < n.int) ∧ St (c + 1) s') := by
  obtain ⟨L, a, rfl, h1, h2⟩ := hs
  unfold f_gatemake_Stream_Next
  simp only [D.at_n, D.nth_zero, D.nth_succ, D.int_i]
  have e1 : IntKind.i64.wrap (a + 1) = a + 1 := wrap_i64 (by omega) (by omega)
  have e2 : IntKind.i64.wrap (a + 1 - 1) = a := by rw [wrap_i64 (by omega) (by omega)]; omega
  simp only [e1, e2]
  have hfin : ∀ i : Int, 0 ≤ i → (1 ≤ n.int → i < n.int) → W (fun _ _ => some [D.i i, D.n [L, D.i (a + 1)]]) (fun r => ∃ i s', r = [.i i, s'] ∧ 0 ≤ i ∧ (1 ≤ n.int → i < n.int) ∧ St (c + 1) s') := fun i h3 h4 => W.ret ⟨i, _, rfl, h3, h4, L, a + 1, rfl, by omega, by omega⟩
  refine W.cond (fun h => ?_) (fun h => ?_)
  · refine W.bind (w_Below _ n hn) ?_
    rintro _ ⟨i, rfl, h3, h4⟩
    exact hfin i h3 h4
  · have hL : 0 < L.list.length := by
      simp only [beq_eq_false_iff_ne, ne_eq] at h
      omega
    refine W.cond (fun _ => ?_) (fun h' => by simp at h'; simp [h'] at hL)
    refine W.cond (fun _ => ?_) (fun h' => by simp at h'; simp [h'] at hL)
    have h5 := Int.tmod_nonneg (L.list.length : Int) h1
    have h6 := Int.tmod_lt_of_pos a (show 0 < (L.list.length : Int) by omega)
    refine W.cond (fun _ => ?_) (fun h' => by simp [inB] at h'; omega)
    refine W.bind (w_Below _ (.i 1073741824) (by simp)) ?_
    rintro _ ⟨i, rfl, _, _⟩
    refine W.bind (w_Below _ n hn) ?_
    rintro _ ⟨j, rfl, h3, h4⟩
    exact hfin j h3 h4
theorem w_Flip (c : Int) (n s : D) (hs : St c s) (hc : c ≤ 1000000000000) (hn : n.int ≤ 4611686018427387904) : W (fun K _ => f_gatemake_Stream_Flip K n s) (fun r => ∃ b s', r = [.b b, s'] ∧ St (c + 1) s') := by
  unfold f_gatemake_Stream_Flip
  refine W.bind (w_Next c n s hs hc hn) ?_
  rintro _ ⟨i, s', rfl, _, _, h⟩
  exact W.ret ⟨_, s', rfl, h⟩
theorem nth_mem : ∀ {l : List D} {j : Nat}, j < l.length → D.nth l j ∈ l
  | a :: l, 0, _ => by simp
  | a :: l, j + 1, h => by simp only [D.nth_succ]; exact List.mem_cons_of_mem _ (nth_mem (by simpa using h))
/-- One of some numbers (or other data). -/
theorem w_Pick (c : Int) (s : D) (l : List D) (hs : St c s) (hc : c ≤ 1000000000000) (hl : l ≠ []) (hl2 : l.length ≤ 1000000) : W (fun K _ => f_gatemake_Stream_Pick K s (.n l)) (fun r => ∃ x s' t, r = [x, s', t] ∧ x ∈ l ∧ St (c + 1) s') := by
  unfold f_gatemake_Stream_Pick
  have : 0 < l.length := List.length_pos_iff.2 hl
  refine W.bind (w_Next c _ s hs hc (by simp; omega)) ?_
  rintro _ ⟨i, s', rfl, h1, h2, h3⟩
  simp only [D.int_i, D.list_n] at h2
  have h2 := h2 (by omega)
  refine W.cond (fun h => ?_) (fun h => absurd (inB_mk h1 h2) (by rw [D.nth_zero, D.int_i, D.list_n] at h; rw [h]; simp))
  exact W.ret ⟨_, s', _, rfl, nth_mem (show i.toNat < l.length by omega), h3⟩
theorem w_Range (c : Int) (lo hi : Int) (s : D) (hs : St c s) (hc : c ≤ 1000000000000) (h1 : 0 ≤ lo) (h2 : hi ≤ 1000000000000) : W (fun K _ => f_gatemake_Stream_Range K (.i lo) (.i hi) s) (fun r => ∃ x s', r = [.i x, s'] ∧ lo ≤ x ∧ (lo ≤ hi → x ≤ hi) ∧ St (c + 1) s') := by
  unfold f_gatemake_Stream_Range
  refine W.cond (fun h => ?_) (fun h => ?_)
  · simp at h
    exact W.ret ⟨lo, s, rfl, by omega, by omega, hs.le (by omega)⟩
  · simp at h
    have e1 : IntKind.i64.wrap (hi - lo) = hi - lo := wrap_i64 (by omega) (by omega)
    have e2 : IntKind.i64.wrap (hi - lo + 1) = hi - lo + 1 := wrap_i64 (by omega) (by omega)
    simp only [D.int_i, e1, e2]
    refine W.bind (w_Next c _ s hs hc (by simp; omega)) ?_
    rintro _ ⟨i, s', rfl, h3, h4, h5⟩
    simp only [D.int_i] at h4
    have h4 := h4 (by omega)
    simp only [D.nth_zero, D.nth_succ, D.int_i]
    rw [wrap_i64 (by omega) (by omega)]
    exact W.ret ⟨_, s', rfl, by omega, fun _ => by omega, h5⟩
theorem w_Odd (c : Int) (lo hi : Int) (s : D) (hs : St c s) (hc : c ≤ 999999999990) (h1 : 0 ≤ lo) (h0 : lo ≤ hi) (h2 : hi ≤ 1000000000000) : W (fun K _ => f_gatemake_Stream_Odd K (.i lo) (.i hi) s) (fun r => ∃ x s', r = [.i x, s'] ∧ -2000000000000 ≤ x ∧ x ≤ 2000000000000 ∧ St (c + 2) s') := by
  unfold f_gatemake_Stream_Odd
  refine W.bind (w_Flip c _ s hs (by omega) (by simp)) ?_
  rintro _ ⟨b, s', rfl, h3⟩
  simp only [D.nth_zero, D.nth_succ, D.bool_b]
  have e1 : IntKind.i64.wrap (lo - 1) = lo - 1 := wrap_i64 (by omega) (by omega)
  have e2 : IntKind.i64.wrap (hi + 1) = hi + 1 := wrap_i64 (by omega) (by omega)
  simp only [D.int_i, e1, e2]
  refine W.cond (fun _ => ?_) (fun _ => ?_)
  · refine W.bind (w_Pick (c + 1) s' _ h3 (by omega) (by simp) (by simp)) ?_
    rintro _ ⟨x, s2, t, rfl, hx, h4⟩
    simp only [List.mem_cons, List.not_mem_nil, or_false] at hx
    rcases hx with rfl | rfl | rfl | rfl | rfl | rfl <;> exact W.ret ⟨_, s2, rfl, by omega, by omega, h4.le (by omega)⟩
  · refine W.bind (w_Range (c + 1) lo hi s' h3 (by omega) h1 h2) ?_
    rintro _ ⟨x, s2, rfl, h4, h5, h6⟩
    exact W.ret ⟨x, s2, rfl, by omega, by have := h5 h0; omega, h6.le (by omega)⟩
/-! ### Keys -/
def smallC (c : UInt8) : Bool := bif leI 97 c.toNat then leI c.toNat 122 else false
def digitC (c : UInt8) : Bool := bif leI 48 c.toNat then leI c.toNat 57 else false
def restC (c : UInt8) : Bool := smallC c || (digitC c || (((c.toNat : Int) == 45) || ((c.toNat : Int) == 95)))
def smallL : List UInt8 := [97, 98, 99, 100, 101, 102, 103, 104, 105, 106, 107, 108, 109, 110, 111, 112, 113, 114, 115, 116, 117, 118, 119, 120, 121, 122]
def restL : List UInt8 := [97, 98, 99, 100, 101, 102, 103, 104, 105, 106, 107, 108, 109, 110, 111, 112, 113, 114, 115, 116, 117, 118, 119, 120, 121, 122, 48, 49, 50, 51, 52, 53, 54, 55, 56, 57, 45, 95]
def keyB (s : List UInt8) : Bool := (leI 1 s.length && leI s.length 40) && ((s.take 1).all smallC && s.all restC)
theorem small_cls (c : UInt8) : (!ltI (Lib.indexByte smallL c) 0) = smallC c := by
  have := all256 (p := fun c => (!ltI (Lib.indexByte smallL c) 0) == smallC c) (by kernel_rfl) c
  simpa using this
theorem rest_cls (c : UInt8) : (!ltI (Lib.indexByte restL c) 0) = restC c := by
  have := all256 (p := fun c => (!ltI (Lib.indexByte restL c) 0) == restC c) (by kernel_rfl) c
  simpa using this
theorem w_only (s l : List UInt8) (hs : s.length ≤ 1000000000000) : W (fun K _ => f_gateref2_only K (.s s) (.s l)) (fun r => r = [.b (s.all fun c => !ltI (Lib.indexByte l c) 0)]) := by
  unfold f_gateref2_only
  refine W.bind (W.early s.length (fun j => [.s s, .s l, .i s.length, .i j]) (fun j => bif !ltI (Lib.indexByte l (s.getD j 0)) 0 then none else some (0, [.b false])) (1, []) (fun j hj hp p rc h1 h2 => ?_) (fun rc => ?_)) ?_
  · unfold b_gateref2_only_0
    simp only [D.nth_zero, D.nth_succ, D.str_s, D.int_i, Int.toNat_natCast]
    refine W.cond (fun _ => ?_) (fun h => by simp at h; omega)
    refine W.cond (fun _ => ?_) (fun h => by simp at h; omega)
    simp only [p_strings_IndexByte, p_stringslite_IndexByte, p_bytealg_IndexByteString, D.nth_zero, D.int_i, D.str_s, byteAt_getD, toUInt8_byte]
    refine W.cond (fun h => W.ret (h1 _ (by rw [h]; rfl))) (fun h => ?_)
    rw [wrap_i64 (by omega) (by omega)]
    exact h2 (by rw [h]; rfl)
  · unfold b_gateref2_only_0
    simp only [D.nth_zero, D.nth_succ, D.str_s, D.int_i]
    exact W.cond (fun h => by simp at h) (fun _ => W.ret rfl)
  · rintro _ rfl
    rw [scan_all s (fun c => !ltI (Lib.indexByte l c) 0)]
    cases s.all fun c => !ltI (Lib.indexByte l c) 0 with
    | true => exact W.ret rfl
    | false => exact W.ret rfl
theorem w_Key (s : List UInt8) (hs : s.length ≤ 1000000000000) : W (fun K _ => f_gateref2_Key K (.s s)) (fun r => r = [.b (keyB s)]) := by
  unfold f_gateref2_Key
  simp only [p_gateref2_in, D.nth_zero, D.bool_b, D.int_i, D.str_s]
  refine W.cond (fun _ => ?_) (fun h => ?_)
  · refine W.cond (fun h => ?_) (fun h => W.ret ?_)
    · have h0 : (leI 1 s.length && leI s.length 40) = true := by cases h1 : leI 1 (s.length : Int) <;> cases h2 : leI (s.length : Int) 40 <;> simp_all
      refine W.bind (w_only (s.take 1) smallL (by rw [List.length_take]; omega)) ?_
      rintro _ rfl
      simp only [small_cls, D.nth_zero, D.bool_b]
      refine W.cond (fun h1 => ?_) (fun h1 => W.ret ?_)
      · refine W.bind (w_only s restL hs) ?_
        rintro _ rfl
        simp only [rest_cls, D.nth_zero, D.bool_b]
        exact W.ret (by simp only [keyB, h0, h1, Bool.true_and])
      · simp only [keyB, h0, h1, Bool.true_and, Bool.false_and]
    · have h0 : (leI 1 s.length && leI s.length 40) = false := by cases h1 : leI 1 (s.length : Int) <;> cases h2 : leI (s.length : Int) 40 <;> simp_all
      simp only [keyB, h0, Bool.false_and]
  · cases h1 : leI 1 (s.length : Int) <;> cases h2 : leI (s.length : Int) 40 <;> simp_all
    omega
def badK (s : List UInt8) (j : Nat) : Bool := !(bif smallC (s.getD j 0) then true else (bif gtI j 0 then restC (s.getD j 0) else false))
theorem keyB_scan (s : List UInt8) (h : ∀ j, j < s.length → badK s j = false) : keyB s = (!(s == []) && leI s.length 40) := by
  cases s with
  | nil => rfl
  | cons a t =>
    have h0 := h 0 (by simp)
    have ha : smallC a = true := by
      simp only [badK, List.getD_cons_zero] at h0
      cases hc : smallC a with
      | true => rfl
      | false => rw [hc] at h0; simp [gtI] at h0
    have hall : (a :: t).all restC = true := by
      rw [all_getD]
      intro j hj
      have := h j hj
      simp only [badK] at this
      cases hc : smallC ((a :: t).getD j 0) with
      | true => simp only [restC, hc, Bool.true_or]
      | false =>
        rw [hc] at this
        cases hg : gtI (j : Int) 0 with
        | false => rw [hg] at this; simp at this
        | true => rw [hg] at this; simpa using this
    have h1 : leI 1 ((a :: t).length : Int) = true := by simp; omega
    have h2 : (a :: t).take 1 = [a] := rfl
    have h3 : ((a :: t) == []) = false := rfl
    simp only [keyB, hall, h1, h2, h3, List.all_cons, List.all_nil, ha, Bool.true_and, Bool.and_true, Bool.not_false]
theorem keyB_bad (s : List UInt8) (j : Nat) (hj : j < s.length) (h : badK s j = true) : keyB s = false := by
  cases s with
  | nil => simp at hj
  | cons a t =>
    cases j with
    | zero =>
      simp only [badK, List.getD_cons_zero] at h
      cases hc : smallC a with
      | true => rw [hc] at h; simp at h
      | false => simp [keyB, hc]
    | succ j =>
      have hr : restC ((a :: t).getD (j + 1) 0) = false := by
        simp only [badK] at h
        have hg : gtI ((j + 1 : Nat) : Int) 0 = true := by simp
        rw [hg] at h
        cases hc : smallC ((a :: t).getD (j + 1) 0) with
        | true => rw [hc] at h; simp at h
        | false => rw [hc] at h; simpa using h
      have : (a :: t).all restC = false := by
        rw [← Bool.not_eq_true, all_getD]
        intro hall
        rw [hall (j + 1) hj] at hr
        cases hr
      simp only [keyB, this, Bool.and_false]
theorem w_IsKey (s : List UInt8) (hs : s.length ≤ 1000000000000) : W (fun K _ => f_kit_IsKey K (.s s)) (fun r => r = [.b (keyB s)]) := by
  unfold f_kit_IsKey
  refine W.bind (W.early s.length (fun j => [.s s, .i j]) (fun j => bif badK s j then some (0, [.b false]) else none) (1, []) (fun j hj hp p rc h1 h2 => ?_) (fun rc => ?_)) ?_
  · unfold b_kit_IsKey_0
    simp only [D.nth_zero, D.nth_succ, D.str_s, D.int_i, Int.toNat_natCast, byteAt_getD]
    refine W.cond (fun _ => ?_) (fun h => by simp at h; omega)
    refine W.cond (fun _ => ?_) (fun h => by simp at h; omega)
    have e : (!(bif (bif (geI ((s.getD j 0).toNat : Int) 97) then (leI ((s.getD j 0).toNat : Int) 122) else false) then true else (bif (gtI (j : Int) 0) then (bif (bif (bif (geI ((s.getD j 0).toNat : Int) 48) then (leI ((s.getD j 0).toNat : Int) 57) else false) then true else (((s.getD j 0).toNat : Int) == (45 : Int))) then true else (((s.getD j 0).toNat : Int) == (95 : Int))) else false))) = badK s j := by
      simp only [badK, restC, smallC, digitC, geI, leI, gtI]
      generalize ((s.getD j 0).toNat : Int) = x
      generalize (j : Int) = y
      cases hd1 : decide (x ≥ 97) <;> cases hd2 : decide (x ≤ 122) <;> cases hd3 : decide (x ≥ 48) <;> cases hd4 : decide (x ≤ 57) <;> cases hd5 : decide (y > 0) <;> cases hd6 : x == 45 <;> cases hd7 : x == 95 <;> simp_all
    rw [e]
    refine W.cond (fun h => W.ret (h1 _ (by rw [h]; rfl))) (fun h => ?_)
    rw [wrap_i64 (by omega) (by omega)]
    exact h2 (by rw [h]; rfl)
  · unfold b_kit_IsKey_0
    simp only [D.nth_zero, D.nth_succ, D.str_s, D.int_i]
    exact W.cond (fun h => by simp at h) (fun _ => W.ret rfl)
  · rintro _ rfl
    rcases scan_cases (fun j => bif badK s j then some (0, [D.b false]) else none) ((1, []) : Nat × List D) s.length 0 with ⟨i, r, h1, h2, h3, h4, h5⟩ | ⟨h1, h2⟩
    · rw [h4]
      cases hb : badK s i with
      | false => rw [hb] at h3; simp at h3
      | true =>
        rw [hb] at h3
        simp only [cond_true, Option.some.injEq] at h3
        subst h3
        exact W.ret (by rw [keyB_bad s i (by omega) hb]; rfl)
    · rw [h2]
      refine W.ret ?_
      rw [keyB_scan s fun j hj => ?_]
      · simp only [D.str_s]
        cases h3 : s == [] <;> rfl
      · have := h1 j (Nat.zero_le _) (by omega)
        cases hb : badK s j with
        | false => rfl
        | true => rw [hb] at this; simp at this
/-- One of some strings (or other data). -/
theorem w_Some (c : Int) (s : D) (l : List D) (hs : St c s) (hc : c ≤ 1000000000000) (hl : l ≠ []) (hl2 : l.length ≤ 1000000) : W (fun K _ => f_gatemake_Stream_Some K s (.n l)) (fun r => ∃ x s' t, r = [x, s', t] ∧ x ∈ l ∧ St (c + 1) s') := by
  unfold f_gatemake_Stream_Some
  have : 0 < l.length := List.length_pos_iff.2 hl
  refine W.bind (w_Next c _ s hs hc (by simp; omega)) ?_
  rintro _ ⟨i, s', rfl, h1, h2, h3⟩
  simp only [D.int_i, D.list_n] at h2
  have h2 := h2 (by omega)
  refine W.cond (fun h => ?_) (fun h => absurd (inB_mk h1 h2) (by rw [D.nth_zero, D.int_i, D.list_n] at h; rw [h]; simp))
  exact W.ret ⟨_, s', _, rfl, nth_mem (show i.toNat < l.length by omega), h3⟩
/-! ### Instances -/
def In (x : D) : Prop := ∃ a w, x = .n [.s a, .i w] ∧ a.length ≤ 1000
def InL (l : List D) : Prop := l.length ≤ 10 ∧ ∀ x ∈ l, In x
theorem InL.nth {l : List D} {j : Nat} (h : InL l) (hj : j < l.length) : ∃ a w, D.nth l j = .n [.s a, .i w] ∧ a.length ≤ 1000 ∧ (D.nth l j).at' 0 = .s a ∧ (D.nth l j).at' 1 = .i w := by
  obtain ⟨a, w, h1, h2⟩ := h.2 _ (nth_mem hj)
  exact ⟨a, w, h1, h2, by rw [h1]; rfl, by rw [h1]; rfl⟩
def idS (x : D) : List UInt8 := (x.at' 0).str
def ordI (l : List D) (j : Nat) : Bool := bif gtI (j : Int) 0 then (Op.bytesLess (idS (D.nth l j)) (idS (D.nth l (j - 1))) || (idS (D.nth l j) == idS (D.nth l (j - 1)))) else false
def wB (x : D) : Bool := bif ltI (x.at' 1).int 1 then true else gtI (x.at' 1).int 100
def insF (l : List D) (j : Nat) : Int := bif !keyB (idS (D.nth l j)) then 5 else bif ordI l j then 7 else bif wB (D.nth l j) then 1 else 0
def errAt (F : Nat → Int) (j : Nat) : Option (Nat × List D) := bif F j != 0 then some (0, [.i (F j)]) else none
def insR (l : List D) : Nat × List D := scan (errAt (insF l)) (1, []) l.length 0
def errD (r : Nat × List D) : List D := bif r.1.beq 0 then [D.nth r.2 0] else [.i 0]
def insD (l : List D) : List D := bif gtI (l.length : Int) 50 then [.i 2] else errD (insR l)
theorem errAt_some {F : Nat → Int} {j : Nat} {n : Int} (h : F j = n) (hn : n ≠ 0) : errAt F j = some (0, [.i n]) := by
  have : (n != 0) = true := by simpa using hn
  simp only [errAt, h, this, cond_true]
theorem errAt_none {F : Nat → Int} {j : Nat} (h : F j = 0) : errAt F j = none := by simp only [errAt, h]; rfl
theorem errAt_none_iff {F : Nat → Int} {j : Nat} (h : errAt F j = none) : F j = 0 := by
  unfold errAt at h
  cases h1 : F j != 0 with
  | true => rw [h1] at h; cases h
  | false => simpa using h1
theorem keyB_ne {s : List UInt8} (h : keyB s = true) : s ≠ [] := by
  rintro rfl
  simp [keyB, leI] at h
theorem w_CheckInstances (l : List D) (hl : InL l) : W (fun K _ => f_upstream_CheckInstances K (.n l)) (fun r => r = insD l) := by
  have hl10 := hl.1
  unfold f_upstream_CheckInstances insD
  simp only [D.list_n]
  refine W.cond (fun h => W.ret (by rw [h]; rfl)) (fun h => ?_)
  rw [h, cond_false]
  refine W.bind (W.early l.length (fun j => [.n l, .n l, .i l.length, .i j]) (errAt (insF l)) (1, []) (fun j hj hp p rc g1 g2 => ?_) (fun rc => ?_)) ?_
  · unfold b_upstream_CheckInstances_0
    simp only [D.nth_zero, D.nth_succ, D.int_i, D.list_n, Int.toNat_natCast]
    obtain ⟨a, w, hx, ha, h0, h1⟩ := hl.nth hj
    have hid : idS (D.nth l j) = a := by unfold idS; rw [h0]; rfl
    refine W.cond (fun _ => ?_) (fun h => by simp at h; omega)
    refine W.cond (fun _ => ?_) (fun h => by simp at h; omega)
    rw [h0]
    refine W.bind (w_IsKey a (by omega)) ?_
    rintro _ rfl
    simp only [D.nth_zero, D.bool_b, D.str_s]
    refine W.cond (fun hk => W.ret (g1 _ ?_)) (fun hk => ?_)
    · exact errAt_some (by simp only [insF, hid, hk, cond_true]) (by omega)
    have hw : IntKind.i64.wrap ((j : Int) - 1) = (j : Int) - 1 := wrap_i64 (by omega) (by omega)
    have hn : ((j : Int) - 1).toNat = j - 1 := by omega
    rw [hw, hn]
    have hord : (bif gtI (j : Int) 0 then (Op.bytesLess a ((D.nth l (j - 1)).at' 0).str || (a == ((D.nth l (j - 1)).at' 0).str)) else false) = ordI l j := by unfold ordI; rw [hid]; rfl
    rw [hord]
    refine W.cond (fun _ => ?_) (fun h => by simp at h; omega)
    refine W.cond (fun ho => W.ret (g1 _ ?_)) (fun ho => ?_)
    · exact errAt_some (by simp only [insF, hid, hk, ho, cond_true, cond_false]) (by omega)
    simp only [p_kit_Outside, D.nth_zero, D.bool_b, D.int_i]
    refine W.cond (fun hb => W.ret (g1 _ ?_)) (fun hb => ?_)
    · have : wB (D.nth l j) = true := hb
      exact errAt_some (by simp only [insF, hid, hk, ho, this, cond_true, cond_false]) (by omega)
    · have : wB (D.nth l j) = false := hb
      rw [wrap_i64 (x := (j : Int) + 1) (by omega) (by omega)]
      exact g2 (errAt_none (by simp only [insF, hid, hk, ho, this, cond_false]))
  · unfold b_upstream_CheckInstances_0
    simp only [D.nth_zero, D.nth_succ, D.int_i]
    exact W.cond (fun h => by simp at h) (fun _ => W.ret rfl)
  · rintro _ rfl
    show W (fun _ _ => bif (insR l).1.beq 0 then some [D.nth (insR l).2 0] else some [.i 0]) _
    unfold errD
    exact W.cond (fun h => W.ret (by rw [h]; rfl)) (fun h => W.ret (by rw [h]; rfl))
theorem w_InstancesFault (l : List D) (hl : InL l) : W (fun K _ => f_gateref2_InstancesFault K (.n l)) (fun r => r = insD l) := by
  have hl10 := hl.1
  unfold f_gateref2_InstancesFault insD
  simp only [D.list_n]
  refine W.cond (fun h => W.ret (by rw [h]; rfl)) (fun h => ?_)
  rw [h, cond_false]
  refine W.bind (W.early l.length (fun j => [bif j.beq 0 then .s [] else (D.nth l (j - 1)).at' 0, .n l, .i l.length, .i j]) (errAt (insF l)) (1, []) (fun j hj hp p rc g1 g2 => ?_) (fun rc => ?_)) ?_
  · unfold b_gateref2_InstancesFault_0
    simp only [D.nth_zero, D.nth_succ, D.int_i, D.list_n, Int.toNat_natCast]
    obtain ⟨a, w, hx, ha, h0, h1⟩ := hl.nth hj
    have hid : idS (D.nth l j) = a := by unfold idS; rw [h0]; rfl
    refine W.cond (fun _ => ?_) (fun h => by simp at h; omega)
    refine W.cond (fun _ => ?_) (fun h => by simp at h; omega)
    rw [h0]
    refine W.bind (w_Key a (by omega)) ?_
    rintro _ rfl
    simp only [D.nth_zero, D.bool_b, D.str_s]
    refine W.cond (fun hk => W.ret (g1 _ ?_)) (fun hk => ?_)
    · exact errAt_some (by simp only [insF, hid, hk, cond_true]) (by omega)
    have hkey : keyB a = true := by simpa using hk
    have hord : (Op.bytesLess a (bif j.beq 0 then D.s [] else (D.nth l (j - 1)).at' 0).str || (a == (bif j.beq 0 then D.s [] else (D.nth l (j - 1)).at' 0).str)) = ordI l j := by
      unfold ordI
      rw [hid]
      cases j with
      | zero =>
        have : (a == ([] : List UInt8)) = false := by simpa using keyB_ne hkey
        simp [less_nil, this]
      | succ j =>
        have hg : gtI ((j + 1 : Nat) : Int) 0 = true := by simp
        rw [hg]
        rfl
    rw [hord]
    refine W.cond (fun ho => W.ret (g1 _ ?_)) (fun ho => ?_)
    · exact errAt_some (by simp only [insF, hid, hk, ho, cond_true, cond_false]) (by omega)
    simp only [p_gateref2_in, D.nth_zero, D.bool_b, D.int_i, in_out]
    refine W.cond (fun hb => W.ret (g1 _ ?_)) (fun hb => ?_)
    · have : wB (D.nth l j) = true := hb
      exact errAt_some (by simp only [insF, hid, hk, ho, this, cond_true, cond_false]) (by omega)
    · have : wB (D.nth l j) = false := hb
      rw [wrap_i64 (x := (j : Int) + 1) (by omega) (by omega)]
      have h2 := g2 (errAt_none (by simp only [insF, hid, hk, ho, this, cond_false]))
      simp only [Nat.beq, Nat.add_sub_cancel, cond_false, h0] at h2
      exact h2
  · unfold b_gateref2_InstancesFault_0
    simp only [D.nth_zero, D.nth_succ, D.int_i]
    exact W.cond (fun h => by simp at h) (fun _ => W.ret rfl)
  · rintro _ rfl
    show W (fun _ _ => bif (insR l).1.beq 0 then some [D.nth (insR l).2 0] else some [.i 0]) _
    unfold errD
    exact W.cond (fun h => W.ret (by rw [h]; rfl)) (fun h => W.ret (by rw [h]; rfl))
/-- Right instances stand in the order of their keys. -/
theorem insD_zero {l : List D} (hl : InL l) (h : (D.nth (insD l) 0).int = 0) : Inc idS l := by
  have hl10 := hl.1
  have hg : gtI (l.length : Int) 50 = false := by simp; omega
  unfold insD at h
  rw [hg, cond_false] at h
  rcases scan_cases (errAt (insF l)) (1, []) l.length 0 with ⟨i, r, h1, h2, h3, h4, h5⟩ | ⟨h1, h2⟩
  · exfalso
    unfold insR at h
    rw [h4] at h
    unfold errAt at h3
    cases hc : insF l i != 0 with
    | false => rw [hc] at h3; cases h3
    | true =>
      rw [hc] at h3
      cases h3
      have : insF l i = 0 := h
      simp [this] at hc
  · intro j hj0 hj
    have hz := errAt_none_iff (h1 j (Nat.zero_le _) (by omega))
    have ho : ordI l j = false := by
      unfold insF at hz
      cases hk : !keyB (idS (D.nth l j)) <;> rw [hk] at hz <;> simp at hz
      cases ho : ordI l j with
      | false => rfl
      | true => rw [ho] at hz; simp at hz
    unfold ordI at ho
    have hg : gtI (j : Int) 0 = true := by simp; omega
    rw [hg, cond_true, Bool.or_eq_false_iff] at ho
    exact less_total ho.1 (by simpa using ho.2)
theorem any_inc {l : List D} (h : Inc idS l) {i : Nat} {key : List UInt8} (hi : i ≤ l.length) (h1 : ∀ p, p < i → Op.bytesLess (idS (D.nth l p)) key = true) (h2 : ∀ p, i ≤ p → p < l.length → Op.bytesLess (idS (D.nth l p)) key = false) :
    (l.any fun x => idS x == key) = (decide (i < l.length) && (idS (D.nth l i) == key)) := by
  rw [Bool.eq_iff_iff, any_nth]
  simp only [Bool.and_eq_true, decide_eq_true_eq, beq_iff_eq]
  constructor
  · rintro ⟨j, hj, he⟩
    have hij : i ≤ j := by
      rcases Nat.lt_or_ge j i with h3 | h3
      · have := h1 j h3
        rw [he, less_irrefl] at this
        cases this
      · exact h3
    rcases Nat.lt_or_eq_of_le hij with h3 | h3
    · have := h.lt h3 hj
      rw [he, h2 i (Nat.le_refl _) (by omega)] at this
      cases this
    · subst h3; exact ⟨hj, he⟩
  · rintro ⟨hj, he⟩
    exact ⟨i, hj, he⟩
/-! ### Instances that are drawn -/
theorem In.set0 {x : D} (h : In x) {a : List UInt8} (ha : a.length ≤ 1000) : In (.n (D.setNth x.list 0 (.s a))) := by
  obtain ⟨b, w, rfl, _⟩ := h
  exact ⟨a, w, rfl, ha⟩
theorem In.set1 {x : D} (h : In x) {w : Int} : In (.n (D.setNth x.list 1 (.i w))) := by
  obtain ⟨b, w', rfl, hb⟩ := h
  exact ⟨b, w, rfl, hb⟩
theorem InL.set {l : List D} {j : Nat} {x : D} (h : InL l) (hj : j < l.length) (hx : In x) : InL (D.setNth l j x) := by
  rw [setNth_eq _ hj]
  refine ⟨by simpa using h.1, fun y hy => ?_⟩
  rcases List.mem_or_eq_of_mem_set hy with hy | hy
  · exact h.2 y hy
  · subst hy; exact hx
theorem w_RightInstances (c : Int) (s : D) (hs : St c s) (hc : c ≤ 999999999900) : W (fun K _ => f_gatemake_Stream_RightInstances K s) (fun r => ∃ s' l, r = [s', .n l] ∧ InL l ∧ 0 < l.length ∧ St (c + 10) s') := by
  unfold f_gatemake_Stream_RightInstances
  generalize hT : ([D.s [105, 97], D.s [105, 98], D.s [105, 99], D.s [105, 100]] : List D) = T
  have hTl : T.length = 4 := by rw [← hT]; rfl
  have hTm : ∀ j, j < 4 → ∃ a : List UInt8, D.nth T j = .s a ∧ a.length ≤ 1000 ∧ (j = 3 → a = [105, 100]) := fun j hj => by
    rw [← hT]
    have : j = 0 ∨ j = 1 ∨ j = 2 ∨ j = 3 := by omega
    rcases this with rfl | rfl | rfl | rfl
    · exact ⟨_, rfl, by simp, fun h => by omega⟩
    · exact ⟨_, rfl, by simp, fun h => by omega⟩
    · exact ⟨_, rfl, by simp, fun h => by omega⟩
    · exact ⟨_, rfl, by simp, fun _ => rfl⟩
  refine W.bind (p := fun r => ∃ s' l t, r = (0, [s', t, .n l]) ∧ InL l ∧ 0 < l.length ∧ St (c + 10) s') (W.rounds (S := Nat × D × List D) (fun q => [.i 4, .i (q.1 : Int), q.2.1, .n T, .n q.2.2]) (fun q => q.1 ≤ 4 ∧ q.2.2.length ≤ q.1 ∧ (∀ x ∈ q.2.2, In x) ∧ (q.1 = 4 → 0 < q.2.2.length) ∧ St (c + 2 * q.1) q.2.1) (fun q => 4 - q.1) (fun q hI rc ih => ?_) (0, s, []) ⟨by simp, by simp, by simp, by simp, by simpa using hs⟩) ?_
  · obtain ⟨j, s2, out⟩ := q
    obtain ⟨a1, a2, a3, a4, a5⟩ := hI
    simp only at a1 a2 a3 a4 a5
    unfold b_gatemake_Stream_RightInstances_0
    simp only [D.nth_zero, D.nth_succ, D.int_i, D.list_n, Int.toNat_natCast]
    refine W.cond (fun h => ?_) (fun h => ?_)
    · simp at h
      have hj : j < 4 := by omega
      refine W.cond (fun _ => ?_) (fun h => by simp at h; omega)
      obtain ⟨a, ha, hal, ha3⟩ := hTm j hj
      rw [ha]
      have e1 : IntKind.i64.wrap ((j : Int) + 1) = ((j + 1 : Nat) : Int) := by rw [wrap_i64 (by omega) (by omega)]; omega
      refine W.bind (p := fun r => ∃ b s3, r = (0, [.b b, s3, .n out]) ∧ (j = 3 → out = [] → b = true) ∧ St (c + 2 * j + 1) s3) ?_ ?_
      · unfold b_gatemake_Stream_RightInstances_1
        simp only [D.nth_zero, D.nth_succ, D.list_n, D.str_s]
        refine W.cond (fun hc1 => ?_) (fun _ => W.ret ⟨true, s2, rfl, fun _ _ => rfl, a5.le (by omega)⟩)
        refine W.bind (w_Flip _ _ s2 a5 (by omega) (by simp)) ?_
        rintro _ ⟨b, s3, rfl, h3⟩
        refine W.ret ⟨!b, s3, rfl, fun hj3 ho => ?_, h3⟩
        subst ho
        rw [ha3 hj3] at hc1
        simp at hc1
      rintro _ ⟨b, s3, rfl, hb, h3⟩
      simp only [D.nth_zero, D.nth_succ, D.bool_b, D.list_n]
      refine W.cond (fun _ => ?_) (fun hbf => ?_)
      · refine W.bind (w_Pick _ s3 _ h3 (by omega) (by simp) (by simp)) ?_
        rintro _ ⟨x, s4, t, rfl, hx, h4⟩
        simp only [D.nth_zero, D.nth_succ]
        refine W.cond (fun _ => ?_) (fun h => absurd (lim_mk (n := out.length + 1) (by omega)) (by rw [h]; simp))
        have hx' : ∃ w : Int, x = .i w := by
          simp only [List.mem_cons, List.not_mem_nil, or_false] at hx
          rcases hx with rfl | rfl | rfl | rfl | rfl <;> exact ⟨_, rfl⟩
        obtain ⟨w, rfl⟩ := hx'
        rw [e1]
        refine ih (j + 1, s4, out ++ [.n [.s a, .i w]]) ⟨by simp only; omega, by simp; omega, fun y hy => ?_, fun _ => by simp, h4.le (by simp only; omega)⟩ (by simp only; omega)
        rcases List.mem_append.1 hy with hy | hy
        · exact a3 y hy
        · simp at hy; subst hy; exact ⟨a, w, rfl, hal⟩
      · rw [e1]
        refine ih (j + 1, s3, out) ⟨by simp only; omega, by simp only; omega, a3, fun h4 => ?_, h3.le (by simp only; omega)⟩ (by simp only; omega)
        simp only at h4 ⊢
        rcases Nat.eq_zero_or_pos out.length with h5 | h5
        · have := hb (by omega) (List.eq_nil_of_length_eq_zero h5)
          rw [this] at hbf
          cases hbf
        · exact h5
    · simp at h
      have : j = 4 := by omega
      subst this
      exact W.ret ⟨s2, out, _, rfl, ⟨by omega, a3⟩, a4 rfl, a5.le (by omega)⟩
  · rintro _ ⟨s2, l, t, rfl, h1, h2, h3⟩
    exact W.ret ⟨s2, l, rfl, h1, h2, h3⟩
theorem w_Instances (c : Int) (s : D) (hs : St c s) (hc : c ≤ 999999999800) : W (fun K _ => f_gatemake_Stream_Instances K s) (fun r => ∃ s' l, r = [s', .n l] ∧ InL l ∧ St (c + 20) s') := by
  unfold f_gatemake_Stream_Instances
  refine W.bind (w_RightInstances c s hs (by omega)) ?_
  rintro _ ⟨s1, l, rfl, hl, hl0, h1⟩
  have hl10 := hl.1
  simp only [D.nth_zero, D.nth_succ, D.list_n]
  refine W.bind (w_Flip _ _ s1 h1 (by omega) (by simp)) ?_
  rintro _ ⟨b, s2, rfl, h2⟩
  simp only [D.nth_zero, D.nth_succ, D.bool_b]
  refine W.cond (fun _ => ?_) (fun _ => ?_)
  · refine W.bind (w_Next _ _ s2 h2 (by omega) (by simp; omega)) ?_
    rintro _ ⟨i, s3, rfl, i0, i1, h3⟩
    simp only [D.int_i] at i1
    have i1 := i1 (by omega)
    obtain ⟨j, rfl⟩ : ∃ j : Nat, i = (j : Int) := ⟨i.toNat, by omega⟩
    have hj : j < l.length := by omega
    simp only [D.nth_zero, D.nth_succ, D.int_i, Int.toNat_natCast]
    refine W.cond (fun _ => ?_) (fun h => by simp at h; omega)
    obtain ⟨a, w, hx, ha, hx0, hx1⟩ := hl.nth hj
    rw [hx0]
    refine W.bind (w_Some _ s3 _ h3 (by omega) (by simp) (by simp)) ?_
    rintro _ ⟨y, s4, t, rfl, hy, h4⟩
    have hy' : ∃ b : List UInt8, y = .s b ∧ b.length ≤ 1000 := by
      simp only [List.mem_cons, List.not_mem_nil, or_false] at hy
      rcases hy with rfl | rfl | rfl | rfl
      · exact ⟨_, rfl, ha⟩
      all_goals exact ⟨_, rfl, by simp⟩
    obtain ⟨b', rfl, hb'⟩ := hy'
    refine W.bind (w_Odd _ 1 100 s4 h4 (by omega) (by omega) (by omega) (by omega)) ?_
    rintro _ ⟨w', s5, rfl, _, _, h5⟩
    simp only [D.nth_zero, D.nth_succ]
    refine W.bind (w_Flip _ _ s5 h5 (by omega) (by simp)) ?_
    rintro _ ⟨b2, s6, rfl, h6⟩
    simp only [D.nth_zero, D.nth_succ, D.bool_b]
    refine W.cond (fun _ => W.ret ⟨s6, [], rfl, ⟨by simp, by simp⟩, h6.le (by omega)⟩) (fun _ => W.ret ⟨s6, _, rfl, ?_, h6.le (by omega)⟩)
    have g1 : In (.n (D.setNth (D.nth l j).list 0 (.s b'))) := (hl.2 _ (nth_mem hj)).set0 hb'
    have g2 := hl.set hj g1
    have hlen : (D.setNth l j (.n (D.setNth (D.nth l j).list 0 (.s b')))).length = l.length := length_setNth hj
    refine g2.set (by omega) ?_
    rw [at_set_same]
    exact g1.set1
  · refine W.bind (w_Flip _ _ s2 h2 (by omega) (by simp)) ?_
    rintro _ ⟨b2, s6, rfl, h6⟩
    simp only [D.nth_zero, D.nth_succ, D.bool_b]
    exact W.cond (fun _ => W.ret ⟨s6, [], rfl, ⟨by simp, by simp⟩, h6.le (by omega)⟩) (fun _ => W.ret ⟨s6, l, rfl, hl, h6.le (by omega)⟩)
/-! ### Which error -/
theorem w_when (b : Bool) (e : Int) : W (fun K _ => f_gatelaw2_when K (.b b) (.i e)) (fun r => r = [.i (bif b then e else 0)]) := by
  unfold f_gatelaw2_when
  cases b with
  | true => exact W.ret rfl
  | false => exact W.ret rfl
theorem w_errs2 (x y : Int) : W (fun K _ => f_gatelaw2_errs K (.n [.i x, .i y])) (fun r => r = [.i (bif x != 0 then x else y)]) := by
  unfold f_gatelaw2_errs
  refine W.bind (W.early 2 (fun j => [.n [.i x, .i y], .i 2, .i (j : Int)]) (fun j => bif ((D.nth [.i x, .i y] j).int != 0) then some (0, [D.nth [.i x, .i y] j]) else none) (1, []) (fun j hj hp p rc h1 h2 => ?_) (fun rc => ?_)) ?_
  · unfold b_gatelaw2_errs_0
    simp only [D.nth_zero, D.nth_succ, D.int_i, D.list_n, Int.toNat_natCast]
    refine W.cond (fun _ => ?_) (fun h => by simp at h; omega)
    refine W.cond (fun _ => ?_) (fun h => by simp at h; omega)
    refine W.cond (fun h => W.ret (h1 _ (by rw [h]; rfl))) (fun h => ?_)
    rw [wrap_i64 (by omega) (by omega)]
    exact h2 (by rw [h]; rfl)
  · unfold b_gatelaw2_errs_0
    simp only [D.nth_zero, D.nth_succ, D.int_i]
    exact W.cond (fun h => by simp at h) (fun _ => W.ret rfl)
  · rintro _ rfl
    simp only [scan, D.nth_zero, D.nth_succ, D.int_i]
    cases h1 : x != 0 with
    | true => exact W.ret (by simp)
    | false =>
      cases h2 : y != 0 with
      | true => exact W.ret (by simp)
      | false =>
        have : y = 0 := by simpa using h2
        subst this
        exact W.ret (by simp)
theorem balanced : W (fun K _ => f_gatelaw2_balanced K) (· = [.b true]) :=
  ⟨_, rfl, 20, fun K _ hK _ => by obtain ⟨m, rfl⟩ : ∃ m, K = m + 20 := ⟨K - 20, by omega⟩; kernel_rfl⟩
/-! ### The sum of bytes -/
def hstep (h : Int) (c : UInt8) : Int := IntKind.u64.wrap ((bitsI .xor .u64 h (IntKind.u64.wrap (c.toNat : Int))) * (1099511628211 : Int))
def hsh (s : List UInt8) : Int := s.foldl hstep 14695981039346656037
def mix (h : Int) : Int := bitsI .xor .u64 h (shr .u64 h 32)
theorem wrap_u64_nn (x : Int) : 0 ≤ IntKind.u64.wrap x := by
  unfold IntKind.wrap
  simp only [IntKind.signed, Bool.false_and, Bool.false_eq_true, if_false]
  exact Int.emod_nonneg _ (by decide)
theorem mix_nn (h : Int) : 0 ≤ mix h := wrap_u64_nn _
theorem take_get {s : List UInt8} {j : Nat} (h : j < s.length) : s.take (j + 1) = s.take j ++ [s.getD j 0] := by
  rw [List.take_succ_eq_append_getElem h, List.getD_eq_getElem?_getD, List.getElem?_eq_getElem h]
  rfl
theorem hstep_at (s : List UInt8) (j : Nat) (hj : j < s.length) : (s.take (j + 1)).foldl hstep 14695981039346656037 = IntKind.u64.wrap ((bitsI .xor .u64 ((s.take j).foldl hstep 14695981039346656037) (IntKind.u64.wrap (byteAt s j))) * (1099511628211 : Int)) := by
  rw [take_get hj, List.foldl_append, byteAt_getD]
  rfl
theorem w_Hash (s : List UInt8) (hs : s.length ≤ 1000000) : W (fun K _ => f_upstream_Hash K (.s s)) (fun r => r = [.i (mix (hsh s))]) := by
  unfold f_upstream_Hash
  refine W.bind (p := fun r => r = (0, [.i (hsh s)])) (W.rounds (S := Nat) (fun j => [.s s, .i ((s.take j).foldl hstep 14695981039346656037), .i (s.length : Int), .i (j : Int)]) (fun j => j ≤ s.length) (fun j => s.length - j) (fun j hI rc ih => ?_) 0 (by simp)) ?_
  · unfold b_upstream_Hash_0
    simp only [D.nth_zero, D.nth_succ, D.int_i, D.str_s, Int.toNat_natCast]
    have e1 : IntKind.i64.wrap ((j : Int) + 1) = ((j + 1 : Nat) : Int) := by rw [wrap_i64 (by omega) (by omega)]; omega
    rw [e1]
    refine W.cond (fun h => ?_) (fun h => ?_)
    · simp at h
      refine W.cond (fun _ => ?_) (fun h => by simp at h; omega)
      rw [← hstep_at s j h]
      exact ih (j + 1) (by omega) (by omega)
    · simp at h
      have : j = s.length := by omega
      subst this
      rw [List.take_length]
      exact W.ret rfl
  rintro _ rfl
  exact W.ret rfl
theorem w_hashed (a b : List UInt8) (ha : a.length ≤ 1000) (hb : b.length ≤ 1000) : W (fun K _ => f_gateref2_hashed K (.n [.s a, .s b])) (fun r => r = [.i (hsh ((a ++ [0]) ++ b))]) := by
  have hj : Lib.join ([D.s a, D.s b].map D.str) (D.s [0]).str = (a ++ [0]) ++ b := by
    simp [Lib.join, List.intercalate, List.intersperse]
  unfold f_gateref2_hashed f_strings_Join joinF
  simp only [D.list_n]
  rw [hj]
  refine W.bind (W.cond (p := fun r => r = [.s ((a ++ [0]) ++ b)]) (fun _ => W.ret rfl) (fun h => ?_)) ?_
  · exfalso
    have h1 : Nat.ble ((a ++ [0]) ++ b).length 140737488355328 = true := Nat.ble_eq_true_of_le (by simp; omega)
    rw [h1] at h
    exact absurd h (by simp [Nat.ble])
  rintro _ rfl
  simp only [D.nth_zero, D.str_s]
  have hs : ((a ++ [0]) ++ b).length ≤ 1000000 := by simp; omega
  generalize (a ++ [0]) ++ b = s at hs
  refine W.bind (p := fun r => r = (0, [.i (hsh s)])) (W.rounds (S := Nat) (fun j => [.i ((s.take j).foldl hstep 14695981039346656037), .s s, .i (s.length : Int), .i (j : Int)]) (fun j => j ≤ s.length) (fun j => s.length - j) (fun j hI rc ih => ?_) 0 (by simp)) ?_
  · unfold b_gateref2_hashed_0
    simp only [D.nth_zero, D.nth_succ, D.int_i, D.str_s, Int.toNat_natCast]
    have e1 : IntKind.i64.wrap ((j : Int) + 1) = ((j + 1 : Nat) : Int) := by rw [wrap_i64 (by omega) (by omega)]; omega
    rw [e1]
    refine W.cond (fun h => ?_) (fun h => ?_)
    · simp at h
      refine W.cond (fun _ => ?_) (fun h => by simp at h; omega)
      rw [← hstep_at s j h]
      exact ih (j + 1) (by omega) (by omega)
    · simp at h
      have : j = s.length := by omega
      subst this
      rw [List.take_length]
      exact W.ret rfl
  rintro _ rfl
  exact W.ret rfl
/-! ### Points -/
def pt (key : List UInt8) (x : D) : Int := IntKind.i64.wrap ((IntKind.i64.wrap (Int.tmod (mix (hsh ((key ++ [0]) ++ idS x))) (1000003 : Int))) * (x.at' 1).int)
def RW (l : List D) : Prop := ∀ j, j < l.length → 1 ≤ ((D.nth l j).at' 1).int ∧ ((D.nth l j).at' 1).int ≤ 100
theorem pt_small (key : List UInt8) (x : D) (h : 1 ≤ (x.at' 1).int ∧ (x.at' 1).int ≤ 100) : 0 ≤ pt key x ∧ pt key x ≤ 1000000000 := by
  have h1 := mix_nn (hsh ((key ++ [0]) ++ idS x))
  unfold pt
  generalize mix (hsh ((key ++ [0]) ++ idS x)) = m at h1
  have h2 := Int.tmod_nonneg 1000003 h1
  have h3 := Int.tmod_lt_of_pos m (show (0 : Int) < 1000003 by omega)
  rw [wrap_i64 (x := Int.tmod m 1000003) (by omega) (by omega)]
  generalize Int.tmod m 1000003 = q at h2 h3
  generalize (x.at' 1).int = w at h
  have h4 : q * w ≤ 1000003 * 100 := Int.mul_le_mul (by omega) h.2 (by omega) (by omega)
  have h5 : 0 ≤ q * w := Int.mul_nonneg h2 (by omega)
  rw [wrap_i64 (by omega) (by omega)]
  omega
theorem get_setM (k k' v : D) : ∀ (m : List D), mapGet .str k (mapSet .str k' v m) = bif k.str == k'.str then v else mapGet .str k m
  | [] => by
    simp only [mapSet, mapGet, eqK, D.at_n, D.nth_zero, D.nth_succ]
  | x :: m => by
    have ih := get_setM k k' v m
    simp only [mapSet, eqK]
    cases h1 : k'.str == (x.at' 0).str with
    | true =>
      have e1 : k'.str = (x.at' 0).str := by simpa using h1
      simp only [cond_true, mapGet, eqK, D.at_n, D.nth_zero, D.nth_succ]
      rw [e1]
      cases k.str == (x.at' 0).str <;> rfl
    | false =>
      simp only [cond_false, mapGet, eqK]
      cases h2 : k.str == (x.at' 0).str with
      | true =>
        have e2 : k.str = (x.at' 0).str := by simpa using h2
        have : (k.str == k'.str) = false := by
          rw [e2]
          have : k'.str ≠ (x.at' 0).str := by simpa using h1
          simpa using fun h => this h.symm
        rw [this]
        rfl
      | false => exact ih
theorem inc_ne {l : List D} (h : Inc idS l) {i j : Nat} (hi : i < l.length) (hj : j < l.length) (hne : i ≠ j) : idS (D.nth l i) ≠ idS (D.nth l j) := fun e => by
  rcases Nat.lt_or_gt_of_ne hne with h1 | h1
  · have := h.lt h1 hj
    rw [e, less_irrefl] at this
    cases this
  · have := h.lt h1 hi
    rw [e, less_irrefl] at this
    cases this
def stP (key : List UInt8) (m : List D) (x : D) : List D := mapSet .str (x.at' 0) (.i (pt key x)) m
def ptM (key : List UInt8) (l : List D) : List D := l.foldl (stP key) []
theorem ptM_at {l : List D} (h : Inc idS l) (key : List UInt8) : ∀ i, i ≤ l.length → ∀ j, j < i → (mapGet .str ((D.nth l j).at' 0) (ptM key (l.take i))).int = pt key (D.nth l j)
  | 0, _, j, hj => by omega
  | i + 1, hi, j, hj => by
    unfold ptM
    rw [take_nth (by omega), List.foldl_append, List.foldl_cons, List.foldl_nil]
    unfold stP
    rw [get_setM]
    by_cases he : j = i
    · subst he
      simp
    · have hne := inc_ne h (show j < l.length by omega) (show i < l.length by omega) he
      have : (((D.nth l j).at' 0).str == ((D.nth l i).at' 0).str) = false := by simpa [idS] using hne
      rw [this, cond_false]
      exact ptM_at h key i (by omega) j (by omega)
theorem ptM_get {l : List D} (h : Inc idS l) (key : List UInt8) {j : Nat} (hj : j < l.length) : (mapGet .str ((D.nth l j).at' 0) (ptM key l)).int = pt key (D.nth l j) := by
  have := ptM_at h key l.length (Nat.le_refl _) j hj
  rwa [List.take_length] at this
/-! ### Sorting by insertion: what comes first -/
def swp (L : List D) (i j : Nat) : List D := D.setNth (D.setNth L i (D.nth L j)) j (D.nth L i)
theorem swp_len {L : List D} {i j : Nat} (hi : i < L.length) (hj : j < L.length) : (swp L i j).length = L.length := by
  unfold swp
  rw [length_setNth (by rw [length_setNth hi]; exact hj), length_setNth hi]
theorem swp_nth {L : List D} {i j : Nat} (hi : i < L.length) (hj : j < L.length) (q : Nat) : D.nth (swp L i j) q = if q = j then D.nth L i else if q = i then D.nth L j else D.nth L q := by
  unfold swp
  rw [nth_setNth (by rw [length_setNth hi]; exact hj), nth_setNth hi]
section
variable (lt : D → D → Bool)
def ins : Nat → List D → List D
  | 0, L => L
  | j + 1, L => bif lt (D.nth L (j + 1)) (D.nth L j) then ins j (swp L (j + 1) j) else L
def ist (L : List D) : Nat → List D
  | 0 => L
  | i + 1 => ins lt (i + 1) (ist L i)
def fm (L : List D) : Nat → D
  | 0 => D.nth L 0
  | i + 1 => bif lt (D.nth L (i + 1)) (fm L i) then D.nth L (i + 1) else fm L i
end
theorem ins_spec (lt : D → D → Bool) : ∀ (j : Nat) (L : List D), j < L.length → ∃ p, p ≤ j ∧ (ins lt j L).length = L.length ∧ (∀ q, q < p → D.nth (ins lt j L) q = D.nth L q) ∧ D.nth (ins lt j L) p = D.nth L j ∧
    (∀ q, p ≤ q → q < j → D.nth (ins lt j L) (q + 1) = D.nth L q ∧ lt (D.nth L j) (D.nth L q) = true) ∧ (∀ q, j < q → D.nth (ins lt j L) q = D.nth L q) ∧ (0 < p → lt (D.nth L j) (D.nth L (p - 1)) = false)
  | 0, L, hj => ⟨0, Nat.le_refl _, rfl, fun q h => by omega, rfl, fun q _ h => by omega, fun q _ => rfl, fun h => by omega⟩
  | j + 1, L, hj => by
    simp only [ins]
    cases hc : lt (D.nth L (j + 1)) (D.nth L j) with
    | false => exact ⟨j + 1, Nat.le_refl _, rfl, fun q _ => rfl, rfl, fun q _ h => by omega, fun q _ => rfl, fun _ => hc⟩
    | true =>
      have hlen := swp_len (L := L) (i := j + 1) (j := j) hj (by omega)
      have hn := swp_nth (L := L) (i := j + 1) (j := j) hj (by omega)
      obtain ⟨p, h1, h2, h3, h4, h5, h6, h7⟩ := ins_spec lt j (swp L (j + 1) j) (by omega)
      have hx : D.nth (swp L (j + 1) j) j = D.nth L (j + 1) := by rw [hn, if_pos rfl]
      simp only [cond_true]
      refine ⟨p, by omega, by omega, fun q hq => ?_, ?_, fun q hq1 hq2 => ?_, fun q hq => ?_, fun hp => ?_⟩
      · rw [h3 q hq, hn, if_neg (by omega), if_neg (by omega)]
      · rw [h4, hx]
      · by_cases he : q = j
        · subst he
          rw [h6 (q + 1) (by omega), hn, if_neg (by omega), if_pos rfl]
          exact ⟨rfl, hc⟩
        · obtain ⟨e1, e2⟩ := h5 q hq1 (by omega)
          rw [hx, hn, if_neg he, if_neg (by omega)] at e2
          rw [e1, hn, if_neg he, if_neg (by omega)]
          exact ⟨rfl, e2⟩
      · rw [h6 q (by omega), hn, if_neg (by omega), if_neg (by omega)]
      · have := h7 hp
        rw [hx, hn, if_neg (by omega), if_neg (by omega)] at this
        exact this
structure Ord (lt : D → D → Bool) : Prop where
  asym : ∀ x y, lt x y = true → lt y x = false
  trans : ∀ x y z, lt x y = false → lt y z = false → lt x z = false
  irr : ∀ x, lt x x = false
theorem ist_spec {lt : D → D → Bool} (ho : Ord lt) (L : List D) : ∀ i, i < L.length → (ist lt L i).length = L.length ∧ (∀ a b, a < b → b ≤ i → lt (D.nth (ist lt L i) b) (D.nth (ist lt L i) a) = false) ∧
    D.nth (ist lt L i) 0 = fm lt L i ∧ (∀ q, i < q → D.nth (ist lt L i) q = D.nth L q) ∧ (∀ q, q < L.length → ∃ q', q' < L.length ∧ D.nth (ist lt L i) q = D.nth L q')
  | 0, hi => ⟨rfl, fun a b h1 h2 => by omega, rfl, fun q _ => rfl, fun q hq => ⟨q, hq, rfl⟩⟩
  | i + 1, hi => by
    obtain ⟨g1, g2, g3, g4, g5⟩ := ist_spec ho L i (by omega)
    simp only [ist]
    generalize ist lt L i = M at g1 g2 g3 g4 g5
    obtain ⟨p, h1, h2, h3, h4, h5, h6, h7⟩ := ins_spec lt (i + 1) M (by omega)
    have hx : D.nth M (i + 1) = D.nth L (i + 1) := g4 _ (by omega)
    have hpast : ∀ a, a < p → lt (D.nth M (i + 1)) (D.nth M a) = false := fun a ha => by
      have h8 := h7 (by omega)
      by_cases he : a = p - 1
      · rw [he]; exact h8
      · exact ho.trans _ _ _ h8 (g2 a (p - 1) (by omega) (by omega))
    refine ⟨by omega, fun a b hab hb => ?_, ?_, fun q hq => ?_, fun q hq => ?_⟩
    · rcases Nat.lt_trichotomy b p with hbp | hbp | hbp
      · rw [h3 a (by omega), h3 b hbp]
        exact g2 a b hab (by omega)
      · rw [h3 a (by omega), hbp, h4]
        exact hpast a (by omega)
      · obtain ⟨b', rfl⟩ : ∃ b', b = b' + 1 := ⟨b - 1, by omega⟩
        obtain ⟨e1, e2⟩ := h5 b' (by omega) (by omega)
        rw [e1]
        rcases Nat.lt_trichotomy a p with hap | hap | hap
        · rw [h3 a hap]
          exact g2 a b' (by omega) (by omega)
        · rw [hap, h4]
          exact ho.asym _ _ e2
        · obtain ⟨a', rfl⟩ : ∃ a', a = a' + 1 := ⟨a - 1, by omega⟩
          rw [(h5 a' (by omega) (by omega)).1]
          exact g2 a' b' (by omega) (by omega)
    · simp only [fm]
      rcases Nat.eq_zero_or_pos p with hp | hp
      · subst hp
        have := (h5 0 (by omega) (by omega)).2
        rw [hx, g3] at this
        rw [h4, this, hx]
        rfl
      · have := hpast 0 hp
        rw [hx, g3] at this
        rw [h3 0 hp, this, g3]
        rfl
    · rw [h6 q hq, g4 q (by omega)]
    · rcases Nat.lt_trichotomy q p with hqp | hqp | hqp
      · rw [h3 q hqp]; exact g5 q hq
      · rw [hqp, h4]; exact g5 (i + 1) hi
      · by_cases hq2 : q ≤ i + 1
        · obtain ⟨q', rfl⟩ : ∃ q', q = q' + 1 := ⟨q - 1, by omega⟩
          rw [(h5 q' (by omega) (by omega)).1]
          exact g5 q' (by omega)
        · rw [h6 q (by omega)]; exact g5 q hq
/-! ### The two orders -/
def pM (M : List D) (k : D) : Int := (mapGet .str k M).int
def ltA (M : List D) (x y : D) : Bool := ltI (pM M (y.at' 0)) (pM M (x.at' 0)) || ((pM M (y.at' 0) == pM M (x.at' 0)) && Op.bytesLess (idS x) (idS y))
def ltB (M : List D) (x y : D) : Bool := ltI (pM M y) (pM M x)
theorem ordA (M : List D) : Ord (ltA M) where
  asym x y h := by
    unfold ltA at h ⊢
    generalize pM M (x.at' 0) = a at *
    generalize pM M (y.at' 0) = b at *
    rw [Bool.or_eq_true, Bool.and_eq_true] at h
    rw [Bool.or_eq_false_iff, Bool.and_eq_false_iff]
    rcases h with h | ⟨h1, h2⟩
    · simp at h
      refine ⟨by simp; omega, .inl (by simp; omega)⟩
    · have h1 : b = a := by simpa using h1
      exact ⟨by simp; omega, .inr (less_asymm h2)⟩
  trans x y z h1 h2 := by
    unfold ltA at h1 h2 ⊢
    generalize pM M (x.at' 0) = a at *
    generalize pM M (y.at' 0) = b at *
    generalize pM M (z.at' 0) = c at *
    rw [Bool.or_eq_false_iff, Bool.and_eq_false_iff] at h1 h2 ⊢
    obtain ⟨h1, h3⟩ := h1
    obtain ⟨h2, h4⟩ := h2
    simp at h1 h2
    refine ⟨by simp; omega, ?_⟩
    by_cases hca : c = a
    · have e1 : b = a := by omega
      have e2 : c = b := by omega
      have h3 : Op.bytesLess (idS x) (idS y) = false := h3.resolve_left (by simp [e1])
      have h4 : Op.bytesLess (idS y) (idS z) = false := h4.resolve_left (by simp [e2])
      right
      cases h5 : Op.bytesLess (idS x) (idS z) with
      | false => rfl
      | true =>
        exfalso
        by_cases e3 : idS y = idS z
        · rw [e3, h5] at h3; cases h3
        · have h6 := less_total h4 e3
          have := less_trans h5 h6
          rw [this] at h3
          cases h3
    · left; simpa using hca
  irr x := by
    unfold ltA
    rw [less_irrefl]
    simp
theorem ordB (M : List D) : Ord (ltB M) where
  asym x y h := by unfold ltB at h ⊢; simp at h ⊢; omega
  trans x y z h1 h2 := by unfold ltB at h1 h2 ⊢; simp at h1 h2 ⊢; omega
  irr x := by unfold ltB; simp
theorem fm_in (lt : D → D → Bool) (L : List D) : ∀ i, ∃ q, q ≤ i ∧ fm lt L i = D.nth L q
  | 0 => ⟨0, Nat.le_refl _, rfl⟩
  | i + 1 => by
    obtain ⟨q, h1, h2⟩ := fm_in lt L i
    simp only [fm]
    cases lt (D.nth L (i + 1)) (fm lt L i) with
    | true => exact ⟨i + 1, Nat.le_refl _, rfl⟩
    | false => exact ⟨q, by omega, h2⟩
theorem nth_map {l : List D} (g : D → D) {j : Nat} (hj : j < l.length) : D.nth (l.map g) j = g (D.nth l j) := by
  rw [nth_eq (by simpa using hj), nth_eq hj, List.getElem_map]
theorem fm_same {l : List D} (h : Inc idS l) (M : List D) : ∀ i, i < l.length → fm (ltB M) (l.map fun x => x.at' 0) i = (fm (ltA M) l i).at' 0
  | 0, hi => nth_map _ hi
  | i + 1, hi => by
    have ih := fm_same h M i (by omega)
    obtain ⟨q, hq, he⟩ := fm_in (ltA M) l i
    simp only [fm]
    rw [ih, nth_map _ hi]
    have hls : Op.bytesLess (idS (D.nth l (i + 1))) (idS (fm (ltA M) l i)) = false := by
      rw [he]
      exact less_asymm (h.lt (show q < i + 1 by omega) hi)
    have : ltA M (D.nth l (i + 1)) (fm (ltA M) l i) = ltB M ((D.nth l (i + 1)).at' 0) ((fm (ltA M) l i).at' 0) := by
      generalize fm (ltA M) l i = F at hls
      unfold ltA ltB
      rw [hls, Bool.and_false, Bool.or_false]
    rw [this]
    cases ltB M ((D.nth l (i + 1)).at' 0) ((fm (ltA M) l i).at' 0) <;> rfl
/-! ### Comparing -/
theorem w_Or2 (x y : Int) : W (fun K _ => f_cmp_Or_int K (.n [.i x, .i y])) (fun r => r = [.i (bif x != 0 then x else y)]) := by
  unfold f_cmp_Or_int
  refine W.bind (W.early 2 (fun j => [.i 0, .n [.i x, .i y], .i 2, .i (j : Int)]) (fun j => bif ((D.nth [.i x, .i y] j).int != 0) then some (0, [D.nth [.i x, .i y] j]) else none) (1, []) (fun j hj hp p rc h1 h2 => ?_) (fun rc => ?_)) ?_
  · unfold b_cmp_Or_int_0
    simp only [D.nth_zero, D.nth_succ, D.int_i, D.list_n, Int.toNat_natCast]
    refine W.cond (fun _ => ?_) (fun h => by simp at h; omega)
    refine W.cond (fun _ => ?_) (fun h => by simp at h; omega)
    refine W.cond (fun h => W.ret (h1 _ (by rw [h]; rfl))) (fun h => ?_)
    rw [wrap_i64 (by omega) (by omega)]
    exact h2 (by rw [h]; rfl)
  · unfold b_cmp_Or_int_0
    simp only [D.nth_zero, D.nth_succ, D.int_i]
    exact W.cond (fun h => by simp at h) (fun _ => W.ret rfl)
  · rintro _ rfl
    simp only [scan, D.nth_zero, D.nth_succ, D.int_i]
    cases h1 : x != 0 with
    | true => exact W.ret (by simp)
    | false =>
      cases h2 : y != 0 with
      | true => exact W.ret (by simp)
      | false =>
        have : y = 0 := by simpa using h2
        subst this
        exact W.ret (by simp)
def GdA (M : List D) (x : D) : Prop := True
def GdB (M : List D) (x : D) : Prop := 0 ≤ pM M x ∧ pM M x ≤ 1000000000
theorem w_cmpA (M : List D) (a b : D) (ha : GdA M a) (hb : GdA M b) : W (fun K _ => f_upstream_ordered_1 K a b (.n M)) (fun r => ∃ n : Int, r = [.i n, .n M] ∧ ltI n 0 = ltA M a b) := by
  unfold f_upstream_ordered_1
  simp only [D.list_n]
  refine W.bind (p := fun r => ∃ c : Int, r = [.i c] ∧ (c < 0 ↔ pM M (b.at' 0) < pM M (a.at' 0)) ∧ (c = 0 ↔ pM M (b.at' 0) = pM M (a.at' 0))) ?_ ?_
  · unfold f_cmp_Compare_int
    simp only [p_cmp_isNaN_int, D.nth_zero, D.bool_b]
    have e : ∀ x : Int, (x != x) = false := fun x => by simp
    refine W.cond (fun h => by rw [e] at h; cases h) (fun _ => ?_)
    refine W.cond (fun h => by rw [e] at h; cases h) (fun _ => ?_)
    unfold pM
    refine W.cond (fun h => W.ret ⟨-1, rfl, ?_⟩) (fun h => ?_)
    · simp at h; constructor <;> constructor <;> intro _ <;> omega
    refine W.cond (fun h2 => W.ret ⟨1, rfl, ?_⟩) (fun h2 => W.ret ⟨0, rfl, ?_⟩)
    · simp at h h2; constructor <;> constructor <;> intro _ <;> omega
    · simp at h h2; constructor <;> constructor <;> intro _ <;> omega
  rintro _ ⟨c, rfl, c1, c2⟩
  simp only [D.nth_zero, p_strings_Compare, p_bytealg_CompareString, p_bytealg_abigen_runtime_cmpstring]
  refine W.bind (w_Or2 _ _) ?_
  rintro _ rfl
  refine W.ret ⟨_, rfl, ?_⟩
  have hs := (cmp_spec (a.at' 0).str (b.at' 0).str).1
  unfold ltA
  by_cases h0 : c = 0
  · have e1 := c2.1 h0
    subst h0
    have e2 : ltI (pM M (b.at' 0)) (pM M (a.at' 0)) = false := by simp; omega
    have e3 : (pM M (b.at' 0) == pM M (a.at' 0)) = true := by simpa using e1
    rw [e2, e3, Bool.false_or, Bool.true_and]
    have e4 : ((0 : Int) != 0) = false := rfl
    rw [e4, cond_false, Bool.eq_iff_iff]
    unfold idS
    rw [← hs]
    simp
  · have e4 : (c != 0) = true := by simpa using h0
    have e3 : (pM M (b.at' 0) == pM M (a.at' 0)) = false := by
      have : pM M (b.at' 0) ≠ pM M (a.at' 0) := fun e => h0 (c2.2 e)
      simpa using this
    rw [e4, e3, cond_true, Bool.false_and, Bool.or_false, Bool.eq_iff_iff]
    simpa using c1
theorem w_cmpB (M : List D) (a b : D) (ha : GdB M a) (hb : GdB M b) : W (fun K _ => f_gateref2_OrderOf_1 K a b (.n M)) (fun r => ∃ n : Int, r = [.i n, .n M] ∧ ltI n 0 = ltB M a b) := by
  unfold f_gateref2_OrderOf_1
  simp only [D.list_n]
  unfold GdB at ha hb
  refine W.bind (p := fun r => ∃ c : Int, r = [.i c] ∧ (c < 0 ↔ pM M b < pM M a)) ?_ ?_
  · unfold f_gateref2_sign
    have e : (mapGet .str b M).int - (mapGet .str a M).int = pM M b - pM M a := rfl
    rw [e, wrap_i64 (by omega) (by omega)]
    simp only [D.int_i]
    refine W.cond (fun h => W.ret ⟨-1, rfl, ?_⟩) (fun h => ?_)
    · simp at h; constructor <;> intro _ <;> omega
    refine W.cond (fun h2 => W.ret ⟨1, rfl, ?_⟩) (fun h2 => W.ret ⟨0, rfl, ?_⟩)
    · simp at h h2; constructor <;> intro _ <;> omega
    · simp at h h2; constructor <;> intro _ <;> omega
  rintro _ ⟨c, rfl, c1⟩
  refine W.ret ⟨c, rfl, ?_⟩
  unfold ltB
  rw [Bool.eq_iff_iff]
  simpa using c1
/-! ### Sorting api_Instance -/
theorem w_insA (M L0 : List D) (j0 : Nat) (hj0 : j0 < L0.length) (hL0 : L0.length ≤ 1000) (hg0 : ∀ q, q < L0.length → GdA M (D.nth L0 q)) : W (fun K _ => fixN (b_slices_insertionSortCmpFunc_api_Instance_1 K) K [.i 0, .i (j0 : Int), .n L0, .n M]) (fun r => r = (0, [.n (ins (ltA M) j0 L0), .n M])) := by
  refine W.rounds (S := Nat × List D) (fun q => [.i 0, .i (q.1 : Int), .n q.2, .n M]) (fun q => q.1 < q.2.length ∧ q.2.length ≤ 1000 ∧ (∀ x, x < q.2.length → GdA M (D.nth q.2 x)) ∧ ins (ltA M) q.1 q.2 = ins (ltA M) j0 L0) (fun q => q.1) (fun q hI rc ih => ?_) (j0, L0) ⟨hj0, hL0, hg0, rfl⟩
  obtain ⟨j, L⟩ := q
  obtain ⟨a1, a2, a3, a4⟩ := hI
  simp only at a1 a2 a3 a4
  unfold b_slices_insertionSortCmpFunc_api_Instance_1
  simp only [D.nth_zero, D.nth_succ, D.int_i, D.list_n]
  cases j with
  | zero =>
    refine W.bind (p := fun r => r = (0, [.b false, .n L, .n M])) ?_ ?_
    · unfold b_slices_insertionSortCmpFunc_api_Instance_2
      simp only [D.nth_zero, D.nth_succ, D.int_i, D.list_n]
      refine W.cond (fun _ => ?_) (fun h => by simp at h)
      refine W.cond (fun _ => ?_) (fun h => by simp at h)
      exact W.cond (fun h => by simp at h) (fun _ => W.ret rfl)
    rintro _ rfl
    simp only [D.nth_zero, D.nth_succ, D.bool_b, D.list_n]
    rw [← a4]
    exact W.cond (fun h => by simp at h) (fun _ => W.ret rfl)
  | succ j =>
    have e1 : IntKind.i64.wrap (((j + 1 : Nat) : Int) - 1) = (j : Int) := by rw [wrap_i64 (by omega) (by omega)]; omega
    rw [e1]
    simp only [Int.toNat_natCast]
    refine W.bind (p := fun r => r = (0, [.b (ltA M (D.nth L (j + 1)) (D.nth L j)), .n L, .n M])) ?_ ?_
    · unfold b_slices_insertionSortCmpFunc_api_Instance_2
      simp only [D.nth_zero, D.nth_succ, D.int_i, D.list_n]
      rw [e1]
      simp only [Int.toNat_natCast]
      refine W.cond (fun _ => ?_) (fun h => by simp at h; omega)
      refine W.cond (fun _ => ?_) (fun h => by simp at h; omega)
      refine W.cond (fun _ => ?_) (fun h => by simp at h; omega)
      refine W.bind (w_cmpA M _ _ (a3 _ (by omega)) (a3 _ (by omega))) ?_
      rintro _ ⟨n, rfl, hn⟩
      exact W.ret (by rw [← hn]; rfl)
    rintro _ rfl
    simp only [D.nth_zero, D.nth_succ, D.bool_b, D.list_n]
    simp only [ins] at a4
    refine W.cond (fun h => ?_) (fun h => ?_)
    · rw [h, cond_true] at a4
      refine W.cond (fun _ => ?_) (fun h => by simp at h; omega)
      refine W.cond (fun _ => ?_) (fun h => by simp at h; omega)
      refine W.cond (fun _ => ?_) (fun h => by simp at h; omega)
      have hl := length_setNth (v := D.nth L j) (show j + 1 < L.length by omega)
      refine W.cond (fun _ => ?_) (fun h => by rw [hl] at h; simp at h; omega)
      have hn := swp_nth (L := L) (i := j + 1) (j := j) a1 (by omega)
      have hlen := swp_len (L := L) (i := j + 1) (j := j) a1 (by omega)
      refine ih (j, swp L (j + 1) j) ⟨by simp only; omega, by simp only; omega, fun x hx => ?_, a4⟩ (by simp only; omega)
      simp only at hx ⊢
      rw [hn]
      split
      · exact a3 _ (by omega)
      · split
        · exact a3 _ (by omega)
        · exact a3 _ (by omega)
    · rw [h, cond_false] at a4
      rw [← a4]
      exact W.ret rfl
theorem w_isortA (M L : List D) (hL : L.length ≤ 1000) (hg : ∀ q, q < L.length → GdA M (D.nth L q)) : W (fun K _ => f_slices_insertionSortCmpFunc_api_Instance K (.i 0) (.i (L.length : Int)) (.n L) (.n M)) (fun r => r = [.n (ist (ltA M) L (L.length - 1)), .n M]) := by
  unfold f_slices_insertionSortCmpFunc_api_Instance
  simp only [D.int_i, D.list_n]
  refine W.bind (p := fun r => r = (0, [.n (ist (ltA M) L (L.length - 1)), .n M])) (W.rounds (S := Nat) (fun q => [.i 0, .i (L.length : Int), .i ((q + 1 : Nat) : Int), .n (ist (ltA M) L q), .n M]) (fun q => q = 0 ∨ q < L.length) (fun q => L.length - q) (fun q hI rc ih => ?_) 0 (.inl rfl)) ?_
  · unfold b_slices_insertionSortCmpFunc_api_Instance_0
    simp only [D.nth_zero, D.nth_succ, D.int_i, D.list_n]
    refine W.cond (fun h => ?_) (fun h => ?_)
    · simp at h
      obtain ⟨g1, _, _, _, g5⟩ := ist_spec (ordA M) L q (by omega)
      refine W.bind (w_insA M _ (q + 1) (by omega) (by omega) (fun x hx => ?_)) ?_
      · obtain ⟨q', h1, h2⟩ := g5 x (by omega)
        rw [h2]; exact hg q' h1
      rintro _ rfl
      simp only [D.nth_zero, D.nth_succ, D.list_n]
      have e1 : IntKind.i64.wrap (((q + 1 : Nat) : Int) + 1) = ((q + 1 + 1 : Nat) : Int) := by rw [wrap_i64 (by omega) (by omega)]; omega
      rw [e1]
      exact ih (q + 1) (.inr (by omega)) (by omega)
    · simp at h
      have : q = L.length - 1 := by omega
      rw [this]
      exact W.ret rfl
  rintro _ rfl
  exact W.ret rfl
/-! ### Sorting string -/
theorem w_insB (M L0 : List D) (j0 : Nat) (hj0 : j0 < L0.length) (hL0 : L0.length ≤ 1000) (hg0 : ∀ q, q < L0.length → GdB M (D.nth L0 q)) : W (fun K _ => fixN (b_slices_insertionSortCmpFunc_string_1 K) K [.i 0, .i (j0 : Int), .n L0, .n M]) (fun r => r = (0, [.n (ins (ltB M) j0 L0), .n M])) := by
  refine W.rounds (S := Nat × List D) (fun q => [.i 0, .i (q.1 : Int), .n q.2, .n M]) (fun q => q.1 < q.2.length ∧ q.2.length ≤ 1000 ∧ (∀ x, x < q.2.length → GdB M (D.nth q.2 x)) ∧ ins (ltB M) q.1 q.2 = ins (ltB M) j0 L0) (fun q => q.1) (fun q hI rc ih => ?_) (j0, L0) ⟨hj0, hL0, hg0, rfl⟩
  obtain ⟨j, L⟩ := q
  obtain ⟨a1, a2, a3, a4⟩ := hI
  simp only at a1 a2 a3 a4
  unfold b_slices_insertionSortCmpFunc_string_1
  simp only [D.nth_zero, D.nth_succ, D.int_i, D.list_n]
  cases j with
  | zero =>
    refine W.bind (p := fun r => r = (0, [.b false, .n L, .n M])) ?_ ?_
    · unfold b_slices_insertionSortCmpFunc_string_2
      simp only [D.nth_zero, D.nth_succ, D.int_i, D.list_n]
      refine W.cond (fun _ => ?_) (fun h => by simp at h)
      refine W.cond (fun _ => ?_) (fun h => by simp at h)
      exact W.cond (fun h => by simp at h) (fun _ => W.ret rfl)
    rintro _ rfl
    simp only [D.nth_zero, D.nth_succ, D.bool_b, D.list_n]
    rw [← a4]
    exact W.cond (fun h => by simp at h) (fun _ => W.ret rfl)
  | succ j =>
    have e1 : IntKind.i64.wrap (((j + 1 : Nat) : Int) - 1) = (j : Int) := by rw [wrap_i64 (by omega) (by omega)]; omega
    rw [e1]
    simp only [Int.toNat_natCast]
    refine W.bind (p := fun r => r = (0, [.b (ltB M (D.nth L (j + 1)) (D.nth L j)), .n L, .n M])) ?_ ?_
    · unfold b_slices_insertionSortCmpFunc_string_2
      simp only [D.nth_zero, D.nth_succ, D.int_i, D.list_n]
      rw [e1]
      simp only [Int.toNat_natCast]
      refine W.cond (fun _ => ?_) (fun h => by simp at h; omega)
      refine W.cond (fun _ => ?_) (fun h => by simp at h; omega)
      refine W.cond (fun _ => ?_) (fun h => by simp at h; omega)
      refine W.bind (w_cmpB M _ _ (a3 _ (by omega)) (a3 _ (by omega))) ?_
      rintro _ ⟨n, rfl, hn⟩
      exact W.ret (by rw [← hn]; rfl)
    rintro _ rfl
    simp only [D.nth_zero, D.nth_succ, D.bool_b, D.list_n]
    simp only [ins] at a4
    refine W.cond (fun h => ?_) (fun h => ?_)
    · rw [h, cond_true] at a4
      refine W.cond (fun _ => ?_) (fun h => by simp at h; omega)
      refine W.cond (fun _ => ?_) (fun h => by simp at h; omega)
      refine W.cond (fun _ => ?_) (fun h => by simp at h; omega)
      have hl := length_setNth (v := D.nth L j) (show j + 1 < L.length by omega)
      refine W.cond (fun _ => ?_) (fun h => by rw [hl] at h; simp at h; omega)
      have hn := swp_nth (L := L) (i := j + 1) (j := j) a1 (by omega)
      have hlen := swp_len (L := L) (i := j + 1) (j := j) a1 (by omega)
      refine ih (j, swp L (j + 1) j) ⟨by simp only; omega, by simp only; omega, fun x hx => ?_, a4⟩ (by simp only; omega)
      simp only at hx ⊢
      rw [hn]
      split
      · exact a3 _ (by omega)
      · split
        · exact a3 _ (by omega)
        · exact a3 _ (by omega)
    · rw [h, cond_false] at a4
      rw [← a4]
      exact W.ret rfl
theorem w_isortB (M L : List D) (hL : L.length ≤ 1000) (hg : ∀ q, q < L.length → GdB M (D.nth L q)) : W (fun K _ => f_slices_insertionSortCmpFunc_string K (.i 0) (.i (L.length : Int)) (.n L) (.n M)) (fun r => r = [.n (ist (ltB M) L (L.length - 1)), .n M]) := by
  unfold f_slices_insertionSortCmpFunc_string
  simp only [D.int_i, D.list_n]
  refine W.bind (p := fun r => r = (0, [.n (ist (ltB M) L (L.length - 1)), .n M])) (W.rounds (S := Nat) (fun q => [.i 0, .i (L.length : Int), .i ((q + 1 : Nat) : Int), .n (ist (ltB M) L q), .n M]) (fun q => q = 0 ∨ q < L.length) (fun q => L.length - q) (fun q hI rc ih => ?_) 0 (.inl rfl)) ?_
  · unfold b_slices_insertionSortCmpFunc_string_0
    simp only [D.nth_zero, D.nth_succ, D.int_i, D.list_n]
    refine W.cond (fun h => ?_) (fun h => ?_)
    · simp at h
      obtain ⟨g1, _, _, _, g5⟩ := ist_spec (ordB M) L q (by omega)
      refine W.bind (w_insB M _ (q + 1) (by omega) (by omega) (fun x hx => ?_)) ?_
      · obtain ⟨q', h1, h2⟩ := g5 x (by omega)
        rw [h2]; exact hg q' h1
      rintro _ rfl
      simp only [D.nth_zero, D.nth_succ, D.list_n]
      have e1 : IntKind.i64.wrap (((q + 1 : Nat) : Int) + 1) = ((q + 1 + 1 : Nat) : Int) := by rw [wrap_i64 (by omega) (by omega)]; omega
      rw [e1]
      exact ih (q + 1) (.inr (by omega)) (by omega)
    · simp at h
      have : q = L.length - 1 := by omega
      rw [this]
      exact W.ret rfl
  rintro _ rfl
  exact W.ret rfl
theorem len_small : ∀ n : Nat, n ≤ 10 → ∃ r, ∀ K, f_bits_Len K (.i (IntKind.u64.wrap (n : Int))) = some r
  | 0, _ => ⟨[.i 0], fun K => by kernel_rfl⟩
  | 1, _ => ⟨[.i 1], fun K => by kernel_rfl⟩
  | 2, _ => ⟨[.i 2], fun K => by kernel_rfl⟩
  | 3, _ => ⟨[.i 2], fun K => by kernel_rfl⟩
  | 4, _ => ⟨[.i 3], fun K => by kernel_rfl⟩
  | 5, _ => ⟨[.i 3], fun K => by kernel_rfl⟩
  | 6, _ => ⟨[.i 3], fun K => by kernel_rfl⟩
  | 7, _ => ⟨[.i 3], fun K => by kernel_rfl⟩
  | 8, _ => ⟨[.i 4], fun K => by kernel_rfl⟩
  | 9, _ => ⟨[.i 4], fun K => by kernel_rfl⟩
  | 10, _ => ⟨[.i 4], fun K => by kernel_rfl⟩
  | n + 11, h => by omega
theorem w_SortA (M L : List D) (hL : L.length ≤ 10) : W (fun K _ => f_slices_SortFunc_api_Instance K (.n L) (.n M)) (fun r => r = [.n (ist (ltA M) L (L.length - 1)), .n M]) := by
  obtain ⟨r0, hr0⟩ := len_small L.length hL
  unfold f_slices_SortFunc_api_Instance
  simp only [D.list_n]
  refine W.bind (p := fun r => r = r0) ⟨r0, rfl, 0, fun K _ _ _ => hr0 K⟩ ?_
  rintro _ rfl
  unfold f_slices_pdqsortCmpFunc_api_Instance
  refine W.bind (p := fun r => r = [.n (ist (ltA M) L (L.length - 1)), .n M]) (W.bind (p := fun r => r = (0, [.n (ist (ltA M) L (L.length - 1)), .n M])) (W.loop (W.step ?_)) ?_) ?_
  · unfold b_slices_pdqsortCmpFunc_api_Instance_0
    simp only [D.nth_zero, D.nth_succ, D.int_i, D.list_n]
    have e1 : IntKind.i64.wrap ((L.length : Int) - 0) = (L.length : Int) := by rw [wrap_i64 (by omega) (by omega)]; omega
    rw [e1]
    refine W.cond (fun _ => ?_) (fun h => by simp at h; omega)
    refine W.bind ((w_isortA M L (by omega) (fun _ _ => trivial))) ?_
    rintro _ rfl
    exact W.ret rfl
  · rintro _ rfl
    exact W.ret rfl
  · rintro _ rfl
    exact W.ret rfl
theorem w_SortB (M L : List D) (hL : L.length ≤ 10) (hg : ∀ q, q < L.length → GdB M (D.nth L q)) : W (fun K _ => f_slices_SortStableFunc_string K (.n L) (.n M)) (fun r => r = [.n (ist (ltB M) L (L.length - 1)), .n M]) := by
  unfold f_slices_SortStableFunc_string f_slices_stableCmpFunc_string
  simp only [D.list_n]
  refine W.bind (p := fun r => r = [.n (ist (ltB M) L (L.length - 1)), .n M]) ?_ ?_
  · refine W.bind (p := fun r => r = (0, [.i 0, .n L, .n M])) (W.loop (W.step ?_)) ?_
    · unfold b_slices_stableCmpFunc_string_0
      simp only [D.nth_zero, D.nth_succ, D.int_i, D.list_n]
      exact W.cond (fun h => by simp at h; omega) (fun _ => W.ret rfl)
    rintro _ rfl
    simp only [D.nth_zero, D.nth_succ, D.list_n]
    refine W.bind (w_isortB M L (by omega) hg) ?_
    rintro _ rfl
    simp only [D.nth_zero, D.nth_succ, D.list_n]
    refine W.bind (p := fun r => r = (0, [.n (ist (ltB M) L (L.length - 1)), .n M])) (W.loop (W.step ?_)) ?_
    · unfold b_slices_stableCmpFunc_string_1
      simp only [D.nth_zero, D.nth_succ, D.int_i, D.list_n]
      exact W.cond (fun h => by simp at h; omega) (fun _ => W.ret rfl)
    rintro _ rfl
    exact W.ret rfl
  · rintro _ rfl
    exact W.ret rfl
/-! ### The first of all -/
theorem insD_w {l : List D} (hl : InL l) (h : (D.nth (insD l) 0).int = 0) : RW l := by
  have hl10 := hl.1
  have hg : gtI (l.length : Int) 50 = false := by simp; omega
  unfold insD at h
  rw [hg, cond_false] at h
  rcases scan_cases (errAt (insF l)) (1, []) l.length 0 with ⟨i, r, h1, h2, h3, h4, h5⟩ | ⟨h1, h2⟩
  · exfalso
    unfold insR at h
    rw [h4] at h
    unfold errAt at h3
    cases hc : insF l i != 0 with
    | false => rw [hc] at h3; cases h3
    | true =>
      rw [hc] at h3
      cases h3
      have : insF l i = 0 := h
      simp [this] at hc
  · intro j hj
    have hz := errAt_none_iff (h1 j (Nat.zero_le _) (by omega))
    have hw : wB (D.nth l j) = false := by
      unfold insF at hz
      cases hk : !keyB (idS (D.nth l j)) <;> rw [hk] at hz <;> simp at hz
      cases ho : ordI l j <;> rw [ho] at hz <;> simp at hz
      cases hw : wB (D.nth l j) with
      | false => rfl
      | true => rw [hw] at hz; simp at hz
    unfold wB at hw
    cases h1 : ltI ((D.nth l j).at' 1).int 1 <;> rw [h1] at hw <;> simp at hw
    simp at h1
    omega
def top (key : List UInt8) (l : List D) : List UInt8 := ((fm (ltA (ptM key l)) l (l.length - 1)).at' 0).str
theorem ptM_snoc (key : List UInt8) {l : List D} {j : Nat} (hj : j < l.length) : ptM key (l.take (j + 1)) = stP key (ptM key (l.take j)) (D.nth l j) := by
  unfold ptM
  rw [take_nth hj, List.foldl_append]
  rfl
theorem w_ordered (key : List UInt8) (l : List D) (hl : InL l) (hk : key.length ≤ 1000) : W (fun K _ => f_upstream_ordered K (.n l) (.s key)) (fun r => ∃ R, r = [.n R] ∧ R.length = l.length ∧ (0 < l.length → ((D.nth R 0).at' 0).str = top key l)) := by
  have hl10 := hl.1
  unfold f_upstream_ordered
  simp only [D.list_n]
  refine W.bind (p := fun r => r = (0, [.n (ptM key l)])) (W.rounds (S := Nat) (fun j => [.s key, .n l, .i (l.length : Int), .i (j : Int), .n (ptM key (l.take j))]) (fun j => j ≤ l.length) (fun j => l.length - j) (fun j hI rc ih => ?_) 0 (by simp)) ?_
  · unfold b_upstream_ordered_0
    simp only [D.nth_zero, D.nth_succ, D.int_i, D.str_s, D.list_n, Int.toNat_natCast]
    have e1 : IntKind.i64.wrap ((j : Int) + 1) = ((j + 1 : Nat) : Int) := by rw [wrap_i64 (by omega) (by omega)]; omega
    rw [e1]
    refine W.cond (fun h => ?_) (fun h => ?_)
    · simp at h
      refine W.cond (fun _ => ?_) (fun h => by simp at h; omega)
      obtain ⟨a, w, hx, ha, hx0, hx1⟩ := hl.nth h
      have hid : ((D.nth l j).at' 0).str = idS (D.nth l j) := rfl
      have hlen : (idS (D.nth l j)).length ≤ 1000 := by unfold idS; rw [hx0]; exact ha
      rw [hid]
      refine W.cond (fun _ => ?_) (fun h => by change lim (key.length + 1) = false at h; rw [lim_mk (by omega)] at h; cases h)
      refine W.cond (fun _ => ?_) (fun h => absurd (lim_mk (n := (key ++ [0]).length + (idS (D.nth l j)).length) (by simp; omega)) (by rw [h]; simp))
      refine W.bind (w_Hash _ (by simp; omega)) ?_
      rintro _ rfl
      have ih := ih (j + 1) (by omega) (by omega)
      rw [ptM_snoc key h] at ih
      exact ih
    · simp at h
      have : j = l.length := by omega
      subst this
      rw [List.take_length]
      exact W.ret rfl
  rintro _ rfl
  simp only [D.nth_zero, D.list_n]
  refine W.bind (p := fun r => r = [.n l]) ?_ ?_
  · unfold f_slices_Clone_api_Instance b_slices_Clone_api_Instance_0
    simp only [D.nth_zero, D.list_n]
    refine W.bind (W.cond (p := fun r => r = (0, [.n l])) (fun _ => W.ret rfl) (fun h => absurd (lim_mk (n := 0 + l.length) (by omega)) (by rw [h]; simp))) ?_
    rintro _ rfl
    exact W.ret rfl
  rintro _ rfl
  simp only [D.nth_zero, D.list_n]
  refine W.bind (w_SortA (ptM key l) l hl10) ?_
  rintro _ rfl
  simp only [D.nth_zero, D.list_n]
  refine W.ret ⟨_, rfl, ?_, fun h0 => ?_⟩
  · rcases Nat.eq_zero_or_pos l.length with h0 | h0
    · rw [h0]; exact h0
    · exact (ist_spec (ordA _) l (l.length - 1) (by omega)).1
  · rw [(ist_spec (ordA _) l (l.length - 1) (by omega)).2.2.1]
    rfl
theorem w_OrderOf (key : List UInt8) (l : List D) (hl : InL l) (hinc : Inc idS l) (hw : RW l) (hk : key.length ≤ 1000) : W (fun K _ => f_gateref2_OrderOf K (.n l) (.s key)) (fun r => ∃ R, r = [.n R] ∧ R.length = l.length ∧ (0 < l.length → (D.nth R 0).str = top key l)) := by
  have hl10 := hl.1
  unfold f_gateref2_OrderOf
  simp only [D.list_n]
  refine W.bind (p := fun r => r = (0, [.n (ptM key l), .n (l.map fun x => x.at' 0)])) (W.rounds (S := Nat) (fun j => [.s key, .n l, .i (l.length : Int), .i (j : Int), .n (ptM key (l.take j)), .n ((l.take j).map fun x => x.at' 0)]) (fun j => j ≤ l.length) (fun j => l.length - j) (fun j hI rc ih => ?_) 0 (by simp)) ?_
  · unfold b_gateref2_OrderOf_0
    simp only [D.nth_zero, D.nth_succ, D.int_i, D.list_n, Int.toNat_natCast]
    have e1 : IntKind.i64.wrap ((j : Int) + 1) = ((j + 1 : Nat) : Int) := by rw [wrap_i64 (by omega) (by omega)]; omega
    rw [e1]
    refine W.cond (fun h => ?_) (fun h => ?_)
    · simp at h
      refine W.cond (fun _ => ?_) (fun h => by simp at h; omega)
      obtain ⟨a, w, hx, ha, hx0, hx1⟩ := hl.nth h
      have hid : idS (D.nth l j) = a := by unfold idS; rw [hx0]; rfl
      rw [hx0]
      refine W.bind (w_hashed key a hk ha) ?_
      rintro _ rfl
      simp only [D.nth_zero, D.int_i]
      refine W.cond (fun _ => ?_) (fun h => absurd (lim_mk (n := ((l.take j).map fun x => x.at' 0).length + 1) (by simp; omega)) (by rw [h]; simp))
      have ih := ih (j + 1) (by omega) (by omega)
      rw [ptM_snoc key h, take_nth h, List.map_append, List.map_singleton] at ih
      unfold stP pt at ih
      rw [hid, hx0] at ih
      exact ih
    · simp at h
      have : j = l.length := by omega
      subst this
      rw [List.take_length]
      exact W.ret rfl
  rintro _ rfl
  simp only [D.nth_zero, D.nth_succ, D.list_n]
  refine W.bind (w_SortB (ptM key l) (l.map fun x => x.at' 0) (by simpa using hl10) (fun q hq => ?_)) ?_
  · have hq : q < l.length := by simpa using hq
    rw [nth_map _ hq]
    unfold GdB pM
    rw [ptM_get hinc key hq]
    exact pt_small key _ (hw q hq)
  rintro _ rfl
  simp only [D.nth_zero, D.list_n, List.length_map]
  refine W.ret ⟨_, rfl, ?_, fun h0 => ?_⟩
  · rcases Nat.eq_zero_or_pos l.length with h0 | h0
    · rw [h0]; simpa [ist] using h0
    · have := (ist_spec (ordB (ptM key l)) (l.map fun x => x.at' 0) (l.length - 1) (by simp; omega)).1
      simpa using this
  · rw [(ist_spec (ordB (ptM key l)) (l.map fun x => x.at' 0) (l.length - 1) (by simp; omega)).2.2.1, fm_same hinc _ _ (by omega)]
    rfl
/-! ### Keys that move -/
def KL (keys : List D) : Prop := keys.length ≤ 100 ∧ ∀ x ∈ keys, ∃ s : List UInt8, x = .s s ∧ s.length ≤ 100
theorem KL.nth {keys : List D} {j : Nat} (h : KL keys) (hj : j < keys.length) : ∃ s, D.nth keys j = .s s ∧ s.length ≤ 100 := h.2 _ (nth_mem hj)
def mv (a b keys : List D) : Nat → List D
  | 0 => []
  | i + 1 => mv a b keys i ++ (bif !(top (D.nth keys i).str a == top (D.nth keys i).str b) then [D.nth keys i] else [])
theorem mv_len (a b keys : List D) : ∀ k, (mv a b keys k).length ≤ k
  | 0 => by simp [mv]
  | k + 1 => by
    have := mv_len a b keys k
    simp only [mv]
    cases !(top (D.nth keys k).str a == top (D.nth keys k).str b) <;> simp <;> omega
def kbad (x : D) : Bool := bif (x.str == ([] : List UInt8)) then true else (gtI (x.str.length : Int) 40)
theorem w_keyFault (x : D) : W (fun K _ => f_upstream_keyFault K x) (fun r => r = [.i (bif kbad x then 5 else 0)]) := by
  unfold f_upstream_keyFault
  refine W.cond (fun h => W.ret ?_) (fun h => W.ret ?_)
  · have : kbad x = true := h
    rw [this]; rfl
  · have : kbad x = false := h
    rw [this]; rfl
theorem w_OrderKey (x : D) : W (fun K _ => f_gateref2_OrderKey K x) (fun r => r = [.i (bif kbad x then 5 else 0)]) := by
  unfold f_gateref2_OrderKey
  simp only [p_gateref2_in, D.nth_zero, D.bool_b, D.int_i, in_out]
  have e : (bif ltI (x.str.length : Int) 1 then true else gtI (x.str.length : Int) 40) = kbad x := by
    unfold kbad
    cases hx : x.str with
    | nil => rfl
    | cons c s =>
      have h1 : ltI (((c :: s).length : Nat) : Int) 1 = false := by simp; omega
      have h2 : ((c :: s) == ([] : List UInt8)) = false := by simp
      rw [h1, h2]
  rw [e]
  refine W.cond (fun h => W.ret (by rw [h]; rfl)) (fun h => W.ret (by rw [h]; rfl))
def Ef (a b keys : List D) (ea eb : Int) : Int := bif ea != 0 then ea else bif eb != 0 then eb else bif keys.any kbad then 5 else bif (bif ((a.length : Int) == (0 : Int)) then true else ((b.length : Int) == (0 : Int))) then 8 else 0
theorem nz {n : Int} (h : (n != 0) = true) : (n == 0) = false := by simpa [bne] using h
theorem w_Moved (a b keys : List D) (ha : InL a) (hb : InL b) (hk : KL keys) (ea eb : Int) (hea : insD a = [.i ea]) (heb : insD b = [.i eb]) : W (fun K _ => f_upstream_Moved K (.n a) (.n b) (.n keys)) (fun r => r = [.i (Ef a b keys ea eb), .n (bif Ef a b keys ea eb == 0 then mv a b keys keys.length else [])]) := by
  have hk1 := hk.1
  unfold f_upstream_Moved
  simp only [D.list_n]
  refine W.bind (W.early 2 (fun j => [.n [.n a, .n b], .i (j : Int)]) (fun j => bif ((D.nth [.i ea, .i eb] j).int != 0) then some (0, [D.nth [.i ea, .i eb] j]) else none) (1, []) (fun j hj hp p rc h1 h2 => ?_) (fun rc => ?_)) ?_
  · unfold b_upstream_Moved_0
    simp only [D.nth_zero, D.nth_succ, D.int_i, D.list_n, Int.toNat_natCast]
    refine W.cond (fun _ => ?_) (fun h => by simp at h; omega)
    refine W.cond (fun _ => ?_) (fun h => by simp at h; omega)
    have hc : W (fun K _ => f_upstream_CheckInstances K (D.nth [.n a, .n b] j)) (fun r => r = [D.nth [.i ea, .i eb] j]) := by
      have : j = 0 ∨ j = 1 := by omega
      rcases this with rfl | rfl
      · exact (w_CheckInstances a ha).mono fun r hr => by rw [hr, hea]; rfl
      · exact (w_CheckInstances b hb).mono fun r hr => by rw [hr, heb]; rfl
    refine W.bind hc ?_
    rintro _ rfl
    simp only [D.nth_zero]
    refine W.cond (fun h => W.ret (h1 _ (by rw [h]; rfl))) (fun h => ?_)
    rw [wrap_i64 (by omega) (by omega)]
    exact h2 (by rw [h]; rfl)
  · unfold b_upstream_Moved_0
    simp only [D.nth_zero, D.nth_succ, D.int_i]
    exact W.cond (fun h => by simp at h) (fun _ => W.ret rfl)
  rintro _ rfl
  simp only [scan, D.nth_zero, D.nth_succ, D.int_i]
  unfold Ef
  cases h1 : ea != 0 with
  | true =>
    simp only [cond_true]
    exact W.cond (fun _ => W.ret (by rw [nz h1]; rfl)) (fun h => by simp at h)
  | false =>
  cases h2 : eb != 0 with
  | true =>
    simp only [cond_true, cond_false]
    exact W.cond (fun _ => W.ret (by rw [nz h2]; rfl)) (fun h => by simp at h)
  | false =>
  simp only [cond_false]
  have hia := insD_zero ha (by rw [hea]; simpa using h1)
  have hib := insD_zero hb (by rw [heb]; simpa using h2)
  refine W.cond (fun h => by simp at h) (fun _ => ?_)
  refine W.cond (fun h => by simp at h; omega) (fun _ => ?_)
  refine W.bind (W.early keys.length (fun j => [.n keys, .i keys.length, .i (j : Int)]) (fun j => bif kbad (D.nth keys j) then some (0, [D.i 5]) else none) (1, []) (fun j hj hp p rc g1 g2 => ?_) (fun rc => ?_)) ?_
  · unfold b_upstream_Moved_1
    simp only [D.nth_zero, D.nth_succ, D.int_i, D.list_n, Int.toNat_natCast]
    refine W.cond (fun _ => ?_) (fun h => by simp at h; omega)
    refine W.cond (fun _ => ?_) (fun h => by simp at h; omega)
    refine W.bind (w_keyFault _) ?_
    rintro _ rfl
    simp only [D.nth_zero, D.int_i]
    cases hb : kbad (D.nth keys j) with
    | true => exact W.cond (fun h => W.ret (g1 _ (by rw [hb]; rfl))) (fun h => by simp at h)
    | false =>
      refine W.cond (fun h => by simp at h) (fun h => ?_)
      rw [wrap_i64 (by omega) (by omega)]
      exact g2 (by rw [hb]; rfl)
  · unfold b_upstream_Moved_1
    simp only [D.nth_zero, D.nth_succ, D.int_i]
    exact W.cond (fun h => by simp at h) (fun _ => W.ret rfl)
  rintro _ rfl
  rcases scan_any keys kbad (fun _ => ((0 : Nat), [D.i 5])) (1, []) with ⟨h3, i, hi, h4⟩ | ⟨h3, h4⟩
  · rw [h3, h4]
    exact W.cond (fun _ => W.ret rfl) (fun h => by simp at h)
  rw [h3, h4]
  simp only [cond_false]
  refine W.cond (fun h => by simp at h) (fun _ => ?_)
  refine W.cond (fun h => W.ret (by rw [h]; rfl)) (fun h => ?_)
  rw [h]
  have hne : 0 < a.length ∧ 0 < b.length := by
    cases h5 : ((a.length : Int) == (0 : Int)) <;> rw [h5] at h <;> simp at h
    simp at h5
    constructor
    · rcases Nat.eq_zero_or_pos a.length with h6 | h6
      · exact absurd (List.eq_nil_of_length_eq_zero h6) h5
      · exact h6
    · rcases Nat.eq_zero_or_pos b.length with h6 | h6
      · exact absurd (List.eq_nil_of_length_eq_zero h6) h
      · exact h6
  refine W.bind (p := fun r => r = (0, [.n (mv a b keys keys.length)])) (W.rounds (S := Nat) (fun j => [.n a, .n b, .n keys, .i (keys.length : Int), .i (j : Int), .n (mv a b keys j)]) (fun j => j ≤ keys.length) (fun j => keys.length - j) (fun j hI rc ih => ?_) 0 (by simp)) ?_
  · have hm := mv_len a b keys j
    unfold b_upstream_Moved_2
    simp only [D.nth_zero, D.nth_succ, D.int_i, D.list_n, Int.toNat_natCast]
    have e1 : IntKind.i64.wrap ((j : Int) + 1) = ((j + 1 : Nat) : Int) := by rw [wrap_i64 (by omega) (by omega)]; omega
    rw [e1]
    refine W.cond (fun hj => ?_) (fun hj => ?_)
    · simp at hj
      refine W.cond (fun _ => ?_) (fun h => by simp at h; omega)
      have ih := ih (j + 1) (by omega) (by omega)
      simp only [mv] at ih
      obtain ⟨s, hs, hsl⟩ := hk.nth hj
      rw [hs] at ih ⊢
      refine W.bind (w_ordered s a ha (by omega)) ?_
      rintro _ ⟨R, rfl, hR, hR0⟩
      simp only [D.nth_zero, D.list_n]
      refine W.cond (fun _ => ?_) (fun h => absurd (inB_mk (i := 0) (n := R.length) (by omega) (by omega)) (by rw [h]; simp))
      refine W.bind (w_ordered s b hb (by omega)) ?_
      rintro _ ⟨R', rfl, hR', hR0'⟩
      simp only [D.nth_zero, D.list_n]
      refine W.cond (fun _ => ?_) (fun h => absurd (inB_mk (i := 0) (n := R'.length) (by omega) (by omega)) (by rw [h]; simp))
      rw [hR0 hne.1, hR0' hne.2]
      simp only [D.str_s] at ih
      refine W.cond (fun hb => ?_) (fun hb => ?_)
      · refine W.cond (fun _ => ?_) (fun h => absurd (lim_mk (n := (mv a b keys j).length + 1) (by omega)) (by rw [h]; simp))
        rw [hb] at ih
        exact ih
      · rw [hb] at ih
        simp only [cond_false, List.append_nil] at ih
        exact ih
    · simp at hj
      have : j = keys.length := by omega
      subst this
      exact W.ret rfl
  rintro _ rfl
  exact W.ret rfl
theorem w_MovedOf (a b keys : List D) (ha : InL a) (hb : InL b) (hk : KL keys) (hia : Inc idS a) (hib : Inc idS b) (hwa : RW a) (hwb : RW b) (h0a : 0 < a.length) (h0b : 0 < b.length) : W (fun K _ => f_gateref2_MovedOf K (.n a) (.n b) (.n keys)) (fun r => r = [.n (mv a b keys keys.length)]) := by
  have hk1 := hk.1
  unfold f_gateref2_MovedOf
  simp only [D.list_n]
  refine W.bind (p := fun r => r = (0, [.n (mv a b keys keys.length)])) (W.rounds (S := Nat) (fun j => [.n a, .n b, .n keys, .i (keys.length : Int), .i (j : Int), .n (mv a b keys j)]) (fun j => j ≤ keys.length) (fun j => keys.length - j) (fun j hI rc ih => ?_) 0 (by simp)) ?_
  · have hm := mv_len a b keys j
    unfold b_gateref2_MovedOf_0
    simp only [D.nth_zero, D.nth_succ, D.int_i, D.list_n, Int.toNat_natCast]
    have e1 : IntKind.i64.wrap ((j : Int) + 1) = ((j + 1 : Nat) : Int) := by rw [wrap_i64 (by omega) (by omega)]; omega
    rw [e1]
    refine W.cond (fun hj => ?_) (fun hj => ?_)
    · simp at hj
      refine W.cond (fun _ => ?_) (fun h => by simp at h; omega)
      have ih := ih (j + 1) (by omega) (by omega)
      simp only [mv] at ih
      obtain ⟨s, hs, hsl⟩ := hk.nth hj
      rw [hs] at ih ⊢
      refine W.bind (w_OrderOf s a ha hia hwa (by omega)) ?_
      rintro _ ⟨R, rfl, hR, hR0⟩
      simp only [D.nth_zero, D.list_n]
      refine W.cond (fun _ => ?_) (fun h => absurd (inB_mk (i := 0) (n := R.length) (by omega) (by omega)) (by rw [h]; simp))
      refine W.bind (w_OrderOf s b hb hib hwb (by omega)) ?_
      rintro _ ⟨R', rfl, hR', hR0'⟩
      simp only [D.nth_zero, D.list_n]
      refine W.cond (fun _ => ?_) (fun h => absurd (inB_mk (i := 0) (n := R'.length) (by omega) (by omega)) (by rw [h]; simp))
      rw [hR0 h0a, hR0' h0b]
      simp only [D.str_s] at ih
      refine W.cond (fun hb => ?_) (fun hb => ?_)
      · refine W.cond (fun _ => ?_) (fun h => absurd (lim_mk (n := (mv a b keys j).length + 1) (by omega)) (by rw [h]; simp))
        rw [hb] at ih
        exact ih
      · rw [hb] at ih
        simp only [cond_false, List.append_nil] at ih
        exact ih
    · simp at hj
      have : j = keys.length := by omega
      subst this
      exact W.ret rfl
  rintro _ rfl
  exact W.ret rfl
/-! ### The law -/
theorem w_EqualStr (l : List D) (hl : l.length ≤ 1000) : W (fun K _ => f_slices_Equal_string K (.n l) (.n l)) (fun r => r = [.b true]) := by
  unfold f_slices_Equal_string
  simp only [D.list_n]
  refine W.cond (fun h => by simp at h) (fun _ => ?_)
  refine W.bind (W.early l.length (fun j => [.n l, .n l, .i l.length, .i j]) (fun _ => none) (1, []) (fun j hj hp p rc h1 h2 => ?_) (fun rc => ?_)) ?_
  · unfold b_slices_Equal_string_0
    simp only [D.nth_zero, D.nth_succ, D.list_n, D.int_i, Int.toNat_natCast]
    refine W.cond (fun _ => ?_) (fun h => by simp at h; omega)
    refine W.cond (fun _ => ?_) (fun h => by simp at h; omega)
    refine W.cond (fun _ => ?_) (fun h => by simp at h; omega)
    refine W.cond (fun h => by simp at h) (fun h => ?_)
    rw [wrap_i64 (by omega) (by omega)]
    exact h2 rfl
  · unfold b_slices_Equal_string_0
    simp only [D.nth_zero, D.nth_succ, D.list_n, D.int_i]
    exact W.cond (fun h => by simp at h) (fun _ => W.ret rfl)
  · rintro _ rfl
    rcases scan_cases (fun _ => (none : Option (Nat × List D))) (1, []) l.length 0 with ⟨i, r, h1, h2, h3, _⟩ | ⟨h1, h2⟩
    · cases h3
    · rw [h2]; exact W.ret rfl
theorem errScan_i (F : Nat → Int) (m : Nat) : ∃ n : Int, errD (scan (errAt F) (1, []) m 0) = [.i n] := by
  rcases scan_cases (errAt F) (1, []) m 0 with ⟨i, r, h1, h2, h3, h4, _⟩ | ⟨h1, h2⟩
  · rw [h4]
    unfold errAt at h3
    cases hc : F i != 0 with
    | false => rw [hc] at h3; cases h3
    | true => rw [hc] at h3; cases h3; exact ⟨_, rfl⟩
  · rw [h2]; exact ⟨0, rfl⟩
theorem insD_i (l : List D) : ∃ n : Int, insD l = [.i n] := by
  unfold insD
  cases gtI (l.length : Int) 50 with
  | true => exact ⟨2, rfl⟩
  | false => exact errScan_i _ _
theorem w_keys (c : Int) (s : D) (n : Int) (n0 : 0 ≤ n) (n1 : n ≤ 6) (hs : St c s) (hc : c ≤ 999999990000) : W (fun K _ => fixN (b_gatelaw2_KeysMoved_0 K) K [.i n, .i 0, s, .n []]) (fun r => ∃ s' keys, r = (0, [s', .n keys]) ∧ keys.length ≤ 6 ∧ KL keys ∧ St (c + 10) s') := by
  refine W.rounds (S := Nat × D × List D) (fun q => [.i n, .i (q.1 : Int), q.2.1, .n q.2.2]) (fun q => (q.1 : Int) ≤ n ∧ q.2.2.length = q.1 ∧ (∀ x ∈ q.2.2, ∃ s : List UInt8, x = .s s ∧ s.length ≤ 100) ∧ St (c + q.1) q.2.1) (fun q => n.toNat - q.1) (fun q hI rc ih => ?_) (0, s, []) ⟨by simpa using n0, rfl, by simp, by simpa using hs⟩
  obtain ⟨j, s1, out⟩ := q
  obtain ⟨a1, a2, a3, a4⟩ := hI
  simp only at a1 a2 a3 a4
  unfold b_gatelaw2_KeysMoved_0
  simp only [D.nth_zero, D.nth_succ, D.int_i, D.list_n]
  have e1 : IntKind.i64.wrap ((j : Int) + 1) = ((j + 1 : Nat) : Int) := by rw [wrap_i64 (by omega) (by omega)]; omega
  rw [e1]
  refine W.cond (fun h => ?_) (fun h => ?_)
  · simp at h
    refine W.bind (w_Some _ s1 _ a4 (by omega) (by simp) (by simp)) ?_
    rintro _ ⟨x, s2, t, rfl, hx, h2⟩
    simp only [D.nth_zero, D.nth_succ]
    refine W.cond (fun _ => ?_) (fun h => absurd (lim_mk (n := out.length + 1) (by omega)) (by rw [h]; simp))
    refine ih (j + 1, s2, out ++ [x]) ⟨by simp only; omega, by simp [a2], fun y hy => ?_, h2.le (by simp only; omega)⟩ (by simp only; omega)
    rcases List.mem_append.1 hy with hy | hy
    · exact a3 y hy
    · simp only [List.mem_singleton] at hy
      subst hy
      simp only [List.mem_cons, List.not_mem_nil, or_false] at hx
      rcases hx with rfl | rfl | rfl | rfl | rfl <;> exact ⟨_, rfl, by simp⟩
  · simp at h
    exact W.ret ⟨s1, out, rfl, by omega, ⟨by omega, a3⟩, a4.le (by omega)⟩
theorem pure (zs : List Int) (h : zs.length ≤ maxLen) (hw : ∀ n ∈ zs, (Lit.int .i64 n).wf = true) : ∃ K, f_gatelaw2_KeysMoved K (.n (zs.map D.i)) = some [.b true] := by
  have : W (fun K _ => f_gatelaw2_KeysMoved K (.n (zs.map D.i))) (· = [.b true]) := by
    unfold f_gatelaw2_KeysMoved
    refine W.bind (w_Instances 0 _ ⟨_, 0, rfl, by omega, by omega⟩ (by omega)) ?_
    rintro _ ⟨s1, a, rfl, ha, h1⟩
    simp only [D.nth_zero, D.nth_succ, D.list_n]
    refine W.bind (w_Instances _ s1 h1 (by omega)) ?_
    rintro _ ⟨s2, b, rfl, hb, h2⟩
    simp only [D.nth_zero, D.nth_succ, D.list_n]
    refine W.bind (w_Range _ 0 6 s2 h2 (by omega) (by omega) (by omega)) ?_
    rintro _ ⟨n, s3, rfl, n0, n1, h3⟩
    have n1 := n1 (by omega)
    simp only [D.nth_zero, D.nth_succ]
    refine W.bind (w_keys _ s3 n n0 n1 h3 (by omega)) ?_
    rintro _ ⟨s4, ks, rfl, hk6, hks, h4⟩
    simp only [D.nth_zero, D.nth_succ, D.list_n]
    refine W.bind (w_Flip _ _ s4 h4 (by omega) (by simp)) ?_
    rintro _ ⟨b1, s5, rfl, h5⟩
    simp only [D.nth_zero, D.nth_succ]
    refine W.bind (p := fun r => ∃ keys, r = (0, [.n keys]) ∧ KL keys) ?_ ?_
    · unfold b_gatelaw2_KeysMoved_1
      simp only [D.nth_zero, D.nth_succ, D.bool_b, D.list_n]
      refine W.cond (fun _ => ?_) (fun _ => W.ret ⟨ks, rfl, hks⟩)
      refine W.cond (fun _ => W.ret ⟨_, rfl, by simp; omega, fun y hy => ?_⟩) (fun h => absurd (lim_mk (n := ks.length + 1) (by omega)) (by rw [h]; simp))
      rcases List.mem_append.1 hy with hy | hy
      · exact hks.2 y hy
      · simp only [List.mem_singleton] at hy
        exact ⟨[], hy, by simp⟩
    rintro _ ⟨keys, rfl, hk⟩
    simp only [D.nth_zero, D.nth_succ, D.list_n]
    have hk1 := hk.1
    obtain ⟨ea, hea⟩ := insD_i a
    obtain ⟨eb, heb⟩ := insD_i b
    refine W.bind (w_Moved a b keys ha hb hk ea eb hea heb) ?_
    rintro _ rfl
    refine W.bind (w_InstancesFault a ha) ?_
    rintro _ rfl
    refine W.bind (w_InstancesFault b hb) ?_
    rintro _ rfl
    rw [hea, heb]
    simp only [D.nth_zero, D.nth_succ, D.list_n, D.int_i]
    refine W.bind (w_errs2 _ _) ?_
    rintro _ rfl
    simp only [D.nth_zero]
    generalize hE2 : (bif ea != 0 then ea else eb) = E2
    have hE0 : (bif E2 != 0 then E2 else bif (keys.take 0).any kbad then (5 : Int) else 0) = E2 := by
      cases h1 : E2 != 0 with
      | true => rfl
      | false =>
        have : E2 = 0 := by simpa using h1
        rw [this]; rfl
    refine W.bind (p := fun r => r = (0, [.i (bif E2 != 0 then E2 else bif keys.any kbad then 5 else 0), .n keys])) (W.congr (W.rounds (F := fun K => b_gatelaw2_KeysMoved_2 K) (S := Nat) (fun j => [.i (bif E2 != 0 then E2 else bif (keys.take j).any kbad then 5 else 0), .i (keys.length : Int), .i (j : Int), .n keys]) (fun j => j ≤ keys.length) (fun j => keys.length - j) (fun j hI rc ih => ?_) 0 (by simp)) (fun K n => by rw [hE0]; rfl)) ?_
    · unfold b_gatelaw2_KeysMoved_2
      simp only [D.nth_zero, D.nth_succ, D.int_i, D.list_n, Int.toNat_natCast]
      have e1 : IntKind.i64.wrap ((j : Int) + 1) = ((j + 1 : Nat) : Int) := by rw [wrap_i64 (by omega) (by omega)]; omega
      rw [e1]
      refine W.cond (fun hj => ?_) (fun hj => ?_)
      · simp at hj
        refine W.cond (fun _ => ?_) (fun h => by simp at h; omega)
        refine W.bind (w_OrderKey _) ?_
        rintro _ rfl
        simp only [D.nth_zero]
        refine W.bind (w_errs2 _ _) ?_
        rintro _ rfl
        simp only [D.nth_zero]
        have ih := ih (j + 1) (by omega) (by omega)
        rw [take_nth hj, List.any_append] at ih
        have : (bif (bif E2 != 0 then E2 else bif (keys.take j).any kbad then 5 else 0) != 0 then (bif E2 != 0 then E2 else bif (keys.take j).any kbad then 5 else 0) else bif kbad (D.nth keys j) then 5 else 0) = (bif E2 != 0 then E2 else bif (keys.take j).any kbad || [D.nth keys j].any kbad then 5 else 0) := by
          cases h1 : E2 != 0 with
          | true => simp only [cond_true, h1]
          | false =>
            cases (keys.take j).any kbad with
            | true => simp
            | false => simp
        rw [this]
        exact ih
      · simp at hj
        have : j = keys.length := by omega
        subst this
        rw [List.take_length]
        exact W.ret rfl
    · rintro _ rfl
      simp only [D.nth_zero, D.nth_succ, D.list_n]
      refine W.bind (w_when _ _) ?_
      rintro _ rfl
      simp only [D.nth_zero]
      refine W.bind (w_errs2 _ _) ?_
      rintro _ rfl
      simp only [D.nth_zero, D.int_i]
      have hEf : (bif (bif E2 != 0 then E2 else bif keys.any kbad then 5 else 0) != 0 then (bif E2 != 0 then E2 else bif keys.any kbad then 5 else 0) else bif (bif ((a.length : Int) == (0 : Int)) then true else ((b.length : Int) == (0 : Int))) then 8 else 0) = Ef a b keys ea eb := by
        unfold Ef
        subst hE2
        cases h1 : ea != 0 with
        | true => simp only [cond_true, h1]
        | false =>
          cases h2 : eb != 0 with
          | true => simp only [cond_true, cond_false, h2]
          | false =>
            cases keys.any kbad with
            | true => simp [h2]
            | false => simp [h2]
      rw [hEf]
      cases hz : Ef a b keys ea eb != 0 with
      | true =>
        refine W.cond (fun _ => ?_) (fun h => by simp at h)
        refine W.bind (p := fun r => ∃ y, r = (0, [.b true, y])) ?_ ?_
        · unfold b_gatelaw2_KeysMoved_3
          rw [nz hz]
          simp only [D.nth_zero, D.nth_succ, D.list_n, D.int_i, cond_false]
          refine W.cond (fun _ => ?_) (fun h => by simp at h)
          refine W.bind balanced ?_
          rintro _ rfl
          exact W.ret ⟨_, rfl⟩
        rintro _ ⟨y, rfl⟩
        exact W.ret rfl
      | false =>
        have hz0 : Ef a b keys ea eb = 0 := by simpa using hz
        refine W.cond (fun h => by simp at h) (fun _ => ?_)
        rw [hz0]
        have hq : ea = 0 ∧ eb = 0 ∧ 0 < a.length ∧ 0 < b.length := by
          unfold Ef at hz0
          cases h1 : ea != 0 with
          | true => rw [h1, cond_true] at hz0; rw [hz0] at h1; cases h1
          | false =>
            rw [h1, cond_false] at hz0
            cases h2 : eb != 0 with
            | true => rw [h2, cond_true] at hz0; rw [hz0] at h2; cases h2
            | false =>
              rw [h2, cond_false] at hz0
              cases h3 : keys.any kbad with
              | true => rw [h3] at hz0; cases hz0
              | false =>
                rw [h3, cond_false] at hz0
                refine ⟨by simpa using h1, by simpa using h2, ?_⟩
                cases h4 : ((a.length : Int) == (0 : Int)) with
                | true => rw [h4] at hz0; cases hz0
                | false =>
                  rw [h4, cond_false] at hz0
                  cases h5 : ((b.length : Int) == (0 : Int)) with
                  | true => rw [h5] at hz0; cases hz0
                  | false =>
                    have h4 : (a.length : Int) ≠ 0 := fun e => by rw [e] at h4; cases h4
                    have h5 : (b.length : Int) ≠ 0 := fun e => by rw [e] at h5; cases h5
                    omega
        obtain ⟨rfl, rfl, h0a, h0b⟩ := hq
        have za : (D.nth (insD a) 0).int = 0 := by rw [hea]; rfl
        have zb : (D.nth (insD b) 0).int = 0 := by rw [heb]; rfl
        refine W.cond (fun _ => ?_) (fun h => by simp at h)
        refine W.bind (w_MovedOf a b keys ha hb hk (insD_zero ha za) (insD_zero hb zb) (insD_w ha za) (insD_w hb zb) h0a h0b) ?_
        rintro _ rfl
        simp only [D.nth_zero, D.list_n]
        have hm := mv_len a b keys keys.length
        refine W.bind (w_EqualStr (mv a b keys keys.length) (by omega)) ?_
        rintro _ rfl
        refine W.cond (fun _ => ?_) (fun h => by simp at h)
        refine W.bind balanced ?_
        rintro _ rfl
        exact W.ret rfl
  obtain ⟨K, r, h1, rfl⟩ := this.get
  exact ⟨K, h1⟩
end Go.Proofs.YtkknmomoomjofaaP
