/- The plain law: what the printed functions come to. -/
import Derived.Test.YtmppogdbjklapaaGreatYtIp
import Derived.Test.YtmppogdbjklapaaGreatEvPure
namespace Go.Proofs.YtmppogdbjklapaaGreatP
open Go Go.Ev
set_option linter.unusedVariables false
set_option linter.unusedSimpArgs false
/-! ### The stream of numbers -/
def St (c : Int) (s : D) : Prop := ∃ L at', s = .n [L, .i at'] ∧ 0 ≤ at' ∧ at' ≤ c
theorem St.le {c c' : Int} {s : D} (h : St c s) (hc : c ≤ c') : St c' s := let ⟨L, a, h1, h2, h3⟩ := h; ⟨L, a, h1, h2, by omega⟩
theorem w_Below (x n : D) (hn : n.int ≤ 4611686018427387904) : W (fun K _ => f_gatemake_Below K x n) (fun r => ∃ i, r = [.i i] ∧ 0 ≤ i ∧ (1 ≤ n.int → i < n.int)) := by
  unfold f_gatemake_Below
  refine W.cond (fun h => ?_) (fun h => ?_)
  · simp at h
    exact W.ret ⟨0, rfl, by omega, by omega⟩
  · simp at h
    have h1 := Int.tmod_lt_of_pos x.int (show 0 < n.int by omega)
    have h2 := Int.lt_tmod_of_pos x.int (show 0 < n.int by omega)
    refine W.cond (fun _ => ?_) (fun h' => by simp at h'; omega)
    refine W.cond (fun h' => ?_) (fun h' => ?_)
    · simp at h'
      rw [wrap_i64 (by omega) (by omega)]
      exact W.ret ⟨_, rfl, by omega, fun _ => by omega⟩
    · simp at h'
      exact W.ret ⟨_, rfl, by omega, fun _ => by omega⟩
theorem w_Next (c : Int) (n s : D) (hs : St c s) (hc : c ≤ 1000000000000) (hn : n.int ≤ 4611686018427387904) : W (fun K _ => f_gatemake_Stream_Next K n s) (fun r => ∃ i s', r = [.i i, s'] ∧ 0 ≤ i ∧ (1 ≤ n.int → i < n.int) ∧ St (c + 1) s') := by
  obtain ⟨L, a, rfl, h1, h2⟩ := hs
  unfold f_gatemake_Stream_Next
  simp only [D.at_n, D.nth_zero, D.nth_succ, D.int_i]
  have e1 : IntKind.i64.wrap (a + 1) = a + 1 := wrap_i64 (by omega) (by omega)
  have e2 : IntKind.i64.wrap (a + 1 - 1) = a := by rw [wrap_i64 (by omega) (by omega)]; omega
  simp only [e1, e2]
  have hfin : ∀ i : Int, 0 ≤ i → (1 ≤ n.int → i < n.int) → W (fun _ _ => some [D.i i, D.n [L, D.i (a + 1)]]) (fun r => ∃ i s', r = [.i i, s'] ∧ 0 ≤ i ∧ (1 ≤ n.int → i < n.int) ∧ St (c + 1) s') := fun i h3 h4 => W.ret ⟨i, _, rfl, h3, h4, L, a + 1, rfl, by omega, by omega⟩
  refine W.cond (fun h => ?_) (fun h => ?_)
  · refine W.bind (w_Below _ n hn) ?_
    rintro _ ⟨i, rfl, h3, h4⟩
    exact hfin i h3 h4
  · have hL : 0 < L.list.length := by
      simp only [beq_eq_false_iff_ne, ne_eq] at h
      omega
    refine W.cond (fun _ => ?_) (fun h' => by simp at h'; simp [h'] at hL)
    refine W.cond (fun _ => ?_) (fun h' => by simp at h'; simp [h'] at hL)
    have h5 := Int.tmod_nonneg (L.list.length : Int) h1
    have h6 := Int.tmod_lt_of_pos a (show 0 < (L.list.length : Int) by omega)
    refine W.cond (fun _ => ?_) (fun h' => by simp [inB] at h'; omega)
    refine W.bind (w_Below _ (.i 1073741824) (by simp)) ?_
    rintro _ ⟨i, rfl, _, _⟩
    refine W.bind (w_Below _ n hn) ?_
    rintro _ ⟨j, rfl, h3, h4⟩
    exact hfin j h3 h4
theorem w_Flip (c : Int) (n s : D) (hs : St c s) (hc : c ≤ 1000000000000) (hn : n.int ≤ 4611686018427387904) : W (fun K _ => f_gatemake_Stream_Flip K n s) (fun r => ∃ b s', r = [.b b, s'] ∧ St (c + 1) s') := by
  unfold f_gatemake_Stream_Flip
  refine W.bind (w_Next c n s hs hc hn) ?_
  rintro _ ⟨i, s', rfl, _, _, h⟩
  exact W.ret ⟨_, s', rfl, h⟩
theorem nth_mem : ∀ {l : List D} {j : Nat}, j < l.length → D.nth l j ∈ l
  | a :: l, 0, _ => by simp
  | a :: l, j + 1, h => by simp only [D.nth_succ]; exact List.mem_cons_of_mem _ (nth_mem (by simpa using h))
/-- One of some numbers (or other data). -/
theorem w_Pick (c : Int) (s : D) (l : List D) (hs : St c s) (hc : c ≤ 1000000000000) (hl : l ≠ []) (hl2 : l.length ≤ 1000000) : W (fun K _ => f_gatemake_Stream_Pick K s (.n l)) (fun r => ∃ x s' t, r = [x, s', t] ∧ x ∈ l ∧ St (c + 1) s') := by
  unfold f_gatemake_Stream_Pick
  have : 0 < l.length := List.length_pos_iff.2 hl
  refine W.bind (w_Next c _ s hs hc (by simp; omega)) ?_
  rintro _ ⟨i, s', rfl, h1, h2, h3⟩
  simp only [D.int_i, D.list_n] at h2
  have h2 := h2 (by omega)
  refine W.cond (fun h => ?_) (fun h => absurd (inB_mk h1 h2) (by rw [D.nth_zero, D.int_i, D.list_n] at h; rw [h]; simp))
  exact W.ret ⟨_, s', _, rfl, nth_mem (show i.toNat < l.length by omega), h3⟩
theorem w_Range (c : Int) (lo hi : Int) (s : D) (hs : St c s) (hc : c ≤ 1000000000000) (h1 : 0 ≤ lo) (h2 : hi ≤ 1000000000000) : W (fun K _ => f_gatemake_Stream_Range K (.i lo) (.i hi) s) (fun r => ∃ x s', r = [.i x, s'] ∧ lo ≤ x ∧ (lo ≤ hi → x ≤ hi) ∧ St (c + 1) s') := by
  unfold f_gatemake_Stream_Range
  refine W.cond (fun h => ?_) (fun h => ?_)
  · simp at h
    exact W.ret ⟨lo, s, rfl, by omega, by omega, hs.le (by omega)⟩
  · simp at h
    have e1 : IntKind.i64.wrap (hi - lo) = hi - lo := wrap_i64 (by omega) (by omega)
    have e2 : IntKind.i64.wrap (hi - lo + 1) = hi - lo + 1 := wrap_i64 (by omega) (by omega)
    simp only [D.int_i, e1, e2]
    refine W.bind (w_Next c _ s hs hc (by simp; omega)) ?_
    rintro _ ⟨i, s', rfl, h3, h4, h5⟩
    simp only [D.int_i] at h4
    have h4 := h4 (by omega)
    simp only [D.nth_zero, D.nth_succ, D.int_i]
    rw [wrap_i64 (by omega) (by omega)]
    exact W.ret ⟨_, s', rfl, by omega, fun _ => by omega, h5⟩
theorem w_Odd (c : Int) (lo hi : Int) (s : D) (hs : St c s) (hc : c ≤ 999999999990) (h1 : 0 ≤ lo) (h0 : lo ≤ hi) (h2 : hi ≤ 1000000000000) : W (fun K _ => f_gatemake_Stream_Odd K (.i lo) (.i hi) s) (fun r => ∃ x s', r = [.i x, s'] ∧ -2000000000000 ≤ x ∧ x ≤ 2000000000000 ∧ St (c + 2) s') := by
  unfold f_gatemake_Stream_Odd
  refine W.bind (w_Flip c _ s hs (by omega) (by simp)) ?_
  rintro _ ⟨b, s', rfl, h3⟩
  simp only [D.nth_zero, D.nth_succ, D.bool_b]
  have e1 : IntKind.i64.wrap (lo - 1) = lo - 1 := wrap_i64 (by omega) (by omega)
  have e2 : IntKind.i64.wrap (hi + 1) = hi + 1 := wrap_i64 (by omega) (by omega)
  simp only [D.int_i, e1, e2]
  refine W.cond (fun _ => ?_) (fun _ => ?_)
  · refine W.bind (w_Pick (c + 1) s' _ h3 (by omega) (by simp) (by simp)) ?_
    rintro _ ⟨x, s2, t, rfl, hx, h4⟩
    simp only [List.mem_cons, List.not_mem_nil, or_false] at hx
    rcases hx with rfl | rfl | rfl | rfl | rfl | rfl <;> exact W.ret ⟨_, s2, rfl, by omega, by omega, h4.le (by omega)⟩
  · refine W.bind (w_Range (c + 1) lo hi s' h3 (by omega) h1 h2) ?_
    rintro _ ⟨x, s2, rfl, h4, h5, h6⟩
    exact W.ret ⟨x, s2, rfl, by omega, by have := h5 h0; omega, h6.le (by omega)⟩
/-! ### Keys -/
def smallC (c : UInt8) : Bool := bif leI 97 c.toNat then leI c.toNat 122 else false
def digitC (c : UInt8) : Bool := bif leI 48 c.toNat then leI c.toNat 57 else false
def restC (c : UInt8) : Bool := smallC c || (digitC c || (((c.toNat : Int) == 45) || ((c.toNat : Int) == 95)))
def smallL : List UInt8 := [97, 98, 99, 100, 101, 102, 103, 104, 105, 106, 107, 108, 109, 110, 111, 112, 113, 114, 115, 116, 117, 118, 119, 120, 121, 122]
def restL : List UInt8 := [97, 98, 99, 100, 101, 102, 103, 104, 105, 106, 107, 108, 109, 110, 111, 112, 113, 114, 115, 116, 117, 118, 119, 120, 121, 122, 48, 49, 50, 51, 52, 53, 54, 55, 56, 57, 45, 95]
def keyB (s : List UInt8) : Bool := (leI 1 s.length && leI s.length 40) && ((s.take 1).all smallC && s.all restC)
theorem small_cls (c : UInt8) : (!ltI (Lib.indexByte smallL c) 0) = smallC c := by
  have := all256 (p := fun c => (!ltI (Lib.indexByte smallL c) 0) == smallC c) (by kernel_rfl) c
  simpa using this
theorem rest_cls (c : UInt8) : (!ltI (Lib.indexByte restL c) 0) = restC c := by
  have := all256 (p := fun c => (!ltI (Lib.indexByte restL c) 0) == restC c) (by kernel_rfl) c
  simpa using this
theorem w_only (s l : List UInt8) (hs : s.length ≤ 1000000000000) : W (fun K _ => f_gateref2_only K (.s s) (.s l)) (fun r => r = [.b (s.all fun c => !ltI (Lib.indexByte l c) 0)]) := by
  unfold f_gateref2_only
  refine W.bind (W.early s.length (fun j => [.s s, .s l, .i s.length, .i j]) (fun j => bif !ltI (Lib.indexByte l (s.getD j 0)) 0 then none else some (0, [.b false])) (1, []) (fun j hj hp p rc h1 h2 => ?_) (fun rc => ?_)) ?_
  · unfold b_gateref2_only_0
    simp only [D.nth_zero, D.nth_succ, D.str_s, D.int_i, Int.toNat_natCast]
    refine W.cond (fun _ => ?_) (fun h => by simp at h; omega)
    refine W.cond (fun _ => ?_) (fun h => by simp at h; omega)
    simp only [p_strings_IndexByte, p_stringslite_IndexByte, p_bytealg_IndexByteString, D.nth_zero, D.int_i, D.str_s, byteAt_getD, toUInt8_byte]
    refine W.cond (fun h => W.ret (h1 _ (by rw [h]; rfl))) (fun h => ?_)
    rw [wrap_i64 (by omega) (by omega)]
    exact h2 (by rw [h]; rfl)
  · unfold b_gateref2_only_0
    simp only [D.nth_zero, D.nth_succ, D.str_s, D.int_i]
    exact W.cond (fun h => by simp at h) (fun _ => W.ret rfl)
  · rintro _ rfl
    rw [scan_all s (fun c => !ltI (Lib.indexByte l c) 0)]
    cases s.all fun c => !ltI (Lib.indexByte l c) 0 with
    | true => exact W.ret rfl
    | false => exact W.ret rfl
theorem w_Key (s : List UInt8) (hs : s.length ≤ 1000000000000) : W (fun K _ => f_gateref2_Key K (.s s)) (fun r => r = [.b (keyB s)]) := by
  unfold f_gateref2_Key
  simp only [p_gateref2_in, D.nth_zero, D.bool_b, D.int_i, D.str_s]
  refine W.cond (fun _ => ?_) (fun h => ?_)
  · refine W.cond (fun h => ?_) (fun h => W.ret ?_)
    · have h0 : (leI 1 s.length && leI s.length 40) = true := by cases h1 : leI 1 (s.length : Int) <;> cases h2 : leI (s.length : Int) 40 <;> simp_all
      refine W.bind (w_only (s.take 1) smallL (by rw [List.length_take]; omega)) ?_
      rintro _ rfl
      simp only [small_cls, D.nth_zero, D.bool_b]
      refine W.cond (fun h1 => ?_) (fun h1 => W.ret ?_)
      · refine W.bind (w_only s restL hs) ?_
        rintro _ rfl
        simp only [rest_cls, D.nth_zero, D.bool_b]
        exact W.ret (by simp only [keyB, h0, h1, Bool.true_and])
      · simp only [keyB, h0, h1, Bool.true_and, Bool.false_and]
    · have h0 : (leI 1 s.length && leI s.length 40) = false := by cases h1 : leI 1 (s.length : Int) <;> cases h2 : leI (s.length : Int) 40 <;> simp_all
      simp only [keyB, h0, Bool.false_and]
  · cases h1 : leI 1 (s.length : Int) <;> cases h2 : leI (s.length : Int) 40 <;> simp_all
    omega
def badK (s : List UInt8) (j : Nat) : Bool := !(bif smallC (s.getD j 0) then true else (bif gtI j 0 then restC (s.getD j 0) else false))
theorem keyB_scan (s : List UInt8) (h : ∀ j, j < s.length → badK s j = false) : keyB s = (!(s == []) && leI s.length 40) := by
  cases s with
  | nil => rfl
  | cons a t =>
    have h0 := h 0 (by simp)
    have ha : smallC a = true := by
      simp only [badK, List.getD_cons_zero] at h0
      cases hc : smallC a with
      | true => rfl
      | false => rw [hc] at h0; simp [gtI] at h0
    have hall : (a :: t).all restC = true := by
      rw [all_getD]
      intro j hj
      have := h j hj
      simp only [badK] at this
      cases hc : smallC ((a :: t).getD j 0) with
      | true => simp only [restC, hc, Bool.true_or]
      | false =>
        rw [hc] at this
        cases hg : gtI (j : Int) 0 with
        | false => rw [hg] at this; simp at this
        | true => rw [hg] at this; simpa using this
    have h1 : leI 1 ((a :: t).length : Int) = true := by simp; omega
    have h2 : (a :: t).take 1 = [a] := rfl
    have h3 : ((a :: t) == []) = false := rfl
    simp only [keyB, hall, h1, h2, h3, List.all_cons, List.all_nil, ha, Bool.true_and, Bool.and_true, Bool.not_false]
theorem keyB_bad (s : List UInt8) (j : Nat) (hj : j < s.length) (h : badK s j = true) : keyB s = false := by
  cases s with
  | nil => simp at hj
  | cons a t =>
    cases j with
    | zero =>
      simp only [badK, List.getD_cons_zero] at h
      cases hc : smallC a with
      | true => rw [hc] at h; simp at h
      | false => simp [keyB, hc]
    | succ j =>
      have hr : restC ((a :: t).getD (j + 1) 0) = false := by
        simp only [badK] at h
        have hg : gtI ((j + 1 : Nat) : Int) 0 = true := by simp
        rw [hg] at h
        cases hc : smallC ((a :: t).getD (j + 1) 0) with
        | true => rw [hc] at h; simp at h
        | false => rw [hc] at h; simpa using h
      have : (a :: t).all restC = false := by
        rw [← Bool.not_eq_true, all_getD]
        intro hall
        rw [hall (j + 1) hj] at hr
        cases hr
      simp only [keyB, this, Bool.and_false]
theorem w_IsKey (s : List UInt8) (hs : s.length ≤ 1000000000000) : W (fun K _ => f_kit_IsKey K (.s s)) (fun r => r = [.b (keyB s)]) := by
  unfold f_kit_IsKey
  refine W.bind (W.early s.length (fun j => [.s s, .i j]) (fun j => bif badK s j then some (0, [.b false]) else none) (1, []) (fun j hj hp p rc h1 h2 => ?_) (fun rc => ?_)) ?_
  · unfold b_kit_IsKey_0
    simp only [D.nth_zero, D.nth_succ, D.str_s, D.int_i, Int.toNat_natCast, byteAt_getD]
    refine W.cond (fun _ => ?_) (fun h => by simp at h; omega)
    refine W.cond (fun _ => ?_) (fun h => by simp at h; omega)
    have e : (!(bif (bif (geI ((s.getD j 0).toNat : Int) 97) then (leI ((s.getD j 0).toNat : Int) 122) else false) then true else (bif (gtI (j : Int) 0) then (bif (bif (bif (geI ((s.getD j 0).toNat : Int) 48) then (leI ((s.getD j 0).toNat : Int) 57) else false) then true else (((s.getD j 0).toNat : Int) == (45 : Int))) then true else (((s.getD j 0).toNat : Int) == (95 : Int))) else false))) = badK s j := by
      simp only [badK, restC, smallC, digitC, geI, leI, gtI]
      generalize ((s.getD j 0).toNat : Int) = x
      generalize (j : Int) = y
      cases hd1 : decide (x ≥ 97) <;> cases hd2 : decide (x ≤ 122) <;> cases hd3 : decide (x ≥ 48) <;> cases hd4 : decide (x ≤ 57) <;> cases hd5 : decide (y > 0) <;> cases hd6 : x == 45 <;> cases hd7 : x == 95 <;> simp_all
    rw [e]
    refine W.cond (fun h => W.ret (h1 _ (by rw [h]; rfl))) (fun h => ?_)
    rw [wrap_i64 (by omega) (by omega)]
    exact h2 (by rw [h]; rfl)
  · unfold b_kit_IsKey_0
    simp only [D.nth_zero, D.nth_succ, D.str_s, D.int_i]
    exact W.cond (fun h => by simp at h) (fun _ => W.ret rfl)
  · rintro _ rfl
    rcases scan_cases (fun j => bif badK s j then some (0, [D.b false]) else none) ((1, []) : Nat × List D) s.length 0 with ⟨i, r, h1, h2, h3, h4, h5⟩ | ⟨h1, h2⟩
    · rw [h4]
      cases hb : badK s i with
      | false => rw [hb] at h3; simp at h3
      | true =>
        rw [hb] at h3
        simp only [cond_true, Option.some.injEq] at h3
        subst h3
        exact W.ret (by rw [keyB_bad s i (by omega) hb]; rfl)
    · rw [h2]
      refine W.ret ?_
      rw [keyB_scan s fun j hj => ?_]
      · simp only [D.str_s]
        cases h3 : s == [] <;> rfl
      · have := h1 j (Nat.zero_le _) (by omega)
        cases hb : badK s j with
        | false => rfl
        | true => rw [hb] at this; simp at this
/-- One of some strings (or other data). -/
theorem w_Some (c : Int) (s : D) (l : List D) (hs : St c s) (hc : c ≤ 1000000000000) (hl : l ≠ []) (hl2 : l.length ≤ 1000000) : W (fun K _ => f_gatemake_Stream_Some K s (.n l)) (fun r => ∃ x s' t, r = [x, s', t] ∧ x ∈ l ∧ St (c + 1) s') := by
  unfold f_gatemake_Stream_Some
  have : 0 < l.length := List.length_pos_iff.2 hl
  refine W.bind (w_Next c _ s hs hc (by simp; omega)) ?_
  rintro _ ⟨i, s', rfl, h1, h2, h3⟩
  simp only [D.int_i, D.list_n] at h2
  have h2 := h2 (by omega)
  refine W.cond (fun h => ?_) (fun h => absurd (inB_mk h1 h2) (by rw [D.nth_zero, D.int_i, D.list_n] at h; rw [h]; simp))
  exact W.ret ⟨_, s', _, rfl, nth_mem (show i.toNat < l.length by omega), h3⟩
/-! ### Instances -/
def In (x : D) : Prop := ∃ a w, x = .n [.s a, .i w] ∧ a.length ≤ 1000
def InL (l : List D) : Prop := l.length ≤ 10 ∧ ∀ x ∈ l, In x
theorem InL.nth {l : List D} {j : Nat} (h : InL l) (hj : j < l.length) : ∃ a w, D.nth l j = .n [.s a, .i w] ∧ a.length ≤ 1000 ∧ (D.nth l j).at' 0 = .s a ∧ (D.nth l j).at' 1 = .i w := by
  obtain ⟨a, w, h1, h2⟩ := h.2 _ (nth_mem hj)
  exact ⟨a, w, h1, h2, by rw [h1]; rfl, by rw [h1]; rfl⟩
def idS (x : D) : List UInt8 := (x.at' 0).str
def ordI (l : List D) (j : Nat) : Bool := bif gtI (j : Int) 0 then (Op.bytesLess (idS (D.nth l j)) (idS (D.nth l (j - 1))) || (idS (D.nth l j) == idS (D.nth l (j - 1)))) else false
def wB (x : D) : Bool := bif ltI (x.at' 1).int 1 then true else gtI (x.at' 1).int 100
def insF (l : List D) (j : Nat) : Int := bif !keyB (idS (D.nth l j)) then 5 else bif ordI l j then 7 else bif wB (D.nth l j) then 1 else 0
def errAt (F : Nat → Int) (j : Nat) : Option (Nat × List D) := bif F j != 0 then some (0, [.i (F j)]) else none
def insR (l : List D) : Nat × List D := scan (errAt (insF l)) (1, []) l.length 0
def errD (r : Nat × List D) : List D := bif r.1.beq 0 then [D.nth r.2 0] else [.i 0]
def insD (l : List D) : List D := bif gtI (l.length : Int) 50 then [.i 2] else errD (insR l)
theorem errAt_some {F : Nat → Int} {j : Nat} {n : Int} (h : F j = n) (hn : n ≠ 0) : errAt F j = some (0, [.i n]) := by
  have : (n != 0) = true := by simpa using hn
  simp only [errAt, h, this, cond_true]
theorem errAt_none {F : Nat → Int} {j : Nat} (h : F j = 0) : errAt F j = none := by simp only [errAt, h]; rfl
theorem errAt_none_iff {F : Nat → Int} {j : Nat} (h : errAt F j = none) : F j = 0 := by
  unfold errAt at h
  cases h1 : F j != 0 with
  | true => rw [h1] at h; cases h
  | false => simpa using h1
theorem keyB_ne {s : List UInt8} (h : keyB s = true) : s ≠ [] := by
  rintro rfl
  simp [keyB, leI] at h
theorem w_CheckInstances (l : List D) (hl : InL l) : W (fun K _ => f_upstream_CheckInstances K (.n l)) (fun r => r = insD l) := by
  have hl10 := hl.1
  unfold f_upstream_CheckInstances insD
  simp only [D.list_n]
  refine W.cond (fun h => W.ret (by rw [h]; rfl)) (fun h => ?_)
  rw [h, cond_false]
  refine W.bind (W.early l.length (fun j => [.n l, .n l, .i l.length, .i j]) (errAt (insF l)) (1, []) (fun j hj hp p rc g1 g2 => ?_) (fun rc => ?_)) ?_
  · unfold b_upstream_CheckInstances_0
    simp only [D.nth_zero, D.nth_succ, D.int_i, D.list_n, Int.toNat_natCast]
    obtain ⟨a, w, hx, ha, h0, h1⟩ := hl.nth hj
    have hid : idS (D.nth l j) = a := by unfold idS; rw [h0]; rfl
    refine W.cond (fun _ => ?_) (fun h => by simp at h; omega)
    refine W.cond (fun _ => ?_) (fun h => by simp at h; omega)
    rw [h0]
    refine W.bind (w_IsKey a (by omega)) ?_
    rintro _ rfl
    simp only [D.nth_zero, D.bool_b, D.str_s]
    refine W.cond (fun hk => W.ret (g1 _ ?_)) (fun hk => ?_)
    · exact errAt_some (by simp only [insF, hid, hk, cond_true]) (by omega)
    have hw : IntKind.i64.wrap ((j : Int) - 1) = (j : Int) - 1 := wrap_i64 (by omega) (by omega)
    have hn : ((j : Int) - 1).toNat = j - 1 := by omega
    rw [hw, hn]
    have hord : (bif gtI (j : Int) 0 then (Op.bytesLess a ((D.nth l (j - 1)).at' 0).str || (a == ((D.nth l (j - 1)).at' 0).str)) else false) = ordI l j := by unfold ordI; rw [hid]; rfl
    rw [hord]
    refine W.cond (fun _ => ?_) (fun h => by simp at h; omega)
    refine W.cond (fun ho => W.ret (g1 _ ?_)) (fun ho => ?_)
    · exact errAt_some (by simp only [insF, hid, hk, ho, cond_true, cond_false]) (by omega)
    simp only [p_kit_Outside, D.nth_zero, D.bool_b, D.int_i]
    refine W.cond (fun hb => W.ret (g1 _ ?_)) (fun hb => ?_)
    · have : wB (D.nth l j) = true := hb
      exact errAt_some (by simp only [insF, hid, hk, ho, this, cond_true, cond_false]) (by omega)
    · have : wB (D.nth l j) = false := hb
      rw [wrap_i64 (x := (j : Int) + 1) (by omega) (by omega)]
      exact g2 (errAt_none (by simp only [insF, hid, hk, ho, this, cond_false]))
  · unfold b_upstream_CheckInstances_0
    simp only [D.nth_zero, D.nth_succ, D.int_i]
    exact W.cond (fun h => by simp at h) (fun _ => W.ret rfl)
  · rintro _ rfl
    show W (fun _ _ => bif (insR l).1.beq 0 then some [D.nth (insR l).2 0] else some [.i 0]) _
    unfold errD
    exact W.cond (fun h => W.ret (by rw [h]; rfl)) (fun h => W.ret (by rw [h]; rfl))
theorem w_InstancesFault (l : List D) (hl : InL l) : W (fun K _ => f_gateref2_InstancesFault K (.n l)) (fun r => r = insD l) := by
  have hl10 := hl.1
  unfold f_gateref2_InstancesFault insD
  simp only [D.list_n]
  refine W.cond (fun h => W.ret (by rw [h]; rfl)) (fun h => ?_)
  rw [h, cond_false]
  refine W.bind (W.early l.length (fun j => [bif j.beq 0 then .s [] else (D.nth l (j - 1)).at' 0, .n l, .i l.length, .i j]) (errAt (insF l)) (1, []) (fun j hj hp p rc g1 g2 => ?_) (fun rc => ?_)) ?_
  · unfold b_gateref2_InstancesFault_0
    simp only [D.nth_zero, D.nth_succ, D.int_i, D.list_n, Int.toNat_natCast]
    obtain ⟨a, w, hx, ha, h0, h1⟩ := hl.nth hj
    have hid : idS (D.nth l j) = a := by unfold idS; rw [h0]; rfl
    refine W.cond (fun _ => ?_) (fun h => by simp at h; omega)
    refine W.cond (fun _ => ?_) (fun h => by simp at h; omega)
    rw [h0]
    refine W.bind (w_Key a (by omega)) ?_
    rintro _ rfl
    simp only [D.nth_zero, D.bool_b, D.str_s]
    refine W.cond (fun hk => W.ret (g1 _ ?_)) (fun hk => ?_)
    · exact errAt_some (by simp only [insF, hid, hk, cond_true]) (by omega)
    have hkey : keyB a = true := by simpa using hk
    have hord : (Op.bytesLess a (bif j.beq 0 then D.s [] else (D.nth l (j - 1)).at' 0).str || (a == (bif j.beq 0 then D.s [] else (D.nth l (j - 1)).at' 0).str)) = ordI l j := by
      unfold ordI
      rw [hid]
      cases j with
      | zero =>
        have : (a == ([] : List UInt8)) = false := by simpa using keyB_ne hkey
        simp [less_nil, this]
      | succ j =>
        have hg : gtI ((j + 1 : Nat) : Int) 0 = true := by simp
        rw [hg]
        rfl
    rw [hord]
    refine W.cond (fun ho => W.ret (g1 _ ?_)) (fun ho => ?_)
    · exact errAt_some (by simp only [insF, hid, hk, ho, cond_true, cond_false]) (by omega)
    simp only [p_gateref2_in, D.nth_zero, D.bool_b, D.int_i, in_out]
    refine W.cond (fun hb => W.ret (g1 _ ?_)) (fun hb => ?_)
    · have : wB (D.nth l j) = true := hb
      exact errAt_some (by simp only [insF, hid, hk, ho, this, cond_true, cond_false]) (by omega)
    · have : wB (D.nth l j) = false := hb
      rw [wrap_i64 (x := (j : Int) + 1) (by omega) (by omega)]
      have h2 := g2 (errAt_none (by simp only [insF, hid, hk, ho, this, cond_false]))
      simp only [Nat.beq, Nat.add_sub_cancel, cond_false, h0] at h2
      exact h2
  · unfold b_gateref2_InstancesFault_0
    simp only [D.nth_zero, D.nth_succ, D.int_i]
    exact W.cond (fun h => by simp at h) (fun _ => W.ret rfl)
  · rintro _ rfl
    show W (fun _ _ => bif (insR l).1.beq 0 then some [D.nth (insR l).2 0] else some [.i 0]) _
    unfold errD
    exact W.cond (fun h => W.ret (by rw [h]; rfl)) (fun h => W.ret (by rw [h]; rfl))
/-- Right instances stand in the order of their keys. -/
theorem insD_zero {l : List D} (hl : InL l) (h : (D.nth (insD l) 0).int = 0) : Inc idS l := by
  have hl10 := hl.1
  have hg : gtI (l.length : Int) 50 = false := by simp; omega
  unfold insD at h
  rw [hg, cond_false] at h
  rcases scan_cases (errAt (insF l)) (1, []) l.length 0 with ⟨i, r, h1, h2, h3, h4, h5⟩ | ⟨h1, h2⟩
  · exfalso
    unfold insR at h
    rw [h4] at h
    unfold errAt at h3
    cases hc : insF l i != 0 with
    | false => rw [hc] at h3; cases h3
    | true =>
      rw [hc] at h3
      cases h3
      have : insF l i = 0 := h
      simp [this] at hc
  · intro j hj0 hj
    have hz := errAt_none_iff (h1 j (Nat.zero_le _) (by omega))
    have ho : ordI l j = false := by
      unfold insF at hz
      cases hk : !keyB (idS (D.nth l j)) <;> rw [hk] at hz <;> simp at hz
      cases ho : ordI l j with
      | false => rfl
      | true => rw [ho] at hz; simp at hz
    unfold ordI at ho
    have hg : gtI (j : Int) 0 = true := by simp; omega
    rw [hg, cond_true, Bool.or_eq_false_iff] at ho
    exact less_total ho.1 (by simpa using ho.2)
theorem any_inc {l : List D} (h : Inc idS l) {i : Nat} {key : List UInt8} (hi : i ≤ l.length) (h1 : ∀ p, p < i → Op.bytesLess (idS (D.nth l p)) key = true) (h2 : ∀ p, i ≤ p → p < l.length → Op.bytesLess (idS (D.nth l p)) key = false) :
    (l.any fun x => idS x == key) = (decide (i < l.length) && (idS (D.nth l i) == key)) := by
  rw [Bool.eq_iff_iff, any_nth]
  simp only [Bool.and_eq_true, decide_eq_true_eq, beq_iff_eq]
  constructor
  · rintro ⟨j, hj, he⟩
    have hij : i ≤ j := by
      rcases Nat.lt_or_ge j i with h3 | h3
      · have := h1 j h3
        rw [he, less_irrefl] at this
        cases this
      · exact h3
    rcases Nat.lt_or_eq_of_le hij with h3 | h3
    · have := h.lt h3 hj
      rw [he, h2 i (Nat.le_refl _) (by omega)] at this
      cases this
    · subst h3; exact ⟨hj, he⟩
  · rintro ⟨hj, he⟩
    exact ⟨i, hj, he⟩
/-! ### Instances that are drawn -/
theorem In.set0 {x : D} (h : In x) {a : List UInt8} (ha : a.length ≤ 1000) : In (.n (D.setNth x.list 0 (.s a))) := by
  obtain ⟨b, w, rfl, _⟩ := h
  exact ⟨a, w, rfl, ha⟩
theorem In.set1 {x : D} (h : In x) {w : Int} : In (.n (D.setNth x.list 1 (.i w))) := by
  obtain ⟨b, w', rfl, hb⟩ := h
  exact ⟨b, w, rfl, hb⟩
theorem InL.set {l : List D} {j : Nat} {x : D} (h : InL l) (hj : j < l.length) (hx : In x) : InL (D.setNth l j x) := by
  rw [setNth_eq _ hj]
  refine ⟨by simpa using h.1, fun y hy => ?_⟩
  rcases List.mem_or_eq_of_mem_set hy with hy | hy
  · exact h.2 y hy
  · subst hy; exact hx
theorem w_RightInstances (c : Int) (s : D) (hs : St c s) (hc : c ≤ 999999999900) : W (fun K _ => f_gatemake_Stream_RightInstances K s) (fun r => ∃ s' l, r = [s', .n l] ∧ InL l ∧ 0 < l.length ∧ St (c + 10) s') := by
  unfold f_gatemake_Stream_RightInstances
  generalize hT : ([D.s [105, 97], D.s [105, 98], D.s [105, 99], D.s [105, 100]] : List D) = T
  have hTl : T.length = 4 := by rw [← hT]; rfl
  have hTm : ∀ j, j < 4 → ∃ a : List UInt8, D.nth T j = .s a ∧ a.length ≤ 1000 ∧ (j = 3 → a = [105, 100]) := fun j hj => by
    rw [← hT]
    have : j = 0 ∨ j = 1 ∨ j = 2 ∨ j = 3 := by omega
    rcases this with rfl | rfl | rfl | rfl
    · exact ⟨_, rfl, by simp, fun h => by omega⟩
    · exact ⟨_, rfl, by simp, fun h => by omega⟩
    · exact ⟨_, rfl, by simp, fun h => by omega⟩
    · exact ⟨_, rfl, by simp, fun _ => rfl⟩
  refine W.bind (p := fun r => ∃ s' l t, r = (0, [s', t, .n l]) ∧ InL l ∧ 0 < l.length ∧ St (c + 10) s') (W.rounds (S := Nat × D × List D) (fun q => [.i 4, .i (q.1 : Int), q.2.1, .n T, .n q.2.2]) (fun q => q.1 ≤ 4 ∧ q.2.2.length ≤ q.1 ∧ (∀ x ∈ q.2.2, In x) ∧ (q.1 = 4 → 0 < q.2.2.length) ∧ St (c + 2 * q.1) q.2.1) (fun q => 4 - q.1) (fun q hI rc ih => ?_) (0, s, []) ⟨by simp, by simp, by simp, by simp, by simpa using hs⟩) ?_
  · obtain ⟨j, s2, out⟩ := q
    obtain ⟨a1, a2, a3, a4, a5⟩ := hI
    simp only at a1 a2 a3 a4 a5
    unfold b_gatemake_Stream_RightInstances_0
    simp only [D.nth_zero, D.nth_succ, D.int_i, D.list_n, Int.toNat_natCast]
    refine W.cond (fun h => ?_) (fun h => ?_)
    · simp at h
      have hj : j < 4 := by omega
      refine W.cond (fun _ => ?_) (fun h => by simp at h; omega)
      obtain ⟨a, ha, hal, ha3⟩ := hTm j hj
      rw [ha]
      have e1 : IntKind.i64.wrap ((j : Int) + 1) = ((j + 1 : Nat) : Int) := by rw [wrap_i64 (by omega) (by omega)]; omega
      refine W.bind (p := fun r => ∃ b s3, r = (0, [.b b, s3, .n out]) ∧ (j = 3 → out = [] → b = true) ∧ St (c + 2 * j + 1) s3) ?_ ?_
      · unfold b_gatemake_Stream_RightInstances_1
        simp only [D.nth_zero, D.nth_succ, D.list_n, D.str_s]
        refine W.cond (fun hc1 => ?_) (fun _ => W.ret ⟨true, s2, rfl, fun _ _ => rfl, a5.le (by omega)⟩)
        refine W.bind (w_Flip _ _ s2 a5 (by omega) (by simp)) ?_
        rintro _ ⟨b, s3, rfl, h3⟩
        refine W.ret ⟨!b, s3, rfl, fun hj3 ho => ?_, h3⟩
        subst ho
        rw [ha3 hj3] at hc1
        simp at hc1
      rintro _ ⟨b, s3, rfl, hb, h3⟩
      simp only [D.nth_zero, D.nth_succ, D.bool_b, D.list_n]
      refine W.cond (fun _ => ?_) (fun hbf => ?_)
      · refine W.bind (w_Pick _ s3 _ h3 (by omega) (by simp) (by simp)) ?_
        rintro _ ⟨x, s4, t, rfl, hx, h4⟩
        simp only [D.nth_zero, D.nth_succ]
        refine W.cond (fun _ => ?_) (fun h => absurd (lim_mk (n := out.length + 1) (by omega)) (by rw [h]; simp))
        have hx' : ∃ w : Int, x = .i w := by
          simp only [List.mem_cons, List.not_mem_nil, or_false] at hx
          rcases hx with rfl | rfl | rfl | rfl | rfl <;> exact ⟨_, rfl⟩
        obtain ⟨w, rfl⟩ := hx'
        rw [e1]
        refine ih (j + 1, s4, out ++ [.n [.s a, .i w]]) ⟨by simp only; omega, by simp; omega, fun y hy => ?_, fun _ => by simp, h4.le (by simp only; omega)⟩ (by simp only; omega)
        rcases List.mem_append.1 hy with hy | hy
        · exact a3 y hy
        · simp at hy; subst hy; exact ⟨a, w, rfl, hal⟩
      · rw [e1]
        refine ih (j + 1, s3, out) ⟨by simp only; omega, by simp only; omega, a3, fun h4 => ?_, h3.le (by simp only; omega)⟩ (by simp only; omega)
        simp only at h4 ⊢
        rcases Nat.eq_zero_or_pos out.length with h5 | h5
        · have := hb (by omega) (List.eq_nil_of_length_eq_zero h5)
          rw [this] at hbf
          cases hbf
        · exact h5
    · simp at h
      have : j = 4 := by omega
      subst this
      exact W.ret ⟨s2, out, _, rfl, ⟨by omega, a3⟩, a4 rfl, a5.le (by omega)⟩
  · rintro _ ⟨s2, l, t, rfl, h1, h2, h3⟩
    exact W.ret ⟨s2, l, rfl, h1, h2, h3⟩
theorem w_Instances (c : Int) (s : D) (hs : St c s) (hc : c ≤ 999999999800) : W (fun K _ => f_gatemake_Stream_Instances K s) (fun r => ∃ s' l, r = [s', .n l] ∧ InL l ∧ St (c + 20) s') := by
  unfold f_gatemake_Stream_Instances
  refine W.bind (w_RightInstances c s hs (by omega)) ?_
  rintro _ ⟨s1, l, rfl, hl, hl0, h1⟩
  have hl10 := hl.1
  simp only [D.nth_zero, D.nth_succ, D.list_n]
  refine W.bind (w_Flip _ _ s1 h1 (by omega) (by simp)) ?_
  rintro _ ⟨b, s2, rfl, h2⟩
  simp only [D.nth_zero, D.nth_succ, D.bool_b]
  refine W.cond (fun _ => ?_) (fun _ => ?_)
  · refine W.bind (w_Next _ _ s2 h2 (by omega) (by simp; omega)) ?_
    rintro _ ⟨i, s3, rfl, i0, i1, h3⟩
    simp only [D.int_i] at i1
    have i1 := i1 (by omega)
    obtain ⟨j, rfl⟩ : ∃ j : Nat, i = (j : Int) := ⟨i.toNat, by omega⟩
    have hj : j < l.length := by omega
    simp only [D.nth_zero, D.nth_succ, D.int_i, Int.toNat_natCast]
    refine W.cond (fun _ => ?_) (fun h => by simp at h; omega)
    obtain ⟨a, w, hx, ha, hx0, hx1⟩ := hl.nth hj
    rw [hx0]
    refine W.bind (w_Some _ s3 _ h3 (by omega) (by simp) (by simp)) ?_
    rintro _ ⟨y, s4, t, rfl, hy, h4⟩
    have hy' : ∃ b : List UInt8, y = .s b ∧ b.length ≤ 1000 := by
      simp only [List.mem_cons, List.not_mem_nil, or_false] at hy
      rcases hy with rfl | rfl | rfl | rfl
      · exact ⟨_, rfl, ha⟩
      all_goals exact ⟨_, rfl, by simp⟩
    obtain ⟨b', rfl, hb'⟩ := hy'
    refine W.bind (w_Odd _ 1 100 s4 h4 (by omega) (by omega) (by omega) (by omega)) ?_
    rintro _ ⟨w', s5, rfl, _, _, h5⟩
    simp only [D.nth_zero, D.nth_succ]
    refine W.bind (w_Flip _ _ s5 h5 (by omega) (by simp)) ?_
    rintro _ ⟨b2, s6, rfl, h6⟩
    simp only [D.nth_zero, D.nth_succ, D.bool_b]
    refine W.cond (fun _ => W.ret ⟨s6, [], rfl, ⟨by simp, by simp⟩, h6.le (by omega)⟩) (fun _ => W.ret ⟨s6, _, rfl, ?_, h6.le (by omega)⟩)
    have g1 : In (.n (D.setNth (D.nth l j).list 0 (.s b'))) := (hl.2 _ (nth_mem hj)).set0 hb'
    have g2 := hl.set hj g1
    have hlen : (D.setNth l j (.n (D.setNth (D.nth l j).list 0 (.s b')))).length = l.length := length_setNth hj
    refine g2.set (by omega) ?_
    rw [at_set_same]
    exact g1.set1
  · refine W.bind (w_Flip _ _ s2 h2 (by omega) (by simp)) ?_
    rintro _ ⟨b2, s6, rfl, h6⟩
    simp only [D.nth_zero, D.nth_succ, D.bool_b]
    exact W.cond (fun _ => W.ret ⟨s6, [], rfl, ⟨by simp, by simp⟩, h6.le (by omega)⟩) (fun _ => W.ret ⟨s6, l, rfl, hl, h6.le (by omega)⟩)
/-! ### Where an instance is -/
theorem w_place (l : List D) (key : List UInt8) (hl : InL l) (h : Inc idS l) : W (fun K _ => f_upstream_place K (.n l) (.s key)) (fun r => ∃ i : Nat, r = [.i (i : Int), .b (l.any fun x => idS x == key)] ∧ ((l.any fun x => idS x == key) = true → i < l.length ∧ idS (D.nth l i) = key)) := by
  have hl10 := hl.1
  unfold f_upstream_place f_slices_BinarySearchFunc_string
  simp only [D.list_n]
  refine W.bind (p := fun r => ∃ i : Nat, r = [.i (i : Int), .b (l.any fun x => idS x == key)] ∧ ((l.any fun x => idS x == key) = true → i < l.length ∧ idS (D.nth l i) = key)) (W.bind (W.bsearch (F := fun K => b_slices_BinarySearchFunc_string_0 K) l.length (fun i j => [.n l, .s key, .i (i : Int), .i (j : Int)]) (fun p => Op.bytesLess (idS (D.nth l p)) key) (fun i => (0, [.i (i : Int)])) (fun i j hij hj p rc g1 g2 => ?_) (fun i hi rc => ?_) (fun a b hab hb hlt => less_trans (h.lt hab hb) hlt)) ?_) ?_
  · unfold b_slices_BinarySearchFunc_string_0
    simp only [D.nth_zero, D.nth_succ, D.int_i, D.list_n]
    rw [half_mid i j (by omega)]
    simp only [Int.toNat_natCast, p_upstream_place_1, p_strings_Compare, p_bytealg_CompareString, p_bytealg_abigen_runtime_cmpstring, D.nth_zero, D.int_i, D.str_s]
    have hc := cmp_spec (idS (D.nth l ((i + j) / 2))) key
    have hin : inB (((i + j) / 2 : Nat) : Int) l.length = true := inB_mk (by omega) (by omega)
    refine W.cond (fun _ => ?_) (fun h => by simp at h; omega)
    refine W.cond (fun _ => ?_) (fun h => by rw [hin] at h; cases h)
    refine W.cond (fun hq => ?_) (fun hq => ?_)
    · have e1 : IntKind.i64.wrap ((((i + j) / 2 : Nat) : Int) + 1) = (((i + j) / 2 + 1 : Nat) : Int) := by rw [wrap_i64 (by omega) (by omega)]; omega
      rw [e1]
      exact g1 (hc.1.1 (by simpa [idS] using hq))
    · refine g2 ?_
      rw [← Bool.not_eq_true]
      intro h3
      have := hc.1.2 h3
      simp only [ltI_f] at hq
      have hq : 0 ≤ Lib.compareBytes (idS (D.nth l ((i + j) / 2))) key := hq
      omega
  · unfold b_slices_BinarySearchFunc_string_0
    simp only [D.nth_zero, D.nth_succ, D.int_i]
    exact W.cond (fun h => by simp at h) (fun _ => W.ret rfl)
  · rintro _ ⟨i, rfl, hi, h1, h2⟩
    have ha := any_inc h hi h1 h2
    simp only [D.nth_zero, D.int_i, Int.toNat_natCast, p_upstream_place_1, p_strings_Compare, p_bytealg_CompareString, p_bytealg_abigen_runtime_cmpstring, D.str_s]
    refine W.cond (fun _ => ?_) (fun h => by simp at h; omega)
    refine W.cond (fun hlt => W.ret ⟨i, ?_, fun ht => ?_⟩) (fun hlt => W.ret ⟨i, ?_, fun ht => ?_⟩)
    · simp at hlt
      have hc := (cmp_spec (idS (D.nth l i)) key).2.1
      rw [ha]
      have : decide (i < l.length) = true := by simpa using hlt
      rw [this, Bool.true_and]
      have e : (Lib.compareBytes ((D.nth l i).at' 0).str key == 0) = (idS (D.nth l i) == key) := by
        rw [Bool.eq_iff_iff]
        simp only [beq_iff_eq]
        exact hc
      rw [e]
    · rw [ha] at ht
      simpa using ht
    · simp at hlt
      rw [ha]
      have : decide (i < l.length) = false := by simp; omega
      rw [this]
      rfl
    · rw [ha] at ht
      simpa using ht
  · rintro _ ⟨i, rfl, h1⟩
    exact W.ret ⟨i, rfl, h1⟩
theorem w_InstanceAt (l : List D) (key : List UInt8) (hl : InL l) : W (fun K _ => f_gateref2_InstanceAt K (.n l) (.s key)) (fun r => ∃ i, r = [.i i] ∧ ltI i 0 = !(l.any fun x => idS x == key)) := by
  have hl10 := hl.1
  unfold f_gateref2_InstanceAt f_slices_IndexFunc_api_Instance
  simp only [D.list_n]
  refine W.bind (p := fun r => ∃ i, r = [.i i] ∧ ltI i 0 = !(l.any fun x => idS x == key)) (W.bind (W.early l.length (fun j => [.n l, .s key, .i l.length, .i j]) (fun j => bif (fun x => idS x == key) (D.nth l j) then some (0, [.i (j : Int)]) else none) (1, []) (fun j hj hp p rc h1 h2 => ?_) (fun rc => ?_)) ?_) ?_
  · unfold b_slices_IndexFunc_api_Instance_0
    simp only [D.nth_zero, D.nth_succ, D.list_n, D.int_i, Int.toNat_natCast, p_gateref2_InstanceAt_1, D.bool_b, D.str_s]
    refine W.cond (fun _ => ?_) (fun h => by simp at h; omega)
    refine W.cond (fun _ => ?_) (fun h => by simp at h; omega)
    refine W.cond (fun h => W.ret (h1 _ ?_)) (fun h => ?_)
    · have : (idS (D.nth l j) == key) = true := h
      simp only [this, cond_true]
    · have : (idS (D.nth l j) == key) = false := h
      rw [wrap_i64 (by omega) (by omega)]
      exact h2 (by simp only [this, cond_false])
  · unfold b_slices_IndexFunc_api_Instance_0
    simp only [D.nth_zero, D.nth_succ, D.list_n, D.int_i]
    exact W.cond (fun h => by simp at h) (fun _ => W.ret rfl)
  · rintro _ rfl
    rcases scan_any l (fun x => idS x == key) (fun j => (0, [D.i (j : Int)])) (1, []) with ⟨ha, i, hi, h⟩ | ⟨ha, h⟩
    · rw [h, ha]
      refine W.ret ⟨(i : Int), rfl, ?_⟩
      simp
    · rw [h, ha]
      exact W.ret ⟨-1, rfl, by simp⟩
  · rintro _ ⟨i, rfl, h1⟩
    exact W.ret ⟨i, rfl, h1⟩
/-! ### Which error -/
theorem w_when (b : Bool) (e : Int) : W (fun K _ => f_gatelaw2_when K (.b b) (.i e)) (fun r => r = [.i (bif b then e else 0)]) := by
  unfold f_gatelaw2_when
  cases b with
  | true => exact W.ret rfl
  | false => exact W.ret rfl
theorem w_errs2 (x y : Int) : W (fun K _ => f_gatelaw2_errs K (.n [.i x, .i y])) (fun r => r = [.i (bif x != 0 then x else y)]) := by
  unfold f_gatelaw2_errs
  refine W.bind (W.early 2 (fun j => [.n [.i x, .i y], .i 2, .i (j : Int)]) (fun j => bif ((D.nth [.i x, .i y] j).int != 0) then some (0, [D.nth [.i x, .i y] j]) else none) (1, []) (fun j hj hp p rc h1 h2 => ?_) (fun rc => ?_)) ?_
  · unfold b_gatelaw2_errs_0
    simp only [D.nth_zero, D.nth_succ, D.int_i, D.list_n, Int.toNat_natCast]
    refine W.cond (fun _ => ?_) (fun h => by simp at h; omega)
    refine W.cond (fun _ => ?_) (fun h => by simp at h; omega)
    refine W.cond (fun h => W.ret (h1 _ (by rw [h]; rfl))) (fun h => ?_)
    rw [wrap_i64 (by omega) (by omega)]
    exact h2 (by rw [h]; rfl)
  · unfold b_gatelaw2_errs_0
    simp only [D.nth_zero, D.nth_succ, D.int_i]
    exact W.cond (fun h => by simp at h) (fun _ => W.ret rfl)
  · rintro _ rfl
    simp only [scan, D.nth_zero, D.nth_succ, D.int_i]
    cases h1 : x != 0 with
    | true => exact W.ret (by simp)
    | false =>
      cases h2 : y != 0 with
      | true => exact W.ret (by simp)
      | false =>
        have : y = 0 := by simpa using h2
        subst this
        exact W.ret (by simp)
theorem balanced : W (fun K _ => f_gatelaw2_balanced K) (· = [.b true]) :=
  ⟨_, rfl, 20, fun K _ hK _ => by obtain ⟨m, rfl⟩ : ∃ m, K = m + 20 := ⟨K - 20, by omega⟩; kernel_rfl⟩
/-! ### The sum of bytes -/
def hstep (h : Int) (c : UInt8) : Int := IntKind.u64.wrap ((bitsI .xor .u64 h (IntKind.u64.wrap (c.toNat : Int))) * (1099511628211 : Int))
def hsh (s : List UInt8) : Int := s.foldl hstep 14695981039346656037
def mix (h : Int) : Int := bitsI .xor .u64 h (shr .u64 h 32)
theorem wrap_u64_nn (x : Int) : 0 ≤ IntKind.u64.wrap x := by
  unfold IntKind.wrap
  simp only [IntKind.signed, Bool.false_and, Bool.false_eq_true, if_false]
  exact Int.emod_nonneg _ (by decide)
theorem mix_nn (h : Int) : 0 ≤ mix h := wrap_u64_nn _
theorem take_get {s : List UInt8} {j : Nat} (h : j < s.length) : s.take (j + 1) = s.take j ++ [s.getD j 0] := by
  rw [List.take_succ_eq_append_getElem h, List.getD_eq_getElem?_getD, List.getElem?_eq_getElem h]
  rfl
theorem hstep_at (s : List UInt8) (j : Nat) (hj : j < s.length) : (s.take (j + 1)).foldl hstep 14695981039346656037 = IntKind.u64.wrap ((bitsI .xor .u64 ((s.take j).foldl hstep 14695981039346656037) (IntKind.u64.wrap (byteAt s j))) * (1099511628211 : Int)) := by
  rw [take_get hj, List.foldl_append, byteAt_getD]
  rfl
theorem w_Hash (s : List UInt8) (hs : s.length ≤ 1000000) : W (fun K _ => f_upstream_Hash K (.s s)) (fun r => r = [.i (mix (hsh s))]) := by
  unfold f_upstream_Hash
  refine W.bind (p := fun r => r = (0, [.i (hsh s)])) (W.rounds (S := Nat) (fun j => [.s s, .i ((s.take j).foldl hstep 14695981039346656037), .i (s.length : Int), .i (j : Int)]) (fun j => j ≤ s.length) (fun j => s.length - j) (fun j hI rc ih => ?_) 0 (by simp)) ?_
  · unfold b_upstream_Hash_0
    simp only [D.nth_zero, D.nth_succ, D.int_i, D.str_s, Int.toNat_natCast]
    have e1 : IntKind.i64.wrap ((j : Int) + 1) = ((j + 1 : Nat) : Int) := by rw [wrap_i64 (by omega) (by omega)]; omega
    rw [e1]
    refine W.cond (fun h => ?_) (fun h => ?_)
    · simp at h
      refine W.cond (fun _ => ?_) (fun h => by simp at h; omega)
      rw [← hstep_at s j h]
      exact ih (j + 1) (by omega) (by omega)
    · simp at h
      have : j = s.length := by omega
      subst this
      rw [List.take_length]
      exact W.ret rfl
  rintro _ rfl
  exact W.ret rfl
theorem w_hashed (a b : List UInt8) (ha : a.length ≤ 1000) (hb : b.length ≤ 1000) : W (fun K _ => f_gateref2_hashed K (.n [.s a, .s b])) (fun r => r = [.i (hsh ((a ++ [0]) ++ b))]) := by
  have hj : Lib.join ([D.s a, D.s b].map D.str) (D.s [0]).str = (a ++ [0]) ++ b := by
    simp [Lib.join, List.intercalate, List.intersperse]
  unfold f_gateref2_hashed f_strings_Join joinF
  simp only [D.list_n]
  rw [hj]
  refine W.bind (W.cond (p := fun r => r = [.s ((a ++ [0]) ++ b)]) (fun _ => W.ret rfl) (fun h => ?_)) ?_
  · exfalso
    have h1 : Nat.ble ((a ++ [0]) ++ b).length 140737488355328 = true := Nat.ble_eq_true_of_le (by simp; omega)
    rw [h1] at h
    exact absurd h (by simp [Nat.ble])
  rintro _ rfl
  simp only [D.nth_zero, D.str_s]
  have hs : ((a ++ [0]) ++ b).length ≤ 1000000 := by simp; omega
  generalize (a ++ [0]) ++ b = s at hs
  refine W.bind (p := fun r => r = (0, [.i (hsh s)])) (W.rounds (S := Nat) (fun j => [.i ((s.take j).foldl hstep 14695981039346656037), .s s, .i (s.length : Int), .i (j : Int)]) (fun j => j ≤ s.length) (fun j => s.length - j) (fun j hI rc ih => ?_) 0 (by simp)) ?_
  · unfold b_gateref2_hashed_0
    simp only [D.nth_zero, D.nth_succ, D.int_i, D.str_s, Int.toNat_natCast]
    have e1 : IntKind.i64.wrap ((j : Int) + 1) = ((j + 1 : Nat) : Int) := by rw [wrap_i64 (by omega) (by omega)]; omega
    rw [e1]
    refine W.cond (fun h => ?_) (fun h => ?_)
    · simp at h
      refine W.cond (fun _ => ?_) (fun h => by simp at h; omega)
      rw [← hstep_at s j h]
      exact ih (j + 1) (by omega) (by omega)
    · simp at h
      have : j = s.length := by omega
      subst this
      rw [List.take_length]
      exact W.ret rfl
  rintro _ rfl
  exact W.ret rfl
/-! ### Points -/
def pt (key : List UInt8) (x : D) : Int := IntKind.i64.wrap ((IntKind.i64.wrap (Int.tmod (mix (hsh ((key ++ [0]) ++ idS x))) (1000003 : Int))) * (x.at' 1).int)
def RW (l : List D) : Prop := ∀ j, j < l.length → 1 ≤ ((D.nth l j).at' 1).int ∧ ((D.nth l j).at' 1).int ≤ 100
theorem pt_small (key : List UInt8) (x : D) (h : 1 ≤ (x.at' 1).int ∧ (x.at' 1).int ≤ 100) : 0 ≤ pt key x ∧ pt key x ≤ 1000000000 := by
  have h1 := mix_nn (hsh ((key ++ [0]) ++ idS x))
  unfold pt
  generalize mix (hsh ((key ++ [0]) ++ idS x)) = m at h1
  have h2 := Int.tmod_nonneg 1000003 h1
  have h3 := Int.tmod_lt_of_pos m (show (0 : Int) < 1000003 by omega)
  rw [wrap_i64 (x := Int.tmod m 1000003) (by omega) (by omega)]
  generalize Int.tmod m 1000003 = q at h2 h3
  generalize (x.at' 1).int = w at h
  have h4 : q * w ≤ 1000003 * 100 := Int.mul_le_mul (by omega) h.2 (by omega) (by omega)
  have h5 : 0 ≤ q * w := Int.mul_nonneg h2 (by omega)
  rw [wrap_i64 (by omega) (by omega)]
  omega
theorem get_setM (k k' v : D) : ∀ (m : List D), mapGet .str k (mapSet .str k' v m) = bif k.str == k'.str then v else mapGet .str k m
  | [] => by
    simp only [mapSet, mapGet, eqK, D.at_n, D.nth_zero, D.nth_succ]
  | x :: m => by
    have ih := get_setM k k' v m
    simp only [mapSet, eqK]
    cases h1 : k'.str == (x.at' 0).str with
    | true =>
      have e1 : k'.str = (x.at' 0).str := by simpa using h1
      simp only [cond_true, mapGet, eqK, D.at_n, D.nth_zero, D.nth_succ]
      rw [e1]
      cases k.str == (x.at' 0).str <;> rfl
    | false =>
      simp only [cond_false, mapGet, eqK]
      cases h2 : k.str == (x.at' 0).str with
      | true =>
        have e2 : k.str = (x.at' 0).str := by simpa using h2
        have : (k.str == k'.str) = false := by
          rw [e2]
          have : k'.str ≠ (x.at' 0).str := by simpa using h1
          simpa using fun h => this h.symm
        rw [this]
        rfl
      | false => exact ih
theorem inc_ne {l : List D} (h : Inc idS l) {i j : Nat} (hi : i < l.length) (hj : j < l.length) (hne : i ≠ j) : idS (D.nth l i) ≠ idS (D.nth l j) := fun e => by
  rcases Nat.lt_or_gt_of_ne hne with h1 | h1
  · have := h.lt h1 hj
    rw [e, less_irrefl] at this
    cases this
  · have := h.lt h1 hi
    rw [e, less_irrefl] at this
    cases this
def stP (key : List UInt8) (m : List D) (x : D) : List D := mapSet .str (x.at' 0) (.i (pt key x)) m
def ptM (key : List UInt8) (l : List D) : List D := l.foldl (stP key) []
theorem ptM_at {l : List D} (h : Inc idS l) (key : List UInt8) : ∀ i, i ≤ l.length → ∀ j, j < i → (mapGet .str ((D.nth l j).at' 0) (ptM key (l.take i))).int = pt key (D.nth l j)
  | 0, _, j, hj => by omega
  | i + 1, hi, j, hj => by
    unfold ptM
    rw [take_nth (by omega), List.foldl_append, List.foldl_cons, List.foldl_nil]
    unfold stP
    rw [get_setM]
    by_cases he : j = i
    · subst he
      simp
    · have hne := inc_ne h (show j < l.length by omega) (show i < l.length by omega) he
      have : (((D.nth l j).at' 0).str == ((D.nth l i).at' 0).str) = false := by simpa [idS] using hne
      rw [this, cond_false]
      exact ptM_at h key i (by omega) j (by omega)
theorem ptM_get {l : List D} (h : Inc idS l) (key : List UInt8) {j : Nat} (hj : j < l.length) : (mapGet .str ((D.nth l j).at' 0) (ptM key l)).int = pt key (D.nth l j) := by
  have := ptM_at h key l.length (Nat.le_refl _) j hj
  rwa [List.take_length] at this
/-! ### Sorting by insertion: what comes first -/
def swp (L : List D) (i j : Nat) : List D := D.setNth (D.setNth L i (D.nth L j)) j (D.nth L i)
theorem swp_len {L : List D} {i j : Nat} (hi : i < L.length) (hj : j < L.length) : (swp L i j).length = L.length := by
  unfold swp
  rw [length_setNth (by rw [length_setNth hi]; exact hj), length_setNth hi]
theorem swp_nth {L : List D} {i j : Nat} (hi : i < L.length) (hj : j < L.length) (q : Nat) : D.nth (swp L i j) q = if q = j then D.nth L i else if q = i then D.nth L j else D.nth L q := by
  unfold swp
  rw [nth_setNth (by rw [length_setNth hi]; exact hj), nth_setNth hi]
section
variable (lt : D → D → Bool)
def ins : Nat → List D → List D
  | 0, L => L
  | j + 1, L => bif lt (D.nth L (j + 1)) (D.nth L j) then ins j (swp L (j + 1) j) else L
def ist (L : List D) : Nat → List D
  | 0 => L
  | i + 1 => ins lt (i + 1) (ist L i)
def fm (L : List D) : Nat → D
  | 0 => D.nth L 0
  | i + 1 => bif lt (D.nth L (i + 1)) (fm L i) then D.nth L (i + 1) else fm L i
end
theorem ins_spec (lt : D → D → Bool) : ∀ (j : Nat) (L : List D), j < L.length → ∃ p, p ≤ j ∧ (ins lt j L).length = L.length ∧ (∀ q, q < p → D.nth (ins lt j L) q = D.nth L q) ∧ D.nth (ins lt j L) p = D.nth L j ∧
    (∀ q, p ≤ q → q < j → D.nth (ins lt j L) (q + 1) = D.nth L q ∧ lt (D.nth L j) (D.nth L q) = true) ∧ (∀ q, j < q → D.nth (ins lt j L) q = D.nth L q) ∧ (0 < p → lt (D.nth L j) (D.nth L (p - 1)) = false)
  | 0, L, hj => ⟨0, Nat.le_refl _, rfl, fun q h => by omega, rfl, fun q _ h => by omega, fun q _ => rfl, fun h => by omega⟩
  | j + 1, L, hj => by
    simp only [ins]
    cases hc : lt (D.nth L (j + 1)) (D.nth L j) with
    | false => exact ⟨j + 1, Nat.le_refl _, rfl, fun q _ => rfl, rfl, fun q _ h => by omega, fun q _ => rfl, fun _ => hc⟩
    | true =>
      have hlen := swp_len (L := L) (i := j + 1) (j := j) hj (by omega)
      have hn := swp_nth (L := L) (i := j + 1) (j := j) hj (by omega)
      obtain ⟨p, h1, h2, h3, h4, h5, h6, h7⟩ := ins_spec lt j (swp L (j + 1) j) (by omega)
      have hx : D.nth (swp L (j + 1) j) j = D.nth L (j + 1) := by rw [hn, if_pos rfl]
      simp only [cond_true]
      refine ⟨p, by omega, by omega, fun q hq => ?_, ?_, fun q hq1 hq2 => ?_, fun q hq => ?_, fun hp => ?_⟩
      · rw [h3 q hq, hn, if_neg (by omega), if_neg (by omega)]
      · rw [h4, hx]
      · by_cases he : q = j
        · subst he
          rw [h6 (q + 1) (by omega), hn, if_neg (by omega), if_pos rfl]
          exact ⟨rfl, hc⟩
        · obtain ⟨e1, e2⟩ := h5 q hq1 (by omega)
          rw [hx, hn, if_neg he, if_neg (by omega)] at e2
          rw [e1, hn, if_neg he, if_neg (by omega)]
          exact ⟨rfl, e2⟩
      · rw [h6 q (by omega), hn, if_neg (by omega), if_neg (by omega)]
      · have := h7 hp
        rw [hx, hn, if_neg (by omega), if_neg (by omega)] at this
        exact this
structure Ord (lt : D → D → Bool) : Prop where
  asym : ∀ x y, lt x y = true → lt y x = false
  trans : ∀ x y z, lt x y = false → lt y z = false → lt x z = false
  irr : ∀ x, lt x x = false
theorem ist_spec {lt : D → D → Bool} (ho : Ord lt) (L : List D) : ∀ i, i < L.length → (ist lt L i).length = L.length ∧ (∀ a b, a < b → b ≤ i → lt (D.nth (ist lt L i) b) (D.nth (ist lt L i) a) = false) ∧
    D.nth (ist lt L i) 0 = fm lt L i ∧ (∀ q, i < q → D.nth (ist lt L i) q = D.nth L q) ∧ (∀ q, q < L.length → ∃ q', q' < L.length ∧ D.nth (ist lt L i) q = D.nth L q')
  | 0, hi => ⟨rfl, fun a b h1 h2 => by omega, rfl, fun q _ => rfl, fun q hq => ⟨q, hq, rfl⟩⟩
  | i + 1, hi => by
    obtain ⟨g1, g2, g3, g4, g5⟩ := ist_spec ho L i (by omega)
    simp only [ist]
    generalize ist lt L i = M at g1 g2 g3 g4 g5
    obtain ⟨p, h1, h2, h3, h4, h5, h6, h7⟩ := ins_spec lt (i + 1) M (by omega)
    have hx : D.nth M (i + 1) = D.nth L (i + 1) := g4 _ (by omega)
    have hpast : ∀ a, a < p → lt (D.nth M (i + 1)) (D.nth M a) = false := fun a ha => by
      have h8 := h7 (by omega)
      by_cases he : a = p - 1
      · rw [he]; exact h8
      · exact ho.trans _ _ _ h8 (g2 a (p - 1) (by omega) (by omega))
    refine ⟨by omega, fun a b hab hb => ?_, ?_, fun q hq => ?_, fun q hq => ?_⟩
    · rcases Nat.lt_trichotomy b p with hbp | hbp | hbp
      · rw [h3 a (by omega), h3 b hbp]
        exact g2 a b hab (by omega)
      · rw [h3 a (by omega), hbp, h4]
        exact hpast a (by omega)
      · obtain ⟨b', rfl⟩ : ∃ b', b = b' + 1 := ⟨b - 1, by omega⟩
        obtain ⟨e1, e2⟩ := h5 b' (by omega) (by omega)
        rw [e1]
        rcases Nat.lt_trichotomy a p with hap | hap | hap
        · rw [h3 a hap]
          exact g2 a b' (by omega) (by omega)
        · rw [hap, h4]
          exact ho.asym _ _ e2
        · obtain ⟨a', rfl⟩ : ∃ a', a = a' + 1 := ⟨a - 1, by omega⟩
          rw [(h5 a' (by omega) (by omega)).1]
          exact g2 a' b' (by omega) (by omega)
    · simp only [fm]
      rcases Nat.eq_zero_or_pos p with hp | hp
      · subst hp
        have := (h5 0 (by omega) (by omega)).2
        rw [hx, g3] at this
        rw [h4, this, hx]
        rfl
      · have := hpast 0 hp
        rw [hx, g3] at this
        rw [h3 0 hp, this, g3]
        rfl
    · rw [h6 q hq, g4 q (by omega)]
    · rcases Nat.lt_trichotomy q p with hqp | hqp | hqp
      · rw [h3 q hqp]; exact g5 q hq
      · rw [hqp, h4]; exact g5 (i + 1) hi
      · by_cases hq2 : q ≤ i + 1
        · obtain ⟨q', rfl⟩ : ∃ q', q = q' + 1 := ⟨q - 1, by omega⟩
          rw [(h5 q' (by omega) (by omega)).1]
          exact g5 q' (by omega)
        · rw [h6 q (by omega)]; exact g5 q hq
/-! ### The two orders -/
def pM (M : List D) (k : D) : Int := (mapGet .str k M).int
def ltA (M : List D) (x y : D) : Bool := ltI (pM M (y.at' 0)) (pM M (x.at' 0)) || ((pM M (y.at' 0) == pM M (x.at' 0)) && Op.bytesLess (idS x) (idS y))
def ltB (M : List D) (x y : D) : Bool := ltI (pM M y) (pM M x)
theorem ordA (M : List D) : Ord (ltA M) where
  asym x y h := by
    unfold ltA at h ⊢
    generalize pM M (x.at' 0) = a at *
    generalize pM M (y.at' 0) = b at *
    rw [Bool.or_eq_true, Bool.and_eq_true] at h
    rw [Bool.or_eq_false_iff, Bool.and_eq_false_iff]
    rcases h with h | ⟨h1, h2⟩
    · simp at h
      refine ⟨by simp; omega, .inl (by simp; omega)⟩
    · have h1 : b = a := by simpa using h1
      exact ⟨by simp; omega, .inr (less_asymm h2)⟩
  trans x y z h1 h2 := by
    unfold ltA at h1 h2 ⊢
    generalize pM M (x.at' 0) = a at *
    generalize pM M (y.at' 0) = b at *
    generalize pM M (z.at' 0) = c at *
    rw [Bool.or_eq_false_iff, Bool.and_eq_false_iff] at h1 h2 ⊢
    obtain ⟨h1, h3⟩ := h1
    obtain ⟨h2, h4⟩ := h2
    simp at h1 h2
    refine ⟨by simp; omega, ?_⟩
    by_cases hca : c = a
    · have e1 : b = a := by omega
      have e2 : c = b := by omega
      have h3 : Op.bytesLess (idS x) (idS y) = false := h3.resolve_left (by simp [e1])
      have h4 : Op.bytesLess (idS y) (idS z) = false := h4.resolve_left (by simp [e2])
      right
      cases h5 : Op.bytesLess (idS x) (idS z) with
      | false => rfl
      | true =>
        exfalso
        by_cases e3 : idS y = idS z
        · rw [e3, h5] at h3; cases h3
        · have h6 := less_total h4 e3
          have := less_trans h5 h6
          rw [this] at h3
          cases h3
    · left; simpa using hca
  irr x := by
    unfold ltA
    rw [less_irrefl]
    simp
theorem ordB (M : List D) : Ord (ltB M) where
  asym x y h := by unfold ltB at h ⊢; simp at h ⊢; omega
  trans x y z h1 h2 := by unfold ltB at h1 h2 ⊢; simp at h1 h2 ⊢; omega
  irr x := by unfold ltB; simp
theorem fm_in (lt : D → D → Bool) (L : List D) : ∀ i, ∃ q, q ≤ i ∧ fm lt L i = D.nth L q
  | 0 => ⟨0, Nat.le_refl _, rfl⟩
  | i + 1 => by
    obtain ⟨q, h1, h2⟩ := fm_in lt L i
    simp only [fm]
    cases lt (D.nth L (i + 1)) (fm lt L i) with
    | true => exact ⟨i + 1, Nat.le_refl _, rfl⟩
    | false => exact ⟨q, by omega, h2⟩
theorem nth_map {l : List D} (g : D → D) {j : Nat} (hj : j < l.length) : D.nth (l.map g) j = g (D.nth l j) := by
  rw [nth_eq (by simpa using hj), nth_eq hj, List.getElem_map]
theorem fm_same {l : List D} (h : Inc idS l) (M : List D) : ∀ i, i < l.length → fm (ltB M) (l.map fun x => x.at' 0) i = (fm (ltA M) l i).at' 0
  | 0, hi => nth_map _ hi
  | i + 1, hi => by
    have ih := fm_same h M i (by omega)
    obtain ⟨q, hq, he⟩ := fm_in (ltA M) l i
    simp only [fm]
    rw [ih, nth_map _ hi]
    have hls : Op.bytesLess (idS (D.nth l (i + 1))) (idS (fm (ltA M) l i)) = false := by
      rw [he]
      exact less_asymm (h.lt (show q < i + 1 by omega) hi)
    have : ltA M (D.nth l (i + 1)) (fm (ltA M) l i) = ltB M ((D.nth l (i + 1)).at' 0) ((fm (ltA M) l i).at' 0) := by
      generalize fm (ltA M) l i = F at hls
      unfold ltA ltB
      rw [hls, Bool.and_false, Bool.or_false]
    rw [this]
    cases ltB M ((D.nth l (i + 1)).at' 0) ((fm (ltA M) l i).at' 0) <;> rfl
/-! ### Comparing -/
theorem w_Or2 (x y : Int) : W (fun K _ => f_cmp_Or_int K (.n [.i x, .i y])) (fun r => r = [.i (bif x != 0 then x else y)]) := by
  unfold f_cmp_Or_int
  refine W.bind (W.early 2 (fun j => [.i 0, .n [.i x, .i y], .i 2, .i (j : Int)]) (fun j => bif ((D.nth [.i x, .i y] j).int != 0) then some (0, [D.nth [.i x, .i y] j]) else none) (1, []) (fun j hj hp p rc h1 h2 => ?_) (fun rc => ?_)) ?_
  · unfold b_cmp_Or_int_0
    simp only [D.nth_zero, D.nth_succ, D.int_i, D.list_n, Int.toNat_natCast]
    refine W.cond (fun _ => ?_) (fun h => by simp at h; omega)
    refine W.cond (fun _ => ?_) (fun h => by simp at h; omega)
    refine W.cond (fun h => W.ret (h1 _ (by rw [h]; rfl))) (fun h => ?_)
    rw [wrap_i64 (by omega) (by omega)]
    exact h2 (by rw [h]; rfl)
  · unfold b_cmp_Or_int_0
    simp only [D.nth_zero, D.nth_succ, D.int_i]
    exact W.cond (fun h => by simp at h) (fun _ => W.ret rfl)
  · rintro _ rfl
    simp only [scan, D.nth_zero, D.nth_succ, D.int_i]
    cases h1 : x != 0 with
    | true => exact W.ret (by simp)
    | false =>
      cases h2 : y != 0 with
      | true => exact W.ret (by simp)
      | false =>
        have : y = 0 := by simpa using h2
        subst this
        exact W.ret (by simp)
def GdA (M : List D) (x : D) : Prop := True
def GdB (M : List D) (x : D) : Prop := 0 ≤ pM M x ∧ pM M x ≤ 1000000000
theorem w_cmpA (M : List D) (a b : D) (ha : GdA M a) (hb : GdA M b) : W (fun K _ => f_upstream_ordered_1 K a b (.n M)) (fun r => ∃ n : Int, r = [.i n, .n M] ∧ ltI n 0 = ltA M a b) := by
  unfold f_upstream_ordered_1
  simp only [D.list_n]
  refine W.bind (p := fun r => ∃ c : Int, r = [.i c] ∧ (c < 0 ↔ pM M (b.at' 0) < pM M (a.at' 0)) ∧ (c = 0 ↔ pM M (b.at' 0) = pM M (a.at' 0))) ?_ ?_
  · unfold f_cmp_Compare_int
    simp only [p_cmp_isNaN_int, D.nth_zero, D.bool_b]
    have e : ∀ x : Int, (x != x) = false := fun x => by simp
    refine W.cond (fun h => by rw [e] at h; cases h) (fun _ => ?_)
    refine W.cond (fun h => by rw [e] at h; cases h) (fun _ => ?_)
    unfold pM
    refine W.cond (fun h => W.ret ⟨-1, rfl, ?_⟩) (fun h => ?_)
    · simp at h; constructor <;> constructor <;> intro _ <;> omega
    refine W.cond (fun h2 => W.ret ⟨1, rfl, ?_⟩) (fun h2 => W.ret ⟨0, rfl, ?_⟩)
    · simp at h h2; constructor <;> constructor <;> intro _ <;> omega
    · simp at h h2; constructor <;> constructor <;> intro _ <;> omega
  rintro _ ⟨c, rfl, c1, c2⟩
  simp only [D.nth_zero, p_strings_Compare, p_bytealg_CompareString, p_bytealg_abigen_runtime_cmpstring]
  refine W.bind (w_Or2 _ _) ?_
  rintro _ rfl
  refine W.ret ⟨_, rfl, ?_⟩
  have hs := (cmp_spec (a.at' 0).str (b.at' 0).str).1
  unfold ltA
  by_cases h0 : c = 0
  · have e1 := c2.1 h0
    subst h0
    have e2 : ltI (pM M (b.at' 0)) (pM M (a.at' 0)) = false := by simp; omega
    have e3 : (pM M (b.at' 0) == pM M (a.at' 0)) = true := by simpa using e1
    rw [e2, e3, Bool.false_or, Bool.true_and]
    have e4 : ((0 : Int) != 0) = false := rfl
    rw [e4, cond_false, Bool.eq_iff_iff]
    unfold idS
    rw [← hs]
    simp
  · have e4 : (c != 0) = true := by simpa using h0
    have e3 : (pM M (b.at' 0) == pM M (a.at' 0)) = false := by
      have : pM M (b.at' 0) ≠ pM M (a.at' 0) := fun e => h0 (c2.2 e)
      simpa using this
    rw [e4, e3, cond_true, Bool.false_and, Bool.or_false, Bool.eq_iff_iff]
    simpa using c1
theorem w_cmpB (M : List D) (a b : D) (ha : GdB M a) (hb : GdB M b) : W (fun K _ => f_gateref2_OrderOf_1 K a b (.n M)) (fun r => ∃ n : Int, r = [.i n, .n M] ∧ ltI n 0 = ltB M a b) := by
  unfold f_gateref2_OrderOf_1
  simp only [D.list_n]
  unfold GdB at ha hb
  refine W.bind (p := fun r => ∃ c : Int, r = [.i c] ∧ (c < 0 ↔ pM M b < pM M a)) ?_ ?_
  · unfold f_gateref2_sign
    have e : (mapGet .str b M).int - (mapGet .str a M).int = pM M b - pM M a := rfl
    rw [e, wrap_i64 (by omega) (by omega)]
    simp only [D.int_i]
    refine W.cond (fun h => W.ret ⟨-1, rfl, ?_⟩) (fun h => ?_)
    · simp at h; constructor <;> intro _ <;> omega
    refine W.cond (fun h2 => W.ret ⟨1, rfl, ?_⟩) (fun h2 => W.ret ⟨0, rfl, ?_⟩)
    · simp at h h2; constructor <;> intro _ <;> omega
    · simp at h h2; constructor <;> intro _ <;> omega
  rintro _ ⟨c, rfl, c1⟩
  refine W.ret ⟨c, rfl, ?_⟩
  unfold ltB
  rw [Bool.eq_iff_iff]
  simpa using c1
/-! ### Sorting api_Instance -/
theorem w_insA (M L0 : List D) (j0 : Nat) (hj0 : j0 < L0.length) (hL0 : L0.length ≤ 1000) (hg0 : ∀ q, q < L0.length → GdA M (D.nth L0 q)) : W (fun K _ => fixN (b_slices_insertionSortCmpFunc_api_Instance_1 K) K [.i 0, .i (j0 : Int), .n L0, .n M]) (fun r => r = (0, [.n (ins (ltA M) j0 L0), .n M])) := by
  refine W.rounds (S := Nat × List D) (fun q => [.i 0, .i (q.1 : Int), .n q.2, .n M]) (fun q => q.1 < q.2.length ∧ q.2.length ≤ 1000 ∧ (∀ x, x < q.2.length → GdA M (D.nth q.2 x)) ∧ ins (ltA M) q.1 q.2 = ins (ltA M) j0 L0) (fun q => q.1) (fun q hI rc ih => ?_) (j0, L0) ⟨hj0, hL0, hg0, rfl⟩
  obtain ⟨j, L⟩ := q
  obtain ⟨a1, a2, a3, a4⟩ := hI
  simp only at a1 a2 a3 a4
  unfold b_slices_insertionSortCmpFunc_api_Instance_1
  simp only [D.nth_zero, D.nth_succ, D.int_i, D.list_n]
  cases j with
  | zero =>
    refine W.bind (p := fun r => r = (0, [.b false, .n L, .n M])) ?_ ?_
    · unfold b_slices_insertionSortCmpFunc_api_Instance_2
      simp only [D.nth_zero, D.nth_succ, D.int_i, D.list_n]
      refine W.cond (fun _ => ?_) (fun h => by simp at h)
      refine W.cond (fun _ => ?_) (fun h => by simp at h)
      exact W.cond (fun h => by simp at h) (fun _ => W.ret rfl)
    rintro _ rfl
    simp only [D.nth_zero, D.nth_succ, D.bool_b, D.list_n]
    rw [← a4]
    exact W.cond (fun h => by simp at h) (fun _ => W.ret rfl)
  | succ j =>
    have e1 : IntKind.i64.wrap (((j + 1 : Nat) : Int) - 1) = (j : Int) := by rw [wrap_i64 (by omega) (by omega)]; omega
    rw [e1]
    simp only [Int.toNat_natCast]
    refine W.bind (p := fun r => r = (0, [.b (ltA M (D.nth L (j + 1)) (D.nth L j)), .n L, .n M])) ?_ ?_
    · unfold b_slices_insertionSortCmpFunc_api_Instance_2
      simp only [D.nth_zero, D.nth_succ, D.int_i, D.list_n]
      rw [e1]
      simp only [Int.toNat_natCast]
      refine W.cond (fun _ => ?_) (fun h => by simp at h; omega)
      refine W.cond (fun _ => ?_) (fun h => by simp at h; omega)
      refine W.cond (fun _ => ?_) (fun h => by simp at h; omega)
      refine W.bind (w_cmpA M _ _ (a3 _ (by omega)) (a3 _ (by omega))) ?_
      rintro _ ⟨n, rfl, hn⟩
      exact W.ret (by rw [← hn]; rfl)
    rintro _ rfl
    simp only [D.nth_zero, D.nth_succ, D.bool_b, D.list_n]
    simp only [ins] at a4
    refine W.cond (fun h => ?_) (fun h => ?_)
    · rw [h, cond_true] at a4
      refine W.cond (fun _ => ?_) (fun h => by simp at h; omega)
      refine W.cond (fun _ => ?_) (fun h => by simp at h; omega)
      refine W.cond (fun _ => ?_) (fun h => by simp at h; omega)
      have hl := length_setNth (v := D.nth L j) (show j + 1 < L.length by omega)
      refine W.cond (fun _ => ?_) (fun h => by rw [hl] at h; simp at h; omega)
      have hn := swp_nth (L := L) (i := j + 1) (j := j) a1 (by omega)
      have hlen := swp_len (L := L) (i := j + 1) (j := j) a1 (by omega)
      refine ih (j, swp L (j + 1) j) ⟨by simp only; omega, by simp only; omega, fun x hx => ?_, a4⟩ (by simp only; omega)
      simp only at hx ⊢
      rw [hn]
      split
      · exact a3 _ (by omega)
      · split
        · exact a3 _ (by omega)
        · exact a3 _ (by omega)
    · rw [h, cond_false] at a4
      rw [← a4]
      exact W.ret rfl
theorem w_isortA (M L : List D) (hL : L.length ≤ 1000) (hg : ∀ q, q < L.length → GdA M (D.nth L q)) : W (fun K _ => f_slices_insertionSortCmpFunc_api_Instance K (.i 0) (.i (L.length : Int)) (.n L) (.n M)) (fun r => r = [.n (ist (ltA M) L (L.length - 1)), .n M]) := by
  unfold f_slices_insertionSortCmpFunc_api_Instance
  simp only [D.int_i, D.list_n]
  refine W.bind (p := fun r => r = (0, [.n (ist (ltA M) L (L.length - 1)), .n M])) (W.rounds (S := Nat) (fun q => [.i 0, .i (L.length : Int), .i ((q + 1 : Nat) : Int), .n (ist (ltA M) L q), .n M]) (fun q => q = 0 ∨ q < L.length) (fun q => L.length - q) (fun q hI rc ih => ?_) 0 (.inl rfl)) ?_
  · unfold b_slices_insertionSortCmpFunc_api_Instance_0
    simp only [D.nth_zero, D.nth_succ, D.int_i, D.list_n]
    refine W.cond (fun h => ?_) (fun h => ?_)
    · simp at h
      obtain ⟨g1, _, _, _, g5⟩ := ist_spec (ordA M) L q (by omega)
      refine W.bind (w_insA M _ (q + 1) (by omega) (by omega) (fun x hx => ?_)) ?_
      · obtain ⟨q', h1, h2⟩ := g5 x (by omega)
        rw [h2]; exact hg q' h1
      rintro _ rfl
      simp only [D.nth_zero, D.nth_succ, D.list_n]
      have e1 : IntKind.i64.wrap (((q + 1 : Nat) : Int) + 1) = ((q + 1 + 1 : Nat) : Int) := by rw [wrap_i64 (by omega) (by omega)]; omega
      rw [e1]
      exact ih (q + 1) (.inr (by omega)) (by omega)
    · simp at h
      have : q = L.length - 1 := by omega
      rw [this]
      exact W.ret rfl
  rintro _ rfl
  exact W.ret rfl
/-! ### Sorting string -/
theorem w_insB (M L0 : List D) (j0 : Nat) (hj0 : j0 < L0.length) (hL0 : L0.length ≤ 1000) (hg0 : ∀ q, q < L0.length → GdB M (D.nth L0 q)) : W (fun K _ => fixN (b_slices_insertionSortCmpFunc_string_1 K) K [.i 0, .i (j0 : Int), .n L0, .n M]) (fun r => r = (0, [.n (ins (ltB M) j0 L0), .n M])) := by
  refine W.rounds (S := Nat × List D) (fun q => [.i 0, .i (q.1 : Int), .n q.2, .n M]) (fun q => q.1 < q.2.length ∧ q.2.length ≤ 1000 ∧ (∀ x, x < q.2.length → GdB M (D.nth q.2 x)) ∧ ins (ltB M) q.1 q.2 = ins (ltB M) j0 L0) (fun q => q.1) (fun q hI rc ih => ?_) (j0, L0) ⟨hj0, hL0, hg0, rfl⟩
  obtain ⟨j, L⟩ := q
  obtain ⟨a1, a2, a3, a4⟩ := hI
  simp only at a1 a2 a3 a4
  unfold b_slices_insertionSortCmpFunc_string_1
  simp only [D.nth_zero, D.nth_succ, D.int_i, D.list_n]
  cases j with
  | zero =>
    refine W.bind (p := fun r => r = (0, [.b false, .n L, .n M])) ?_ ?_
    · unfold b_slices_insertionSortCmpFunc_string_2
      simp only [D.nth_zero, D.nth_succ, D.int_i, D.list_n]
      refine W.cond (fun _ => ?_) (fun h => by simp at h)
      refine W.cond (fun _ => ?_) (fun h => by simp at h)
      exact W.cond (fun h => by simp at h) (fun _ => W.ret rfl)
    rintro _ rfl
    simp only [D.nth_zero, D.nth_succ, D.bool_b, D.list_n]
    rw [← a4]
    exact W.cond (fun h => by simp at h) (fun _ => W.ret rfl)
  | succ j =>
    have e1 : IntKind.i64.wrap (((j + 1 : Nat) : Int) - 1) = (j : Int) := by rw [wrap_i64 (by omega) (by omega)]; omega
    rw [e1]
    simp only [Int.toNat_natCast]
    refine W.bind (p := fun r => r = (0, [.b (ltB M (D.nth L (j + 1)) (D.nth L j)), .n L, .n M])) ?_ ?_
    · unfold b_slices_insertionSortCmpFunc_string_2
      simp only [D.nth_zero, D.nth_succ, D.int_i, D.list_n]
      rw [e1]
      simp only [Int.toNat_natCast]
      refine W.cond (fun _ => ?_) (fun h => by simp at h; omega)
      refine W.cond (fun _ => ?_) (fun h => by simp at h; omega)
      refine W.cond (fun _ => ?_) (fun h => by simp at h; omega)
      refine W.bind (w_cmpB M _ _ (a3 _ (by omega)) (a3 _ (by omega))) ?_
      rintro _ ⟨n, rfl, hn⟩
      exact W.ret (by rw [← hn]; rfl)
    rintro _ rfl
    simp only [D.nth_zero, D.nth_succ, D.bool_b, D.list_n]
    simp only [ins] at a4
    refine W.cond (fun h => ?_) (fun h => ?_)
    · rw [h, cond_true] at a4
      refine W.cond (fun _ => ?_) (fun h => by simp at h; omega)
      refine W.cond (fun _ => ?_) (fun h => by simp at h; omega)
      refine W.cond (fun _ => ?_) (fun h => by simp at h; omega)
      have hl := length_setNth (v := D.nth L j) (show j + 1 < L.length by omega)
      refine W.cond (fun _ => ?_) (fun h => by rw [hl] at h; simp at h; omega)
      have hn := swp_nth (L := L) (i := j + 1) (j := j) a1 (by omega)
      have hlen := swp_len (L := L) (i := j + 1) (j := j) a1 (by omega)
      refine ih (j, swp L (j + 1) j) ⟨by simp only; omega, by simp only; omega, fun x hx => ?_, a4⟩ (by simp only; omega)
      simp only at hx ⊢
      rw [hn]
      split
      · exact a3 _ (by omega)
      · split
        · exact a3 _ (by omega)
        · exact a3 _ (by omega)
    · rw [h, cond_false] at a4
      rw [← a4]
      exact W.ret rfl
theorem w_isortB (M L : List D) (hL : L.length ≤ 1000) (hg : ∀ q, q < L.length → GdB M (D.nth L q)) : W (fun K _ => f_slices_insertionSortCmpFunc_string K (.i 0) (.i (L.length : Int)) (.n L) (.n M)) (fun r => r = [.n (ist (ltB M) L (L.length - 1)), .n M]) := by
  unfold f_slices_insertionSortCmpFunc_string
  simp only [D.int_i, D.list_n]
  refine W.bind (p := fun r => r = (0, [.n (ist (ltB M) L (L.length - 1)), .n M])) (W.rounds (S := Nat) (fun q => [.i 0, .i (L.length : Int), .i ((q + 1 : Nat) : Int), .n (ist (ltB M) L q), .n M]) (fun q => q = 0 ∨ q < L.length) (fun q => L.length - q) (fun q hI rc ih => ?_) 0 (.inl rfl)) ?_
  · unfold b_slices_insertionSortCmpFunc_string_0
    simp only [D.nth_zero, D.nth_succ, D.int_i, D.list_n]
    refine W.cond (fun h => ?_) (fun h => ?_)
    · simp at h
      obtain ⟨g1, _, _, _, g5⟩ := ist_spec (ordB M) L q (by omega)
      refine W.bind (w_insB M _ (q + 1) (by omega) (by omega) (fun x hx => ?_)) ?_
      · obtain ⟨q', h1, h2⟩ := g5 x (by omega)
        rw [h2]; exact hg q' h1
      rintro _ rfl
      simp only [D.nth_zero, D.nth_succ, D.list_n]
      have e1 : IntKind.i64.wrap (((q + 1 : Nat) : Int) + 1) = ((q + 1 + 1 : Nat) : Int) := by rw [wrap_i64 (by omega) (by omega)]; omega
      rw [e1]
      exact ih (q + 1) (.inr (by omega)) (by omega)
    · simp at h
      have : q = L.length - 1 := by omega
      rw [this]
      exact W.ret rfl
  rintro _ rfl
  exact W.ret rfl
theorem len_small : ∀ n : Nat, n ≤ 10 → ∃ r, ∀ K, f_bits_Len K (.i (IntKind.u64.wrap (n : Int))) = some r
  | 0, _ => ⟨[.i 0], fun K => by kernel_rfl⟩
  | 1, _ => ⟨[.i 1], fun K => by kernel_rfl⟩
  | 2, _ => ⟨[.i 2], fun K => by kernel_rfl⟩
  | 3, _ => ⟨[.i 2], fun K => by kernel_rfl⟩
  | 4, _ => ⟨[.i 3], fun K => by kernel_rfl⟩
  | 5, _ => ⟨[.i 3], fun K => by kernel_rfl⟩
  | 6, _ => ⟨[.i 3], fun K => by kernel_rfl⟩
  | 7, _ => ⟨[.i 3], fun K => by kernel_rfl⟩
  | 8, _ => ⟨[.i 4], fun K => by kernel_rfl⟩
  | 9, _ => ⟨[.i 4], fun K => by kernel_rfl⟩
  | 10, _ => ⟨[.i 4], fun K => by kernel_rfl⟩
  | n + 11, h => by omega
theorem w_SortA (M L : List D) (hL : L.length ≤ 10) : W (fun K _ => f_slices_SortFunc_api_Instance K (.n L) (.n M)) (fun r => r = [.n (ist (ltA M) L (L.length - 1)), .n M]) := by
  obtain ⟨r0, hr0⟩ := len_small L.length hL
  unfold f_slices_SortFunc_api_Instance
  simp only [D.list_n]
  refine W.bind (p := fun r => r = r0) ⟨r0, rfl, 0, fun K _ _ _ => hr0 K⟩ ?_
  rintro _ rfl
  unfold f_slices_pdqsortCmpFunc_api_Instance
  refine W.bind (p := fun r => r = [.n (ist (ltA M) L (L.length - 1)), .n M]) (W.bind (p := fun r => r = (0, [.n (ist (ltA M) L (L.length - 1)), .n M])) (W.loop (W.step ?_)) ?_) ?_
  · unfold b_slices_pdqsortCmpFunc_api_Instance_0
    simp only [D.nth_zero, D.nth_succ, D.int_i, D.list_n]
    have e1 : IntKind.i64.wrap ((L.length : Int) - 0) = (L.length : Int) := by rw [wrap_i64 (by omega) (by omega)]; omega
    rw [e1]
    refine W.cond (fun _ => ?_) (fun h => by simp at h; omega)
    refine W.bind ((w_isortA M L (by omega) (fun _ _ => trivial))) ?_
    rintro _ rfl
    exact W.ret rfl
  · rintro _ rfl
    exact W.ret rfl
  · rintro _ rfl
    exact W.ret rfl
theorem w_SortB (M L : List D) (hL : L.length ≤ 10) (hg : ∀ q, q < L.length → GdB M (D.nth L q)) : W (fun K _ => f_slices_SortStableFunc_string K (.n L) (.n M)) (fun r => r = [.n (ist (ltB M) L (L.length - 1)), .n M]) := by
  unfold f_slices_SortStableFunc_string f_slices_stableCmpFunc_string
  simp only [D.list_n]
  refine W.bind (p := fun r => r = [.n (ist (ltB M) L (L.length - 1)), .n M]) ?_ ?_
  · refine W.bind (p := fun r => r = (0, [.i 0, .n L, .n M])) (W.loop (W.step ?_)) ?_
    · unfold b_slices_stableCmpFunc_string_0
      simp only [D.nth_zero, D.nth_succ, D.int_i, D.list_n]
      exact W.cond (fun h => by simp at h; omega) (fun _ => W.ret rfl)
    rintro _ rfl
    simp only [D.nth_zero, D.nth_succ, D.list_n]
    refine W.bind (w_isortB M L (by omega) hg) ?_
    rintro _ rfl
    simp only [D.nth_zero, D.nth_succ, D.list_n]
    refine W.bind (p := fun r => r = (0, [.n (ist (ltB M) L (L.length - 1)), .n M])) (W.loop (W.step ?_)) ?_
    · unfold b_slices_stableCmpFunc_string_1
      simp only [D.nth_zero, D.nth_succ, D.int_i, D.list_n]
      exact W.cond (fun h => by simp at h; omega) (fun _ => W.ret rfl)
    rintro _ rfl
    exact W.ret rfl
  · rintro _ rfl
    exact W.ret rfl
/-! ### The first of all -/
theorem insD_w {l : List D} (hl : InL l) (h : (D.nth (insD l) 0).int = 0) : RW l := by
  have hl10 := hl.1
  have hg : gtI (l.length : Int) 50 = false := by simp; omega
  unfold insD at h
  rw [hg, cond_false] at h
  rcases scan_cases (errAt (insF l)) (1, []) l.length 0 with ⟨i, r, h1, h2, h3, h4, h5⟩ | ⟨h1, h2⟩
  · exfalso
    unfold insR at h
    rw [h4] at h
    unfold errAt at h3
    cases hc : insF l i != 0 with
    | false => rw [hc] at h3; cases h3
    | true =>
      rw [hc] at h3
      cases h3
      have : insF l i = 0 := h
      simp [this] at hc
  · intro j hj
    have hz := errAt_none_iff (h1 j (Nat.zero_le _) (by omega))
    have hw : wB (D.nth l j) = false := by
      unfold insF at hz
      cases hk : !keyB (idS (D.nth l j)) <;> rw [hk] at hz <;> simp at hz
      cases ho : ordI l j <;> rw [ho] at hz <;> simp at hz
      cases hw : wB (D.nth l j) with
      | false => rfl
      | true => rw [hw] at hz; simp at hz
    unfold wB at hw
    cases h1 : ltI ((D.nth l j).at' 1).int 1 <;> rw [h1] at hw <;> simp at hw
    simp at h1
    omega
theorem ptM_snoc (key : List UInt8) {l : List D} {j : Nat} (hj : j < l.length) : ptM key (l.take (j + 1)) = stP key (ptM key (l.take j)) (D.nth l j) := by
  unfold ptM
  rw [take_nth hj, List.foldl_append]
  rfl
theorem w_ordered (key : List UInt8) (l : List D) (hl : InL l) (hk : key.length ≤ 1000) : W (fun K _ => f_upstream_ordered K (.n l) (.s key)) (fun r => r = [.n (ist (ltA (ptM key l)) l (l.length - 1))]) := by
  have hl10 := hl.1
  unfold f_upstream_ordered
  simp only [D.list_n]
  refine W.bind (p := fun r => r = (0, [.n (ptM key l)])) (W.rounds (S := Nat) (fun j => [.s key, .n l, .i (l.length : Int), .i (j : Int), .n (ptM key (l.take j))]) (fun j => j ≤ l.length) (fun j => l.length - j) (fun j hI rc ih => ?_) 0 (by simp)) ?_
  · unfold b_upstream_ordered_0
    simp only [D.nth_zero, D.nth_succ, D.int_i, D.str_s, D.list_n, Int.toNat_natCast]
    have e1 : IntKind.i64.wrap ((j : Int) + 1) = ((j + 1 : Nat) : Int) := by rw [wrap_i64 (by omega) (by omega)]; omega
    rw [e1]
    refine W.cond (fun h => ?_) (fun h => ?_)
    · simp at h
      refine W.cond (fun _ => ?_) (fun h => by simp at h; omega)
      obtain ⟨a, w, hx, ha, hx0, hx1⟩ := hl.nth h
      have hid : ((D.nth l j).at' 0).str = idS (D.nth l j) := rfl
      have hlen : (idS (D.nth l j)).length ≤ 1000 := by unfold idS; rw [hx0]; exact ha
      rw [hid]
      refine W.cond (fun _ => ?_) (fun h => by change lim (key.length + 1) = false at h; rw [lim_mk (by omega)] at h; cases h)
      refine W.cond (fun _ => ?_) (fun h => absurd (lim_mk (n := (key ++ [0]).length + (idS (D.nth l j)).length) (by simp; omega)) (by rw [h]; simp))
      refine W.bind (w_Hash _ (by simp; omega)) ?_
      rintro _ rfl
      have ih := ih (j + 1) (by omega) (by omega)
      rw [ptM_snoc key h] at ih
      exact ih
    · simp at h
      have : j = l.length := by omega
      subst this
      rw [List.take_length]
      exact W.ret rfl
  rintro _ rfl
  simp only [D.nth_zero, D.list_n]
  refine W.bind (p := fun r => r = [.n l]) ?_ ?_
  · unfold f_slices_Clone_api_Instance b_slices_Clone_api_Instance_0
    simp only [D.nth_zero, D.list_n]
    refine W.bind (W.cond (p := fun r => r = (0, [.n l])) (fun _ => W.ret rfl) (fun h => absurd (lim_mk (n := 0 + l.length) (by omega)) (by rw [h]; simp))) ?_
    rintro _ rfl
    exact W.ret rfl
  rintro _ rfl
  simp only [D.nth_zero, D.list_n]
  refine W.bind (w_SortA (ptM key l) l hl10) ?_
  rintro _ rfl
  simp only [D.nth_zero, D.list_n]
  exact W.ret rfl
theorem w_OrderOf (key : List UInt8) (l : List D) (hl : InL l) (hinc : Inc idS l) (hw : RW l) (hk : key.length ≤ 1000) : W (fun K _ => f_gateref2_OrderOf K (.n l) (.s key)) (fun r => r = [.n (ist (ltB (ptM key l)) (l.map fun x => x.at' 0) (l.length - 1))]) := by
  have hl10 := hl.1
  unfold f_gateref2_OrderOf
  simp only [D.list_n]
  refine W.bind (p := fun r => r = (0, [.n (ptM key l), .n (l.map fun x => x.at' 0)])) (W.rounds (S := Nat) (fun j => [.s key, .n l, .i (l.length : Int), .i (j : Int), .n (ptM key (l.take j)), .n ((l.take j).map fun x => x.at' 0)]) (fun j => j ≤ l.length) (fun j => l.length - j) (fun j hI rc ih => ?_) 0 (by simp)) ?_
  · unfold b_gateref2_OrderOf_0
    simp only [D.nth_zero, D.nth_succ, D.int_i, D.list_n, Int.toNat_natCast]
    have e1 : IntKind.i64.wrap ((j : Int) + 1) = ((j + 1 : Nat) : Int) := by rw [wrap_i64 (by omega) (by omega)]; omega
    rw [e1]
    refine W.cond (fun h => ?_) (fun h => ?_)
    · simp at h
      refine W.cond (fun _ => ?_) (fun h => by simp at h; omega)
      obtain ⟨a, w, hx, ha, hx0, hx1⟩ := hl.nth h
      have hid : idS (D.nth l j) = a := by unfold idS; rw [hx0]; rfl
      rw [hx0]
      refine W.bind (w_hashed key a hk ha) ?_
      rintro _ rfl
      simp only [D.nth_zero, D.int_i]
      refine W.cond (fun _ => ?_) (fun h => absurd (lim_mk (n := ((l.take j).map fun x => x.at' 0).length + 1) (by simp; omega)) (by rw [h]; simp))
      have ih := ih (j + 1) (by omega) (by omega)
      rw [ptM_snoc key h, take_nth h, List.map_append, List.map_singleton] at ih
      unfold stP pt at ih
      rw [hid, hx0] at ih
      exact ih
    · simp at h
      have : j = l.length := by omega
      subst this
      rw [List.take_length]
      exact W.ret rfl
  rintro _ rfl
  simp only [D.nth_zero, D.nth_succ, D.list_n]
  refine W.bind (w_SortB (ptM key l) (l.map fun x => x.at' 0) (by simpa using hl10) (fun q hq => ?_)) ?_
  · have hq : q < l.length := by simpa using hq
    rw [nth_map _ hq]
    unfold GdB pM
    rw [ptM_get hinc key hq]
    exact pt_small key _ (hw q hq)
  rintro _ rfl
  simp only [D.nth_zero, D.list_n, List.length_map]
  exact W.ret rfl
def kbad (x : D) : Bool := bif (x.str == ([] : List UInt8)) then true else (gtI (x.str.length : Int) 40)
theorem w_keyFault (x : D) : W (fun K _ => f_upstream_keyFault K x) (fun r => r = [.i (bif kbad x then 5 else 0)]) := by
  unfold f_upstream_keyFault
  refine W.cond (fun h => W.ret ?_) (fun h => W.ret ?_)
  · have : kbad x = true := h
    rw [this]; rfl
  · have : kbad x = false := h
    rw [this]; rfl
theorem w_OrderKey (x : D) : W (fun K _ => f_gateref2_OrderKey K x) (fun r => r = [.i (bif kbad x then 5 else 0)]) := by
  unfold f_gateref2_OrderKey
  simp only [p_gateref2_in, D.nth_zero, D.bool_b, D.int_i, in_out]
  have e : (bif ltI (x.str.length : Int) 1 then true else gtI (x.str.length : Int) 40) = kbad x := by
    unfold kbad
    cases hx : x.str with
    | nil => rfl
    | cons c s =>
      have h1 : ltI (((c :: s).length : Nat) : Int) 1 = false := by simp; omega
      have h2 : ((c :: s) == ([] : List UInt8)) = false := by simp
      rw [h1, h2]
  rw [e]
  refine W.cond (fun h => W.ret (by rw [h]; rfl)) (fun h => W.ret (by rw [h]; rfl))
/-! ### The whole order -/
theorem setNth_map (f : D → D) {L : List D} {i : Nat} {v : D} (hi : i < L.length) : D.setNth (L.map f) i (f v) = (D.setNth L i v).map f := by
  rw [setNth_eq _ (by simpa using hi), setNth_eq _ hi, List.map_set]
theorem swp_map (f : D → D) {L : List D} {i j : Nat} (hi : i < L.length) (hj : j < L.length) : swp (L.map f) i j = (swp L i j).map f := by
  unfold swp
  rw [nth_map f hi, nth_map f hj, setNth_map f hi, setNth_map f (by rw [length_setNth hi]; exact hj)]
theorem ins_map (lt lt' : D → D → Bool) (f : D → D) : ∀ (j : Nat) (L : List D), j < L.length → (∀ q, q < j → lt (D.nth L j) (D.nth L q) = lt' (f (D.nth L j)) (f (D.nth L q))) → ins lt' j (L.map f) = (ins lt j L).map f
  | 0, L, _, _ => rfl
  | j + 1, L, hj, h => by
    simp only [ins]
    rw [nth_map f hj, nth_map f (by omega), ← h j (by omega)]
    cases lt (D.nth L (j + 1)) (D.nth L j) with
    | false => rfl
    | true =>
      have hn := swp_nth (L := L) (i := j + 1) (j := j) hj (by omega)
      have hlen := swp_len (L := L) (i := j + 1) (j := j) hj (by omega)
      simp only [cond_true]
      rw [swp_map f hj (by omega)]
      refine ins_map lt lt' f j (swp L (j + 1) j) (by omega) fun q hq => ?_
      rw [hn, if_pos rfl, hn, if_neg (by omega), if_neg (by omega)]
      exact h q (by omega)
theorem ist_from (lt : D → D → Bool) (ho : Ord lt) (L : List D) : ∀ i, i < L.length → ∀ q, q ≤ i → ∃ q', q' ≤ i ∧ D.nth (ist lt L i) q = D.nth L q'
  | 0, _, q, hq => ⟨0, Nat.le_refl _, by rw [show q = 0 by omega]; rfl⟩
  | i + 1, hi, q, hq => by
    have ih := ist_from lt ho L i (by omega)
    obtain ⟨g1, _, _, g4, _⟩ := ist_spec ho L i (by omega)
    simp only [ist]
    generalize ist lt L i = M at ih g1 g4
    obtain ⟨p, h1, h2, h3, h4, h5, h6, h7⟩ := ins_spec lt (i + 1) M (by omega)
    rcases Nat.lt_trichotomy q p with hqp | hqp | hqp
    · obtain ⟨q', a1, a2⟩ := ih q (by omega)
      exact ⟨q', by omega, by rw [h3 q hqp]; exact a2⟩
    · exact ⟨i + 1, Nat.le_refl _, by rw [hqp, h4]; exact g4 _ (by omega)⟩
    · obtain ⟨r, rfl⟩ : ∃ r, q = r + 1 := ⟨q - 1, by omega⟩
      obtain ⟨q', a1, a2⟩ := ih r (by omega)
      exact ⟨q', by omega, by rw [(h5 r (by omega) (by omega)).1]; exact a2⟩
theorem ist_same {l : List D} (h : Inc idS l) (M : List D) : ∀ i, i < l.length → ist (ltB M) (l.map fun x => x.at' 0) i = (ist (ltA M) l i).map fun x => x.at' 0
  | 0, _ => rfl
  | i + 1, hi => by
    have ih := ist_same h M i (by omega)
    obtain ⟨g1, _, _, g4, _⟩ := ist_spec (ordA M) l i (by omega)
    have gf := ist_from (ltA M) (ordA M) l i (by omega)
    simp only [ist]
    rw [ih]
    generalize ist (ltA M) l i = L at g1 g4 gf
    refine ins_map (ltA M) (ltB M) (fun x => x.at' 0) (i + 1) L (by omega) fun q hq => ?_
    obtain ⟨q', a1, a2⟩ := gf q (by omega)
    rw [a2, g4 _ (by omega)]
    have hls : Op.bytesLess (idS (D.nth l (i + 1))) (idS (D.nth l q')) = false := less_asymm (h.lt (show q' < i + 1 by omega) hi)
    unfold ltA ltB
    rw [hls, Bool.and_false, Bool.or_false]
def ordL (key : List UInt8) (l : List D) : List D := ist (ltA (ptM key l)) l (l.length - 1)
theorem ordL_len (key : List UInt8) (l : List D) : (ordL key l).length = l.length := by
  unfold ordL
  rcases Nat.eq_zero_or_pos l.length with h0 | h0
  · rw [h0]; exact h0
  · exact (ist_spec (ordA _) l (l.length - 1) (by omega)).1
theorem ordL_in (key : List UInt8) (l : List D) {q : Nat} (hq : q < l.length) : ∃ q', q' < l.length ∧ D.nth (ordL key l) q = D.nth l q' := (ist_spec (ordA _) l (l.length - 1) (by omega)).2.2.2.2 q hq
theorem ordL_same {l : List D} (h : Inc idS l) (key : List UInt8) : ist (ltB (ptM key l)) (l.map fun x => x.at' 0) (l.length - 1) = (ordL key l).map fun x => x.at' 0 := by
  unfold ordL
  rcases Nat.eq_zero_or_pos l.length with h0 | h0
  · rw [h0]; rfl
  · exact ist_same h _ _ (by omega)
/-! ### The round -/
def wt (l : List D) (i : Nat) : Int := ((D.nth l i).at' 1).int
def sumW (l : List D) : Nat → Int
  | 0 => 0
  | k + 1 => sumW l k + wt l k
theorem sumW_le {l : List D} (h : RW l) : ∀ k, k ≤ l.length → 0 ≤ sumW l k ∧ sumW l k ≤ 100 * k
  | 0, _ => by simp [sumW]
  | k + 1, hk => by
    have := sumW_le h k (by omega)
    have h1 : 1 ≤ wt l k ∧ wt l k ≤ 100 := h k (by omega)
    simp only [sumW]
    omega
def am (v : Nat → Int) : Nat → Nat
  | 0 => 0
  | i + 1 => bif gtI (v i) (v (am v i)) then i else am v i
theorem am_lt (v : Nat → Int) : ∀ i, 0 < i → am v i < i
  | i + 1, _ => by
    simp only [am]
    cases gtI (v i) (v (am v i)) with
    | true => simp
    | false =>
      rcases Nat.eq_zero_or_pos i with h | h
      · subst h; simp [am]
      · have := am_lt v i h
        simp only [cond_false]
        omega
theorem am_congr {v v' : Nat → Int} {n : Nat} (h : ∀ i, i < n → v i = v' i) : ∀ i, i ≤ n → am v i = am v' i
  | 0, _ => rfl
  | i + 1, hi => by
    have ih := am_congr h i (by omega)
    simp only [am]
    rcases Nat.eq_zero_or_pos i with h0 | h0
    · subst h0
      simp [am]
    · rw [ih, h i (by omega), h (am v' i) (by have := am_lt v' i h0; omega)]
def vR (l : List D) (T : Nat → Int) (k : Nat) (i : Nat) : Int := ((k : Int) + 1) * wt l i - T i * sumW l l.length
def tkR (l : List D) : Nat → Nat → Int
  | 0 => fun _ => 0
  | k + 1 => fun i => bif Nat.beq i (am (vR l (tkR l k) k) l.length) then tkR l k i + 1 else tkR l k i
def outR (l : List D) : Nat → List D
  | 0 => []
  | k + 1 => outR l k ++ [(D.nth l (am (vR l (tkR l k) k) l.length)).at' 0]
theorem outR_len (l : List D) : ∀ k, (outR l k).length = k
  | 0 => rfl
  | k + 1 => by simp [outR, outR_len l k]
theorem tkR_le (l : List D) : ∀ k i, 0 ≤ tkR l k i ∧ tkR l k i ≤ k
  | 0, i => by simp [tkR]
  | k + 1, i => by
    have := tkR_le l k i
    simp only [tkR]
    cases Nat.beq i (am (vR l (tkR l k) k) l.length) <;> simp <;> omega
/-! ### Loads -/
def ldk (k : List UInt8) : List D → Int
  | [] => 0
  | x :: r => bif (x.at' 0).str == k then (x.at' 1).int else ldk k r
theorem ldk_snoc (k : List UInt8) (x : D) : ∀ r : List D, ldk k (r ++ [x]) = bif r.any (fun y => (y.at' 0).str == k) then ldk k r else bif (x.at' 0).str == k then (x.at' 1).int else 0
  | [] => rfl
  | y :: r => by
    simp only [List.cons_append, ldk, List.any_cons]
    cases (y.at' 0).str == k with
    | true => rfl
    | false => simp only [cond_false, Bool.false_or]; exact ldk_snoc k x r
def ltL (loads : List D) (x y : D) : Bool := ltI ((ldk (idS x) loads + 1) * (y.at' 1).int) ((ldk (idS y) loads + 1) * (x.at' 1).int)
def ix (l : List D) (k : List UInt8) : Nat := l.findIdx fun x => idS x == k
theorem ix_eq {l : List D} (h : Inc idS l) {i : Nat} {k : List UInt8} (hi : i < l.length) (hk : idS (D.nth l i) = k) : ix l k = i := by
  have h1 : l.findIdx (fun x => idS x == k) < l.length := List.findIdx_lt_length_of_exists ⟨l[i], List.getElem_mem hi, by rw [nth_eq hi] at hk; simp [hk]⟩
  have h2 := List.findIdx_getElem (p := fun x => idS x == k) (w := h1)
  rw [← nth_eq h1] at h2
  have h2 : idS (D.nth l (l.findIdx fun x => idS x == k)) = k := by simpa using h2
  unfold ix
  rcases Decidable.em (l.findIdx (fun x => idS x == k) = i) with h3 | h3
  · exact h3
  · exact absurd (h2.trans hk.symm) (inc_ne h h1 hi h3)
theorem ix_ok {l : List D} (h : Inc idS l) {k : List UInt8} (ha : (l.any fun x => idS x == k) = true) : ix l k < l.length ∧ idS (D.nth l (ix l k)) = k := by
  obtain ⟨j, hj, hp⟩ := (any_nth l _).1 ha
  have hp : idS (D.nth l j) = k := by simpa using hp
  rw [ix_eq h hj hp]
  exact ⟨hj, hp⟩
/-! ### The round, both ways -/
theorem w_weights (l : List D) (hl : InL l) (hw : RW l) : W (fun K _ => f_upstream_weights K (.n l)) (fun r => r = [.i (sumW l l.length)]) := by
  have hl10 := hl.1
  unfold f_upstream_weights
  simp only [D.list_n]
  refine W.bind (p := fun r => r = (0, [.i (sumW l l.length)])) (W.rounds (S := Nat) (fun j => [.i (sumW l j), .n l, .i (l.length : Int), .i (j : Int)]) (fun j => j ≤ l.length) (fun j => l.length - j) (fun j hI rc ih => ?_) 0 (by simp)) ?_
  · have hs := sumW_le hw j hI
    unfold b_upstream_weights_0
    simp only [D.nth_zero, D.nth_succ, D.int_i, D.list_n, Int.toNat_natCast]
    have e1 : IntKind.i64.wrap ((j : Int) + 1) = ((j + 1 : Nat) : Int) := by rw [wrap_i64 (by omega) (by omega)]; omega
    rw [e1]
    refine W.cond (fun h => ?_) (fun h => ?_)
    · simp at h
      refine W.cond (fun _ => ?_) (fun h => by simp at h; omega)
      have hwj : 1 ≤ wt l j ∧ wt l j ≤ 100 := hw j h
      have e2 : IntKind.i64.wrap (sumW l j + ((D.nth l j).at' 1).int) = sumW l (j + 1) := by
        show IntKind.i64.wrap (sumW l j + wt l j) = sumW l j + wt l j
        exact wrap_i64 (by omega) (by omega)
      rw [e2]
      exact ih (j + 1) (by omega) (by omega)
    · simp at h
      have : j = l.length := by omega
      subst this
      exact W.ret rfl
  rintro _ rfl
  exact W.ret rfl
theorem w_round1 (l N : List D) (v : Nat → Int) (hl : InL l) (hN : N.length = l.length) (hb : ∀ i, i < l.length → -10000000 ≤ v i ∧ v i ≤ 10000000) (hv : ∀ i, i < l.length → (D.nth N i).int = v i - wt l i) :
    W (fun K _ => fixN (b_upstream_Round_1 K) K [.i 0, .n l, .i (l.length : Int), .i 0, .n N]) (fun r => ∃ N', r = (0, [.i (am v l.length : Nat), .n N']) ∧ N'.length = l.length ∧ ∀ i, i < l.length → (D.nth N' i).int = v i) := by
  have hl10 := hl.1
  refine W.rounds (S := Nat × List D) (fun q => [.i (am v q.1 : Nat), .n l, .i (l.length : Int), .i (q.1 : Int), .n q.2])
    (fun q => q.1 ≤ l.length ∧ q.2.length = l.length ∧ ∀ i, i < l.length → (D.nth q.2 i).int = bif decide (i < q.1) then v i else v i - wt l i) (fun q => l.length - q.1) (fun q hI rc ih => ?_) (0, N) ⟨by simp, hN, fun i hi => by simpa using hv i hi⟩
  obtain ⟨j, M⟩ := q
  obtain ⟨a1, a2, a3⟩ := hI
  simp only at a1 a2 a3
  unfold b_upstream_Round_1
  simp only [D.nth_zero, D.nth_succ, D.int_i, D.list_n, Int.toNat_natCast]
  have e1 : IntKind.i64.wrap ((j : Int) + 1) = ((j + 1 : Nat) : Int) := by rw [wrap_i64 (by omega) (by omega)]; omega
  rw [e1]
  refine W.cond (fun h => ?_) (fun h => ?_)
  · simp at h
    have hMj : (D.nth M j).int = v j - wt l j := by rw [a3 j h]; simp
    have e2 : IntKind.i64.wrap ((D.nth M j).int + ((D.nth l j).at' 1).int) = v j := by
      have := hb j h
      show IntKind.i64.wrap ((D.nth M j).int + wt l j) = v j
      rw [hMj, show v j - wt l j + wt l j = v j by omega, wrap_i64 (by omega) (by omega)]
    rw [e2]
    have hbest : am v j < l.length := by
      rcases Nat.eq_zero_or_pos j with h0 | h0
      · subst h0; exact h
      · have := am_lt v j h0; omega
    have hlen : (D.setNth M j (.i (v j))).length = l.length := by rw [length_setNth (by omega)]; exact a2
    have hnew : ∀ i, i < l.length → (D.nth (D.setNth M j (.i (v j))) i).int = bif decide (i < j + 1) then v i else v i - wt l i := fun i hi => by
      rw [nth_setNth (by omega)]
      split
      · rename_i he
        subst he
        simp
      · rename_i he
        rw [a3 i hi]
        have : decide (i < j + 1) = decide (i < j) := by rw [decide_eq_decide]; omega
        rw [this]
    have hvb : (D.nth (D.setNth M j (.i (v j))) (am v j)).int = v (am v j) := by
      rw [hnew _ hbest]
      have : am v j < j + 1 := by
        rcases Nat.eq_zero_or_pos j with h0 | h0
        · subst h0; simp [am]
        · have := am_lt v j h0; omega
      simp [this]
    have hvj : (D.nth (D.setNth M j (.i (v j))) j).int = v j := by rw [hnew j h]; simp
    refine W.cond (fun _ => ?_) (fun h => by simp at h; omega)
    refine W.cond (fun _ => ?_) (fun h => absurd (inB_mk (i := (j : Int)) (n := M.length) (by omega) (by omega)) (by rw [h]; simp))
    refine W.cond (fun _ => ?_) (fun h => absurd (inB_mk (i := (j : Int)) (n := M.length) (by omega) (by omega)) (by rw [h]; simp))
    rw [hlen, hvb, hvj]
    refine W.cond (fun _ => ?_) (fun h => absurd (inB_mk (i := (j : Int)) (n := l.length) (by omega) (by omega)) (by rw [h]; simp))
    refine W.cond (fun _ => ?_) (fun h => absurd (inB_mk (i := ((am v j : Nat) : Int)) (n := l.length) (by omega) (by omega)) (by rw [h]; simp))
    have ih := ih (j + 1, D.setNth M j (.i (v j))) ⟨by simp only; omega, hlen, hnew⟩ (by simp only; omega)
    simp only [am] at ih
    refine W.cond (fun hc => ?_) (fun hc => ?_)
    · rw [hc] at ih; exact ih
    · rw [hc] at ih; exact ih
  · simp at h
    have : j = l.length := by omega
    subst this
    exact W.ret ⟨M, rfl, a2, fun i hi => by rw [a3 i hi]; simp [hi]⟩
theorem vR_small {l : List D} (hl : InL l) (hw : RW l) {k i : Nat} (hk : k ≤ 2000) (hi : i < l.length) : (-10000000 ≤ vR l (tkR l k) k i ∧ vR l (tkR l k) k i ≤ 10000000) ∧ (0 ≤ ((k : Int) + 1) * wt l i ∧ ((k : Int) + 1) * wt l i ≤ 300000) ∧ (0 ≤ tkR l k i * sumW l l.length ∧ tkR l k i * sumW l l.length ≤ 3000000) := by
  have hl10 := hl.1
  have h1 := tkR_le l k i
  have h2 := sumW_le hw l.length (Nat.le_refl _)
  have h3 : 1 ≤ wt l i ∧ wt l i ≤ 100 := hw i hi
  have h4 : 0 ≤ ((k : Int) + 1) * wt l i := Int.mul_nonneg (by omega) (by omega)
  have h5 : ((k : Int) + 1) * wt l i ≤ 2001 * 100 := Int.mul_le_mul (by omega) (by omega) (by omega) (by omega)
  have h6 : 0 ≤ tkR l k i * sumW l l.length := Int.mul_nonneg (by omega) (by omega)
  have h7 : tkR l k i * sumW l l.length ≤ 2000 * 1000 := Int.mul_le_mul (by omega) (by omega) (by omega) (by omega)
  unfold vR
  omega
theorem w_Round (l : List D) (hl : InL l) (hz : (D.nth (insD l) 0).int = 0) (m : Int) : W (fun K _ => f_upstream_Round K (.n l) (.i m)) (fun r => r = bif (bif ltI m 0 then true else gtI m 2000) then [.i 1, .n []] else bif ((l.length : Int) == (0 : Int)) then [.i 8, .n []] else [.i 0, .n (outR l m.toNat)]) := by
  have hl10 := hl.1
  have hw := insD_w hl hz
  unfold f_upstream_Round
  refine W.bind (w_CheckInstances l hl) ?_
  rintro _ rfl
  rw [hz]
  simp only [D.list_n, Int.toNat_natCast]
  refine W.cond (fun h => by simp at h) (fun _ => ?_)
  have e0 : (D.nth (p_kit_Outside (.i m) (.i 0) (.i 2000)) 0).bool = (bif ltI m 0 then true else gtI m 2000) := rfl
  rw [e0]
  refine W.cond (fun h => W.ret (by rw [h]; rfl)) (fun h => ?_)
  rw [h, cond_false]
  have hm : 0 ≤ m ∧ m ≤ 2000 := by
    cases h1 : ltI m 0 <;> rw [h1] at h <;> simp at h
    simp at h1
    omega
  refine W.cond (fun h => W.ret (by rw [h]; rfl)) (fun h2 => ?_)
  rw [h2, cond_false]
  have hn0 : 0 < l.length := by
    have : (l.length : Int) ≠ 0 := fun e => by rw [e] at h2; cases h2
    omega
  refine W.cond (fun _ => ?_) (fun h => absurd (lim_mk (n := l.length) (by omega)) (by simpa using h))
  refine W.bind (w_weights l hl hw) ?_
  rintro _ rfl
  simp only [D.nth_zero]
  have hsw := sumW_le hw l.length (Nat.le_refl _)
  refine W.bind (p := fun r => ∃ y, r = (0, [y, .n (outR l m.toNat)])) (W.rounds (S := Nat × List D) (fun q => [.n l, .i (sumW l l.length), .i m, .i (q.1 : Int), .n q.2, .n (outR l q.1)])
    (fun q => (q.1 : Int) ≤ m ∧ q.2.length = l.length ∧ ∀ i, i < l.length → (D.nth q.2 i).int = (q.1 : Int) * wt l i - tkR l q.1 i * sumW l l.length) (fun q => m.toNat - q.1) (fun q hI rc ih => ?_) (0, List.replicate l.length (.n [])) ⟨by simpa using hm.1, by simp, fun i hi => ?_⟩) ?_
  · obtain ⟨k, N⟩ := q
    obtain ⟨a1, a2, a3⟩ := hI
    simp only at a1 a2 a3
    unfold b_upstream_Round_0
    simp only [D.nth_zero, D.nth_succ, D.int_i, D.list_n]
    have e1 : IntKind.i64.wrap ((k : Int) + 1) = ((k + 1 : Nat) : Int) := by rw [wrap_i64 (by omega) (by omega)]; omega
    rw [e1]
    refine W.cond (fun h => ?_) (fun h => ?_)
    · simp at h
      refine W.bind (w_round1 l N (vR l (tkR l k) k) hl a2 (fun i hi => (vR_small hl hw (by omega) hi).1) (fun i hi => ?_)) ?_
      · rw [a3 i hi]
        unfold vR
        rw [Int.add_mul]
        omega
      rintro _ ⟨N', rfl, hN', hv'⟩
      have hb := am_lt (vR l (tkR l k) k) l.length hn0
      have hout := outR_len l k
      simp only [D.nth_zero, D.nth_succ, D.int_i, D.list_n, Int.toNat_natCast]
      rw [hN']
      refine W.cond (fun _ => ?_) (fun h => absurd (inB_mk (i := ((am (vR l (tkR l k) k) l.length : Nat) : Int)) (n := l.length) (by omega) (by omega)) (by rw [h]; simp))
      refine W.cond (fun _ => ?_) (fun h => absurd (inB_mk (i := ((am (vR l (tkR l k) k) l.length : Nat) : Int)) (n := l.length) (by omega) (by omega)) (by rw [h]; simp))
      refine W.cond (fun _ => ?_) (fun h => absurd (inB_mk (i := ((am (vR l (tkR l k) k) l.length : Nat) : Int)) (n := l.length) (by omega) (by omega)) (by rw [h]; simp))
      refine W.cond (fun _ => ?_) (fun h => absurd (lim_mk (n := (outR l k).length + 1) (by omega)) (by rw [h]; simp))
      refine ih (k + 1, _) ⟨by simp only; omega, by simp only; rw [length_setNth (by omega)]; exact hN', fun i hi => ?_⟩ (by simp only; omega)
      simp only
      have hsm := vR_small hl hw (show k ≤ 2000 by omega) hi
      have hsb := (vR_small hl hw (show k ≤ 2000 by omega) hb).1
      rw [nth_setNth (by omega)]
      have hkk : ((k + 1 : Nat) : Int) = (k : Int) + 1 := by omega
      rw [hkk]
      split
      · rename_i he
        subst he
        simp only [D.int_i]
        rw [hv' _ hb, wrap_i64 (by omega) (by omega)]
        have ht : tkR l (k + 1) (am (vR l (tkR l k) k) l.length) = tkR l k (am (vR l (tkR l k) k) l.length) + 1 := by
          simp only [tkR]
          rw [Nat.beq_refl]
          rfl
        have hvR : vR l (tkR l k) k (am (vR l (tkR l k) k) l.length) = ((k : Int) + 1) * wt l (am (vR l (tkR l k) k) l.length) - tkR l k (am (vR l (tkR l k) k) l.length) * sumW l l.length := rfl
        have hadd : (tkR l k (am (vR l (tkR l k) k) l.length) + 1) * sumW l l.length = tkR l k (am (vR l (tkR l k) k) l.length) * sumW l l.length + sumW l l.length := by rw [Int.add_mul, Int.one_mul]
        rw [ht, hadd]
        omega
      · rename_i he
        rw [hv' i hi]
        have ht : tkR l (k + 1) i = tkR l k i := by
          simp only [tkR]
          have : Nat.beq i (am (vR l (tkR l k) k) l.length) = false := by
            cases hq : Nat.beq i (am (vR l (tkR l k) k) l.length) with
            | false => rfl
            | true => exact absurd (Nat.eq_of_beq_eq_true hq) he
          rw [this]
          rfl
        rw [ht]
        rfl
    · simp at h
      have : m.toNat = k := by omega
      rw [this]
      exact W.ret ⟨_, rfl⟩
  · have : D.nth (List.replicate l.length (D.n [])) i = .n [] := by
      rw [nth_eq (by simpa using hi)]; simp
    simp only [this, tkR]
    simp [D.int]
  rintro _ ⟨y, rfl⟩
  exact W.ret rfl
theorem w_round2 (l T : List D) (k : Nat) (hl : InL l) (hw : RW l) (hk : k ≤ 2000) (hn0 : 0 < l.length) (hT : T.length = l.length) (hv : ∀ i, i < l.length → (D.nth T i).int = tkR l k i) :
    W (fun K _ => fixN (b_gateref2_RoundOf_2 K) K [.i (sumW l l.length), .i (k : Int), .i 0, .i 0, .n l, .i (l.length : Int), .i 0, .n T]) (fun r => r = (0, [.i (am (vR l (tkR l k) k) l.length : Nat), .n T])) := by
  have hl10 := hl.1
  refine W.rounds (S := Nat) (fun j => [.i (sumW l l.length), .i (k : Int), .i (am (vR l (tkR l k) k) j : Nat), .i (bif Nat.beq j 0 then 0 else vR l (tkR l k) k (am (vR l (tkR l k) k) j)), .n l, .i (l.length : Int), .i (j : Int), .n T]) (fun j => j ≤ l.length) (fun j => l.length - j) (fun j hI rc ih => ?_) 0 (by simp)
  unfold b_gateref2_RoundOf_2
  simp only [D.nth_zero, D.nth_succ, D.int_i, D.list_n, Int.toNat_natCast]
  have e1 : IntKind.i64.wrap ((j : Int) + 1) = ((j + 1 : Nat) : Int) := by rw [wrap_i64 (by omega) (by omega)]; omega
  rw [e1]
  refine W.cond (fun h => ?_) (fun h => ?_)
  · simp at h
    have hsm := vR_small hl hw hk h
    refine W.cond (fun _ => ?_) (fun h => by simp at h; omega)
    refine W.cond (fun _ => ?_) (fun h => absurd (inB_mk (i := (j : Int)) (n := T.length) (by omega) (by omega)) (by rw [h]; simp))
    have e2 : IntKind.i64.wrap (IntKind.i64.wrap (IntKind.i64.wrap ((k : Int) + 1) * ((D.nth l j).at' 1).int) - IntKind.i64.wrap ((D.nth T j).int * sumW l l.length)) = vR l (tkR l k) k j := by
      rw [hv j h, wrap_i64 (x := (k : Int) + 1) (by omega) (by omega)]
      have ew : ((D.nth l j).at' 1).int = wt l j := rfl
      rw [ew, wrap_i64 (x := ((k : Int) + 1) * wt l j) (by omega) (by omega), wrap_i64 (x := tkR l k j * sumW l l.length) (by omega) (by omega)]
      unfold vR at hsm ⊢
      exact wrap_i64 (by omega) (by omega)
    rw [e2]
    have ih := ih (j + 1) (by omega) (by omega)
    generalize vR l (tkR l k) k = v at ih
    have hb1 : Nat.beq (j + 1) 0 = false := rfl
    rw [hb1] at ih
    simp only [am, cond_false] at ih
    rcases Nat.eq_zero_or_pos j with h0 | h0
    · subst h0
      refine W.cond (fun _ => ?_) (fun h => by simp at h)
      have : gtI (v 0) (v (am v 0)) = false := by simp [am]
      rw [this] at ih
      exact ih
    · have hb2 : Nat.beq j 0 = false := by
        cases hq : Nat.beq j 0 with
        | false => rfl
        | true => exact absurd (Nat.eq_of_beq_eq_true hq) (by omega)
      have hj0 : ((j : Int) == (0 : Int)) = false := by simp; omega
      rw [hj0, hb2]
      simp only [cond_false]
      refine W.cond (fun hc => ?_) (fun hc => ?_)
      · rw [hc] at ih; exact ih
      · rw [hc] at ih; exact ih
  · simp at h
    have : j = l.length := by omega
    subst this
    exact W.ret rfl
theorem w_RoundOf (l : List D) (hl : InL l) (hw : RW l) (hn0 : 0 < l.length) (m : Int) (hm : 0 ≤ m ∧ m ≤ 2000) : W (fun K _ => f_gateref2_RoundOf K (.n l) (.i m)) (fun r => r = [.n (outR l m.toNat)]) := by
  have hl10 := hl.1
  unfold f_gateref2_RoundOf
  simp only [D.list_n, Int.toNat_natCast]
  refine W.bind (p := fun r => r = (0, [.i (sumW l l.length)])) (W.rounds (S := Nat) (fun j => [.i (sumW l j), .n l, .i (l.length : Int), .i (j : Int)]) (fun j => j ≤ l.length) (fun j => l.length - j) (fun j hI rc ih => ?_) 0 (by simp)) ?_
  · have hs := sumW_le hw j hI
    unfold b_gateref2_RoundOf_0
    simp only [D.nth_zero, D.nth_succ, D.int_i, D.list_n, Int.toNat_natCast]
    have e1 : IntKind.i64.wrap ((j : Int) + 1) = ((j + 1 : Nat) : Int) := by rw [wrap_i64 (by omega) (by omega)]; omega
    rw [e1]
    refine W.cond (fun h => ?_) (fun h => ?_)
    · simp at h
      refine W.cond (fun _ => ?_) (fun h => by simp at h; omega)
      have hwj : 1 ≤ wt l j ∧ wt l j ≤ 100 := hw j h
      have e2 : IntKind.i64.wrap (sumW l j + ((D.nth l j).at' 1).int) = sumW l (j + 1) := by
        show IntKind.i64.wrap (sumW l j + wt l j) = sumW l j + wt l j
        exact wrap_i64 (by omega) (by omega)
      rw [e2]
      exact ih (j + 1) (by omega) (by omega)
    · simp at h
      have : j = l.length := by omega
      subst this
      exact W.ret rfl
  rintro _ rfl
  refine W.cond (fun _ => ?_) (fun h => absurd (lim_mk (n := l.length) (by omega)) (by simpa using h))
  simp only [D.nth_zero]
  refine W.bind (p := fun r => ∃ y, r = (0, [y, .n (outR l m.toNat)])) (W.rounds (S := Nat × List D) (fun q => [.n l, .i (sumW l l.length), .i m, .i (q.1 : Int), .n q.2, .n (outR l q.1)])
    (fun q => (q.1 : Int) ≤ m ∧ q.2.length = l.length ∧ ∀ i, i < l.length → (D.nth q.2 i).int = tkR l q.1 i) (fun q => m.toNat - q.1) (fun q hI rc ih => ?_) (0, List.replicate l.length (.n [])) ⟨by simpa using hm.1, by simp, fun i hi => ?_⟩) ?_
  · obtain ⟨k, T⟩ := q
    obtain ⟨a1, a2, a3⟩ := hI
    simp only at a1 a2 a3
    unfold b_gateref2_RoundOf_1
    simp only [D.nth_zero, D.nth_succ, D.int_i, D.list_n]
    have e1 : IntKind.i64.wrap ((k : Int) + 1) = ((k + 1 : Nat) : Int) := by rw [wrap_i64 (by omega) (by omega)]; omega
    rw [e1]
    refine W.cond (fun h => ?_) (fun h => ?_)
    · simp at h
      refine W.bind (w_round2 l T k hl hw (by omega) hn0 a2 a3) ?_
      rintro _ rfl
      have hb := am_lt (vR l (tkR l k) k) l.length hn0
      have hout := outR_len l k
      have htk := tkR_le l k (am (vR l (tkR l k) k) l.length)
      simp only [D.nth_zero, D.nth_succ, D.int_i, D.list_n, Int.toNat_natCast]
      rw [a2]
      refine W.cond (fun _ => ?_) (fun h => absurd (inB_mk (i := ((am (vR l (tkR l k) k) l.length : Nat) : Int)) (n := l.length) (by omega) (by omega)) (by rw [h]; simp))
      refine W.cond (fun _ => ?_) (fun h => absurd (inB_mk (i := ((am (vR l (tkR l k) k) l.length : Nat) : Int)) (n := l.length) (by omega) (by omega)) (by rw [h]; simp))
      refine W.cond (fun _ => ?_) (fun h => absurd (inB_mk (i := ((am (vR l (tkR l k) k) l.length : Nat) : Int)) (n := l.length) (by omega) (by omega)) (by rw [h]; simp))
      refine W.cond (fun _ => ?_) (fun h => absurd (lim_mk (n := (outR l k).length + 1) (by omega)) (by rw [h]; simp))
      refine ih (k + 1, _) ⟨by simp only; omega, by simp only; rw [length_setNth (by omega)]; exact a2, fun i hi => ?_⟩ (by simp only; omega)
      simp only
      rw [nth_setNth (by omega)]
      split
      · rename_i he
        subst he
        simp only [D.int_i, tkR]
        rw [a3 _ hb, wrap_i64 (by omega) (by omega), Nat.beq_refl]
        rfl
      · rename_i he
        rw [a3 i hi]
        simp only [tkR]
        have : Nat.beq i (am (vR l (tkR l k) k) l.length) = false := by
          cases hq : Nat.beq i (am (vR l (tkR l k) k) l.length) with
          | false => rfl
          | true => exact absurd (Nat.eq_of_beq_eq_true hq) he
        rw [this]
        rfl
    · simp at h
      have : m.toNat = k := by omega
      rw [this]
      exact W.ret ⟨_, rfl⟩
  · have : D.nth (List.replicate l.length (D.n [])) i = .n [] := by
      rw [nth_eq (by simpa using hi)]; simp
    simp only [this, tkR]
    rfl
  rintro _ ⟨y, rfl⟩
  exact W.ret rfl
/-! ### Keys and loads that are drawn -/
theorem w_PickI (c : Int) (s : D) (l : List Int) (hs : St c s) (hc : c ≤ 999999999999) (h1 : l ≠ []) (h2 : l.length ≤ 100) : W (fun K _ => f_gatemake_Stream_Pick K s (.n (l.map D.i))) (fun r => ∃ x s' t, r = [.i x, s', t] ∧ x ∈ l ∧ St (c + 1) s') := by
  refine (w_Pick c s (l.map D.i) hs (by omega) (by simpa using h1) (by simp; omega)).mono ?_
  rintro _ ⟨x, s', t, rfl, hx, h⟩
  obtain ⟨y, hy, rfl⟩ := List.mem_map.1 hx
  exact ⟨y, s', t, rfl, hy, h⟩
theorem w_HashKey (c : Int) (s : D) (hs : St c s) (hc : c ≤ 999999999900) : W (fun K _ => f_gatemake_Stream_HashKey K s) (fun r => ∃ k s', r = [.s k, s'] ∧ k.length ≤ 100 ∧ St (c + 1) s') := by
  unfold f_gatemake_Stream_HashKey
  refine W.bind (p := fun r => r = [.s (List.replicate 41 107)]) ⟨_, rfl, 0, fun K n _ _ => by kernel_rfl⟩ ?_
  rintro _ rfl
  simp only [D.nth_zero]
  refine W.bind (w_Some _ s _ hs (by omega) (by simp) (by simp)) ?_
  rintro _ ⟨x, s2, t, rfl, hx, h2⟩
  simp only [List.mem_cons, List.not_mem_nil, or_false] at hx
  rcases hx with rfl | rfl | rfl | rfl | rfl | rfl | rfl | rfl <;> exact W.ret ⟨_, s2, rfl, by simp, h2⟩
def Ld (x : D) : Prop := ∃ a m, x = .n [.s a, .i m]
def LdL (l : List D) : Prop := l.length ≤ 20 ∧ ∀ x ∈ l, Ld x
theorem LdL.nth {l : List D} {j : Nat} (h : LdL l) (hj : j < l.length) : ∃ a m, D.nth l j = .n [.s a, .i m] ∧ (D.nth l j).at' 0 = .s a ∧ (D.nth l j).at' 1 = .i m := by
  obtain ⟨a, m, h1⟩ := h.2 _ (nth_mem hj)
  exact ⟨a, m, h1, by rw [h1]; rfl, by rw [h1]; rfl⟩
theorem w_Loads (c : Int) (s : D) (l : List D) (hl : InL l) (hs : St c s) (hc : c ≤ 999999990000) : W (fun K _ => f_gatemake_Stream_Loads K s (.n l)) (fun r => ∃ s' p, r = [s', .n l, .n p] ∧ LdL p ∧ St (c + 100) s') := by
  have hl10 := hl.1
  unfold f_gatemake_Stream_Loads
  simp only [D.list_n]
  refine W.bind (p := fun r => ∃ s' p, r = (0, [s', .n l, .n p]) ∧ p.length ≤ 10 ∧ (∀ x ∈ p, Ld x) ∧ St (c + 50) s') (W.rounds (S := Nat × D × List D) (fun q => [.i (l.length : Int), .i (q.1 : Int), q.2.1, .n l, .n q.2.2]) (fun q => q.1 ≤ l.length ∧ q.2.2.length ≤ q.1 ∧ (∀ x ∈ q.2.2, Ld x) ∧ St (c + 4 * q.1) q.2.1) (fun q => l.length - q.1) (fun q hI rc ih => ?_) (0, s, []) ⟨by simp, by simp, by simp, by simpa using hs⟩) ?_
  · obtain ⟨j, s2, out⟩ := q
    obtain ⟨a1, a2, a3, a4⟩ := hI
    simp only at a1 a2 a3 a4
    unfold b_gatemake_Stream_Loads_0
    simp only [D.nth_zero, D.nth_succ, D.int_i, D.list_n, Int.toNat_natCast]
    have e1 : IntKind.i64.wrap ((j : Int) + 1) = ((j + 1 : Nat) : Int) := by rw [wrap_i64 (by omega) (by omega)]; omega
    rw [e1]
    refine W.cond (fun h => ?_) (fun h => ?_)
    · simp at h
      refine W.cond (fun _ => ?_) (fun h => by simp at h; omega)
      obtain ⟨a, w, hx, ha, hx0, hx1⟩ := hl.nth h
      refine W.bind (w_Flip _ _ s2 a4 (by omega) (by simp)) ?_
      rintro _ ⟨b, s3, rfl, h3⟩
      simp only [D.nth_zero, D.nth_succ, D.bool_b]
      refine W.cond (fun _ => ?_) (fun _ => ?_)
      · refine W.bind (w_PickI _ s3 [0, 0, 1, 2, 3, 7, 20] h3 (by omega) (by simp) (by simp)) ?_
        rintro _ ⟨m, s4, t, rfl, _, h4⟩
        simp only [D.nth_zero, D.nth_succ]
        refine W.cond (fun _ => ?_) (fun h => absurd (lim_mk (n := out.length + 1) (by omega)) (by rw [h]; simp))
        rw [hx0]
        refine ih (j + 1, s4, out ++ [_]) ⟨by simp only; omega, by simp; omega, fun y hy => ?_, h4.le (by simp only; omega)⟩ (by simp only; omega)
        rcases List.mem_append.1 hy with hy | hy
        · exact a3 y hy
        · simp only [List.mem_singleton] at hy
          subst hy
          exact ⟨_, _, rfl⟩
      · exact ih (j + 1, s3, out) ⟨by simp only; omega, by simp only; omega, a3, h3.le (by simp only; omega)⟩ (by simp only; omega)
    · simp at h
      exact W.ret ⟨s2, out, rfl, by omega, a3, a4.le (by omega)⟩
  · rintro _ ⟨s2, p, rfl, hp1, hp2, h2⟩
    simp only [D.nth_zero, D.nth_succ, D.list_n]
    refine W.bind (w_Flip _ _ s2 h2 (by omega) (by simp)) ?_
    rintro _ ⟨b, s3, rfl, h3⟩
    simp only [D.nth_zero, D.nth_succ, D.bool_b]
    refine W.cond (fun _ => ?_) (fun _ => W.ret ⟨s3, p, rfl, ⟨by omega, hp2⟩, h3.le (by omega)⟩)
    refine W.bind (w_Some _ s3 _ h3 (by omega) (by simp) (by simp)) ?_
    rintro _ ⟨x, s4, t, rfl, hx, h4⟩
    simp only [D.nth_zero, D.nth_succ]
    refine W.bind (w_Odd _ 0 1000000 s4 h4 (by omega) (by omega) (by omega) (by omega)) ?_
    rintro _ ⟨z, s5, rfl, _, _, h5⟩
    simp only [D.nth_zero, D.nth_succ]
    refine W.cond (fun _ => W.ret ⟨s5, _, rfl, ⟨by simp; omega, fun y hy => ?_⟩, h5.le (by omega)⟩) (fun h => absurd (lim_mk (n := p.length + 1) (by omega)) (by rw [h]; simp))
    rcases List.mem_append.1 hy with hy | hy
    · exact hp2 y hy
    · simp only [List.mem_singleton] at hy
      subst hy
      simp only [List.mem_cons, List.not_mem_nil, or_false] at hx
      rcases hx with rfl | rfl | rfl <;> exact ⟨_, _, rfl⟩
/-! ### Right loads -/
theorem errScan_i (F : Nat → Int) (m : Nat) : ∃ n : Int, errD (scan (errAt F) (1, []) m 0) = [.i n] := by
  rcases scan_cases (errAt F) (1, []) m 0 with ⟨i, r, h1, h2, h3, h4, _⟩ | ⟨h1, h2⟩
  · rw [h4]
    unfold errAt at h3
    cases hc : F i != 0 with
    | false => rw [hc] at h3; cases h3
    | true => rw [hc] at h3; cases h3; exact ⟨_, rfl⟩
  · rw [h2]; exact ⟨0, rfl⟩
theorem insD_i (l : List D) : ∃ n : Int, insD l = [.i n] := by
  unfold insD
  cases gtI (l.length : Int) 50 with
  | true => exact ⟨2, rfl⟩
  | false => exact errScan_i _ _
theorem nz {n : Int} (h : (n != 0) = true) : (n == 0) = false := by simpa [bne] using h
theorem insD_ne {l : List D} (hl : InL l) (h : (D.nth (insD l) 0).int = 0) : ∀ j, j < l.length → idS (D.nth l j) ≠ [] := by
  have hl10 := hl.1
  have hg : gtI (l.length : Int) 50 = false := by simp; omega
  unfold insD at h
  rw [hg, cond_false] at h
  rcases scan_cases (errAt (insF l)) (1, []) l.length 0 with ⟨i, r, h1, h2, h3, h4, h5⟩ | ⟨h1, h2⟩
  · exfalso
    unfold insR at h
    rw [h4] at h
    unfold errAt at h3
    cases hc : insF l i != 0 with
    | false => rw [hc] at h3; cases h3
    | true =>
      rw [hc] at h3
      cases h3
      have : insF l i = 0 := h
      simp [this] at hc
  · intro j hj
    have hz := errAt_none_iff (h1 j (Nat.zero_le _) (by omega))
    unfold insF at hz
    cases hk : keyB (idS (D.nth l j)) with
    | false => rw [hk] at hz; simp at hz
    | true => exact keyB_ne hk
def oB (x : D) : Bool := bif ltI (x.at' 1).int 0 then true else gtI (x.at' 1).int 1000000
def ldF (l r : List D) (j : Nat) : Int := bif !(l.any fun x => idS x == idS (D.nth r j)) then 8 else bif ordI r j then 7 else bif oB (D.nth r j) then 1 else 0
def ldD (l r : List D) : List D := bif gtI (r.length : Int) 50 then [.i 2] else errD (scan (errAt (ldF l r)) (1, []) r.length 0)
theorem ldD_i (l r : List D) : ∃ n : Int, ldD l r = [.i n] := by
  unfold ldD
  cases gtI (r.length : Int) 50 with
  | true => exact ⟨2, rfl⟩
  | false => exact errScan_i _ _
theorem w_LoadsFault (l r : List D) (hl : InL l) (hz : (D.nth (insD l) 0).int = 0) (hr : LdL r) : W (fun K _ => f_gateref2_LoadsFault K (.n l) (.n r)) (fun x => x = ldD l r) := by
  have hr20 := hr.1
  have hne := insD_ne hl hz
  unfold f_gateref2_LoadsFault ldD
  simp only [D.list_n]
  refine W.cond (fun h => W.ret (by rw [h]; rfl)) (fun h => ?_)
  rw [h, cond_false]
  refine W.bind (W.early r.length (fun j => [.n l, bif j.beq 0 then .s [] else (D.nth r (j - 1)).at' 0, .n r, .i r.length, .i j]) (errAt (ldF l r)) (1, []) (fun j hj hp p rc g1 g2 => ?_) (fun rc => ?_)) ?_
  · unfold b_gateref2_LoadsFault_0
    simp only [D.nth_zero, D.nth_succ, D.int_i, D.list_n, Int.toNat_natCast]
    obtain ⟨a, m, hx, hx0, hx1⟩ := hr.nth hj
    have hid : idS (D.nth r j) = a := by unfold idS; rw [hx0]; rfl
    refine W.cond (fun _ => ?_) (fun h => by simp at h; omega)
    refine W.cond (fun _ => ?_) (fun h => by simp at h; omega)
    rw [hx0]
    refine W.bind (w_InstanceAt l a hl) ?_
    rintro _ ⟨i, rfl, hi⟩
    simp only [D.nth_zero, D.int_i, D.str_s]
    rw [hi]
    refine W.cond (fun hq => W.ret (g1 _ ?_)) (fun hq => ?_)
    · exact errAt_some (by simp only [ldF, hid, hq, cond_true]) (by omega)
    have hane : a ≠ [] := by
      have : (l.any fun x => idS x == a) = true := by simpa using hq
      obtain ⟨q, hq1, hq2⟩ := (any_nth l _).1 this
      have hq2 : idS (D.nth l q) = a := by simpa using hq2
      rw [← hq2]; exact hne q hq1
    have hord : (Op.bytesLess a (bif j.beq 0 then D.s [] else (D.nth r (j - 1)).at' 0).str || (a == (bif j.beq 0 then D.s [] else (D.nth r (j - 1)).at' 0).str)) = ordI r j := by
      unfold ordI
      rw [hid]
      cases j with
      | zero =>
        have : (a == ([] : List UInt8)) = false := by simpa using hane
        simp [less_nil, this]
      | succ j =>
        have hg : gtI ((j + 1 : Nat) : Int) 0 = true := by simp
        rw [hg]
        rfl
    rw [hord]
    refine W.cond (fun ho => W.ret (g1 _ ?_)) (fun ho => ?_)
    · exact errAt_some (by simp only [ldF, hid, hq, ho, cond_true, cond_false]) (by omega)
    simp only [p_gateref2_in, D.nth_zero, D.bool_b, D.int_i, in_out]
    refine W.cond (fun hb => W.ret (g1 _ ?_)) (fun hb => ?_)
    · have : oB (D.nth r j) = true := hb
      exact errAt_some (by simp only [ldF, hid, hq, ho, this, cond_true, cond_false]) (by omega)
    · have : oB (D.nth r j) = false := hb
      rw [wrap_i64 (x := (j : Int) + 1) (by omega) (by omega)]
      have h2 := g2 (errAt_none (by simp only [ldF, hid, hq, ho, this, cond_false]))
      simp only [Nat.beq, Nat.add_sub_cancel, cond_false, hx0] at h2
      exact h2
  · unfold b_gateref2_LoadsFault_0
    simp only [D.nth_zero, D.nth_succ, D.int_i]
    exact W.cond (fun h => by simp at h) (fun _ => W.ret rfl)
  · rintro _ rfl
    generalize scan (errAt (ldF l r)) (1, []) r.length 0 = r
    unfold errD
    exact W.cond (fun h => W.ret (by rw [h]; rfl)) (fun h => W.ret (by rw [h]; rfl))
theorem ldD_zero {l r : List D} (hr : LdL r) (h : (D.nth (ldD l r) 0).int = 0) : ∀ j, j < r.length → ldF l r j = 0 := by
  have hr20 := hr.1
  have hg : gtI (r.length : Int) 50 = false := by simp; omega
  unfold ldD at h
  rw [hg, cond_false] at h
  rcases scan_cases (errAt (ldF l r)) (1, []) r.length 0 with ⟨i, q, h1, h2, h3, h4, h5⟩ | ⟨h1, h2⟩
  · exfalso
    rw [h4] at h
    unfold errAt at h3
    cases hc : ldF l r i != 0 with
    | false => rw [hc] at h3; cases h3
    | true =>
      rw [hc] at h3
      cases h3
      have : ldF l r i = 0 := h
      simp [this] at hc
  · exact fun j hj => errAt_none_iff (h1 j (Nat.zero_le _) (by omega))
theorem ldF_ok {l r : List D} {j : Nat} (h : ldF l r j = 0) : (l.any fun x => idS x == idS (D.nth r j)) = true ∧ ordI r j = false ∧ 0 ≤ ((D.nth r j).at' 1).int ∧ ((D.nth r j).at' 1).int ≤ 1000000 := by
  unfold ldF at h
  cases h1 : (l.any fun x => idS x == idS (D.nth r j)) with
  | false => rw [h1] at h; simp at h
  | true =>
    rw [h1] at h
    cases h2 : ordI r j with
    | true => rw [h2] at h; simp at h
    | false =>
      rw [h2] at h
      cases h3 : oB (D.nth r j) with
      | true => rw [h3] at h; simp at h
      | false =>
        refine ⟨rfl, rfl, ?_⟩
        unfold oB at h3
        cases h4 : ltI ((D.nth r j).at' 1).int 0 <;> rw [h4] at h3 <;> simp at h3
        simp at h4
        omega
theorem ord_inc {r : List D} {m : Nat} (h : ∀ j, j < m → ordI r j = false) : ∀ b, b < m → ∀ a, a < b → Op.bytesLess (idS (D.nth r a)) (idS (D.nth r b)) = true := by
  have step : ∀ j, j + 1 < m → Op.bytesLess (idS (D.nth r j)) (idS (D.nth r (j + 1))) = true := fun j hj => by
    have ho := h (j + 1) hj
    unfold ordI at ho
    have hg : gtI ((j + 1 : Nat) : Int) 0 = true := by simp
    rw [hg, cond_true, Bool.or_eq_false_iff, Nat.add_sub_cancel] at ho
    exact less_total ho.1 (by simpa using ho.2)
  intro b
  induction b with
  | zero => intro _ a ha; omega
  | succ b ih =>
    intro hb a ha
    by_cases he : a = b
    · subst he; exact step a hb
    · exact less_trans (ih (by omega) a (by omega)) (step b hb)
/-! ### The loads of all instances -/
def arrL (l r : List D) : Nat → List D
  | 0 => List.replicate l.length (.n [])
  | j + 1 => D.setNth (arrL l r j) (ix l (idS (D.nth r j))) ((D.nth r j).at' 1)
theorem ldk_none {k : List UInt8} : ∀ {r : List D}, (∀ q, q < r.length → idS (D.nth r q) ≠ k) → ldk k r = 0
  | [], _ => rfl
  | x :: r, h => by
    have h0 : ((x.at' 0).str == k) = false := by simpa [idS] using h 0 (by simp)
    simp only [ldk, h0, cond_false]
    exact ldk_none fun q hq => by simpa using h (q + 1) (by simpa using hq)
theorem ldk_first {k : List UInt8} : ∀ {r : List D} {i : Nat}, i < r.length → (∀ q, q < i → idS (D.nth r q) ≠ k) → idS (D.nth r i) = k → ldk k r = ((D.nth r i).at' 1).int
  | x :: r, 0, _, _, h => by
    have h0 : ((x.at' 0).str == k) = true := by simpa [idS] using h
    simp only [ldk, h0, cond_true]
    rfl
  | x :: r, i + 1, hi, h1, h2 => by
    have h0 : ((x.at' 0).str == k) = false := by simpa [idS] using h1 0 (by omega)
    simp only [ldk, h0, cond_false]
    exact ldk_first (r := r) (i := i) (by simpa using hi) (fun q hq => by simpa using h1 (q + 1) (by omega)) (by simpa using h2)
theorem nth_take {l : List D} {m q : Nat} (h : q < m) : D.nth (l.take m) q = D.nth l q := by
  rcases Nat.lt_or_ge q l.length with h1 | h1
  · rw [nth_eq (by simp; omega), nth_eq h1, List.getElem_take]
  · rw [nth_none (by simp; omega), nth_none h1]
theorem arrL_ok {l r : List D} (hinc : Inc idS l) : ∀ m, m ≤ r.length → (∀ j, j < m → ldF l r j = 0) → (arrL l r m).length = l.length ∧ ∀ i, i < l.length → (D.nth (arrL l r m) i).int = ldk (idS (D.nth l i)) (r.take m)
  | 0, _, _ => ⟨by simp [arrL], fun i hi => by
      have : D.nth (List.replicate l.length (D.n [])) i = .n [] := by
        rw [nth_eq (by simpa using hi)]; simp
      simp [arrL, this, ldk, D.int]⟩
  | m + 1, hm, h => by
    obtain ⟨h1, h2⟩ := arrL_ok hinc m (by omega) fun j hj => h j (by omega)
    obtain ⟨ha, _, _⟩ := ldF_ok (h m (by omega))
    obtain ⟨hx1, hx2⟩ := ix_ok hinc ha
    have hlt := ord_inc (r := r) (m := m + 1) fun j hj => (ldF_ok (h j hj)).2.1
    refine ⟨by simp only [arrL]; rw [length_setNth (by omega)]; exact h1, fun i hi => ?_⟩
    simp only [arrL]
    rw [nth_setNth (by omega), take_nth (by omega), ldk_snoc]
    have hno : ∀ k : List UInt8, k = idS (D.nth r m) → ((r.take m).any fun y => (y.at' 0).str == k) = false := fun k hk => by
      cases hq : (r.take m).any fun y => (y.at' 0).str == k with
      | false => rfl
      | true =>
        obtain ⟨q, hq1, hq2⟩ := (any_nth _ _).1 hq
        have hqm : q < m := by simp at hq1; omega
        rw [nth_take hqm] at hq2
        have hq2 : idS (D.nth r q) = k := by simpa [idS] using hq2
        have := hlt m (by omega) q hqm
        rw [hq2, hk, less_irrefl] at this
        cases this
    split
    · rename_i he
      subst he
      rw [hno _ hx2]
      have : (((D.nth r m).at' 0).str == idS (D.nth l (ix l (idS (D.nth r m))))) = true := by rw [hx2]; simp [idS]
      rw [this]
      rfl
    · rename_i he
      rw [h2 i hi]
      have hne : (((D.nth r m).at' 0).str == idS (D.nth l i)) = false := by
        have := inc_ne hinc hi hx1 he
        rw [hx2] at this
        simpa [idS] using fun e => this e.symm
      rw [hne, cond_false]
      cases hq : (r.take m).any fun y => (y.at' 0).str == idS (D.nth l i) with
      | true => rfl
      | false =>
        refine ldk_none fun q hq1 e => ?_
        have : ((r.take m).any fun y => (y.at' 0).str == idS (D.nth l i)) = true := (any_nth _ _).2 ⟨q, hq1, by simpa [idS] using e⟩
        rw [this] at hq
        cases hq
theorem w_loadsOf (l r : List D) (hl : InL l) (hz : (D.nth (insD l) 0).int = 0) (hr : LdL r) : W (fun K _ => f_upstream_loadsOf K (.n l) (.n r)) (fun x => x = [D.nth (ldD l r) 0, .n (bif ((D.nth (ldD l r) 0).int == 0) then arrL l r r.length else [])]) := by
  have hl10 := hl.1
  have hr20 := hr.1
  have hinc := insD_zero hl hz
  unfold f_upstream_loadsOf
  refine W.bind (w_CheckInstances l hl) ?_
  rintro _ rfl
  rw [hz]
  simp only [D.list_n, Int.toNat_natCast]
  refine W.cond (fun h => by simp at h) (fun _ => ?_)
  unfold ldD
  refine W.cond (fun h => W.ret (by rw [h]; rfl)) (fun h => ?_)
  rw [h, cond_false]
  refine W.cond (fun _ => ?_) (fun h => absurd (lim_mk (n := l.length) (by omega)) (by simpa using h))
  refine W.bind (W.early r.length (fun j => [.n l, .n r, .n r, .i r.length, .i j, .n (arrL l r j)]) (fun j => bif ldF l r j != 0 then some (0, [.i (ldF l r j), .n (arrL l r j)]) else none) (1, [.n (arrL l r r.length)]) (fun j hj hp p rc g1 g2 => ?_) (fun rc => ?_)) ?_
  · have hp' : ∀ k, k < j → ldF l r k = 0 := fun k hk => by
      have := hp k hk
      cases h1 : ldF l r k != 0 with
      | true => rw [h1] at this; cases this
      | false => simpa using h1
    have hal := (arrL_ok hinc j (by omega) hp').1
    unfold b_upstream_loadsOf_0
    simp only [D.nth_zero, D.nth_succ, D.int_i, D.list_n, Int.toNat_natCast]
    obtain ⟨a, m, hx, hx0, hx1⟩ := hr.nth hj
    have hid : idS (D.nth r j) = a := by unfold idS; rw [hx0]; rfl
    have fire : ∀ n : Int, ldF l r j = n → n ≠ 0 → p (0, [.i n, .n (arrL l r j)]) := fun n h1 h2 => g1 _ (by
      have : (n != 0) = true := by simpa using h2
      rw [h1, this]; rfl)
    refine W.cond (fun _ => ?_) (fun h => by simp at h; omega)
    refine W.cond (fun _ => ?_) (fun h => by simp at h; omega)
    rw [hx0]
    refine W.bind (w_place l a hl hinc) ?_
    rintro _ ⟨i, rfl, hi⟩
    simp only [D.nth_zero, D.nth_succ, D.bool_b, D.int_i, Int.toNat_natCast]
    refine W.cond (fun hq => W.ret (fire 8 ?_ (by omega))) (fun hq => ?_)
    · simp only [ldF, hid, hq, cond_true]
    have hw : IntKind.i64.wrap ((j : Int) - 1) = (j : Int) - 1 := wrap_i64 (by omega) (by omega)
    have hnn : ((j : Int) - 1).toNat = j - 1 := by omega
    rw [hw, hnn]
    refine W.cond (fun _ => ?_) (fun h => by simp at h; omega)
    have hord : (bif gtI (j : Int) 0 then (Op.bytesLess (D.s a).str ((D.nth r (j - 1)).at' 0).str || ((D.s a).str == ((D.nth r (j - 1)).at' 0).str)) else false) = ordI r j := by unfold ordI; rw [hid]; rfl
    rw [hord]
    refine W.cond (fun ho => W.ret (fire 7 ?_ (by omega))) (fun ho => ?_)
    · simp only [ldF, hid, hq, ho, cond_true, cond_false]
    have hob : (D.nth (p_kit_Outside ((D.nth r j).at' 1) (.i 0) (.i 1000000)) 0).bool = oB (D.nth r j) := rfl
    rw [hob]
    refine W.cond (fun hb => W.ret (fire 1 ?_ (by omega))) (fun hb => ?_)
    · simp only [ldF, hid, hq, ho, hb, cond_true, cond_false]
    have ha : (l.any fun x => idS x == a) = true := by simpa using hq
    obtain ⟨hi1, hi2⟩ := hi ha
    refine W.cond (fun _ => ?_) (fun h => absurd (inB_mk (i := (i : Int)) (n := (arrL l r j).length) (by omega) (by omega)) (by rw [h]; simp))
    rw [wrap_i64 (x := (j : Int) + 1) (by omega) (by omega)]
    have h0 : ldF l r j = 0 := by simp only [ldF, hid, hq, ho, hb, cond_false]
    have h2 := g2 (by rw [h0]; rfl)
    simp only [arrL, hid] at h2
    rw [ix_eq hinc hi1 hi2] at h2
    exact h2
  · unfold b_upstream_loadsOf_0
    simp only [D.nth_zero, D.nth_succ, D.int_i, D.list_n]
    exact W.cond (fun h => by simp at h) (fun _ => W.ret rfl)
  · rintro _ rfl
    rcases scan_cases (fun j => bif ldF l r j != 0 then some (0, [D.i (ldF l r j), .n (arrL l r j)]) else none) (1, [.n (arrL l r r.length)]) r.length 0 with ⟨i, q, h1, h2, h3, h4, h5⟩ | ⟨h1, h2⟩
    · cases hc : ldF l r i != 0 with
      | false => rw [hc] at h3; cases h3
      | true =>
        rw [hc] at h3
        cases h3
        rw [h4]
        have hsc : scan (errAt (ldF l r)) (1, []) r.length 0 = (0, [.i (ldF l r i)]) := by
          rcases scan_cases (errAt (ldF l r)) (1, []) r.length 0 with ⟨i', q', g1, g2, g3, g4, g5⟩ | ⟨g1, g2⟩
          · have hii : i' = i := by
              rcases Nat.lt_trichotomy i i' with hlt | he | hlt
              · have := errAt_none_iff (g5 i h1 hlt)
                rw [this] at hc; simp at hc
              · exact he.symm
              · have h6 := h5 i' g1 hlt
                unfold errAt at g3
                cases hc' : ldF l r i' != 0 with
                | false => rw [hc'] at g3; cases g3
                | true => rw [hc'] at h6; cases h6
            subst hii
            rw [g4]
            unfold errAt at g3
            rw [hc] at g3
            cases g3
            rfl
          · have := errAt_none_iff (g1 i h1 h2)
            rw [this] at hc; simp at hc
        rw [hsc]
        have hcz : (ldF l r i == 0) = false := nz hc
        refine W.cond (fun _ => W.ret ?_) (fun h => by simp at h)
        simp only [errD, Nat.beq, cond_true, D.nth_zero, D.int_i, hcz, cond_false]
    · have hsc : scan (errAt (ldF l r)) (1, []) r.length 0 = (1, []) := by
        rcases scan_cases (errAt (ldF l r)) (1, []) r.length 0 with ⟨i', q', g1, g2, g3, g4, g5⟩ | ⟨g1, g2⟩
        · have h6 := h1 i' g1 g2
          unfold errAt at g3
          cases hc' : ldF l r i' != 0 with
          | false => rw [hc'] at g3; cases g3
          | true => rw [hc'] at h6; cases h6
        · exact g2
      rw [h2, hsc]
      refine W.cond (fun h => by simp at h) (fun _ => W.ret ?_)
      rfl
theorem w_loadOf (r : List D) (hr : LdL r) (k : List UInt8) : W (fun K _ => f_gateref2_loadOf K (.n r) (.s k)) (fun x => x = [.i (ldk k r)]) := by
  have hr20 := hr.1
  unfold f_gateref2_loadOf
  simp only [D.list_n]
  refine W.bind (W.early r.length (fun j => [.s k, .n r, .i r.length, .i j]) (fun j => bif idS (D.nth r j) == k then some (0, [(D.nth r j).at' 1]) else none) (1, []) (fun j hj hp p rc g1 g2 => ?_) (fun rc => ?_)) ?_
  · unfold b_gateref2_loadOf_0
    simp only [D.nth_zero, D.nth_succ, D.int_i, D.list_n, D.str_s, Int.toNat_natCast]
    refine W.cond (fun _ => ?_) (fun h => by simp at h; omega)
    refine W.cond (fun _ => ?_) (fun h => by simp at h; omega)
    refine W.cond (fun h => W.ret (g1 _ ?_)) (fun h => ?_)
    · have : (idS (D.nth r j) == k) = true := h
      rw [this]; rfl
    · have : (idS (D.nth r j) == k) = false := h
      rw [wrap_i64 (by omega) (by omega)]
      exact g2 (by rw [this]; rfl)
  · unfold b_gateref2_loadOf_0
    simp only [D.nth_zero, D.nth_succ, D.int_i, D.list_n]
    exact W.cond (fun h => by simp at h) (fun _ => W.ret rfl)
  · rintro _ rfl
    rcases scan_cases (fun j => bif idS (D.nth r j) == k then some (0, [(D.nth r j).at' 1]) else none) (1, []) r.length 0 with ⟨i, q, h1, h2, h3, h4, h5⟩ | ⟨h1, h2⟩
    · cases hc : idS (D.nth r i) == k with
      | false => rw [hc] at h3; cases h3
      | true =>
        rw [hc] at h3
        cases h3
        rw [h4]
        have hf := ldk_first (r := r) (k := k) (i := i) (by omega) (fun q hq e => by
          have := h5 q (Nat.zero_le _) hq
          have he : (idS (D.nth r q) == k) = true := by simpa using e
          rw [he] at this
          cases this) (by simpa using hc)
        obtain ⟨a, m, hx, hx0, hx1⟩ := hr.nth (j := i) (by omega)
        refine W.cond (fun _ => W.ret ?_) (fun h => by simp at h)
        rw [hf, hx1]
        rfl
    · rw [h2, ldk_none (r := r) (k := k) (fun q hq e => by
        have := h1 q (Nat.zero_le _) (by omega)
        have he : (idS (D.nth r q) == k) = true := by simpa using e
        rw [he] at this
        cases this)]
      exact W.cond (fun h => by simp at h) (fun _ => W.ret rfl)
/-! ### The least load -/
def LdOK (r : List D) : Prop := ∀ j, j < r.length → 0 ≤ ((D.nth r j).at' 1).int ∧ ((D.nth r j).at' 1).int ≤ 1000000
theorem ldk_small {r : List D} (h : LdOK r) (k : List UInt8) : 0 ≤ ldk k r ∧ ldk k r ≤ 1000000 := by
  induction r with
  | nil => simp [ldk]
  | cons x r ih =>
    have h0 := h 0 (by simp)
    have ih := ih fun j hj => by simpa using h (j + 1) (by simpa using hj)
    simp only [ldk]
    cases (x.at' 0).str == k with
    | true => simpa using h0
    | false => exact ih
def bi (lt : D → D → Bool) (l : List D) : Nat → Nat
  | 0 => 0
  | i + 1 => bif lt (D.nth l (i + 1)) (D.nth l (bi lt l i)) then i + 1 else bi lt l i
theorem bi_fm (lt : D → D → Bool) (l : List D) : ∀ i, bi lt l i ≤ i ∧ fm lt l i = D.nth l (bi lt l i)
  | 0 => ⟨Nat.le_refl _, rfl⟩
  | i + 1 => by
    obtain ⟨h1, h2⟩ := bi_fm lt l i
    simp only [bi, fm]
    rw [h2]
    cases lt (D.nth l (i + 1)) (D.nth l (bi lt l i)) with
    | true => exact ⟨Nat.le_refl _, rfl⟩
    | false => exact ⟨by simp only [cond_false]; omega, rfl⟩
def b0 (l : List D) (lt : D → D → Bool) : Nat → Int
  | 0 => -1
  | i + 1 => (bi lt l i : Int)
theorem prod_small {a w : Int} (ha : 0 ≤ a ∧ a ≤ 1000000) (hw : 1 ≤ w ∧ w ≤ 100) : IntKind.i64.wrap (IntKind.i64.wrap (a + 1) * w) = (a + 1) * w := by
  rw [wrap_i64 (x := a + 1) (by omega) (by omega)]
  have h1 : (a + 1) * w ≤ 1000001 * 100 := Int.mul_le_mul (by omega) hw.2 (by omega) (by omega)
  have h2 : 0 ≤ (a + 1) * w := Int.mul_nonneg (by omega) (by omega)
  exact wrap_i64 (by omega) (by omega)
theorem w_least (l r ow : List D) (hl : InL l) (hw : RW l) (hr : LdOK r) (hn0 : 0 < l.length) (how : ow.length = l.length) (hv : ∀ i, i < l.length → (D.nth ow i).int = ldk (idS (D.nth l i)) r) :
    W (fun K _ => f_upstream_least K (.n l) (.n ow)) (fun x => x = [.i (bi (ltL r) l (l.length - 1) : Nat)]) := by
  have hl10 := hl.1
  unfold f_upstream_least
  simp only [D.list_n]
  refine W.bind (p := fun x => x = (0, [.i (b0 l (ltL r) l.length)])) (W.rounds (S := Nat) (fun j => [.n l, .n ow, .i (b0 l (ltL r) j), .n l, .i (l.length : Int), .i (j : Int)]) (fun j => j ≤ l.length) (fun j => l.length - j) (fun j hI rc ih => ?_) 0 (by simp)) ?_
  · unfold b_upstream_least_0
    simp only [D.nth_zero, D.nth_succ, D.int_i, D.list_n, Int.toNat_natCast]
    have e1 : IntKind.i64.wrap ((j : Int) + 1) = ((j + 1 : Nat) : Int) := by rw [wrap_i64 (by omega) (by omega)]; omega
    rw [e1]
    refine W.cond (fun h => ?_) (fun h => ?_)
    · simp at h
      refine W.cond (fun _ => ?_) (fun h => by simp at h; omega)
      have ih := ih (j + 1) (by omega) (by omega)
      cases j with
      | zero =>
        have hb : ltI (b0 l (ltL r) 0) 0 = true := rfl
        rw [hb]
        refine W.cond (fun _ => ?_) (fun h => by simp at h)
        refine W.cond (fun _ => ?_) (fun h => by simp at h)
        refine W.cond (fun _ => ?_) (fun h => by simp at h)
        refine W.cond (fun _ => ?_) (fun h => by simp at h)
        exact ih
      | succ i =>
        obtain ⟨hbi, _⟩ := bi_fm (ltL r) l i
        have hb : b0 l (ltL r) (i + 1) = ((bi (ltL r) l i : Nat) : Int) := rfl
        rw [hb]
        have hbf : ltI ((bi (ltL r) l i : Nat) : Int) 0 = false := by simp
        rw [hbf]
        refine W.cond (fun _ => ?_) (fun h => absurd (inB_mk (i := ((i + 1 : Nat) : Int)) (n := ow.length) (by omega) (by omega)) (by simp only [Bool.not_false, Bool.not_true, Bool.false_or] at h; rw [h]; simp))
        refine W.cond (fun _ => ?_) (fun h => absurd (inB_mk (i := ((bi (ltL r) l i : Nat) : Int)) (n := l.length) (by omega) (by omega)) (by simp only [Bool.not_false, Bool.not_true, Bool.false_or] at h; rw [h]; simp))
        refine W.cond (fun _ => ?_) (fun h => absurd (inB_mk (i := ((bi (ltL r) l i : Nat) : Int)) (n := ow.length) (by omega) (by omega)) (by simp only [Bool.not_false, Bool.not_true, Bool.false_or] at h; rw [h]; simp))
        simp only [Int.toNat_natCast, cond_false]
        have e2 : ltI (IntKind.i64.wrap (IntKind.i64.wrap ((D.nth ow (i + 1)).int + 1) * ((D.nth l (bi (ltL r) l i)).at' 1).int)) (IntKind.i64.wrap (IntKind.i64.wrap ((D.nth ow (bi (ltL r) l i)).int + 1) * ((D.nth l (i + 1)).at' 1).int)) = ltL r (D.nth l (i + 1)) (D.nth l (bi (ltL r) l i)) := by
          rw [hv _ h, hv _ (show bi (ltL r) l i < l.length by omega), prod_small (ldk_small hr _) (hw _ (by omega)), prod_small (ldk_small hr _) (hw _ h)]
          rfl
        rw [e2]
        simp only [b0, bi] at ih
        refine W.cond (fun hc => ?_) (fun hc => ?_)
        · rw [hc] at ih; exact ih
        · rw [hc] at ih; exact ih
    · simp at h
      have : j = l.length := by omega
      subst this
      exact W.ret rfl
  rintro _ rfl
  refine W.ret ?_
  obtain ⟨n, hn⟩ : ∃ n, l.length = n + 1 := ⟨l.length - 1, by omega⟩
  simp only [D.nth_zero, hn, b0, Nat.add_sub_cancel]
theorem ltL_irr (r : List D) (x : D) : ltL r x x = false := by unfold ltL; simp
def f0 (lt : D → D → Bool) (l : List D) : Nat → D
  | 0 => D.nth l 0
  | i + 1 => fm lt l i
theorem w_LeastLoad (l r : List D) (hl : InL l) (hw : RW l) (hld : LdL r) (hr : LdOK r) (hn0 : 0 < l.length) : W (fun K _ => f_gateref2_LeastLoad K (.n l) (.n r)) (fun x => x = [(fm (ltL r) l (l.length - 1)).at' 0]) := by
  have hl10 := hl.1
  unfold f_gateref2_LeastLoad
  simp only [D.list_n]
  refine W.cond (fun _ => ?_) (fun h => absurd (inB_mk (i := 0) (n := l.length) (by omega) (by omega)) (by rw [h]; simp))
  refine W.bind (p := fun x => x = (0, [f0 (ltL r) l l.length])) (W.rounds (S := Nat) (fun j => [.n r, .n l, .i (l.length : Int), .i (j : Int), f0 (ltL r) l j]) (fun j => j ≤ l.length) (fun j => l.length - j) (fun j hI rc ih => ?_) 0 (by simp)) ?_
  · unfold b_gateref2_LeastLoad_0
    simp only [D.nth_zero, D.nth_succ, D.int_i, D.list_n, Int.toNat_natCast]
    have e1 : IntKind.i64.wrap ((j : Int) + 1) = ((j + 1 : Nat) : Int) := by rw [wrap_i64 (by omega) (by omega)]; omega
    rw [e1]
    refine W.cond (fun h => ?_) (fun h => ?_)
    · simp at h
      refine W.cond (fun _ => ?_) (fun h => by simp at h; omega)
      have ih := ih (j + 1) (by omega) (by omega)
      obtain ⟨a, w, hx, ha, hx0, hx1⟩ := hl.nth h
      have hid : idS (D.nth l j) = a := by unfold idS; rw [hx0]; rfl
      have hf : ∃ q, q ≤ j ∧ q < l.length ∧ f0 (ltL r) l j = D.nth l q := by
        cases j with
        | zero => exact ⟨0, Nat.le_refl _, h, rfl⟩
        | succ i =>
          obtain ⟨h1, h2⟩ := bi_fm (ltL r) l i
          exact ⟨_, by omega, by omega, h2⟩
      obtain ⟨q, hq1, hq2, hqf⟩ := hf
      obtain ⟨a', w', hy, ha', hy0, hy1⟩ := hl.nth hq2
      have hid' : idS (D.nth l q) = a' := by unfold idS; rw [hy0]; rfl
      have hnew : f0 (ltL r) l (j + 1) = bif ltL r (D.nth l j) (D.nth l q) then D.nth l j else D.nth l q := by
        cases j with
        | zero =>
          have : q = 0 := by omega
          subst this
          rw [ltL_irr]
          rfl
        | succ i =>
          have hqf : fm (ltL r) l i = D.nth l q := hqf
          simp only [f0, fm, hqf]
      rw [hqf]
      rw [hx0, hy0]
      refine W.bind (w_loadOf r hld a) ?_
      rintro _ rfl
      refine W.bind (w_loadOf r hld a') ?_
      rintro _ rfl
      simp only [D.nth_zero, D.int_i]
      rw [prod_small (ldk_small hr _) (hw _ hq2), prod_small (ldk_small hr _) (hw _ h)]
      have e2 : ltI ((ldk a r + 1) * ((D.nth l q).at' 1).int) ((ldk a' r + 1) * ((D.nth l j).at' 1).int) = ltL r (D.nth l j) (D.nth l q) := by
        unfold ltL; rw [hid, hid']
      rw [e2]
      rw [hnew] at ih
      refine W.cond (fun hc => ?_) (fun hc => ?_)
      · rw [hc] at ih; exact ih
      · rw [hc] at ih; exact ih
    · simp at h
      have : j = l.length := by omega
      subst this
      exact W.ret rfl
  rintro _ rfl
  refine W.ret ?_
  obtain ⟨n, hn⟩ : ∃ n, l.length = n + 1 := ⟨l.length - 1, by omega⟩
  simp only [D.nth_zero, hn, f0, Nat.add_sub_cancel]
/-! ### The bounded load -/
def sumL (l r : List D) : Nat → Int
  | 0 => 0
  | k + 1 => sumL l r k + ldk (idS (D.nth l k)) r
theorem sumL_le {r : List D} (h : LdOK r) (l : List D) : ∀ k, 0 ≤ sumL l r k ∧ sumL l r k ≤ 1000000 * k
  | 0 => by simp [sumL]
  | k + 1 => by
    have := sumL_le h l k
    have := ldk_small h (idS (D.nth l k))
    simp only [sumL]
    omega
def okB (l r : List D) (factor : Int) (x : D) : Bool := leI ((ldk (idS x) r + 1) * 1000 * sumW l l.length) (factor * (x.at' 1).int * (sumL l r l.length + 1))
theorem big_small {a s : Int} (ha : 0 ≤ a ∧ a ≤ 1000000) (hs : 0 ≤ s ∧ s ≤ 1000) : IntKind.i64.wrap (IntKind.i64.wrap (IntKind.i64.wrap (a + 1) * 1000) * s) = (a + 1) * 1000 * s := by
  rw [wrap_i64 (x := a + 1) (by omega) (by omega), wrap_i64 (x := (a + 1) * 1000) (by omega) (by omega)]
  have h1 : (a + 1) * 1000 * s ≤ 1000001000 * 1000 := Int.mul_le_mul (by omega) hs.2 (by omega) (by omega)
  have h2 : 0 ≤ (a + 1) * 1000 * s := Int.mul_nonneg (by omega) (by omega)
  exact wrap_i64 (by omega) (by omega)
theorem fac_small {f w s : Int} (hf : 0 ≤ f ∧ f ≤ 1000000) (hw : 1 ≤ w ∧ w ≤ 100) (hs : 0 ≤ s ∧ s ≤ 10000001) : IntKind.i64.wrap (IntKind.i64.wrap (f * w) * s) = f * w * s := by
  have h1 : f * w ≤ 1000000 * 100 := Int.mul_le_mul hf.2 hw.2 (by omega) (by omega)
  have h2 : 0 ≤ f * w := Int.mul_nonneg hf.1 (by omega)
  rw [wrap_i64 (x := f * w) (by omega) (by omega)]
  generalize f * w = p at h1 h2
  have h3 : p * s ≤ 100000000 * 10000001 := Int.mul_le_mul h1 hs.2 hs.1 (by omega)
  have h4 : 0 ≤ p * s := Int.mul_nonneg h2 hs.1
  exact wrap_i64 (by omega) (by omega)
def fnd (c : Nat → Bool) (x : Nat → D) (d : D) (n : Nat) : D := scan (fun j => bif c j then some (x j) else none) d n 0
theorem fnd_at {c : Nat → Bool} {x : Nat → D} {d : D} {n i : Nat} (hi : i < n) (h0 : ∀ k, k < i → c k = false) (h1 : c i = true) : fnd c x d n = x i := by
  unfold fnd
  rcases scan_cases (fun j => bif c j then some (x j) else none) d n 0 with ⟨i', q', g1, g2, g3, g4, g5⟩ | ⟨g1, g2⟩
  · have hii : i' = i := by
      rcases Nat.lt_trichotomy i i' with hlt | he | hlt
      · have := g5 i (Nat.zero_le _) hlt
        rw [h1] at this; cases this
      · exact he.symm
      · rw [h0 i' hlt] at g3; cases g3
    subst hii
    rw [h1] at g3
    cases g3
    exact g4
  · have := g1 i (Nat.zero_le _) (by omega)
    rw [h1] at this; cases this
theorem fnd_no {c : Nat → Bool} {x : Nat → D} {d : D} {n : Nat} (h0 : ∀ k, k < n → c k = false) : fnd c x d n = d := by
  unfold fnd
  rcases scan_cases (fun j => bif c j then some (x j) else none) d n 0 with ⟨i', q', g1, g2, g3, g4, g5⟩ | ⟨g1, g2⟩
  · rw [h0 i' (by omega)] at g3; cases g3
  · exact g2
/-- A loop that looks for the first. -/
theorem first_cases (c : Nat → Bool) (y : Nat → Nat × List D) (fin : Nat × List D) (x : Nat → D) (d : D) (n : Nat) :
    (∃ i, i < n ∧ scan (fun j => bif c j then some (y j) else none) fin n 0 = y i ∧ fnd c x d n = x i) ∨ (scan (fun j => bif c j then some (y j) else none) fin n 0 = fin ∧ fnd c x d n = d) := by
  rcases scan_cases (fun j => bif c j then some (y j) else none) fin n 0 with ⟨i, q, g1, g2, g3, g4, g5⟩ | ⟨g1, g2⟩
  · cases hc : c i with
    | false => rw [hc] at g3; cases g3
    | true =>
      rw [hc] at g3
      cases g3
      refine .inl ⟨i, by omega, g4, fnd_at (by omega) (fun k hk => ?_) hc⟩
      have := g5 k (Nat.zero_le _) hk
      cases hk' : c k with
      | false => rfl
      | true => rw [hk'] at this; cases this
  · refine .inr ⟨g2, fnd_no fun k hk => ?_⟩
    have := g1 k (Nat.zero_le _) (by omega)
    cases hk' : c k with
    | false => rfl
    | true => rw [hk'] at this; cases this
def bndR (l r : List D) (key : List UInt8) (factor : Int) : D := fnd (fun j => okB l r factor (D.nth (ordL key l) j)) (fun j => (D.nth (ordL key l) j).at' 0) ((fm (ltL r) l (l.length - 1)).at' 0) l.length
theorem w_InstanceAt2 (l : List D) (key : List UInt8) (hl : InL l) (hin : ∃ q, q < l.length ∧ idS (D.nth l q) = key) : W (fun K _ => f_gateref2_InstanceAt K (.n l) (.s key)) (fun r => ∃ i : Nat, r = [.i (i : Int)] ∧ i < l.length ∧ idS (D.nth l i) = key) := by
  have hl10 := hl.1
  unfold f_gateref2_InstanceAt f_slices_IndexFunc_api_Instance
  simp only [D.list_n]
  refine W.bind (p := fun r => ∃ i : Nat, r = [.i (i : Int)] ∧ i < l.length ∧ idS (D.nth l i) = key) (W.bind (W.early l.length (fun j => [.n l, .s key, .i l.length, .i j]) (fun j => bif (fun x => idS x == key) (D.nth l j) then some (0, [.i (j : Int)]) else none) (1, []) (fun j hj hp p rc h1 h2 => ?_) (fun rc => ?_)) ?_) ?_
  · unfold b_slices_IndexFunc_api_Instance_0
    simp only [D.nth_zero, D.nth_succ, D.list_n, D.int_i, Int.toNat_natCast, p_gateref2_InstanceAt_1, D.bool_b, D.str_s]
    refine W.cond (fun _ => ?_) (fun h => by simp at h; omega)
    refine W.cond (fun _ => ?_) (fun h => by simp at h; omega)
    refine W.cond (fun h => W.ret (h1 _ ?_)) (fun h => ?_)
    · have : (idS (D.nth l j) == key) = true := h
      simp only [this, cond_true]
    · have : (idS (D.nth l j) == key) = false := h
      rw [wrap_i64 (by omega) (by omega)]
      exact h2 (by simp only [this, cond_false])
  · unfold b_slices_IndexFunc_api_Instance_0
    simp only [D.nth_zero, D.nth_succ, D.list_n, D.int_i]
    exact W.cond (fun h => by simp at h) (fun _ => W.ret rfl)
  · rintro _ rfl
    rcases scan_cases (fun j => bif (fun x => idS x == key) (D.nth l j) then some (0, [D.i (j : Int)]) else none) (1, []) l.length 0 with ⟨i, q, h1, h2, h3, h4, h5⟩ | ⟨h1, h2⟩
    · cases hc : idS (D.nth l i) == key with
      | false => simp only [hc, cond_false] at h3; cases h3
      | true =>
        simp only [hc, cond_true] at h3
        cases h3
        rw [h4]
        exact W.cond (fun _ => W.ret ⟨i, rfl, by omega, by simpa using hc⟩) (fun h => by simp at h)
    · obtain ⟨q, hq1, hq2⟩ := hin
      have := h1 q (Nat.zero_le _) (by omega)
      have he : (idS (D.nth l q) == key) = true := by simpa using hq2
      simp only [he, cond_true] at this
      cases this
  · rintro _ ⟨i, rfl, h1⟩
    exact W.ret ⟨i, rfl, h1⟩
theorem w_BoundedOf (l r : List D) (key : List UInt8) (factor : Int) (hl : InL l) (hinc : Inc idS l) (hw : RW l) (hld : LdL r) (hr : LdOK r) (hn0 : 0 < l.length) (hk : key.length ≤ 1000) (hf : 0 ≤ factor ∧ factor ≤ 1000000) :
    W (fun K _ => f_gateref2_BoundedOf K (.n l) (.n r) (.s key) (.i factor)) (fun x => x = [bndR l r key factor]) := by
  have hl10 := hl.1
  have hsw := sumW_le hw l.length (Nat.le_refl _)
  have hsl := sumL_le hr l l.length
  unfold f_gateref2_BoundedOf
  simp only [D.list_n]
  refine W.bind (p := fun x => x = (0, [.i (sumW l l.length), .i (1 + sumL l r l.length)])) (W.rounds (S := Nat) (fun j => [.n r, .i (sumW l j), .i (1 + sumL l r j), .n l, .i (l.length : Int), .i (j : Int)]) (fun j => j ≤ l.length) (fun j => l.length - j) (fun j hI rc ih => ?_) 0 (by simp)) ?_
  · have hs := sumW_le hw j hI
    have hs2 := sumL_le hr l j
    unfold b_gateref2_BoundedOf_0
    simp only [D.nth_zero, D.nth_succ, D.int_i, D.list_n, Int.toNat_natCast]
    have e1 : IntKind.i64.wrap ((j : Int) + 1) = ((j + 1 : Nat) : Int) := by rw [wrap_i64 (by omega) (by omega)]; omega
    rw [e1]
    refine W.cond (fun h => ?_) (fun h => ?_)
    · simp at h
      refine W.cond (fun _ => ?_) (fun h => by simp at h; omega)
      obtain ⟨a, w, hx, ha, hx0, hx1⟩ := hl.nth h
      have hid : idS (D.nth l j) = a := by unfold idS; rw [hx0]; rfl
      rw [hx0]
      refine W.bind (w_loadOf r hld a) ?_
      rintro _ rfl
      simp only [D.nth_zero, D.int_i]
      have hwj : 1 ≤ wt l j ∧ wt l j ≤ 100 := hw j h
      have hlk := ldk_small hr a
      have e2 : IntKind.i64.wrap (sumW l j + ((D.nth l j).at' 1).int) = sumW l (j + 1) := by
        show IntKind.i64.wrap (sumW l j + wt l j) = sumW l j + wt l j
        exact wrap_i64 (by omega) (by omega)
      have e3 : IntKind.i64.wrap (1 + sumL l r j + ldk a r) = 1 + sumL l r (j + 1) := by
        simp only [sumL, hid]
        rw [wrap_i64 (by omega) (by omega)]
        omega
      rw [e2, e3]
      exact ih (j + 1) (by omega) (by omega)
    · simp at h
      have : j = l.length := by omega
      subst this
      exact W.ret rfl
  rintro _ rfl
  refine W.bind (w_OrderOf key l hl hinc hw hk) ?_
  rintro _ rfl
  simp only [D.nth_zero, D.nth_succ, D.list_n]
  rw [ordL_same hinc key]
  have hol := ordL_len key l
  have hml : ((ordL key l).map fun x => x.at' 0).length = l.length := by simpa using hol
  rw [hml]
  refine W.bind (W.early l.length (fun j => [.n l, .n r, .i factor, .i (sumW l l.length), .i (1 + sumL l r l.length), .i l.length, .i j, .n ((ordL key l).map fun x => x.at' 0)]) (fun j => bif okB l r factor (D.nth (ordL key l) j) then some (0, [(D.nth (ordL key l) j).at' 0, .n ((ordL key l).map fun x => x.at' 0)]) else none) (1, [.n ((ordL key l).map fun x => x.at' 0)]) (fun j hj hp p rc g1 g2 => ?_) (fun rc => ?_)) ?_
  · unfold b_gateref2_BoundedOf_1
    simp only [D.nth_zero, D.nth_succ, D.int_i, D.list_n, Int.toNat_natCast]
    refine W.cond (fun _ => ?_) (fun h => by simp at h; omega)
    refine W.cond (fun _ => ?_) (fun h => absurd (inB_mk (i := (j : Int)) (n := ((ordL key l).map fun x => x.at' 0).length) (by omega) (by omega)) (by rw [h]; simp))
    rw [nth_map _ (by omega)]
    obtain ⟨q, hq1, hq2⟩ := ordL_in key l hj
    obtain ⟨a, w, hx, ha, hx0, hx1⟩ := hl.nth hq1
    rw [hq2] at g1 g2 ⊢
    have hid : idS (D.nth l q) = a := by unfold idS; rw [hx0]; rfl
    rw [hx0] at g1 ⊢
    refine W.bind (w_loadOf r hld a) ?_
    rintro _ rfl
    refine W.bind (w_InstanceAt2 l a hl ⟨q, hq1, hid⟩) ?_
    rintro _ ⟨i, rfl, hi1, hi2⟩
    have hiq : i = q := by
      rcases Decidable.em (i = q) with h | h
      · exact h
      · exact absurd (hi2.trans hid.symm) (inc_ne hinc hi1 hq1 h)
    subst hiq
    simp only [D.nth_zero, D.int_i, Int.toNat_natCast]
    refine W.cond (fun _ => ?_) (fun h => absurd (inB_mk (i := (i : Int)) (n := l.length) (by omega) (by omega)) (by rw [h]; simp))
    rw [big_small (ldk_small hr a) (by omega), fac_small hf (hw i hi1) (by omega)]
    have e2 : leI ((ldk a r + 1) * 1000 * sumW l l.length) (factor * ((D.nth l i).at' 1).int * (1 + sumL l r l.length)) = okB l r factor (D.nth l i) := by
      unfold okB
      rw [hid, show 1 + sumL l r l.length = sumL l r l.length + 1 by omega]
    rw [e2]
    refine W.cond (fun hc => W.ret (g1 _ (by rw [hc]; rfl))) (fun hc => ?_)
    rw [wrap_i64 (by omega) (by omega)]
    exact g2 (by rw [hc]; rfl)
  · unfold b_gateref2_BoundedOf_1
    simp only [D.nth_zero, D.nth_succ, D.int_i, D.list_n]
    exact W.cond (fun h => by simp at h) (fun _ => W.ret rfl)
  · rintro _ rfl
    rcases first_cases (fun j => okB l r factor (D.nth (ordL key l) j)) (fun j => (0, [(D.nth (ordL key l) j).at' 0, .n ((ordL key l).map fun x => x.at' 0)])) (1, [.n ((ordL key l).map fun x => x.at' 0)]) (fun j => (D.nth (ordL key l) j).at' 0) ((fm (ltL r) l (l.length - 1)).at' 0) l.length with ⟨i, hi, h1, h2⟩ | ⟨h1, h2⟩
    · rw [h1]
      unfold bndR
      rw [h2]
      exact W.cond (fun _ => W.ret rfl) (fun h => by simp at h)
    · rw [h1]
      unfold bndR
      rw [h2]
      refine W.cond (fun h => by simp at h) (fun _ => ?_)
      refine W.bind (w_LeastLoad l r hl hw hld hr hn0) ?_
      rintro _ rfl
      exact W.ret rfl
/-! ### The law -/
theorem w_EqualStr (l : List D) (hl : l.length ≤ 1000) : W (fun K _ => f_slices_Equal_string K (.n l) (.n l)) (fun r => r = [.b true]) := by
  unfold f_slices_Equal_string
  simp only [D.list_n]
  refine W.cond (fun h => by simp at h) (fun _ => ?_)
  refine W.bind (W.early l.length (fun j => [.n l, .n l, .i l.length, .i j]) (fun _ => none) (1, []) (fun j hj hp p rc h1 h2 => ?_) (fun rc => ?_)) ?_
  · unfold b_slices_Equal_string_0
    simp only [D.nth_zero, D.nth_succ, D.list_n, D.int_i, Int.toNat_natCast]
    refine W.cond (fun _ => ?_) (fun h => by simp at h; omega)
    refine W.cond (fun _ => ?_) (fun h => by simp at h; omega)
    refine W.cond (fun _ => ?_) (fun h => by simp at h; omega)
    refine W.cond (fun h => by simp at h) (fun h => ?_)
    rw [wrap_i64 (by omega) (by omega)]
    exact h2 rfl
  · unfold b_slices_Equal_string_0
    simp only [D.nth_zero, D.nth_succ, D.list_n, D.int_i]
    exact W.cond (fun h => by simp at h) (fun _ => W.ret rfl)
  · rintro _ rfl
    rcases scan_cases (fun _ => (none : Option (Nat × List D))) (1, []) l.length 0 with ⟨i, r, h1, h2, h3, _⟩ | ⟨h1, h2⟩
    · cases h3
    · rw [h2]; exact W.ret rfl
theorem w_errs3 (x y z : Int) : W (fun K _ => f_gatelaw2_errs K (.n [.i x, .i y, .i z])) (fun r => r = [.i (bif x != 0 then x else bif y != 0 then y else z)]) := by
  unfold f_gatelaw2_errs
  refine W.bind (W.early 3 (fun j => [.n [.i x, .i y, .i z], .i 3, .i (j : Int)]) (fun j => bif ((D.nth [.i x, .i y, .i z] j).int != 0) then some (0, [D.nth [.i x, .i y, .i z] j]) else none) (1, []) (fun j hj hp p rc h1 h2 => ?_) (fun rc => ?_)) ?_
  · unfold b_gatelaw2_errs_0
    simp only [D.nth_zero, D.nth_succ, D.int_i, D.list_n, Int.toNat_natCast]
    refine W.cond (fun _ => ?_) (fun h => by simp at h; omega)
    refine W.cond (fun _ => ?_) (fun h => by simp at h; omega)
    refine W.cond (fun h => W.ret (h1 _ (by rw [h]; rfl))) (fun h => ?_)
    rw [wrap_i64 (by omega) (by omega)]
    exact h2 (by rw [h]; rfl)
  · unfold b_gatelaw2_errs_0
    simp only [D.nth_zero, D.nth_succ, D.int_i]
    exact W.cond (fun h => by simp at h) (fun _ => W.ret rfl)
  · rintro _ rfl
    simp only [scan, D.nth_zero, D.nth_succ, D.int_i]
    cases h1 : x != 0 with
    | true => exact W.ret (by simp)
    | false =>
      cases h2 : y != 0 with
      | true => exact W.ret (by simp)
      | false =>
        cases h3 : z != 0 with
        | true => exact W.ret (by simp)
        | false =>
          have : z = 0 := by simpa using h3
          subst this
          exact W.ret (by simp)
theorem w_errs4 (x y z u : Int) : W (fun K _ => f_gatelaw2_errs K (.n [.i x, .i y, .i z, .i u])) (fun r => r = [.i (bif x != 0 then x else bif y != 0 then y else bif z != 0 then z else u)]) := by
  unfold f_gatelaw2_errs
  refine W.bind (W.early 4 (fun j => [.n [.i x, .i y, .i z, .i u], .i 4, .i (j : Int)]) (fun j => bif ((D.nth [.i x, .i y, .i z, .i u] j).int != 0) then some (0, [D.nth [.i x, .i y, .i z, .i u] j]) else none) (1, []) (fun j hj hp p rc h1 h2 => ?_) (fun rc => ?_)) ?_
  · unfold b_gatelaw2_errs_0
    simp only [D.nth_zero, D.nth_succ, D.int_i, D.list_n, Int.toNat_natCast]
    refine W.cond (fun _ => ?_) (fun h => by simp at h; omega)
    refine W.cond (fun _ => ?_) (fun h => by simp at h; omega)
    refine W.cond (fun h => W.ret (h1 _ (by rw [h]; rfl))) (fun h => ?_)
    rw [wrap_i64 (by omega) (by omega)]
    exact h2 (by rw [h]; rfl)
  · unfold b_gatelaw2_errs_0
    simp only [D.nth_zero, D.nth_succ, D.int_i]
    exact W.cond (fun h => by simp at h) (fun _ => W.ret rfl)
  · rintro _ rfl
    simp only [scan, D.nth_zero, D.nth_succ, D.int_i]
    cases h1 : x != 0 with
    | true => exact W.ret (by simp)
    | false =>
      cases h2 : y != 0 with
      | true => exact W.ret (by simp)
      | false =>
        cases h3 : z != 0 with
        | true => exact W.ret (by simp)
        | false =>
          cases h4 : u != 0 with
          | true => exact W.ret (by simp)
          | false =>
            have : u = 0 := by simpa using h4
            subst this
            exact W.ret (by simp)
theorem w_Order (l : List D) (key : List UInt8) (hl : InL l) (hz : (D.nth (insD l) 0).int = 0) (hk : key.length ≤ 1000) : W (fun K _ => f_upstream_Order K (.n l) (.s key)) (fun r => r = bif kbad (.s key) then [.i 5, .n []] else [.i 0, .n ((ordL key l).map fun x => x.at' 0)]) := by
  have hl10 := hl.1
  unfold f_upstream_Order
  refine W.bind (w_CheckInstances l hl) ?_
  rintro _ rfl
  rw [hz]
  refine W.cond (fun h => by simp at h) (fun _ => ?_)
  refine W.bind (w_keyFault _) ?_
  rintro _ rfl
  simp only [D.nth_zero, D.int_i]
  cases hb : kbad (.s key) with
  | true => exact W.cond (fun h => W.ret rfl) (fun h => by simp at h)
  | false =>
  refine W.cond (fun h => by simp at h) (fun _ => ?_)
  refine W.bind (w_ordered key l hl hk) ?_
  rintro _ rfl
  simp only [D.nth_zero, D.list_n, cond_false]
  have hol := ordL_len key l
  have hRe : ist (ltA (ptM key l)) l (l.length - 1) = ordL key l := rfl
  rw [hRe]
  generalize ordL key l = R at hol
  refine W.bind (p := fun r => r = (0, [.n R, .n (R.map fun x => x.at' 0)])) (W.rounds (S := Nat) (fun j => [.i (R.length : Int), .i (j : Int), .n R, .n ((R.take j).map fun x => x.at' 0)]) (fun j => j ≤ R.length) (fun j => R.length - j) (fun j hI rc ih => ?_) 0 (by simp)) ?_
  · unfold b_upstream_Order_0
    simp only [D.nth_zero, D.nth_succ, D.int_i, D.list_n, Int.toNat_natCast]
    have e1 : IntKind.i64.wrap ((j : Int) + 1) = ((j + 1 : Nat) : Int) := by rw [wrap_i64 (by omega) (by omega)]; omega
    rw [e1]
    refine W.cond (fun h => ?_) (fun h => ?_)
    · simp at h
      refine W.cond (fun _ => ?_) (fun h => by simp at h; omega)
      refine W.cond (fun _ => ?_) (fun h => absurd (lim_mk (n := ((R.take j).map fun x => x.at' 0).length + 1) (by simp; omega)) (by rw [h]; simp))
      have ih := ih (j + 1) (by omega) (by omega)
      rw [take_nth h, List.map_append, List.map_singleton] at ih
      exact ih
    · simp at h
      have : j = R.length := by omega
      subst this
      rw [List.take_length]
      exact W.ret rfl
  rintro _ rfl
  exact W.ret rfl
theorem ldOK_of {l r : List D} (hr : LdL r) (h : (D.nth (ldD l r) 0).int = 0) : LdOK r := fun j hj => (ldF_ok (ldD_zero hr h j hj)).2.2
theorem w_Least (l r : List D) (hl : InL l) (hz : (D.nth (insD l) 0).int = 0) (hr : LdL r) (eL : Int) (he : ldD l r = [.i eL]) : W (fun K _ => f_upstream_Least K (.n l) (.n r)) (fun x => x = bif eL != 0 then [.s [], .i eL] else bif ((l.length : Int) == (0 : Int)) then [.s [], .i 8] else [(fm (ltL r) l (l.length - 1)).at' 0, .i 0]) := by
  have hw := insD_w hl hz
  have hinc := insD_zero hl hz
  unfold f_upstream_Least
  refine W.bind (w_loadsOf l r hl hz hr) ?_
  rintro _ rfl
  rw [he]
  simp only [D.nth_zero, D.nth_succ, D.int_i, D.list_n]
  refine W.cond (fun h => W.ret (by rw [h]; rfl)) (fun h => ?_)
  have he0 : eL = 0 := by simpa using h
  subst he0
  rw [h, cond_false]
  refine W.cond (fun h => W.ret (by rw [h]; rfl)) (fun h2 => ?_)
  rw [h2, cond_false]
  have hn0 : 0 < l.length := by
    have : (l.length : Int) ≠ 0 := fun e => by rw [e] at h2; cases h2
    omega
  have hz0 : (D.nth (ldD l r) 0).int = 0 := by rw [he]; rfl
  obtain ⟨ha1, ha2⟩ := arrL_ok (l := l) (r := r) hinc r.length (Nat.le_refl _) (ldD_zero hr hz0)
  rw [List.take_length] at ha2
  refine W.bind (w_least l r (arrL l r r.length) hl hw (ldOK_of hr hz0) hn0 ha1 ha2) ?_
  rintro _ rfl
  obtain ⟨hb1, hb2⟩ := bi_fm (ltL r) l (l.length - 1)
  simp only [D.nth_zero, D.int_i, Int.toNat_natCast]
  refine W.cond (fun _ => W.ret (by rw [hb2])) (fun h => absurd (inB_mk (i := ((bi (ltL r) l (l.length - 1) : Nat) : Int)) (n := l.length) (by omega) (by omega)) (by rw [h]; simp))
theorem w_Bounded (l r : List D) (key : List UInt8) (factor : Int) (hl : InL l) (hz : (D.nth (insD l) 0).int = 0) (hr : LdL r) (hk : key.length ≤ 1000) (eL : Int) (he : ldD l r = [.i eL]) : W (fun K _ => f_upstream_Bounded K (.n l) (.n r) (.s key) (.i factor)) (fun x => x = bif eL != 0 then [.s [], .i eL] else bif (bif ltI factor 1000 then true else gtI factor 1000000) then [.s [], .i 1] else bif kbad (.s key) then [.s [], .i 5] else bif ((l.length : Int) == (0 : Int)) then [.s [], .i 8] else [bndR l r key factor, .i 0]) := by
  have hl10 := hl.1
  have hw := insD_w hl hz
  have hinc := insD_zero hl hz
  unfold f_upstream_Bounded
  refine W.bind (w_loadsOf l r hl hz hr) ?_
  rintro _ rfl
  rw [he]
  simp only [D.nth_zero, D.nth_succ, D.int_i, D.list_n]
  refine W.cond (fun h => W.ret (by rw [h]; rfl)) (fun h => ?_)
  have he0 : eL = 0 := by simpa using h
  subst he0
  rw [h, cond_false]
  have e0 : (D.nth (p_kit_Outside (.i factor) (.i 1000) (.i 1000000)) 0).bool = (bif ltI factor 1000 then true else gtI factor 1000000) := rfl
  rw [e0]
  refine W.cond (fun h => W.ret (by rw [h]; rfl)) (fun hfb => ?_)
  rw [hfb, cond_false]
  have hf : 0 ≤ factor ∧ factor ≤ 1000000 := by
    cases h1 : ltI factor 1000 <;> rw [h1] at hfb <;> simp at hfb
    simp at h1
    omega
  refine W.bind (w_keyFault _) ?_
  rintro _ rfl
  simp only [D.nth_zero, D.int_i]
  cases hb : kbad (.s key) with
  | true => exact W.cond (fun h => W.ret rfl) (fun h => by simp at h)
  | false =>
  refine W.cond (fun h => by simp at h) (fun _ => ?_)
  rw [cond_false]
  refine W.cond (fun h => W.ret (by rw [h]; rfl)) (fun h2 => ?_)
  rw [h2, cond_false]
  have hn0 : 0 < l.length := by
    have : (l.length : Int) ≠ 0 := fun e => by rw [e] at h2; cases h2
    omega
  have hz0 : (D.nth (ldD l r) 0).int = 0 := by rw [he]; rfl
  obtain ⟨ha1, ha2⟩ := arrL_ok (l := l) (r := r) hinc r.length (Nat.le_refl _) (ldD_zero hr hz0)
  rw [List.take_length] at ha2
  have hok := ldOK_of hr hz0
  have hc0 : (bif ((0 : Int) == 0) then arrL l r r.length else []) = arrL l r r.length := rfl
  rw [hc0]
  generalize arrL l r r.length = ow at ha1 ha2
  have hsw := sumW_le hw l.length (Nat.le_refl _)
  have hsl := sumL_le hok l l.length
  refine W.bind (p := fun x => x = (0, [.i (sumL l r l.length), .n ow])) (W.rounds (S := Nat) (fun j => [.i (sumL l r j), .i (ow.length : Int), .i (j : Int), .n ow]) (fun j => j ≤ l.length) (fun j => l.length - j) (fun j hI rc ih => ?_) 0 (by simp)) ?_
  · have hs2 := sumL_le hok l j
    unfold b_upstream_Bounded_0
    simp only [D.nth_zero, D.nth_succ, D.int_i, D.list_n, Int.toNat_natCast]
    have e1 : IntKind.i64.wrap ((j : Int) + 1) = ((j + 1 : Nat) : Int) := by rw [wrap_i64 (by omega) (by omega)]; omega
    rw [e1]
    refine W.cond (fun h => ?_) (fun h => ?_)
    · simp at h
      refine W.cond (fun _ => ?_) (fun h => absurd (inB_mk (i := (j : Int)) (n := ow.length) (by omega) (by omega)) (by rw [h]; simp))
      have hlk := ldk_small hok (idS (D.nth l j))
      have e3 : IntKind.i64.wrap (sumL l r j + (D.nth ow j).int) = sumL l r (j + 1) := by
        rw [ha2 j (by omega)]
        simp only [sumL]
        exact wrap_i64 (by omega) (by omega)
      rw [e3]
      exact ih (j + 1) (by omega) (by omega)
    · simp at h
      have : j = l.length := by omega
      subst this
      exact W.ret rfl
  rintro _ rfl
  refine W.bind (w_ordered key l hl hk) ?_
  rintro _ rfl
  simp only [D.nth_zero, D.nth_succ, D.list_n]
  have hol := ordL_len key l
  have hin := fun j (hj : j < l.length) => ordL_in key l hj
  have hbn : ∀ R, R = ordL key l → bndR l r key factor = fnd (fun j => okB l r factor (D.nth R j)) (fun j => (D.nth R j).at' 0) ((fm (ltL r) l (l.length - 1)).at' 0) l.length := fun R hR => by rw [hR]; rfl
  have hRe : ist (ltA (ptM key l)) l (l.length - 1) = ordL key l := rfl
  rw [hRe, hbn _ rfl]
  clear hbn hRe
  generalize ordL key l = R at hol hin
  rw [hol]
  refine W.bind (W.early l.length (fun j => [.n l, .i factor, .i (sumL l r l.length), .i l.length, .i j, .n ow, .n R]) (fun j => bif okB l r factor (D.nth R j) then some (0, [(D.nth R j).at' 0, .i 0, .n ow, .n R]) else none) (1, [.n ow, .n R]) (fun j hj hp p rc g1 g2 => ?_) (fun rc => ?_)) ?_
  · unfold b_upstream_Bounded_1
    simp only [D.nth_zero, D.nth_succ, D.int_i, D.list_n, Int.toNat_natCast]
    refine W.cond (fun _ => ?_) (fun h => by simp at h; omega)
    refine W.cond (fun _ => ?_) (fun h => absurd (inB_mk (i := (j : Int)) (n := R.length) (by omega) (by omega)) (by rw [h]; simp))
    obtain ⟨q, hq1, hq2⟩ := hin j hj
    obtain ⟨a, w, hx, ha, hx0, hx1⟩ := hl.nth hq1
    rw [hq2] at g1 g2 ⊢
    have hid : idS (D.nth l q) = a := by unfold idS; rw [hx0]; rfl
    have hany : (l.any fun x => idS x == a) = true := (any_nth l _).2 ⟨q, hq1, by simpa using hid⟩
    rw [hx0] at g1 ⊢
    refine W.bind (w_place l a hl hinc) ?_
    rintro _ ⟨i, rfl, hi⟩
    obtain ⟨hi1, hi2⟩ := hi hany
    have hiq : i = q := by
      rcases Decidable.em (i = q) with h | h
      · exact h
      · exact absurd (hi2.trans hid.symm) (inc_ne hinc hi1 hq1 h)
    subst hiq
    simp only [D.nth_zero, D.int_i, Int.toNat_natCast]
    refine W.cond (fun _ => ?_) (fun h => absurd (inB_mk (i := (i : Int)) (n := ow.length) (by omega) (by omega)) (by rw [h]; simp))
    refine W.bind (w_weights l hl hw) ?_
    rintro _ rfl
    simp only [D.nth_zero, D.int_i]
    rw [ha2 i hi1, hid, big_small (ldk_small hok a) (by omega), wrap_i64 (x := sumL l r l.length + 1) (by omega) (by omega), fac_small hf (hw i hi1) (by omega)]
    have e2 : leI ((ldk a r + 1) * 1000 * sumW l l.length) (factor * ((D.nth l i).at' 1).int * (sumL l r l.length + 1)) = okB l r factor (D.nth l i) := by
      unfold okB
      rw [hid]
    rw [e2]
    refine W.cond (fun hc => W.ret (g1 _ (by rw [hc]; rfl))) (fun hc => ?_)
    rw [wrap_i64 (by omega) (by omega)]
    exact g2 (by rw [hc]; rfl)
  · unfold b_upstream_Bounded_1
    simp only [D.nth_zero, D.nth_succ, D.int_i, D.list_n]
    exact W.cond (fun h => by simp at h) (fun _ => W.ret rfl)
  · rintro _ rfl
    rcases first_cases (fun j => okB l r factor (D.nth R j)) (fun j => (0, [(D.nth R j).at' 0, .i 0, .n ow, .n R])) (1, [.n ow, .n R]) (fun j => (D.nth R j).at' 0) ((fm (ltL r) l (l.length - 1)).at' 0) l.length with ⟨i, hi, h1, h2⟩ | ⟨h1, h2⟩
    · rw [h1, h2]
      exact W.cond (fun _ => W.ret rfl) (fun h => by simp at h)
    · rw [h1, h2]
      refine W.cond (fun h => by simp at h) (fun _ => ?_)
      simp only [D.nth_zero, D.list_n]
      refine W.bind (w_least l r ow hl hw hok hn0 ha1 ha2) ?_
      rintro _ rfl
      obtain ⟨hb1, hb2⟩ := bi_fm (ltL r) l (l.length - 1)
      simp only [D.nth_zero, D.int_i, Int.toNat_natCast]
      refine W.cond (fun _ => W.ret (by rw [hb2])) (fun h => absurd (inB_mk (i := ((bi (ltL r) l (l.length - 1) : Nat) : Int)) (n := l.length) (by omega) (by omega)) (by rw [h]; simp))
/-! ### Where the instances are wrong -/
theorem e_Round (l : List D) (hl : InL l) (ei : Int) (he : insD l = [.i ei]) (hz : (ei != 0) = true) (m : D) : W (fun K _ => f_upstream_Round K (.n l) m) (fun r => r = [.i ei, .n []]) := by
  unfold f_upstream_Round
  refine W.bind (w_CheckInstances l hl) ?_
  rintro _ rfl
  rw [he]
  exact W.cond (fun _ => W.ret rfl) (fun h => by simp only [D.nth_zero, D.int_i] at h; rw [hz] at h; cases h)
theorem e_Order (l : List D) (hl : InL l) (ei : Int) (he : insD l = [.i ei]) (hz : (ei != 0) = true) (m : D) : W (fun K _ => f_upstream_Order K (.n l) m) (fun r => r = [.i ei, .n []]) := by
  unfold f_upstream_Order
  refine W.bind (w_CheckInstances l hl) ?_
  rintro _ rfl
  rw [he]
  exact W.cond (fun _ => W.ret rfl) (fun h => by simp only [D.nth_zero, D.int_i] at h; rw [hz] at h; cases h)
theorem e_loadsOf (l : List D) (hl : InL l) (ei : Int) (he : insD l = [.i ei]) (hz : (ei != 0) = true) (m : D) : W (fun K _ => f_upstream_loadsOf K (.n l) m) (fun r => r = [.i ei, .n []]) := by
  unfold f_upstream_loadsOf
  refine W.bind (w_CheckInstances l hl) ?_
  rintro _ rfl
  rw [he]
  exact W.cond (fun _ => W.ret rfl) (fun h => by simp only [D.nth_zero, D.int_i] at h; rw [hz] at h; cases h)
theorem e_Least (l : List D) (hl : InL l) (ei : Int) (he : insD l = [.i ei]) (hz : (ei != 0) = true) (m : D) : W (fun K _ => f_upstream_Least K (.n l) m) (fun r => r = [.s [], .i ei]) := by
  unfold f_upstream_Least
  refine W.bind (e_loadsOf l hl ei he hz m) ?_
  rintro _ rfl
  exact W.cond (fun _ => W.ret rfl) (fun h => by simp only [D.nth_zero, D.int_i] at h; rw [hz] at h; cases h)
theorem e_Bounded (l : List D) (hl : InL l) (ei : Int) (he : insD l = [.i ei]) (hz : (ei != 0) = true) (m k f : D) : W (fun K _ => f_upstream_Bounded K (.n l) m k f) (fun r => r = [.s [], .i ei]) := by
  unfold f_upstream_Bounded
  refine W.bind (e_loadsOf l hl ei he hz m) ?_
  rintro _ rfl
  exact W.cond (fun _ => W.ret rfl) (fun h => by simp only [D.nth_zero, D.int_i] at h; rw [hz] at h; cases h)
theorem w_EqualBig (l : List D) (hl : l.length ≤ 1000000) : W (fun K _ => f_slices_Equal_string K (.n l) (.n l)) (fun r => r = [.b true]) := by
  unfold f_slices_Equal_string
  simp only [D.list_n]
  refine W.cond (fun h => by simp at h) (fun _ => ?_)
  refine W.bind (W.early l.length (fun j => [.n l, .n l, .i l.length, .i j]) (fun _ => none) (1, []) (fun j hj hp p rc h1 h2 => ?_) (fun rc => ?_)) ?_
  · unfold b_slices_Equal_string_0
    simp only [D.nth_zero, D.nth_succ, D.list_n, D.int_i, Int.toNat_natCast]
    refine W.cond (fun _ => ?_) (fun h => by simp at h; omega)
    refine W.cond (fun _ => ?_) (fun h => by simp at h; omega)
    refine W.cond (fun _ => ?_) (fun h => by simp at h; omega)
    refine W.cond (fun h => by simp at h) (fun h => ?_)
    rw [wrap_i64 (by omega) (by omega)]
    exact h2 rfl
  · unfold b_slices_Equal_string_0
    simp only [D.nth_zero, D.nth_succ, D.list_n, D.int_i]
    exact W.cond (fun h => by simp at h) (fun _ => W.ret rfl)
  · rintro _ rfl
    rcases scan_cases (fun _ => (none : Option (Nat × List D))) (1, []) l.length 0 with ⟨i, r, h1, h2, h3, _⟩ | ⟨h1, h2⟩
    · cases h3
    · rw [h2]; exact W.ret rfl
theorem pure (zs : List Int) (h : zs.length ≤ maxLen) (hw : ∀ n ∈ zs, (Lit.int .i64 n).wf = true) : ∃ K, f_gatelaw2_InstancesPicked K (.n (zs.map D.i)) = some [.b true] := by
  have : W (fun K _ => f_gatelaw2_InstancesPicked K (.n (zs.map D.i))) (· = [.b true]) := by
    unfold f_gatelaw2_InstancesPicked
    refine W.bind (w_Instances 0 _ ⟨_, 0, rfl, by omega, by omega⟩ (by omega)) ?_
    rintro _ ⟨s1, l, rfl, hl, h1⟩
    simp only [D.nth_zero, D.nth_succ, D.list_n]
    refine W.bind (w_PickI _ s1 [0, 1, 7, 12, 30, -1, 2001] h1 (by omega) (by simp) (by simp)) ?_
    rintro _ ⟨m, s2, _, rfl, _, h2⟩
    simp only [D.nth_zero, D.nth_succ]
    refine W.bind (w_HashKey _ s2 h2 (by omega)) ?_
    rintro _ ⟨key, s3, rfl, hk, h3⟩
    simp only [D.nth_zero, D.nth_succ]
    refine W.bind (w_PickI _ s3 [1000, 1100, 1500, 3000, 1000000, 999, 1000001] h3 (by omega) (by simp) (by simp)) ?_
    rintro _ ⟨fac, s4, _, rfl, _, h4⟩
    simp only [D.nth_zero, D.nth_succ]
    refine W.bind (w_Loads _ s4 l hl h4 (by omega)) ?_
    rintro _ ⟨s5, r, rfl, hr, h5⟩
    simp only [D.nth_zero, D.nth_succ, D.list_n]
    have hl10 := hl.1
    obtain ⟨ei, hei⟩ := insD_i l
    obtain ⟨eL, heL⟩ := ldD_i l r
    cases hz : ei != 0 with
    | true =>
      have hz0 := nz hz
      refine W.bind (e_Round l hl ei hei hz _) ?_
      rintro _ rfl
      refine W.bind (e_Order l hl ei hei hz _) ?_
      rintro _ rfl
      refine W.bind (e_Least l hl ei hei hz _) ?_
      rintro _ rfl
      refine W.bind (e_Bounded l hl ei hei hz _ _ _) ?_
      rintro _ rfl
      refine W.bind (w_InstancesFault l hl) ?_
      rintro _ rfl
      rw [hei]
      simp only [D.nth_zero, D.nth_succ, D.list_n, D.int_i]
      refine W.bind (w_when _ _) ?_
      rintro _ rfl
      refine W.bind (w_when _ _) ?_
      rintro _ rfl
      simp only [D.nth_zero]
      refine W.bind (w_errs3 _ _ _) ?_
      rintro _ rfl
      rw [hz, cond_true]
      refine W.bind (w_OrderKey _) ?_
      rintro _ rfl
      simp only [D.nth_zero]
      refine W.bind (w_errs2 _ _) ?_
      rintro _ rfl
      rw [hz, cond_true, hz0]
      refine W.bind (p := fun q => q = (0, [.i ei, .i ei, .n l, .n r])) ?_ ?_
      · unfold b_gatelaw2_InstancesPicked_0
        simp only [D.nth_zero, D.nth_succ, D.bool_b, D.list_n]
        exact W.cond (fun h => by simp at h) (fun _ => W.ret rfl)
      rintro _ rfl
      simp only [D.nth_zero, D.nth_succ, D.list_n, D.int_i]
      refine W.cond (fun h => by simp at h) (fun _ => ?_)
      refine W.bind (p := fun q => q = (0, [.b false, .n l, .n [], .n []])) ?_ ?_
      · unfold b_gatelaw2_InstancesPicked_1
        simp only [D.nth_zero, D.nth_succ, D.int_i, D.list_n]
        rw [hz0]
        refine W.cond (fun h => by simp at h) (fun _ => ?_)
        exact W.cond (fun h => by simp at h) (fun _ => W.ret rfl)
      rintro _ rfl
      simp only [D.nth_zero, D.nth_succ, D.list_n, D.bool_b]
      refine W.cond (fun h => by simp at h) (fun _ => ?_)
      rw [hz0]
      refine W.bind (p := fun q => q = (0, [.s [], .n l, .n r])) ?_ ?_
      · unfold b_gatelaw2_InstancesPicked_2
        simp only [D.nth_zero, D.nth_succ, D.bool_b, D.list_n]
        exact W.cond (fun h => by simp at h) (fun _ => W.ret rfl)
      rintro _ rfl
      simp only [D.nth_zero, D.nth_succ, D.list_n]
      refine W.bind (p := fun q => q = (0, [.s [], .n l, .n r])) ?_ ?_
      · unfold b_gatelaw2_InstancesPicked_3
        simp only [D.nth_zero, D.nth_succ, D.bool_b, D.list_n]
        exact W.cond (fun h => by simp at h) (fun _ => W.ret rfl)
      rintro _ rfl
      simp only [D.nth_zero, D.str_s]
      refine W.cond (fun _ => ?_) (fun h => by simp at h)
      refine W.bind balanced ?_
      rintro _ rfl
      exact W.ret rfl
    | false =>
      have hei0 : ei = 0 := by simpa using hz
      subst hei0
      have hz0 : (D.nth (insD l) 0).int = 0 := by rw [hei]; rfl
      have hinc := insD_zero hl hz0
      have hrw := insD_w hl hz0
      refine W.bind (w_Round l hl hz0 m) ?_
      rintro a ha
      refine W.bind (w_Order l key hl hz0 (by omega)) ?_
      rintro b hb
      refine W.bind (w_Least l r hl hz0 hr eL heL) ?_
      rintro c hc
      refine W.bind (w_Bounded l r key fac hl hz0 hr (by omega) eL heL) ?_
      rintro d hd
      refine W.bind (w_InstancesFault l hl) ?_
      rintro _ rfl
      rw [hei]
      simp only [D.nth_zero, D.nth_succ, D.list_n, D.int_i]
      refine W.bind (w_when _ _) ?_
      rintro _ rfl
      refine W.bind (w_when _ _) ?_
      rintro _ rfl
      simp only [D.nth_zero]
      refine W.bind (w_errs3 _ _ _) ?_
      rintro _ rfl
      rw [hz, cond_false]
      refine W.bind (w_OrderKey _) ?_
      rintro _ rfl
      simp only [D.nth_zero]
      refine W.bind (w_errs2 _ _) ?_
      rintro _ rfl
      rw [hz, cond_false]
      generalize hmb : (bif ltI m 0 then true else gtI m 2000) = mb at ha
      generalize hnb : ((l.length : Int) == (0 : Int)) = nb at ha hc hd
      generalize hkb : kbad (.s key) = kb at hb hd
      generalize hfb : (bif ltI fac 1000 then true else gtI fac 1000000) = fb at hd
      have hn0 : nb = false → 0 < l.length := fun e => by
        have : (l.length : Int) ≠ 0 := fun e2 => by rw [e2] at hnb; rw [← hnb] at e; cases e
        omega
      generalize hone : (bif (bif mb then (1 : Int) else 0) != 0 then bif mb then (1 : Int) else 0 else bif nb then (8 : Int) else 0) = one
      generalize htwo : (bif kb then (5 : Int) else 0) = two
      have ha' : a = [.i one, .n (bif one == 0 then outR l m.toNat else [])] := by
        rw [ha, ← hone]
        cases mb <;> cases nb <;> rfl
      have hb' : b = [.i two, .n (bif two == 0 then (ordL key l).map fun x => x.at' 0 else [])] := by
        rw [hb, ← htwo]
        cases kb <;> rfl
      generalize hthree : (bif eL != 0 then eL else bif nb then (8 : Int) else 0) = three
      generalize hfour : (bif eL != 0 then eL else bif (bif fb then (1 : Int) else 0) != 0 then (bif fb then (1 : Int) else 0) else bif two != 0 then two else bif nb then (8 : Int) else 0) = four
      have hc' : c = [bif three == 0 then (fm (ltL r) l (l.length - 1)).at' 0 else .s [], .i three] := by
        rw [hc, ← hthree]
        cases h1 : eL != 0 with
        | true => simp only [cond_true, nz h1, cond_false]
        | false => cases nb <;> rfl
      have hd' : d = [bif four == 0 then bndR l r key fac else .s [], .i four] := by
        rw [hd, ← hfour, ← htwo]
        cases h1 : eL != 0 with
        | true => simp only [cond_true, nz h1, cond_false]
        | false => cases fb <;> cases kb <;> cases nb <;> rfl
      subst ha' hb' hc' hd'
      refine W.bind (p := fun q => q = (0, [.i three, .i four, .n l, .n r])) ?_ ?_
      · unfold b_gatelaw2_InstancesPicked_0
        simp only [D.nth_zero, D.nth_succ, D.bool_b, D.list_n, D.int_i]
        refine W.cond (fun _ => ?_) (fun h => by simp at h)
        refine W.bind (w_LoadsFault l r hl hz0 hr) ?_
        rintro _ rfl
        rw [heL]
        simp only [D.nth_zero]
        refine W.bind (w_errs2 _ _) ?_
        rintro _ rfl
        refine W.bind (w_LoadsFault l r hl hz0 hr) ?_
        rintro _ rfl
        rw [heL, hfb]
        refine W.bind (w_when _ _) ?_
        rintro _ rfl
        refine W.bind (w_OrderKey _) ?_
        rintro _ rfl
        rw [hkb, htwo]
        simp only [D.nth_zero]
        refine W.bind (w_errs4 _ _ _ _) ?_
        rintro _ rfl
        refine W.ret ?_
        rw [hthree, hfour]
        rfl
      rintro _ rfl
      simp only [D.nth_zero, D.nth_succ, D.list_n, D.int_i]
      refine W.cond (fun h => by simp at h) (fun _ => ?_)
      refine W.bind (p := fun q => q = (0, [.b false, .n l, .n (bif one == 0 then outR l m.toNat else []), .n (bif two == 0 then (ordL key l).map fun x => x.at' 0 else [])])) ?_ ?_
      · have hO : W (fun K _ => (f_gateref2_OrderOf K (.n l) (.s key)).bind fun t => f_slices_Equal_string K (.n ((ordL key l).map fun x => x.at' 0)) (.n ((D.nth t 0).list))) (fun q => q = [.b true]) := by
          refine W.bind (w_OrderOf key l hl hinc hrw (by omega)) ?_
          rintro _ rfl
          simp only [D.nth_zero, D.list_n]
          rw [ordL_same hinc key]
          have hol := ordL_len key l
          exact w_EqualStr _ (by simp; omega)
        unfold b_gatelaw2_InstancesPicked_1
        simp only [D.nth_zero, D.nth_succ, D.int_i, D.list_n]
        cases h1 : one == 0 with
        | true =>
          have hm0 : mb = false ∧ nb = false := by
            have : one = 0 := by simpa using h1
            rw [← hone] at this
            revert this
            cases mb <;> cases nb <;> simp
          have hm : 0 ≤ m ∧ m ≤ 2000 := by
            have h2 := hm0.1
            rw [← hmb] at h2
            cases h3 : ltI m 0 <;> rw [h3] at h2 <;> simp at h2
            simp at h3
            omega
          refine W.cond (fun _ => ?_) (fun h => by simp at h)
          simp only [cond_true]
          refine W.bind (w_RoundOf l hl hrw (hn0 hm0.2) m hm) ?_
          rintro _ rfl
          simp only [D.nth_zero, D.list_n]
          have hro := outR_len l m.toNat
          have hEq : W (fun K _ => f_slices_Equal_string K (.n (outR l m.toNat)) (.n (outR l m.toNat))) (fun r => r = [.b true]) := w_EqualBig _ (by omega)
          refine W.bind hEq ?_
          rintro _ rfl
          refine W.cond (fun _ => ?_) (fun h => by simp at h)
          cases h2 : two == 0 with
          | true =>
            refine W.cond (fun _ => ?_) (fun h => by simp at h)
            simp only [cond_true]
            refine W.bind (w_OrderOf key l hl hinc hrw (by omega)) ?_
            rintro _ rfl
            simp only [D.nth_zero, D.list_n]
            rw [ordL_same hinc key]
            have hol := ordL_len key l
            refine W.bind (w_EqualStr _ (by simp; omega)) ?_
            rintro _ rfl
            exact W.ret rfl
          | false => exact W.cond (fun h => by simp at h) (fun _ => W.ret rfl)
        | false =>
          refine W.cond (fun h => by simp at h) (fun _ => ?_)
          cases h2 : two == 0 with
          | true =>
            refine W.cond (fun _ => ?_) (fun h => by simp at h)
            simp only [cond_true]
            refine W.bind (w_OrderOf key l hl hinc hrw (by omega)) ?_
            rintro _ rfl
            simp only [D.nth_zero, D.list_n]
            rw [ordL_same hinc key]
            have hol := ordL_len key l
            refine W.bind (w_EqualStr _ (by simp; omega)) ?_
            rintro _ rfl
            exact W.ret rfl
          | false => exact W.cond (fun h => by simp at h) (fun _ => W.ret rfl)
      rintro _ rfl
      simp only [D.nth_zero, D.nth_succ, D.list_n, D.bool_b]
      refine W.cond (fun h => by simp at h) (fun _ => ?_)
      have hthree0 : (three == 0) = true → eL = 0 ∧ 0 < l.length := fun h => by
        have : three = 0 := by simpa using h
        rw [← hthree] at this
        cases h1 : eL != 0 with
        | true => rw [h1, cond_true] at this; rw [this] at h1; cases h1
        | false =>
          rw [h1, cond_false] at this
          refine ⟨by simpa using h1, hn0 ?_⟩
          cases hq : nb with
          | true => rw [hq] at this; cases this
          | false => rfl
      have hfour0 : (four == 0) = true → eL = 0 ∧ 0 < l.length ∧ (0 ≤ fac ∧ fac ≤ 1000000) := fun h => by
        have : four = 0 := by simpa using h
        rw [← hfour] at this
        cases h1 : eL != 0 with
        | true => rw [h1, cond_true] at this; rw [this] at h1; cases h1
        | false =>
          rw [h1, cond_false] at this
          cases hq : fb with
          | true => rw [hq] at this; cases this
          | false =>
            rw [hq] at this
            have hfac : 0 ≤ fac ∧ fac ≤ 1000000 := by
              rw [hq] at hfb
              cases h3 : ltI fac 1000 <;> rw [h3] at hfb <;> simp at hfb
              simp at h3
              omega
            refine ⟨by simpa using h1, hn0 ?_, hfac⟩
            rw [← htwo] at this
            cases hq2 : nb with
            | true => rw [hq2] at this; revert this; cases kb <;> simp
            | false => rfl
      refine W.bind (p := fun q => q = (0, [bif three == 0 then (fm (ltL r) l (l.length - 1)).at' 0 else .s [], .n l, .n r])) ?_ ?_
      · unfold b_gatelaw2_InstancesPicked_2
        simp only [D.nth_zero, D.nth_succ, D.bool_b, D.list_n]
        refine W.cond (fun h => ?_) (fun h => W.ret (by rw [h]; rfl))
        obtain ⟨q1, q2⟩ := hthree0 h
        rw [h, cond_true]
        refine W.bind (w_LeastLoad l r hl hrw hr (ldOK_of hr (by rw [heL, q1]; rfl)) q2) ?_
        rintro _ rfl
        exact W.ret rfl
      rintro _ rfl
      simp only [D.nth_zero, D.nth_succ, D.list_n]
      refine W.bind (p := fun q => q = (0, [bif four == 0 then bndR l r key fac else .s [], .n l, .n r])) ?_ ?_
      · unfold b_gatelaw2_InstancesPicked_3
        simp only [D.nth_zero, D.nth_succ, D.bool_b, D.list_n]
        refine W.cond (fun h => ?_) (fun h => W.ret (by rw [h]; rfl))
        obtain ⟨q1, q2, q3⟩ := hfour0 h
        rw [h, cond_true]
        refine W.bind (w_BoundedOf l r key fac hl hinc hrw hr (ldOK_of hr (by rw [heL, q1]; rfl)) q2 (by omega) q3) ?_
        rintro _ rfl
        exact W.ret rfl
      rintro _ rfl
      simp only [D.nth_zero, D.nth_succ]
      refine W.cond (fun _ => ?_) (fun h => ?_)
      · refine W.bind balanced ?_
        rintro _ rfl
        exact W.ret rfl
      · exfalso
        revert h
        cases h1 : one == 0 <;> cases h2 : two == 0 <;> simp
  obtain ⟨K, r, h1, rfl⟩ := this.get
  exact ⟨K, h1⟩
end Go.Proofs.YtmppogdbjklapaaGreatP
