/- The plain law: what the printed functions come to. -/
import Derived.Test.YtlogmjgkbfahjaaYtSw
import Derived.Test.YtlogmjgkbfahjaaEvPure
namespace Go.Proofs.YtlogmjgkbfahjaaP
open Go Go.Ev
set_option linter.unusedVariables false
set_option linter.unusedSimpArgs false
/-! ### The stream of numbers -/
def St (c : Int) (s : D) : Prop := ∃ L at', s = .n [L, .i at'] ∧ 0 ≤ at' ∧ at' ≤ c
theorem St.le {c c' : Int} {s : D} (h : St c s) (hc : c ≤ c') : St c' s := let ⟨L, a, h1, h2, h3⟩ := h; ⟨L, a, h1, h2, by omega⟩
theorem w_Below (x n : D) (hn : n.int ≤ 4611686018427387904) : W (fun K _ => f_gatemake_Below K x n) (fun r => ∃ i, r = [.i i] ∧ 0 ≤ i ∧ (1 ≤ n.int → i < n.int)) := by
  unfold f_gatemake_Below
  refine W.cond (fun h => ?_) (fun h => ?_)
  · simp at h
    exact W.ret ⟨0, rfl, by omega, by omega⟩
  · simp at h
    have h1 := Int.tmod_lt_of_pos x.int (show 0 < n.int by omega)
    have h2 := Int.lt_tmod_of_pos x.int (show 0 < n.int by omega)
    refine W.cond (fun _ => ?_) (fun h' => by simp at h'; omega)
    refine W.cond (fun h' => ?_) (fun h' => ?_)
    · simp at h'
      rw [wrap_i64 (by omega) (by omega)]
      exact W.ret ⟨_, rfl, by omega, fun _ => by omega⟩
    · simp at h'
      exact W.ret ⟨_, rfl, by omega, fun _ => by omega⟩
theorem w_Next (c : Int) (n s : D) (hs : St c s) (hc : c ≤ 1000000000000) (hn : n.int ≤ 4611686018427387904) : W (fun K _ => f_gatemake_Stream_Next K n s) (fun r => ∃ i s', r = [.i i, s'] ∧ 0 ≤ i ∧ (1 ≤ n.int → i < n.int) ∧ St (c + 1) s') := by
  obtain ⟨L, a, rfl, h1, h2⟩ := hs
  unfold f_gatemake_Stream_Next
  simp only [D.at_n, D.nth_zero, D.nth_succ, D.int_i]
  have e1 : IntKind.i64.wrap (a + 1) = a + 1 := wrap_i64 (by omega) (by omega)
  have e2 : IntKind.i64.wrap (a + 1 - 1) = a := by rw [wrap_i64 (by omega) (by omega)]; omega
  simp only [e1, e2]
  have hfin : ∀ i : Int, 0 ≤ i → (1 ≤ n.int → i < n.int) → W (fun _ _ => some [D.i i, D.n [L, D.i (a + 1)]]) (fun r => ∃ i s', r = [.i i, s'] ∧ 0 ≤ i ∧ (1 ≤ n.int → i < n.int) ∧ St (c + 1) s') := fun i h3 h4 => W.ret ⟨i, _, rfl, h3, h4, L, a + 1, rfl, by omega, by omega⟩
  refine W.cond (fun h => ?_) (fun h => ?_)
  · refine W.bind (w_Below _ n hn) ?_
    rintro _ ⟨i, rfl, h3, h4⟩
    exact hfin i h3 h4
  · have hL : 0 < L.list.length := by
      simp only [beq_eq_false_iff_ne, ne_eq] at h
      omega
    refine W.cond (fun _ => ?_) (fun h' => by simp at h'; simp [h'] at hL)
    refine W.cond (fun _ => ?_) (fun h' => by simp at h'; simp [h'] at hL)
    have h5 := Int.tmod_nonneg (L.list.length : Int) h1
    have h6 := Int.tmod_lt_of_pos a (show 0 < (L.list.length : Int) by omega)
    refine W.cond (fun _ => ?_) (fun h' => by simp [inB] at h'; omega)
    refine W.bind (w_Below _ (.i 1073741824) (by simp)) ?_
    rintro _ ⟨i, rfl, _, _⟩
    refine W.bind (w_Below _ n hn) ?_
    rintro _ ⟨j, rfl, h3, h4⟩
    exact hfin j h3 h4
theorem w_Flip (c : Int) (n s : D) (hs : St c s) (hc : c ≤ 1000000000000) (hn : n.int ≤ 4611686018427387904) : W (fun K _ => f_gatemake_Stream_Flip K n s) (fun r => ∃ b s', r = [.b b, s'] ∧ St (c + 1) s') := by
  unfold f_gatemake_Stream_Flip
  refine W.bind (w_Next c n s hs hc hn) ?_
  rintro _ ⟨i, s', rfl, _, _, h⟩
  exact W.ret ⟨_, s', rfl, h⟩
theorem nth_mem : ∀ {l : List D} {j : Nat}, j < l.length → D.nth l j ∈ l
  | a :: l, 0, _ => by simp
  | a :: l, j + 1, h => by simp only [D.nth_succ]; exact List.mem_cons_of_mem _ (nth_mem (by simpa using h))
/-- One of some numbers (or other data). -/
theorem w_Pick (c : Int) (s : D) (l : List D) (hs : St c s) (hc : c ≤ 1000000000000) (hl : l ≠ []) (hl2 : l.length ≤ 1000000) : W (fun K _ => f_gatemake_Stream_Pick K s (.n l)) (fun r => ∃ x s' t, r = [x, s', t] ∧ x ∈ l ∧ St (c + 1) s') := by
  unfold f_gatemake_Stream_Pick
  have : 0 < l.length := List.length_pos_iff.2 hl
  refine W.bind (w_Next c _ s hs hc (by simp; omega)) ?_
  rintro _ ⟨i, s', rfl, h1, h2, h3⟩
  simp only [D.int_i, D.list_n] at h2
  have h2 := h2 (by omega)
  refine W.cond (fun h => ?_) (fun h => absurd (inB_mk h1 h2) (by rw [D.nth_zero, D.int_i, D.list_n] at h; rw [h]; simp))
  exact W.ret ⟨_, s', _, rfl, nth_mem (show i.toNat < l.length by omega), h3⟩
theorem w_Range (c : Int) (lo hi : Int) (s : D) (hs : St c s) (hc : c ≤ 1000000000000) (h1 : 0 ≤ lo) (h2 : hi ≤ 1000000000000) : W (fun K _ => f_gatemake_Stream_Range K (.i lo) (.i hi) s) (fun r => ∃ x s', r = [.i x, s'] ∧ lo ≤ x ∧ (lo ≤ hi → x ≤ hi) ∧ St (c + 1) s') := by
  unfold f_gatemake_Stream_Range
  refine W.cond (fun h => ?_) (fun h => ?_)
  · simp at h
    exact W.ret ⟨lo, s, rfl, by omega, by omega, hs.le (by omega)⟩
  · simp at h
    have e1 : IntKind.i64.wrap (hi - lo) = hi - lo := wrap_i64 (by omega) (by omega)
    have e2 : IntKind.i64.wrap (hi - lo + 1) = hi - lo + 1 := wrap_i64 (by omega) (by omega)
    simp only [D.int_i, e1, e2]
    refine W.bind (w_Next c _ s hs hc (by simp; omega)) ?_
    rintro _ ⟨i, s', rfl, h3, h4, h5⟩
    simp only [D.int_i] at h4
    have h4 := h4 (by omega)
    simp only [D.nth_zero, D.nth_succ, D.int_i]
    rw [wrap_i64 (by omega) (by omega)]
    exact W.ret ⟨_, s', rfl, by omega, fun _ => by omega, h5⟩
theorem w_Odd (c : Int) (lo hi : Int) (s : D) (hs : St c s) (hc : c ≤ 999999999990) (h1 : 0 ≤ lo) (h0 : lo ≤ hi) (h2 : hi ≤ 1000000000000) : W (fun K _ => f_gatemake_Stream_Odd K (.i lo) (.i hi) s) (fun r => ∃ x s', r = [.i x, s'] ∧ -2000000000000 ≤ x ∧ x ≤ 2000000000000 ∧ St (c + 2) s') := by
  unfold f_gatemake_Stream_Odd
  refine W.bind (w_Flip c _ s hs (by omega) (by simp)) ?_
  rintro _ ⟨b, s', rfl, h3⟩
  simp only [D.nth_zero, D.nth_succ, D.bool_b]
  have e1 : IntKind.i64.wrap (lo - 1) = lo - 1 := wrap_i64 (by omega) (by omega)
  have e2 : IntKind.i64.wrap (hi + 1) = hi + 1 := wrap_i64 (by omega) (by omega)
  simp only [D.int_i, e1, e2]
  refine W.cond (fun _ => ?_) (fun _ => ?_)
  · refine W.bind (w_Pick (c + 1) s' _ h3 (by omega) (by simp) (by simp)) ?_
    rintro _ ⟨x, s2, t, rfl, hx, h4⟩
    simp only [List.mem_cons, List.not_mem_nil, or_false] at hx
    rcases hx with rfl | rfl | rfl | rfl | rfl | rfl <;> exact W.ret ⟨_, s2, rfl, by omega, by omega, h4.le (by omega)⟩
  · refine W.bind (w_Range (c + 1) lo hi s' h3 (by omega) h1 h2) ?_
    rintro _ ⟨x, s2, rfl, h4, h5, h6⟩
    exact W.ret ⟨x, s2, rfl, by omega, by have := h5 h0; omega, h6.le (by omega)⟩
/-! ### Breakers -/
theorem balanced : W (fun K _ => f_gatelaw2_balanced K) (· = [.b true]) :=
  ⟨_, rfl, 20, fun K _ hK _ => by obtain ⟨m, rfl⟩ : ∃ m, K = m + 20 := ⟨K - 20, by omega⟩; kernel_rfl⟩
theorem w_Breaker (c : Int) (s : D) (hs : St c s) (hc : c ≤ 1000000) : W (fun K _ => f_gatemake_Stream_Breaker K s) (fun r => ∃ f w o p s', r = [.n [.i f, .i w, .i o, .i p], s'] ∧ St (c + 20) s') := by
  unfold f_gatemake_Stream_Breaker
  have pick : ∀ (c : Int) (s : D) (l : List Int), St c s → c ≤ 1000100 → l ≠ [] → l.length ≤ 100 → W (fun K _ => f_gatemake_Stream_Pick K s (.n (l.map D.i))) (fun r => ∃ x s' t, r = [.i x, s', t] ∧ St (c + 1) s') := fun c s l hs hc h1 h2 => by
    refine (w_Pick c s (l.map D.i) hs (by omega) (by simpa using h1) (by simp; omega)).mono ?_
    rintro _ ⟨x, s', t, rfl, hx, h⟩
    obtain ⟨y, _, rfl⟩ := List.mem_map.1 hx
    exact ⟨y, s', t, rfl, h⟩
  refine W.bind (pick c s [1, 2, 3] hs (by omega) (by simp) (by simp)) ?_
  rintro _ ⟨x1, s1, _, rfl, h1⟩
  refine W.bind (pick _ s1 [1, 10, 30] h1 (by omega) (by simp) (by simp)) ?_
  rintro _ ⟨x2, s2, _, rfl, h2⟩
  refine W.bind (pick _ s2 [1, 5, 20] h2 (by omega) (by simp) (by simp)) ?_
  rintro _ ⟨x3, s3, _, rfl, h3⟩
  refine W.bind (pick _ s3 [1, 2] h3 (by omega) (by simp) (by simp)) ?_
  rintro _ ⟨x4, s4, _, rfl, h4⟩
  refine W.bind (w_Flip _ (.i 15) s4 h4 (by omega) (by simp)) ?_
  rintro _ ⟨b, s5, rfl, h5⟩
  refine W.cond (fun _ => ?_) (fun _ => W.ret ⟨_, _, _, _, _, rfl, h5.le (by omega)⟩)
  refine W.bind (w_Odd _ 1 100 s5 h5 (by omega) (by omega) (by omega) (by omega)) ?_
  rintro _ ⟨y1, s6, rfl, _, _, h6⟩
  refine W.bind (w_Odd _ 1 3600000 s6 h6 (by omega) (by omega) (by omega) (by omega)) ?_
  rintro _ ⟨y2, s7, rfl, _, _, h7⟩
  refine W.bind (w_Odd _ 1 3600000 s7 h7 (by omega) (by omega) (by omega) (by omega)) ?_
  rintro _ ⟨y3, s8, rfl, _, _, h8⟩
  refine W.bind (w_Odd _ 1 100 s8 h8 (by omega) (by omega) (by omega) (by omega)) ?_
  rintro _ ⟨y4, s9, rfl, _, _, h9⟩
  exact W.ret ⟨_, _, _, _, _, rfl, h9.le (by omega)⟩
/-- A breaker's numbers are in their bounds. -/
def Ok (f w o p : Int) : Prop := 1 ≤ f ∧ f ≤ 100 ∧ 1 ≤ w ∧ w ≤ 3600000 ∧ 1 ≤ o ∧ o ≤ 3600000 ∧ 1 ≤ p ∧ p ≤ 100
abbrev bD (f w o p : Int) : D := .n [.i f, .i w, .i o, .i p]
theorem w_NewSwitch (f w o p : Int) : W (fun K _ => f_upstream_NewSwitch K (bD f w o p)) (fun r => (Ok f w o p ∧ r = [.i 1, .i 0, bD f w o p, .i 0, .i 0, .i 0, .i 0, .i 0]) ∨ (¬ Ok f w o p ∧ r = [.i 0, .i 1])) := by
  unfold f_upstream_NewSwitch p_kit_Outside
  refine W.cond (fun h => ?_) (fun h => ?_)
  · simp at h
    exact W.ret (.inr ⟨by unfold Ok; omega, rfl⟩)
  · simp at h
    exact W.ret (.inl ⟨by unfold Ok; omega, rfl⟩)
theorem w_BreakerFault (f w o p : Int) : W (fun K _ => f_gateref2_BreakerFault K (bD f w o p)) (fun r => (Ok f w o p ∧ r = [.i 0]) ∨ (¬ Ok f w o p ∧ r = [.i 1])) := by
  unfold f_gateref2_BreakerFault p_gateref2_in
  refine W.cond (fun h => ?_) (fun h => ?_)
  · simp at h
    exact W.ret (.inr ⟨by unfold Ok; omega, rfl⟩)
  · simp at h
    exact W.ret (.inl ⟨by unfold Ok; omega, rfl⟩)
def END : Int := 345686400000
/-- What is wrong with a moment. -/
def tf (t now : Int) : Int := if 0 ≤ t ∧ t < 345686400000 then (if t < now then 7 else 0) else 1
theorem w_timeFault (t now : Int) (b st op ask g : D) (l : List D) : W (fun K _ => f_upstream_Switch_timeFault K (.i t) b (.i now) st op ask g (.n l)) (· = [.i (tf t now), b, .i now, st, op, ask, g, .n l]) := by
  unfold f_upstream_Switch_timeFault p_kit_IsMoment
  refine W.cond (fun h => ?_) (fun h => W.cond (fun h' => ?_) fun h' => ?_)
  · simp at h
    exact W.ret (by simp only [tf]; rw [if_neg (by omega)]; rfl)
  · simp at h h'
    exact W.ret (by simp only [tf]; rw [if_pos (by omega), if_pos (by omega)]; rfl)
  · simp at h h'
    exact W.ret (by simp only [tf]; rw [if_pos (by omega), if_neg (by omega)]; rfl)
theorem w_fault (t lat : Int) (b opn snc ask g : D) (l : List D) : W (fun K _ => f_gateref2_Fuse_fault K (.i t) b opn snc ask g (.i lat) (.n l)) (· = [.i (tf t lat), b, opn, snc, ask, g, .i lat, .n l]) := by
  unfold f_gateref2_Fuse_fault p_gateref2_Moment p_gateref2_in
  refine W.cond (fun h => ?_) (fun h => W.cond (fun h' => ?_) fun h' => ?_)
  · simp at h
    exact W.ret (by simp only [tf]; rw [if_neg (by omega)]; rfl)
  · simp at h h'
    exact W.ret (by simp only [tf]; rw [if_pos (by omega), if_pos (by omega)]; rfl)
  · simp at h h'
    exact W.ret (by simp only [tf]; rw [if_pos (by omega), if_neg (by omega)]; rfl)
/-- The state at a moment. -/
def sa (o t st op : Int) : Int := if st = 1 ∧ op + o ≤ t then 2 else st
theorem w_stateAt (f w o p t st op : Int) (now ask g : D) (l : List D) (ho : 0 ≤ o ∧ o ≤ 3600000) (hop : 0 ≤ op ∧ op ≤ 345686400000) : W (fun K _ => f_upstream_Switch_stateAt K (.i t) (bD f w o p) now (.i st) (.i op) ask g (.n l)) (· = [.i (sa o t st op), bD f w o p, now, .i st, .i op, ask, g, .n l]) := by
  unfold f_upstream_Switch_stateAt
  have e : IntKind.i64.wrap (op + o) = op + o := wrap_i64 (by omega) (by omega)
  refine W.cond (fun h => ?_) (fun h => ?_)
  · simp [e] at h
    exact W.ret (by simp only [sa]; rw [if_pos (by omega)]; rfl)
  · simp [e] at h
    exact W.ret (by simp only [sa]; rw [if_neg (by omega)]; rfl)
theorem w_pass (f w o p t st op : Int) (now ask g : D) (l : List D) (ho : 0 ≤ o ∧ o ≤ 3600000) (hop : 0 ≤ op ∧ op ≤ 345686400000) : W (fun K _ => f_upstream_Switch_pass K (.i t) (bD f w o p) now (.i st) (.i op) ask g (.n l)) (· = [bD f w o p, .i t, .i (sa o t st op), .i op, if sa o t st op = st then ask else .i 0, if sa o t st op = st then g else .i 0, .n l]) := by
  unfold f_upstream_Switch_pass
  refine W.bind (w_stateAt f w o p t st op now ask g l ho hop) ?_
  rintro _ rfl
  refine W.cond (fun h => ?_) (fun h => ?_)
  · simp at h
    exact W.ret (by rw [if_neg h, if_neg h]; rfl)
  · simp at h
    exact W.ret (by rw [if_pos h, if_pos h, h]; rfl)
/-- The other one's state at a moment. -/
def fs (o t : Int) (opn : Bool) (snc : Int) : Int := bif opn then (if t - snc < o then 1 else 2) else 0
theorem w_state (f w o p t snc : Int) (opn : Bool) (ask g lat : D) (l : List D) (ht : 0 ≤ t ∧ t ≤ 345686400000) (hop : 0 ≤ snc ∧ snc ≤ 345686400000) : W (fun K _ => f_gateref2_Fuse_state K (.i t) (bD f w o p) (.b opn) (.i snc) ask g lat (.n l)) (· = [.i (fs o t opn snc), bD f w o p, .b opn, .i snc, ask, g, lat, .n l]) := by
  unfold f_gateref2_Fuse_state
  have e : IntKind.i64.wrap (t - snc) = t - snc := wrap_i64 (by omega) (by omega)
  refine W.cond (fun h => ?_) (fun h => W.cond (fun h' => ?_) fun h' => ?_)
  · simp at h
    exact W.ret (by rw [h]; rfl)
  · simp at h
    simp [e] at h'
    exact W.ret (by rw [h]; simp [fs, h'])
  · simp at h
    simp [e] at h'
    exact W.ret (by rw [h]; simp [fs, h'])
/-- slices.DeleteFunc of the moments that are too long ago. -/
theorem w_DeleteFunc (f w o p t : Int) (l : List D) (b1 b2 b3 b5 b6 : D) (hl : l.length ≤ 1000000) (ht : 0 ≤ t ∧ t ≤ 345686400000) (hw : 0 ≤ w ∧ w ≤ 3600000) : W (fun K _ => f_slices_DeleteFunc_int K (.i t) (.n l) (bD f w o p) b1 b2 b3 b5 b6) (· = [.n (l.filter fun x => !leI x.int (t - w)), bD f w o p, b1, b2, b3, b5, b6]) := by
  unfold f_slices_DeleteFunc_int f_slices_IndexFunc_int
  have e : IntKind.i64.wrap (t - w) = t - w := wrap_i64 (by omega) (by omega)
  have hsp := idx_spec (fun x => leI x.int (t - w)) l 0
  refine W.bind (W.bind (W.search (fun x => leI x.int (t - w)) l (fun j => [.n l, .i t, .i (l.length : Int), .i j, bD f w o p, b1, b2, b3, b5, b6]) (fun j => (0, [.i j, bD f w o p, b1, b2, b3, b5, b6])) (1, [bD f w o p, b1, b2, b3, b5, b6]) ?_ ?_)
    (q := fun r => r = match idx (fun x => leI x.int (t - w)) l 0 with | some i => [.i (i : Int), bD f w o p, b1, b2, b3, b5, b6] | none => [.i (-1), bD f w o p, b1, b2, b3, b5, b6]) ?_) ?_
  · intro K rec j hj
    have e1 : IntKind.i64.wrap ((j : Int) + 1) = (j : Int) + 1 := wrap_i64 (by omega) (by omega)
    simp [b_slices_IndexFunc_int_0, p_upstream_Switch_Tell_1, e, e1, ltI, hj, inB]
  · intro K rec
    simp [b_slices_IndexFunc_int_0, ltI]
  · rintro _ rfl
    split <;> rename_i hi <;> exact W.ret (by rw [hi]; rfl)
  · rintro _ rfl
    split
    · rename_i i hi
      rw [hi] at hsp
      obtain ⟨k, h1, h2, h3, h4⟩ := hsp
      rw [Nat.zero_add] at h1
      subst h1
      refine W.cond (fun h => by simp at h) (fun _ => ?_)
      have e1 : IntKind.i64.wrap ((i : Int) + 1) = ((i + 1 : Nat) : Int) := by rw [wrap_i64 (by omega) (by omega)]; simp
      simp only [D.nth_zero, D.nth_succ, D.int_i, D.list_n, e1]
      refine W.bind (W.delete (fun x => leI x.int (t - w)) (fun i j row => [.i t, .i (i : Int), .i (j : Int), .n row, bD f w o p, b1, b2, b3, b5, b6]) (fun i row => (0, [.i (i : Int), .n row, bD f w o p, b1, b2, b3, b5, b6])) l ?_ ?_ i h2 h3 h4) ?_
      · intro K rec i j row hij hj hlen
        have e1 : IntKind.i64.wrap ((i : Int) + 1) = (i : Int) + 1 := wrap_i64 (by omega) (by omega)
        have e2 : IntKind.i64.wrap ((j : Int) + 1) = (j : Int) + 1 := wrap_i64 (by omega) (by omega)
        have hi' : i < row.length := by omega
        cases hb : leI (D.nth row j).int (t - w) <;> simp [b_slices_DeleteFunc_int_0, p_upstream_Switch_Tell_1, e, e1, e2, ltI, hj, hi', inB, hb]
      · intro K rec i j row hj
        simp [b_slices_DeleteFunc_int_0, ltI, hj]
      · rintro _ ⟨i', row, rfl, h5, h6, h7⟩
        have hin : inB (i' : Int) (row.length + 1) = true := inB_mk (by omega) (by omega)
        refine W.congr (b := fun _ _ => some [.n (row.take i'), bD f w o p, b1, b2, b3, b5, b6]) (W.ret (by rw [h7])) fun K n => ?_
        have hmin : min i' row.length = i' := by omega
        have hin2 : inB (i' : Int) (i' + (row.length - i') + 1) = true := inB_mk (by omega) (by omega)
        simp [clearRow, hin, hmin, hin2]
    · rename_i hi
      rw [hi] at hsp
      refine W.cond (fun _ => ?_) (fun h => by simp at h)
      exact W.ret (by rw [filter_none hsp]; rfl)
/-- What a switch's counts are behind a step to a moment. -/
def Past (o t st op ask g a1 g1 : Int) : Prop := (sa o t st op = st → a1 = ask ∧ g1 = g) ∧ (sa o t st op ≠ st → a1 = 0 ∧ g1 = 0)
theorem past_ex (o t st op ask g : Int) : ∃ a1 g1, Past o t st op ask g a1 g1 ∧ (if sa o t st op = st then D.i ask else .i 0) = .i a1 ∧ (if sa o t st op = st then D.i g else .i 0) = .i g1 := by
  by_cases h : sa o t st op = st
  · exact ⟨ask, g, ⟨fun _ => ⟨rfl, rfl⟩, fun h' => absurd h h'⟩, by rw [if_pos h], by rw [if_pos h]⟩
  · exact ⟨0, 0, ⟨fun h' => absurd h' h, fun _ => ⟨rfl, rfl⟩⟩, by rw [if_neg h], by rw [if_neg h]⟩
theorem w_AskS0 (f w o p t now st op ask g : Int) (l : List D) (htf : tf t now ≠ 0) : W (fun K _ => f_upstream_Switch_Ask K (.i t) (bD f w o p) (.i now) (.i st) (.i op) (.i ask) (.i g) (.n l)) (· = [.b false, .i (tf t now), bD f w o p, .i now, .i st, .i op, .i ask, .i g, .n l]) := by
  unfold f_upstream_Switch_Ask
  refine W.bind (w_timeFault t now _ _ _ _ _ l) ?_
  rintro _ rfl
  exact W.cond (fun _ => W.ret rfl) (fun h => by simp at h; exact absurd h htf)
theorem w_AskS (f w o p t now st op ask g : Int) (l : List D) (ho : 0 ≤ o ∧ o ≤ 3600000) (hp : 0 ≤ p ∧ p ≤ 100) (hop : 0 ≤ op ∧ op ≤ 345686400000) (hask : -1000 ≤ ask ∧ ask ≤ 1000) (htf : tf t now = 0) :
    W (fun K _ => f_upstream_Switch_Ask K (.i t) (bD f w o p) (.i now) (.i st) (.i op) (.i ask) (.i g) (.n l)) (fun r => ∃ a1 g1, Past o t st op ask g a1 g1 ∧
      ((sa o t st op = 2 ∧ a1 < p ∧ r = [.b true, .i 0, bD f w o p, .i t, .i 2, .i op, .i (a1 + 1), .i g1, .n l]) ∨
       (¬ (sa o t st op = 2 ∧ a1 < p) ∧ r = [.b (sa o t st op == 0), .i 0, bD f w o p, .i t, .i (sa o t st op), .i op, .i a1, .i g1, .n l]))) := by
  unfold f_upstream_Switch_Ask
  refine W.bind (w_timeFault t now _ _ _ _ _ l) ?_
  rintro _ rfl
  refine W.cond (fun h => by simp at h; exact absurd htf h) (fun _ => ?_)
  refine W.bind (w_pass f w o p t st op (.i now) (.i ask) (.i g) l ho hop) ?_
  rintro _ rfl
  obtain ⟨a1, g1, h1, h2, h3⟩ := past_ex o t st op ask g
  simp only [h2, h3, D.nth_zero, D.nth_succ, D.int_i, D.at_n, D.list_n]
  have ha : -1000 ≤ a1 ∧ a1 ≤ 1000 := by
    by_cases h : sa o t st op = st
    · have := (h1.1 h).1; omega
    · have := (h1.2 h).1; omega
  have e : IntKind.i64.wrap (a1 + 1) = a1 + 1 := wrap_i64 (by omega) (by omega)
  refine W.cond (fun h => ?_) (fun h => ?_)
  · simp at h
    exact W.ret ⟨a1, g1, h1, .inl ⟨h.1, h.2, by rw [e, h.1]⟩⟩
  · simp at h
    exact W.ret ⟨a1, g1, h1, .inr ⟨by intro h'; have := h h'.1; omega, rfl⟩⟩
theorem w_AskF0 (f w o p t : Int) (opn : Bool) (snc ask g lat : Int) (l : List D) (htf : tf t lat ≠ 0) : W (fun K _ => f_gateref2_Fuse_Ask K (.i t) (bD f w o p) (.b opn) (.i snc) (.i ask) (.i g) (.i lat) (.n l)) (· = [.b false, .i (tf t lat), bD f w o p, .b opn, .i snc, .i ask, .i g, .i lat, .n l]) := by
  unfold f_gateref2_Fuse_Ask
  refine W.bind (w_fault t lat _ _ _ _ _ l) ?_
  rintro _ rfl
  exact W.cond (fun _ => W.ret rfl) (fun h => by simp at h; exact absurd h htf)
theorem tf_zero {t now : Int} (h : tf t now = 0) : 0 ≤ t ∧ t < 345686400000 ∧ now ≤ t := by
  unfold tf at h
  split at h
  · split at h
    · cases h
    · omega
  · cases h
theorem w_AskF (f w o p t : Int) (opn : Bool) (snc ask g lat : Int) (l : List D) (hop : 0 ≤ snc ∧ snc ≤ 345686400000) (hask : 0 ≤ ask ∧ ask ≤ 1000) (htf : tf t lat = 0) :
    W (fun K _ => f_gateref2_Fuse_Ask K (.i t) (bD f w o p) (.b opn) (.i snc) (.i ask) (.i g) (.i lat) (.n l)) (fun r =>
      (fs o t opn snc = 0 ∧ r = [.b true, .i 0, bD f w o p, .b opn, .i snc, .i ask, .i g, .i t, .n l]) ∨
      (fs o t opn snc = 1 ∧ r = [.b false, .i 0, bD f w o p, .b opn, .i snc, .i ask, .i g, .i t, .n l]) ∨
      (fs o t opn snc ≠ 0 ∧ fs o t opn snc ≠ 1 ∧ r = [.b (leI (ask + 1) p), .i 0, bD f w o p, .b opn, .i snc, .i (ask + 1), .i g, .i t, .n l])) := by
  unfold f_gateref2_Fuse_Ask
  obtain ⟨h1, h2, h3⟩ := tf_zero htf
  refine W.bind (w_fault t lat _ _ _ _ _ l) ?_
  rintro _ rfl
  refine W.cond (fun h => by simp at h; exact absurd htf h) (fun _ => ?_)
  refine W.bind (w_state f w o p t snc opn (.i ask) (.i g) (.i t) l ⟨h1, by omega⟩ hop) ?_
  rintro _ rfl
  have e : IntKind.i64.wrap (ask + 1) = ask + 1 := wrap_i64 (by omega) (by omega)
  refine W.cond (fun h => W.ret (.inl ⟨by simpa using h, rfl⟩)) fun h => W.cond (fun h' => W.ret (.inr (.inl ⟨by simpa using h', rfl⟩))) fun h' => ?_
  simp only [D.nth_zero, D.nth_succ, D.int_i, D.at_n, D.list_n, e]
  exact W.ret (.inr (.inr ⟨by simpa using h, by simpa using h', rfl⟩))
theorem w_StateS (f w o p t now st op ask g : Int) (l : List D) (ho : 0 ≤ o ∧ o ≤ 3600000) (hop : 0 ≤ op ∧ op ≤ 345686400000) :
    W (fun K _ => f_upstream_Switch_State K (.i t) (bD f w o p) (.i now) (.i st) (.i op) (.i ask) (.i g) (.n l)) (· = [.i (if tf t now = 0 then sa o t st op else 0), .i (tf t now), bD f w o p, .i now, .i st, .i op, .i ask, .i g, .n l]) := by
  unfold f_upstream_Switch_State
  refine W.bind (w_timeFault t now _ _ _ _ _ l) ?_
  rintro _ rfl
  refine W.cond (fun h => ?_) (fun h => ?_)
  · simp at h
    exact W.ret (by rw [if_neg h]; rfl)
  · simp at h
    refine W.bind (w_stateAt f w o p t st op (.i now) (.i ask) (.i g) l ho hop) ?_
    rintro _ rfl
    exact W.ret (by rw [if_pos h, h]; rfl)
theorem w_StateF (f w o p t : Int) (opn : Bool) (snc ask g lat : Int) (l : List D) (hop : 0 ≤ snc ∧ snc ≤ 345686400000) :
    W (fun K _ => f_gateref2_Fuse_State K (.i t) (bD f w o p) (.b opn) (.i snc) (.i ask) (.i g) (.i lat) (.n l)) (· = [.i (if tf t lat = 0 then fs o t opn snc else 0), .i (tf t lat), bD f w o p, .b opn, .i snc, .i ask, .i g, .i lat, .n l]) := by
  unfold f_gateref2_Fuse_State
  refine W.bind (w_fault t lat _ _ _ _ _ l) ?_
  rintro _ rfl
  refine W.cond (fun h => ?_) (fun h => ?_)
  · simp at h
    exact W.ret (by rw [if_neg h]; rfl)
  · simp at h
    obtain ⟨h1, h2, h3⟩ := tf_zero h
    refine W.bind (w_state f w o p t snc opn (.i ask) (.i g) (.i lat) l ⟨h1, by omega⟩ hop) ?_
    rintro _ rfl
    exact W.ret (by rw [if_pos h, h]; rfl)
/-- The bad results that are not too long ago. -/
def late (c : Int) (l : List D) : List D := l.filter fun x => !leI x.int c
theorem w_TellS0 (f w o p t now st op ask g : Int) (good : Bool) (l : List D) (htf : tf t now ≠ 0) : W (fun K _ => f_upstream_Switch_Tell K (.i t) (.b good) (bD f w o p) (.i now) (.i st) (.i op) (.i ask) (.i g) (.n l)) (· = [.i (tf t now), bD f w o p, .i now, .i st, .i op, .i ask, .i g, .n l]) := by
  unfold f_upstream_Switch_Tell
  refine W.bind (w_timeFault t now _ _ _ _ _ l) ?_
  rintro _ rfl
  exact W.cond (fun _ => W.ret rfl) (fun h => by simp at h; exact absurd h htf)
theorem w_TellF0 (f w o p t : Int) (opn : Bool) (snc ask g lat : Int) (good : Bool) (l : List D) (htf : tf t lat ≠ 0) : W (fun K _ => f_gateref2_Fuse_Tell K (.i t) (.b good) (bD f w o p) (.b opn) (.i snc) (.i ask) (.i g) (.i lat) (.n l)) (· = [.i (tf t lat), bD f w o p, .b opn, .i snc, .i ask, .i g, .i lat, .n l]) := by
  unfold f_gateref2_Fuse_Tell
  refine W.bind (w_fault t lat _ _ _ _ _ l) ?_
  rintro _ rfl
  exact W.cond (fun _ => W.ret rfl) (fun h => by simp at h; exact absurd h htf)
theorem w_TellS (f w o p t now st op ask g : Int) (good : Bool) (l : List D) (hl : l.length ≤ 1000) (hv : Ok f w o p) (hop : 0 ≤ op ∧ op ≤ 345686400000) (hg : -1000 ≤ g ∧ g ≤ 1000) (htf : tf t now = 0) :
    W (fun K _ => f_upstream_Switch_Tell K (.i t) (.b good) (bD f w o p) (.i now) (.i st) (.i op) (.i ask) (.i g) (.n l)) (fun r => ∃ a1 g1, Past o t st op ask g a1 g1 ∧
      ((sa o t st op = 2 ∧ good = false ∧ r = [.i 0, bD f w o p, .i t, .i 1, .i t, .i a1, .i g1, .n []]) ∨
       (sa o t st op = 2 ∧ good = true ∧ r = [.i 0, bD f w o p, .i t, .i (if g1 + 1 = p then 0 else 2), .i op, .i a1, .i (g1 + 1), .n l]) ∨
       (sa o t st op = 0 ∧ good = false ∧ f ≤ (late (t - w) (l ++ [.i t])).length ∧ r = [.i 0, bD f w o p, .i t, .i 1, .i t, .i a1, .i g1, .n []]) ∨
       (sa o t st op = 0 ∧ good = false ∧ (late (t - w) (l ++ [.i t])).length < f ∧ r = [.i 0, bD f w o p, .i t, .i 0, .i op, .i a1, .i g1, .n (late (t - w) (l ++ [.i t]))]) ∨
       (sa o t st op ≠ 2 ∧ (sa o t st op = 0 → good = true) ∧ r = [.i 0, bD f w o p, .i t, .i (sa o t st op), .i op, .i a1, .i g1, .n l]))) := by
  obtain ⟨v1, v2, v3, v4, v5, v6, v7, v8⟩ := hv
  obtain ⟨t1, t2, t3⟩ := tf_zero htf
  unfold f_upstream_Switch_Tell
  refine W.bind (w_timeFault t now _ _ _ _ _ l) ?_
  rintro _ rfl
  refine W.cond (fun h => by simp at h; exact absurd htf h) (fun _ => ?_)
  refine W.bind (w_pass f w o p t st op (.i now) (.i ask) (.i g) l (by omega) hop) ?_
  rintro _ rfl
  obtain ⟨a1, g1, h1, h2, h3⟩ := past_ex o t st op ask g
  simp only [h2, h3, D.nth_zero, D.nth_succ, D.int_i, D.at_n, D.list_n, D.bool_b]
  have ha : -1000 ≤ g1 ∧ g1 ≤ 1000 := by
    by_cases h : sa o t st op = st
    · have := (h1.1 h).2; omega
    · have := (h1.2 h).2; omega
  have e : IntKind.i64.wrap (g1 + 1) = g1 + 1 := wrap_i64 (by omega) (by omega)
  simp only [e]
  refine W.cond (fun h => ?_) fun h => W.cond (fun h' => ?_) fun h' => W.cond (fun h'' => ?_) fun h'' => ?_
  · simp at h
    exact W.ret ⟨a1, g1, h1, .inl ⟨h.1, h.2, rfl⟩⟩
  · simp at h h'
    refine W.cond (fun q => ?_) (fun q => ?_)
    · simp at q
      exact W.ret ⟨a1, g1, h1, .inr (.inl ⟨h', h h', by rw [if_pos q]⟩)⟩
    · simp at q
      exact W.ret ⟨a1, g1, h1, .inr (.inl ⟨h', h h', by rw [if_neg q, h']⟩)⟩
  · simp at h h' h''
    refine W.cond (fun _ => ?_) (fun q => by rw [lim_mk (by omega)] at q; cases q)
    refine W.bind (w_DeleteFunc f w o p t (l ++ [.i t]) _ _ _ _ _ (by simp; omega) (by omega) (by omega)) ?_
    rintro _ rfl
    refine W.cond (fun q => ?_) (fun q => ?_)
    · simp at q
      exact W.ret ⟨a1, g1, h1, .inr (.inr (.inl ⟨h''.1, h''.2, by unfold late; simpa using q, rfl⟩))⟩
    · simp at q
      exact W.ret ⟨a1, g1, h1, .inr (.inr (.inr (.inl ⟨h''.1, h''.2, by unfold late; simpa using q, by rw [h''.1]; rfl⟩)))⟩
  · simp at h h' h''
    exact W.ret ⟨a1, g1, h1, .inr (.inr (.inr (.inr ⟨h', h'', rfl⟩)))⟩
theorem fold_count (c : Int) : ∀ (l : List D) (n : Int), l.foldl (fun n x => if gtI x.int c then n + 1 else n) n = n + (late c l).length
  | [], n => by simp [late]
  | x :: l, n => by
    rw [List.foldl_cons, fold_count c l]
    by_cases h : c < x.int
    · have h1 : gtI x.int c = true := by simp [h]
      have h2 : leI x.int c = false := by simp [h]
      simp [late, h1, h2]
      omega
    · have h1 : gtI x.int c = false := by simp; omega
      have h2 : leI x.int c = true := by simp; omega
      simp [late, h1, h2]
theorem w_count (f w o p t : Int) (l : List D) (b1 b2 b4 b5 b6 : D) (hl : l.length ≤ 1000000) (ht : 0 ≤ t ∧ t ≤ 345686400000) (hw : 0 ≤ w ∧ w ≤ 3600000) : W (fun K _ => fixN (b_gateref2_Fuse_Tell_0 K) K [.i t, .i 0, .i (l.length : Int), .i 0, bD f w o p, b1, b2, b4, b5, b6, .n l]) (· = (0, [.i ((late (t - w) l).length : Int), bD f w o p, b1, b2, b4, b5, b6, .n l])) := by
  have e : IntKind.i64.wrap (t - w) = t - w := wrap_i64 (by omega) (by omega)
  have hb : ∀ (m : List D) (n : Int), 0 ≤ n → m.foldl (fun n x => if gtI x.int (t - w) then n + 1 else n) n ≤ n + m.length ∧ 0 ≤ m.foldl (fun n x => if gtI x.int (t - w) then n + 1 else n) n := fun m n hn => by
    rw [fold_count]
    have : (late (t - w) m).length ≤ m.length := List.length_filter_le _ _
    omega
  refine W.foldl l (fun j n => [.i t, .i n, .i (l.length : Int), .i (j : Int), bD f w o p, b1, b2, b4, b5, b6, .n l]) (fun n x => if gtI x.int (t - w) then n + 1 else n) (0 : Int) ?_ ?_
  · intro j n hj hn ih
    have hbn := hb (l.take j) 0 (by omega)
    rw [← hn] at hbn
    have hlt : (l.take j).length ≤ l.length := by simp; omega
    have e1 : IntKind.i64.wrap ((j : Int) + 1) = ((j + 1 : Nat) : Int) := by rw [wrap_i64 (by omega) (by omega)]; simp
    have e2 : IntKind.i64.wrap (n + 1) = n + 1 := wrap_i64 (by omega) (by omega)
    refine W.congr ih fun K m => ?_
    cases hg : gtI (D.nth l j).int (t - w) <;> simp [b_gateref2_Fuse_Tell_0, ltI, hj, inB, e, e1, e2, hg]
  · refine W.congr (b := fun _ _ => some (0, [.i ((late (t - w) l).length : Int), bD f w o p, b1, b2, b4, b5, b6, .n l])) (W.ret rfl) fun K m => ?_
    have := fold_count (t - w) l 0
    rw [this]
    simp [b_gateref2_Fuse_Tell_0, ltI]
theorem w_TellF (f w o p t : Int) (opn : Bool) (snc ask g lat : Int) (good : Bool) (l : List D) (hl : l.length ≤ 1000) (hv : Ok f w o p) (hop : 0 ≤ snc ∧ snc ≤ 345686400000) (hg : -1000 ≤ g ∧ g ≤ 1000) (htf : tf t lat = 0) :
    W (fun K _ => f_gateref2_Fuse_Tell K (.i t) (.b good) (bD f w o p) (.b opn) (.i snc) (.i ask) (.i g) (.i lat) (.n l)) (fun r =>
      (fs o t opn snc = 2 ∧ good = false ∧ r = [.i 0, bD f w o p, .b true, .i t, .i 0, .i 0, .i t, .n []]) ∨
      (fs o t opn snc = 2 ∧ good = true ∧ g + 1 = p ∧ r = [.i 0, bD f w o p, .b false, .i t, .i 0, .i 0, .i t, .n []]) ∨
      (fs o t opn snc = 2 ∧ good = true ∧ g + 1 ≠ p ∧ r = [.i 0, bD f w o p, .b opn, .i snc, .i ask, .i (g + 1), .i t, .n l]) ∨
      (fs o t opn snc = 0 ∧ good = false ∧ f ≤ (late (t - w) (l ++ [.i t])).length ∧ r = [.i 0, bD f w o p, .b true, .i t, .i 0, .i 0, .i t, .n []]) ∨
      (fs o t opn snc = 0 ∧ good = false ∧ (late (t - w) (l ++ [.i t])).length < f ∧ r = [.i 0, bD f w o p, .b opn, .i snc, .i ask, .i g, .i t, .n (l ++ [.i t])]) ∨
      (fs o t opn snc ≠ 2 ∧ (fs o t opn snc = 0 → good = true) ∧ r = [.i 0, bD f w o p, .b opn, .i snc, .i ask, .i g, .i t, .n l])) := by
  obtain ⟨v1, v2, v3, v4, v5, v6, v7, v8⟩ := hv
  obtain ⟨t1, t2, t3⟩ := tf_zero htf
  unfold f_gateref2_Fuse_Tell
  refine W.bind (w_fault t lat _ _ _ _ _ l) ?_
  rintro _ rfl
  refine W.cond (fun h => by simp at h; exact absurd htf h) (fun _ => ?_)
  refine W.bind (w_state f w o p t snc opn (.i ask) (.i g) (.i t) l (by omega) hop) ?_
  rintro _ rfl
  have e : IntKind.i64.wrap (g + 1) = g + 1 := wrap_i64 (by omega) (by omega)
  simp only [D.nth_zero, D.nth_succ, D.int_i, D.at_n, D.list_n, D.bool_b, e]
  refine W.cond (fun h => ?_) fun h => W.cond (fun h' => ?_) fun h' => W.cond (fun h'' => ?_) fun h'' => ?_
  · simp at h
    refine W.cond (fun _ => ?_) (fun q => by rw [lim_mk (by omega)] at q; cases q)
    refine W.bind (w_count f w o p t (l ++ [.i t]) _ _ _ _ _ (by simp; omega) (by omega) (by omega)) ?_
    rintro _ rfl
    refine W.cond (fun q => ?_) (fun q => ?_)
    · simp at q
      exact W.ret (.inr (.inr (.inr (.inl ⟨h.1, h.2, by simpa using q, rfl⟩))))
    · simp at q
      exact W.ret (.inr (.inr (.inr (.inr (.inl ⟨h.1, h.2, by simpa using q, rfl⟩)))))
  · simp at h h'
    exact W.ret (.inl ⟨h'.1, h'.2, rfl⟩)
  · simp at h h' h''
    refine W.cond (fun q => ?_) (fun q => ?_)
    · simp at q
      exact W.ret (.inr (.inl ⟨h'', h' h'', q, rfl⟩))
    · simp at q
      exact W.ret (.inr (.inr (.inl ⟨h'', h' h'', q, rfl⟩)))
  · simp at h h' h''
    exact W.ret (.inr (.inr (.inr (.inr (.inr ⟨h'', h, rfl⟩)))))
theorem late_app (c : Int) (a b : List D) : late c (a ++ b) = late c a ++ late c b := List.filter_append ..
theorem late_late {c d : Int} (h : c ≤ d) (l : List D) : late d (late c l) = late d l := by
  unfold late
  rw [List.filter_filter]
  congr 1
  funext x
  by_cases h1 : x.int ≤ d
  · simp [leI, h1]
  · have : ¬ x.int ≤ c := by omega
    simp [leI, h1, this]
/-- Both breakers tell the same. -/
structure SS where
  at' : Int
  i : Int
  s : D
  now : Int
  st : Int
  op : Int
  ask : Int
  g : Int
  opn : Bool
  snc : Int
  ask' : Int
  g' : Int
  A : List D
  B : List D
def SS.ds (f w o p n : Int) (x : SS) : List D := [.i x.at', .i n, .i x.i, x.s, bD f w o p, .i x.now, .i x.st, .i x.op, .i x.ask, .i x.g, bD f w o p, .b x.opn, .i x.snc, .i x.ask', .i x.g', .i x.now, .n x.A, .n x.B]
structure Rel (w o p i now st op ask g : Int) (A : List D) (opn : Bool) (snc ask' g' : Int) (B : List D) : Prop where
  now0 : 0 ≤ now ∧ now ≤ 345686400000
  op0 : 0 ≤ op ∧ op ≤ 345686400000
  snc0 : 0 ≤ snc ∧ snc ≤ 345686400000
  ask0 : -1000 ≤ ask ∧ ask ≤ 1000
  g0 : -1000 ≤ g ∧ g ≤ 1000
  ask1 : 0 ≤ ask' ∧ ask' ≤ i
  g1 : -1000 ≤ g' ∧ g' ≤ 1000
  A0 : (A.length : Int) ≤ i
  B0 : (B.length : Int) ≤ i
  mode : (st = 0 ∧ opn = false ∧ ∀ θ, now - w ≤ θ → late θ A = late θ B) ∨
    (st = 1 ∧ opn = true ∧ snc = op ∧ ask' = 0 ∧ g' = 0 ∧ A = [] ∧ B = []) ∨
    (st = 2 ∧ opn = true ∧ snc = op ∧ op + o ≤ now ∧ ask = min ask' p ∧ g = g' ∧ 0 ≤ g ∧ g < p ∧ A = [] ∧ B = [])
def Inv (w o p n : Int) (x : SS) : Prop := 0 ≤ x.i ∧ x.i ≤ n ∧ n ≤ 20 ∧ 0 ≤ x.at' ∧ x.at' ≤ 20 * x.i ∧ St (100 + 10 * x.i) x.s ∧ Rel w o p x.i x.now x.st x.op x.ask x.g x.A x.opn x.snc x.ask' x.g' x.B
/-- Asked. -/
theorem rel_ask {f w o p i t now st op ask g a1 g1 snc ask' g' : Int} {A B : List D} {opn : Bool} (hv : Ok f w o p) (hi : i ≤ 100) (h : Rel w o p i now st op ask g A opn snc ask' g' B) (htf : tf t now = 0) (hp : Past o t st op ask g a1 g1) {rs rf : List D}
    (hs : (sa o t st op = 2 ∧ a1 < p ∧ rs = [.b true, .i 0, bD f w o p, .i t, .i 2, .i op, .i (a1 + 1), .i g1, .n A]) ∨ (¬ (sa o t st op = 2 ∧ a1 < p) ∧ rs = [.b (sa o t st op == 0), .i 0, bD f w o p, .i t, .i (sa o t st op), .i op, .i a1, .i g1, .n A]))
    (hf : (fs o t opn snc = 0 ∧ rf = [.b true, .i 0, bD f w o p, .b opn, .i snc, .i ask', .i g', .i t, .n B]) ∨ (fs o t opn snc = 1 ∧ rf = [.b false, .i 0, bD f w o p, .b opn, .i snc, .i ask', .i g', .i t, .n B]) ∨
      (fs o t opn snc ≠ 0 ∧ fs o t opn snc ≠ 1 ∧ rf = [.b (leI (ask' + 1) p), .i 0, bD f w o p, .b opn, .i snc, .i (ask' + 1), .i g', .i t, .n B])) :
    ∃ b st2 a2 g2 ask2, rs = [.b b, .i 0, bD f w o p, .i t, .i st2, .i op, .i a2, .i g2, .n A] ∧ rf = [.b b, .i 0, bD f w o p, .b opn, .i snc, .i ask2, .i g', .i t, .n B] ∧ Rel w o p (i + 1) t st2 op a2 g2 A opn snc ask2 g' B := by
  obtain ⟨v1, v2, v3, v4, v5, v6, v7, v8⟩ := hv
  obtain ⟨t1, t2, t3⟩ := tf_zero htf
  obtain ⟨q1, q2, q3, q4, q5, q6, q7, q8, q9, mode⟩ := h
  rcases mode with ⟨rfl, rfl, hm⟩ | ⟨rfl, rfl, rfl, rfl, rfl, rfl, rfl⟩ | ⟨rfl, rfl, rfl, m1, m2, rfl, m3, m4, rfl, rfl⟩
  · have e1 : sa o t 0 op = 0 := by unfold sa; rw [if_neg (by omega)]
    have e2 : fs o t false snc = 0 := rfl
    obtain ⟨rfl, rfl⟩ := hp.1 e1
    rw [e1] at hs
    rw [e2] at hf
    rcases hs with ⟨h, _⟩ | ⟨_, rfl⟩
    · omega
    rcases hf with ⟨_, rfl⟩ | ⟨h, _⟩ | ⟨h, _⟩
    · exact ⟨true, 0, a1, g1, ask', rfl, rfl, ⟨by omega, q2, q3, q4, q5, by omega, q7, by omega, by omega, .inl ⟨rfl, rfl, fun θ hθ => hm θ (by omega)⟩⟩⟩
    · omega
    · omega
  · by_cases hlt : t - snc < o
    · have e1 : sa o t 1 snc = 1 := by unfold sa; rw [if_neg (by omega)]
      have e2 : fs o t true snc = 1 := by simp [fs, hlt]
      obtain ⟨rfl, rfl⟩ := hp.1 e1
      rw [e1] at hs
      rw [e2] at hf
      rcases hs with ⟨h, _⟩ | ⟨_, rfl⟩
      · omega
      rcases hf with ⟨h, _⟩ | ⟨_, rfl⟩ | ⟨_, h, _⟩
      · omega
      · exact ⟨false, 1, a1, g1, 0, rfl, rfl, ⟨by omega, q2, q3, q4, q5, by omega, by omega, by omega, by omega, .inr (.inl ⟨rfl, rfl, rfl, rfl, rfl, rfl, rfl⟩)⟩⟩
      · omega
    · have e1 : sa o t 1 snc = 2 := by unfold sa; rw [if_pos (by omega)]
      have e2 : fs o t true snc = 2 := by simp [fs]; omega
      obtain ⟨rfl, rfl⟩ := hp.2 (by rw [e1]; decide)
      rw [e1] at hs
      rw [e2] at hf
      rcases hs with ⟨_, h, rfl⟩ | ⟨h, _⟩
      · rcases hf with ⟨h, _⟩ | ⟨h, _⟩ | ⟨_, _, rfl⟩
        · omega
        · omega
        · have : leI (0 + 1) p = true := by simp; omega
          rw [this]
          exact ⟨true, 2, 0 + 1, 0, 0 + 1, rfl, rfl, ⟨by omega, q2, q3, by omega, by omega, by omega, by omega, by omega, by omega, .inr (.inr ⟨rfl, rfl, rfl, by omega, by omega, rfl, by omega, by omega, rfl, rfl⟩)⟩⟩
      · exact absurd ⟨rfl, by omega⟩ h
  · have e1 : sa o t 2 snc = 2 := by unfold sa; rw [if_neg (by omega)]
    have e2 : fs o t true snc = 2 := by simp [fs]; omega
    obtain ⟨rfl, rfl⟩ := hp.1 e1
    rw [e1] at hs
    rw [e2] at hf
    rcases hf with ⟨h, _⟩ | ⟨h, _⟩ | ⟨_, _, rfl⟩
    · omega
    · omega
    · rcases hs with ⟨_, h, rfl⟩ | ⟨h, rfl⟩
      · have : leI (ask' + 1) p = true := by simp; omega
        rw [this]
        exact ⟨true, 2, a1 + 1, g1, ask' + 1, rfl, rfl, ⟨by omega, q2, q3, by omega, by omega, by omega, by omega, by omega, by omega, .inr (.inr ⟨rfl, rfl, rfl, by omega, by omega, rfl, m3, m4, rfl, rfl⟩)⟩⟩
      · have h' : ¬ a1 < p := fun h' => h ⟨rfl, h'⟩
        have : leI (ask' + 1) p = false := by simp; omega
        rw [this]
        exact ⟨false, 2, a1, g1, ask' + 1, rfl, rfl, ⟨by omega, q2, q3, by omega, by omega, by omega, by omega, by omega, by omega, .inr (.inr ⟨rfl, rfl, rfl, by omega, by omega, rfl, m3, m4, rfl, rfl⟩)⟩⟩
theorem rel_tell {f w o p i t now st op ask g a1 g1 snc ask' g' : Int} {A B : List D} {opn good : Bool} (hv : Ok f w o p) (hi : i ≤ 100) (h : Rel w o p i now st op ask g A opn snc ask' g' B) (htf : tf t now = 0) (hp : Past o t st op ask g a1 g1) {rs rf : List D}
    (hs : (sa o t st op = 2 ∧ good = false ∧ rs = [.i 0, bD f w o p, .i t, .i 1, .i t, .i a1, .i g1, .n []]) ∨
       (sa o t st op = 2 ∧ good = true ∧ rs = [.i 0, bD f w o p, .i t, .i (if g1 + 1 = p then 0 else 2), .i op, .i a1, .i (g1 + 1), .n A]) ∨
       (sa o t st op = 0 ∧ good = false ∧ f ≤ (late (t - w) (A ++ [.i t])).length ∧ rs = [.i 0, bD f w o p, .i t, .i 1, .i t, .i a1, .i g1, .n []]) ∨
       (sa o t st op = 0 ∧ good = false ∧ (late (t - w) (A ++ [.i t])).length < f ∧ rs = [.i 0, bD f w o p, .i t, .i 0, .i op, .i a1, .i g1, .n (late (t - w) (A ++ [.i t]))]) ∨
       (sa o t st op ≠ 2 ∧ (sa o t st op = 0 → good = true) ∧ rs = [.i 0, bD f w o p, .i t, .i (sa o t st op), .i op, .i a1, .i g1, .n A]))
    (hf : (fs o t opn snc = 2 ∧ good = false ∧ rf = [.i 0, bD f w o p, .b true, .i t, .i 0, .i 0, .i t, .n []]) ∨
      (fs o t opn snc = 2 ∧ good = true ∧ g' + 1 = p ∧ rf = [.i 0, bD f w o p, .b false, .i t, .i 0, .i 0, .i t, .n []]) ∨
      (fs o t opn snc = 2 ∧ good = true ∧ g' + 1 ≠ p ∧ rf = [.i 0, bD f w o p, .b opn, .i snc, .i ask', .i (g' + 1), .i t, .n B]) ∨
      (fs o t opn snc = 0 ∧ good = false ∧ f ≤ (late (t - w) (B ++ [.i t])).length ∧ rf = [.i 0, bD f w o p, .b true, .i t, .i 0, .i 0, .i t, .n []]) ∨
      (fs o t opn snc = 0 ∧ good = false ∧ (late (t - w) (B ++ [.i t])).length < f ∧ rf = [.i 0, bD f w o p, .b opn, .i snc, .i ask', .i g', .i t, .n (B ++ [.i t])]) ∨
      (fs o t opn snc ≠ 2 ∧ (fs o t opn snc = 0 → good = true) ∧ rf = [.i 0, bD f w o p, .b opn, .i snc, .i ask', .i g', .i t, .n B])) :
    ∃ st2 op2 a2 g2 A2 opn2 snc2 ask2 gg2 B2, rs = [.i 0, bD f w o p, .i t, .i st2, .i op2, .i a2, .i g2, .n A2] ∧ rf = [.i 0, bD f w o p, .b opn2, .i snc2, .i ask2, .i gg2, .i t, .n B2] ∧ Rel w o p (i + 1) t st2 op2 a2 g2 A2 opn2 snc2 ask2 gg2 B2 := by
  obtain ⟨v1, v2, v3, v4, v5, v6, v7, v8⟩ := hv
  obtain ⟨t1, t2, t3⟩ := tf_zero htf
  obtain ⟨q1, q2, q3, q4, q5, q6, q7, q8, q9, mode⟩ := h
  rcases mode with ⟨rfl, rfl, hm⟩ | ⟨rfl, rfl, rfl, rfl, rfl, rfl, rfl⟩ | ⟨rfl, rfl, rfl, m1, m2, rfl, m3, m4, rfl, rfl⟩
  · have e1 : sa o t 0 op = 0 := by unfold sa; rw [if_neg (by omega)]
    have e2 : fs o t false snc = 0 := rfl
    obtain ⟨rfl, rfl⟩ := hp.1 e1
    rw [e1] at hs
    rw [e2] at hf
    have hl : late (t - w) (A ++ [.i t]) = late (t - w) (B ++ [.i t]) := by rw [late_app, late_app, hm _ (by omega)]
    have hAl : (late (t - w) (A ++ [.i t])).length ≤ A.length + 1 := by
      have := List.length_filter_le (fun x => !leI x.int (t - w)) (A ++ [.i t])
      simpa [late] using this
    rw [hl] at hs
    cases good with
    | false =>
      rcases hs with ⟨h, _⟩ | ⟨h, _⟩ | ⟨_, _, h1, rfl⟩ | ⟨_, _, h1, rfl⟩ | ⟨_, h, _⟩
      · omega
      · omega
      · rcases hf with ⟨h, _⟩ | ⟨h, _⟩ | ⟨h, _⟩ | ⟨_, _, _, rfl⟩ | ⟨_, _, h2, _⟩ | ⟨_, h, _⟩
        · omega
        · omega
        · omega
        · exact ⟨_, _, _, _, [], _, _, _, _, [], rfl, rfl, ⟨by omega, by omega, by omega, q4, q5, by omega, by omega, by simp; omega, by simp; omega, .inr (.inl ⟨rfl, rfl, rfl, rfl, rfl, rfl, rfl⟩)⟩⟩
        · omega
        · simp at h
      · rcases hf with ⟨h, _⟩ | ⟨h, _⟩ | ⟨h, _⟩ | ⟨_, _, h2, _⟩ | ⟨_, _, _, rfl⟩ | ⟨_, h, _⟩
        · omega
        · omega
        · omega
        · omega
        · refine ⟨_, _, _, _, _, _, _, _, _, _, rfl, rfl, ⟨by omega, q2, q3, q4, q5, by omega, q7, ?_, by simp; omega, .inl ⟨rfl, rfl, fun θ hθ => ?_⟩⟩⟩
          · rw [hl] at hAl; omega
          · rw [late_late hθ]
        · simp at h
      · simp at h
    | true =>
      rcases hs with ⟨h, _⟩ | ⟨h, _⟩ | ⟨_, h, _⟩ | ⟨_, h, _⟩ | ⟨_, _, rfl⟩
      · omega
      · omega
      · cases h
      · cases h
      · rcases hf with ⟨h, _⟩ | ⟨h, _⟩ | ⟨h, _⟩ | ⟨_, h, _⟩ | ⟨_, h, _⟩ | ⟨_, _, rfl⟩
        · omega
        · omega
        · omega
        · cases h
        · cases h
        · exact ⟨_, _, _, _, _, _, _, _, _, _, rfl, rfl, ⟨by omega, q2, q3, q4, q5, by omega, q7, by omega, by omega, .inl ⟨rfl, rfl, fun θ hθ => hm θ (by omega)⟩⟩⟩
  · by_cases hlt : t - snc < o
    · have e1 : sa o t 1 snc = 1 := by unfold sa; rw [if_neg (by omega)]
      have e2 : fs o t true snc = 1 := by simp [fs, hlt]
      obtain ⟨rfl, rfl⟩ := hp.1 e1
      rw [e1] at hs
      rw [e2] at hf
      rcases hs with ⟨h, _⟩ | ⟨h, _⟩ | ⟨h, _⟩ | ⟨h, _⟩ | ⟨_, _, rfl⟩
      · omega
      · omega
      · omega
      · omega
      rcases hf with ⟨h, _⟩ | ⟨h, _⟩ | ⟨h, _⟩ | ⟨h, _⟩ | ⟨h, _⟩ | ⟨_, _, rfl⟩
      · omega
      · omega
      · omega
      · omega
      · omega
      exact ⟨_, _, _, _, _, _, _, _, _, _, rfl, rfl, ⟨by omega, q2, q3, q4, q5, by omega, by omega, by omega, by omega, .inr (.inl ⟨rfl, rfl, rfl, rfl, rfl, rfl, rfl⟩)⟩⟩
    · have e1 : sa o t 1 snc = 2 := by unfold sa; rw [if_pos (by omega)]
      have e2 : fs o t true snc = 2 := by simp [fs]; omega
      obtain ⟨rfl, rfl⟩ := hp.2 (by rw [e1]; decide)
      rw [e1] at hs
      rw [e2] at hf
      cases good with
      | false =>
        rcases hs with ⟨_, _, rfl⟩ | ⟨_, h, _⟩ | ⟨h, _⟩ | ⟨h, _⟩ | ⟨h, _⟩
        · rcases hf with ⟨_, _, rfl⟩ | ⟨_, h, _⟩ | ⟨_, h, _⟩ | ⟨h, _⟩ | ⟨h, _⟩ | ⟨h, _⟩
          · exact ⟨_, _, _, _, [], _, _, _, _, [], rfl, rfl, ⟨by omega, by omega, by omega, by omega, by omega, by omega, by omega, by simp; omega, by simp; omega, .inr (.inl ⟨rfl, rfl, rfl, rfl, rfl, rfl, rfl⟩)⟩⟩
          · cases h
          · cases h
          · omega
          · omega
          · omega
        · cases h
        · omega
        · omega
        · omega
      | true =>
        rcases hs with ⟨_, h, _⟩ | ⟨_, _, rfl⟩ | ⟨h, _⟩ | ⟨h, _⟩ | ⟨h, _⟩
        · cases h
        · rcases hf with ⟨_, h, _⟩ | ⟨_, _, h2, rfl⟩ | ⟨_, _, h2, rfl⟩ | ⟨h, _⟩ | ⟨h, _⟩ | ⟨h, _⟩
          · cases h
          · rw [if_pos h2]
            exact ⟨_, _, _, _, [], _, _, _, _, [], rfl, rfl, ⟨by omega, by omega, by omega, by omega, by omega, by omega, by omega, by simp; omega, by simp; omega, .inl ⟨rfl, rfl, fun _ _ => rfl⟩⟩⟩
          · rw [if_neg h2]
            exact ⟨_, _, _, _, [], _, _, _, _, [], rfl, rfl, ⟨by omega, by omega, by omega, by omega, by omega, by omega, by omega, by simp; omega, by simp; omega, .inr (.inr ⟨rfl, rfl, rfl, by omega, by omega, rfl, by omega, by omega, rfl, rfl⟩)⟩⟩
          · omega
          · omega
          · omega
        · omega
        · omega
        · omega
  · have e1 : sa o t 2 snc = 2 := by unfold sa; rw [if_neg (by omega)]
    have e2 : fs o t true snc = 2 := by simp [fs]; omega
    obtain ⟨rfl, rfl⟩ := hp.1 e1
    rw [e1] at hs
    rw [e2] at hf
    cases good with
    | false =>
      rcases hs with ⟨_, _, rfl⟩ | ⟨_, h, _⟩ | ⟨h, _⟩ | ⟨h, _⟩ | ⟨h, _⟩
      · rcases hf with ⟨_, _, rfl⟩ | ⟨_, h, _⟩ | ⟨_, h, _⟩ | ⟨h, _⟩ | ⟨h, _⟩ | ⟨h, _⟩
        · exact ⟨_, _, _, _, [], _, _, _, _, [], rfl, rfl, ⟨by omega, by omega, by omega, by omega, by omega, by omega, by omega, by simp; omega, by simp; omega, .inr (.inl ⟨rfl, rfl, rfl, rfl, rfl, rfl, rfl⟩)⟩⟩
        · cases h
        · cases h
        · omega
        · omega
        · omega
      · cases h
      · omega
      · omega
      · omega
    | true =>
      rcases hs with ⟨_, h, _⟩ | ⟨_, _, rfl⟩ | ⟨h, _⟩ | ⟨h, _⟩ | ⟨h, _⟩
      · cases h
      · rcases hf with ⟨_, h, _⟩ | ⟨_, _, h2, rfl⟩ | ⟨_, _, h2, rfl⟩ | ⟨h, _⟩ | ⟨h, _⟩ | ⟨h, _⟩
        · cases h
        · rw [if_pos h2]
          exact ⟨_, _, _, _, [], _, _, _, _, [], rfl, rfl, ⟨by omega, by omega, by omega, by omega, by omega, by omega, by omega, by simp; omega, by simp; omega, .inl ⟨rfl, rfl, fun _ _ => rfl⟩⟩⟩
        · rw [if_neg h2]
          exact ⟨_, _, _, _, [], _, _, _, _, [], rfl, rfl, ⟨by omega, by omega, by omega, by omega, by omega, by omega, by omega, by simp; omega, by simp; omega, .inr (.inr ⟨rfl, rfl, rfl, by omega, by omega, rfl, by omega, by omega, rfl, rfl⟩)⟩⟩
        · omega
        · omega
        · omega
      · omega
      · omega
      · omega
/-- Told of the state. -/
theorem rel_state {w o p i t now st op ask g snc ask' g' : Int} {A B : List D} {opn : Bool} (h : Rel w o p i now st op ask g A opn snc ask' g' B) (htf : tf t now = 0) : sa o t st op = fs o t opn snc := by
  obtain ⟨t1, t2, t3⟩ := tf_zero htf
  obtain ⟨q1, q2, q3, q4, q5, q6, q7, q8, q9, mode⟩ := h
  rcases mode with ⟨rfl, rfl, hm⟩ | ⟨rfl, rfl, rfl, rfl, rfl, rfl, rfl⟩ | ⟨rfl, rfl, rfl, m1, m2, rfl, m3, m4, rfl, rfl⟩
  · unfold sa; rw [if_neg (by omega)]; rfl
  · by_cases hlt : t - snc < o
    · unfold sa; rw [if_neg (by omega)]; simp [fs, hlt]
    · unfold sa; rw [if_pos (by omega)]; simp [fs]; omega
  · unfold sa; rw [if_neg (by omega)]; simp [fs]; omega
theorem Rel.later {w o p i now st op ask g snc ask' g' : Int} {A B : List D} {opn : Bool} (h : Rel w o p i now st op ask g A opn snc ask' g' B) : Rel w o p (i + 1) now st op ask g A opn snc ask' g' B := by
  obtain ⟨q1, q2, q3, q4, q5, q6, q7, q8, q9, mode⟩ := h
  exact ⟨q1, q2, q3, q4, q5, by omega, q7, by omega, by omega, mode⟩
theorem w_when (at' : Int) (fl : Bool) (c : Int) (s : D) (hs : St c s) (hc : c ≤ 1000000) (h : 0 ≤ at' ∧ at' ≤ 1000) : W (fun K _ => b_gatelaw2_SwitchesTurn_1 K [.i at', .i at', .b fl, s]) (fun r => ∃ t s', r = (0, [.i t, s']) ∧ St (c + 1) s') := by
  unfold b_gatelaw2_SwitchesTurn_1
  simp only [D.nth_zero, D.nth_succ, D.int_i, D.bool_b]
  refine W.cond (fun _ => ?_) (fun _ => W.ret ⟨at', s, rfl, hs.le (by omega)⟩)
  refine W.bind (w_Pick c s _ hs (by omega) (by simp) (by simp)) ?_
  rintro _ ⟨x, s', _, rfl, hx, h'⟩
  simp only [List.mem_cons, List.not_mem_nil, or_false] at hx
  rcases hx with rfl | rfl | rfl | rfl <;> exact W.ret ⟨_, s', rfl, h'⟩
theorem w_turns (f w o p n : Int) (hv : Ok f w o p) (x : SS) (h0 : Inv w o p n x) : W (fun K _ => fixN (b_gatelaw2_SwitchesTurn_0 K) K (x.ds f w o p n)) (fun r => r.1 = 1) := by
  refine W.run (SS.ds f w o p n) (Inv w o p n) (fun x => (n - x.i).toNat) (fun x hI ih => ?_) x h0
  clear h0
  obtain ⟨at', i, s, now, st, op, ask, g, opn, snc, ask', g', A, B⟩ := x
  obtain ⟨i0, i1, n1, a0, a1, hs, hr⟩ := hI
  simp only at i0 i1 a0 a1 hs hr
  have hr' := hr
  obtain ⟨q1, q2, q3, q4, q5, q6, q7, q8, q9, _⟩ := hr'
  obtain ⟨v1, v2, v3, v4, v5, v6, v7, v8⟩ := id hv
  unfold b_gatelaw2_SwitchesTurn_0 SS.ds
  simp only [D.nth_zero, D.nth_succ, D.int_i, D.bool_b, D.list_n]
  refine W.cond (fun h => ?_) (fun h => W.ret rfl)
  simp at h
  have ei : IntKind.i64.wrap (i + 1) = i + 1 := wrap_i64 (by omega) (by omega)
  refine W.bind (w_Pick _ s [.i 0, .i 1, .i 2, .i 5, .i 10, .i 20] hs (by omega) (by simp) (by simp)) ?_
  rintro _ ⟨d, s1, _, rfl, hd, hs1⟩
  obtain ⟨k, rfl, k0, k1⟩ : ∃ k, d = .i k ∧ 0 ≤ k ∧ k ≤ 20 := by
    simp only [List.mem_cons, List.not_mem_nil, or_false] at hd
    rcases hd with rfl | rfl | rfl | rfl | rfl | rfl <;> exact ⟨_, rfl, by omega, by omega⟩
  have ea : IntKind.i64.wrap (at' + k) = at' + k := wrap_i64 (by omega) (by omega)
  refine W.bind (w_Flip _ (.i 20) s1 hs1 (by omega) (by simp)) ?_
  rintro _ ⟨fl, s2, rfl, hs2⟩
  simp only [D.nth_zero, D.nth_succ, D.int_i, D.bool_b, D.list_n, ea, ei]
  refine W.bind (w_when (at' + k) fl _ s2 hs2 (by omega) (by omega)) ?_
  rintro _ ⟨t, s3, rfl, hs3⟩
  refine W.bind (w_Next _ (.i 4) s3 hs3 (by omega) (by simp)) ?_
  rintro _ ⟨kind, s4, rfl, _, _, hs4⟩
  have next : ∀ (s5 : D) (now st op ask g : Int) (opn : Bool) (snc ask' g' : Int) (A B : List D), St (100 + 10 * i + 9) s5 → Rel w o p (i + 1) now st op ask g A opn snc ask' g' B →
      W (fun K m => fixN (b_gatelaw2_SwitchesTurn_0 K) m [.i (at' + k), .i n, .i (i + 1), s5, bD f w o p, .i now, .i st, .i op, .i ask, .i g, bD f w o p, .b opn, .i snc, .i ask', .i g', .i now, .n A, .n B]) (fun r => r.1 = 1) := fun s5 now st op ask g opn snc ask' g' A B h5 hR =>
    ih ⟨at' + k, i + 1, s5, now, st, op, ask, g, opn, snc, ask', g', A, B⟩ ⟨by simp only; omega, by simp only; omega, n1, by simp only; omega, by simp only; omega, h5.le (by simp only; omega), hR⟩ (by simp only; omega)
  simp only [D.nth_zero, D.nth_succ, D.int_i, D.bool_b, D.list_n]
  refine W.cond (fun _ => ?_) (fun _ => ?_)
  · -- ask
    by_cases htf : tf t now = 0
    · refine W.bind (w_AskS f w o p t now st op ask g A (by omega) (by omega) q2 q4 htf) ?_
      rintro rs ⟨a1, g1, hp, hrs⟩
      refine W.bind (w_AskF f w o p t opn snc ask' g' now B q3 (by omega) htf) ?_
      intro rf hrf
      obtain ⟨b, st2, a2, g2, ask2, rfl, rfl, hR⟩ := rel_ask hv (by omega) hr htf hp hrs hrf
      refine W.cond (fun h => by simp at h) (fun _ => ?_)
      exact next _ _ _ _ _ _ _ _ _ _ _ _ (hs4.le (by omega)) hR
    · refine W.bind (w_AskS0 f w o p t now st op ask g A htf) ?_
      rintro _ rfl
      refine W.bind (w_AskF0 f w o p t opn snc ask' g' now B htf) ?_
      rintro _ rfl
      refine W.cond (fun h => by simp at h) (fun _ => ?_)
      exact next _ _ _ _ _ _ _ _ _ _ _ _ (hs4.le (by omega)) hr.later
  · refine W.bind (p := fun r => ∃ b, r = (0, [.b b])) ?_ ?_
    · unfold b_gatelaw2_SwitchesTurn_2
      exact W.cond (fun _ => W.ret ⟨_, by rename_i h; simp at h; simp [h]; rfl⟩) (fun _ => W.ret ⟨_, rfl⟩)
    rintro _ ⟨b, rfl⟩
    refine W.cond (fun _ => ?_) (fun _ => ?_)
    · -- tell
      refine W.bind (w_Flip _ (.i 3) s4 hs4 (by omega) (by simp)) ?_
      rintro _ ⟨good, s5, rfl, hs5⟩
      simp only [D.nth_zero, D.nth_succ, D.int_i, D.bool_b, D.list_n]
      by_cases htf : tf t now = 0
      · refine W.bind (w_TellS f w o p t now st op ask g good A (by omega) hv q2 q5 htf) ?_
        rintro rs ⟨a1, g1, hp, hrs⟩
        refine W.bind (w_TellF f w o p t opn snc ask' g' now good B (by omega) hv q3 q7 htf) ?_
        intro rf hrf
        obtain ⟨st2, op2, a2, g2, A2, opn2, snc2, ask2, gg2, B2, rfl, rfl, hR⟩ := rel_tell hv (by omega) hr htf hp hrs hrf
        refine W.cond (fun h => by simp at h) (fun _ => ?_)
        exact next _ _ _ _ _ _ _ _ _ _ _ _ (hs5.le (by omega)) hR
      · refine W.bind (w_TellS0 f w o p t now st op ask g good A htf) ?_
        rintro _ rfl
        refine W.bind (w_TellF0 f w o p t opn snc ask' g' now good B htf) ?_
        rintro _ rfl
        refine W.cond (fun h => by simp at h) (fun _ => ?_)
        exact next _ _ _ _ _ _ _ _ _ _ _ _ (hs5.le (by omega)) hr.later
    · -- state
      refine W.bind (w_StateS f w o p t now st op ask g A (by omega) q2) ?_
      rintro _ rfl
      refine W.bind (w_StateF f w o p t opn snc ask' g' now B q3) ?_
      rintro _ rfl
      have : (if tf t now = 0 then sa o t st op else 0) = (if tf t now = 0 then fs o t opn snc else 0) := by
        by_cases htf : tf t now = 0
        · rw [if_pos htf, if_pos htf, rel_state hr htf]
        · rw [if_neg htf, if_neg htf]
      rw [this]
      refine W.cond (fun h => by simp at h) (fun _ => ?_)
      exact next _ _ _ _ _ _ _ _ _ _ _ _ (hs4.le (by omega)) hr.later
theorem pure (zs : List Int) (h : zs.length ≤ maxLen) (hw : ∀ n ∈ zs, (Lit.int .i64 n).wf = true) : ∃ K, f_gatelaw2_SwitchesTurn K (.n (zs.map D.i)) = some [.b true] := by
  have : W (fun K _ => f_gatelaw2_SwitchesTurn K (.n (zs.map D.i))) (· = [.b true]) := by
    unfold f_gatelaw2_SwitchesTurn
    refine W.bind (w_Breaker 0 _ ⟨_, 0, rfl, by omega, by omega⟩ (by omega)) ?_
    rintro _ ⟨f, w, o, p, s1, rfl, hs1⟩
    refine W.bind (w_NewSwitch f w o p) ?_
    rintro _ (⟨hv, rfl⟩ | ⟨hv, rfl⟩)
    · refine W.cond (fun h => by simp at h) (fun _ => ?_)
      refine W.bind (w_BreakerFault f w o p) ?_
      rintro _ (⟨_, rfl⟩ | ⟨hv', rfl⟩)
      · refine W.cond (fun h => by simp at h) (fun _ => ?_)
        refine W.bind (w_Range _ 1 20 s1 hs1 (by omega) (by omega) (by omega)) ?_
        rintro _ ⟨n, s2, rfl, n0, n1, hs2⟩
        have n1 := n1 (by omega)
        obtain ⟨v1, v2, v3, v4, v5, v6, v7, v8⟩ := id hv
        refine W.bind (w_turns f w o p n hv ⟨0, 0, s2, 0, 0, 0, 0, 0, false, 0, 0, 0, [], []⟩ ⟨by simp, by simp only; omega, by omega, by simp, by simp, hs2.le (by simp), ⟨by simp, by simp, by simp, by simp, by simp, by simp, by simp, by simp, by simp, .inl ⟨rfl, rfl, fun _ _ => rfl⟩⟩⟩) ?_
        rintro ⟨_, r⟩ rfl
        refine W.cond (fun h => by simp at h) (fun _ => ?_)
        refine W.bind balanced ?_
        rintro _ rfl
        exact W.ret rfl
      · exact absurd hv hv'
    · refine W.cond (fun _ => ?_) (fun h => by simp at h)
      refine W.bind (w_BreakerFault f w o p) ?_
      rintro _ (⟨hv', rfl⟩ | ⟨_, rfl⟩)
      · exact absurd hv' hv
      · refine W.cond (fun _ => ?_) (fun h => by simp at h)
        refine W.cond (fun _ => ?_) (fun h => by simp at h)
        refine W.bind balanced ?_
        rintro _ rfl
        exact W.ret rfl
  obtain ⟨K, r, h1, rfl⟩ := this.get
  exact ⟨K, h1⟩
end Go.Proofs.YtlogmjgkbfahjaaP
