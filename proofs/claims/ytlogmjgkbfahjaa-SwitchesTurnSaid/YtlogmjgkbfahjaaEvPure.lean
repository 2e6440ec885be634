/- What the printed functions come to: a small logic over them, in plain Lean. -/
import Derived.Test.YtlogmjgkbfahjaaEvClear
namespace Go.Ev
open Go
set_option linter.unusedSimpArgs false
set_option linter.unusedVariables false
/-- From some bounds on, it answers one thing, and p is true of that. -/
def W {α : Type} (a : Nat → Nat → Option α) (p : α → Prop) : Prop := ∃ r, p r ∧ ∃ K0, ∀ K n, K0 ≤ K → K0 ≤ n → a K n = some r
section
variable {α β : Type} {p : α → Prop} {q : β → Prop}
theorem W.ret {r : α} (h : p r) : W (fun _ _ => some r) p := ⟨r, h, 0, fun _ _ _ _ => rfl⟩
theorem W.mono {a : Nat → Nat → Option α} {p' : α → Prop} (h : W a p) (hp : ∀ r, p r → p' r) : W a p' := let ⟨r, h1, h2⟩ := h; ⟨r, hp r h1, h2⟩
theorem W.bind {a : Nat → Nat → Option α} {g : Nat → Nat → α → Option β} (h : W a p) (h' : ∀ x, p x → W (fun K n => g K n x) q) : W (fun K n => (a K n).bind (g K n)) q := by
  obtain ⟨x, hx, k1, h1⟩ := h
  obtain ⟨r, hr, k2, h2⟩ := h' x hx
  refine ⟨r, hr, max k1 k2, fun K n hK hn => ?_⟩
  show (a K n).bind (g K n) = some r
  rw [h1 K n (by omega) (by omega)]
  exact h2 K n (by omega) (by omega)
theorem W.cond {c : Bool} {x y : Nat → Nat → Option α} (h1 : c = true → W x p) (h2 : c = false → W y p) : W (fun K n => bif c then x K n else y K n) p := by
  cases c with
  | true => exact h1 rfl
  | false => exact h2 rfl
theorem W.congr {a b : Nat → Nat → Option α} (h : W b p) (e : ∀ K n, a K n = b K n) : W a p := by
  have : a = b := by funext K n; exact e K n
  rw [this]
  exact h
/-- A loop: as many rounds as there are bounds. -/
theorem W.loop {F : Nat → (List D → Option (Nat × List D)) → List D → Option (Nat × List D)} {ds : List D} {p : Nat × List D → Prop} (h : W (fun K n => fixN (F K) n ds) p) : W (fun K _ => fixN (F K) K ds) p := by
  obtain ⟨r, hr, k, h⟩ := h
  exact ⟨r, hr, k, fun K n hK hn => h K K hK hK⟩
theorem W.step {F : Nat → (List D → Option (Nat × List D)) → List D → Option (Nat × List D)} {ds : List D} {p : Nat × List D → Prop} (h : W (fun K n => F K (fixN (F K) n) ds) p) : W (fun K n => fixN (F K) n ds) p := by
  obtain ⟨r, hr, k, h⟩ := h
  refine ⟨r, hr, k + 1, fun K n hK hn => ?_⟩
  obtain ⟨m, rfl⟩ : ∃ m, n = m + 1 := ⟨n - 1, by omega⟩
  exact h K m (by omega) (by omega)
/-- A loop, by what is true at its head and a number that falls. -/
theorem W.while {F : Nat → (List D → Option (Nat × List D)) → List D → Option (Nat × List D)} {p : Nat × List D → Prop} (I : List D → Prop) (m : List D → Nat)
    (h : ∀ ds, I ds → (∀ ds', I ds' → m ds' < m ds → W (fun K n => fixN (F K) n ds') p) → W (fun K n => F K (fixN (F K) n) ds) p) (ds : List D) (h0 : I ds) : W (fun K _ => fixN (F K) K ds) p := by
  refine W.loop ?_
  generalize hk : m ds = k
  induction k using Nat.strongRecOn generalizing ds with
  | _ k ih =>
    refine W.step (h ds h0 fun ds' hI hlt => ?_)
    subst hk
    exact ih (m ds') hlt ds' hI rfl
/-- What a bound gives. -/
theorem W.get {a : Nat → Option α} (h : W (fun K _ => a K) p) : ∃ K r, a K = some r ∧ p r := let ⟨r, h1, k, h2⟩ := h; ⟨k, r, h2 k k (Nat.le_refl _) (Nat.le_refl _), h1⟩
end
/-! ### Data -/
@[simp] theorem D.nth_zero (a : D) (l : List D) : D.nth (a :: l) 0 = a := rfl
@[simp] theorem D.nth_succ (a : D) (l : List D) (j : Nat) : D.nth (a :: l) (j + 1) = D.nth l j := rfl
@[simp] theorem D.nth_nil (j : Nat) : D.nth [] j = .n [] := rfl
@[simp] theorem D.at_n (l : List D) (j : Nat) : (D.n l).at' j = D.nth l j := rfl
@[simp] theorem D.int_i (x : Int) : (D.i x).int = x := rfl
@[simp] theorem D.str_s (x : List UInt8) : (D.s x).str = x := rfl
@[simp] theorem D.bool_b (x : Bool) : (D.b x).bool = x := rfl
@[simp] theorem D.list_n (x : List D) : (D.n x).list = x := rfl
theorem wrap_i64 {x : Int} (h1 : -9223372036854775808 ≤ x) (h2 : x ≤ 9223372036854775807) : IntKind.i64.wrap x = x := by
  rw [IntKind.wrap_i64]
  omega
@[simp] theorem ltI_t {x y : Int} : (ltI x y = true) = (x < y) := by simp [ltI]
@[simp] theorem ltI_f {x y : Int} : (ltI x y = false) = (y ≤ x) := by simp [ltI]
@[simp] theorem leI_t {x y : Int} : (leI x y = true) = (x ≤ y) := by simp [leI]
@[simp] theorem leI_f {x y : Int} : (leI x y = false) = (y < x) := by simp [leI]
@[simp] theorem gtI_t {x y : Int} : (gtI x y = true) = (y < x) := by simp [gtI]
@[simp] theorem gtI_f {x y : Int} : (gtI x y = false) = (x ≤ y) := by simp [gtI]
@[simp] theorem geI_t {x y : Int} : (geI x y = true) = (y ≤ x) := by simp [geI]
@[simp] theorem geI_f {x y : Int} : (geI x y = false) = (x < y) := by simp [geI]
@[simp] theorem eqI_t {x y : Int} : (eqI x y = true) = (x = y) := by simp [eqI]
@[simp] theorem eqI_f {x y : Int} : (eqI x y = false) = (x ≠ y) := by simp [eqI]
@[simp] theorem inB_t {i : Int} {n : Nat} : (inB i n = true) = (0 ≤ i ∧ i < n) := by simp [inB]
@[simp] theorem inB_f {i : Int} {n : Nat} : (inB i n = false) = (i < 0 ∨ (n : Int) ≤ i) := by simp [inB]; omega
@[simp] theorem inS_t {i j : Int} {n : Nat} : (inS i j n = true) = (0 ≤ i ∧ i ≤ j ∧ j ≤ n) := by simp [inS]; omega
@[simp] theorem inS_f {i j : Int} {n : Nat} : (inS i j n = false) = (i < 0 ∨ j < i ∨ (n : Int) < j) := by simp [inS]; omega
theorem inB_mk {i : Int} {n : Nat} (h0 : 0 ≤ i) (h1 : i < n) : inB i n = true := by simp [inB, h0, h1]
theorem inS_mk {i j : Int} {n : Nat} (h0 : 0 ≤ i) (h1 : i ≤ j) (h2 : j ≤ n) : inS i j n = true := by simp [inS, h0, h1, h2]
theorem lim_mk {n : Nat} (h : n ≤ 68719476736) : lim n = true := by unfold lim; exact Nat.ble_eq_true_of_le h
end Go.Ev
namespace Go.Ev
open Go
set_option linter.unusedVariables false
/-- A loop over states of any kind. -/
theorem W.run {S : Type} {F : Nat → (List D → Option (Nat × List D)) → List D → Option (Nat × List D)} {p : Nat × List D → Prop} (mk : S → List D) (I : S → Prop) (m : S → Nat)
    (h : ∀ s, I s → (∀ s', I s' → m s' < m s → W (fun K n => fixN (F K) n (mk s')) p) → W (fun K n => F K (fixN (F K) n) (mk s)) p) (s : S) (h0 : I s) : W (fun K _ => fixN (F K) K (mk s)) p := by
  refine W.loop ?_
  generalize hk : m s = k
  induction k using Nat.strongRecOn generalizing s with
  | _ k ih =>
    refine W.step (h s h0 fun s' hI hlt => ?_)
    subst hk
    exact ih (m s') hlt s' hI rfl
theorem nth_eq {l : List D} {j : Nat} (h : j < l.length) : D.nth l j = l[j] := nth_of_get (List.getElem?_eq_getElem h)
theorem drop_nth {l : List D} {j : Nat} (h : j < l.length) : l.drop j = D.nth l j :: l.drop (j + 1) := by
  rw [nth_eq h]; exact List.drop_eq_getElem_cons h
theorem take_nth {l : List D} {j : Nat} (h : j < l.length) : l.take (j + 1) = l.take j ++ [D.nth l j] := by
  rw [nth_eq h, List.take_succ_eq_append_getElem h]
/-- A loop over a list from the left: what it has taken up so far is a fold. -/
theorem W.foldl {S : Type} {F : Nat → (List D → Option (Nat × List D)) → List D → Option (Nat × List D)} {p : Nat × List D → Prop} (l : List D) (mk : Nat → S → List D) (stp : S → D → S) (s0 : S)
    (h1 : ∀ (j : Nat) (s : S), j < l.length → s = (l.take j).foldl stp s0 → W (fun K n => fixN (F K) n (mk (j + 1) (stp s (D.nth l j)))) p → W (fun K n => F K (fixN (F K) n) (mk j s)) p)
    (h2 : W (fun K n => F K (fixN (F K) n) (mk l.length (l.foldl stp s0))) p) : W (fun K _ => fixN (F K) K (mk 0 s0)) p := by
  refine W.run (S := Nat × S) (fun s => mk s.1 s.2) (fun s => s.1 ≤ l.length ∧ s.2 = (l.take s.1).foldl stp s0) (fun s => l.length - s.1) (fun s hI ih => ?_) (0, s0) ⟨Nat.zero_le _, rfl⟩
  obtain ⟨j, s⟩ := s
  obtain ⟨hj, hs⟩ := hI
  simp only at hj hs
  subst hs
  by_cases hlt : j < l.length
  · refine h1 j _ hlt rfl (ih (j + 1, _) ⟨hlt, ?_⟩ (by simp only; omega))
    rw [take_nth hlt, List.foldl_append]
    rfl
  · have : j = l.length := by omega
    subst this
    simpa using h2
/-- The first place in a list. -/
def idx (f : D → Bool) : List D → Nat → Option Nat
  | [], _ => none
  | a :: l, j => match f a with | true => some j | false => idx f l (j + 1)
theorem idx_spec (f : D → Bool) : ∀ (l : List D) (j : Nat), match idx f l j with
    | some i => ∃ k, i = j + k ∧ k < l.length ∧ f (D.nth l k) = true ∧ ∀ x ∈ l.take k, f x = false
    | none => ∀ x ∈ l, f x = false
  | [], j => by simp [idx]
  | a :: l, j => by
    simp only [idx]
    cases h : f a with
    | true => exact ⟨0, rfl, by simp, h, by simp⟩
    | false =>
      have ih := idx_spec f l (j + 1)
      simp only
      split at ih
      · rename_i i hi
        obtain ⟨k, h1, h2, h3, h4⟩ := ih
        exact ⟨k + 1, by omega, by simpa using h2, h3, by simpa [h] using h4⟩
      · simpa [h] using ih
/-- A search. -/
theorem W.search {F : Nat → (List D → Option (Nat × List D)) → List D → Option (Nat × List D)} (f : D → Bool) (l : List D) (mk : Nat → List D) (yes : Nat → Nat × List D) (no : Nat × List D)
    (h1 : ∀ K rec (j : Nat), j < l.length → F K rec (mk j) = bif f (D.nth l j) then some (yes j) else rec (mk (j + 1))) (h2 : ∀ K rec, F K rec (mk l.length) = some no) :
    W (fun K _ => fixN (F K) K (mk 0)) (fun r => r = match idx f l 0 with | some i => yes i | none => no) := by
  refine W.run (S := Nat) mk (fun j => j ≤ l.length ∧ idx f l 0 = idx f (l.drop j) j) (fun j => l.length - j) (fun j hI ih => ?_) 0 ⟨Nat.zero_le _, by simp⟩
  obtain ⟨hj, hi⟩ := hI
  by_cases hlt : j < l.length
  · refine W.congr (b := fun K n => bif f (D.nth l j) then some (yes j) else fixN (F K) n (mk (j + 1))) ?_ fun K n => h1 K _ j hlt
    rw [drop_nth hlt] at hi
    simp only [idx] at hi
    refine W.cond (fun hf => ?_) (fun hf => ?_)
    · rw [hf] at hi
      exact W.ret (by rw [hi])
    · rw [hf] at hi
      exact ih (j + 1) ⟨hlt, hi⟩ (by omega)
  · have : j = l.length := by omega
    subst this
    refine W.congr (b := fun _ _ => some no) (W.ret ?_) fun K n => h2 K _
    simp [idx] at hi
    rw [hi]
theorem filter_none {f : D → Bool} {l : List D} (h : ∀ x ∈ l, f x = false) : l.filter (fun x => !f x) = l := by
  rw [List.filter_eq_self]
  intro x hx
  simp [h x hx]
/-- The loop of slices.DeleteFunc. -/
theorem W.delete {F : Nat → (List D → Option (Nat × List D)) → List D → Option (Nat × List D)} (f : D → Bool) (mk : Nat → Nat → List D → List D) (fin : Nat → List D → Nat × List D)
    (l : List D) (h1 : ∀ K rec (i j : Nat) row, i < j → j < row.length → row.length = l.length → F K rec (mk i j row) = bif f (D.nth row j) then rec (mk i (j + 1) row) else rec (mk (i + 1) (j + 1) (D.setNth row i (D.nth row j))))
    (h2 : ∀ K rec (i j : Nat) row, j = row.length → F K rec (mk i j row) = some (fin i row)) (i0 : Nat) (hi : i0 < l.length) (hf : f (D.nth l i0) = true) (hb : ∀ x ∈ l.take i0, f x = false) :
    W (fun K _ => fixN (F K) K (mk i0 (i0 + 1) l)) (fun r => ∃ i row, r = fin i row ∧ i ≤ row.length ∧ row.length = l.length ∧ row.take i = l.filter (fun x => !f x)) := by
  refine W.run (S := Nat × Nat × List D) (fun s => mk s.1 s.2.1 s.2.2) (fun s => s.1 < s.2.1 ∧ s.2.1 ≤ l.length ∧ s.2.2.length = l.length ∧ s.2.2.drop s.2.1 = l.drop s.2.1 ∧ s.2.2.take s.1 = (l.take s.2.1).filter (fun x => !f x)) (fun s => l.length - s.2.1) (fun s hI ih => ?_) (i0, i0 + 1, l) ⟨by simp, hi, rfl, rfl, ?_⟩
  · obtain ⟨i, j, row⟩ := s
    obtain ⟨hij, hj, hlen, hd, ht⟩ := hI
    simp only at hij hj hlen hd ht
    by_cases hlt : j < l.length
    · have hjr : j < row.length := by omega
      have hnth : D.nth row j = D.nth l j := by
        have h1 := drop_nth hjr
        have h2 := drop_nth hlt
        rw [hd, h2] at h1
        exact (List.cons.inj h1).1.symm
      refine W.congr (b := fun K n => bif f (D.nth row j) then fixN (F K) n (mk i (j + 1) row) else fixN (F K) n (mk (i + 1) (j + 1) (D.setNth row i (D.nth row j)))) ?_ fun K n => h1 K _ i j row hij hjr hlen
      refine W.cond (fun hf => ?_) (fun hf => ?_)
      · refine ih (i, j + 1, row) ⟨by simp only; omega, by simp only; omega, hlen, ?_, ?_⟩ (by simp only; omega)
        · have := congrArg (List.drop 1) hd
          simpa [List.drop_drop, Nat.add_comm] using this
        · simp only
          rw [ht, take_nth hlt, List.filter_append, ← hnth]
          simp [hf]
      · have hset : D.setNth row i (D.nth row j) = row.set i (D.nth row j) := setNth_eq _ (by omega)
        refine ih (i + 1, j + 1, D.setNth row i (D.nth row j)) ⟨by simp only; omega, by simp only; omega, by simp only [hset]; simpa using hlen, ?_, ?_⟩ (by simp only; omega)
        · simp only [hset]
          rw [List.drop_set_of_lt (by omega)]
          have := congrArg (List.drop 1) hd
          simpa [List.drop_drop, Nat.add_comm] using this
        · simp only [hset]
          rw [take_nth (by simp; omega), List.take_set_of_le (by omega), ht, take_nth hlt, List.filter_append, nth_eq (by simp; omega), ← hnth]
          simp [hf]
    · have : j = row.length := by omega
      refine W.congr (b := fun _ _ => some (fin i row)) (W.ret ⟨i, row, rfl, by omega, hlen, ?_⟩) fun K n => h2 K _ i j row this
      rw [ht, List.take_of_length_le (by omega)]
  · simp only
    rw [take_nth hi, List.filter_append, filter_none hb]
    simp [hf]
end Go.Ev
