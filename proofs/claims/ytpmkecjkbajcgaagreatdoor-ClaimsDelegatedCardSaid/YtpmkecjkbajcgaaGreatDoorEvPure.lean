/- What the printed functions come to: a small logic over them, in plain Lean. -/
import Derived.Test.YtpmkecjkbajcgaaGreatDoorEvClear
import Derived.Lib.Bytealg
namespace Go.Ev
open Go
set_option linter.unusedSimpArgs false
set_option linter.unusedVariables false
/-- From some bounds on, it answers one thing, and p is true of that. -/
def W {α : Type} (a : Nat → Nat → Option α) (p : α → Prop) : Prop := ∃ r, p r ∧ ∃ K0, ∀ K n, K0 ≤ K → K0 ≤ n → a K n = some r
section
variable {α β : Type} {p : α → Prop} {q : β → Prop}
theorem W.ret {r : α} (h : p r) : W (fun _ _ => some r) p := ⟨r, h, 0, fun _ _ _ _ => rfl⟩
theorem W.mono {a : Nat → Nat → Option α} {p' : α → Prop} (h : W a p) (hp : ∀ r, p r → p' r) : W a p' := let ⟨r, h1, h2⟩ := h; ⟨r, hp r h1, h2⟩
theorem W.bind {a : Nat → Nat → Option α} {g : Nat → Nat → α → Option β} (h : W a p) (h' : ∀ x, p x → W (fun K n => g K n x) q) : W (fun K n => (a K n).bind (g K n)) q := by
  obtain ⟨x, hx, k1, h1⟩ := h
  obtain ⟨r, hr, k2, h2⟩ := h' x hx
  refine ⟨r, hr, max k1 k2, fun K n hK hn => ?_⟩
  show (a K n).bind (g K n) = some r
  rw [h1 K n (by omega) (by omega)]
  exact h2 K n (by omega) (by omega)
theorem W.cond {c : Bool} {x y : Nat → Nat → Option α} (h1 : c = true → W x p) (h2 : c = false → W y p) : W (fun K n => bif c then x K n else y K n) p := by
  cases c with
  | true => exact h1 rfl
  | false => exact h2 rfl
theorem W.congr {a b : Nat → Nat → Option α} (h : W b p) (e : ∀ K n, a K n = b K n) : W a p := by
  have : a = b := by funext K n; exact e K n
  rw [this]
  exact h
/-- A loop: as many rounds as there are bounds. -/
theorem W.loop {F : Nat → (List D → Option (Nat × List D)) → List D → Option (Nat × List D)} {ds : List D} {p : Nat × List D → Prop} (h : W (fun K n => fixN (F K) n ds) p) : W (fun K _ => fixN (F K) K ds) p := by
  obtain ⟨r, hr, k, h⟩ := h
  exact ⟨r, hr, k, fun K n hK hn => h K K hK hK⟩
theorem W.step {F : Nat → (List D → Option (Nat × List D)) → List D → Option (Nat × List D)} {ds : List D} {p : Nat × List D → Prop} (h : W (fun K n => F K (fixN (F K) n) ds) p) : W (fun K n => fixN (F K) n ds) p := by
  obtain ⟨r, hr, k, h⟩ := h
  refine ⟨r, hr, k + 1, fun K n hK hn => ?_⟩
  obtain ⟨m, rfl⟩ : ∃ m, n = m + 1 := ⟨n - 1, by omega⟩
  exact h K m (by omega) (by omega)
/-- A loop, by what is true at its head and a number that falls. -/
theorem W.while {F : Nat → (List D → Option (Nat × List D)) → List D → Option (Nat × List D)} {p : Nat × List D → Prop} (I : List D → Prop) (m : List D → Nat)
    (h : ∀ ds, I ds → (∀ ds', I ds' → m ds' < m ds → W (fun K n => fixN (F K) n ds') p) → W (fun K n => F K (fixN (F K) n) ds) p) (ds : List D) (h0 : I ds) : W (fun K _ => fixN (F K) K ds) p := by
  refine W.loop ?_
  generalize hk : m ds = k
  induction k using Nat.strongRecOn generalizing ds with
  | _ k ih =>
    refine W.step (h ds h0 fun ds' hI hlt => ?_)
    subst hk
    exact ih (m ds') hlt ds' hI rfl
/-- What a bound gives. -/
theorem W.get {a : Nat → Option α} (h : W (fun K _ => a K) p) : ∃ K r, a K = some r ∧ p r := let ⟨r, h1, k, h2⟩ := h; ⟨k, r, h2 k k (Nat.le_refl _) (Nat.le_refl _), h1⟩
end
/-! ### Data -/
@[simp] theorem D.nth_zero (a : D) (l : List D) : D.nth (a :: l) 0 = a := rfl
@[simp] theorem D.nth_succ (a : D) (l : List D) (j : Nat) : D.nth (a :: l) (j + 1) = D.nth l j := rfl
@[simp] theorem D.nth_nil (j : Nat) : D.nth [] j = .n [] := rfl
@[simp] theorem D.at_n (l : List D) (j : Nat) : (D.n l).at' j = D.nth l j := rfl
@[simp] theorem D.int_i (x : Int) : (D.i x).int = x := rfl
@[simp] theorem D.str_s (x : List UInt8) : (D.s x).str = x := rfl
@[simp] theorem D.bool_b (x : Bool) : (D.b x).bool = x := rfl
@[simp] theorem D.list_n (x : List D) : (D.n x).list = x := rfl
theorem wrap_i64 {x : Int} (h1 : -9223372036854775808 ≤ x) (h2 : x ≤ 9223372036854775807) : IntKind.i64.wrap x = x := by
  rw [IntKind.wrap_i64]
  omega
@[simp] theorem ltI_t {x y : Int} : (ltI x y = true) = (x < y) := by simp [ltI]
@[simp] theorem ltI_f {x y : Int} : (ltI x y = false) = (y ≤ x) := by simp [ltI]
@[simp] theorem leI_t {x y : Int} : (leI x y = true) = (x ≤ y) := by simp [leI]
@[simp] theorem leI_f {x y : Int} : (leI x y = false) = (y < x) := by simp [leI]
@[simp] theorem gtI_t {x y : Int} : (gtI x y = true) = (y < x) := by simp [gtI]
@[simp] theorem gtI_f {x y : Int} : (gtI x y = false) = (x ≤ y) := by simp [gtI]
@[simp] theorem geI_t {x y : Int} : (geI x y = true) = (y ≤ x) := by simp [geI]
@[simp] theorem geI_f {x y : Int} : (geI x y = false) = (x < y) := by simp [geI]
@[simp] theorem eqI_t {x y : Int} : (eqI x y = true) = (x = y) := by simp [eqI]
@[simp] theorem eqI_f {x y : Int} : (eqI x y = false) = (x ≠ y) := by simp [eqI]
@[simp] theorem inB_t {i : Int} {n : Nat} : (inB i n = true) = (0 ≤ i ∧ i < n) := by simp [inB]
@[simp] theorem inB_f {i : Int} {n : Nat} : (inB i n = false) = (i < 0 ∨ (n : Int) ≤ i) := by simp [inB]; omega
@[simp] theorem inS_t {i j : Int} {n : Nat} : (inS i j n = true) = (0 ≤ i ∧ i ≤ j ∧ j ≤ n) := by simp [inS]; omega
@[simp] theorem inS_f {i j : Int} {n : Nat} : (inS i j n = false) = (i < 0 ∨ j < i ∨ (n : Int) < j) := by simp [inS]; omega
theorem inB_mk {i : Int} {n : Nat} (h0 : 0 ≤ i) (h1 : i < n) : inB i n = true := by simp [inB, h0, h1]
theorem inS_mk {i j : Int} {n : Nat} (h0 : 0 ≤ i) (h1 : i ≤ j) (h2 : j ≤ n) : inS i j n = true := by simp [inS, h0, h1, h2]
theorem lim_mk {n : Nat} (h : n ≤ 68719476736) : lim n = true := by unfold lim; exact Nat.ble_eq_true_of_le h
end Go.Ev
namespace Go.Ev
open Go
set_option linter.unusedVariables false
/-- A loop over states of any kind. -/
theorem W.run {S : Type} {F : Nat → (List D → Option (Nat × List D)) → List D → Option (Nat × List D)} {p : Nat × List D → Prop} (mk : S → List D) (I : S → Prop) (m : S → Nat)
    (h : ∀ s, I s → (∀ s', I s' → m s' < m s → W (fun K n => fixN (F K) n (mk s')) p) → W (fun K n => F K (fixN (F K) n) (mk s)) p) (s : S) (h0 : I s) : W (fun K _ => fixN (F K) K (mk s)) p := by
  refine W.loop ?_
  generalize hk : m s = k
  induction k using Nat.strongRecOn generalizing s with
  | _ k ih =>
    refine W.step (h s h0 fun s' hI hlt => ?_)
    subst hk
    exact ih (m s') hlt s' hI rfl
theorem nth_eq {l : List D} {j : Nat} (h : j < l.length) : D.nth l j = l[j] := nth_of_get (List.getElem?_eq_getElem h)
theorem drop_nth {l : List D} {j : Nat} (h : j < l.length) : l.drop j = D.nth l j :: l.drop (j + 1) := by
  rw [nth_eq h]; exact List.drop_eq_getElem_cons h
theorem take_nth {l : List D} {j : Nat} (h : j < l.length) : l.take (j + 1) = l.take j ++ [D.nth l j] := by
  rw [nth_eq h, List.take_succ_eq_append_getElem h]
/-- A loop over a list from the left: what it has taken up so far is a fold. -/
theorem W.foldl {S : Type} {F : Nat → (List D → Option (Nat × List D)) → List D → Option (Nat × List D)} {p : Nat × List D → Prop} (l : List D) (mk : Nat → S → List D) (stp : S → D → S) (s0 : S)
    (h1 : ∀ (j : Nat) (s : S), j < l.length → s = (l.take j).foldl stp s0 → W (fun K n => fixN (F K) n (mk (j + 1) (stp s (D.nth l j)))) p → W (fun K n => F K (fixN (F K) n) (mk j s)) p)
    (h2 : W (fun K n => F K (fixN (F K) n) (mk l.length (l.foldl stp s0))) p) : W (fun K _ => fixN (F K) K (mk 0 s0)) p := by
  refine W.run (S := Nat × S) (fun s => mk s.1 s.2) (fun s => s.1 ≤ l.length ∧ s.2 = (l.take s.1).foldl stp s0) (fun s => l.length - s.1) (fun s hI ih => ?_) (0, s0) ⟨Nat.zero_le _, rfl⟩
  obtain ⟨j, s⟩ := s
  obtain ⟨hj, hs⟩ := hI
  simp only at hj hs
  subst hs
  by_cases hlt : j < l.length
  · refine h1 j _ hlt rfl (ih (j + 1, _) ⟨hlt, ?_⟩ (by simp only; omega))
    rw [take_nth hlt, List.foldl_append]
    rfl
  · have : j = l.length := by omega
    subst this
    simpa using h2
/-- The first place in a list. -/
def idx (f : D → Bool) : List D → Nat → Option Nat
  | [], _ => none
  | a :: l, j => match f a with | true => some j | false => idx f l (j + 1)
theorem idx_spec (f : D → Bool) : ∀ (l : List D) (j : Nat), match idx f l j with
    | some i => ∃ k, i = j + k ∧ k < l.length ∧ f (D.nth l k) = true ∧ ∀ x ∈ l.take k, f x = false
    | none => ∀ x ∈ l, f x = false
  | [], j => by simp [idx]
  | a :: l, j => by
    simp only [idx]
    cases h : f a with
    | true => exact ⟨0, rfl, by simp, h, by simp⟩
    | false =>
      have ih := idx_spec f l (j + 1)
      simp only
      split at ih
      · rename_i i hi
        obtain ⟨k, h1, h2, h3, h4⟩ := ih
        exact ⟨k + 1, by omega, by simpa using h2, h3, by simpa [h] using h4⟩
      · simpa [h] using ih
/-- A search. -/
theorem W.search {F : Nat → (List D → Option (Nat × List D)) → List D → Option (Nat × List D)} (f : D → Bool) (l : List D) (mk : Nat → List D) (yes : Nat → Nat × List D) (no : Nat × List D)
    (h1 : ∀ K rec (j : Nat), j < l.length → F K rec (mk j) = bif f (D.nth l j) then some (yes j) else rec (mk (j + 1))) (h2 : ∀ K rec, F K rec (mk l.length) = some no) :
    W (fun K _ => fixN (F K) K (mk 0)) (fun r => r = match idx f l 0 with | some i => yes i | none => no) := by
  refine W.run (S := Nat) mk (fun j => j ≤ l.length ∧ idx f l 0 = idx f (l.drop j) j) (fun j => l.length - j) (fun j hI ih => ?_) 0 ⟨Nat.zero_le _, by simp⟩
  obtain ⟨hj, hi⟩ := hI
  by_cases hlt : j < l.length
  · refine W.congr (b := fun K n => bif f (D.nth l j) then some (yes j) else fixN (F K) n (mk (j + 1))) ?_ fun K n => h1 K _ j hlt
    rw [drop_nth hlt] at hi
    simp only [idx] at hi
    refine W.cond (fun hf => ?_) (fun hf => ?_)
    · rw [hf] at hi
      exact W.ret (by rw [hi])
    · rw [hf] at hi
      exact ih (j + 1) ⟨hlt, hi⟩ (by omega)
  · have : j = l.length := by omega
    subst this
    refine W.congr (b := fun _ _ => some no) (W.ret ?_) fun K n => h2 K _
    simp [idx] at hi
    rw [hi]
theorem filter_none {f : D → Bool} {l : List D} (h : ∀ x ∈ l, f x = false) : l.filter (fun x => !f x) = l := by
  rw [List.filter_eq_self]
  intro x hx
  simp [h x hx]
/-- The loop of slices.DeleteFunc. -/
theorem W.delete {F : Nat → (List D → Option (Nat × List D)) → List D → Option (Nat × List D)} (f : D → Bool) (mk : Nat → Nat → List D → List D) (fin : Nat → List D → Nat × List D)
    (l : List D) (h1 : ∀ K rec (i j : Nat) row, i < j → j < row.length → row.length = l.length → F K rec (mk i j row) = bif f (D.nth row j) then rec (mk i (j + 1) row) else rec (mk (i + 1) (j + 1) (D.setNth row i (D.nth row j))))
    (h2 : ∀ K rec (i j : Nat) row, j = row.length → F K rec (mk i j row) = some (fin i row)) (i0 : Nat) (hi : i0 < l.length) (hf : f (D.nth l i0) = true) (hb : ∀ x ∈ l.take i0, f x = false) :
    W (fun K _ => fixN (F K) K (mk i0 (i0 + 1) l)) (fun r => ∃ i row, r = fin i row ∧ i ≤ row.length ∧ row.length = l.length ∧ row.take i = l.filter (fun x => !f x)) := by
  refine W.run (S := Nat × Nat × List D) (fun s => mk s.1 s.2.1 s.2.2) (fun s => s.1 < s.2.1 ∧ s.2.1 ≤ l.length ∧ s.2.2.length = l.length ∧ s.2.2.drop s.2.1 = l.drop s.2.1 ∧ s.2.2.take s.1 = (l.take s.2.1).filter (fun x => !f x)) (fun s => l.length - s.2.1) (fun s hI ih => ?_) (i0, i0 + 1, l) ⟨by simp, hi, rfl, rfl, ?_⟩
  · obtain ⟨i, j, row⟩ := s
    obtain ⟨hij, hj, hlen, hd, ht⟩ := hI
    simp only at hij hj hlen hd ht
    by_cases hlt : j < l.length
    · have hjr : j < row.length := by omega
      have hnth : D.nth row j = D.nth l j := by
        have h1 := drop_nth hjr
        have h2 := drop_nth hlt
        rw [hd, h2] at h1
        exact (List.cons.inj h1).1.symm
      refine W.congr (b := fun K n => bif f (D.nth row j) then fixN (F K) n (mk i (j + 1) row) else fixN (F K) n (mk (i + 1) (j + 1) (D.setNth row i (D.nth row j)))) ?_ fun K n => h1 K _ i j row hij hjr hlen
      refine W.cond (fun hf => ?_) (fun hf => ?_)
      · refine ih (i, j + 1, row) ⟨by simp only; omega, by simp only; omega, hlen, ?_, ?_⟩ (by simp only; omega)
        · have := congrArg (List.drop 1) hd
          simpa [List.drop_drop, Nat.add_comm] using this
        · simp only
          rw [ht, take_nth hlt, List.filter_append, ← hnth]
          simp [hf]
      · have hset : D.setNth row i (D.nth row j) = row.set i (D.nth row j) := setNth_eq _ (by omega)
        refine ih (i + 1, j + 1, D.setNth row i (D.nth row j)) ⟨by simp only; omega, by simp only; omega, by simp only [hset]; simpa using hlen, ?_, ?_⟩ (by simp only; omega)
        · simp only [hset]
          rw [List.drop_set_of_lt (by omega)]
          have := congrArg (List.drop 1) hd
          simpa [List.drop_drop, Nat.add_comm] using this
        · simp only [hset]
          rw [take_nth (by simp; omega), List.take_set_of_le (by omega), ht, take_nth hlt, List.filter_append, nth_eq (by simp; omega), ← hnth]
          simp [hf]
    · have : j = row.length := by omega
      refine W.congr (b := fun _ _ => some (fin i row)) (W.ret ⟨i, row, rfl, by omega, hlen, ?_⟩) fun K n => h2 K _ i j row this
      rw [ht, List.take_of_length_le (by omega)]
  · simp only
    rw [take_nth hi, List.filter_append, filter_none hb]
    simp [hf]
/-- The first answer of some. -/
def scan {α : Type} (e : Nat → Option α) (fin : α) : Nat → Nat → α
  | 0, _ => fin
  | m + 1, j => match e j with | some r => r | none => scan e fin m (j + 1)
theorem scan_cases {α : Type} (e : Nat → Option α) (fin : α) : ∀ (m j : Nat), (∃ i r, j ≤ i ∧ i < j + m ∧ e i = some r ∧ scan e fin m j = r ∧ ∀ k, j ≤ k → k < i → e k = none) ∨ ((∀ k, j ≤ k → k < j + m → e k = none) ∧ scan e fin m j = fin)
  | 0, j => .inr ⟨fun k h1 h2 => by omega, rfl⟩
  | m + 1, j => by
    cases h : e j with
    | some r => exact .inl ⟨j, r, Nat.le_refl _, by omega, h, by simp [scan, h], fun k h1 h2 => by omega⟩
    | none =>
      have hs : scan e fin (m + 1) j = scan e fin m (j + 1) := by simp [scan, h]
      rcases scan_cases e fin m (j + 1) with ⟨i, r, h1, h2, h3, h4, h5⟩ | ⟨h1, h2⟩
      · refine .inl ⟨i, r, by omega, by omega, h3, hs.trans h4, fun k h6 h7 => ?_⟩
        rcases Nat.lt_or_eq_of_le h6 with h8 | h8
        · exact h5 k h8 h7
        · subst h8; exact h
      · refine .inr ⟨fun k h6 h7 => ?_, hs.trans h2⟩
        rcases Nat.lt_or_eq_of_le h6 with h8 | h8
        · exact h1 k h8 (by omega)
        · subst h8; exact h
theorem scan_congr {α : Type} {e e' : Nat → Option α} {fin : α} : ∀ (m j : Nat), (∀ k, j ≤ k → k < j + m → e k = e' k) → scan e fin m j = scan e' fin m j
  | 0, _, _ => rfl
  | m + 1, j, h => by
    have h0 := h j (Nat.le_refl _) (by omega)
    simp only [scan, ← h0]
    cases e j with
    | some r => rfl
    | none => exact scan_congr m (j + 1) fun k h1 h2 => h k (by omega) (by omega)
/-- A loop over numbers from 0 on that may answer early. -/
theorem W.early {F : Nat → (List D → Option (Nat × List D)) → List D → Option (Nat × List D)} (n : Nat) (mk : Nat → List D) (e : Nat → Option (Nat × List D)) (fin : Nat × List D)
    (h1 : ∀ j, j < n → (∀ k, k < j → e k = none) → ∀ (p : Nat × List D → Prop) (rc : Nat → Nat → List D → Option (Nat × List D)), (∀ r, e j = some r → p r) → (e j = none → W (fun K m => rc K m (mk (j + 1))) p) → W (fun K m => F K (rc K m) (mk j)) p)
    (h2 : ∀ rc : Nat → Nat → List D → Option (Nat × List D), W (fun K m => F K (rc K m) (mk n)) (fun r => r = fin)) : W (fun K _ => fixN (F K) K (mk 0)) (fun r => r = scan e fin n 0) := by
  refine W.run (S := Nat) mk (fun j => j ≤ n ∧ scan e fin n 0 = scan e fin (n - j) j ∧ ∀ k, k < j → e k = none) (fun j => n - j) (fun j hI ih => ?_) 0 ⟨Nat.zero_le _, by simp, fun k hk => by omega⟩
  obtain ⟨hj, hs, hp⟩ := hI
  by_cases hlt : j < n
  · have hm : n - j = (n - (j + 1)) + 1 := by omega
    rw [hm] at hs
    refine h1 j hlt hp _ (fun K m => fixN (F K) m) (fun r hr => ?_) (fun hn => ?_)
    · rw [hs]
      simp [scan, hr]
    · refine ih (j + 1) ⟨hlt, ?_, fun k hk => ?_⟩ (by omega)
      · rw [hs]
        simp [scan, hn]
      · rcases Nat.lt_or_eq_of_le (Nat.le_of_lt_succ hk) with h | h
        · exact hp k h
        · subst h; exact hn
  · have : j = n := by omega
    subst this
    have : scan e fin (j - j) j = fin := by simp [scan]
    rw [this] at hs
    exact (h2 fun K m => fixN (F K) m).mono fun r hr => hr.trans hs.symm
theorem byteAt_getD : ∀ (l : List UInt8) (j : Nat), byteAt l j = ((l.getD j 0).toNat : Int)
  | [], _ => rfl
  | a :: l, 0 => rfl
  | a :: l, j + 1 => by
    simp only [byteAt, List.getD_cons_succ]
    exact byteAt_getD l j
theorem all_getD (s : List UInt8) (p : UInt8 → Bool) : s.all p = true ↔ ∀ j, j < s.length → p (s.getD j 0) = true := by
  rw [List.all_eq_true]
  constructor
  · intro h j hj
    refine h _ ?_
    rw [List.getD_eq_getElem?_getD, List.getElem?_eq_getElem hj]
    exact List.getElem_mem hj
  · intro h x hx
    obtain ⟨j, hj, rfl⟩ := List.getElem_of_mem hx
    have := h j hj
    rwa [List.getD_eq_getElem?_getD, List.getElem?_eq_getElem hj] at this
theorem scan_all {α : Type} (s : List UInt8) (p : UInt8 → Bool) (r fin : α) : scan (fun j => bif p (s.getD j 0) then none else some r) fin s.length 0 = bif s.all p then fin else r := by
  rcases scan_cases (fun j => bif p (s.getD j 0) then none else some r) fin s.length 0 with ⟨i, r', h1, h2, h3, h4, h5⟩ | ⟨h1, h2⟩
  · have hf : s.all p = false := by
      rw [← Bool.not_eq_true, all_getD]
      intro h
      have := h i (by omega)
      rw [this] at h3
      cases h3
    rw [h4, hf]
    cases hp : p (s.getD i 0) <;> rw [hp] at h3 <;> simp at h3
    simp [h3]
  · have ht : s.all p = true := by
      rw [all_getD]
      intro j hj
      have := h1 j (Nat.zero_le _) (by omega)
      cases hp : p (s.getD j 0) with
      | true => rfl
      | false => rw [hp] at this; simp at this
    rw [h2, ht]
    rfl
theorem all256 {p : UInt8 → Bool} (h : (List.range 256).all (fun n => p (UInt8.ofNat n)) = true) (c : UInt8) : p c = true := by
  have := List.all_eq_true.1 h c.toNat (by simpa using c.toNat_lt)
  simpa using this
theorem eqKF_refl (k : K) : (∀ x, eqK k x x = true) ∧ (∀ j x, eqF k j x x = true) := by
  induction k with
  | pair t k r ihk ihr => exact ⟨fun x => by simp [eqK, ihk.1, ihr.2], fun j x => by simp [eqF, ihk.1, ihr.2]⟩
  | _ => exact ⟨fun x => by simp [eqK], fun j x => by simp [eqF]⟩
theorem eqK_refl (k : K) (x : D) : eqK k x x = true := (eqKF_refl k).1 x
theorem toUInt8_byte (c : UInt8) : ((c.toNat : Int)).toNat.toUInt8 = c := by simp
theorem any_nth (l : List D) (p : D → Bool) : l.any p = true ↔ ∃ j, j < l.length ∧ p (D.nth l j) = true := by
  rw [List.any_eq_true]
  constructor
  · rintro ⟨x, hx, hp⟩
    obtain ⟨j, hj, rfl⟩ := List.getElem_of_mem hx
    exact ⟨j, hj, by rw [nth_eq hj]; exact hp⟩
  · rintro ⟨j, hj, hp⟩
    rw [nth_eq hj] at hp
    exact ⟨_, List.getElem_mem hj, hp⟩
theorem scan_any {α : Type} (l : List D) (p : D → Bool) (g : Nat → α) (fin : α) :
    (l.any p = true ∧ ∃ i, i < l.length ∧ scan (fun j => bif p (D.nth l j) then some (g j) else none) fin l.length 0 = g i) ∨ (l.any p = false ∧ scan (fun j => bif p (D.nth l j) then some (g j) else none) fin l.length 0 = fin) := by
  rcases scan_cases (fun j => bif p (D.nth l j) then some (g j) else none) fin l.length 0 with ⟨i, r, h1, h2, h3, h4, h5⟩ | ⟨h1, h2⟩
  · cases hp : p (D.nth l i) with
    | false => rw [hp] at h3; cases h3
    | true =>
      rw [hp] at h3
      cases h3
      exact .inl ⟨(any_nth l p).2 ⟨i, by omega, hp⟩, i, by omega, h4⟩
  · refine .inr ⟨?_, h2⟩
    rw [← Bool.not_eq_true, any_nth]
    rintro ⟨j, hj, hp⟩
    have := h1 j (Nat.zero_le _) (by omega)
    rw [hp] at this
    cases this
theorem foldl_snoc {α β : Type} (f : α → β) : ∀ (l : List α) (acc : List β), l.foldl (fun a x => a ++ [f x]) acc = acc ++ l.map f
  | [], acc => by simp
  | x :: l, acc => by simp [foldl_snoc f l]
/-- A loop that writes each place of a row. -/
theorem W.each {F : Nat → (List D → Option (Nat × List D)) → List D → Option (Nat × List D)} (l : List D) (mk : Nat → List D → List D) (g : D → D) (fin : List D → Nat × List D)
    (h1 : ∀ j row, j < l.length → row.length = l.length → D.nth row j = D.nth l j → ∀ (p : Nat × List D → Prop) (rc : Nat → Nat → List D → Option (Nat × List D)), W (fun K m => rc K m (mk (j + 1) (D.setNth row j (g (D.nth l j))))) p → W (fun K m => F K (rc K m) (mk j row)) p)
    (h2 : ∀ row, row.length = l.length → ∀ (rc : Nat → Nat → List D → Option (Nat × List D)), W (fun K m => F K (rc K m) (mk l.length row)) (fun r => r = fin row)) :
    W (fun K _ => fixN (F K) K (mk 0 l)) (fun r => r = fin (l.map g)) := by
  refine W.run (S := Nat × List D) (fun s => mk s.1 s.2) (fun s => s.1 ≤ l.length ∧ s.2 = (l.take s.1).map g ++ l.drop s.1) (fun s => l.length - s.1) (fun s hI ih => ?_) (0, l) ⟨Nat.zero_le _, by simp⟩
  obtain ⟨j, row⟩ := s
  obtain ⟨hj, hr⟩ := hI
  simp only at hj hr
  have hlen : row.length = l.length := by rw [hr]; simp; omega
  by_cases hlt : j < l.length
  · have hn : D.nth row j = D.nth l j := by
      rw [nth_eq (by omega), nth_eq hlt]
      subst hr
      rw [List.getElem_append_right (by simp; omega)]
      simp [Nat.min_eq_left hj]
    refine h1 j row hlt hlen hn _ (fun K m => fixN (F K) m) (ih (j + 1, _) ⟨hlt, ?_⟩ (by simp only; omega))
    simp only
    rw [setNth_eq _ (by omega), hr, take_nth hlt, drop_nth hlt]
    have hl2 : ((l.take j).map g).length = j := by simp; omega
    rw [List.set_append_right _ _ (by omega), hl2]
    simp
  · have : j = l.length := by omega
    subst this
    refine (h2 row hlen fun K m => fixN (F K) m).mono fun r h => ?_
    rw [h, hr]
    simp
/-- 'W.run', whatever the rounds behind are called. -/
theorem W.rounds {S : Type} {F : Nat → (List D → Option (Nat × List D)) → List D → Option (Nat × List D)} {p : Nat × List D → Prop} (mk : S → List D) (I : S → Prop) (m : S → Nat)
    (h : ∀ s, I s → ∀ rc : Nat → Nat → List D → Option (Nat × List D), (∀ s', I s' → m s' < m s → W (fun K n => rc K n (mk s')) p) → W (fun K n => F K (rc K n) (mk s)) p) (s : S) (h0 : I s) : W (fun K _ => fixN (F K) K (mk s)) p :=
  W.run mk I m (fun s hI ih => h s hI (fun K n => fixN (F K) n) ih) s h0
/-- A function that calls itself. -/
theorem W.selff {F : Nat → (List D → Option (List D)) → List D → Option (List D)} {ds : List D} {p : List D → Prop} (h : ∀ rc : Nat → List D → Option (List D), W (fun K _ => F K (rc K) ds) p) : W (fun K _ => fixF (F K) K ds) p := by
  obtain ⟨r, hr, k, h⟩ := h fun K => fixF (F K) (K - 1)
  refine ⟨r, hr, k + 1, fun K n hK hn => ?_⟩
  obtain ⟨m, rfl⟩ : ∃ m, K = m + 1 := ⟨K - 1, by omega⟩
  exact h (m + 1) n (by omega) (by omega)
theorem nth_none : ∀ {l : List D} {j : Nat}, l.length ≤ j → D.nth l j = .n []
  | [], _, _ => rfl
  | _ :: l, 0, h => by simp at h
  | _ :: l, j + 1, h => nth_none (l := l) (by simpa using h)
theorem nth_setNth {l : List D} {i j : Nat} {v : D} (hi : i < l.length) : D.nth (D.setNth l i v) j = if j = i then v else D.nth l j := by
  rw [setNth_eq _ hi]
  by_cases hj : j < l.length
  · rw [nth_eq (by simpa using hj), List.getElem_set]
    by_cases h : j = i
    · rw [if_pos h, if_pos h.symm]
    · rw [if_neg h, if_neg (fun e => h e.symm), nth_eq hj]
  · have h : ¬ j = i := by omega
    rw [if_neg h, nth_none (by simpa using hj), nth_none (by omega)]
theorem length_setNth {l : List D} {i : Nat} {v : D} (hi : i < l.length) : (D.setNth l i v).length = l.length := by rw [setNth_eq _ hi]; simp
theorem swap_perm {l : List D} {i j : Nat} (hi : i < l.length) (hj : j < l.length) : (D.setNth (D.setNth l i (D.nth l j)) j (D.nth l i)).Perm l := by
  rw [setNth_eq _ hi, setNth_eq _ (by simpa using hj), nth_eq hi, nth_eq hj]
  exact List.set_set_perm hi hj
/-! ### The order of strings -/
theorem less_nil (a : List UInt8) : Op.bytesLess a [] = false := by cases a <;> rfl
theorem cmp_spec : ∀ (a b : List UInt8), (Lib.compareBytes a b < 0 ↔ Op.bytesLess a b = true) ∧ (Lib.compareBytes a b = 0 ↔ a = b) ∧ (0 < Lib.compareBytes a b ↔ Op.bytesLess b a = true)
  | [], [] => by simp [Lib.compareBytes, Op.bytesLess]
  | [], b :: bs => by simp [Lib.compareBytes, Op.bytesLess]
  | a :: as, [] => by simp [Lib.compareBytes, Op.bytesLess]
  | a :: as, b :: bs => by
    have ih := cmp_spec as bs
    simp only [Lib.compareBytes, Op.bytesLess, Bool.or_eq_true, Bool.and_eq_true, decide_eq_true_eq, beq_iff_eq, List.cons.injEq]
    by_cases h1 : a < b
    · have h2 : ¬ b < a := fun h => absurd (UInt8.lt_trans h1 h) (UInt8.lt_irrefl a)
      have h3 : a ≠ b := fun h => by subst h; exact UInt8.lt_irrefl a h1
      have h4 : b ≠ a := fun h => h3 h.symm
      simp [h1, h2, h3, h4]
    · by_cases h2 : b < a
      · have h3 : a ≠ b := fun h => by subst h; exact UInt8.lt_irrefl a h2
        have h4 : b ≠ a := fun h => h3 h.symm
        simp [h1, h2, h3, h4]
      · have h3 : a = b := UInt8.le_antisymm (UInt8.not_lt.1 h2) (UInt8.not_lt.1 h1)
        subst h3
        simp [UInt8.lt_irrefl, ih.1, ih.2.1, ih.2.2]
theorem less_irrefl (a : List UInt8) : Op.bytesLess a a = false := by
  have h := cmp_spec a a
  rw [← Bool.not_eq_true]
  intro h1
  have h2 := h.1.2 h1
  have h3 := h.2.1.2 rfl
  omega
theorem less_trans : ∀ {a b c : List UInt8}, Op.bytesLess a b = true → Op.bytesLess b c = true → Op.bytesLess a c = true
  | _, [], _, h, _ => by rw [less_nil] at h; cases h
  | _, _ :: _, [], _, h => by rw [less_nil] at h; cases h
  | [], _ :: _, _ :: _, _, _ => rfl
  | a :: as, b :: bs, c :: cs, h1, h2 => by
    simp only [Op.bytesLess, Bool.or_eq_true, Bool.and_eq_true, decide_eq_true_eq, beq_iff_eq] at h1 h2 ⊢
    rcases h1 with h1 | ⟨rfl, h1⟩
    · rcases h2 with h2 | ⟨rfl, h2⟩
      · exact .inl (UInt8.lt_trans h1 h2)
      · exact .inl h1
    · rcases h2 with h2 | ⟨rfl, h2⟩
      · exact .inl h2
      · exact .inr ⟨rfl, less_trans h1 h2⟩
theorem less_total {a b : List UInt8} (h1 : Op.bytesLess a b = false) (h2 : a ≠ b) : Op.bytesLess b a = true := by
  obtain ⟨c1, c2, c3⟩ := cmp_spec a b
  have h3 : ¬ Lib.compareBytes a b < 0 := fun h => by rw [c1.1 h] at h1; cases h1
  have h4 : ¬ Lib.compareBytes a b = 0 := fun h => h2 (c2.1 h)
  exact c3.1 (by omega)
theorem less_asymm {a b : List UInt8} (h : Op.bytesLess a b = true) : Op.bytesLess b a = false := by
  rw [← Bool.not_eq_true]
  intro h2
  have := less_trans h h2
  rw [less_irrefl] at this
  cases this
/-- Ascending strictly, by what stands at a field. -/
def Inc (key : D → List UInt8) (l : List D) : Prop := ∀ j, 0 < j → j < l.length → Op.bytesLess (key (D.nth l (j - 1))) (key (D.nth l j)) = true
theorem Inc.lt {key : D → List UInt8} {l : List D} (h : Inc key l) {a b : Nat} (hab : a < b) (hb : b < l.length) : Op.bytesLess (key (D.nth l a)) (key (D.nth l b)) = true := by
  induction b with
  | zero => omega
  | succ b ih =>
    have h1 := h (b + 1) (by omega) hb
    simp only [Nat.add_sub_cancel] at h1
    rcases Nat.lt_or_eq_of_le (Nat.le_of_lt_succ hab) with h2 | h2
    · exact less_trans (ih h2 (by omega)) h1
    · subst h2; exact h1
/-! ### Halving -/
theorem half_mid (i j : Nat) (h : i + j ≤ 1000000000000) : IntKind.i64.wrap (shr .u64 (IntKind.u64.wrap (IntKind.i64.wrap ((i : Int) + (j : Int)))) 1) = (((i + j) / 2 : Nat) : Int) := by
  have e1 : IntKind.i64.wrap ((i : Int) + j) = (i : Int) + j := wrap_i64 (by omega) (by omega)
  have e2 : IntKind.u64.wrap ((i : Int) + j) = (i : Int) + j := by
    rw [IntKind.wrap_u64]
    omega
  have e3 : shr .u64 ((i : Int) + j) 1 = ((i + j) / 2 : Nat) := by
    unfold shr
    have : (2 : Int) ^ (min (1 : Int).toNat (IntKind.bits .u64)) = 2 := rfl
    rw [this, Int.fdiv_eq_ediv_of_nonneg _ (by omega)]
    omega
  rw [e1, e2, e3, wrap_i64 (by omega) (by omega)]
theorem W.bsearch {F : Nat → (List D → Option (Nat × List D)) → List D → Option (Nat × List D)} (n : Nat) (mk : Nat → Nat → List D) (lt : Nat → Bool) (fin : Nat → Nat × List D)
    (h1 : ∀ i j, i < j → j ≤ n → ∀ (p : Nat × List D → Prop) (rc : Nat → Nat → List D → Option (Nat × List D)), (lt ((i + j) / 2) = true → W (fun K m => rc K m (mk ((i + j) / 2 + 1) j)) p) → (lt ((i + j) / 2) = false → W (fun K m => rc K m (mk i ((i + j) / 2))) p) → W (fun K m => F K (rc K m) (mk i j)) p)
    (h2 : ∀ i, i ≤ n → ∀ rc : Nat → Nat → List D → Option (Nat × List D), W (fun K m => F K (rc K m) (mk i i)) (fun r => r = fin i))
    (hm : ∀ a b, a < b → b < n → lt b = true → lt a = true) :
    W (fun K _ => fixN (F K) K (mk 0 n)) (fun r => ∃ i, r = fin i ∧ i ≤ n ∧ (∀ p, p < i → lt p = true) ∧ ∀ p, i ≤ p → p < n → lt p = false) := by
  refine W.rounds (S := Nat × Nat) (fun s => mk s.1 s.2) (fun s => s.1 ≤ s.2 ∧ s.2 ≤ n ∧ (∀ p, p < s.1 → lt p = true) ∧ ∀ p, s.2 ≤ p → p < n → lt p = false) (fun s => s.2 - s.1) (fun s hI rc ih => ?_) (0, n) ⟨Nat.zero_le _, Nat.le_refl _, fun p h => by simp only at h; omega, fun p h h' => by simp only at h; omega⟩
  obtain ⟨i, j⟩ := s
  obtain ⟨a1, a2, a3, a4⟩ := hI
  simp only at a1 a2 a3 a4
  rcases Nat.lt_or_eq_of_le a1 with h | h
  · refine h1 i j h a2 _ rc (fun hl => ?_) (fun hl => ?_)
    · refine ih ((i + j) / 2 + 1, j) ⟨by simp only; omega, a2, fun p hp => ?_, a4⟩ (by simp only; omega)
      simp only at hp
      rcases Nat.lt_or_eq_of_le (Nat.le_of_lt_succ hp) with h3 | h3
      · exact hm p _ h3 (by omega) hl
      · subst h3; exact hl
    · refine ih (i, (i + j) / 2) ⟨by simp only; omega, by simp only; omega, a3, fun p hp hn => ?_⟩ (by simp only; omega)
      simp only at hp
      rcases Nat.lt_or_eq_of_le hp with h3 | h3
      · rw [← Bool.not_eq_true]
        intro h4
        rw [hm _ p h3 hn h4] at hl
        cases hl
      · subst h3; exact hl
  · subst h
    exact (h2 i a2 rc).mono fun r hr => ⟨i, hr, a2, a3, a4⟩
theorem in_out (x a b : Int) : (!(bif leI a x then leI x b else false)) = (bif ltI x a then true else gtI x b) := by
  cases h1 : leI a x <;> cases h2 : leI x b <;> cases h3 : ltI x a <;> cases h4 : gtI x b <;> first | rfl | (exfalso; simp at h1 h2 h3 h4; omega)
end Go.Ev
