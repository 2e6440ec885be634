/- The evaluator: handing states over, in shapes. -/
import Derived.Test.YtpmkecjkbajcgaaGreatDoorEvMap
namespace Go.Ev
open Go
set_option linter.unusedVariables false
set_option linter.unusedSimpArgs false

/-! ### 1. Data in a row -/
def Emb (L : List D) (j : Nat) (new : List D) : Prop := ∀ (k : Nat) x, new[k]? = some x → D.nth L (j + k) = x
theorem Emb.left {L : List D} {j : Nat} {a b : List D} (h : Emb L j (a ++ b)) : Emb L j a := fun k x hx => h k x (by rw [List.getElem?_append_left (List.getElem?_eq_some_iff.1 hx).1]; exact hx)
theorem Emb.right {L : List D} {j : Nat} {a b : List D} (h : Emb L j (a ++ b)) : Emb L (j + a.length) b := fun k x hx => by
  rw [Nat.add_assoc]
  exact h _ x (by rw [List.getElem?_append_right (Nat.le_add_right _ _), Nat.add_sub_cancel_left]; exact hx)
theorem revOnto_eq : ∀ (l m : List D), revOnto l m = l.reverse ++ m
  | [], m => rfl
  | a :: l, m => by simp [revOnto, revOnto_eq l]
/-! ### 2. What object stands for which -/
def MapLe (m m' : List (Nat × Option Nat)) : Prop := ∀ i x, lk m i = some x → lk m' i = some x
theorem MapLe.trans {a b c : List (Nat × Option Nat)} (h : MapLe a b) (h' : MapLe b c) : MapLe a c := fun i x hx => h' i x (h i x hx)
theorem lk_cons {α : Type} (i : Nat) (x : α) (m : List (Nat × α)) (j : Nat) : lk ((i, x) :: m) j = if i = j then some x else lk m j := by
  simp only [lk]
  cases hb : Nat.beq i j with
  | true => rw [Nat.beq_eq] at hb; simp [hb]
  | false =>
    have : i ≠ j := fun e => by rw [← Nat.beq_eq] at e; rw [e] at hb; cases hb
    simp [this]
theorem hasV_iff : ∀ {m : List (Nat × Option Nat)} {j : Nat}, hasV m j = true ↔ ∃ i, (i, some j) ∈ m
  | [], j => by simp [hasV]
  | (a, some b) :: m, j => by
    simp only [hasV, Bool.or_eq_true, Nat.beq_eq, hasV_iff (m := m)]
    constructor
    · rintro (rfl | ⟨i, h⟩)
      · exact ⟨a, by simp⟩
      · exact ⟨i, by simp [h]⟩
    · rintro ⟨i, h⟩
      rcases List.mem_cons.1 h with h | h
      · cases h; exact .inl rfl
      · exact .inr ⟨i, h⟩
  | (a, none) :: m, j => by
    simp only [hasV, hasV_iff (m := m)]
    constructor
    · rintro ⟨i, h⟩; exact ⟨i, by simp [h]⟩
    · rintro ⟨i, h⟩
      rcases List.mem_cons.1 h with h | h
      · cases h
      · exact ⟨i, h⟩
/-- No two names stand for one object. -/
def MapInj (m : List (Nat × Option Nat)) : Prop := ∀ i i' j, (i, some j) ∈ m → (i', some j) ∈ m → i = i'
theorem lk_mem {α : Type} : ∀ {m : List (Nat × α)} {i : Nat} {x : α}, lk m i = some x → (i, x) ∈ m
  | (a, b) :: m, i, x, h => by
    rw [lk_cons] at h
    split at h
    · rename_i e; cases h; subst e; simp
    · exact List.mem_cons_of_mem _ (lk_mem h)
  | [], i, x, h => by simp [lk] at h
theorem bindO_spec {f f' : Fit} {i : Nat} {j : Option Nat} (h : f.bindO i j = some f') : f'.ds = f.ds ∧ f'.lent = f.lent ∧ f'.seen = f.seen ∧ MapLe f.mp f'.mp ∧ lk f'.mp i = some j ∧ (MapInj f.mp → MapInj f'.mp) := by
  unfold Fit.bindO at h
  split at h
  · rename_i hn
    have hle : ∀ x, MapLe f.mp ((i, x) :: f.mp) := fun x k y hk => by
      rw [lk_cons]
      split
      · rename_i e; subst e; rw [hn] at hk; cases hk
      · exact hk
    split at h
    · rename_i j'
      split at h
      · cases h
      · rename_i hv
        cases h
        refine ⟨rfl, rfl, rfl, hle _, by simp [lk_cons], fun hi a b c h1 h2 => ?_⟩
        have hno : ∀ q, (q, some j') ∉ f.mp := fun q hq => by
          have := hasV_iff.2 ⟨q, hq⟩
          rw [hv] at this
          cases this
        rcases List.mem_cons.1 h1 with h1 | h1
        · rcases List.mem_cons.1 h2 with h2 | h2
          · cases h1; cases h2; rfl
          · cases h1; exact absurd h2 (hno b)
        · rcases List.mem_cons.1 h2 with h2 | h2
          · cases h2; exact absurd h1 (hno a)
          · exact hi a b c h1 h2
    · cases h
      refine ⟨rfl, rfl, rfl, hle _, by simp [lk_cons], fun hi a b c h1 h2 => ?_⟩
      rcases List.mem_cons.1 h1 with h1 | h1
      · cases h1
      · rcases List.mem_cons.1 h2 with h2 | h2
        · cases h2
        · exact hi a b c h1 h2
  · rename_i a ha
    split at h
    · rename_i b
      split at h
      · rename_i hb
        cases h
        rw [Nat.beq_eq] at hb
        subst hb
        exact ⟨rfl, rfl, rfl, fun _ _ h => h, ha, id⟩
      · cases h
    · cases h
  · cases h
theorem beq_to {a b : Nat} (h : Nat.beq a b = true) : a = b := by rwa [Nat.beq_eq] at h
theorem eqL_eq : ∀ {l m : List Nat}, eqL l m = true → l = m
  | [], [], _ => rfl
  | a :: l, b :: m, h => by
    simp only [eqL, Bool.and_eq_true, Nat.beq_eq] at h
    rw [h.1, eqL_eq h.2]
  | [], _ :: _, h => by simp [eqL] at h
  | _ :: _, [], h => by simp [eqL] at h

/-! ### 3. Only what was looked at counts -/
section
variable {hp hpf : HpF}
mutual
theorem toD_congr : ∀ (v : AV) (fr : Bool) (x : D) (l : List Nat), toD hp v = some (fr, x, l) → (∀ i ∈ l, hpf i = hp i) → toD hpf v = some (fr, x, l)
  | .own t i, fr, x, l, h, hl => by
    simp only [toD] at h ⊢
    split at h
    · rename_i e fr' xs hh
      simp only [Option.some.injEq, Prod.mk.injEq] at h
      obtain ⟨rfl, rfl, rfl⟩ := h
      rw [hl i (by simp), hh]
    · cases h
  | .agg t fs, fr, x, l, h, hl => by
    simp only [toD] at h ⊢
    split at h
    · rename_i f' xs l' hds
      simp only [Option.some.injEq, Prod.mk.injEq] at h
      obtain ⟨rfl, rfl, rfl⟩ := h
      rw [toDs_congr fs _ _ _ hds hl]
    · cases h
  | .d .., fr, x, l, h, hl => h
  | .nil _, fr, x, l, h, hl => h
  | .undef, _, _, _, h, _ | .cptr .., _, _, _, h, _ | .bx .., _, _, _, h, _ | .optr .., _, _, _, h, _ | .ptr .., _, _, _, h, _ | .nilp, _, _, _, h, _ | .fn .., _, _, _, h, _ | .tup _, _, _, _, h, _ | .w .., _, _, _, h, _ => by simp [toD] at h
theorem toDs_congr : ∀ (vs : List AV) (fr : Bool) (xs : List D) (l : List Nat), toDs hp vs = some (fr, xs, l) → (∀ i ∈ l, hpf i = hp i) → toDs hpf vs = some (fr, xs, l)
  | [], fr, xs, l, h, hl => h
  | v :: vs, fr, xs, l, h, hl => by
    simp only [toDs] at h ⊢
    split at h
    · rename_i f1 x1 l1 h1
      split at h
      · rename_i f2 x2 l2 h2
        simp only [Option.some.injEq, Prod.mk.injEq] at h
        obtain ⟨rfl, rfl, rfl⟩ := h
        rw [toD_congr v _ _ _ h1 (fun i hi => hl i (by simp [hi])), toDs_congr vs _ _ _ h2 (fun i hi => hl i (by simp [hi]))]
      · cases h
    · cases h
end
section
variable {kd : TypeId → Option K} {ob : Nat → Option SO}
mutual
theorem fitV_seen : ∀ (sv : SV) (a : AV) (f f' : Fit), fitV kd hp ob sv a f = some f' → ∀ i ∈ f.seen, i ∈ f'.seen
  | .d t fr, a, f, f', h, i, hi => by
    simp only [fitV] at h
    split at h
    · split at h
      · split at h
        · split at h
          · cases h; exact List.mem_append_right _ hi
          · cases h
        · cases h
      · cases h
    · cases h
  | .nil t, a, f, f', h, i, hi => by
    cases a <;> simp only [fitV] at h <;> try cases h
    split at h
    · cases h; exact hi
    · cases h
  | .own t k, a, f, f', h, i, hi => by
    cases a <;> simp only [fitV] at h <;> try cases h
    · split at h
      · split at h
        · rw [(bindO_spec h).2.2.1]; exact hi
        · cases h
      · cases h
    · split at h
      · rw [(bindO_spec h).2.2.1]; exact hi
      · cases h
  | .ptr t k p, a, f, f', h, i, hi => by
    cases a <;> simp only [fitV] at h <;> try cases h
    split at h
    · rw [(bindO_spec h).2.2.1]; exact hi
    · cases h
  | .nilp, a, f, f', h, i, hi => by
    cases a <;> simp only [fitV] at h <;> cases h
    exact hi
  | .agg t fs, a, f, f', h, i, hi => by
    cases a <;> simp only [fitV] at h <;> try cases h
    split at h
    · exact fitVs_seen fs _ f f' h i hi
    · cases h
  | .fn g fs, a, f, f', h, i, hi => by
    cases a <;> simp only [fitV] at h <;> try cases h
    split at h
    · exact fitVs_seen fs _ f f' h i hi
    · cases h
  | .bx t fr v, a, f, f', h, i, hi => by
    cases a <;> simp only [fitV] at h <;> try cases h
    split at h
    · exact fitV_seen v _ f f' h i hi
    · cases h
  | .optr t k p, a, f, f', h, i, hi => by
    cases a <;> simp only [fitV] at h <;> try cases h
    split at h
    · split at h
      · rename_i f1 hb
        cases h
        show i ∈ f1.seen
        rw [(bindO_spec hb).2.2.1]; exact hi
      · cases h
    · cases h
  | .tup fs, a, f, f', h, i, hi => by
    cases a <;> simp only [fitV] at h <;> try cases h
    exact fitVs_seen fs _ f f' h i hi
theorem fitVs_seen : ∀ (svs : List SV) (as : List AV) (f f' : Fit), fitVs kd hp ob svs as f = some f' → ∀ i ∈ f.seen, i ∈ f'.seen
  | [], as, f, f', h, i, hi => by
    cases as <;> simp only [fitVs] at h <;> cases h
    exact hi
  | v :: r, as, f, f', h, i, hi => by
    cases as with
    | nil => simp [fitVs] at h
    | cons a as =>
      simp only [fitVs] at h
      split at h
      · rename_i f1 h1
        exact fitVs_seen r as f1 f' h i (fitV_seen v a f f1 h1 i hi)
      · cases h
end
mutual
theorem fitV_congr : ∀ (sv : SV) (a : AV) (f f' : Fit), fitV kd hp ob sv a f = some f' → (∀ i ∈ f'.seen, hpf i = hp i) → fitV kd hpf ob sv a f = some f'
  | .d t fr, a, f, f', h, hl => by
    simp only [fitV] at h ⊢
    split at h
    · rename_i t' ht
      split at h
      · rename_i hb
        split at h
        · rename_i g x l htd
          split at h
          · rename_i hc
            cases h
            rw [toD_congr a _ _ _ htd (fun i hi => hl i (List.mem_append_left _ hi))]
            simp only [hc]
          · cases h
        · cases h
      · cases h
    · cases h
  | .nil t, a, f, f', h, hl => by cases a <;> first | exact h | simp [fitV] at h
  | .own t k, a, f, f', h, hl => by cases a <;> first | exact h | simp [fitV] at h
  | .ptr t k p, a, f, f', h, hl => by cases a <;> first | exact h | simp [fitV] at h
  | .nilp, a, f, f', h, hl => by cases a <;> first | exact h | simp [fitV] at h
  | .agg t fs, a, f, f', h, hl => by
    cases a <;> simp only [fitV] at h ⊢ <;> try cases h
    split at h
    · exact fitVs_congr fs _ f f' h hl
    · cases h
  | .fn g fs, a, f, f', h, hl => by
    cases a <;> simp only [fitV] at h ⊢ <;> try cases h
    split at h
    · exact fitVs_congr fs _ f f' h hl
    · cases h
  | .bx t fr v, a, f, f', h, hl => by
    cases a <;> simp only [fitV] at h ⊢ <;> try cases h
    split at h
    · exact fitV_congr v _ f f' h hl
    · cases h
  | .optr t k p, a, f, f', h, hl => by cases a <;> first | exact h | simp [fitV] at h
  | .tup fs, a, f, f', h, hl => by
    cases a <;> simp only [fitV] at h ⊢ <;> try cases h
    exact fitVs_congr fs _ f f' h hl
theorem fitVs_congr : ∀ (svs : List SV) (as : List AV) (f f' : Fit), fitVs kd hp ob svs as f = some f' → (∀ i ∈ f'.seen, hpf i = hp i) → fitVs kd hpf ob svs as f = some f'
  | [], as, f, f', h, hl => by cases as <;> first | exact h | simp [fitVs] at h
  | v :: r, as, f, f', h, hl => by
    cases as with
    | nil => simp [fitVs] at h
    | cons a as =>
      simp only [fitVs] at h ⊢
      split at h
      · rename_i f1 h1
        rw [fitV_congr v a f f1 h1 (fun i hi => hl i (fitVs_seen r as f1 f' h i hi))]
        exact fitVs_congr r as f1 f' h hl
      · cases h
end
theorem fitSl_seen {lks : Nat → Option AV} : ∀ (sl : List (Nat × SV)) (f f' : Fit), fitSl kd hp ob lks sl f = some f' → ∀ i ∈ f.seen, i ∈ f'.seen
  | [], f, f', h, i, hi => by simp only [fitSl] at h; cases h; exact hi
  | (s, v) :: r, f, f', h, i, hi => by
    simp only [fitSl] at h
    split at h
    · split at h
      · rename_i f1 h1
        exact fitSl_seen r f1 f' h i (fitV_seen v _ f f1 h1 i hi)
      · cases h
    · cases h
theorem fitSl_congr {lks : Nat → Option AV} : ∀ (sl : List (Nat × SV)) (f f' : Fit), fitSl kd hp ob lks sl f = some f' → (∀ i ∈ f'.seen, hpf i = hp i) → fitSl kd hpf ob lks sl f = some f'
  | [], f, f', h, hl => h
  | (s, v) :: r, f, f', h, hl => by
    simp only [fitSl] at h ⊢
    split at h
    · rename_i a ha
      split at h
      · rename_i f1 h1
        rw [fitV_congr v a f f1 h1 (fun i hi => hl i (fitSl_seen r f1 f' h i hi))]
        exact fitSl_congr r f1 f' h hl
      · cases h
    · cases h
theorem fitOb_seen : ∀ (l : List (Nat × SO)) (f f' : Fit), fitOb kd hp ob l f = some f' → ∀ i ∈ f.seen, i ∈ f'.seen
  | [], f, f', h, i, hi => by simp only [fitOb] at h; cases h; exact hi
  | (k, o) :: r, f, f', h, i, hi => by
    simp only [fitOb] at h
    split at h
    · split at h
      · split at h
        · exact fitOb_seen r _ f' h i (List.mem_cons_of_mem _ hi)
        · cases h
      · split at h
        · split at h
          · rename_i f1 h1
            exact fitOb_seen r f1 f' h i (fitV_seen _ _ _ f1 h1 i (List.mem_cons_of_mem _ hi))
          · cases h
        · cases h
      · split at h
        · exact fitOb_seen r _ f' h i (List.mem_cons_of_mem _ hi)
        · cases h
      · cases h
    · split at h
      · split at h
        · exact fitOb_seen r _ f' h i hi
        · cases h
      · cases h
    · cases h
theorem fitOb_congr : ∀ (l : List (Nat × SO)) (f f' : Fit), fitOb kd hp ob l f = some f' → (∀ i ∈ f'.seen, hpf i = hp i) → fitOb kd hpf ob l f = some f'
  | [], f, f', h, hl => h
  | (k, o) :: r, f, f', h, hl => by
    simp only [fitOb] at h ⊢
    split at h
    · rename_i j hj
      split at h
      · rename_i e g xs e' fr hh
        split at h
        · rename_i hc
          have : hpf j = hp j := hl j (fitOb_seen r _ f' h j (by simp))
          rw [this, hh]
          simp only [hc]
          exact fitOb_congr r _ f' h hl
        · cases h
      · rename_i t a t' v hh
        split at h
        · rename_i hc
          split at h
          · rename_i f1 h1
            have : hpf j = hp j := hl j (fitOb_seen r f1 f' h j (fitV_seen _ _ _ f1 h1 j (by simp)))
            rw [this, hh]
            simp only [hc]
            rw [fitV_congr _ _ _ f1 h1 (fun i hi => hl i (fitOb_seen r f1 f' h i hi))]
            exact fitOb_congr r f1 f' h hl
          · cases h
        · cases h
      · rename_i t g xs t' fr hh
        split at h
        · rename_i hc
          have : hpf j = hp j := hl j (fitOb_seen r _ f' h j (by simp))
          rw [this, hh]
          simp only [hc]
          exact fitOb_congr r _ f' h hl
        · cases h
      · cases h
    · rename_i hj
      split at h
      · split at h
        · exact fitOb_congr r _ f' h hl
        · cases h
      · cases h
    · cases h
theorem fit_congr {lks : Nat → Option AV} {mp0 : List (Nat × Option Nat)} {sh : Shape} {f : Fit} (h : fit kd hp lks mp0 sh = some f) (hl : ∀ i ∈ f.seen, hpf i = hp i) : fit kd hpf lks mp0 sh = some f := by
  unfold fit at h ⊢
  split at h
  · rename_i f1 h1
    split at h
    · rename_i f2 h2
      split at h
      · rename_i hok
        cases h
        rw [fitSl_congr _ _ _ h1 (fun i hi => hl i (fitOb_seen _ _ _ h2 i hi))]
        simp only
        rw [fitOb_congr _ _ _ h2 hl]
        simp only [hok]
      · cases h
    · cases h
  · cases h
end
end
end Go.Ev
