/- The evaluator: what abstract values say of the machine's values and memory. -/
import Derived.Test.YtpmkecjkbajcgaaGreatDoorEvOp
namespace Go.Ev
open Go
set_option linter.unusedSimpArgs false
set_option linter.unusedVariables false

inductive All2 {α β : Type} (R : α → β → Prop) : List α → List β → Prop where
  | nil : All2 R [] []
  | cons {a b l m} : R a b → All2 R l m → All2 R (a :: l) (b :: m)
theorem All2.length {α β : Type} {R : α → β → Prop} {l : List α} {m : List β} (h : All2 R l m) : l.length = m.length := by
  induction h with
  | nil => rfl
  | cons _ _ ih => simp [ih]
theorem All2.imp {α β : Type} {R S : α → β → Prop} {l : List α} {m : List β} (h : All2 R l m) (f : ∀ a b, a ∈ l → R a b → S a b) : All2 S l m := by
  induction h with
  | nil => exact .nil
  | cons hr _ ih => exact .cons (f _ _ (by simp) hr) (ih fun a b ha => f a b (by simp [ha]))
theorem All2.append {α β : Type} {R : α → β → Prop} {l l' : List α} {m m' : List β} (h : All2 R l m) (h' : All2 R l' m') : All2 R (l ++ l') (m ++ m') := by
  induction h with
  | nil => exact h'
  | cons hr _ ih => exact .cons hr ih
theorem All2.get {α β : Type} {R : α → β → Prop} {l : List α} {m : List β} (h : All2 R l m) (j : Nat) (a : α) (ha : l[j]? = some a) : ∃ b, m[j]? = some b ∧ R a b := by
  induction h generalizing j with
  | nil => simp at ha
  | cons hr _ ih => cases j with
    | zero => simp only [List.getElem?_cons_zero, Option.some.injEq] at ha; subst ha; exact ⟨_, rfl, hr⟩
    | succ j => exact ih j (by simpa using ha)
theorem All2.take {α β : Type} {R : α → β → Prop} {l : List α} {m : List β} (h : All2 R l m) (n : Nat) : All2 R (l.take n) (m.take n) := by
  induction h generalizing n with
  | nil => simpa using All2.nil
  | cons hr _ ih => cases n with
    | zero => exact .nil
    | succ n => exact .cons hr (ih n)
theorem All2.drop {α β : Type} {R : α → β → Prop} {l : List α} {m : List β} (h : All2 R l m) (n : Nat) : All2 R (l.drop n) (m.drop n) := by
  induction h generalizing n with
  | nil => simpa using All2.nil
  | cons hr ht ih => cases n with
    | zero => exact .cons hr ht
    | succ n => exact ih n

/-! ### 1. Data in memory -/
/-- The cells from an address on. -/
def At (w : World) (ad : Addr) (cs : List Value) : Prop := ∀ t v, cs[t]? = some v → w.cell? ⟨ad.block, ad.off + t, none⟩ = some v
def shift (ad : Addr) (n : Nat) : Addr := ⟨ad.block, ad.off + n, none⟩
mutual
def RepC (F : Nat → Prop) (w : World) : K → D → List Value → Prop
  | .int k, x, cs => cs = [.int k x.int]
  | .bool, x, cs => cs = [.bool x.bool]
  | .str, x, cs => cs = [.string ⟨x.str.toArray⟩]
  | .slice _ k, x, cs => ∃ A c, cs = [.slice A x.list.length c] ∧ x.list.length ≤ c ∧ c ≤ maxLen ∧
      ∀ j y, x.list[j]? = some y → ∃ ad ds, A = some ad ∧ ad.spot = none ∧ F ad.block ∧ ad.block < w.heap.size ∧ RepC F w k y ds ∧ At w (shift ad (j * k.size)) ds
  | .unit, _, cs => cs = []
  | .pair _ k r, x, cs => ∃ c1 c2, cs = c1 ++ c2 ∧ RepC F w k (x.at' 0) c1 ∧ RepF F w r 1 x c2
  | .ptr, _, _ => False
  | .opq, _, _ => False
  | .map .., _, cs => cs = [.map none]
  | .pd _ k, x, cs => (x.list = [] ∧ cs = [.pointer none]) ∨ ∃ y l ad ds, x.list = y :: l ∧ cs = [.pointer (some ad)] ∧ ad.spot = none ∧ F ad.block ∧ ad.block < w.heap.size ∧ RepC F w k y ds ∧ At w ad ds
def RepF (F : Nat → Prop) (w : World) : K → Nat → D → List Value → Prop
  | .unit, _, _, cs => cs = []
  | .pair _ k r, j, x, cs => ∃ c1 c2, cs = c1 ++ c2 ∧ RepC F w k (x.at' j) c1 ∧ RepF F w r (j + 1) x c2
  | _, _, _, _ => False
end
theorem repC_pair (F : Nat → Prop) (w : World) (t : TypeId) (k r : K) (x : D) (cs : List Value) : RepC F w (.pair t k r) x cs = RepF F w (.pair t k r) 0 x cs := rfl
theorem rep_both (Q : K → List Value → Prop) (F : Nat → Prop) (w : World)
    (hint : ∀ k n, Q (.int k) [.int k n]) (hb : ∀ b, Q .bool [.bool b]) (hs : ∀ s, Q .str [.string s]) (hsl : ∀ e k A n c, Q (.slice e k) [.slice A n c])
    (hu : Q .unit []) (hp : ∀ t k r c1 c2, Q k c1 → Q r c2 → Q (.pair t k r) (c1 ++ c2)) (hmap : ∀ a b, Q (.map a b) [.map none]) (hpd : ∀ e k A, Q (.pd e k) [.pointer A]) (k : K) :
    (∀ x cs, RepC F w k x cs → Q k cs) ∧ (∀ j x cs, RepF F w k j x cs → Q k cs) := by
  induction k with
  | int k => exact ⟨fun x cs h => by simp only [RepC] at h; subst h; exact hint _ _, fun j x cs h => by simp [RepF] at h⟩
  | bool => exact ⟨fun x cs h => by simp only [RepC] at h; subst h; exact hb _, fun j x cs h => by simp [RepF] at h⟩
  | str => exact ⟨fun x cs h => by simp only [RepC] at h; subst h; exact hs _, fun j x cs h => by simp [RepF] at h⟩
  | slice e k ih =>
    refine ⟨fun x cs h => ?_, fun j x cs h => by simp [RepF] at h⟩
    simp only [RepC] at h
    obtain ⟨A, c, rfl, _⟩ := h
    exact hsl _ _ _ _ _
  | unit => exact ⟨fun x cs h => by simp only [RepC] at h; subst h; exact hu, fun j x cs h => by simp only [RepF] at h; subst h; exact hu⟩
  | pair t k r ihk ihr =>
    have hf : ∀ j x cs, RepF F w (.pair t k r) j x cs → Q (.pair t k r) cs := fun j x cs h => by
      simp only [RepF] at h
      obtain ⟨c1, c2, rfl, h1, h2⟩ := h
      exact hp _ _ _ _ _ (ihk.1 _ _ h1) (ihr.2 _ _ _ h2)
    exact ⟨fun x cs h => hf 0 x cs h, hf⟩
  | ptr => exact ⟨fun x cs h => by simp [RepC] at h, fun j x cs h => by simp [RepF] at h⟩
  | opq => exact ⟨fun x cs h => by simp [RepC] at h, fun j x cs h => by simp [RepF] at h⟩
  | map kt vt => exact ⟨fun x cs h => by simp only [RepC] at h; subst h; exact hmap _ _, fun j x cs h => by simp [RepF] at h⟩
  | pd e k ih =>
    refine ⟨fun x cs h => ?_, fun j x cs h => by simp [RepF] at h⟩
    simp only [RepC] at h
    rcases h with ⟨_, rfl⟩ | ⟨_, _, _, _, _, rfl, _⟩ <;> exact hpd _ _ _
section
variable {F F' : Nat → Prop} {w w' : World} {k : K} {x : D} {cs : List Value}
theorem rep_len (h : RepC F w k x cs) : cs.length = k.size :=
  (rep_both (fun k cs => cs.length = k.size) F w (fun _ _ => rfl) (fun _ => rfl) (fun _ => rfl) (fun _ _ _ _ _ => rfl) rfl (fun _ _ _ _ _ h1 h2 => by simp [K.size, h1, h2]) (fun _ _ => rfl) (fun _ _ _ => rfl) k).1 x cs h
theorem repF_len {j : Nat} (h : RepF F w k j x cs) : cs.length = k.size :=
  (rep_both (fun k cs => cs.length = k.size) F w (fun _ _ => rfl) (fun _ => rfl) (fun _ => rfl) (fun _ _ _ _ _ => rfl) rfl (fun _ _ _ _ _ h1 h2 => by simp [K.size, h1, h2]) (fun _ _ => rfl) (fun _ _ _ => rfl) k).2 j x cs h
theorem rep_one (h : RepC F w k x cs) : ∀ u ∈ cs, u.oneCell' = true :=
  (rep_both (fun _ cs => ∀ u ∈ cs, u.oneCell' = true) F w (fun _ _ => by simp [Value.oneCell']) (fun _ => by simp [Value.oneCell']) (fun _ => by simp [Value.oneCell']) (fun _ _ _ _ _ => by simp [Value.oneCell']) (by simp)
    (fun _ _ _ _ _ h1 h2 u hu => (List.mem_append.1 hu).elim (h1 u) (h2 u)) (fun _ _ => by simp [Value.oneCell']) (fun _ _ _ => by simp [Value.oneCell']) k).1 x cs h
theorem At.mono {ad : Addr} {ds : List Value} (h : At w ad ds) (hw : w'.heap[ad.block]? = w.heap[ad.block]?) : At w' ad ds := fun t v hv => by
  have := h t v hv
  rw [World.cell?] at this ⊢
  simpa [hw] using this
/-- The cells of a block are what they were. -/
def CellsEq (w w' : World) (b : Nat) : Prop := ∀ o, w'.cell? ⟨b, o, none⟩ = w.cell? ⟨b, o, none⟩
theorem CellsEq.of {w w' : World} {b : Nat} (h : w'.heap[b]? = w.heap[b]?) : CellsEq w w' b := fun o => by simp [World.cell?, h]
theorem At.mono' {ad : Addr} {ds : List Value} (h : At w ad ds) (hw : CellsEq w w' ad.block) : At w' ad ds := fun t v hv => (hw _).trans (h t v hv)
theorem rep_mono' (hF : ∀ b, F b → b < w.heap.size → F' b ∧ CellsEq w w' b) (hs : w.heap.size ≤ w'.heap.size) (k : K) :
    (∀ x cs, RepC F w k x cs → RepC F' w' k x cs) ∧ (∀ j x cs, RepF F w k j x cs → RepF F' w' k j x cs) := by
  induction k with
  | int k => exact ⟨fun x cs h => by simpa only [RepC] using h, fun j x cs h => by simp [RepF] at h⟩
  | bool => exact ⟨fun x cs h => by simpa only [RepC] using h, fun j x cs h => by simp [RepF] at h⟩
  | str => exact ⟨fun x cs h => by simpa only [RepC] using h, fun j x cs h => by simp [RepF] at h⟩
  | slice e k ih =>
    refine ⟨fun x cs h => ?_, fun j x cs h => by simp [RepF] at h⟩
    simp only [RepC] at h ⊢
    obtain ⟨A, c, rfl, h1, h2, h3⟩ := h
    refine ⟨A, c, rfl, h1, h2, fun j y hy => ?_⟩
    obtain ⟨ad, ds, hA, hsp, hb, hlt, hr, hat⟩ := h3 j y hy
    exact ⟨ad, ds, hA, hsp, (hF _ hb hlt).1, Nat.lt_of_lt_of_le hlt hs, ih.1 _ _ hr, At.mono' (ad := shift ad (j * k.size)) hat (hF _ hb hlt).2⟩
  | unit => exact ⟨fun x cs h => by simpa only [RepC] using h, fun j x cs h => by simpa only [RepF] using h⟩
  | pair t k r ihk ihr =>
    have hf : ∀ j x cs, RepF F w (.pair t k r) j x cs → RepF F' w' (.pair t k r) j x cs := fun j x cs h => by
      simp only [RepF] at h ⊢
      obtain ⟨c1, c2, rfl, h1, h2⟩ := h
      exact ⟨c1, c2, rfl, ihk.1 _ _ h1, ihr.2 _ _ _ h2⟩
    exact ⟨fun x cs h => hf 0 x cs h, hf⟩
  | ptr => exact ⟨fun x cs h => by simp [RepC] at h, fun j x cs h => by simp [RepF] at h⟩
  | opq => exact ⟨fun x cs h => by simp [RepC] at h, fun j x cs h => by simp [RepF] at h⟩
  | map kt vt => exact ⟨fun x cs h => by simpa only [RepC] using h, fun j x cs h => by simp [RepF] at h⟩
  | pd e k ih =>
    refine ⟨fun x cs h => ?_, fun j x cs h => by simp [RepF] at h⟩
    simp only [RepC] at h ⊢
    rcases h with h | ⟨y, l, ad, ds, h1, h2, h3, hb, hlt, hr, hat⟩
    · exact .inl h
    · exact .inr ⟨y, l, ad, ds, h1, h2, h3, (hF _ hb hlt).1, Nat.lt_of_lt_of_le hlt hs, ih.1 _ _ hr, hat.mono' (hF _ hb hlt).2⟩
theorem rep_mono (hF : ∀ b, F b → b < w.heap.size → F' b ∧ w'.heap[b]? = w.heap[b]?) (hs : w.heap.size ≤ w'.heap.size) (k : K) :
    (∀ x cs, RepC F w k x cs → RepC F' w' k x cs) ∧ (∀ j x cs, RepF F w k j x cs → RepF F' w' k j x cs) :=
  rep_mono' (fun b hb hlt => ⟨(hF b hb hlt).1, .of (hF b hb hlt).2⟩) hs k
/-- Kinds without memory do not ask which blocks. -/
theorem rep_flat (hk : k.flat = true) : (∀ x cs, RepC F w k x cs → RepC F' w' k x cs) ∧ (∀ j x cs, RepF F w k j x cs → RepF F' w' k j x cs) := by
  induction k with
  | int k => exact ⟨fun x cs h => by simpa only [RepC] using h, fun j x cs h => by simp [RepF] at h⟩
  | bool => exact ⟨fun x cs h => by simpa only [RepC] using h, fun j x cs h => by simp [RepF] at h⟩
  | str => exact ⟨fun x cs h => by simpa only [RepC] using h, fun j x cs h => by simp [RepF] at h⟩
  | slice e k ih => simp [K.flat] at hk
  | unit => exact ⟨fun x cs h => by simpa only [RepC] using h, fun j x cs h => by simpa only [RepF] using h⟩
  | pair t k r ihk ihr =>
    simp only [K.flat, Bool.and_eq_true] at hk
    have hf : ∀ j x cs, RepF F w (.pair t k r) j x cs → RepF F' w' (.pair t k r) j x cs := fun j x cs h => by
      simp only [RepF] at h ⊢
      obtain ⟨c1, c2, rfl, h1, h2⟩ := h
      exact ⟨c1, c2, rfl, (ihk hk.1).1 _ _ h1, (ihr hk.2).2 _ _ _ h2⟩
    exact ⟨fun x cs h => hf 0 x cs h, hf⟩
  | ptr => simp [K.flat] at hk
  | opq => simp [K.flat] at hk
  | map kt vt => simp [K.flat] at hk
  | pd e k ih => simp [K.flat] at hk
end

/-! ### 2. Objects and values -/
/-- What stands for an object: the value by which it is reached, and the type of its variable or of its elements. -/
structure Hd where
  v : Value
  t : TypeId
def blk : Value → Option Nat
  | .slice (some a) _ _ => some a.block
  | .pointer (some a) => some a.block
  | .map (some r) => some r
  | _ => none
structure Ctx where
  kd : TypeId → Option K
  F : Bool → Nat → Prop
  w : World
  σ : Nat → Hd
/-- Where a path of fields leads: how many cells on, and the type there. -/
def poff (kd : TypeId → Option K) : TypeId → List Nat → Option (Nat × TypeId)
  | t, [] => some (0, t)
  | t, j :: p => match kd t with
    | some k => match k.fld j with
      | some (tj, _) => match poff kd tj p with
        | some (o, u) => some (k.off j + o, u)
        | none => none
      | none => none
    | none => none
def sizeT (kd : TypeId → Option K) (t : TypeId) : Nat := match kd t with | some k => k.size | none => 1
/-- The kind of an abstract value, where it could be data. -/
def AV.aggB (kd : TypeId → Option K) : AV → Bool
  | .d t _ _ => match kd t with | some k => k.agg | none => false
  | .agg _ _ => true
  | _ => false
/-- Does a value stand at a place of this type? -/
def AV.fits (kd : TypeId → Option K) (a : AV) (t : TypeId) : Prop :=
  match kd t with
  | some .ptr => ∃ u i p, a = .ptr u i p ∨ a = .nilp ∨ (∃ j, a = .optr u i j p) ∨ (∃ fr x, a = .cptr u fr x) ∨ ∃ fr v, a = .bx u fr v
  | some .opq => ∃ g caps, a = .fn g caps
  | none => False
  | _ => a.ty = some t
def aggV : Value → Bool | .agg _ => true | _ => false
theorem agg_one {v : Value} (h : v.oneCell' = true) : aggV v = false := by cases v <;> first | rfl | simp [Value.oneCell'] at h
mutual
def CRel (C : Ctx) : AV → List Value → Prop
  | .undef, cs => cs = [undef]
  | .d t fr x, cs => ∃ k, C.kd t = some k ∧ RepC (C.F fr) C.w k x cs
  | .nil t, cs => cs = [.slice none 0 0] ∧ ∃ e k, C.kd t = some (.slice e k)
  | .own t i, cs => cs = [(C.σ i).v] ∧ (C.σ i).v.oneCell' = true ∧ ((∃ k, C.kd t = some (.slice (C.σ i).t k)) ∨ ∃ kt vt r, C.kd t = some (.map kt vt) ∧ (C.σ i).t = t ∧ (C.σ i).v = .map (some r))
  | .cptr t fr x, cs => ∃ k ad ds, C.kd t = some k ∧ cs = [.pointer (some ad)] ∧ ad.spot = none ∧ C.F fr ad.block ∧ ad.block < C.w.heap.size ∧ RepC (C.F fr) C.w k x ds ∧ At C.w ad ds
  | .bx t fr v, cs => ∃ ad ds, cs = [.pointer (some ad)] ∧ ad.spot = none ∧ C.F fr ad.block ∧ ad.block < C.w.heap.size ∧ ds.length = sizeT C.kd t ∧ v.fits C.kd t ∧ CRel C v ds ∧ At C.w ad ds
  | .optr t i j p, cs => ∃ g n c o, (C.σ i).v = .slice (some ⟨g, 0, none⟩) n c ∧ 0 ≤ j ∧ j < n ∧ poff C.kd (C.σ i).t p = some (o, t) ∧ cs = [.pointer (some ⟨g, j.toNat * sizeT C.kd (C.σ i).t + o, none⟩)]
  | .ptr t i p, cs => ∃ g o, (C.σ i).v = .pointer (some ⟨g, 0, none⟩) ∧ poff C.kd (C.σ i).t p = some (o, t) ∧ cs = [.pointer (some ⟨g, o, none⟩)]
  | .nilp, cs => cs = [.pointer none]
  | .agg t fs, cs => ∃ k, C.kd t = some k ∧ k.agg = true ∧ CRels C k fs cs
  | .fn g caps, cs => ∃ vs, cs = [.func (.func g) #[] vs.toArray] ∧ CRelL C caps vs
  | .tup _, _ => False
  | .w .., _ => False
def CRels (C : Ctx) : K → List AV → List Value → Prop
  | .unit, [], cs => cs = []
  | .pair t k r, a :: fs, cs => ∃ c1 c2, cs = c1 ++ c2 ∧ c1.length = k.size ∧ a.fits C.kd t ∧ CRel C a c1 ∧ CRels C r fs c2
  | _, _, _ => False
def CRelL (C : Ctx) : List AV → List Value → Prop
  | [], vs => vs = []
  | a :: l, vs => ∃ v r, vs = v :: r ∧ a.aggB C.kd = false ∧ CRel C a [v] ∧ CRelL C l r
end
/-- A value in a slot (no tuple). -/
def V1 (C : Ctx) (a : AV) (v : Value) : Prop := CRel C a v.cells.toList ∧ aggV v = a.aggB C.kd
def VRel (C : Ctx) : AV → Value → Prop
  | .tup xs, v => ∃ vs, v = .tuple vs.toArray ∧ All2 (V1 C) xs vs
  | a, v => V1 C a v
/-- An entry of a map. -/
def EntRel (F : Nat → Prop) (w : World) (kk kv : K) (x : D) (e : MapEntry) : Prop := RepC F w kk (x.at' 0) [e.key] ∧ RepC F w kv (x.at' 1) e.val.cells.toList ∧ aggV e.val = kv.agg
def ORel (C : Ctx) : AO → Hd → Prop
  | .map t fr xs, h => h.t = t ∧ ∃ kt vt kk kv r es clock, C.kd t = some (.map kt vt) ∧ C.kd kt = some kk ∧ C.kd vt = some kv ∧ kk.key = true ∧ h.v = .map (some r) ∧ C.w.heap[r]? = some (.map es clock) ∧ All2 (EntRel (C.F fr) C.w kk kv) xs es.toList
  | .row e fr xs, h => h.t = e ∧ ∃ k css, C.kd e = some k ∧ All2 (RepC (C.F fr) C.w k) xs css ∧ C.w.ownsRow 0 e k.size h.v xs.length css.flatten
  | .box t a, h => h.t = t ∧ ∃ g cs, h.v = .pointer (some ⟨g, 0, none⟩) ∧ C.w.heap[g]? = some (.cells cs.toArray t (0, 0)) ∧ cs.length = sizeT C.kd t ∧ a.fits C.kd t ∧ CRel C a cs

/-! ### 3. States -/
structure Ent where
  w0 : World
  G : Nat → Prop    -- what may be read
  N : Nat → Prop    -- what may be read and counts as made by the call
  T0 : Nat → Prop   -- what was handed over
  d0 : List Deferred := []   -- the deferred calls at the beginning
abbrev HpF := Nat → Option AO
/-- Blocks of which nothing is tracked, and that may be read. -/
def fF (E : Ent) (hp : HpF) (σ : Nat → Hd) (fr : Bool) (b : Nat) : Prop :=
  (∀ i o, hp i = some o → blk (σ i).v ≠ some b) ∧ (E.w0.heap.size ≤ b ∨ E.T0 b ∨ E.N b ∨ (fr = false ∧ E.G b))
def ctx (kd : TypeId → Option K) (E : Ent) (hp : HpF) (σ : Nat → Hd) (w : World) : Ctx := { kd, F := fF E hp σ, w, σ }
def SlotRel (C : Ctx) (tmps : Array Value) (t : Nat) : AV → Prop
  | .w _ _ c a => (c = true → ∃ v, tmps[t]? = some v ∧ VRel C a v) ∧ (c = false → tmps[t]? = some undef)
  | a => ∃ v, tmps[t]? = some v ∧ VRel C a v
mutual
def AV.In (U : Nat → Prop) : AV → Prop
  | .own _ i | .optr _ i _ _ | .ptr _ i _ => U i
  | .agg _ fs | .fn _ fs | .tup fs => AV.Ins U fs
  | .w _ _ c a => c = true → a.In U
  | .bx _ _ a => a.In U
  | _ => True
def AV.Ins (U : Nat → Prop) : List AV → Prop
  | [] => True
  | a :: l => a.In U ∧ AV.Ins U l
end
def AO.In (U : Nat → Prop) : AO → Prop
  | .box _ a => a.In U
  | .row .. => True
  | .map .. => True
/-- The world has grown; of what was there the blocks of T0 alone may have turned. -/
structure Grew (w0 w : World) (T0 : Nat → Prop) : Prop where
  os : w.os = w0.os
  tape : w.tape = w0.tape
  output : w.output = w0.output
  size : w0.heap.size ≤ w.heap.size
  block : ∀ b, b < w0.heap.size → ¬ T0 b → w.heap[b]? = w0.heap[b]?
/-- Nothing of it is tracked. -/
def untr (hp : HpF) (σ : Nat → Hd) (b : Nat) : Prop := ∀ i o, hp i = some o → blk (σ i).v ≠ some b
/-- Marks of ranges over functions, each of a block of its own that nobody else looks at. -/
def Marks (un : Nat → Prop) (n0 : Nat) (w : World) : List Deferred → Prop
  | [] => True
  | d :: ds => (∃ r, d.target = .collected r ∧ n0 ≤ r ∧ r < w.heap.size ∧ w.heap[r]? = some (.deferred (some [])) ∧ un r ∧ ∀ d' ∈ ds, d'.target ≠ .collected r) ∧ Marks un n0 w ds
theorem Marks.mono {un un' : Nat → Prop} {n0 n1 : Nat} {w w' : World} (hn : n1 ≤ n0) (hs : w.heap.size ≤ w'.heap.size) (hu : ∀ r, n0 ≤ r → r < w.heap.size → un r → w.heap[r]? = some (.deferred (some [])) → un' r ∧ w'.heap[r]? = w.heap[r]?) : ∀ {ds : List Deferred}, Marks un n0 w ds → Marks un' n1 w' ds
  | [], _ => trivial
  | d :: ds, ⟨⟨r, h1, h2, h3, h4, h5, h6⟩, h7⟩ => ⟨⟨r, h1, by omega, by omega, by rw [(hu r h2 h3 h5 h4).2]; exact h4, (hu r h2 h3 h5 h4).1, h6⟩, Marks.mono hn hs hu h7⟩
theorem Marks.app {un : Nat → Prop} {n0 n1 : Nat} {w : World} (hn : n0 ≤ n1) : ∀ {ds es : List Deferred}, Marks un n1 w ds → Marks un n0 w es → (∀ e ∈ es, ∀ r, e.target = .collected r → r < n1) → Marks un n0 w (ds ++ es)
  | [], _, _, h, _ => h
  | d :: ds, es, ⟨⟨r, h1, h2, h3, h4, h5, h6⟩, h7⟩, h, hlt => ⟨⟨r, h1, by omega, h3, h4, h5, fun d' hd' e => by
      rcases List.mem_append.1 hd' with hd' | hd'
      · exact h6 d' hd' e
      · have := hlt d' hd' r e
        omega⟩, Marks.app hn h7 h hlt⟩
theorem Marks.lt {un : Nat → Prop} {n0 : Nat} {w : World} : ∀ {ds : List Deferred}, Marks un n0 w ds → ∀ e ∈ ds, ∀ r, e.target = .collected r → n0 ≤ r ∧ r < w.heap.size
  | d :: ds, ⟨⟨r, h1, h2, h3, _⟩, h7⟩, e, he, r', hr => by
    rcases List.mem_cons.1 he with rfl | he
    · rw [h1] at hr; cases hr; exact ⟨h2, h3⟩
    · exact Marks.lt h7 e he r' hr
structure SRel (kd : TypeId → Option K) (E : Ent) (U : Nat → Prop) (lks : Nat → Option AV) (hp : HpF) (σ : Nat → Hd) (a : Act) (w : World) : Prop where
  slot : ∀ t av, lks t = some av → SlotRel (ctx kd E hp σ w) a.tmps t av ∧ av.In U
  obj : ∀ i o, hp i = some o → ORel (ctx kd E hp σ w) o (σ i) ∧ U i ∧ o.In U
  inj : ∀ i j oi oj b, hp i = some oi → hp j = some oj → i ≠ j → blk (σ i).v = some b → blk (σ j).v ≠ some b
  trk : ∀ i o b, hp i = some o → blk (σ i).v = some b → b < w.heap.size ∧ (E.w0.heap.size ≤ b ∨ E.T0 b)
  grew : Grew E.w0 w E.T0
  defers : ∃ ds, a.defers = ds ++ E.d0 ∧ Marks (untr hp σ) E.w0.heap.size w ds

theorem SRel.d0 {kd : TypeId → Option K} {E : Ent} {U : Nat → Prop} {lks : Nat → Option AV} {hp : HpF} {σ : Nat → Hd} {tmps : Array Value} {w : World} (h : SRel kd E U lks hp σ { tmps := tmps, defers := [] } w) : E.d0 = [] := by
  obtain ⟨ds, h1, _⟩ := h.defers
  cases ds with
  | nil => exact h1.symm
  | cons d ds => cases h1

/-! ### 4. What stays true -/
structure CLe (C C' : Ctx) (U : Nat → Prop) : Prop where
  kd : C'.kd = C.kd
  F : ∀ fr b, C.F fr b → b < C.w.heap.size → C'.F fr b ∧ CellsEq C.w C'.w b
  size : C.w.heap.size ≤ C'.w.heap.size
  σ : ∀ i, U i → C'.σ i = C.σ i
section
variable {C C' : Ctx} {U : Nat → Prop}
theorem CLe.rep (h : CLe C C' U) {fr : Bool} {k : K} {x : D} {cs : List Value} (hr : RepC (C.F fr) C.w k x cs) : RepC (C'.F fr) C'.w k x cs :=
  (rep_mono' (fun b hb hlt => h.F fr b hb hlt) h.size k).1 x cs hr
mutual
theorem crel_mono (h : CLe C C' U) : ∀ (a : AV) (cs : List Value), a.In U → CRel C a cs → CRel C' a cs
  | .undef, cs, _, hr => hr
  | .d t fr x, cs, _, hr => by
    simp only [CRel] at hr ⊢
    obtain ⟨k, hk, hr⟩ := hr
    exact ⟨k, by rw [h.kd]; exact hk, h.rep hr⟩
  | .nil t, cs, _, hr => by simpa only [CRel, h.kd] using hr
  | .own t i, cs, hi, hr => by
    simp only [AV.In] at hi
    simpa only [CRel, h.kd, h.σ i hi] using hr
  | .cptr t fr x, cs, _, hr => by
    simp only [CRel] at hr ⊢
    obtain ⟨k, ad, ds, hk, hc, hsp, hF, hlt, hr, hat⟩ := hr
    exact ⟨k, ad, ds, by rw [h.kd]; exact hk, hc, hsp, (h.F _ _ hF hlt).1, Nat.lt_of_lt_of_le hlt h.size, h.rep hr, hat.mono' (h.F _ _ hF hlt).2⟩
  | .bx t fr v, cs, hi, hr => by
    simp only [AV.In] at hi
    simp only [CRel] at hr ⊢
    obtain ⟨ad, ds, hc, hsp, hF, hlt, hl, hf, hr, hat⟩ := hr
    exact ⟨ad, ds, hc, hsp, (h.F _ _ hF hlt).1, Nat.lt_of_lt_of_le hlt h.size, by rw [h.kd]; exact hl, by rw [h.kd]; exact hf, crel_mono h v ds hi hr, hat.mono' (h.F _ _ hF hlt).2⟩
  | .optr t i j p, cs, hi, hr => by
    simp only [AV.In] at hi
    simpa only [CRel, h.kd, h.σ i hi] using hr
  | .ptr t i p, cs, hi, hr => by
    simp only [AV.In] at hi
    simpa only [CRel, h.kd, h.σ i hi] using hr
  | .nilp, cs, _, hr => hr
  | .agg t fs, cs, hi, hr => by
    simp only [AV.In] at hi
    simp only [CRel] at hr ⊢
    obtain ⟨k, hk, hg, hr⟩ := hr
    exact ⟨k, by rw [h.kd]; exact hk, hg, crels_mono h fs k cs hi hr⟩
  | .fn g caps, cs, hi, hr => by
    simp only [AV.In] at hi
    simp only [CRel] at hr ⊢
    obtain ⟨vs, hc, hr⟩ := hr
    exact ⟨vs, hc, crelL_mono h caps vs hi hr⟩
  | .tup _, cs, _, hr => hr
  | .w .., cs, _, hr => hr
theorem crels_mono (h : CLe C C' U) : ∀ (fs : List AV) (k : K) (cs : List Value), AV.Ins U fs → CRels C k fs cs → CRels C' k fs cs
  | [], k, cs, _, hr => by cases k <;> first | exact hr | simp [CRels] at hr
  | a :: fs, k, cs, hi, hr => by
    cases k with
    | pair t k r =>
      simp only [AV.Ins] at hi
      simp only [CRels] at hr ⊢
      obtain ⟨c1, c2, hc, hl, hfit, h1, h2⟩ := hr
      exact ⟨c1, c2, hc, hl, by rw [h.kd]; exact hfit, crel_mono h a c1 hi.1 h1, crels_mono h fs r c2 hi.2 h2⟩
    | _ => simp [CRels] at hr
theorem crelL_mono (h : CLe C C' U) : ∀ (l : List AV) (vs : List Value), AV.Ins U l → CRelL C l vs → CRelL C' l vs
  | [], vs, _, hr => hr
  | a :: l, vs, hi, hr => by
    simp only [AV.Ins] at hi
    simp only [CRelL] at hr ⊢
    obtain ⟨v, r, hv, hg, h1, h2⟩ := hr
    exact ⟨v, r, hv, by rw [h.kd]; exact hg, crel_mono h a [v] hi.1 h1, crelL_mono h l r hi.2 h2⟩
end
theorem v1_mono (h : CLe C C' U) {a : AV} {v : Value} (hi : a.In U) (hr : V1 C a v) : V1 C' a v := ⟨crel_mono h a _ hi hr.1, by rw [h.kd]; exact hr.2⟩
theorem ins_mem : ∀ (l : List AV), AV.Ins U l → ∀ a ∈ l, a.In U
  | [], _, a, ha => by simp at ha
  | b :: l, hi, a, ha => by
    simp only [AV.Ins] at hi
    rcases List.mem_cons.1 ha with rfl | ha
    · exact hi.1
    · exact ins_mem l hi.2 a ha
theorem vrel_mono (h : CLe C C' U) {a : AV} {v : Value} (hi : a.In U) (hr : VRel C a v) : VRel C' a v := by
  cases a with
  | tup xs =>
    simp only [AV.In] at hi
    simp only [VRel] at hr ⊢
    obtain ⟨vs, hv, hr⟩ := hr
    exact ⟨vs, hv, hr.imp fun a b ha hab => v1_mono h (ins_mem xs hi a ha) hab⟩
  | _ => exact v1_mono h hi hr
theorem slot_mono (h : CLe C C' U) {tmps : Array Value} {t : Nat} {a : AV} (hi : a.In U) (hr : SlotRel C tmps t a) : SlotRel C' tmps t a := by
  cases a with
  | w s b c a =>
    simp only [AV.In] at hi
    simp only [SlotRel] at hr ⊢
    exact ⟨fun hc => let ⟨v, h1, h2⟩ := hr.1 hc; ⟨v, h1, vrel_mono h (hi hc) h2⟩, hr.2⟩
  | _ => exact let ⟨v, h1, h2⟩ := hr; ⟨v, h1, vrel_mono h hi h2⟩
/-- An object whose block has not turned. -/
theorem orel_mono (h : CLe C C' U) {o : AO} {hd : Hd} (hi : o.In U) (hb : ∀ b, blk hd.v = some b → b < C.w.heap.size → C'.w.heap[b]? = C.w.heap[b]?) (hr : ORel C o hd) : ORel C' o hd := by
  cases o with
  | row e fr xs =>
    simp only [ORel] at hr ⊢
    obtain ⟨ht, k, css, hk, hc, ho⟩ := hr
    refine ⟨ht, k, css, by rw [h.kd]; exact hk, hc.imp fun a b _ hab => h.rep hab, ?_⟩
    refine ⟨ho.1, ?_⟩
    rcases ho.2 with hn | ⟨g, cap, cur, hv, h0, hh, rest⟩
    · exact .inl hn
    · exact .inr ⟨g, cap, cur, hv, h0, by rw [hb g (by rw [hv]; rfl) (Array.getElem?_eq_some_iff.1 hh).1]; exact hh, rest⟩
  | box t a =>
    simp only [AO.In] at hi
    simp only [ORel] at hr ⊢
    obtain ⟨ht, g, cs, hv, hh, hl, hf, hc⟩ := hr
    exact ⟨ht, g, cs, hv, by rw [hb g (by rw [hv]; rfl) (Array.getElem?_eq_some_iff.1 hh).1]; exact hh, by rw [h.kd]; exact hl, by rw [h.kd]; exact hf, crel_mono h a cs hi hc⟩
  | map t fr xs =>
    simp only [ORel] at hr ⊢
    obtain ⟨ht, kt, vt, kk, kv, r, es, clock, h1, h2, h3, h4, hv, hh, hall⟩ := hr
    exact ⟨ht, kt, vt, kk, kv, r, es, clock, by rw [h.kd]; exact h1, by rw [h.kd]; exact h2, by rw [h.kd]; exact h3, h4, hv, by rw [hb r (by rw [hv]; rfl) (Array.getElem?_eq_some_iff.1 hh).1]; exact hh, hall.imp fun a b _ hab => ⟨h.rep hab.1, h.rep hab.2.1, hab.2.2⟩⟩
end
mutual
theorem AV.In.imp {U V : Nat → Prop} (h : ∀ i, U i → V i) : ∀ (a : AV), a.In U → a.In V
  | .own _ i, hi => h i hi
  | .optr _ i _ _, hi => h i hi
  | .ptr _ i _, hi => h i hi
  | .agg _ fs, hi => AV.Ins.imp h fs hi
  | .fn _ fs, hi => AV.Ins.imp h fs hi
  | .tup fs, hi => AV.Ins.imp h fs hi
  | .w _ _ _ a, hi => fun hc => AV.In.imp h a (hi hc)
  | .bx _ _ a, hi => AV.In.imp h (U := U) a hi
  | .undef, _ | .d .., _ | .nil _, _ | .cptr .., _ | .nilp, _ => trivial
theorem AV.Ins.imp {U V : Nat → Prop} (h : ∀ i, U i → V i) : ∀ (l : List AV), AV.Ins U l → AV.Ins V l
  | [], _ => trivial
  | a :: l, hi => ⟨AV.In.imp h a hi.1, AV.Ins.imp h l hi.2⟩
end
theorem AO.In.imp {U V : Nat → Prop} (h : ∀ i, U i → V i) : ∀ (o : AO), o.In U → o.In V
  | .box _ a, hi => AV.In.imp h a hi
  | .row .., _ => trivial
  | .map .., _ => trivial
theorem Grew.refl (w : World) (T0 : Nat → Prop) : Grew w w T0 := ⟨rfl, rfl, rfl, Nat.le_refl _, fun _ _ _ => rfl⟩

/-- THE STEP: the world turns in blocks of some objects ('chg') alone; what is new is told. -/
theorem SRel.update {kd : TypeId → Option K} {E : Ent} {U : Nat → Prop} {lks : Nat → Option AV} {hp : HpF} {σ : Nat → Hd} {a : Act} {w : World} (h : SRel kd E U lks hp σ a w)
    {U' : Nat → Prop} {hp' : HpF} {σ' : Nat → Hd} {w' : World} (chg : Nat → Prop)
    (hU : ∀ i, U i → U' i) (hσ : ∀ i, U i → σ' i = σ i)
    (hos : w'.os = w.os) (htape : w'.tape = w.tape) (hout : w'.output = w.output) (hsz : w.heap.size ≤ w'.heap.size)
    (hblk : ∀ b, b < w.heap.size → (∀ i o, hp i = some o → chg i → blk (σ i).v ≠ some b) → w'.heap[b]? = w.heap[b]?)
    (hkeep : ∀ i, ¬ chg i → hp' i = hp i)
    (hnew : ∀ i o, chg i → hp' i = some o → U' i ∧ o.In U' ∧
      (∀ b, blk (σ' i).v = some b → b < w'.heap.size ∧ (w.heap.size ≤ b ∨ ∃ j oj, hp j = some oj ∧ chg j ∧ blk (σ j).v = some b)) ∧
      (CLe (ctx kd E hp σ w) (ctx kd E hp' σ' w') U → ORel (ctx kd E hp' σ' w') o (σ' i)))
    (hinj : ∀ i j oi oj b, chg i → chg j → hp' i = some oi → hp' j = some oj → i ≠ j → blk (σ' i).v = some b → blk (σ' j).v ≠ some b) :
    SRel kd E U' lks hp' σ' a w' ∧ CLe (ctx kd E hp σ w) (ctx kd E hp' σ' w') U := by
  have tracked : ∀ i o b, hp' i = some o → blk (σ' i).v = some b → b < w.heap.size → ∃ j oj, hp j = some oj ∧ blk (σ j).v = some b := fun i o b ho hb hlt => by
    by_cases hc : chg i
    · rcases ((hnew i o hc ho).2.2.1 b hb).2 with hge | ⟨j, oj, h1, _, h3⟩
      · omega
      · exact ⟨j, oj, h1, h3⟩
    · rw [hkeep i hc] at ho
      rw [hσ i (h.obj i o ho).2.1] at hb
      exact ⟨i, o, ho, hb⟩
  have cle : CLe (ctx kd E hp σ w) (ctx kd E hp' σ' w') U := by
    refine ⟨rfl, fun fr b hF hlt => ?_, hsz, hσ⟩
    obtain ⟨h1, h2⟩ := hF
    refine ⟨⟨fun i o ho hb => ?_, h2⟩, .of (hblk b hlt fun i o ho _ => h1 i o ho)⟩
    obtain ⟨j, oj, hj, hjb⟩ := tracked i o b ho hb hlt
    exact h1 j oj hj hjb
  refine ⟨⟨fun t av ht => ?_, fun i o ho => ?_, fun i j oi oj b hi hj hne hb hb' => ?_, fun i o b ho hb => ?_, ?_, ?_⟩, cle⟩
  · obtain ⟨h1, h2⟩ := h.slot t av ht
    exact ⟨slot_mono cle h2 h1, AV.In.imp hU av h2⟩
  · by_cases hc : chg i
    · obtain ⟨h1, h2, _, h4⟩ := hnew i o hc ho
      exact ⟨h4 cle, h1, h2⟩
    · rw [hkeep i hc] at ho
      obtain ⟨h1, h2, h3⟩ := h.obj i o ho
      refine ⟨?_, hU i h2, AO.In.imp hU o h3⟩
      rw [hσ i h2]
      exact orel_mono cle h3 (fun b hb hlt => hblk b hlt fun j oj hj hcj hbj => h.inj i j o oj b ho hj (fun e => hc (e ▸ hcj)) hb hbj) h1
  · by_cases hc : chg i
    · by_cases hc' : chg j
      · exact hinj i j oi oj b hc hc' hi hj hne hb hb'
      · rw [hkeep j hc'] at hj
        rw [hσ j (h.obj j oj hj).2.1] at hb'
        rcases ((hnew i oi hc hi).2.2.1 b hb).2 with hge | ⟨q, oq, h1, h2, h3⟩
        · have := (h.trk j oj b hj hb').1
          omega
        · exact h.inj q j oq oj b h1 hj (fun e => hc' (e ▸ h2)) h3 hb'
    · rw [hkeep i hc] at hi
      rw [hσ i (h.obj i oi hi).2.1] at hb
      by_cases hc' : chg j
      · rcases ((hnew j oj hc' hj).2.2.1 b hb').2 with hge | ⟨q, oq, h1, h2, h3⟩
        · have := (h.trk i oi b hi hb).1
          omega
        · exact h.inj q i oq oi b h1 hi (fun e => hc (e ▸ h2)) h3 hb
      · rw [hkeep j hc'] at hj
        rw [hσ j (h.obj j oj hj).2.1] at hb'
        exact h.inj i j oi oj b hi hj hne hb hb'
  · by_cases hc : chg i
    · obtain ⟨h1, h2⟩ := (hnew i o hc ho).2.2.1 b hb
      refine ⟨h1, ?_⟩
      rcases h2 with hge | ⟨q, oq, h3, _, h5⟩
      · exact .inl (Nat.le_trans h.grew.size hge)
      · exact (h.trk q oq b h3 h5).2
    · rw [hkeep i hc] at ho
      rw [hσ i (h.obj i o ho).2.1] at hb
      exact ⟨Nat.lt_of_lt_of_le (h.trk i o b ho hb).1 hsz, (h.trk i o b ho hb).2⟩
  · refine ⟨hos.trans h.grew.os, htape.trans h.grew.tape, hout.trans h.grew.output, Nat.le_trans h.grew.size hsz, fun b hb hn => ?_⟩
    rw [hblk b (Nat.lt_of_lt_of_le hb h.grew.size) fun i o ho _ hbi => ?_]
    · exact h.grew.block b hb hn
    · rcases (h.trk i o b ho hbi).2 with hge | ht
      · omega
      · exact hn ht
  · obtain ⟨ds, hd1, hd2⟩ := h.defers
    refine ⟨ds, hd1, hd2.mono (Nat.le_refl _) hsz fun r _ hlt hun _ => ⟨fun i o ho hb => ?_, hblk r hlt fun i o ho _ => hun i o ho⟩⟩
    obtain ⟨j, oj, hj, hjb⟩ := tracked i o r ho hb hlt
    exact hun j oj hj hjb
/-- The world has grown, nothing that was there has turned. -/
theorem SRel.grow {kd : TypeId → Option K} {E : Ent} {U : Nat → Prop} {lks : Nat → Option AV} {hp : HpF} {σ : Nat → Hd} {a : Act} {w w' : World} (h : SRel kd E U lks hp σ a w)
    (hg : Grew w w' fun _ => False) : SRel kd E U lks hp σ a w' ∧ CLe (ctx kd E hp σ w) (ctx kd E hp σ w') U :=
  h.update (fun _ => False) (fun _ h => h) (fun _ _ => rfl) hg.os hg.tape hg.output hg.size (fun b hb _ => hg.block b hb (fun h => h)) (fun _ _ => rfl) (fun _ _ hc => hc.elim) (fun _ _ _ _ _ hc => hc.elim)
end Go.Ev
