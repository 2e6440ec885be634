/- The evaluator: what is asked of the table of types, and what the machine says of them. -/
import Derived.Test.YtpmkecjkbajcgaaGreatDoorEvRel
import Derived.Laws.StructEq
import Derived.ChangeKeysEq
namespace Go.Ev
open Go
set_option linter.unusedSimpArgs false
set_option linter.unusedVariables false

section
variable {e : TypeId} {ke : K}
theorem arrK_agg : ∀ n, (K.arrK e ke n).agg = true
  | 0 => rfl
  | _ + 1 => rfl
@[simp] theorem arrK_int (n : Nat) (i : IntKind) : (K.int i = K.arrK e ke n) = False := by cases n <;> simp [K.arrK]
@[simp] theorem arrK_bool (n : Nat) : (K.bool = K.arrK e ke n) = False := by cases n <;> simp [K.arrK]
@[simp] theorem arrK_str (n : Nat) : (K.str = K.arrK e ke n) = False := by cases n <;> simp [K.arrK]
@[simp] theorem arrK_slice (n : Nat) (t : TypeId) (k : K) : (K.slice t k = K.arrK e ke n) = False := by cases n <;> simp [K.arrK]
@[simp] theorem arrK_ptr (n : Nat) : (K.ptr = K.arrK e ke n) = False := by cases n <;> simp [K.arrK]
@[simp] theorem arrK_opq (n : Nat) : (K.opq = K.arrK e ke n) = False := by cases n <;> simp [K.arrK]
@[simp] theorem arrK_map (n : Nat) (a b : TypeId) : (K.map a b = K.arrK e ke n) = False := by cases n <;> simp [K.arrK]
@[simp] theorem arrK_pd (n : Nat) (t : TypeId) (k : K) : (K.pd t k = K.arrK e ke n) = False := by cases n <;> simp [K.arrK]
theorem arrK_cnt : ∀ n, (K.arrK e ke n).cnt = n
  | 0 => rfl
  | n + 1 => by simp only [K.arrK, K.cnt]; rw [arrK_cnt n]
theorem arrK_fld : ∀ (n j : Nat), j < n → (K.arrK e ke n).fld j = some (e, ke) ∧ (K.arrK e ke n).off j = j * ke.size
  | n + 1, 0, _ => ⟨rfl, by simp [K.arrK, K.off]⟩
  | n + 1, j + 1, h => by
    obtain ⟨h1, h2⟩ := arrK_fld n j (by omega)
    refine ⟨h1, ?_⟩
    simp only [K.arrK, K.off, h2]
    rw [Nat.add_mul]
    omega
theorem arrK_some : ∀ {n j : Nat} {tj : TypeId} {kj : K}, (K.arrK e ke n).fld j = some (tj, kj) → tj = e ∧ kj = ke ∧ (K.arrK e ke n).off j = j * ke.size := fun {n j tj kj} h => by
  have hj : j < n := by
    induction n generalizing j with
    | zero => simp [K.arrK, K.fld] at h
    | succ n ih => cases j with
      | zero => omega
      | succ j => have := ih (j := j) (by simpa [K.arrK, K.fld] using h); omega
  obtain ⟨h1, h2⟩ := arrK_fld (e := e) (ke := ke) n j hj
  rw [h1] at h
  cases h
  exact ⟨rfl, rfl, h2⟩
end
mutual
/-- The cells of a kind's zero value. -/
def ZeroC : K → List Value → Prop
  | .int k, cs => cs = [.int k 0]
  | .bool, cs => cs = [.bool false]
  | .str, cs => cs = [.string ⟨#[]⟩]
  | .slice _ _, cs => cs = [.slice none 0 0]
  | .unit, cs => cs = []
  | .pair _ k r, cs => ∃ c1 c2, cs = c1 ++ c2 ∧ ZeroC k c1 ∧ ZeroF r c2
  | .ptr, cs => cs = [.pointer none]
  | .opq, cs => cs.length = 1
  | .map .., cs => cs = [.map none]
  | .pd .., cs => cs = [.pointer none]
def ZeroF : K → List Value → Prop
  | .unit, cs => cs = []
  | .pair _ k r, cs => ∃ c1 c2, cs = c1 ++ c2 ∧ ZeroC k c1 ∧ ZeroF r c2
  | _, _ => False
end
def FieldsOK (kd : TypeId → Option K) : List Field → K → Nat → Prop
  | [], k, _ => k = .unit
  | f :: fs, .pair t k r, off => f.type = t ∧ kd t = some k ∧ f.offset = off ∧ f.name ≠ "_" ∧ FieldsOK kd fs r (off + k.size)
  | _ :: _, _, _ => False
def DescOK (kd : TypeId → Option K) : TypeDesc → K → Prop
  | .int ik, k => k = .int ik
  | .bool, k => k = .bool
  | .string, k => k = .str
  | .slice e, k => ∃ ke, k = .slice e ke ∧ kd e = some ke
  | .struct fs, k => FieldsOK kd fs.toList k 0 ∧ k.agg = true
  | .pointer e, k => k = .ptr ∨ ∃ ke, k = .pd e ke ∧ kd e = some ke
  | .func .., k => k = .opq
  | .map kt vt, k => k = .map kt vt
  | .array n e, k => ∃ ke, kd e = some ke ∧ k = K.arrK e ke n ∧ True
  | _, _ => False
structure TyOK (P : Program) (kd : TypeId → Option K) (t : TypeId) (k : K) : Prop where
  info : ∃ i z, P.info? t = some i ∧ i.size = k.size ∧ i.zero = some z ∧ ZeroC k z.cells.toList ∧ aggV z = k.agg ∧ i.bytes ≤ 2048
  desc : ∃ d, P.underlying t = some d ∧ DescOK kd d k
  eq : k.cmp = true → k.agg = true → P.stoodInHeld t = false ∧ P.eqGuardType P.depth t = false
structure TblOK (P : Program) (T : Tbl) : Prop where
  ty : ∀ t k, T.kd t = some k → TyOK P T.kd t k
  boolT : T.kd T.boolT = some .bool
  intT : T.kd T.intT = some (.int .i64)
  mixed : P.follows .mixedOrders = true
  arr : ∀ t k, T.kd t = some k → (T.arr t = true ↔ ∃ n e, P.underlying t = some (.array n e))
section
variable {P : Program} {kd : TypeId → Option K} {t : TypeId} {k : K}
theorem descOK_agg {d : TypeDesc} (h : DescOK kd d k) : (match d with | .struct _ | .array _ _ => true | _ => false) = k.agg := by
  cases d <;> simp only [DescOK] at h <;> first | exact h.elim | (subst h; rfl) | (rcases h with rfl | ⟨_, rfl, _⟩ <;> rfl; done) | (obtain ⟨_, _, rfl, _⟩ := h; exact (arrK_agg _).symm) | (obtain ⟨_, rfl, _⟩ := h; rfl) | exact h.2.symm
theorem TyOK.isAgg (h : TyOK P kd t k) (w : World) : (isAgg t).run P w = .ok k.agg w := by
  obtain ⟨d, hd, hk⟩ := h.desc
  have := descOK_agg hk
  unfold Go.isAgg
  rw [Sem.run_bind, run_underlying hd w]
  cases d <;> simp_all
theorem TyOK.sizeOf (h : TyOK P kd t k) (w : World) : (Go.sizeOf t).run P w = .ok k.size w := by
  obtain ⟨i, z, hi, hs, _⟩ := h.info
  simp [Go.sizeOf, typeInfo, hi, hs]
theorem zero_len (k : K) : (∀ cs, ZeroC k cs → cs.length = k.size) ∧ (∀ cs, ZeroF k cs → cs.length = k.size) := by
  induction k with
  | pair t k r ihk ihr =>
    have hf : ∀ cs, ZeroF (.pair t k r) cs → cs.length = (K.pair t k r).size := fun cs h => by
      simp only [ZeroF] at h
      obtain ⟨c1, c2, rfl, h1, h2⟩ := h
      simp [K.size, ihk.1 _ h1, ihr.2 _ h2]
    exact ⟨fun cs h => hf cs h, hf⟩
  | unit => exact ⟨fun cs h => by simp only [ZeroC] at h; subst h; rfl, fun cs h => by simp only [ZeroF] at h; subst h; rfl⟩
  | opq => exact ⟨fun cs h => h, fun cs h => by simp [ZeroF] at h⟩
  | _ => exact ⟨fun cs h => by simp only [ZeroC] at h; subst h; rfl, fun cs h => by simp [ZeroF] at h⟩
theorem nil_at (j : Nat) : (D.n []).at' j = .n [] := by cases j <;> rfl
theorem zero_rep (F : Nat → Prop) (w : World) (k : K) (hk : k.data = true) : (∀ cs, ZeroC k cs → RepC F w k (.n []) cs) ∧ (∀ cs j, ZeroF k cs → RepF F w k j (.n []) cs) := by
  induction k with
  | slice e k ih => exact ⟨fun cs h => ⟨none, 0, h, Nat.le_refl _, Nat.zero_le _, fun j y hy => by simp [D.list] at hy⟩, fun cs j h => by simp [ZeroF] at h⟩
  | pd e k ih => exact ⟨fun cs h => by simp only [ZeroC] at h; subst h; exact .inl ⟨rfl, rfl⟩, fun cs j h => by simp [ZeroF] at h⟩
  | ptr => simp [K.data] at hk
  | opq => simp [K.data] at hk
  | map kt vt => simp [K.data] at hk
  | pair t k r ihk ihr =>
    simp only [K.data, Bool.and_eq_true] at hk
    have hf : ∀ cs j, ZeroF (.pair t k r) cs → RepF F w (.pair t k r) j (.n []) cs := fun cs j h => by
      simp only [ZeroF] at h
      obtain ⟨c1, c2, rfl, h1, h2⟩ := h
      exact ⟨c1, c2, rfl, by rw [nil_at]; exact (ihk hk.1).1 _ h1, (ihr hk.2).2 _ _ h2⟩
    exact ⟨fun cs h => hf cs 0 h, hf⟩
  | unit => exact ⟨fun cs h => h, fun cs j h => h⟩
  | _ => exact ⟨fun cs h => h, fun cs j h => by simp [ZeroF] at h⟩
end

/-! ### A check of the table, to be run by the kernel -/
mutual
def zeroB : K → List Value → Option (List Value)
  | .int k, .int k' 0 :: l => if k = k' then some l else none
  | .bool, .bool false :: l => some l
  | .str, .string s :: l => match s.data.toList with | [] => some l | _ => none
  | .slice _ _, .slice none 0 0 :: l => some l
  | .unit, l => some l
  | .pair _ k r, l => match zeroB k l with | some l => zeroFB r l | none => none
  | .ptr, .pointer none :: l => some l
  | .opq, _ :: l => some l
  | .map .., .map none :: l => some l
  | .pd .., .pointer none :: l => some l
  | _, _ => none
def zeroFB : K → List Value → Option (List Value)
  | .unit, l => some l
  | .pair _ k r, l => match zeroB k l with | some l => zeroFB r l | none => none
  | _, _ => none
end
def fieldsB (kd : TypeId → Option K) : List Field → K → Nat → Bool
  | [], .unit, _ => true
  | f :: fs, .pair t k r, off => Nat.beq f.type t && decide (kd t = some k) && Nat.beq f.offset off && !(f.name == "_") && fieldsB kd fs r (off + k.size)
  | _, _, _ => false
def descB (kd : TypeId → Option K) : TypeDesc → K → Bool
  | .int ik, .int ik' => decide (ik = ik')
  | .bool, .bool => true
  | .string, .str => true
  | .slice e, .slice e' ke => Nat.beq e e' && decide (kd e = some ke)
  | .struct fs, k => fieldsB kd fs.toList k 0 && k.agg
  | .pointer _, .ptr => true
  | .pointer e, .pd e' ke => Nat.beq e e' && decide (kd e = some ke)
  | .func .., .opq => true
  | .map kt vt, .map a b => Nat.beq kt a && Nat.beq vt b
  | .array n e, k => match kd e with | some ke => decide (k = K.arrK e ke n) | none => false
  | _, _ => false
def tyB (P : Program) (kd : TypeId → Option K) (t : TypeId) (k : K) : Bool :=
  match P.info? t with
  | some i => match i.zero with
    | some z => Nat.beq i.size k.size && Nat.beq z.cells.size k.size && (match zeroB k z.cells.toList with | some [] => true | _ => false) && (aggV z == k.agg) && Nat.ble i.bytes 2048 &&
      (match P.underlying t with | some d => descB kd d k | none => false) && (!(k.cmp && k.agg) || (!P.stoodInHeld t && !P.eqGuardType P.depth t))
    | none => false
  | none => false
def tysB (P : Program) (kd : TypeId → Option K) : List (Nat × K) → Bool
  | [] => true
  | (t, k) :: l => tyB P kd t k && tysB P kd l
section
variable {P : Program} {kd : TypeId → Option K}
theorem zeroB_sound (k : K) : (∀ l m, zeroB k l = some m → ∃ c, l = c ++ m ∧ ZeroC k c) ∧ (∀ l m, zeroFB k l = some m → ∃ c, l = c ++ m ∧ ZeroF k c) := by
  induction k with
  | pair t k r ihk ihr =>
    have hf : ∀ l m, zeroFB (.pair t k r) l = some m → ∃ c, l = c ++ m ∧ ZeroF (.pair t k r) c := fun l m h => by
      simp only [zeroFB] at h
      cases h1 : zeroB k l with
      | none => simp [h1] at h
      | some l1 =>
        simp only [h1] at h
        obtain ⟨c1, rfl, z1⟩ := ihk.1 _ _ h1
        obtain ⟨c2, rfl, z2⟩ := ihr.2 _ _ h
        exact ⟨c1 ++ c2, by simp, c1, c2, rfl, z1, z2⟩
    exact ⟨fun l m h => hf l m h, hf⟩
  | unit => exact ⟨fun l m h => ⟨[], by simpa [zeroB] using h, rfl⟩, fun l m h => ⟨[], by simpa [zeroFB] using h, rfl⟩⟩
  | int k =>
    refine ⟨fun l m h => ?_, fun l m h => by simp [zeroFB] at h⟩
    unfold zeroB at h
    split at h <;> simp_all [ZeroC]
  | bool =>
    refine ⟨fun l m h => ?_, fun l m h => by simp [zeroFB] at h⟩
    unfold zeroB at h
    split at h <;> simp_all [ZeroC]
  | str =>
    refine ⟨fun l m h => ?_, fun l m h => by simp [zeroFB] at h⟩
    cases l with
    | nil => simp [zeroB] at h
    | cons v l =>
      cases v <;> simp only [zeroB] at h <;> try cases h
      rename_i s
      obtain ⟨⟨a⟩⟩ := s
      cases a with
      | nil =>
        simp only [Option.some.injEq] at h
        subst h
        exact ⟨[.string ⟨#[]⟩], rfl, rfl⟩
      | cons b a => cases h
  | slice e k ih =>
    refine ⟨fun l m h => ?_, fun l m h => by simp [zeroFB] at h⟩
    unfold zeroB at h
    split at h <;> simp_all [ZeroC]
  | ptr =>
    refine ⟨fun l m h => ?_, fun l m h => by simp [zeroFB] at h⟩
    unfold zeroB at h
    split at h <;> simp_all [ZeroC]
  | pd e k ih =>
    refine ⟨fun l m h => ?_, fun l m h => by simp [zeroFB] at h⟩
    unfold zeroB at h
    split at h <;> simp_all [ZeroC]
  | map kt vt =>
    refine ⟨fun l m h => ?_, fun l m h => by simp [zeroFB] at h⟩
    unfold zeroB at h
    split at h <;> simp_all [ZeroC]
  | opq =>
    refine ⟨fun l m h => ?_, fun l m h => by simp [zeroFB] at h⟩
    cases l with
    | nil => simp [zeroB] at h
    | cons v l =>
      simp only [zeroB, Option.some.injEq] at h
      subst h
      exact ⟨[v], rfl, rfl⟩
theorem fieldsB_sound : ∀ (fs : List Field) (k : K) (off : Nat), fieldsB kd fs k off = true → FieldsOK kd fs k off
  | [], k, off, h => by cases k <;> simp_all [fieldsB, FieldsOK]
  | f :: fs, k, off, h => by
    cases k with
    | pair t k r =>
      simp only [fieldsB, Bool.and_eq_true, Nat.beq_eq, decide_eq_true_eq] at h
      exact ⟨h.1.1.1.1, h.1.1.1.2, h.1.1.2, by simpa using h.1.2, fieldsB_sound fs r _ h.2⟩
    | _ => simp [fieldsB] at h
theorem descB_sound {d : TypeDesc} {k : K} (h : descB kd d k = true) : DescOK kd d k := by
  cases d with
  | struct fs =>
    simp only [descB, Bool.and_eq_true] at h
    exact ⟨fieldsB_sound _ _ _ h.1, h.2⟩
  | slice e =>
    cases k <;> simp [descB] at h
    obtain ⟨rfl, h2⟩ := h
    exact ⟨_, rfl, h2⟩
  | int ik =>
    cases k <;> simp [descB] at h
    subst h
    rfl
  | array n e =>
    simp only [descB] at h
    split at h
    · rename_i ke hke
      simp only [decide_eq_true_eq] at h
      exact ⟨ke, hke, h, trivial⟩
    · cases h
  | pointer e =>
    cases k <;> simp [descB] at h
    · exact .inl rfl
    · obtain ⟨rfl, h2⟩ := h
      exact .inr ⟨_, rfl, h2⟩
  | _ => cases k <;> simp_all [descB, DescOK]
theorem tyB_sound {t : TypeId} {k : K} (h : tyB P kd t k = true) : TyOK P kd t k := by
  unfold tyB at h
  split at h
  · rename_i i hi
    split at h
    · rename_i z hz
      simp only [Bool.and_eq_true, Nat.beq_eq, Nat.ble_eq] at h
      obtain ⟨⟨⟨⟨⟨⟨h1, h2⟩, h3⟩, h4⟩, h5⟩, h6⟩, h7⟩ := h
      refine ⟨⟨i, z, hi, h1, hz, ?_, by simpa using h4, h5⟩, ?_, fun hc hg => by simpa [hc, hg] using h7⟩
      · split at h3
        · rename_i hzb
          obtain ⟨c, hc, hz'⟩ := (zeroB_sound k).1 _ _ hzb
          rw [List.append_nil] at hc
          rw [hc]
          exact hz'
        · cases h3
      · split at h6
        · rename_i d hd
          exact ⟨d, hd, descB_sound h6⟩
        · cases h6
    · cases h
  · cases h
theorem tysB_sound : ∀ (l : List (Nat × K)) (kd' : TypeId → Option K), tysB P kd' l = true → ∀ t k, lk l t = some k → TyOK P kd' t k
  | [], _, _, t, k, h => by simp [lk] at h
  | (u, k') :: l, kd', h, t, k, ht => by
    simp only [tysB, Bool.and_eq_true] at h
    simp only [lk] at ht
    split at ht
    · rename_i hb
      simp only [Option.some.injEq] at ht
      subst ht
      rw [Nat.beq_eq] at hb
      subst hb
      exact tyB_sound h.1
    · exact tysB_sound l kd' h.2 t k ht
end
end Go.Ev
