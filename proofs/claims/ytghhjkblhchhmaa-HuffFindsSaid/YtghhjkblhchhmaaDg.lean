/- Contracts of the secret numbers (Of, Open, Shr, Equal, Select), of FindSec, of the document's Find, and of Look. -/
import Derived.Test.YtghhjkblhchhmaaDf
namespace Go.Ai
open Go Go.Proofs
set_option maxRecDepth 100000
set_option maxHeartbeats 4000000
set_option linter.unusedSimpArgs false
set_option linter.unusedVariables false
set_option pp.deepTerms false
-- TABLES 27
def pr27 : Nat → List Pr
  | 0 => [.keep [0] []]
  | 1 => [.keep [0, 2] [2]]
  | _ => []
def dr27 : Nat → Dr
  | _ => ⟨[], [], [], []⟩
def kp27 : List Nat → List Nat
  | _ => []
-- END
-- TABLES 28
def pr28 : Nat → List Pr
  | 0 => [.keep [0, 1] []]
  | 1 => [.keep [1, 2] [2]]
  | 2 => [.keep [2] [2]]
  | _ => []
def dr28 : Nat → Dr
  | _ => ⟨[], [], [], []⟩
def kp28 : List Nat → List Nat
  | _ => []
-- END
-- TABLES 31
def pr31 : Nat → List Pr
  | 0 => [.keep [0, 1] []]
  | 1 => [.keep [1, 2, 4] [2, 4]]
  | _ => []
def dr31 : Nat → Dr
  | 1 => ⟨[[], [0], [], [2], [3, 2, 1, 0], [4, 3, 2, 1, 0], [5, 4, 3, 2, 1, 0]], [], [(6, [])], [8]⟩
  | _ => ⟨[], [], [], []⟩
theorem ck31_1 : chkDr (opsAt b31 1) (dr31 1) = true := by kernel_rfl
def kp31 : List Nat → List Nat
  | _ => []
-- END
-- TABLES 32
def pr32 : Nat → List Pr
  | 0 => [.keep [0, 1] []]
  | 1 => [.keep [2, 3, 4] [2, 3, 4]]
  | 2 => [.keep [4, 5] [4]]
  | _ => []
def dr32 : Nat → Dr
  | _ => ⟨[], [], [], []⟩
def kp32 : List Nat → List Nat
  | _ => []
-- END
-- TABLES 33
def pr33 : Nat → List Pr
  | 0 => [.keep [0, 1, 2] []]
  | 1 => [.keep [3, 4, 5, 6] [3, 4, 5, 6]]
  | _ => []
def dr33 : Nat → Dr
  | _ => ⟨[], [], [], []⟩
def kp33 : List Nat → List Nat
  | _ => []
-- END
-- TABLES 34
def pr34 : Nat → List Pr
  | 0 => [.keep [0] []]
  | 1 => [.keep [2] []]
  | _ => []
def dr34 : Nat → Dr
  | _ => ⟨[], [], [], []⟩
def kp34 : List Nat → List Nat
  | _ => []
-- END
-- TABLES 36
def pr36 : Nat → List Pr
  | 0 => [.keep [0] []]
  | 1 => [.keep [0] []]
  | _ => []
def dr36 : Nat → Dr
  | _ => ⟨[], [], [], []⟩
def kp36 : List Nat → List Nat
  | _ => []
-- END
-- TABLES 37
def pr37 : Nat → List Pr
  | 0 => [.keep [0] []]
  | 1 => [.keep [1, 2] [1, 2]]
  | _ => []
def dr37 : Nat → Dr
  | _ => ⟨[], [], [], []⟩
def kp37 : List Nat → List Nat
  | _ => []
-- END
-- TABLES 38
def pr38 : Nat → List Pr
  | 0 => [.keep [0, 1, 2] []]
  | 1 => [.keep [0, 1, 2] []]
  | 2 => [.keep [0, 1, 2, 6] []]
  | 3 => [.keep [0, 1, 2, 6] []]
  | 4 => [.keep [0, 1, 2, 6] []]
  | 5 => [.keep [0, 1, 2, 6] []]
  | 6 => [.keep [0, 1, 2, 6] []]
  | 7 => [.keep [0, 1, 2, 6] []]
  | _ => []
def dr38 : Nat → Dr
  | 2 => ⟨[[], [0], [1, 0], [2, 1, 0], [3, 2, 1, 0], [4, 3, 2, 1, 0], [5, 4, 3, 2, 1, 0], [2, 1, 0], [7, 6, 5, 4, 3, 2, 1, 0], [8, 7, 6, 5, 4, 3, 2, 1, 0], [9, 8, 7, 6, 5, 4, 3, 2, 1, 0], [10, 9, 8, 7, 6, 5, 4, 3, 2, 1, 0], [2, 1, 0], [12, 2, 1, 0], [13, 12, 2, 1, 0], [14, 13, 12, 2, 1, 0], [2, 1, 0], [16, 15, 14, 13, 12, 2, 1, 0], [17, 16, 15, 14, 13, 12, 2, 1, 0], [18, 17, 16, 15, 14, 13, 12, 2, 1, 0], [19, 18, 17, 16, 15, 14, 13, 12, 11, 10, 9, 8, 7, 6, 5, 4, 3, 2, 1, 0], [20, 19, 18, 17, 16, 15, 14, 13, 12, 11, 10, 9, 8, 7, 6, 5, 4, 3, 2, 1, 0]], [], [], []⟩
  | 3 => ⟨[[], [], [1], [2, 1], [3, 2, 1], [], [5], [6, 5], [7, 6, 5], [8, 7, 6, 5], [9, 8, 7, 6, 5], [10, 9, 8, 7, 6, 5], [11, 10, 9, 8, 7, 6, 5], [12, 11, 10, 9, 8, 7, 6, 5], [13, 12, 11, 10, 9, 8, 7, 6, 5], [14, 13, 12, 11, 10, 9, 8, 7, 6, 5], [15, 14, 13, 12, 11, 10, 9, 8, 7, 6, 5, 4, 3, 2, 1], [16, 15, 14, 13, 12, 11, 10, 9, 8, 7, 6, 5, 4, 3, 2, 1, 0], [17, 16, 15, 14, 13, 12, 11, 10, 9, 8, 7, 6, 5, 4, 3, 2, 1, 0], [18, 17, 16, 15, 14, 13, 12, 11, 10, 9, 8, 7, 6, 5, 4, 3, 2, 1, 0]], [], [(16, [0]), (19, [])], [51, 52, 53]⟩
  | 6 => ⟨[[], [0], [1, 0], [2, 1, 0], [], [], [5], [6, 5], [7, 6, 5], [], [9, 8, 7, 6, 5], [10, 9, 8, 7, 6, 5], [], [12], [13, 12], [], [15], [16, 15, 14, 13, 12], [17, 16, 15, 14, 13, 12], [18, 17, 16, 15, 14, 13, 12, 11, 10, 9, 8, 7, 6, 5], [19, 18, 17, 16, 15, 14, 13, 12, 11, 10, 9, 8, 7, 6, 5, 4, 3, 2, 1, 0], [20, 19, 18, 17, 16, 15, 14, 13, 12, 11, 10, 9, 8, 7, 6, 5, 4, 3, 2, 1, 0]], [], [(19, [0, 1, 2, 3, 4]), (21, [])], [82, 83]⟩
  | 7 => ⟨[[], [0], [1, 0], [2, 1, 0], [], [], [5], [6, 5], [7, 6, 5], [], [9, 8, 7, 6, 5], [10, 9, 8, 7, 6, 5], [], [12], [13, 12], [], [15], [16, 15], [17, 16, 15], [], [19], [20, 19], [21, 20, 19, 18, 17, 16, 15, 14, 13, 12], [22, 21, 20, 19, 18, 17, 16, 15, 14, 13, 12, 11, 10, 9, 8, 7, 6, 5], [23, 22, 21, 20, 19, 18, 17, 16, 15, 14, 13, 12, 11, 10, 9, 8, 7, 6, 5, 4, 3, 2, 1, 0], [24, 23, 22, 21, 20, 19, 18, 17, 16, 15, 14, 13, 12, 11, 10, 9, 8, 7, 6, 5, 4, 3, 2, 1, 0]], [], [(23, [0, 1, 2, 3, 4]), (25, [])], [107, 108]⟩
  | _ => ⟨[], [], [], []⟩
theorem ck38_2 : chkDr (opsAt b38 2) (dr38 2) = true := by kernel_rfl
theorem ck38_3 : chkDr (opsAt b38 3) (dr38 3) = true := by kernel_rfl
theorem ck38_6 : chkDr (opsAt b38 6) (dr38 6) = true := by kernel_rfl
theorem ck38_7 : chkDr (opsAt b38 7) (dr38 7) = true := by kernel_rfl
def kp38 : List Nat → List Nat
  | _ => []
-- END
-- TABLES 39
def pr39 : Nat → List Pr
  | 0 => [.keep [0, 1] []]
  | 1 => [.keep [1, 2, 4] [2, 4]]
  | _ => []
def dr39 : Nat → Dr
  | 1 => ⟨[[], [], [1], [2, 1, 0], [3, 2, 1, 0]], [], [(4, [])], [7, 8]⟩
  | _ => ⟨[], [], [], []⟩
theorem ck39_1 : chkDr (opsAt b39 1) (dr39 1) = true := by kernel_rfl
def kp39 : List Nat → List Nat
  | _ => []
-- END
attribute [simp] pr27 dr27 kp27 pr28 dr28 kp28 pr31 dr31 kp31 pr32 dr32 kp32 pr33 dr33 kp33 pr34 dr34 kp34 pr36 dr36 kp36 pr37 dr37 kp37 pr38 dr38 kp38 pr39 dr39 kp39
def secV (x : Int) : V := .agg [.int .i64 x]
def inR (x : Int) : Prop := -9223372036854775808 ≤ x ∧ x < 9223372036854775808
instance (x : Int) : Decidable (inR x) := by unfold inR; infer_instance

/-! ## bits of i64 -/
theorem wrapI (x : Int) : IntKind.i64.wrap x = if 9223372036854775808 ≤ x % 18446744073709551616 then x % 18446744073709551616 - 18446744073709551616 else x % 18446744073709551616 := by
  simp [IntKind.wrap, IntKind.bits, IntKind.signed]
theorem wrapBV (X : BitVec 64) : IntKind.i64.wrap (X.toNat : Int) = X.toInt := by
  have h : X.toNat < 2 ^ 64 := X.isLt
  rw [BitVec.toInt_eq_toNat_cond, wrapI]
  by_cases h2 : 2 * X.toNat < 2 ^ 64
  · rw [if_pos h2, if_neg (by omega)]; omega
  · rw [if_neg h2, if_pos (by omega)]; omega
theorem toIntR (x : Int) (h : inR x) : (BitVec.ofInt 64 x).toInt = x := by
  unfold inR at h
  rw [BitVec.toInt_ofInt]
  simp only [Int.bmod]
  omega
theorem inR_toInt (X : BitVec 64) : inR X.toInt := by
  have := X.toInt_lt; have := X.le_toInt
  unfold inR; omega
theorem ofInt_wrap (x : Int) : BitVec.ofInt 64 (IntKind.i64.wrap x) = BitVec.ofInt 64 x := by
  apply BitVec.eq_of_toInt_eq
  rw [BitVec.toInt_ofInt, BitVec.toInt_ofInt]
  rw [wrapI]
  split
  · simp only [Int.bmod]; omega
  · simp only [Int.bmod]; omega
/-- what Equal computes -/
def eqBits (a b : Int) : Int := if a = b then -1 else 0
theorem equal_bits (a b : Int) (ha : inR a) (hb : inR b) (t u w : Int)
    (ht : IntKind.i64.wrap ((BitVec.ofInt 64 a ^^^ BitVec.ofInt 64 b).toNat : Int) = t)
    (hu : IntKind.i64.wrap ((BitVec.ofInt 64 t ||| BitVec.ofInt 64 (IntKind.i64.wrap (0 - t))).toNat : Int) = u)
    (hw : IntKind.i64.wrap ((BitVec.ofInt 64 (-1) ^^^ BitVec.ofInt 64 u).toNat : Int) = w) : w.fdiv (2 ^ 63) = eqBits a b := by
  rw [wrapBV] at ht hu hw
  have eT : BitVec.ofInt 64 t = BitVec.ofInt 64 a ^^^ BitVec.ofInt 64 b := by rw [← ht, BitVec.ofInt_toInt]
  have eU : BitVec.ofInt 64 u = BitVec.ofInt 64 t ||| - BitVec.ofInt 64 t := by
    rw [← hu, BitVec.ofInt_toInt, ofInt_wrap, Int.zero_sub, BitVec.ofInt_neg]
  have hmsb : (BitVec.ofInt 64 (-1) ^^^ BitVec.ofInt 64 u).msb = !(BitVec.ofInt 64 u).msb := by
    rw [BitVec.msb_xor]
    have : (BitVec.ofInt 64 (-1)).msb = true := by decide
    rw [this]; simp
  have hum : (BitVec.ofInt 64 u).msb = decide (BitVec.ofInt 64 t ≠ 0#64) := by
    rw [eU, BitVec.msb_or, BitVec.msb_neg]
    by_cases h0 : BitVec.ofInt 64 t = 0#64
    · rw [h0]; decide
    · by_cases h1 : BitVec.ofInt 64 t = BitVec.intMin 64
      · rw [h1]; decide
      · cases (BitVec.ofInt 64 t).msb <;> simp [h0, h1]
  have hab : BitVec.ofInt 64 t = 0#64 ↔ a = b := by
    rw [eT, BitVec.xor_eq_zero_iff]
    constructor
    · intro h
      have := congrArg BitVec.toInt h
      rwa [toIntR a ha, toIntR b hb] at this
    · rintro rfl; rfl
  have hr := inR_toInt (BitVec.ofInt 64 (-1) ^^^ BitVec.ofInt 64 u)
  rw [hw] at hr
  have hneg : (BitVec.ofInt 64 (-1) ^^^ BitVec.ofInt 64 u).msb = decide (w < 0) := by
    rw [← hw, BitVec.msb_eq_toInt]
  rw [hmsb, hum] at hneg
  unfold inR at hr
  rw [Int.fdiv_eq_ediv_of_nonneg _ (by decide)]
  unfold eqBits
  by_cases h : a = b
  · rw [if_pos h]
    have h0 := hab.2 h
    rw [h0] at hneg
    simp at hneg
    omega
  · rw [if_neg h]
    have h0 : BitVec.ofInt 64 t ≠ 0#64 := fun e => h (hab.1 e)
    simp [h0] at hneg
    omega
theorem select_bits (c a b : Int) (ha : inR a) (hb : inR b) (hc : c = -1 ∨ c = 0) :
    IntKind.i64.wrap ((BitVec.ofInt 64 b ^^^ BitVec.ofInt 64 (IntKind.i64.wrap ((BitVec.ofInt 64 c &&& BitVec.ofInt 64 (IntKind.i64.wrap ((BitVec.ofInt 64 a ^^^ BitVec.ofInt 64 b).toNat : Int))).toNat : Int))).toNat : Int) = if c = -1 then a else b := by
  rw [wrapBV, wrapBV, wrapBV, BitVec.ofInt_toInt, BitVec.ofInt_toInt]
  rcases hc with rfl | rfl
  · rw [if_pos rfl]
    have e : BitVec.ofInt 64 (-1) = BitVec.allOnes 64 := by decide
    rw [e, BitVec.allOnes_and, BitVec.xor_comm (BitVec.ofInt 64 a), ← BitVec.xor_assoc, BitVec.xor_self, BitVec.zero_xor, toIntR a ha]
  · rw [if_neg (by decide)]
    have e : BitVec.ofInt 64 0 = 0#64 := by decide
    rw [e, BitVec.zero_and, BitVec.xor_zero, toIntR b hb]
end Go.Ai

namespace Go.Ai
open Go Go.Proofs
set_option maxRecDepth 100000
set_option maxHeartbeats 4000000
set_option linter.unusedSimpArgs false
set_option linter.unusedVariables false
set_option pp.deepTerms false
/-! ## Of -/
noncomputable def cf27 : Cf := { N := 5, pr := pr27, dr := dr27, C := Cs.none, It := Its.none, kp := kp27, rf := true, stop := none, lid := 0 }
def g27 (vs : List V) : Option V :=
  match vs with
  | [.int .i64 x] => some (secV x)
  | _ => none
theorem g27_ok (vs : List V) (r : V) (h : g27 vs = some r) : CallR Try.prog [] 27 vs r := by
  unfold g27 at h
  split at h <;> try (cases h; done)
  rename_i x
  simp only [Option.some.injEq] at h; subst h
  refine callR_of_wpA mixed (cf := cf27) (ow := false) at27 bd27 (by kernel_rfl) (by simp [cf27]) rfl (Cs.none_ok _) (Its.none_ok _) ?_
  simp only [b27, Try.f27, nav, Option.getD_some]
  simp [cf27, secV, ty55]
/-! ## Recorder.Open of none -/
noncomputable def cf38 : Cf := { N := 110, pr := pr38, dr := dr38, C := Cs.none, It := Its.none, kp := kp38, rf := true, stop := none, lid := 0 }
def g38 (vs : List V) : Option V :=
  match vs with
  | [.nilp, .int .i64 _, .int .i64 _] => some (.tup [])
  | _ => none
theorem g38_ok (vs : List V) (r : V) (h : g38 vs = some r) : CallR Try.prog [] 38 vs r := by
  unfold g38 at h
  split at h <;> try (cases h; done)
  rename_i x y
  simp only [Option.some.injEq] at h; subst h
  refine callR_of_wpA mixed (cf := cf38) (ow := false) at38 bd38 (by kernel_rfl) (by simp [cf38]) rfl (Cs.none_ok _) (Its.none_ok _) ?_
  simp only [b38, Try.f38, nav, Option.getD_some]
  simp [cf38, ty63]
noncomputable def cf34 : Cf := { N := 7, pr := pr34, dr := dr34, C := Cs.none.add 38 g38, It := Its.none, kp := kp34, rf := true, stop := none, lid := 0 }
def g34 (vs : List V) : Option V :=
  match vs with
  | [.nilp] => some (.tup [])
  | _ => none
theorem g34_ok (vs : List V) (r : V) (h : g34 vs = some r) : CallR Try.prog [] 34 vs r := by
  unfold g34 at h
  split at h <;> try (cases h; done)
  simp only [Option.some.injEq] at h; subst h
  refine callR_of_wpA mixed (cf := cf34) (ow := false) at34 bd34 (by kernel_rfl) (by simp [cf34]) rfl (Cs.add_ok (Cs.none_ok _) en38 g38_ok) (Its.none_ok _) ?_
  simp only [b34, Try.f34, nav, Option.getD_some]
  simp [cf34, g38]
noncomputable def cf28 : Cf := { N := 9, pr := pr28, dr := dr28, C := Cs.none.add 34 g34, It := Its.none, kp := kp28, rf := true, stop := none, lid := 0 }
def g28 (vs : List V) : Option V :=
  match vs with
  | [.agg [.int .i64 x], .nilp] => some (.int .i64 x)
  | _ => none
theorem g28_ok (vs : List V) (r : V) (h : g28 vs = some r) : CallR Try.prog [] 28 vs r := by
  unfold g28 at h
  split at h <;> try (cases h; done)
  rename_i x
  simp only [Option.some.injEq] at h; subst h
  refine callR_of_wpA mixed (cf := cf28) (ow := false) at28 bd28 (by kernel_rfl) (by simp [cf28]) rfl (Cs.add_ok (Cs.none_ok _) en34 g34_ok) (Its.none_ok _) ?_
  simp only [b28, Try.f28, nav, Option.getD_some]
  simp [cf28, g34, ty55, ty2]
/-! ## shift, Shr, sign, Equal, Select, is -/
noncomputable def cf36 : Cf := { N := 6, pr := pr36, dr := dr36, C := Cs.none, It := Its.none, kp := kp36, rf := true, stop := none, lid := 0 }
def g36 (vs : List V) : Option V :=
  match vs with
  | [.int .i64 x] => if 0 ≤ x ∧ x ≤ 63 then some (.int .i64 x) else none
  | _ => none
theorem g36_ok (vs : List V) (r : V) (h : g36 vs = some r) : CallR Try.prog [] 36 vs r := by
  unfold g36 at h
  split at h <;> try (cases h; done)
  rename_i x
  split at h <;> try (cases h; done)
  rename_i hx
  simp only [Option.some.injEq] at h; subst h
  have h1 : min x 63 = x := by omega
  have h2 : max 0 x = x := by omega
  refine callR_of_wpA mixed (cf := cf36) (ow := false) at36 bd36 (by kernel_rfl) (by simp [cf36]) rfl (Cs.none_ok _) (Its.none_ok _) ?_
  simp only [b36, Try.f36, nav, Option.getD_some]
  simp [cf36, h1, h2]
  have h3 : (if 63 < x then 63 else x) = x := if_neg (by omega)
  rw [h3]
  split <;> omega
noncomputable def cf31 : Cf := { N := 11, pr := pr31, dr := dr31, C := Cs.none.add 36 g36, It := Its.none, kp := kp31, rf := true, stop := none, lid := 0 }
def g31 (vs : List V) : Option V :=
  match vs with
  | [.agg [.int .i64 x], .int .i64 n] => if 0 ≤ n ∧ n ≤ 63 then some (secV (x.fdiv (2 ^ n.toNat))) else none
  | _ => none
theorem g31_ok (vs : List V) (r : V) (h : g31 vs = some r) : CallR Try.prog [] 31 vs r := by
  unfold g31 at h
  split at h <;> try (cases h; done)
  rename_i x n
  split at h <;> try (cases h; done)
  rename_i hx
  simp only [Option.some.injEq] at h; subst h
  have e36 : g36 [.int .i64 n] = some (.int .i64 n) := by simp only [g36, if_pos hx]
  have hn : ¬ n < 0 := by omega
  have hmin : min n.toNat IntKind.i64.bits = n.toNat := Nat.min_eq_left (by simp [IntKind.bits]; omega)
  refine callR_of_wpA mixed (cf := cf31) (ow := false) at31 bd31 (by kernel_rfl) (by simp [cf31]) rfl (Cs.add_ok (Cs.none_ok _) en36 g36_ok) (Its.none_ok _) ?_
  simp only [b31, Try.f31, nav, Option.getD_some]
  simp [cf31, e36, ty55, ty2, hn, hmin, secV]
  kernel_rfl
noncomputable def cf37 : Cf := { N := 7, pr := pr37, dr := dr37, C := Cs.none, It := Its.none, kp := kp37, rf := true, stop := none, lid := 0 }
def g37 (vs : List V) : Option V :=
  match vs with
  | [.agg [.int .i64 x]] => some (secV (x.fdiv (2 ^ 63)))
  | _ => none
theorem g37_ok (vs : List V) (r : V) (h : g37 vs = some r) : CallR Try.prog [] 37 vs r := by
  unfold g37 at h
  split at h <;> try (cases h; done)
  rename_i x
  simp only [Option.some.injEq] at h; subst h
  have hmin : min 63 IntKind.i64.bits = 63 := rfl
  refine callR_of_wpA mixed (cf := cf37) (ow := false) at37 bd37 (by kernel_rfl) (by simp [cf37]) rfl (Cs.none_ok _) (Its.none_ok _) ?_
  simp only [b37, Try.f37, nav, Option.getD_some]
  simp [cf37, ty55, ty2, hmin, secV]
noncomputable def cf32 : Cf := { N := 18, pr := pr32, dr := dr32, C := Cs.none.add 37 g37, It := Its.none, kp := kp32, rf := true, stop := none, lid := 0 }
def g32 (vs : List V) : Option V :=
  match vs with
  | [.agg [.int .i64 a], .agg [.int .i64 b]] => if inR a ∧ inR b then some (secV (eqBits a b)) else none
  | _ => none
theorem g32_ok (vs : List V) (r : V) (h : g32 vs = some r) : CallR Try.prog [] 32 vs r := by
  unfold g32 at h
  split at h <;> try (cases h; done)
  rename_i a b
  split at h <;> try (cases h; done)
  rename_i hx
  simp only [Option.some.injEq] at h; subst h
  have hb := equal_bits a b hx.1 hx.2 _ _ _ rfl rfl rfl
  refine callR_of_wpA mixed (cf := cf32) (ow := false) at32 bd32 (by kernel_rfl) (by simp [cf32]) rfl (Cs.add_ok (Cs.none_ok _) en37 g37_ok) (Its.none_ok _) ?_
  generalize hE : endQ Try.prog Try.f32 false (secV (eqBits a b)) = E
  simp only [b32, Try.f32, nav, Option.getD_some]
  simp [cf32, ty55, ty2, secV, g37, -BitVec.toNat_and, -BitVec.toNat_or, -BitVec.toNat_xor]
  rw [← hE, ← hb]
  simp [Try.f32, ty55, ty2, secV, -BitVec.toNat_and, -BitVec.toNat_or, -BitVec.toNat_xor]
  rfl
noncomputable def cf33 : Cf := { N := 19, pr := pr33, dr := dr33, C := Cs.none, It := Its.none, kp := kp33, rf := true, stop := none, lid := 0 }
def g33 (vs : List V) : Option V :=
  match vs with
  | [.agg [.int .i64 c], .agg [.int .i64 a], .agg [.int .i64 b]] => if (c = -1 ∨ c = 0) ∧ inR a ∧ inR b then some (secV (if c = -1 then a else b)) else none
  | _ => none
theorem g33_ok (vs : List V) (r : V) (h : g33 vs = some r) : CallR Try.prog [] 33 vs r := by
  unfold g33 at h
  split at h <;> try (cases h; done)
  rename_i c a b
  split at h <;> try (cases h; done)
  rename_i hx
  simp only [Option.some.injEq] at h; subst h
  have hb := select_bits c a b hx.2.1 hx.2.2 hx.1
  refine callR_of_wpA mixed (cf := cf33) (ow := false) at33 bd33 (by kernel_rfl) (by simp [cf33]) rfl (Cs.none_ok _) (Its.none_ok _) ?_
  generalize hE : endQ Try.prog Try.f33 false (secV (if c = -1 then a else b)) = E
  simp only [b33, Try.f33, nav, Option.getD_some]
  simp [cf33, ty55, ty2, secV, -BitVec.toNat_and, -BitVec.toNat_or, -BitVec.toNat_xor]
  rw [← hE, ← hb]
  simp [Try.f33, ty55, ty2, secV, -BitVec.toNat_and, -BitVec.toNat_or, -BitVec.toNat_xor]
  rfl
theorem inR_eq (a b : Int) : eqBits a b = -1 ∨ eqBits a b = 0 := by unfold eqBits; split <;> simp
noncomputable def cf39 : Cf := { N := 9, pr := pr39, dr := dr39, C := (Cs.none.add 27 g27).add 32 g32, It := Its.none, kp := kp39, rf := true, stop := none, lid := 0 }
def g39 (vs : List V) : Option V :=
  match vs with
  | [.agg [.int .i64 a], .int .i64 b] => if inR a ∧ inR b then some (secV (eqBits a b)) else none
  | _ => none
theorem g39_ok (vs : List V) (r : V) (h : g39 vs = some r) : CallR Try.prog [] 39 vs r := by
  unfold g39 at h
  split at h <;> try (cases h; done)
  rename_i a b
  split at h <;> try (cases h; done)
  rename_i hx
  simp only [Option.some.injEq] at h; subst h
  have e27 : g27 [.int .i64 b] = some (.agg [.int .i64 b]) := rfl
  have e32 : g32 [.agg [.int .i64 a], .agg [.int .i64 b]] = some (.agg [.int .i64 (eqBits a b)]) := by simp only [g32, if_pos hx, secV]
  refine callR_of_wpA mixed (cf := cf39) (ow := false) at39 bd39 (by kernel_rfl) (by simp [cf39]) rfl (Cs.add_ok (Cs.add_ok (Cs.none_ok _) en27 g27_ok) en32 g32_ok) (Its.none_ok _) ?_
  simp only [b39, Try.f39, nav, Option.getD_some]
  simp [cf39, ty55, ty2, secV, e27, e32]
  kernel_rfl
end Go.Ai

namespace Go.Ai
open Go Go.Proofs
set_option maxRecDepth 100000
set_option maxHeartbeats 4000000
set_option linter.unusedSimpArgs false
set_option linter.unusedVariables false
set_option pp.deepTerms false
-- TABLES 26:{"H3":"[[],[4]]","H10":"[[],[4]]"}
def pr26 : Nat → List Pr
  | 0 => [.keep [0, 1] []]
  | 1 => [.keep [2, 3, 4, 5] [2, 3, 4, 5]]
  | 2 => [.keep [2, 3, 4, 5, 6, 7] [2, 3, 4, 5, 6, 7]]
  | 3 => [.keep [4, 5, 6, 7] [4, 5, 6, 7]]
  | 4 => [.keep [2, 3, 4, 5, 6, 7] [2, 3, 4, 5, 6, 7]]
  | 5 => [.keep [2, 3, 4, 5, 6, 7, 20, 21] [2, 3, 4, 5, 6, 7]]
  | 6 => [.keep [2, 3, 4, 5, 6, 7, 8, 21] [2, 3, 4, 5, 6, 7]]
  | 7 => [.keep [2, 3, 4, 5, 6, 7, 8, 9] [2, 3, 4, 5, 6, 7, 9]]
  | 8 => [.keep [2, 3, 4, 5, 6, 7, 8, 9, 10] [2, 3, 4, 5, 6, 7, 9, 10]]
  | 9 => [.keep [2, 3, 4, 5, 6, 7, 9, 10] [2, 3, 4, 5, 6, 7, 9, 10]]
  | 10 => [.keep [4, 5, 6, 7] [4, 5, 6, 7]]
  | _ => []
def dr26 : Nat → Dr
  | 3 => ⟨[[], [], [0], [2, 1, 0]], [[],[4]], [(2, [1]), (3, [])], []⟩
  | 7 => ⟨[[], [], [1], [2, 1], [3, 2, 1, 0], [], [5], [6, 5, 4, 3, 2, 1, 0], [7, 6, 5, 4, 3, 2, 1, 0], [], [9, 8, 7, 6, 5, 4, 3, 2, 1, 0]], [], [(10, [])], [26, 29, 30, 10]⟩
  | 8 => ⟨[[], [], [1], [], [3, 2, 1], [4, 3, 2, 1], [5, 4, 3, 2, 1], [6, 5, 4, 3, 2, 1], [], [8, 7, 6, 5, 4, 3, 2, 1, 0], [9, 8, 7, 6, 5, 4, 3, 2, 1, 0]], [], [(10, [])], [38, 40]⟩
  | 9 => ⟨[[], [], [1], [2, 1], [], [4, 3, 2, 1, 0], [5, 4, 3, 2, 1, 0]], [], [(6, [])], [44, 46]⟩
  | 10 => ⟨[[], [], [0], [2, 1, 0]], [[],[4]], [(2, [1]), (3, [])], []⟩
  | _ => ⟨[], [], [], []⟩
theorem ck26_3 : chkDr (opsAt b26 3) (dr26 3) = true := by kernel_rfl
theorem ck26_7 : chkDr (opsAt b26 7) (dr26 7) = true := by kernel_rfl
theorem ck26_8 : chkDr (opsAt b26 8) (dr26 8) = true := by kernel_rfl
theorem ck26_9 : chkDr (opsAt b26 9) (dr26 9) = true := by kernel_rfl
theorem ck26_10 : chkDr (opsAt b26 10) (dr26 10) = true := by kernel_rfl
def kp26 : List Nat → List Nat
  | [20, 21] => [2, 3, 4, 5, 6, 7]
  | _ => []
-- END
attribute [simp] pr26 dr26 kp26
/-! ## the last that fits is the first -/
def lastGo (w : Int) : List Int → List (Int × Int) → Int × Int → Int × Int
  | v :: vs, (n, c) :: cs, acc => lastGo w vs cs (if w.fdiv (2 ^ (16 - n).toNat) = c then (v, n) else acc)
  | _, _, acc => acc
theorem lastGo_none (w : Int) : ∀ (vs : List Int) (cs : List (Int × Int)) (acc : Int × Int), (∀ x ∈ cs, w.fdiv (2 ^ (16 - x.1).toNat) ≠ x.2) → lastGo w vs cs acc = acc := by
  intro vs
  induction vs with
  | nil => intro cs acc _; rfl
  | cons v vs ih =>
    intro cs acc h
    cases cs with
    | nil => rfl
    | cons x cs =>
      obtain ⟨n, c⟩ := x
      have := h (n, c) (by simp)
      simp only at this
      simp only [lastGo]
      rw [if_neg this]
      exact ih cs acc fun y hy => h y (by simp [hy])
theorem findGo_no (w : Int) : ∀ (vs : List Int) (cs : List (Int × Int)), (∀ x ∈ cs, w.fdiv (2 ^ (16 - x.1).toNat) ≠ x.2) → findGo w vs cs = (0, 0) := by
  intro vs
  induction vs with
  | nil => intro cs _; cases cs <;> rfl
  | cons v vs ih =>
    intro cs h
    cases cs with
    | nil => rfl
    | cons x cs =>
      obtain ⟨n, c⟩ := x
      have := h (n, c) (by simp)
      simp only at this
      simp only [findGo]
      rw [if_neg this]
      exact ih cs fun y hy => h y (by simp [hy])
/-- of two, one behind the other, but one begins a word -/
theorem one_begins (w : Int) (x y : Int × Int) (hb : behindC x y) (hx : x.1 ≤ 16) (hy : y.1 ≤ 16) (h1 : w.fdiv (2 ^ (16 - x.1).toNat) = x.2) : w.fdiv (2 ^ (16 - y.1).toNat) ≠ y.2 := by
  intro h2
  obtain ⟨g1, g2⟩ := hb
  obtain ⟨_, b⟩ := (fdiv_eq w _ _ (Int.pow_pos (by omega))).1 h1
  obtain ⟨a, _⟩ := (fdiv_eq w _ _ (Int.pow_pos (by omega))).1 h2
  have hp2 : (0 : Int) ≤ 2 ^ (16 - y.1).toNat := Int.le_of_lt (Int.pow_pos (by omega))
  have h3 := Int.mul_le_mul_of_nonneg_right g2 hp2
  have e : (2 : Int) ^ (y.1 - x.1).toNat * 2 ^ (16 - y.1).toNat = 2 ^ (16 - x.1).toNat := by
    rw [← Int.pow_add]; congr 1; omega
  rw [Int.mul_assoc, e] at h3
  omega
theorem lastGo_find (w : Int) : ∀ (vs : List Int) (cs : List (Int × Int)), cs.Pairwise behindC → (∀ x ∈ cs, x.1 ≤ 16) → lastGo w vs cs (0, 0) = findGo w vs cs := by
  intro vs
  induction vs with
  | nil => intro cs _ _; cases cs <;> rfl
  | cons v vs ih =>
    intro cs hp hr
    cases cs with
    | nil => rfl
    | cons x cs =>
      obtain ⟨n, c⟩ := x
      rw [List.pairwise_cons] at hp
      have hn := hr (n, c) (by simp)
      simp only [lastGo, findGo]
      by_cases h : w.fdiv (2 ^ (16 - n).toNat) = c
      · rw [if_pos h, if_pos h]
        exact lastGo_none w vs cs _ fun y hy => one_begins w (n, c) y (hp.1 y hy) hn (hr y (by simp [hy])) h
      · rw [if_neg h, if_neg h]
        exact ih cs hp.2 fun y hy => hr y (by simp [hy])
theorem out_no (w : Int) (hw : w < 0 ∨ 65535 < w) (x : Int × Int) (h : 1 ≤ x.1 ∧ x.1 ≤ 16 ∧ 0 ≤ x.2) (hc : codeOk x) : w.fdiv (2 ^ (16 - x.1).toNat) ≠ x.2 := by
  intro he
  obtain ⟨n, c⟩ := x
  simp only [codeOk] at h hc he
  have hpos : (0 : Int) < 2 ^ (16 - n).toNat := Int.pow_pos (by omega)
  obtain ⟨e, f⟩ := (fdiv_eq w _ _ hpos).1 he
  have h3 : (c + 1) * 2 ^ (16 - n).toNat ≤ (2 ^ n.toNat - 1) * 2 ^ (16 - n).toNat := Int.mul_le_mul_of_nonneg_right (by omega) (by omega)
  rw [Int.sub_mul, ← Int.pow_add, show n.toNat + (16 - n).toNat = 16 from by omega] at h3
  have h4 : 0 ≤ c * 2 ^ (16 - n).toNat := Int.mul_nonneg h.2.2 (by omega)
  have h5 : (2 : Int) ^ 16 = 65536 := by decide
  omega
theorem find_last (t : Tab) (h : t.Ok) (w : Int) (hck : checkT t = true) : lastGo w t.vals (codesOf t.cnt) (0, 0) = findT t w := by
  have hg := (checkT_good t h).1 hck
  have hmm := codesOf_mem hg.cnt h.cnt
  rw [lastGo_find w _ (codesOf t.cnt) (codesL_behind t.cnt 1 0) fun x hx => (hmm x hx).2.1]
  unfold findT
  split
  · rename_i hw
    have hw' : w < 0 ∨ 65535 < w := hw.resolve_right (by rw [hck]; decide)
    exact findGo_no w _ _ fun x hx => out_no w hw' x ⟨(hmm x hx).1, (hmm x hx).2.1, (hmm x hx).2.2.1⟩ (hg.code x hx)
  · rfl
theorem inR_fdiv (w : Int) (h : inR w) (e : Nat) : inR (w.fdiv (2 ^ e)) := by
  have hp : (0 : Int) < 2 ^ e := Int.pow_pos (by omega)
  rw [Int.fdiv_eq_ediv_of_nonneg _ (Int.le_of_lt hp)]
  unfold inR at *
  constructor
  · rw [Int.le_ediv_iff_mul_le hp]
    have : (-9223372036854775808 : Int) * 2 ^ e ≤ -9223372036854775808 * 1 := Int.mul_le_mul_of_nonpos_left (by omega) (by omega)
    omega
  · rw [Int.ediv_lt_iff_lt_mul hp]
    have : (9223372036854775808 : Int) * 1 ≤ 9223372036854775808 * 2 ^ e := Int.mul_le_mul_of_nonneg_left (by omega) (by omega)
    omega
def secO (x : Int) : Obj := ⟨false, false, 55, 1, [[.int .i64 x]]⟩
noncomputable def C26 : Cs := (((((Cs.none.add 16 g16).add 24 g24).add 27 g27).add 31 g31).add 32 g32).add 33 g33
theorem C26_ok : C26.Ok Try.prog [] := Cs.add_ok (Cs.add_ok (Cs.add_ok (Cs.add_ok (Cs.add_ok (Cs.add_ok (Cs.none_ok _) en16 g16_ok) en24 g24_ok) en27 g27_ok) en31 g31_ok) en32 g32_ok) en33 g33_ok
attribute [simp] C26
noncomputable def cf26 : Cf := { N := 49, pr := pr26, dr := dr26, C := C26, It := Its.none.add 30 g30, kp := kp26, rf := true, stop := none, lid := 0 }
theorem g33_yes (a b : Int) (ha : inR a) (hb : inR b) : g33 [.agg [.int .i64 (-1)], .agg [.int .i64 a], .agg [.int .i64 b]] = some (.agg [.int .i64 a]) := by
  simp [g33, ha, hb, secV]
theorem g33_no (a b : Int) (ha : inR a) (hb : inR b) : g33 [.agg [.int .i64 0], .agg [.int .i64 a], .agg [.int .i64 b]] = some (.agg [.int .i64 b]) := by
  simp [g33, ha, hb, secV]
theorem g32_yes (a : Int) (ha : inR a) : g32 [.agg [.int .i64 a], .agg [.int .i64 a]] = some (.agg [.int .i64 (-1)]) := by
  simp [g32, ha, secV, eqBits]
theorem g32_no (a b : Int) (ha : inR a) (hb : inR b) (h : a ≠ b) : g32 [.agg [.int .i64 a], .agg [.int .i64 b]] = some (.agg [.int .i64 0]) := by
  simp [g32, ha, hb, secV, eqBits, h]
theorem g27_eq (a : Int) : g27 [.int .i64 a] = some (.agg [.int .i64 a]) := rfl

theorem rounds26 (t : Tab) (h : t.Ok) (w : Int) (hw : inR w) (Q : Ex → St → Prop) :
    ∀ (cs : List (Int × Int)) (k : Nat) (acc : Int × Int) (ob : List (Nat × Obj)) (z : List Nat), k + cs.length ≤ t.vals.length → (∀ x ∈ cs, 1 ≤ x.1 ∧ x.1 ≤ 16 ∧ 0 ≤ x.2 ∧ x.2 ≤ 16777216) → inR acc.1 → inR acc.2 →
      lk ob 2 = some (tabO t) → lk ob 3 = some (secO w) → lk ob 4 = some (secO 0) → lk ob 5 = some (secO 0) → lk ob 6 = some (secO acc.1) → lk ob 7 = some (secO acc.2) →
      (∀ s', s'.σ = [(2, .ptr 2 17 0 0), (3, .ptr 3 1 0 0), (4, .ptr 4 1 0 0), (5, .ptr 5 1 0 0), (6, .ptr 6 1 0 0), (7, .ptr 7 1 0 0)] → lk s'.co.ob 4 = some (secO 0) → lk s'.co.ob 5 = some (secO 0) →
        lk s'.co.ob 6 = some (secO (lastGo w (t.vals.drop k) cs acc).1) → lk s'.co.ob 7 = some (secO (lastGo w (t.vals.drop k) cs acc).2) → s'.gl = ⟨[], []⟩ → Q .normal s') →
      roundsQ Try.prog cf26 (nav rf26_5 [0]) (nav rf26_5 [1]) [20, 21] [2, 3, 4, 5, 6, 7] Q ((num k cs).map itemV) ⟨[(2, .ptr 2 17 0 0), (3, .ptr 3 1 0 0), (4, .ptr 4 1 0 0), (5, .ptr 5 1 0 0), (6, .ptr 6 1 0 0), (7, .ptr 7 1 0 0)], ⟨ob, z⟩, ⟨[], []⟩⟩ := by
  intro cs
  induction cs with
  | nil =>
    intro k acc ob z _ _ _ _ h1 h2 h3 h4 h5 h6 hA
    simp [num]
    have e : lastGo w (t.vals.drop k) [] acc = acc := by cases t.vals.drop k <;> rfl
    exact hA _ rfl h3 h4 (by rw [e]; exact h5) (by rw [e]; exact h6) rfl
  | cons x cs ih =>
    intro k acc ob z hk hx ha1 ha2 h1 h2 h3 h4 h5 h6 hA
    obtain ⟨n, c⟩ := x
    have hxx := hx (n, c) (by simp)
    have hlt : k < t.vals.length := by simp at hk; omega
    obtain ⟨v, hv⟩ : ∃ v, t.vals[k]? = some v := ⟨t.vals[k], by simp [hlt]⟩
    have hvr := h.vals v (List.mem_of_getElem? hv)
    have hvg : t.vals[k]'hlt = v := by rw [List.getElem?_eq_getElem hlt] at hv; exact Option.some.inj hv
    have hd : t.vals.drop k = v :: t.vals.drop (k + 1) := by
      rw [List.drop_eq_getElem_cons hlt]
      rw [List.getElem?_eq_getElem hlt] at hv
      rw [Option.some.inj hv]
    have hc16 := h.cnt
    have w1 := wrap_in (16 - n) (by omega) (by omega)
    have wv := wrap_in v (by omega) (by omega)
    have hcR : inR c := by unfold inR; omega
    have hnR : inR n := by unfold inR; omega
    have hvR : inR v := by unfold inR; omega
    have e31 : g31 [.agg [.int .i64 w], .int .i64 (16 - n)] = some (.agg [.int .i64 (w.fdiv (2 ^ (16 - n).toNat))]) := by
      simp only [g31, if_pos (show 0 ≤ 16 - n ∧ 16 - n ≤ 63 by omega), secV]
    have hfR := inR_fdiv w hw (16 - n).toNat
    have e27 := g27_eq
    simp only [secO] at h2 h3 h4 h5 h6
    simp only [num, List.map_cons, itemV, roundsQ]
    refine ⟨rfl, ?_⟩
    rw [hd] at hA
    simp only [lastGo] at hA
    simp only [rf26_5, b26, Try.f26, nav, Option.getD_some, if_true, if_false, Nat.reduceEqDiff]
    by_cases he : w.fdiv (2 ^ (16 - n).toNat) = c
    · rw [if_pos he] at hA
      rw [he] at e31
      have e32 := g32_yes c hcR
      have e33 := g33_yes v acc.1 hvR ha1
      have e33' := g33_yes n acc.2 hnR ha2
      simp (maxSteps := 2000000) [cf26, ty55, ty2, h1, h2, h3, h4, h5, h6, hv, hc16, hvr, w1, wv, hlt, hvg, e27, e31, e32, e33, e33']
      refine ⟨by kernel_rfl, by kernel_rfl, by kernel_rfl, ?_⟩
      exact ih (k + 1) (v, n) _ _ (by simp at hk; omega) (fun y hy => hx y (by simp [hy])) hvR hnR (by simp [lk, tabO]) (by simp [lk, secO]) (by simp [lk, secO]) (by simp [lk, secO]) (by simp [lk, secO]) (by simp [lk, secO]) hA
    · rw [if_neg he] at hA
      have e32 := g32_no _ c hfR hcR he
      have e33 := g33_no v acc.1 hvR ha1
      have e33' := g33_no n acc.2 hnR ha2
      simp (maxSteps := 2000000) [cf26, ty55, ty2, h1, h2, h3, h4, h5, h6, hv, hc16, hvr, w1, wv, hlt, hvg, e27, e31, e32, e33, e33']
      refine ⟨by kernel_rfl, by kernel_rfl, by kernel_rfl, ?_⟩
      exact ih (k + 1) acc _ _ (by simp at hk; omega) (fun y hy => hx y (by simp [hy])) ha1 ha2 (by simp [lk, tabO]) (by simp [lk, secO]) (by simp [lk, secO]) (by simp [lk, secO]) (by simp [lk, secO]) (by simp [lk, secO]) hA
def sec2 (x : Int × Int) : V := .tup [secV x.1, secV x.2]
theorem findGo_mem (w : Int) : ∀ (vs : List Int) (cs : List (Int × Int)), findGo w vs cs = (0, 0) ∨ (∃ x ∈ cs, (findGo w vs cs).1 ∈ vs ∧ (findGo w vs cs).2 = x.1) := by
  intro vs
  induction vs with
  | nil => intro cs; left; cases cs <;> rfl
  | cons v vs ih =>
    intro cs
    cases cs with
    | nil => exact .inl rfl
    | cons x cs =>
      obtain ⟨n, c⟩ := x
      simp only [findGo]
      by_cases h : w.fdiv (2 ^ (16 - n).toNat) = c
      · rw [if_pos h]; exact .inr ⟨(n, c), by simp, by simp, rfl⟩
      · rw [if_neg h]
        rcases ih cs with e | ⟨y, hy, h1, h2⟩
        · exact .inl e
        · exact .inr ⟨y, by simp [hy], List.mem_cons_of_mem _ h1, h2⟩
def g26 (vs : List V) : Option V :=
  match vs with
  | [v, .agg [.int .i64 w]] => if inR w then (decTab v).map fun t => sec2 (findT t w) else none
  | _ => none
theorem g26_ok (vs : List V) (r : V) (h : g26 vs = some r) : CallR Try.prog [] 26 vs r := by
  unfold g26 at h
  split at h <;> try (cases h; done)
  rename_i v w
  split at h <;> try (cases h; done)
  rename_i hw
  simp only [Option.map_eq_some_iff] at h
  obtain ⟨t, ht, rfl⟩ := h
  obtain ⟨rfl, h0⟩ := decTab_spec ht
  have h2 := h0.cnt
  have hg24 := g24_eq t h0
  have hg16 := g16_eq t h0
  have e27 := g27_eq
  refine callR_of_wpA mixed (cf := cf26) (ow := false) at26 bd26 (by kernel_rfl) (by simp [cf26]) rfl C26_ok (Its.add_ok (Its.none_ok _) en30 g30_ok) ?_
  simp only [b26, nav, Option.getD_some, if_true, if_false, Nat.reduceEqDiff]
  generalize hE : endQ Try.prog Try.f26 false (sec2 (findT t w)) = E
  simp only [Try.f26, Option.getD_some, Tab.enc]
  cases hck : checkT t with
  | false =>
    have hf : findT t w = (0, 0) := by unfold findT; rw [if_pos (.inr hck)]
    simp (maxSteps := 1000000) [cf26, ty55, ty2, h2, hg16, hck, e27]
    refine ⟨by kernel_rfl, ?_⟩
    rw [← hE, hf]
    simp [Try.f26, sec2, secV, ty55]
  | true =>
    have hf := find_last t h0 w hck
    obtain ⟨hok, hsum, _, _⟩ := checkT_spec hck
    have hlen := codesL_length t.cnt 1 0 hok
    simp (maxSteps := 1000000) [cf26, ty55, ty2, h2, hg16, hck, e27, hg24]
    refine wpA_range (items := (num 0 (codesOf t.cnt)).map itemV) (by simp; exact ⟨rfl, rfl, rfl⟩) (by kernel_rfl) (by simp [g30_eq t h0 hok]) ?_
    refine rounds26 t h0 w hw _ (codesOf t.cnt) 0 (0, 0) _ _ (by unfold codesOf; omega) (codesOf_mem hok h2) (by decide) (by decide) (by simp [lk, tabO]) (by simp [lk, secO]) (by simp [lk, secO]) (by simp [lk, secO]) (by simp [lk, secO]) (by simp [lk, secO]) ?_
    intro s2 hσ ho4 ho5 ho6 ho7 hgl
    obtain ⟨σ, ⟨ob, z⟩, gl⟩ := s2
    simp only at hσ ho4 ho5 ho6 ho7 hgl
    subst hσ hgl
    rw [List.drop_zero, hf] at ho6 ho7
    simp only [secO] at ho4 ho5 ho6 ho7
    simp (maxSteps := 1000000) [ho4, ho5, ho6, ho7, ty55, ty2]
    refine ⟨by kernel_rfl, ?_⟩
    rw [← hE]
    simp [Try.f26, sec2, secV, ty55]
theorem g26_eq (t : Tab) (h : t.Ok) (w : Int) (hw : inR w) : g26 [.agg (iv t.cnt ++ [.sl false t.nl 1 (bv t.vals)]), .agg [.int .i64 w]] = some (sec2 (findT t w)) := by
  have := decTab_enc t h
  unfold Tab.enc at this
  simp only [g26, this, Option.map_some, if_pos hw]
end Go.Ai

namespace Go.Ai
open Go Go.Proofs
set_option maxRecDepth 100000
set_option maxHeartbeats 4000000
set_option linter.unusedSimpArgs false
set_option linter.unusedVariables false
set_option pp.deepTerms false
-- TABLES 25
def pr25 : Nat → List Pr
  | 0 => [.keep [0, 1] []]
  | 1 => [.keep [1, 2] [2]]
  | 2 => [.keep [] []]
  | 3 => [.keep [1, 2] [2]]
  | 4 => [.keep [1, 6] [6]]
  | 5 => [.keep [1, 6, 7] [6]]
  | 7 => [.keep [1, 6, 7] [6]]
  | 8 => [.keep [6, 7] [6]]
  | 6 => [.keep [1, 6, 7] [6]]
  | 9 => [.keep [] []]
  | _ => []
def dr25 : Nat → Dr
  | 7 => ⟨[[], [0], [1, 0], [2, 1, 0], [3, 2, 1, 0], [4, 3, 2, 1, 0], [5, 4, 3, 2, 1, 0], [5, 4, 3, 2, 1, 0], [7, 5, 4, 3, 2, 1, 0], [8, 7, 5, 4, 3, 2, 1, 0], [9, 8, 7, 5, 4, 3, 2, 1, 0], [10, 9, 8, 7, 5, 4, 3, 2, 1, 0], [11, 10, 9, 8, 7, 5, 4, 3, 2, 1, 0], [12, 11, 10, 9, 8, 7, 6, 5, 4, 3, 2, 1, 0], [5, 4, 3, 2, 1, 0], [14, 5, 4, 3, 2, 1, 0], [15, 14, 5, 4, 3, 2, 1, 0], [16, 15, 14, 5, 4, 3, 2, 1, 0], [17, 16, 15, 14, 13, 12, 11, 10, 9, 8, 7, 6, 5, 4, 3, 2, 1, 0], [18, 17, 16, 15, 14, 13, 12, 11, 10, 9, 8, 7, 6, 5, 4, 3, 2, 1, 0]], [], [], []⟩
  | 8 => ⟨[[], [], [1], [2, 1], [3, 2, 1], [0], [5, 4, 3, 2, 1, 0]], [], [], []⟩
  | _ => ⟨[], [], [], []⟩
theorem ck25_7 : chkDr (opsAt b25 7) (dr25 7) = true := by kernel_rfl
theorem ck25_8 : chkDr (opsAt b25 8) (dr25 8) = true := by kernel_rfl
def kp25 : List Nat → List Nat
  | _ => []
-- END
attribute [simp] pr25 dr25 kp25
noncomputable def C25 : Cs := Cs.none.add 23 g23
theorem C25_ok : C25.Ok Try.prog [] := Cs.add_ok (Cs.none_ok _) en23 g23_ok
attribute [simp] C25
noncomputable def cf25 : Cf := { N := 45, pr := pr25, dr := dr25, C := C25, It := Its.none, kp := kp25, rf := true, stop := none, lid := 0 }

def fitsAt (w : Int) (L : List Int) (i : Nat) : Prop := ∃ n c, L[i * 2]? = some n ∧ L[i * 2 + 1]? = some c ∧ 0 < n ∧ w.fdiv (2 ^ (16 - n).toNat) = c
theorem find_no (t : Tab) (h : t.Ok) (w : Int) (hn : ∀ i : Nat, i < 256 → ¬ fitsAt w (codesT t) i) : findT t w = (0, 0) := by
  unfold findT
  split
  · rfl
  · rename_i hnn
    have hck : checkT t = true := by
      cases hc : checkT t with
      | true => rfl
      | false => exact absurd (.inr hc) hnn
    have hg := (checkT_good t h).1 hck
    have hmm := codesOf_mem hg.cnt h.cnt
    have hlen := codesL_length t.cnt 1 0 hg.cnt
    have hsum := hg.sum
    refine findGo_no w _ _ fun x hx he => ?_
    obtain ⟨k, hk⟩ := List.getElem?_of_mem hx
    have hkl : k < (codesOf t.cnt).length := (List.getElem?_eq_some_iff.1 hk).1
    have hkv : k < t.vals.length := by unfold codesOf at hkl; omega
    obtain ⟨v, hv⟩ : ∃ v, t.vals[k]? = some v := ⟨t.vals[k], List.getElem?_eq_getElem hkv⟩
    have hvr := h.vals v (List.mem_of_getElem? hv)
    obtain ⟨n, c⟩ := x
    obtain ⟨a1, a2⟩ := codesArr_at t.vals (codesOf t.cnt) (rep 512 0) h.vals (by simp) hg.nodup k _ n c hv hk
    have h1 := hmm _ hx
    refine hn v.toNat (by omega) ⟨n, c, ?_, ?_, by simp only at h1; omega, he⟩
    · unfold codesT; rw [if_pos hck]; exact a1
    · unfold codesT; rw [if_pos hck]; exact a2

theorem loop25 (t : Tab) (h : t.Ok) (L : List Int) (hL : L = codesT t) (hl : L.length = 512) (hs7 : Says t L) (w : Int) (hw0 : 0 ≤ w) (hw1 : w ≤ 65535) (Q : Ex → St → Prop) :
    ∀ (m i : Nat) (s : St), i + m = 256 → (∀ j : Nat, j < i → ¬ fitsAt w L j) →
      prep (pr25 5) s = ⟨[(1, .int .i64 w), (6, .ptr 6 512 0 0), (7, .int .i64 i)], ⟨[(6, ⟨false, false, 34, 512, [iv L]⟩)], []⟩, ⟨[], []⟩⟩ →
      (∀ s', findT t w = (0, 0) → prep (pr25 9) s' = ⟨[], ⟨[], []⟩, ⟨[], []⟩⟩ → Q (.exit 0) s') →
      (∀ s', endQ Try.prog Try.f25 false (tup2 (findT t w)) .ret s' → Q .ret s') →
      wpA Try.prog cf25 lp25_5 s Q := by
  intro m
  induction m with
  | zero =>
    intro i s hi hno hs hA hB
    have hi' : i = 256 := by omega
    subst hi'
    unfold lp25_5
    simp only [b25, Try.f25, nav, Option.getD_some, if_true, if_false, Nat.reduceEqDiff]
    rw [wpA_loop]
    simp only [pr25] at hs
    simp [cf25, hs]
    exact hA _ (find_no t h w (hL ▸ hno)) (by simp)
  | succ m ih =>
    intro i s hi hno hs hA hB
    have hi2 : (i : Int) < 256 := by omega
    have hi3 : i < 256 := by omega
    have hlt : i * 2 < L.length := by omega
    have hlt1 : i * 2 + 1 < L.length := by omega
    obtain ⟨n, c, hn, hc, hor⟩ := hs7 i hi3
    have hng : L[i * 2]'hlt = n := by rw [List.getElem?_eq_getElem hlt] at hn; exact Option.some.inj hn
    have hcg : L[i * 2 + 1]'hlt1 = c := by rw [List.getElem?_eq_getElem hlt1] at hc; exact Option.some.inj hc
    have w1 := wrap_in ((i : Int) + 1) (by omega) (by omega)
    have hnext : ¬ fitsAt w L i → ∀ j : Nat, j < i + 1 → ¬ fitsAt w L j := by
      intro h1 j hj
      rcases Nat.lt_or_eq_of_le (Nat.le_of_lt_succ hj) with h2 | rfl
      · exact hno j h2
      · exact h1
    unfold lp25_5
    simp only [b25, Try.f25, nav, Option.getD_some, if_true, if_false, Nat.reduceEqDiff]
    rw [wpA_loop]
    simp only [pr25] at hs
    by_cases h0 : n = 0
    · subst h0
      simp [cf25, hs, hi2, hi3, hl, hn, hng, w1]
      refine ⟨by kernel_rfl, ?_⟩
      exact ih (i + 1) _ (by omega) (hnext (by rintro ⟨n', c', e1, e2, e3, e4⟩; rw [hn] at e1; cases e1; omega)) (by simp [pr25]) hA hB
    · obtain ⟨n1, n2, hc0', cu, hf⟩ := hor.resolve_left h0
      have hn1 : 0 < n := by omega
      have w16 := wrap_in (16 - n) (by omega) (by omega)
      have wu16 := u64_in (16 - n) (by omega) (by omega)
      have hneg : ¬ 16 - n < 0 := by omega
      have hn2 : ¬ 16 < n := by omega
      have hmin : min (16 - n).toNat IntKind.i64.bits = (16 - n).toNat := Nat.min_eq_left (by simp [IntKind.bits]; omega)
      by_cases he : w.fdiv (2 ^ (16 - n).toNat) = c
      · obtain ⟨q1, q2⟩ := (fdiv_eq w c _ (Int.pow_pos (by omega))).1 he
        have hff := hf w hw0 hw1 q1 q2
        simp (maxSteps := 1000000) [cf25, hs, hi2, hi3, hl, hn, hng, hc, hcg, hlt, hlt1, w1, h0, hn1, hn2, w16, wu16, hneg, hmin, ty38, he]
        refine ⟨by kernel_rfl, by kernel_rfl, ?_⟩
        exact hB _ (by rw [hff]; simp [Try.f25, tup2])
      · simp (maxSteps := 1000000) [cf25, hs, hi2, hi3, hl, hn, hng, hc, hcg, hlt, hlt1, w1, h0, hn1, hn2, w16, wu16, hneg, hmin, ty38, he]
        refine ⟨by kernel_rfl, ?_⟩
        exact ih (i + 1) _ (by omega) (hnext (by rintro ⟨n', c', e1, e2, e3, e4⟩; rw [hn] at e1; cases e1; rw [hc] at e2; cases e2; exact he e4)) (by simp [pr25]) hA hB

def g25 (vs : List V) : Option V :=
  match vs with
  | [v, .int .i64 w] => (decTab v).map fun t => tup2 (findT t w)
  | _ => none
theorem g25_ok (vs : List V) (r : V) (h : g25 vs = some r) : CallR Try.prog [] 25 vs r := by
  unfold g25 at h
  split at h <;> try (cases h; done)
  rename_i v w
  simp only [Option.map_eq_some_iff] at h
  obtain ⟨t, ht, rfl⟩ := h
  obtain ⟨rfl, h0⟩ := decTab_spec ht
  have h2 := h0.cnt
  have e23 := g23_eq t h0
  have hl := codesT_length t h0
  refine callR_of_wpA mixed (cf := cf25) (ow := false) at25 bd25 (by kernel_rfl) (by simp [cf25]) rfl C25_ok (Its.none_ok _) ?_
  simp only [b25, nav, Option.getD_some, if_true, if_false, Nat.reduceEqDiff]
  generalize hE : endQ Try.prog Try.f25 false (tup2 (findT t w)) = E
  simp only [Try.f25, Option.getD_some, Tab.enc]
  by_cases hw0 : w < 0
  · have hf : findT t w = (0, 0) := by unfold findT; rw [if_pos (.inl (.inl hw0))]
    simp [cf25, h2, hw0]
    rw [← hE, hf]
    simp [Try.f25, tup2]
  · by_cases hw1 : 65535 < w
    · have hf : findT t w = (0, 0) := by unfold findT; rw [if_pos (.inl (.inr hw1))]
      simp [cf25, h2, hw0, hw1]
      rw [← hE, hf]
      simp [Try.f25, tup2]
    · simp [cf25, h2, hw0, hw1, e23, hl]
      refine loop25 t h0 (codesT t) rfl hl (says t h0) w (by omega) (by omega) _ 256 0 _ (by omega) (fun j hj => by omega) (by simp [pr25]) ?_ ?_
      · intro s' hf hs'
        simp only [pr25] at hs'
        simp [hs']
        rw [← hE, hf]
        simp [Try.f25, tup2]
      · intro s' he
        simp
        rw [← hE]
        exact he
theorem g25_eq (t : Tab) (h : t.Ok) (w : Int) : g25 [.agg (iv t.cnt ++ [.sl false t.nl 1 (bv t.vals)]), .int .i64 w] = some (tup2 (findT t w)) := by
  have := decTab_enc t h
  unfold Tab.enc at this
  simp only [g25, this, Option.map_some]
end Go.Ai

namespace Go.Ai
open Go Go.Proofs
set_option maxRecDepth 100000
set_option maxHeartbeats 4000000
set_option linter.unusedSimpArgs false
set_option linter.unusedVariables false
set_option pp.deepTerms false
-- TABLES 35
def pr35 : Nat → List Pr
  | 0 => [.keep [0, 1] []]
  | 1 => [.keep [0, 3, 4] [3, 4]]
  | 2 => [.keep [0, 3, 4, 5] [3, 4, 5]]
  | 3 => [.keep [3, 4, 5, 9, 10, 11] [3, 4, 5]]
  | 4 => [.keep [3, 4, 5, 9, 10, 11] [3, 4, 5]]
  | 5 => [.keep [3, 4, 5, 6, 7, 9, 10, 11] [3, 4, 5]]
  | 6 => [.keep [3, 4, 5, 9, 10, 11] [3, 4, 5]]
  | 7 => [.keep [4, 5] [4, 5]]
  | _ => []
def dr35 : Nat → Dr
  | 5 => ⟨[[], [], [1, 0], [], [3, 2, 1, 0], [], [5, 4, 3, 2, 1, 0], [6, 5, 4, 3, 2, 1, 0]], [], [(7, [])], [18, 20, 22]⟩
  | _ => ⟨[], [], [], []⟩
theorem ck35_5 : chkDr (opsAt b35 5) (dr35 5) = true := by kernel_rfl
def kp35 : List Nat → List Nat
  | _ => []
-- END
attribute [simp] pr35 dr35 kp35
def lI (l : List Int) : List (List V) := l.map fun n => [.int .i64 n]
theorem lI_get (l : List Int) (i : Nat) : (lI l)[i]? = (l[i]?).map fun n => [.int .i64 n] := by simp [lI]
theorem lI_length (l : List Int) : (lI l).length = l.length := by simp [lI]
theorem lI_snoc (l : List Int) (x : Int) : lI l ++ [[.int .i64 x]] = lI (l ++ [x]) := by simp [lI]
theorem lI_isEmpty (l : List Int) : (lI l).isEmpty = l.isEmpty := by cases l <;> rfl
theorem lI_nil : lI [] = [] := rfl
attribute [simp high] lI_get
attribute [simp] lI_length lI_snoc lI_isEmpty lI_nil
def decI : List (List V) → Option (List Int)
  | [] => some []
  | [.int .i64 n] :: r => if inR n then (decI r).map (n :: ·) else none
  | _ => none
theorem decI_lI (l : List Int) (h : ∀ v ∈ l, inR v) : decI (lI l) = some l := by
  induction l with
  | nil => rfl
  | cons x r ih =>
    have h1 := h x (by simp)
    have h2 := ih fun v hv => h v (by simp [hv])
    simp only [lI] at h2 ⊢
    simp only [List.map_cons, decI, h1, if_true, h2, Option.map_some]
theorem decI_spec {es : List (List V)} {l : List Int} (h : decI es = some l) : es = lI l ∧ ∀ v ∈ l, inR v := by
  induction es generalizing l with
  | nil => simp [decI] at h; subst h; exact ⟨rfl, by simp⟩
  | cons e r ih =>
    unfold decI at h
    split at h
    · rename_i h0; cases h0
    · rename_i n r' h0
      cases h0
      split at h
      · rename_i hn
        simp only [Option.map_eq_some_iff] at h
        obtain ⟨m, hm, rfl⟩ := h
        obtain ⟨h1, h2⟩ := ih hm
        refine ⟨by rw [h1]; rfl, ?_⟩
        intro v hv
        rcases List.mem_cons.1 hv with rfl | hv
        · exact hn
        · exact h2 v hv
      · cases h
    · cases h
/-- what stands at a secret place, nought where none is -/
def lookGo (x : Int) : List Int → Int → Int → Int
  | [], _, acc => acc
  | v :: l, i, acc => lookGo x l (i + 1) (if x = i then v else acc)
def lookT (l : List Int) (x : Int) : Int := lookGo x l 0 0
noncomputable def C35 : Cs := ((Cs.none.add 27 g27).add 33 g33).add 39 g39
theorem C35_ok : C35.Ok Try.prog [] := Cs.add_ok (Cs.add_ok (Cs.add_ok (Cs.none_ok _) en27 g27_ok) en33 g33_ok) en39 g39_ok
attribute [simp] C35
noncomputable def cf35 : Cf := { N := 25, pr := pr35, dr := dr35, C := C35, It := Its.none, kp := kp35, rf := true, stop := none, lid := 0 }
theorem g39_yes (a : Int) (ha : inR a) : g39 [.agg [.int .i64 a], .int .i64 a] = some (.agg [.int .i64 (-1)]) := by
  simp [g39, ha, secV, eqBits]
theorem g39_no (a b : Int) (ha : inR a) (hb : inR b) (h : a ≠ b) : g39 [.agg [.int .i64 a], .int .i64 b] = some (.agg [.int .i64 0]) := by
  simp [g39, ha, hb, secV, eqBits, h]
theorem loop35 (nl : Bool) (L : List Int) (hlen : L.length ≤ 1000000) (x : Int) (hx : inR x) (Q : Ex → St → Prop) :
    ∀ (r : List Int) (i : Nat) (acc : Int) (s : St), L.drop i = r → i ≤ L.length → (∀ v ∈ r, inR v) → inR acc →
      prep (pr35 3) s = ⟨[(3, .ptr 3 1 0 0), (4, .ptr 4 1 0 0), (5, .ptr 5 1 0 0), (9, .sl false nl 1 (lI L)), (10, .int .i64 L.length), (11, .int .i64 i)], ⟨[(3, secO x), (4, secO 0), (5, secO acc)], []⟩, ⟨[], []⟩⟩ →
      (∀ s', prep (pr35 7) s' = ⟨[(4, .ptr 4 1 0 0), (5, .ptr 5 1 0 0)], ⟨[(4, secO 0), (5, secO (lookGo x r i acc))], []⟩, ⟨[], []⟩⟩ → Q (.exit 0) s') →
      wpA Try.prog cf35 lp35_3 s Q := by
  intro r
  induction r with
  | nil =>
    intro i acc s hd hi hr ha hs hA
    have hi' : i = L.length := by
      have := congrArg List.length hd
      simp at this; omega
    unfold lp35_3
    simp only [b35, Try.f35, nav, Option.getD_some, if_true, if_false, Nat.reduceEqDiff]
    rw [wpA_loop]
    simp only [pr35, secO] at hs
    simp [cf35, hs, hi']
    exact hA _ (by simp [secO, lookGo])
  | cons v r ih =>
    intro i acc s hd hi hr ha hs hA
    have hlt : i < L.length := by
      have := congrArg List.length hd
      simp at this; omega
    have hlt' : (i : Int) < L.length := by omega
    have hv : L[i]? = some v := by
      have h1 : (L.drop i)[0]? = some v := by rw [hd]; rfl
      rw [List.getElem?_drop] at h1; simpa using h1
    have hvg : L[i]'hlt = v := by rw [List.getElem?_eq_getElem hlt] at hv; exact Option.some.inj hv
    have hd' : L.drop (i + 1) = r := by
      have := congrArg List.tail hd
      simpa using this
    have hvR := hr v (by simp)
    have hiR : inR (i : Int) := by unfold inR; omega
    have w1 := wrap_in ((i : Int) + 1) (by omega) (by omega)
    have e27 := g27_eq
    unfold lp35_3
    simp only [b35, Try.f35, nav, Option.getD_some, if_true, if_false, Nat.reduceEqDiff]
    rw [wpA_loop]
    simp only [pr35, secO] at hs
    by_cases he : x = i
    · have e39 : g39 [.agg [.int .i64 x], .int .i64 (i : Int)] = some (.agg [.int .i64 (-1)]) := by rw [← he]; exact g39_yes x hx
      have e33 := g33_yes v acc hvR ha
      have hAx : ∀ s', prep (pr35 7) s' = ⟨[(4, .ptr 4 1 0 0), (5, .ptr 5 1 0 0)], ⟨[(4, secO 0), (5, secO (lookGo x r (i + 1 : Nat) v))], []⟩, ⟨[], []⟩⟩ → Q (.exit 0) s' := by
        intro s' h1
        refine hA s' ?_
        rw [h1]; simp [lookGo, he]
      clear he
      simp (maxSteps := 1000000) [cf35, hs, hlt, hlt', hv, hvg, w1, e27, e39, e33, ty55, ty2, ty64]
      refine ⟨by kernel_rfl, ?_⟩
      exact ih (i + 1) v _ hd' (by omega) (fun y hy => hr y (by simp [hy])) hvR (by simp [pr35, secO]) hAx
    · have e39 := g39_no x i hx hiR he
      have e33 := g33_no v acc hvR ha
      have hAx : ∀ s', prep (pr35 7) s' = ⟨[(4, .ptr 4 1 0 0), (5, .ptr 5 1 0 0)], ⟨[(4, secO 0), (5, secO (lookGo x r (i + 1 : Nat) acc))], []⟩, ⟨[], []⟩⟩ → Q (.exit 0) s' := by
        intro s' h1
        refine hA s' ?_
        rw [h1]; simp [lookGo, he]
      simp (maxSteps := 1000000) [cf35, hs, hlt, hlt', hv, hvg, w1, e27, e39, e33, ty55, ty2, ty64]
      refine ⟨by kernel_rfl, ?_⟩
      exact ih (i + 1) acc _ hd' (by omega) (fun y hy => hr y (by simp [hy])) ha (by simp [pr35, secO]) hAx

def g35 (vs : List V) : Option V :=
  match vs with
  | [.sl false nl 1 es, .agg [.int .i64 x]] => if inR x ∧ es.length ≤ 1000000 then (decI es).map fun l => secV (lookT l x) else none
  | _ => none
theorem g35_ok (vs : List V) (r : V) (h : g35 vs = some r) : CallR Try.prog [] 35 vs r := by
  unfold g35 at h
  split at h <;> try (cases h; done)
  rename_i nl es x
  split at h <;> try (cases h; done)
  rename_i hx
  simp only [Option.map_eq_some_iff] at h
  obtain ⟨l, hl, rfl⟩ := h
  obtain ⟨rfl, hr⟩ := decI_spec hl
  have hlen : l.length ≤ 1000000 := by simpa using hx.2
  have e27 := g27_eq
  refine callR_of_wpA mixed (cf := cf35) (ow := false) at35 bd35 (by kernel_rfl) (by simp [cf35]) rfl C35_ok (Its.none_ok _) ?_
  simp only [b35, nav, Option.getD_some, if_true, if_false, Nat.reduceEqDiff]
  generalize hE : endQ Try.prog Try.f35 false (secV (lookT l x)) = E
  simp only [Try.f35, Option.getD_some]
  simp (maxSteps := 1000000) [cf35, e27, ty55, ty2, ty64]
  refine loop35 nl l (by omega) x hx.1 _ l 0 0 _ (by simp) (by omega) hr (by decide) (by simp [pr35, secO]) ?_
  intro s' hs'
  simp only [pr35, secO] at hs'
  simp [hs', ty55, ty2]
  rw [← hE]
  simp [Try.f35, secV, ty55, lookT]
theorem g35_eq (nl : Bool) (l : List Int) (x : Int) (hl : ∀ v ∈ l, inR v) (hlen : l.length ≤ 1000000) (hx : inR x) : g35 [.sl false nl 1 (lI l), .agg [.int .i64 x]] = some (.agg [.int .i64 (lookT l x)]) := by
  simp only [g35, lI_length, hx, hlen, and_self, if_true, decI_lI l hl, Option.map_some, secV]
noncomputable def k35 : List V → Option V := lentG g35
theorem k35_ok (vs : List V) (r : V) (h : k35 vs = some r) : CallR Try.prog [] 35 vs r := lentG_ok g35_ok vs r h
theorem k35_eq (nl : Bool) (l : List Int) (x : Int) (hl : ∀ v ∈ l, inR v) (hlen : l.length ≤ 1000000) (hx : inR x) : k35 [.sl true nl 1 (lI l), .agg [.int .i64 x]] = some (.agg [.int .i64 (lookT l x)]) := by
  have h1 : g35 [.sl true nl 1 (lI l), .agg [.int .i64 x]] = none := rfl
  have e : ([.sl true nl 1 (lI l), .agg [.int .i64 x]] : List V).map V.shr = [.sl false nl 1 (lI l), .agg [.int .i64 x]] := by
    simp [V.shr, shrL]
  unfold k35 lentG
  rw [h1, e, g35_eq nl l x hl hlen hx]
  simp [V.plain, plainL]
end Go.Ai
