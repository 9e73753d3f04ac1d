/- The contract of Find, and of HuffPrefix: no code begins another, and none is of ones alone. -/
import Derived.Test.YtghhjkblhchhmaaDe
namespace Go.Ai
open Go Go.Proofs
set_option maxRecDepth 100000
set_option maxHeartbeats 4000000
set_option linter.unusedSimpArgs false
set_option linter.unusedVariables false
set_option pp.deepTerms false
-- TABLES 17 (by hand: at region 7 the operations 6 and 7 hide object 4)
def pr17 : Nat → List Pr
  | 0 => [.keep [0, 1] []]
  | 1 => [.keep [2, 3, 4, 5] [2, 3, 4, 5]]
  | 2 => [.keep [4, 5] [4, 5]]
  | 3 => [.keep [2, 3, 4, 5] [2, 3, 4, 5]]
  | 4 => [.keep [2, 3, 4, 5, 21, 22] [2, 3, 4, 5]]
  | 5 => [.keep [2, 3, 4, 5, 6, 22] [2, 3, 4, 5]]
  | 6 => [.keep [2, 3, 4, 5, 6, 7] [2, 3, 4, 5, 7]]
  | 7 => [.keep [2, 4, 5, 6, 7] [2, 4, 5, 7]]
  | 8 => [.keep [4, 5] [4, 5]]
  | _ => []
def dr17 : Nat → Dr
  | 6 => ⟨[[], [], [1], [2, 1], [3, 2, 1, 0], [], [5], [6, 5, 4, 3, 2, 1, 0]], [], [], []⟩
  | 7 => ⟨[[], [0], [], [2, 1, 0], [3, 2, 1, 0], [4, 3, 2, 1, 0], [], [6], [5, 4, 3, 2, 1, 0], [8, 7, 6, 5, 4, 3, 2, 1, 0]], [[], [], [], [], [], [], [4], [4]], [(8, [6, 7]), (9, [])], []⟩
  | _ => ⟨[], [], [], []⟩
theorem ck17_6 : chkDr (opsAt b17 6) (dr17 6) = true := by kernel_rfl
theorem ck17_7 : chkDr (opsAt b17 7) (dr17 7) = true := by kernel_rfl
def kp17 : List Nat → List Nat
  | [21, 22] => [2, 3, 4, 5]
  | _ => []
-- END
attribute [simp] pr17 dr17 kp17
noncomputable def C17 : Cs := (Cs.none.add 24 g24).add 16 g16
theorem C17_ok : C17.Ok Try.prog [] := Cs.add_ok (Cs.add_ok (Cs.none_ok _) en24 g24_ok) en16 g16_ok
attribute [simp] C17
noncomputable def cf17 : Cf := { N := 39, pr := pr17, dr := dr17, C := C17, It := Its.none.add 30 g30, kp := kp17, rf := true, stop := none, lid := 0 }

/-- the first value whose code begins the bits -/
def findGo (w : Int) : List Int → List (Int × Int) → Int × Int
  | v :: vs, (n, c) :: cs => if w.fdiv (2 ^ (16 - n).toNat) = c then (v, n) else findGo w vs cs
  | _, _ => (0, 0)
def findT (t : Tab) (w : Int) : Int × Int := if (w < 0 ∨ 65535 < w) ∨ checkT t = false then (0, 0) else findGo w t.vals (codesOf t.cnt)
def i64O (n : Int) : Obj := ⟨false, false, 3, 1, [[.int .i64 n]]⟩
def tup2 (x : Int × Int) : V := .tup [.int .i64 x.1, .int .i64 x.2]

theorem rounds17 (t : Tab) (h : t.Ok) (w : Int) (Q : Ex → St → Prop) :
    ∀ (cs : List (Int × Int)) (k : Nat) (ob : List (Nat × Obj)) (z : List Nat), k + cs.length ≤ t.vals.length → (∀ x ∈ cs, 1 ≤ x.1 ∧ x.1 ≤ 16 ∧ 0 ≤ x.2 ∧ x.2 ≤ 16777216) →
      lk ob 2 = some (tabO t) → lk ob 3 = some (i64O w) → lk ob 4 = some (i64O 0) → lk ob 5 = some (i64O 0) →
      (∀ s', findGo w (t.vals.drop k) cs = (0, 0) → s'.σ = [(2, .ptr 2 17 0 0), (3, .ptr 3 1 0 0), (4, .ptr 4 1 0 0), (5, .ptr 5 1 0 0)] → lk s'.co.ob 4 = some (i64O 0) → lk s'.co.ob 5 = some (i64O 0) → s'.gl = ⟨[], []⟩ → Q .normal s') →
      (∀ s', endQ Try.prog Try.f17 false (tup2 (findGo w (t.vals.drop k) cs)) .ret s' → Q .ret s') →
      roundsQ Try.prog cf17 (nav rf17_4 [0]) (nav rf17_4 [1]) [21, 22] [2, 3, 4, 5] Q ((num k cs).map itemV) ⟨[(2, .ptr 2 17 0 0), (3, .ptr 3 1 0 0), (4, .ptr 4 1 0 0), (5, .ptr 5 1 0 0)], ⟨ob, z⟩, ⟨[], []⟩⟩ := by
  intro cs
  induction cs with
  | nil =>
    intro k ob z _ _ h1 h2 h3 h4 hA hB
    simp [num]
    exact hA _ (by cases h : t.vals.drop k <;> rfl) rfl h3 h4 rfl
  | cons x cs ih =>
    intro k ob z hk hx h1 h2 h3 h4 hA hB
    obtain ⟨n, c⟩ := x
    have hxx := hx (n, c) (by simp)
    have hlt : k < t.vals.length := by simp at hk; omega
    obtain ⟨v, hv⟩ : ∃ v, t.vals[k]? = some v := ⟨t.vals[k], by simp [hlt]⟩
    have hvr := h.vals v (List.mem_of_getElem? hv)
    have hvg : t.vals[k]'hlt = v := by rw [List.getElem?_eq_getElem hlt] at hv; exact Option.some.inj hv
    have hd : t.vals.drop k = v :: t.vals.drop (k + 1) := by
      rw [List.drop_eq_getElem_cons hlt]
      rw [List.getElem?_eq_getElem hlt] at hv
      rw [Option.some.inj hv]
    have hc16 := h.cnt
    have w1 := wrap_in (16 - n) (by omega) (by omega)
    have hneg : ¬ 16 - n < 0 := by omega
    have hmin : min (16 - n).toNat IntKind.i64.bits = (16 - n).toNat := Nat.min_eq_left (by simp [IntKind.bits]; omega)
    have wv := wrap_in v (by omega) (by omega)
    simp only [i64O] at h2 h3 h4
    simp only [num, List.map_cons, itemV, roundsQ]
    refine ⟨rfl, ?_⟩
    rw [hd] at hA hB
    simp only [rf17_4, b17, Try.f17, nav, Option.getD_some, if_true, if_false, Nat.reduceEqDiff]
    by_cases he : w.fdiv (2 ^ (16 - n).toNat) = c
    · simp only [findGo, if_pos he] at hA hB
      simp (maxSteps := 2000000) [cf17, h1, h2, h3, h4, hv, hc16, hvr, w1, hneg, hmin, wv, he, hlt, hvg]
      refine ⟨by kernel_rfl, by kernel_rfl, ?_⟩
      exact hB _ (by simp [Try.f17, tup2])
    · simp only [findGo, if_neg he] at hA hB
      simp (maxSteps := 2000000) [cf17, h1, h2, h3, h4, hv, hc16, hvr, w1, hneg, hmin, wv, he, hlt, hvg]
      refine ⟨by kernel_rfl, ?_⟩
      exact ih (k + 1) _ _ (by simp at hk; omega) (fun y hy => hx y (by simp [hy])) (by simp [lk, tabO]) (by simp [lk, i64O]) (by simp [lk, i64O]) (by simp [lk, i64O]) hA hB

def g17 (vs : List V) : Option V :=
  match vs with
  | [v, .int .i64 w] => (decTab v).map fun t => tup2 (findT t w)
  | _ => none

theorem g17_ok (vs : List V) (r : V) (h : g17 vs = some r) : CallR Try.prog [] 17 vs r := by
  unfold g17 at h
  split at h <;> try (cases h; done)
  rename_i v w
  simp only [Option.map_eq_some_iff] at h
  obtain ⟨t, ht, rfl⟩ := h
  obtain ⟨rfl, h0⟩ := decTab_spec ht
  have h2 := h0.cnt
  have hg24 := g24_eq t h0
  have hg16 := g16_eq t h0
  refine callR_of_wpA mixed (cf := cf17) (ow := false) at17 bd17 (by kernel_rfl) (by simp [cf17]) rfl C17_ok (Its.add_ok (Its.none_ok _) en30 g30_ok) ?_
  simp only [b17, nav, Option.getD_some, if_true, if_false, Nat.reduceEqDiff]
  generalize hE : endQ Try.prog Try.f17 false (tup2 (findT t w)) = E
  simp only [Try.f17, Option.getD_some, Tab.enc]
  by_cases hl : w < 0
  · have hf : findT t w = (0, 0) := by unfold findT; rw [if_pos (.inl (.inl hl))]
    simp [cf17, h2, hg16, hl]
    rw [← hE, hf]
    simp [Try.f17, tup2]
  · by_cases hu : 65535 < w
    · have hf : findT t w = (0, 0) := by unfold findT; rw [if_pos (.inl (.inr hu))]
      simp [cf17, h2, hg16, hl, hu]
      rw [← hE, hf]
      simp [Try.f17, tup2]
    · cases hck : checkT t with
      | false =>
        have hf : findT t w = (0, 0) := by unfold findT; rw [if_pos (.inr hck)]
        simp [cf17, h2, hg16, hl, hu, hck]
        rw [← hE, hf]
        simp [Try.f17, tup2]
      | true =>
        have hf : findT t w = findGo w t.vals (codesOf t.cnt) := by unfold findT; rw [if_neg (by simp [hck]; omega)]
        obtain ⟨hok, hsum, _, _⟩ := checkT_spec hck
        have hlen := codesL_length t.cnt 1 0 hok
        simp [cf17, h2, hg16, hl, hu, hck, hg24]
        refine wpA_range (items := (num 0 (codesOf t.cnt)).map itemV) (by simp; exact ⟨rfl, rfl, rfl⟩) (by kernel_rfl) (by simp [g30_eq t h0 hok]) ?_
        refine rounds17 t h0 w _ (codesOf t.cnt) 0 _ _ (by unfold codesOf; omega) (codesOf_mem hok h2) (by simp [lk, tabO]) (by simp [lk, i64O]) (by simp [lk, i64O]) (by simp [lk, i64O]) ?_ ?_
        · intro s2 hg hσ ho4 ho5 hgl
          obtain ⟨σ, ⟨ob, z⟩, gl⟩ := s2
          simp only at hσ ho4 ho5 hgl
          subst hσ hgl
          rw [List.drop_zero] at hg
          simp only [i64O] at ho4 ho5
          simp [ho4, ho5]
          rw [← hE, hf, hg]
          simp [Try.f17, tup2]
        · intro s2 he
          simp
          rw [← hE, hf]
          exact he
theorem g17_eq (t : Tab) (h : t.Ok) (w : Int) : g17 [.agg (iv t.cnt ++ [.sl false t.nl 1 (bv t.vals)]), .int .i64 w] = some (tup2 (findT t w)) := by
  have := decTab_enc t h
  unfold Tab.enc at this
  simp only [g17, this, Option.map_some]
end Go.Ai

namespace Go.Ai
open Go Go.Proofs
set_option maxRecDepth 100000
set_option maxHeartbeats 4000000
set_option linter.unusedSimpArgs false
set_option linter.unusedVariables false
set_option pp.deepTerms false
/-! ## no code begins another -/
/-- y stands behind x: it is no shorter, and lies behind all that x begins -/
def behindC (x y : Int × Int) : Prop := x.1 ≤ y.1 ∧ (x.2 + 1) * 2 ^ (y.1 - x.1).toNat ≤ y.2

theorem rowC_mem7 (i : Int) : ∀ (n : Nat) (next : Int) (x : Int × Int), x ∈ rowC i n next → x.1 = i ∧ next ≤ x.2 ∧ x.2 < next + n := by
  intro n
  induction n with
  | zero => intro next x h; simp [rowC] at h
  | succ n ih =>
    intro next x h
    simp only [rowC, List.mem_cons] at h
    rcases h with rfl | h
    · exact ⟨rfl, by simp, by simp; omega⟩
    · obtain ⟨a, b, c⟩ := ih _ _ h
      exact ⟨a, by omega, by omega⟩
theorem rowC_behind (i : Int) : ∀ (n : Nat) (next : Int), (rowC i n next).Pairwise behindC := by
  intro n
  induction n with
  | zero => intro next; simp [rowC]
  | succ n ih =>
    intro next
    simp only [rowC, List.pairwise_cons]
    refine ⟨fun y hy => ?_, ih _⟩
    obtain ⟨a, b, c⟩ := rowC_mem7 i n _ y hy
    refine ⟨by omega, ?_⟩
    simp only [a, Int.sub_self]
    simp
    omega
theorem codesL_behind_all : ∀ (l : List Int) (i next : Int) (y : Int × Int), y ∈ codesL l i next → i ≤ y.1 ∧ (2 * next) * 2 ^ (y.1 - i).toNat ≤ y.2 := by
  intro l
  induction l with
  | nil => intro i next y h; simp [codesL] at h
  | cons c l ih =>
    intro i next y h
    simp only [codesL, List.mem_append] at h
    rcases h with h | h
    · obtain ⟨a, b, c⟩ := rowC_mem7 i _ _ y h
      refine ⟨by omega, ?_⟩
      rw [a, Int.sub_self]; simpa using b
    · obtain ⟨a, b⟩ := ih _ _ y h
      refine ⟨by omega, Int.le_trans ?_ b⟩
      have e : (y.1 - i).toNat = (y.1 - (i + 1)).toNat + 1 := by omega
      rw [e, Int.pow_succ]
      have hp : (0 : Int) ≤ 2 ^ (y.1 - (i + 1)).toNat := Int.le_of_lt (Int.pow_pos (by omega))
      have : 2 * next * (2 ^ (y.1 - (i + 1)).toNat * 2) = 2 * (2 * next) * 2 ^ (y.1 - (i + 1)).toNat := by
        rw [Int.mul_comm (2 ^ (y.1 - (i + 1)).toNat) 2, ← Int.mul_assoc]; congr 1; omega
      rw [this]
      exact Int.mul_le_mul_of_nonneg_right (by omega) hp
theorem codesL_behind : ∀ (l : List Int) (i next : Int), (codesL l i next).Pairwise behindC := by
  intro l
  induction l with
  | nil => intro i next; simp [codesL]
  | cons c l ih =>
    intro i next
    simp only [codesL, List.pairwise_append]
    refine ⟨rowC_behind _ _ _, ih _ _, fun x hx y hy => ?_⟩
    obtain ⟨a, b, d⟩ := rowC_mem7 i _ _ x hx
    obtain ⟨e, f⟩ := codesL_behind_all _ _ _ y hy
    refine ⟨by omega, Int.le_trans ?_ f⟩
    have e1 : (y.1 - x.1).toNat = (y.1 - (i + 1)).toNat + 1 := by omega
    rw [e1, Int.pow_succ]
    have hp : (0 : Int) ≤ 2 ^ (y.1 - (i + 1)).toNat := Int.le_of_lt (Int.pow_pos (by omega))
    have : (x.2 + 1) * (2 ^ (y.1 - (i + 1)).toNat * 2) = 2 * (x.2 + 1) * 2 ^ (y.1 - (i + 1)).toNat := by
      rw [Int.mul_comm (2 ^ (y.1 - (i + 1)).toNat) 2, ← Int.mul_assoc]; congr 1; omega
    rw [this]
    exact Int.mul_le_mul_of_nonneg_right (by omega) hp
/-! ## the bits of a word -/
theorem fdiv_eq (w c p : Int) (hp : 0 < p) : w.fdiv p = c ↔ c * p ≤ w ∧ w < (c + 1) * p := by
  rw [Int.fdiv_eq_ediv_of_nonneg _ (by omega)]
  constructor
  · intro h
    subst h
    have a := Int.ediv_mul_le w (b := p) (by omega)
    have b := Int.lt_ediv_add_one_mul_self w hp
    exact ⟨a, b⟩
  · rintro ⟨a, b⟩
    have h1 := (Int.le_ediv_iff_mul_le hp).2 a
    have h2 := (Int.ediv_lt_iff_lt_mul hp).2 b
    omega
theorem findGo_at (w : Int) : ∀ (vs : List Int) (cs : List (Int × Int)), cs.Pairwise behindC → (∀ x ∈ cs, 1 ≤ x.1 ∧ x.1 ≤ 16) → ∀ (k : Nat) (v n c : Int), vs[k]? = some v → cs[k]? = some (n, c) →
    c * 2 ^ (16 - n).toNat ≤ w → w < (c + 1) * 2 ^ (16 - n).toNat → findGo w vs cs = (v, n) := by
  intro vs
  induction vs with
  | nil => intro cs _ _ k v n c h; simp at h
  | cons v' vs ih =>
    intro cs hcs hr k v n c hv hc h1 h2
    cases cs with
    | nil => simp at hc
    | cons x cs =>
      obtain ⟨n', c'⟩ := x
      rw [List.pairwise_cons] at hcs
      have hr' := hr (n', c') (by simp)
      have hpos : (0 : Int) < 2 ^ (16 - n').toNat := Int.pow_pos (by omega)
      cases k with
      | zero =>
        simp at hv hc
        obtain ⟨rfl, rfl⟩ := hc
        subst hv
        simp only [findGo]
        rw [if_pos ((fdiv_eq w _ _ hpos).2 ⟨h1, h2⟩)]
      | succ k =>
        simp at hv hc
        have hm := hr (n, c) (List.mem_cons_of_mem _ (List.mem_of_getElem? hc))
        obtain ⟨g1, g2⟩ := hcs.1 _ (List.mem_of_getElem? hc)
        simp only at g1 g2 hr' hm
        simp only [findGo]
        rw [if_neg]
        · exact ih cs hcs.2 (fun y hy => hr y (by simp [hy])) k v n c hv hc h1 h2
        · intro he
          obtain ⟨a, b⟩ := (fdiv_eq w _ _ hpos).1 he
          have hp2 : (0 : Int) ≤ 2 ^ (16 - n).toNat := Int.le_of_lt (Int.pow_pos (by omega))
          have h3 := Int.mul_le_mul_of_nonneg_right g2 hp2
          have e : (2 : Int) ^ (n - n').toNat * 2 ^ (16 - n).toNat = 2 ^ (16 - n').toNat := by
            rw [← Int.pow_add]; congr 1; omega
          rw [Int.mul_assoc, e] at h3
          omega
theorem findGo_none (w : Int) (hw : w = 65535) : ∀ (vs : List Int) (cs : List (Int × Int)), (∀ x ∈ cs, 1 ≤ x.1 ∧ x.1 ≤ 16 ∧ codeOk x) → findGo w vs cs = (0, 0) := by
  intro vs
  induction vs with
  | nil => intro cs _; cases cs <;> rfl
  | cons v vs ih =>
    intro cs h
    cases cs with
    | nil => rfl
    | cons x cs =>
      obtain ⟨n, c⟩ := x
      obtain ⟨a, b, d⟩ := h (n, c) (by simp)
      simp only [codeOk] at d a b
      simp only [findGo]
      rw [if_neg, ih cs fun y hy => h y (by simp [hy])]
      intro he
      have hpos : (0 : Int) < 2 ^ (16 - n).toNat := Int.pow_pos (by omega)
      obtain ⟨_, f⟩ := (fdiv_eq w _ _ hpos).1 he
      have h3 : (c + 1) * 2 ^ (16 - n).toNat ≤ (2 ^ n.toNat - 1) * 2 ^ (16 - n).toNat := Int.mul_le_mul_of_nonneg_right (by omega) (by omega)
      rw [Int.sub_mul, ← Int.pow_add, show n.toNat + (16 - n).toNat = 16 from by omega] at h3
      have h4 : (1 : Int) ≤ 2 ^ (16 - n).toNat := by omega
      have h5 : (2 : Int) ^ 16 = 65536 := by decide
      omega
theorem word_ok (c e b : Nat) (he : e ≤ 16) (hc : c * 2 ^ e < 65536) (hb : b < 65536) :
    IntKind.i64.wrap ((BitVec.ofInt 64 (c * 2 ^ e : Int) ||| BitVec.ofInt 64 (IntKind.i64.wrap ((BitVec.ofInt 64 (b : Int) &&& BitVec.ofInt 64 ((2 : Int) ^ e - 1)).toNat))).toNat) = c * 2 ^ e + (b : Int) % 2 ^ e := by
  have hp : 2 ^ e ≤ 65536 := by
    have : (2 : Nat) ^ e ≤ 2 ^ 16 := Nat.pow_le_pow_right (by omega) he
    omega
  have hp1 : 1 ≤ 2 ^ e := Nat.one_le_two_pow
  have e1 : (2 : Int) ^ e - 1 = ((2 ^ e - 1 : Nat) : Int) := by rw [Int.natCast_sub hp1]; simp
  have e2 : (c : Int) * 2 ^ e = ((c * 2 ^ e : Nat) : Int) := by simp
  have e3 : (b : Int) % 2 ^ e = ((b % 2 ^ e : Nat) : Int) := by simp
  have hm : b % 2 ^ e < 2 ^ e := Nat.mod_lt _ (by omega)
  have hm2 : b % 2 ^ e < 65536 := by omega
  rw [e1, e2, e3, BitVec.ofInt_natCast, BitVec.ofInt_natCast, BitVec.ofInt_natCast, BitVec.toNat_and, BitVec.toNat_ofNat, BitVec.toNat_ofNat, Nat.mod_eq_of_lt (show b < 2 ^ 64 by omega), Nat.mod_eq_of_lt (show 2 ^ e - 1 < 2 ^ 64 by omega),
    Nat.and_two_pow_sub_one_eq_mod, wrap_in ((b % 2 ^ e : Nat) : Int) (by omega) (by omega), BitVec.ofInt_natCast, BitVec.toNat_or, BitVec.toNat_ofNat, BitVec.toNat_ofNat, Nat.mod_eq_of_lt (show c * 2 ^ e < 2 ^ 64 by omega), Nat.mod_eq_of_lt (show b % 2 ^ e < 2 ^ 64 by omega),
    Nat.mul_comm c, ← Nat.two_pow_add_eq_or_of_lt hm]
  have hc2 : 2 ^ e * c < 65536 := by rw [Nat.mul_comm]; exact hc
  rw [wrap_in ((2 ^ e * c + b % 2 ^ e : Nat) : Int) (by omega) (by omega)]
  simp
-- TABLES 7
def pr7 : Nat → List Pr
  | 0 => [.keep [0, 1, 2] []]
  | 1 => [.keep [0, 1, 2] []]
  | 2 => [.keep [1, 2, 7] [7]]
  | 3 => [.keep [1, 2, 7] [7]]
  | 4 => [.keep [1, 7] [7]]
  | 5 => [.keep [1, 7, 8] [7, 8]]
  | 6 => [.keep [1, 7, 8, 9] [7, 8]]
  | 8 => [.keep [1, 7, 8, 9] [7, 8]]
  | 9 => [.keep [1, 7, 8, 9, 10] [7, 8]]
  | 10 => [.keep [1, 7, 8, 9, 10] [7, 8]]
  | 11 => [.keep [] []]
  | 12 => [.keep [1, 7, 8, 9, 10] [7, 8]]
  | 13 => [.keep [1, 7, 8, 9, 10, 11] [7, 8]]
  | 14 => [.keep [1, 7, 8, 9, 10, 12, 13] [7, 8]]
  | 15 => [.keep [] []]
  | 7 => [.keep [1, 7, 8, 9] [7, 8]]
  | 16 => [.keep [7] [7]]
  | 17 => [.keep [14, 15] []]
  | _ => []
def dr7 : Nat → Dr
  | _ => ⟨[], [], [], []⟩
def kp7 : List Nat → List Nat
  | _ => []
-- END
attribute [simp] pr7 dr7 kp7
noncomputable def C7 : Cs := ((((Cs.none.add 9 g9).add 10 g10).add 12 g12).add 15 g15).add 17 g17
theorem C7_ok : C7.Ok Try.prog [] := Cs.add_ok (Cs.add_ok (Cs.add_ok (Cs.add_ok (Cs.add_ok (Cs.none_ok _) en9 g9_ok) en10 g10_ok) en12 g12_ok) en15 g15_ok) en17 g17_ok
attribute [simp] C7
noncomputable def cf7 : Cf := { N := 111, pr := pr7, dr := dr7, C := C7, It := Its.none, kp := kp7, rf := true, stop := none, lid := 0 }

/-- what the codes of a table say -/
def Says (t : Tab) (L : List Int) : Prop := ∀ i : Nat, i < 256 → ∃ n c, L[i * 2]? = some n ∧ L[i * 2 + 1]? = some c ∧
  (n = 0 ∨ (1 ≤ n ∧ n ≤ 16 ∧ 0 ≤ c ∧ c < 2 ^ n.toNat - 1 ∧ ∀ w, 0 ≤ w → w ≤ 65535 → c * 2 ^ (16 - n).toNat ≤ w → w < (c + 1) * 2 ^ (16 - n).toNat → findT t w = ((i : Int), n)))
theorem says (t : Tab) (h : t.Ok) : Says t (codesT t) := by
  intro i hi
  unfold codesT
  cases hck : checkT t with
  | false =>
    rw [if_neg (by simp)]
    exact ⟨0, 0, rep_get _ _ _ (by omega), rep_get _ _ _ (by omega), .inl rfl⟩
  | true =>
    rw [if_pos rfl]
    have hg := (checkT_good t h).1 hck
    have hlen := codesL_length t.cnt 1 0 hg.cnt
    have hsum := hg.sum
    by_cases hm : (i : Int) ∈ t.vals
    · obtain ⟨k, hk⟩ := List.getElem?_of_mem hm
      have hkl : k < t.vals.length := (List.getElem?_eq_some_iff.1 hk).1
      have hkc : k < (codesOf t.cnt).length := by unfold codesOf; omega
      obtain ⟨⟨n, c⟩, hx⟩ : ∃ x, (codesOf t.cnt)[k]? = some x := ⟨(codesOf t.cnt)[k], List.getElem?_eq_getElem hkc⟩
      obtain ⟨a1, a2⟩ := codesArr_at t.vals (codesOf t.cnt) (rep 512 0) h.vals (by simp) hg.nodup k _ n c hk hx
      rw [Int.toNat_natCast] at a1 a2
      have hmm := codesOf_mem hg.cnt h.cnt
      have h1 := hmm _ (List.mem_of_getElem? hx)
      have h2 := hg.code _ (List.mem_of_getElem? hx)
      refine ⟨n, c, a1, a2, .inr ⟨h1.1, h1.2.1, h1.2.2.1, h2, ?_⟩⟩
      intro w w0 w1 w2 w3
      unfold findT
      rw [if_neg (by simp [hck]; omega)]
      exact findGo_at w t.vals (codesOf t.cnt) (codesL_behind _ _ _) (fun x hx => ⟨(hmm x hx).1, (hmm x hx).2.1⟩) k _ n c hk hx w2 w3
    · obtain ⟨a1, a2⟩ := codesArr_other t.vals (codesOf t.cnt) (rep 512 0) h.vals (by simp) i hm
      rw [a1, a2]
      exact ⟨0, 0, rep_get _ _ _ (by omega), rep_get _ _ _ (by omega), .inl rfl⟩
theorem find_ones (t : Tab) (h : t.Ok) : findT t 65535 = (0, 0) := by
  unfold findT
  split
  · rfl
  · rename_i hn
    have hck : checkT t = true := by
      cases hc : checkT t with
      | true => rfl
      | false => exact absurd (.inr hc) hn
    have hg := (checkT_good t h).1 hck
    have hmm := codesOf_mem hg.cnt h.cnt
    exact findGo_none _ rfl _ _ fun x hx => ⟨(hmm x hx).1, (hmm x hx).2.1, hg.code x hx⟩

theorem loop7 (t : Tab) (h : t.Ok) (L : List Int) (hl : L.length = 512) (hs7 : Says t L) (b : Int) (hb0 : 0 ≤ b) (hb1 : b < 65536) (Q : Ex → St → Prop) :
    ∀ (m i : Nat) (s : St), i + m = 256 →
      prep (pr7 6) s = ⟨[(1, .int .u16 b), (7, .ptr 7 17 0 0), (8, .ptr 8 512 0 0), (9, .int .i64 i)], ⟨[(7, ⟨false, false, 25, 17, [iv t.cnt ++ [.sl false t.nl 1 (bv t.vals)]]⟩), (8, ⟨false, false, 34, 512, [iv L]⟩)], []⟩, ⟨[], []⟩⟩ →
      (∀ s', prep (pr7 16) s' = ⟨[(7, .ptr 7 17 0 0)], ⟨[(7, ⟨false, false, 25, 17, [iv t.cnt ++ [.sl false t.nl 1 (bv t.vals)]]⟩)], []⟩, ⟨[], []⟩⟩ → Q (.exit 0) s') →
      wpA Try.prog cf7 lp7_6 s Q := by
  have hc16 := h.cnt
  intro m
  induction m with
  | zero =>
    intro i s hi hs hA
    have hi' : i = 256 := by omega
    subst hi'
    unfold lp7_6
    simp only [b7, Try.f7, nav, Option.getD_some, if_true, if_false, Nat.reduceEqDiff]
    rw [wpA_loop]
    simp only [pr7] at hs
    simp [cf7, hs]
    exact hA _ (by simp)
  | succ m ih =>
    intro i s hi hs hA
    have hi2 : (i : Int) < 256 := by omega
    have hi3 : i < 256 := by omega
    have hlt : i * 2 < L.length := by omega
    have hlt1 : i * 2 + 1 < L.length := by omega
    obtain ⟨n, c, hn, hc, hor⟩ := hs7 i hi3
    have hng : L[i * 2]'hlt = n := by rw [List.getElem?_eq_getElem hlt] at hn; exact Option.some.inj hn
    have hcg : L[i * 2 + 1]'hlt1 = c := by rw [List.getElem?_eq_getElem hlt1] at hc; exact Option.some.inj hc
    have w1 := wrap_in ((i : Int) + 1) (by omega) (by omega)
    unfold lp7_6
    simp only [b7, Try.f7, nav, Option.getD_some, if_true, if_false, Nat.reduceEqDiff]
    rw [wpA_loop]
    simp only [pr7] at hs
    by_cases h0 : n = 0
    · subst h0
      simp [cf7, hs, hi2, hi3, hl, hn, hng, w1]
      exact ih (i + 1) _ (by omega) (by simp [pr7]) hA
    · obtain ⟨n1, n2, hc0', cu, hf⟩ := hor.resolve_left h0
      have hn1 : ¬ n < 1 := by omega
      have hn2 : ¬ 16 < n := by omega
      have hc0 : ¬ c < 0 := by omega
      have hcu : ¬ 2 ^ n.toNat - 1 ≤ c := by omega
      have hnu := u64_in n (by omega) (by omega)
      have hn0 : ¬ n < 0 := by omega
      have s1 := shl_one n (by omega)
      have s2 := shl_one (16 - n) (by omega)
      have p1 := pow_bd n.toNat (by omega)
      have p2 := pow_bd (16 - n).toNat (by omega)
      have s5 := wrap_in ((2 : Int) ^ (16 - n).toNat) (by omega) (by omega)
      have s3 := wrap_in ((2 : Int) ^ n.toNat - 1) (by omega) (by omega)
      have s4 := wrap_in ((2 : Int) ^ (16 - n).toNat - 1) (by omega) (by omega)
      have w16 := wrap_in (16 - n) (by omega) (by omega)
      have wu16 := u64_in (16 - n) (by omega) (by omega)
      have hneg : ¬ 16 - n < 0 := by omega
      have hmin : min (16 - n).toNat IntKind.i64.bits = (16 - n).toNat := Nat.min_eq_left (by simp [IntKind.bits]; omega)
      have wb := wrap_in b (by omega) (by omega)
      have hpp : (2 : Int) ^ n.toNat * 2 ^ (16 - n).toNat = 65536 := by
        rw [← Int.pow_add, show n.toNat + (16 - n).toNat = 16 from by omega]; decide
      have hcb : (c + 1) * 2 ^ (16 - n).toNat ≤ 65536 := by
        rw [← hpp]; exact Int.mul_le_mul_of_nonneg_right (by omega) (by omega)
      rw [Int.add_mul] at hcb
      have hcn : 0 ≤ c * 2 ^ (16 - n).toNat := Int.mul_nonneg hc0' (by omega)
      have wc := wrap_in (c * 2 ^ (16 - n).toNat) (by omega) (by omega)
      have hwd : IntKind.i64.wrap (BitVec.ofInt IntKind.i64.bits (c * 2 ^ (16 - n).toNat) ||| BitVec.ofInt IntKind.i64.bits (IntKind.i64.wrap (BitVec.ofInt IntKind.i64.bits b &&& BitVec.ofInt IntKind.i64.bits (2 ^ (16 - n).toNat - 1)).toNat)).toNat = c * 2 ^ (16 - n).toNat + b % 2 ^ (16 - n).toNat := by
        have hcc : ((c.toNat : Nat) : Int) = c := Int.toNat_of_nonneg hc0'
        have hbb : ((b.toNat : Nat) : Int) = b := Int.toNat_of_nonneg hb0
        have hx : c.toNat * 2 ^ (16 - n).toNat < 65536 := by
          have e : ((c.toNat * 2 ^ (16 - n).toNat : Nat) : Int) = c * 2 ^ (16 - n).toNat := by simp [hcc]
          omega
        have := word_ok c.toNat (16 - n).toNat b.toNat (by omega) hx (by omega)
        rw [hcc, hbb] at this
        exact this
      have hb2 := Int.emod_nonneg b (b := 2 ^ (16 - n).toNat) (by omega)
      have hb3 := Int.emod_lt_of_pos b (b := 2 ^ (16 - n).toNat) (by omega)
      have hff := hf (c * 2 ^ (16 - n).toNat + b % 2 ^ (16 - n).toNat) (by omega) (by omega) (by omega) (by rw [Int.add_mul]; omega)
      have e17 := g17_eq t h
      simp (maxSteps := 1000000) [cf7, hs, hi2, hi3, hl, hn, hng, hc, hcg, hlt, hlt1, w1, h0, hn1, hn2, hc0, hcu, hnu, hn0, s1, s2, s3, s4, s5, w16, wu16, hneg, hmin, wb, ty38, ty40, wc, hwd, hff, e17, tup2, hc16, -BitVec.toNat_and, -BitVec.toNat_or]
      exact ih (i + 1) _ (by omega) (by simp [pr7]) hA

theorem law7 (nl : Bool) (cs : List Int) (hcs : ∀ v ∈ cs, 0 ≤ v ∧ v < 256) (b k : Int) (hb0 : 0 ≤ b) (hb1 : b < 65536) (hk0 : 0 ≤ k) (hk1 : k < 256) :
    CallR Try.prog [] 7 [.sl false nl 1 (bv cs), .int .u16 b, .int .u8 k] (.bool true) := by
  obtain ⟨hok1, _, _⟩ := tableT_spec nl cs hcs
  have e12 := g12_eq nl cs hcs
  have e9 := g9_eq
  refine callR_of_wpA mixed (cf := cf7) (ow := false) at7 bd7 (by kernel_rfl) (by simp [cf7]) rfl C7_ok (Its.none_ok _) ?_
  simp only [b7, nav, Option.getD_some, if_true, if_false, Nat.reduceEqDiff]
  generalize hE : endQ Try.prog Try.f7 false (.bool true) = E
  simp only [Try.f7, Option.getD_some]
  have hc0 := hok1.cnt
  by_cases h4 : k.tmod 4 = 0
  · have bit : ∀ x : Int, 0 ≤ x → bit2 (x.tmod 2) ∧ kOf (x.tmod 2) = x.tmod 2 ∧ IntKind.i64.wrap (x.tmod 2) = x.tmod 2 ∧ IntKind.u8.wrap (x.tmod 2) = x.tmod 2 := by
      intro x hx
      have e : x.tmod 2 = x % 2 := Int.tmod_eq_emod_of_nonneg hx
      rw [e]
      have : x % 2 = 0 ∨ x % 2 = 1 := by omega
      refine ⟨this, ?_, wrap_in _ (by omega) (by omega), u8_in _ (by omega) (by omega)⟩
      unfold kOf
      rcases this with h | h <;> simp [h]
    have d4 : 0 ≤ k.tdiv 4 ∧ k.tdiv 4 < 256 := by rw [Int.tdiv_eq_ediv_of_nonneg hk0]; omega
    have d8 : 0 ≤ k.tdiv 8 ∧ k.tdiv 8 < 256 := by rw [Int.tdiv_eq_ediv_of_nonneg hk0]; omega
    have x4 := u8_in _ d4.1 d4.2
    have x8 := u8_in _ d8.1 d8.2
    obtain ⟨ba, ka, wa, va⟩ := bit _ d4.1
    obtain ⟨bb, kb, wb, vb⟩ := bit _ d8.1
    have e10 := g10_eq ((k.tdiv 4).tmod 2) ((k.tdiv 8).tmod 2)
    rw [ka, kb] at e10
    have hok := std_ok _ _ ba bb
    have hnl := std_nl _ _ ba bb
    generalize stdTab ((k.tdiv 4).tmod 2) ((k.tdiv 8).tmod 2) = t at e10 hok hnl
    have e10' : g10 [.int .i64 ((k.tdiv 4).tmod 2), .int .i64 ((k.tdiv 8).tmod 2)] = some (.agg (iv t.cnt ++ [.sl false t.nl 1 (bv t.vals)])) := by rw [hnl]; exact e10
    have hl := codesT_length t hok
    have e15 := g15_eq t hok
    have e17 := g17_eq t hok 65535
    rw [find_ones t hok] at e17
    have hc16 := hok.cnt
    simp (maxSteps := 1000000) [cf7, e12, h4, x4, x8, wa, wb, va, vb, e10', hc0, e15, hl, hc16]
    refine loop7 t hok (codesT t) hl (says t hok) b hb0 hb1 _ 256 0 _ (by omega) (by simp [pr7]) ?_
    intro s' hs'
    simp only [pr7] at hs'
    simp (maxSteps := 1000000) [hs', e9, e17, tup2, hc16]
    rw [← hE]
    simp [Try.f7]
  · have hok := hok1
    generalize tableT nl cs = t at e12 hok
    have hl := codesT_length t hok
    have e15 := g15_eq t hok
    have e17 := g17_eq t hok 65535
    rw [find_ones t hok] at e17
    have hc16 := hok.cnt
    simp (maxSteps := 1000000) [cf7, e12, h4, hc0, e15, hl, hc16]
    refine loop7 t hok (codesT t) hl (says t hok) b hb0 hb1 _ 256 0 _ (by omega) (by simp [pr7]) ?_
    intro s' hs'
    simp only [pr7] at hs'
    simp (maxSteps := 1000000) [hs', e9, e17, tup2, hc16]
    rw [← hE]
    simp [Try.f7]
end Go.Ai
