/- The contract of HuffStandard: true for every two bytes. -/
import Derived.Test.YtghhjkblhchhmaaDb
namespace Go.Ai
open Go Go.Proofs
set_option maxRecDepth 100000
set_option maxHeartbeats 4000000
set_option linter.unusedSimpArgs false
set_option linter.unusedVariables false
set_option pp.deepTerms false
-- TABLES 5
def pr5 : Nat → List Pr
  | 0 => [.keep [0, 1] []]
  | 1 => [.keep [0, 1] []]
  | 2 => [.keep [0, 5] [5]]
  | 3 => [.keep [0, 5, 6] [5, 6]]
  | 4 => [.keep [0, 5, 6, 7] [5, 6]]
  | 6 => [.keep [0, 5, 6, 7] [5, 6]]
  | 7 => [.keep [0, 5, 6, 7, 8] [5, 6]]
  | 8 => [.keep [0, 5, 6, 7] [5, 6]]
  | 9 => [.keep [0, 5, 6, 7, 8] [5, 6]]
  | 10 => [.keep [] []]
  | 5 => [.keep [0, 5, 6, 7] [5, 6]]
  | 11 => [.keep [5] [5]]
  | _ => []
def dr5 : Nat → Dr
  | _ => ⟨[], [], [], []⟩
def kp5 : List Nat → List Nat
  | _ => []
-- END
attribute [simp] pr5 dr5 kp5
noncomputable def C5 : Cs := (((Cs.none.add 9 g9).add 10 g10).add 15 g15).add 16 g16
theorem C5_ok : C5.Ok Try.prog [] := Cs.add_ok (Cs.add_ok (Cs.add_ok (Cs.add_ok (Cs.none_ok _) en9 g9_ok) en10 g10_ok) en15 g15_ok) en16 g16_ok
attribute [simp] C5
noncomputable def cf5 : Cf := { N := 55, pr := pr5, dr := dr5, C := C5, It := Its.none, kp := kp5, rf := true, stop := none, lid := 0 }

/-- is v among the values of a class? -/
def isV (a : Int) (v : Nat) : Bool := if a = 1 then (v == 0 || v == 240 || (decide (1 ≤ v % 16) && decide (v % 16 ≤ 10))) else decide (v ≤ 11)
def chkV (a : Int) : Nat → List Int → Bool
  | v, n :: _ :: r => (decide (0 < n) == isV a v) && chkV a (v + 1) r
  | _, _ => true
theorem chkV_get (a : Int) : ∀ (i v : Nat) (l : List Int) (n : Int), chkV a v l = true → l[i * 2]? = some n → i * 2 + 1 < l.length → decide (0 < n) = isV a (v + i) := by
  intro i
  induction i with
  | zero =>
    intro v l n h hn hl
    match l, h, hn, hl with
    | x :: y :: r, h, hn, _ =>
      simp only [chkV, Bool.and_eq_true, beq_iff_eq] at h
      simp at hn; subst hn
      exact h.1
    | [x], _, _, hl => simp at hl
    | [], _, hn, _ => simp at hn
  | succ i ih =>
    intro v l n h hn hl
    match l, h, hn, hl with
    | x :: y :: r, h, hn, hl =>
      simp only [chkV, Bool.and_eq_true] at h
      have := ih (v + 1) r n h.2 (by rw [show (i + 1) * 2 = i * 2 + 1 + 1 from by omega] at hn; simpa using hn) (by simp at hl; omega)
      rw [this]; congr 1; omega
    | [x], _, _, hl => simp at hl
    | [], _, hn, _ => simp at hn
theorem std_is (a b : Int) (ha : bit2 a) (hb : bit2 b) : chkV a 0 (codesT (stdTab a b)) = true := by
  rcases ha with rfl | rfl <;> rcases hb with rfl | rfl <;> kernel_rfl

theorem loop5 (T : Tab) (L : List Int) (hl : L.length = 512) (cl a : Int) (ha : bit2 a) (hck : chkV a 0 L = true) (hcl : cl.tmod 2 = a) (Q : Ex → St → Prop) :
    ∀ (m i : Nat) (s : St), i + m = 256 →
      prep (pr5 4) s = ⟨[(0, .int .u8 cl), (5, .ptr 5 17 0 0), (6, .ptr 6 512 0 0), (7, .int .i64 i)], ⟨[(5, ⟨false, false, 25, 17, [iv T.cnt ++ [.sl false false 1 (bv T.vals)]]⟩), (6, ⟨false, false, 34, 512, [iv L]⟩)], []⟩, ⟨[], []⟩⟩ →
      (∀ s', prep (pr5 11) s' = ⟨[(5, .ptr 5 17 0 0)], ⟨[(5, ⟨false, false, 25, 17, [iv T.cnt ++ [.sl false false 1 (bv T.vals)]]⟩)], []⟩, ⟨[], []⟩⟩ → Q (.exit 0) s') →
      wpA Try.prog cf5 lp5_4 s Q := by
  intro m
  induction m with
  | zero =>
    intro i s hi hs hA
    have hi' : i = 256 := by omega
    subst hi'
    unfold lp5_4
    simp only [b5, Try.f5, nav, Option.getD_some, if_true, if_false, Nat.reduceEqDiff]
    rw [wpA_loop]
    simp only [pr5] at hs
    simp [cf5, hs]
    exact hA _ (by simp)
  | succ m ih =>
    intro i s hi hs hA
    have hi2 : (i : Int) < 256 := by omega
    have hi3 : i < 256 := by omega
    have hlt : i * 2 < L.length := by omega
    obtain ⟨n, hn⟩ : ∃ n, L[i * 2]? = some n := ⟨L[i * 2], List.getElem?_eq_getElem hlt⟩
    have hng : L[i * 2]'hlt = n := by rw [List.getElem?_eq_getElem hlt] at hn; exact Option.some.inj hn
    have his : decide (0 < n) = isV a i := by
      have := chkV_get a i 0 _ n hck hn (by omega)
      rwa [Nat.zero_add] at this
    have w1 := wrap_in ((i : Int) + 1) (by omega) (by omega)
    unfold lp5_4
    simp only [b5, Try.f5, nav, Option.getD_some, if_true, if_false, Nat.reduceEqDiff]
    rw [wpA_loop]
    simp only [pr5] at hs
    have h16 : (i : Int).tmod 16 = ((i % 16 : Nat) : Int) := by rw [Int.tmod_eq_emod_of_nonneg (by omega)]; simp
    have next : ∀ s', prep (pr5 4) s' = ⟨[(0, .int .u8 cl), (5, .ptr 5 17 0 0), (6, .ptr 6 512 0 0), (7, .int .i64 (i + 1))], ⟨[(5, ⟨false, false, 25, 17, [iv T.cnt ++ [.sl false false 1 (bv T.vals)]]⟩), (6, ⟨false, false, 34, 512, [iv L]⟩)], []⟩, ⟨[], []⟩⟩ → wpA Try.prog cf5 lp5_4 s' Q := by
      intro s' h
      exact ih (i + 1) s' (by omega) (by rw [h]; simp) hA
    have fin : ∀ (p : Bool), isV a i = p → ((0 < n) = (p = true)) := by
      intro p hp
      rw [hp] at his
      rw [← his]; simp
    rcases ha with rfl | rfl
    · by_cases h11 : (i : Int) ≤ 11
      · have e1 := fin true (by simp [isV]; omega)
        simp (maxSteps := 1000000) [cf5, hs, hi2, hi3, hcl, hn, hng, hl, w1, eq_true h11, e1]
        exact next _ (by simp [pr5])
      · have e1 := fin false (by simp [isV]; omega)
        simp (maxSteps := 1000000) [cf5, hs, hi2, hi3, hcl, hn, hng, hl, w1, eq_false h11, e1]
        exact next _ (by simp [pr5])
    · by_cases c1 : (i : Int) = 0
      · have e1 := fin true (by simp [isV]; omega)
        have c1n : i = 0 := by omega
        simp (maxSteps := 1000000) [cf5, hs, hi2, hi3, hcl, hn, hng, hl, w1, e1, eq_true c1, eq_true c1n]
        exact next _ (by simp [pr5])
      · have c1n : ¬ i = 0 := by omega
        by_cases c2 : (i : Int) = 240
        · have e1 := fin true (by simp [isV]; omega)
          have c2n : i = 240 := by omega
          simp (maxSteps := 1000000) [cf5, hs, hi2, hi3, hcl, hn, hng, hl, w1, e1, eq_false c1, eq_false c1n, eq_true c2, eq_true c2n]
          exact next _ (by simp [pr5])
        · have c2n : ¬ i = 240 := by omega
          by_cases c3 : (1 : Int) ≤ (i : Int).tmod 16
          · by_cases c4 : (i : Int).tmod 16 ≤ 10
            · have e1 := fin true (by rw [h16] at c3 c4; simp [isV]; omega)
              simp (maxSteps := 1000000) [cf5, hs, hi2, hi3, hcl, hn, hng, hl, w1, e1, eq_false c1, eq_false c2, eq_false c1n, eq_false c2n, eq_true c3, eq_true c4]
              exact next _ (by simp [pr5])
            · have e1 := fin false (by rw [h16] at c3 c4; simp [isV]; omega)
              simp (maxSteps := 1000000) [cf5, hs, hi2, hi3, hcl, hn, hng, hl, w1, e1, eq_false c1, eq_false c2, eq_false c1n, eq_false c2n, eq_true c3, eq_false c4]
              exact next _ (by simp [pr5])
          · have e1 := fin false (by rw [h16] at c3; simp [isV]; omega)
            simp (maxSteps := 1000000) [cf5, hs, hi2, hi3, hcl, hn, hng, hl, w1, e1, eq_false c1, eq_false c2, eq_false c1n, eq_false c2n, eq_false c3]
            exact next _ (by simp [pr5])

theorem law5 (cl pt : Int) (h1 : 0 ≤ cl) (h2 : 0 ≤ pt) : CallR Try.prog [] 5 [.int .u8 cl, .int .u8 pt] (.bool true) := by
  have bit : ∀ x : Int, 0 ≤ x → bit2 (x.tmod 2) ∧ kOf (x.tmod 2) = x.tmod 2 ∧ IntKind.i64.wrap (x.tmod 2) = x.tmod 2 := by
    intro x hx
    have e : x.tmod 2 = x % 2 := Int.tmod_eq_emod_of_nonneg hx
    rw [e]
    have : x % 2 = 0 ∨ x % 2 = 1 := by omega
    refine ⟨this, ?_, wrap_in _ (by omega) (by omega)⟩
    unfold kOf
    rcases this with h | h <;> simp [h]
  obtain ⟨ba, ka, wa⟩ := bit cl h1
  obtain ⟨bb, kb, wb⟩ := bit pt h2
  have e10 := g10_eq (cl.tmod 2) (pt.tmod 2)
  rw [ka, kb] at e10
  have hok := std_ok _ _ ba bb
  have e15 := g15_eq _ hok
  have e16 := g16_eq _ hok
  rw [std_nl _ _ ba bb] at e15 e16
  rw [std_check _ _ ba bb] at e16
  have hl := codesT_length _ hok
  have hc := hok.cnt
  have e9 := g9_eq
  refine callR_of_wpA mixed (cf := cf5) (ow := false) at5 bd5 (by kernel_rfl) (by simp [cf5]) rfl C5_ok (Its.none_ok _) ?_
  simp only [b5, nav, Option.getD_some, if_true, if_false, Nat.reduceEqDiff]
  generalize hE : endQ Try.prog Try.f5 false (.bool true) = E
  simp only [Try.f5, Option.getD_some]
  simp (maxSteps := 1000000) [cf5, wa, wb, e10, e15, hl, hc]
  refine loop5 (stdTab (cl.tmod 2) (pt.tmod 2)) _ hl cl (cl.tmod 2) ba (std_is _ _ ba bb) rfl _ 256 0 _ (by omega) (by simp [pr5]) ?_
  intro s' hs'
  simp only [pr5] at hs'
  simp (maxSteps := 1000000) [hs', e9, e16, hc]
  rw [← hE]
  simp [Try.f5]
end Go.Ai
