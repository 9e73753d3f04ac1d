/- Contracts of CodeSec, of finds and tells, and of HuffFinds: true for every table, every choice and every number. -/
import Derived.Test.YtghhjkblhchhmaaDg
namespace Go.Ai
open Go Go.Proofs
set_option maxRecDepth 100000
set_option maxHeartbeats 4000000
set_option linter.unusedSimpArgs false
set_option linter.unusedVariables false
set_option pp.deepTerms false
-- TABLES 29:{"3":[".adopt¶(.slot¶6)¶19¶3¶1",".adopt¶(.slot¶7)¶24¶3¶1",".keep¶[3,4,5,6,7,11,12]¶[3,4,5,19,24]"],"H5":"[[],[],[],[],[],[19,18,1019],[19,18,1019],[19,18,1019],[19,18,1019]]"}
def pr29 : Nat → List Pr
  | 0 => [.keep [0, 1] []]
  | 1 => [.keep [2, 3, 4, 5] [2, 3, 4, 5]]
  | 2 => [.keep [2, 3, 4, 5, 6, 7] [2, 3, 4, 5, 19, 24, 1019, 1024]]
  | 3 => [.keep [3, 4, 5, 6, 7, 11, 12] [3, 4, 5, 19, 24, 1019, 1024], .adopt (.slot 6) 19 3 1, .adopt (.slot 7) 24 3 1, .keep [3,4,5,6,7,11,12] [3,4,5,19,24]]
  | 4 => [.keep [3, 4, 5, 6, 7, 11, 12] [3, 4, 5, 19, 24, 1019, 1024]]
  | 5 => [.keep [3, 4, 5, 6, 7, 9, 11, 12] [3, 4, 5, 9, 19, 24, 1019, 1024]]
  | 6 => [.keep [3, 4, 5, 6, 7, 11, 12] [3, 4, 5, 19, 24, 1019, 1024]]
  | 7 => [.keep [3, 4, 5, 6, 7] [3, 4, 5, 19, 24, 1019, 1024]]
  | _ => []
def dr29 : Nat → Dr
  | 5 => ⟨[[], [], [1], [2, 1], [3, 2, 1, 0], [], [], [6], [7, 6], [8, 7, 6, 5, 4, 3, 2, 1, 0], [9, 8, 7, 6, 5, 4, 3, 2, 1, 0], [10, 9, 8, 7, 6, 5, 4, 3, 2, 1, 0]], [[],[],[],[],[],[19,18,1019],[19,18,1019],[19,18,1019],[19,18,1019]], [(4, [5, 6, 7, 8]), (9, [])], [18, 19, 23, 24]⟩
  | 7 => ⟨[[], [], [1, 0], [], [], [4, 3, 2, 1, 0], [5, 4, 3, 2, 1, 0], [6, 5, 4, 3, 2, 1, 0]], [], [(6, []), (7, [])], [28, 31]⟩
  | _ => ⟨[], [], [], []⟩
theorem ck29_5 : chkDr (opsAt b29 5) (dr29 5) = true := by kernel_rfl
theorem ck29_7 : chkDr (opsAt b29 7) (dr29 7) = true := by kernel_rfl
def kp29 : List Nat → List Nat
  | _ => []
-- END
attribute [simp] pr29 dr29 kp29
def colU (L : List Int) (off : Nat) : Nat → List Int
  | 0 => []
  | i + 1 => colU L off i ++ [L.getD (i * 2 + off) 0]
theorem colU_length (L : List Int) (off : Nat) : ∀ i, (colU L off i).length = i
  | 0 => rfl
  | i + 1 => by simp [colU, colU_length L off i]
attribute [simp] colU_length
theorem colU_get (L : List Int) (off : Nat) : ∀ (i j : Nat), j < i → (colU L off i)[j]? = some (L.getD (j * 2 + off) 0)
  | 0, j, h => by omega
  | i + 1, j, h => by
    simp only [colU]
    by_cases hj : j < i
    · rw [List.getElem?_append_left (by simpa using hj)]; exact colU_get L off i j hj
    · have : j = i := by omega
      subst this
      rw [List.getElem?_append_right (by simp)]; simp
theorem lookGo_get (x : Int) : ∀ (l : List Int) (i : Int) (acc : Int), lookGo x l i acc = if i ≤ x ∧ x < i + l.length then l.getD (x - i).toNat 0 else acc := by
  intro l
  induction l with
  | nil => intro i acc; simp only [lookGo]; rw [if_neg]; simp
  | cons v l ih =>
    intro i acc
    simp only [lookGo]
    rw [ih]
    by_cases he : x = i
    · subst he
      rw [if_neg (by omega), if_pos rfl, if_pos (by simp; omega)]
      simp
    · rw [if_neg he]
      by_cases hr : i + 1 ≤ x ∧ x < i + 1 + l.length
      · rw [if_pos hr, if_pos (by simp; omega)]
        rw [show (x - i).toNat = (x - (i + 1)).toNat + 1 from by omega]
        simp
      · rw [if_neg hr, if_neg (by simp; omega)]
theorem lookT_col (L : List Int) (off : Nat) (x : Int) : lookT (colU L off 256) x = if 0 ≤ x ∧ x ≤ 255 then L.getD (x.toNat * 2 + off) 0 else 0 := by
  unfold lookT
  rw [lookGo_get]
  by_cases h : 0 ≤ x ∧ x ≤ 255
  · rw [if_pos (by simp; omega), if_pos h, List.getD_eq_getElem?_getD, Int.sub_zero, colU_get L off 256 x.toNat (by omega)]; rfl
  · rw [if_neg (by simp; omega), if_neg h]
theorem codesArr_mem : ∀ (vs : List Int) (cs : List (Int × Int)) (out : List Int), (∀ x ∈ cs, 1 ≤ x.1 ∧ x.1 ≤ 16 ∧ 0 ≤ x.2 ∧ x.2 ≤ 16777216) → (∀ v ∈ out, 0 ≤ v ∧ v ≤ 16777216) → ∀ v ∈ codesArr vs cs out, 0 ≤ v ∧ v ≤ 16777216 := by
  intro vs
  induction vs with
  | nil => intro cs out _ h v hv; exact h v hv
  | cons u vs ih =>
    intro cs out hc h v hv
    cases cs with
    | nil => exact h v hv
    | cons x cs =>
      obtain ⟨n, c⟩ := x
      have hx := hc (n, c) (by simp)
      refine ih cs _ (fun y hy => hc y (by simp [hy])) ?_ v hv
      intro z hz
      simp only [splI, List.mem_append] at hz
      rcases hz with (hz | hz) | hz
      · exact h z (List.mem_of_mem_take hz)
      · simp at hz; rcases hz with rfl | rfl
        · simp only at hx; omega
        · simp only at hx; omega
      · exact h z (List.mem_of_mem_drop hz)
theorem codesT_mem (t : Tab) (h : t.Ok) : ∀ v ∈ codesT t, 0 ≤ v ∧ v ≤ 16777216 := by
  have hz : ∀ v ∈ rep 512 (0 : Int), 0 ≤ v ∧ v ≤ 16777216 := by
    intro v hv
    have : v = 0 := List.eq_of_mem_replicate hv
    omega
  unfold codesT
  cases hck : checkT t with
  | false => rw [if_neg (by simp)]; exact hz
  | true =>
    rw [if_pos rfl]
    have hg := (checkT_good t h).1 hck
    exact codesArr_mem _ _ _ (codesOf_mem hg.cnt h.cnt) hz
theorem colU_mem (L : List Int) (hL : ∀ v ∈ L, 0 ≤ v ∧ v ≤ 16777216) (off : Nat) : ∀ (i : Nat) (v : Int), v ∈ colU L off i → inR v
  | 0, v, h => by simp [colU] at h
  | i + 1, v, h => by
    simp only [colU, List.mem_append, List.mem_singleton] at h
    rcases h with h | h
    · exact colU_mem L hL off i v h
    · subst h
      rw [List.getD_eq_getElem?_getD]
      cases hx : L[i * 2 + off]? with
      | none => decide
      | some y => have := hL y (List.mem_of_getElem? hx); simp; unfold inR; omega
noncomputable def C29 : Cs := (Cs.none.add 15 g15).add 35 k35
theorem C29_ok : C29.Ok Try.prog [] := Cs.add_ok (Cs.add_ok (Cs.none_ok _) en15 g15_ok) en35 k35_ok
attribute [simp] C29
noncomputable def cf29 : Cf := { N := 32, pr := pr29, dr := dr29, C := C29, It := Its.none, kp := kp29, rf := true, stop := none, lid := 0 }

theorem loop29 (L : List Int) (hl : L.length = 512) (x : Int) (Q : Ex → St → Prop) :
    ∀ (m i : Nat) (s : St), i + m = 256 →
      prep (pr29 3) s = ⟨[(3, .ptr 3 1 0 0), (4, .ptr 4 1 0 0), (5, .ptr 5 1 0 0), (6, .row 19 1 0 i), (7, .row 24 1 0 i), (11, .agg (iv L)), (12, .int .i64 i)],
        ⟨[(3, secO x), (4, secO 0), (5, secO 0), (19, ⟨true, true, 3, 1, lI (colU L 1 i)⟩), (24, ⟨true, true, 3, 1, lI (colU L 0 i)⟩)], []⟩, ⟨[], []⟩⟩ →
      (∀ s', prep (pr29 7) s' = ⟨[(3, .ptr 3 1 0 0), (4, .ptr 4 1 0 0), (5, .ptr 5 1 0 0), (6, .row 19 1 0 256), (7, .row 24 1 0 256)],
        ⟨[(3, secO x), (4, secO 0), (5, secO 0), (19, ⟨true, true, 3, 1, lI (colU L 1 256)⟩), (24, ⟨true, true, 3, 1, lI (colU L 0 256)⟩)], []⟩, ⟨[], []⟩⟩ → Q (.exit 0) s') →
      wpA Try.prog cf29 lp29_3 s Q := by
  intro m
  induction m with
  | zero =>
    intro i s hi hs hA
    have hi' : i = 256 := by omega
    subst hi'
    unfold lp29_3
    simp only [b29, Try.f29, nav, Option.getD_some, if_true, if_false, Nat.reduceEqDiff]
    rw [wpA_loop]
    simp only [pr29, secO] at hs
    simp [cf29, hs]
    exact hA _ (by simp [secO])
  | succ m ih =>
    intro i s hi hs hA
    have hi2 : (i : Int) < 256 := by omega
    have hi3 : i < 256 := by omega
    have hlt : i * 2 < L.length := by omega
    have hlt1 : i * 2 + 1 < L.length := by omega
    have hlt2 : i * 2 + 2 ≤ L.length := by omega
    obtain ⟨n, hn⟩ : ∃ n, L[i * 2]? = some n := ⟨L[i * 2], List.getElem?_eq_getElem hlt⟩
    obtain ⟨c, hc⟩ : ∃ c, L[i * 2 + 1]? = some c := ⟨L[i * 2 + 1], List.getElem?_eq_getElem hlt1⟩
    have hng : L[i * 2]'hlt = n := by rw [List.getElem?_eq_getElem hlt] at hn; exact Option.some.inj hn
    have hcg : L[i * 2 + 1]'hlt1 = c := by rw [List.getElem?_eq_getElem hlt1] at hc; exact Option.some.inj hc
    have w1 := wrap_in ((i : Int) + 1) (by omega) (by omega)
    have a1 : i + 1 ≤ maxLen := by unfold maxLen; omega
    have a2 : i + 1 ≤ 140737488355328 := by omega
    have a3 : i + 1 ≤ 17592186044416 := by omega
    have u1 : colU L 1 (i + 1) = colU L 1 i ++ [c] := by simp only [colU, List.getD_eq_getElem?_getD, hc, Option.getD_some]
    have u0 : colU L 0 (i + 1) = colU L 0 i ++ [n] := by simp only [colU, List.getD_eq_getElem?_getD, Nat.add_zero, hn, Option.getD_some]
    have ht2 : List.take 2 (List.drop (i * 2) L) = [n, c] := by
      rw [List.drop_eq_getElem_cons hlt, hng, List.take_succ_cons, List.drop_eq_getElem_cons hlt1, hcg]; rfl
    have b1 : i * 2 ≤ 510 := by omega
    have b2 : min 2 (512 - i * 2) = 2 := by omega
    unfold lp29_3
    simp only [b29, Try.f29, nav, Option.getD_some, if_true, if_false, Nat.reduceEqDiff]
    rw [wpA_loop]
    simp only [pr29, secO] at hs
    simp (maxSteps := 1000000) [cf29, hs, hi2, hi3, hl, hlt, hlt1, hlt2, hn, hc, hng, hcg, w1, a1, a2, a3, ty64, ht2, b1, b2]
    refine ⟨by kernel_rfl, by omega, ?_⟩
    exact ih (i + 1) _ (by omega) (by simp [pr29, secO, u1, u0]) hA

/-- what CodeSec tells of a secret value: its length and code, noughts where none is -/
def codeAt (t : Tab) (x : Int) : Int × Int := if 0 ≤ x ∧ x ≤ 255 then ((codesT t).getD (x.toNat * 2 + 1) 0, (codesT t).getD (x.toNat * 2) 0) else (0, 0)
def g29 (vs : List V) : Option V :=
  match vs with
  | [v, .agg [.int .i64 x]] => if inR x then (decTab v).map fun t => sec2 (codeAt t x) else none
  | _ => none
theorem g29_ok (vs : List V) (r : V) (h : g29 vs = some r) : CallR Try.prog [] 29 vs r := by
  unfold g29 at h
  split at h <;> try (cases h; done)
  rename_i v x
  split at h <;> try (cases h; done)
  rename_i hx
  simp only [Option.map_eq_some_iff] at h
  obtain ⟨t, ht, rfl⟩ := h
  obtain ⟨rfl, h0⟩ := decTab_spec ht
  have h2 := h0.cnt
  have e15 := g15_eq t h0
  have hl := codesT_length t h0
  have hm := codesT_mem t h0
  have k1 := k35_eq false (colU (codesT t) 1 256) x (colU_mem _ hm 1 256) (by simp) hx
  have k0 := k35_eq false (colU (codesT t) 0 256) x (colU_mem _ hm 0 256) (by simp) hx
  have n1 : (colU (codesT t) 1 256).isEmpty = false := by
    cases hh : colU (codesT t) 1 256 with
    | nil => have := congrArg List.length hh; rw [colU_length] at this; simp at this
    | cons => rfl
  have n0 : (colU (codesT t) 0 256).isEmpty = false := by
    cases hh : colU (codesT t) 0 256 with
    | nil => have := congrArg List.length hh; rw [colU_length] at this; simp at this
    | cons => rfl
  have r1 : lookT (colU (codesT t) 1 256) x = (codeAt t x).1 := by
    rw [lookT_col]; unfold codeAt; split <;> rfl
  have r0 : lookT (colU (codesT t) 0 256) x = (codeAt t x).2 := by
    rw [lookT_col]; unfold codeAt; split <;> rfl
  have lA := colU_length (codesT t) 1 256
  have lB := colU_length (codesT t) 0 256
  rw [r1] at k1
  rw [r0] at k0
  refine callR_of_wpA mixed (cf := cf29) (ow := false) at29 bd29 (by kernel_rfl) (by simp [cf29]) rfl C29_ok (Its.none_ok _) ?_
  simp only [b29, nav, Option.getD_some, if_true, if_false, Nat.reduceEqDiff]
  generalize hE : endQ Try.prog Try.f29 false (sec2 (codeAt t x)) = E
  simp only [Try.f29, Option.getD_some, Tab.enc]
  generalize codesT t = L at *
  simp (maxSteps := 1000000) [cf29, ty55, ty2, ty64, h2, e15, hl]
  refine loop29 L hl x _ 256 0 _ (by omega) (by simp [pr29, secO, colU]) ?_
  intro s' hs'
  simp only [pr29, secO] at hs'
  generalize colU L 1 256 = A at *
  generalize colU L 0 256 = B at *
  simp (maxSteps := 1000000) [hs', ty55, ty2, ty64, k1, k0, n1, n0, lA, lB]
  refine ⟨by kernel_rfl, ?_⟩
  rw [← hE]
  simp [Try.f29, sec2, secV, ty55]
theorem g29_eq (t : Tab) (h : t.Ok) (x : Int) (hx : inR x) : g29 [.agg (iv t.cnt ++ [.sl false t.nl 1 (bv t.vals)]), .agg [.int .i64 x]] = some (sec2 (codeAt t x)) := by
  have := decTab_enc t h
  unfold Tab.enc at this
  simp only [g29, this, Option.map_some, if_pos hx]
end Go.Ai

namespace Go.Ai
open Go Go.Proofs
set_option maxRecDepth 100000
set_option maxHeartbeats 4000000
set_option linter.unusedSimpArgs false
set_option linter.unusedVariables false
set_option pp.deepTerms false
-- TABLES 18:{"H3":"[[],[],[],[],[],[],[9]]"}
def pr18 : Nat → List Pr
  | 0 => [.keep [0, 1] []]
  | 1 => [.keep [1, 2] [2]]
  | 2 => [.keep [1, 2, 5, 6] [2]]
  | 3 => [.keep [1, 2, 5, 6, 7, 8] [2]]
  | 4 => [.keep [5, 6, 7, 8, 9, 10] [9, 10]]
  | _ => []
def dr18 : Nat → Dr
  | 3 => ⟨[[], [], [1], [2, 1, 0], [3, 2, 1, 0], [4, 3, 2, 1, 0], [4, 3, 2, 1, 0], [], [], [8, 7, 5, 4, 3, 2, 1, 0], [9, 8, 7, 6, 5, 4, 3, 2, 1, 0]], [[],[],[],[],[],[],[9]], [(9, [6]), (10, [])], [26, 27, 9, 10]⟩
  | _ => ⟨[], [], [], []⟩
theorem ck18_3 : chkDr (opsAt b18 3) (dr18 3) = true := by kernel_rfl
def kp18 : List Nat → List Nat
  | _ => []
-- END
-- TABLES 19:{"H4":"[[],[],[],[],[],[],[6]]"}
def pr19 : Nat → List Pr
  | 0 => [.keep [0, 1] []]
  | 1 => [.keep [1, 2] [2]]
  | 2 => [.keep [1, 2, 5] [2, 5]]
  | 3 => [.keep [1, 2, 5] [2, 5]]
  | 4 => [.keep [1, 2, 5] [2, 5]]
  | 5 => [.keep [5, 6, 7] [5, 6, 7]]
  | _ => []
def dr19 : Nat → Dr
  | 4 => ⟨[[], [], [1], [2, 1, 0], [3, 2, 1, 0], [4, 3, 2, 1, 0], [4, 3, 2, 1, 0], [], [], [8, 7, 5, 4, 3, 2, 1, 0], [9, 8, 7, 6, 5, 4, 3, 2, 1, 0]], [[],[],[],[],[],[],[6]], [(9, [6]), (10, [])], [22, 23, 6, 7]⟩
  | 5 => ⟨[[], [0], [], [2], [3, 2, 1, 0], [4, 3, 2, 1, 0], [5, 4, 3, 2, 1, 0], [6, 5, 4, 3, 2, 1, 0], [5, 4, 3, 2, 1, 0], [8, 5, 4, 3, 2, 1, 0], [9, 8, 7, 6, 5, 4, 3, 2, 1, 0], [10, 9, 8, 7, 6, 5, 4, 3, 2, 1, 0], [11, 10, 9, 8, 7, 6, 5, 4, 3, 2, 1, 0]], [], [], [27, 33]⟩
  | _ => ⟨[], [], [], []⟩
theorem ck19_4 : chkDr (opsAt b19 4) (dr19 4) = true := by kernel_rfl
theorem ck19_5 : chkDr (opsAt b19 5) (dr19 5) = true := by kernel_rfl
def kp19 : List Nat → List Nat
  | _ => []
-- END
-- TABLES 8
def pr8 : Nat → List Pr
  | 0 => [.keep [0, 1, 2, 3, 4, 5] []]
  | 1 => [.keep [1, 2, 3, 4, 5, 6] [6]]
  | 2 => [.keep [] []]
  | 3 => [.keep [1, 2, 3, 4, 5, 6] [6]]
  | 4 => [.keep [1, 2, 3, 4, 5, 6, 13] [6, 13]]
  | _ => []
def dr8 : Nat → Dr
  | _ => ⟨[], [], [], []⟩
def kp8 : List Nat → List Nat
  | _ => []
-- END
attribute [simp] pr18 dr18 kp18 pr19 dr19 kp19 pr8 dr8 kp8
noncomputable def C18 : Cs := ((((Cs.none.add 17 g17).add 25 g25).add 26 g26).add 27 g27).add 28 g28
theorem C18_ok : C18.Ok Try.prog [] := Cs.add_ok (Cs.add_ok (Cs.add_ok (Cs.add_ok (Cs.add_ok (Cs.none_ok _) en17 g17_ok) en25 g25_ok) en26 g26_ok) en27 g27_ok) en28 g28_ok
attribute [simp] C18
noncomputable def cf18 : Cf := { N := 50, pr := pr18, dr := dr18, C := C18, It := Its.none, kp := kp18, rf := true, stop := none, lid := 0 }
theorem g28_eq (x : Int) : g28 [.agg [.int .i64 x], .nilp] = some (.int .i64 x) := rfl
def g18 (vs : List V) : Option V :=
  match vs with
  | [v, .int .i64 w] => if inR w then (decTab v).map fun t => .bool true else none
  | _ => none
theorem g18_ok (vs : List V) (r : V) (h : g18 vs = some r) : CallR Try.prog [] 18 vs r := by
  unfold g18 at h
  split at h <;> try (cases h; done)
  rename_i v w
  split at h <;> try (cases h; done)
  rename_i hw
  simp only [Option.map_eq_some_iff] at h
  obtain ⟨t, ht, rfl⟩ := h
  obtain ⟨rfl, h0⟩ := decTab_spec ht
  have h2 := h0.cnt
  have e17 := g17_eq t h0 w
  have e25 := g25_eq t h0 w
  have e26 := g26_eq t h0 w hw
  have e27 := g27_eq
  have e28 := g28_eq
  refine callR_of_wpA mixed (cf := cf18) (ow := false) at18 bd18 (by kernel_rfl) (by simp [cf18]) rfl C18_ok (Its.none_ok _) ?_
  simp only [b18, nav, Option.getD_some, if_true, if_false, Nat.reduceEqDiff]
  generalize hE : endQ Try.prog Try.f18 false (.bool true) = E
  simp only [Try.f18, Option.getD_some, Tab.enc]
  generalize findT t w = x at *
  obtain ⟨a, b⟩ := x
  simp only [tup2, sec2, secV] at e17 e25 e26
  simp (maxSteps := 1000000) [cf18, ty55, ty2, ty63, h2, e17, e25, e26, e27, e28]
  refine ⟨by kernel_rfl, ?_⟩
  rw [← hE]
  simp [Try.f18]
theorem g18_eq (t : Tab) (h : t.Ok) (w : Int) (hw : inR w) : g18 [.agg (iv t.cnt ++ [.sl false t.nl 1 (bv t.vals)]), .int .i64 w] = some (.bool true) := by
  have := decTab_enc t h
  unfold Tab.enc at this
  simp only [g18, this, Option.map_some, if_pos hw]
noncomputable def C19 : Cs := (((Cs.none.add 23 g23).add 27 g27).add 28 g28).add 29 g29
theorem C19_ok : C19.Ok Try.prog [] := Cs.add_ok (Cs.add_ok (Cs.add_ok (Cs.add_ok (Cs.none_ok _) en23 g23_ok) en27 g27_ok) en28 g28_ok) en29 g29_ok
attribute [simp] C19
noncomputable def cf19 : Cf := { N := 38, pr := pr19, dr := dr19, C := C19, It := Its.none, kp := kp19, rf := true, stop := none, lid := 0 }
def g19 (vs : List V) : Option V :=
  match vs with
  | [v, .int .i64 x] => if inR x then (decTab v).map fun t => .bool true else none
  | _ => none
theorem g19_ok (vs : List V) (r : V) (h : g19 vs = some r) : CallR Try.prog [] 19 vs r := by
  unfold g19 at h
  split at h <;> try (cases h; done)
  rename_i v x
  split at h <;> try (cases h; done)
  rename_i hx
  simp only [Option.map_eq_some_iff] at h
  obtain ⟨t, ht, rfl⟩ := h
  obtain ⟨rfl, h0⟩ := decTab_spec ht
  have h2 := h0.cnt
  have e23 := g23_eq t h0
  have e29 := g29_eq t h0 x hx
  have e27 := g27_eq
  have e28 := g28_eq
  have hl := codesT_length t h0
  refine callR_of_wpA mixed (cf := cf19) (ow := false) at19 bd19 (by kernel_rfl) (by simp [cf19]) rfl C19_ok (Its.none_ok _) ?_
  simp only [b19, nav, Option.getD_some, if_true, if_false, Nat.reduceEqDiff]
  generalize hE : endQ Try.prog Try.f19 false (.bool true) = E
  simp only [Try.f19, Option.getD_some, Tab.enc]
  by_cases h0x : 0 ≤ x
  · by_cases h255 : x ≤ 255
    · have hi : x.toNat < 256 := by omega
      have hi2 : x < 256 := by omega
      have hc : codeAt t x = ((codesT t).getD (x.toNat * 2 + 1) 0, (codesT t).getD (x.toNat * 2) 0) := by
        unfold codeAt; rw [if_pos (by omega)]
      rw [hc] at e29
      generalize codesT t = L at *
      have hlt : x.toNat * 2 < L.length := by omega
      have hlt1 : x.toNat * 2 + 1 < L.length := by omega
      obtain ⟨n, hn⟩ : ∃ n, L[x.toNat * 2]? = some n := ⟨L[x.toNat * 2], List.getElem?_eq_getElem hlt⟩
      obtain ⟨c, hcc⟩ : ∃ c, L[x.toNat * 2 + 1]? = some c := ⟨L[x.toNat * 2 + 1], List.getElem?_eq_getElem hlt1⟩
      have hng : L[x.toNat * 2]'hlt = n := by rw [List.getElem?_eq_getElem hlt] at hn; exact Option.some.inj hn
      have hcg : L[x.toNat * 2 + 1]'hlt1 = c := by rw [List.getElem?_eq_getElem hlt1] at hcc; exact Option.some.inj hcc
      have ht2 : List.take 2 (List.drop (x.toNat * 2) L) = [n, c] := by
        rw [List.drop_eq_getElem_cons hlt, hng, List.take_succ_cons, List.drop_eq_getElem_cons hlt1, hcg]; rfl
      have b1 : x.toNat * 2 ≤ 510 := by omega
      have b2 : min 2 (512 - x.toNat * 2) = 2 := by omega
      simp only [List.getD_eq_getElem?_getD, hn, hcc, Option.getD_some, sec2, secV] at e29
      simp (maxSteps := 1000000) [cf19, ty55, ty2, ty63, h2, e23, e27, e28, e29, h0x, h255, hi, hi2, hl, hlt, hlt1, hn, hcc, hng, hcg, ht2, b1, b2]
      refine ⟨by kernel_rfl, by kernel_rfl, ?_⟩
      rw [← hE]
      simp [Try.f19]
    · have hc : codeAt t x = (0, 0) := by unfold codeAt; rw [if_neg (by omega)]
      rw [hc] at e29
      simp only [sec2, secV] at e29
      simp (maxSteps := 1000000) [cf19, ty55, ty2, ty63, h2, e27, e28, e29, h0x, h255]
      refine ⟨by kernel_rfl, by kernel_rfl, ?_⟩
      rw [← hE]
      simp [Try.f19]
  · have hc : codeAt t x = (0, 0) := by unfold codeAt; rw [if_neg (by omega)]
    rw [hc] at e29
    simp only [sec2, secV] at e29
    simp (maxSteps := 1000000) [cf19, ty55, ty2, ty63, h2, e27, e28, e29, h0x]
    refine ⟨by kernel_rfl, by kernel_rfl, ?_⟩
    rw [← hE]
    simp [Try.f19]
theorem g19_eq (t : Tab) (h : t.Ok) (w : Int) (hw : inR w) : g19 [.agg (iv t.cnt ++ [.sl false t.nl 1 (bv t.vals)]), .int .i64 w] = some (.bool true) := by
  have := decTab_enc t h
  unfold Tab.enc at this
  simp only [g19, this, Option.map_some, if_pos hw]
end Go.Ai

namespace Go.Ai
open Go Go.Proofs
set_option maxRecDepth 100000
set_option maxHeartbeats 4000000
set_option linter.unusedSimpArgs false
set_option linter.unusedVariables false
set_option pp.deepTerms false
noncomputable def C8 : Cs := ((((Cs.none.add 9 g9).add 12 g12).add 14 g10).add 18 g18).add 19 g19
theorem C8_ok : C8.Ok Try.prog [] := Cs.add_ok (Cs.add_ok (Cs.add_ok (Cs.add_ok (Cs.add_ok (Cs.none_ok _) en9 g9_ok) en12 g12_ok) en14 g14_ok) en18 g18_ok) en19 g19_ok
attribute [simp] C8
noncomputable def cf8 : Cf := { N := 72, pr := pr8, dr := dr8, C := C8, It := Its.none, kp := kp8, rf := true, stop := none, lid := 0 }
theorem law8 (t : Tab) (h : t.Ok) (nl : Bool) (cs : List Int) (hcs : ∀ v ∈ cs, 0 ≤ v ∧ v < 256) (w x b k : Int) (hw : inR w) (hx : inR x) (hb0 : 0 ≤ b) (hb1 : b < 65536) (hk0 : 0 ≤ k) (hk1 : k < 256) :
    CallR Try.prog [] 8 [t.enc, .sl false nl 1 (bv cs), .int .i64 w, .int .i64 x, .int .u16 b, .int .u8 k] (.bool true) := by
  have h2 := h.cnt
  obtain ⟨hokT, _, _⟩ := tableT_spec nl cs hcs
  have e9 := g9_eq
  have e12 := g12_eq nl cs hcs
  have bit : ∀ y : Int, 0 ≤ y → bit2 (y.tmod 2) ∧ kOf (y.tmod 2) = y.tmod 2 ∧ IntKind.i64.wrap (y.tmod 2) = y.tmod 2 ∧ IntKind.u8.wrap (y.tmod 2) = y.tmod 2 := by
    intro y hy
    have e : y.tmod 2 = y % 2 := Int.tmod_eq_emod_of_nonneg hy
    rw [e]
    have : y % 2 = 0 ∨ y % 2 = 1 := by omega
    refine ⟨this, ?_, wrap_in _ (by omega) (by omega), u8_in _ (by omega) (by omega)⟩
    unfold kOf
    rcases this with h | h <;> simp [h]
  have d2 : 0 ≤ k.tdiv 2 ∧ k.tdiv 2 < 256 := by rw [Int.tdiv_eq_ediv_of_nonneg hk0]; omega
  have x2 := u8_in _ d2.1 d2.2
  obtain ⟨ba, ka, wa, va⟩ := bit _ hk0
  obtain ⟨bb, kb, wb, vb⟩ := bit _ d2.1
  have e10 := g10_eq (k.tmod 2) ((k.tdiv 2).tmod 2)
  rw [ka, kb] at e10
  have hok := std_ok _ _ ba bb
  have hnl := std_nl _ _ ba bb
  have hm : 0 ≤ b.tmod 40 ∧ b.tmod 40 < 40 := by rw [Int.tmod_eq_emod_of_nonneg hb0]; omega
  have wb1 := wrap_in b (by omega) (by omega)
  have wm := wrap_in (b.tmod 40) (by omega) (by omega)
  have wm2 := wrap_in (65535 - b.tmod 40) (by omega) (by omega)
  have wk := wrap_in k (by omega) (by omega)
  have hbR : inR b := by unfold inR; omega
  have hmR : inR (65535 - b.tmod 40) := by unfold inR; omega
  have hkR : inR k := by unfold inR; omega
  generalize stdTab (k.tmod 2) ((k.tdiv 2).tmod 2) = T at e10 hok hnl
  have hcT := hok.cnt
  have s1 := g18_eq T hok b hbR
  have s2 := g18_eq T hok _ hmR
  have s3 := g19_eq T hok k hkR
  rw [hnl] at s1 s2 s3
  generalize tableT nl cs = U at e12 hokT
  have hcU := hokT.cnt
  have u1 := g18_eq U hokT b hbR
  have u2 := g19_eq U hokT x hx
  have t1 := g18_eq t h w hw
  have t2 := g19_eq t h x hx
  refine callR_of_wpA mixed (cf := cf8) (ow := false) at8 bd8 (by kernel_rfl) (by simp [cf8]) rfl C8_ok (Its.none_ok _) ?_
  generalize hE : endQ Try.prog Try.f8 false (.bool true) = E
  simp only [b8, Try.f8, nav, Option.getD_some, Tab.enc, if_true, if_false, Nat.reduceEqDiff]
  by_cases h300 : (300 : Int) < t.vals.length
  · have h300' : 300 < t.vals.length := by omega
    simp [cf8, h2, h300, h300', e9]
    rw [← hE]
    simp [Try.f8]
  · have h300' : ¬ 300 < t.vals.length := by omega
    simp (maxSteps := 4000000) [cf8, h2, h300, h300', e9, e10, e12, wa, wb, va, vb, x2, wb1, wm, wm2, wk, hcT, hcU, s1, s2, s3, u1, u2, t1, t2, ty40]
    rw [← hE]
    simp [Try.f8]
end Go.Ai
