/- The contract of HuffRow: true for every row of bytes. -/
import Derived.Test.YtghhjkblhchhmaaDc
namespace Go.Ai
open Go Go.Proofs
set_option maxRecDepth 100000
set_option maxHeartbeats 4000000
set_option linter.unusedSimpArgs false
set_option linter.unusedVariables false
set_option pp.deepTerms false
-- TABLES 4
def pr4 : Nat → List Pr
  | 0 => [.keep [0] []]
  | 1 => [.keep [0] []]
  | 2 => [.keep [3] [3]]
  | 3 => [.keep [3, 4] [3, 4]]
  | 4 => [.keep [3, 4, 5] [3, 4]]
  | 5 => [.keep [3, 4, 5, 6] [3, 4]]
  | 7 => [.keep [3, 4, 5, 6] [3, 4]]
  | 8 => [.keep [3, 4, 5, 6] [3, 4]]
  | 6 => [.keep [3, 4, 5, 6] [3, 4]]
  | 9 => [.keep [3, 4, 5] [3, 4]]
  | 10 => [.keep [5] []]
  | 11 => [.keep [3, 4, 5] [3, 4]]
  | 12 => [.keep [3, 4, 5, 7] [3, 4]]
  | 14 => [.keep [3, 4, 5, 7] [3, 4]]
  | 15 => [.keep [3, 4, 5, 7, 8] [3, 4, 8]]
  | 16 => [.keep [3, 4, 5, 7, 8, 9] [3, 4, 8, 9]]
  | 17 => [.keep [] []]
  | 13 => [.keep [3, 4, 5, 7] [3, 4]]
  | 18 => [.keep [3, 5] [3]]
  | _ => []
def dr4 : Nat → Dr
  | _ => ⟨[], [], [], []⟩
def kp4 : List Nat → List Nat
  | _ => []
-- END
attribute [simp] pr4 dr4 kp4

/-! ## What the codes of a table are, value by value -/
theorem splI2_get (l : List Int) (off : Nat) (a b : Int) (h : off + 2 ≤ l.length) (j : Nat) : (splI l off [a, b])[j]? = if j = off then some a else if j = off + 1 then some b else l[j]? := by
  unfold splI
  have hl : (l.take off).length = off := by simp; omega
  rcases Nat.lt_or_ge j off with h1 | h1
  · rw [List.append_assoc, List.getElem?_append_left (by omega), if_neg (by omega), if_neg (by omega), List.getElem?_take, if_pos h1]
  · rw [List.append_assoc, List.getElem?_append_right (by omega), hl]
    rcases Nat.lt_or_ge j (off + 2) with h2 | h2
    · rcases Nat.lt_or_eq_of_le h1 with h3 | h3
      · have : j = off + 1 := by omega
        subst this
        rw [if_neg (by omega), if_pos rfl, show off + 1 - off = 1 from by omega]; rfl
      · subst h3
        rw [if_pos rfl, Nat.sub_self]; rfl
    · rw [if_neg (by omega), if_neg (by omega), List.getElem?_append_right (by simp; omega)]
      simp
      congr 1; omega

theorem codesArr_other : ∀ (vs : List Int) (cs : List (Int × Int)) (out : List Int), (∀ v ∈ vs, 0 ≤ v ∧ v < 256) → out.length = 512 → ∀ w : Nat, (w : Int) ∉ vs → (codesArr vs cs out)[w * 2]? = out[w * 2]? ∧ (codesArr vs cs out)[w * 2 + 1]? = out[w * 2 + 1]? := by
  intro vs
  induction vs with
  | nil => intro cs out _ _ w _; exact ⟨rfl, rfl⟩
  | cons v vs ih =>
    intro cs out hv ho w hw
    cases cs with
    | nil => exact ⟨rfl, rfl⟩
    | cons x cs =>
      obtain ⟨n, c⟩ := x
      have h1 := hv v (by simp)
      simp only [List.mem_cons, not_or] at hw
      have hne : v.toNat ≠ w := fun e => hw.1 (by omega)
      obtain ⟨p1, p2⟩ := ih cs (splI out (v.toNat * 2) [n, c]) (fun y hy => hv y (by simp [hy])) (by rw [splI_length _ _ _ (by simp; omega)]; exact ho) w hw.2
      simp only [codesArr]
      rw [p1, p2, splI2_get _ _ _ _ (by omega), splI2_get _ _ _ _ (by omega), if_neg (by omega), if_neg (by omega), if_neg (by omega), if_neg (by omega)]
      exact ⟨rfl, rfl⟩
theorem codesArr_at : ∀ (vs : List Int) (cs : List (Int × Int)) (out : List Int), (∀ v ∈ vs, 0 ≤ v ∧ v < 256) → out.length = 512 → vs.Nodup → ∀ (i : Nat) (v n c : Int), vs[i]? = some v → cs[i]? = some (n, c) →
    (codesArr vs cs out)[v.toNat * 2]? = some n ∧ (codesArr vs cs out)[v.toNat * 2 + 1]? = some c := by
  intro vs
  induction vs with
  | nil => intro cs out _ _ _ i v n c h; simp at h
  | cons v0 vs ih =>
    intro cs out hv ho hnd i v n c h1 h2
    cases cs with
    | nil => simp at h2
    | cons x cs =>
      obtain ⟨n0, c0⟩ := x
      have hv0 := hv v0 (by simp)
      rw [List.nodup_cons] at hnd
      have hlen : (splI out (v0.toNat * 2) [n0, c0]).length = 512 := by rw [splI_length _ _ _ (by simp; omega)]; exact ho
      simp only [codesArr]
      cases i with
      | zero =>
        simp only [List.getElem?_cons_zero, Option.some.injEq, Prod.mk.injEq] at h1 h2
        obtain ⟨rfl, rfl⟩ := h2
        subst h1
        have hn : ((v0.toNat : Nat) : Int) ∉ vs := by rw [Int.toNat_of_nonneg hv0.1]; exact hnd.1
        obtain ⟨p1, p2⟩ := codesArr_other vs cs (splI out (v0.toNat * 2) [n0, c0]) (fun y hy => hv y (by simp [hy])) hlen v0.toNat hn
        rw [p1, p2, splI2_get _ _ _ _ (by omega), splI2_get _ _ _ _ (by omega), if_pos rfl, if_neg (by omega), if_pos rfl]
        exact ⟨rfl, rfl⟩
      | succ i =>
        exact ih cs _ (fun y hy => hv y (by simp [hy])) hlen hnd.2 i v n c (by simpa using h1) (by simpa using h2)

/-- of two codes that stand beside each other -/
def nextOk (x y : Int × Int) : Prop := x.1 ≤ y.1 ∧ (x.1 = y.1 → y.2 = x.2 + 1)
theorem rowC_get (i : Int) : ∀ (n : Nat) (next : Int) (k : Nat), k < n → (rowC i n next)[k]? = some (i, next + k) := by
  intro n
  induction n with
  | zero => intro next k h; omega
  | succ n ih =>
    intro next k h
    cases k with
    | zero => simp [rowC]
    | succ k =>
      simp only [rowC, List.getElem?_cons_succ]
      rw [ih (next + 1) k (by omega)]
      simp; omega
theorem codesL_ge : ∀ (l : List Int) (i next : Int) (x : Int × Int), x ∈ codesL l i next → i ≤ x.1 := by
  intro l
  induction l with
  | nil => intro i next x h; simp [codesL] at h
  | cons c l ih =>
    intro i next x h
    simp only [codesL, List.mem_append] at h
    rcases h with h | h
    · have := rowC_mem _ _ _ _ h; omega
    · have := ih _ _ _ h; omega
theorem codesL_next : ∀ (l : List Int) (i next : Int) (k : Nat) (x y : Int × Int), (codesL l i next)[k]? = some x → (codesL l i next)[k + 1]? = some y → nextOk x y := by
  intro l
  induction l with
  | nil => intro i next k x y h; simp [codesL] at h
  | cons c l ih =>
    intro i next k x y hx hy
    simp only [codesL] at hx hy
    have hlen : (rowC i c.toNat (2 * next)).length = c.toNat := rowC_length _ _ _
    rcases Nat.lt_or_ge (k + 1) c.toNat with h1 | h1
    · rw [List.getElem?_append_left (by omega), rowC_get _ _ _ _ (by omega)] at hx hy
      cases hx; cases hy
      exact ⟨by simp, fun _ => by simp; omega⟩
    · rcases Nat.lt_or_ge k c.toNat with h2 | h2
      · rw [List.getElem?_append_left (by omega), rowC_get _ _ _ _ (by omega)] at hx
        rw [List.getElem?_append_right (by omega)] at hy
        cases hx
        have := codesL_ge _ _ _ _ (List.mem_of_getElem? hy)
        exact ⟨by simp; omega, fun e => by simp at e; omega⟩
      · rw [List.getElem?_append_right (by omega)] at hx hy
        rw [hlen] at hx hy
        exact ih _ _ (k - c.toNat) x y hx (by rw [show k - c.toNat + 1 = k + 1 - c.toNat from by omega]; exact hy)

/-- how many values have a code -/
def posCnt (L : List Int) : Nat → Nat
  | 0 => 0
  | i + 1 => posCnt L i + if 0 < L.getD (i * 2) 0 then 1 else 0
theorem posCnt_eq (L : List Int) : ∀ i, posCnt L i = ((List.range i).filter fun v => decide (0 < L.getD (v * 2) 0)).length := by
  intro i
  induction i with
  | zero => rfl
  | succ i ih =>
    rw [posCnt, ih, List.range_succ, List.filter_append, List.length_append]
    congr 1
    by_cases h : 0 < L.getD (i * 2) 0
    · rw [if_pos h, List.filter_cons_of_pos (by simpa using h)]; rfl
    · rw [if_neg h, List.filter_cons_of_neg (by simpa using h)]; rfl
theorem posCnt_le (L : List Int) (i : Nat) : posCnt L i ≤ i := by
  rw [posCnt_eq]
  have := List.length_filter_le (fun v => decide (0 < L.getD (v * 2) 0)) (List.range i)
  simpa using this

theorem zero_get (j : Nat) (hj : j < 512) : (rep 512 (0 : Int))[j]? = some 0 := rep_get 512 0 j hj
theorem code_N (t : Tab) (h : t.Ok) (hg : TabGood t) (w : Nat) (hw : w < 256) : (0 < (codesT t).getD (w * 2) 0) ↔ (w : Int) ∈ t.vals := by
  have hc := (checkT_good t h).2 hg
  have hlen := codesL_length t.cnt 1 0 hg.cnt
  have e : codesT t = codesArr t.vals (codesOf t.cnt) (rep 512 0) := by unfold codesT; rw [if_pos hc]
  rw [e, List.getD_eq_getElem?_getD]
  constructor
  · intro hp
    apply Classical.byContradiction
    intro hn
    rw [(codesArr_other _ _ _ h.vals (by simp) w hn).1, zero_get _ (by omega)] at hp
    simp at hp
  · intro hm
    obtain ⟨i, hi⟩ := List.getElem?_of_mem hm
    have hil := (List.getElem?_eq_some_iff.1 hi).1
    have hcl : i < (codesOf t.cnt).length := by have := hg.sum; unfold codesOf; omega
    have hx := List.getElem?_eq_getElem hcl
    have hm2 := codesOf_mem hg.cnt h.cnt _ (List.getElem_mem hcl)
    have := (codesArr_at t.vals (codesOf t.cnt) (rep 512 0) h.vals (by simp) hg.nodup i w _ _ hi hx).1
    simp only [Int.toNat_natCast] at this
    rw [this]; simp; omega
theorem posCnt_good (t : Tab) (h : t.Ok) (hg : TabGood t) : posCnt (codesT t) 256 = t.vals.length := by
  rw [posCnt_eq]
  have e : ((List.range 256).filter fun v => decide (0 < (codesT t).getD (v * 2) 0)) = (List.range 256).filter fun v : Nat => decide ((v : Int) ∈ t.vals) := by
    apply List.filter_congr
    intro v hv
    rw [List.mem_range] at hv
    simp only [code_N t h hg v hv]
  rw [e]
  have hp : (((List.range 256).filter fun v : Nat => decide ((v : Int) ∈ t.vals)).map fun v : Nat => (v : Int)).Perm t.vals := by
    rw [List.perm_ext_iff_of_nodup]
    · intro x
      simp only [List.mem_map, List.mem_filter, List.mem_range, decide_eq_true_eq]
      constructor
      · rintro ⟨v, ⟨_, h1⟩, rfl⟩; exact h1
      · intro hx
        have := h.vals x hx
        exact ⟨x.toNat, ⟨by omega, by rw [Int.toNat_of_nonneg this.1]; exact hx⟩, Int.toNat_of_nonneg this.1⟩
    · refine List.Pairwise.map _ ?_ (List.nodup_range.filter _)
      intro a b hab e
      exact hab (by exact_mod_cast e)
    · exact hg.nodup
  have := hp.length_eq
  simpa using this
theorem posCnt_zero : posCnt (rep 512 0) 256 = 0 := by
  rw [posCnt_eq, List.length_eq_zero_iff, List.filter_eq_nil_iff]
  intro v hv
  rw [List.mem_range] at hv
  rw [List.getD_eq_getElem?_getD, zero_get _ (by omega)]; simp

/-! ## HuffRow -/
noncomputable def C4 : Cs := (((Cs.none.add 9 g9).add 12 g12).add 15 g15).add 16 g16
theorem C4_ok : C4.Ok Try.prog [] := Cs.add_ok (Cs.add_ok (Cs.add_ok (Cs.add_ok (Cs.none_ok _) en9 g9_ok) en12 g12_ok) en15 g15_ok) en16 g16_ok
attribute [simp] C4
noncomputable def cf4 : Cf := { N := 83, pr := pr4, dr := dr4, C := C4, It := Its.none, kp := kp4, rf := true, stop := none, lid := 0 }

theorem count4 (t : Tab) (L : List Int) (hl : L.length = 512) (Q : Ex → St → Prop) :
    ∀ (m i : Nat) (s : St), i + m = 256 →
      prep (pr4 5) s = ⟨[(3, .ptr 3 17 0 0), (4, .ptr 4 512 0 0), (5, .int .i64 (posCnt L i)), (6, .int .i64 i)], ⟨[(3, ⟨false, false, 25, 17, [iv t.cnt ++ [.sl false t.nl 1 (bv t.vals)]]⟩), (4, ⟨false, false, 34, 512, [iv L]⟩)], []⟩, ⟨[], []⟩⟩ →
      (∀ s', prep (pr4 9) s' = ⟨[(3, .ptr 3 17 0 0), (4, .ptr 4 512 0 0), (5, .int .i64 (posCnt L 256))], ⟨[(3, ⟨false, false, 25, 17, [iv t.cnt ++ [.sl false t.nl 1 (bv t.vals)]]⟩), (4, ⟨false, false, 34, 512, [iv L]⟩)], []⟩, ⟨[], []⟩⟩ → Q (.exit 0) s') →
      wpA Try.prog cf4 lp4_5 s Q := by
  intro m
  induction m with
  | zero =>
    intro i s hi hs hA
    have hi' : i = 256 := by omega
    subst hi'
    unfold lp4_5
    simp only [b4, Try.f4, nav, Option.getD_some, if_true, if_false, Nat.reduceEqDiff]
    rw [wpA_loop]
    simp only [pr4] at hs
    simp [cf4, hs]
    exact hA _ (by simp)
  | succ m ih =>
    intro i s hi hs hA
    have hi2 : (i : Int) < 256 := by omega
    have hi3 : i < 256 := by omega
    have hlt : i * 2 < L.length := by omega
    obtain ⟨n, hn⟩ : ∃ n, L[i * 2]? = some n := ⟨L[i * 2], List.getElem?_eq_getElem hlt⟩
    have hng : L[i * 2]'hlt = n := by rw [List.getElem?_eq_getElem hlt] at hn; exact Option.some.inj hn
    have hp : posCnt L (i + 1) = posCnt L i + if 0 < n then 1 else 0 := by
      rw [posCnt, List.getD_eq_getElem?_getD, hn]; rfl
    have hle := posCnt_le L i
    have w1 := wrap_in ((i : Int) + 1) (by omega) (by omega)
    have w2 := wrap_in ((posCnt L i : Int) + 1) (by omega) (by omega)
    unfold lp4_5
    simp only [b4, Try.f4, nav, Option.getD_some, if_true, if_false, Nat.reduceEqDiff]
    rw [wpA_loop]
    simp only [pr4] at hs
    by_cases h0 : 0 < n
    · rw [if_pos h0] at hp
      simp [cf4, hs, hi2, hi3, hl, hn, hng, w1, w2, h0]
      exact ih (i + 1) _ (by omega) (by simp [pr4, hp]) hA
    · rw [if_neg h0] at hp
      simp [cf4, hs, hi2, hi3, hl, hn, hng, w1, w2, h0]
      exact ih (i + 1) _ (by omega) (by simp [pr4, hp]) hA

theorem row4 (t : Tab) (h : t.Ok) (hg : TabGood t) (L : List Int) (hL : L = codesT t) (cn : Int) (Q : Ex → St → Prop) :
    ∀ (m i : Nat) (s : St), 1 ≤ i → i + m = t.vals.length ∨ (m = 0 ∧ t.vals.length ≤ i) → i ≤ 300 →
      prep (pr4 12) s = ⟨[(3, .ptr 3 17 0 0), (4, .ptr 4 512 0 0), (5, .int .i64 cn), (7, .int .i64 i)], ⟨[(3, ⟨false, false, 25, 17, [iv t.cnt ++ [.sl false t.nl 1 (bv t.vals)]]⟩), (4, ⟨false, false, 34, 512, [iv L]⟩)], []⟩, ⟨[], []⟩⟩ →
      (∀ s', prep (pr4 18) s' = ⟨[(3, .ptr 3 17 0 0), (5, .int .i64 cn)], ⟨[(3, ⟨false, false, 25, 17, [iv t.cnt ++ [.sl false t.nl 1 (bv t.vals)]]⟩)], []⟩, ⟨[], []⟩⟩ → Q (.exit 2) s') →
      wpA Try.prog cf4 lp4_12 s Q := by
  have hc16 := h.cnt
  have hgl := hg.len
  have hl : L.length = 512 := by rw [hL]; exact codesT_length t h
  have hck := (checkT_good t h).2 hg
  have hlen := codesL_length t.cnt 1 0 hg.cnt
  have eL : L = codesArr t.vals (codesOf t.cnt) (rep 512 0) := by rw [hL]; unfold codesT; rw [if_pos hck]
  have hcl : (codesOf t.cnt).length = t.vals.length := by have := hg.sum; unfold codesOf; omega
  intro m
  induction m with
  | zero =>
    intro i s h1 hi hi3 hs hA
    unfold lp4_12
    simp only [b4, Try.f4, nav, Option.getD_some, if_true, if_false, Nat.reduceEqDiff]
    rw [wpA_loop]
    simp only [pr4] at hs
    have hlt : ¬ (i : Int) < t.vals.length := by omega
    have hlt2 : ¬ i < t.vals.length := by omega
    simp [cf4, hs, hlt, hlt2, hc16]
    exact hA _ (by simp)
  | succ m ih =>
    intro i s h1 hi hi3 hs hA
    have hil : i < t.vals.length := by omega
    have hjl : i - 1 < t.vals.length := by omega
    obtain ⟨v, hv⟩ : ∃ v, t.vals[i]? = some v := ⟨t.vals[i], List.getElem?_eq_getElem hil⟩
    obtain ⟨u, hu⟩ : ∃ v, t.vals[i - 1]? = some v := ⟨t.vals[i - 1], List.getElem?_eq_getElem hjl⟩
    have hvg : t.vals[i]'hil = v := by rw [List.getElem?_eq_getElem hil] at hv; exact Option.some.inj hv
    have hug : t.vals[i - 1]'hjl = u := by rw [List.getElem?_eq_getElem hjl] at hu; exact Option.some.inj hu
    have hvr := h.vals v (List.mem_of_getElem? hv)
    have hur := h.vals u (List.mem_of_getElem? hu)
    obtain ⟨⟨n, c⟩, hx⟩ : ∃ x, (codesOf t.cnt)[i]? = some x := ⟨(codesOf t.cnt)[i]'(by omega), List.getElem?_eq_getElem (by omega)⟩
    obtain ⟨⟨n', c'⟩, hx'⟩ : ∃ x, (codesOf t.cnt)[i - 1]? = some x := ⟨(codesOf t.cnt)[i - 1]'(by omega), List.getElem?_eq_getElem (by omega)⟩
    have hnx : nextOk (n', c') (n, c) := codesL_next t.cnt 1 0 (i - 1) _ _ hx' (by rw [show i - 1 + 1 = i from by omega]; exact hx)
    have hm := codesOf_mem hg.cnt h.cnt _ (List.mem_of_getElem? hx')
    obtain ⟨a1, a2⟩ := codesArr_at t.vals (codesOf t.cnt) (rep 512 0) h.vals (by simp) hg.nodup i v n c hv hx
    obtain ⟨a3, a4⟩ := codesArr_at t.vals (codesOf t.cnt) (rep 512 0) h.vals (by simp) hg.nodup (i - 1) u n' c' hu hx'
    rw [← eL] at a1 a2 a3 a4
    obtain ⟨q1, q2⟩ := hnx
    simp only at q1 q2 hm
    have tk : ∀ (w : Int) (x y : Int), 0 ≤ w ∧ w < 256 → L[w.toNat * 2]? = some x → L[w.toNat * 2 + 1]? = some y → (L.drop (w.toNat * 2)).take 2 = [x, y] := by
      intro w x y hw g1 g2
      have l1 : w.toNat * 2 < L.length := by omega
      have l2 : w.toNat * 2 + 1 < L.length := by omega
      rw [List.drop_eq_getElem_cons l1, List.drop_eq_getElem_cons l2]
      rw [List.getElem?_eq_getElem l1] at g1
      rw [List.getElem?_eq_getElem l2] at g2
      rw [Option.some.inj g1, Option.some.inj g2]; rfl
    have t1 := tk v n c hvr a1 a2
    have t2 := tk u n' c' hur a3 a4
    have w0 := wrap_in ((i : Int) - 1) (by omega) (by omega)
    have w1 := wrap_in ((i : Int) + 1) (by omega) (by omega)
    have w2 := wrap_in (c' + 1) (by omega) (by omega)
    have hi' : (i : Int) < t.vals.length := by omega
    have hto : ((i : Int) - 1).toNat = i - 1 := by omega
    have hge : (1 : Int) ≤ i := by omega
    have hv5 : v ≤ 255 := by omega
    have hu5 : u ≤ 255 := by omega
    have hlt' : (i : Int) - 1 < t.vals.length := by omega
    unfold lp4_12
    simp only [b4, Try.f4, nav, Option.getD_some, if_true, if_false, Nat.reduceEqDiff]
    rw [wpA_loop]
    simp only [pr4] at hs
    have hng : ¬ n < n' := by omega
    have hb1 : v.toNat * 2 + 2 ≤ 512 := by omega
    have hb2 : u.toNat * 2 + 2 ≤ 512 := by omega
    have hb3 : ¬ (u.toNat * 2 = 0 ∧ (2 : Nat) = 512) := by omega
    by_cases he : n' = n
    · have e1 := q2 he
      simp (maxSteps := 1000000) [cf4, hs, hi', hil, hjl, hv, hu, hvg, hug, hvr, hur, hc16, hl, w0, w1, w2, hto, hge, hv5, hu5, hlt', t1, t2, hb1, hb2, he, e1]
      exact ih (i + 1) _ (by omega) (by omega) (by omega) (by simp [pr4]) hA
    · simp (maxSteps := 1000000) [cf4, hs, hi', hil, hjl, hv, hu, hvg, hug, hvr, hur, hc16, hl, w0, w1, w2, hto, hge, hv5, hu5, hlt', t1, t2, hb1, hb2, hng, he]
      exact ih (i + 1) _ (by omega) (by omega) (by omega) (by simp [pr4]) hA

theorem law4 (nl : Bool) (cs : List Int) (hcs : ∀ v ∈ cs, 0 ≤ v ∧ v < 256) : CallR Try.prog [] 4 [.sl false nl 1 (bv cs)] (.bool true) := by
  obtain ⟨hok, hvl, _⟩ := tableT_spec nl cs hcs
  have e12 := g12_eq nl cs hcs
  generalize tableT nl cs = t at hok hvl e12
  have hl := codesT_length t hok
  have e15 := g15_eq t hok
  have e16 := g16_eq t hok
  have e9 := g9_eq
  have hc16 := hok.cnt
  refine callR_of_wpA mixed (cf := cf4) (ow := false) at4 bd4 (by kernel_rfl) (by simp [cf4]) rfl C4_ok (Its.none_ok _) ?_
  simp only [b4, nav, Option.getD_some, if_true, if_false, Nat.reduceEqDiff]
  generalize hE : endQ Try.prog Try.f4 false (.bool true) = E
  simp only [Try.f4, Option.getD_some]
  simp (maxSteps := 1000000) [cf4, e12, e15, hl, hc16]
  refine count4 t (codesT t) hl _ 256 0 _ (by omega) (by simp [pr4, posCnt]) ?_
  intro s' hs'
  simp only [pr4] at hs'
  cases hck : checkT t with
  | false =>
    rw [hck] at e16
    have hz : posCnt (codesT t) 256 = 0 := by unfold codesT; rw [hck]; exact posCnt_zero
    rw [hz] at hs'
    simp (maxSteps := 1000000) [hs', e9, e16, hc16]
    rw [← hE]
    simp [Try.f4]
  | true =>
    rw [hck] at e16
    have hg := (checkT_good t hok).1 hck
    have hz := posCnt_good t hok hg
    rw [hz] at hs'
    have hlen := hg.len
    simp (maxSteps := 1000000) [hs', e9, e16, hc16]
    refine row4 t hok hg (codesT t) rfl t.vals.length _ (t.vals.length - 1) 1 _ (by omega) (by omega) (by omega) (by simp [pr4]) ?_
    intro s2 hs2
    simp only [pr4] at hs2
    simp (maxSteps := 1000000) [hs2, e9, hc16]
    rw [← hE]
    simp [Try.f4]
end Go.Ai
