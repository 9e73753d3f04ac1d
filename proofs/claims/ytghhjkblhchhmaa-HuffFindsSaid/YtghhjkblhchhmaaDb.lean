/- Contracts of the document's Check and Codes, of the tables of choices, and of HuffCodes itself: true for every table, every choice and every number. -/
import Derived.Test.YtghhjkblhchhmaaDa
namespace Go.Ai
open Go Go.Proofs
set_option maxRecDepth 100000
set_option maxHeartbeats 4000000
set_option linter.unusedSimpArgs false
set_option linter.unusedVariables false
set_option pp.deepTerms false
-- TABLES 22 23
def pr22 : Nat → List Pr
  | 0 => [.keep [0] []]
  | 1 => [.keep [1] [1]]
  | 2 => [.keep [1, 3] [1]]
  | 3 => [.keep [1, 3, 4] [1]]
  | 4 => [.keep [1, 3, 4, 5] [1]]
  | 5 => [.keep [1, 3, 4, 5, 6] [1]]
  | 7 => [.keep [1, 3, 4, 5, 6] [1]]
  | 8 => [.keep [] []]
  | 9 => [.keep [1, 3, 4, 5, 6] [1]]
  | 10 => [.keep [1, 3, 4, 5, 6] [1]]
  | 11 => [.keep [1, 3, 4, 5, 6] [1]]
  | 12 => [.keep [1, 3, 4, 5, 6] [1]]
  | 13 => [.keep [1, 3, 4, 5, 6] [1]]
  | 14 => [.keep [] []]
  | 6 => [.keep [1, 3, 4, 5, 6] [1]]
  | 15 => [.keep [1, 3] [1]]
  | 16 => [.keep [] []]
  | 17 => [.keep [1, 3] [1]]
  | 18 => [.keep [1, 3, 7] [1]]
  | 20 => [.keep [1, 3, 7] [1]]
  | 21 => [.keep [1, 3, 7, 8] [1]]
  | 23 => [.keep [1, 3, 7, 8] [1]]
  | 24 => [.keep [] []]
  | 22 => [.keep [1, 3, 7, 8] [1]]
  | 19 => [.keep [1, 3, 7] [1]]
  | 25 => [.keep [] []]
  | _ => []
def dr22 : Nat → Dr
  | 23 => ⟨[[], [0], [], [2, 1, 0], [3, 2, 1, 0], [], [5], [], [7, 6, 5], [8, 7, 6, 5], [9, 8, 7, 6, 5, 4, 3, 2, 1, 0]], [], [], []⟩
  | _ => ⟨[], [], [], []⟩
theorem ck22_23 : chkDr (opsAt b22 23) (dr22 23) = true := by kernel_rfl
def kp22 : List Nat → List Nat
  | _ => []
def pr23 : Nat → List Pr
  | 0 => [.keep [0] []]
  | 1 => [.keep [1, 2] [1, 2]]
  | 2 => [.keep [1, 2, 3] [1, 2, 3]]
  | 3 => [.keep [2, 3] [2, 3]]
  | 4 => [.keep [1, 2, 3] [1, 2, 3]]
  | 5 => [.keep [1, 2, 3, 4] [1, 2, 3]]
  | 6 => [.keep [1, 2, 3, 4, 5] [1, 2, 3]]
  | 7 => [.keep [1, 2, 3, 4, 5, 6] [1, 2, 3]]
  | 9 => [.keep [1, 2, 3, 4, 5, 6] [1, 2, 3]]
  | 10 => [.keep [1, 2, 3, 4, 5, 6] [1, 2, 3]]
  | 11 => [.keep [1, 2, 3, 4, 5, 6, 7] [1, 2, 3]]
  | 13 => [.keep [1, 2, 3, 4, 5, 6, 7] [1, 2, 3]]
  | 14 => [.keep [1, 2, 3, 4, 5, 6, 7] [1, 2, 3]]
  | 15 => [.keep [1, 2, 3, 4, 5, 6, 7] [1, 2, 3]]
  | 12 => [.keep [1, 2, 3, 4, 5, 6, 7] [1, 2, 3]]
  | 8 => [.keep [1, 2, 3, 4, 5, 6] [1, 2, 3]]
  | 16 => [.keep [2, 3] [2, 3]]
  | _ => []
def dr23 : Nat → Dr
  | _ => ⟨[], [], [], []⟩
def kp23 : List Nat → List Nat
  | _ => []
-- END
attribute [simp] pr22 dr22 kp22 pr23 dr23 kp23

/-! ## the document's Check -/
def refCnt : List Int → Int → Int → Int → Option Int
  | [], n, _, _ => some n
  | c :: r, n, code, left => if c < 0 ∨ 255 < c then none else if 0 < c ∧ 2 * left - 1 < 2 * code + c then none else refCnt r (n + c) (2 * code + c) (2 * left)
def refCheckT (t : Tab) : Bool :=
  match refCnt t.cnt 0 0 1 with
  | none => false
  | some n => if n ≠ t.vals.length ∨ 256 < n then false else decide t.vals.Nodup
noncomputable def cf22 : Cf := { N := 82, pr := pr22, dr := dr22, C := Cs.none, It := Its.none, kp := kp22, rf := true, stop := none, lid := 0 }
def tabL (t : Tab) : Obj := ⟨false, false, 25, 17, [iv t.cnt ++ [.sl false t.nl 1 (bv t.vals)]]⟩

theorem cnt22 (t : Tab) (h : t.Ok) (Q : Ex → St → Prop) :
    ∀ (r : List Int) (i : Nat) (n code left : Int) (s : St), t.cnt.drop i = r → i ≤ 16 → 0 ≤ n → n ≤ 255 * i → 0 ≤ code → code ≤ 255 * (2 ^ i - 1) → left = 2 ^ i →
      prep (pr22 5) s = ⟨[(1, .ptr 1 17 0 0), (3, .int .i64 n), (4, .int .i64 code), (5, .int .i64 left), (6, .int .i64 i)], ⟨[(1, ⟨false, false, 25, 17, [iv t.cnt ++ [.sl false t.nl 1 (bv t.vals)]]⟩)], []⟩, ⟨[], []⟩⟩ →
      (∀ s' a, refCnt r n code left = some a → prep (pr22 15) s' = ⟨[(1, .ptr 1 17 0 0), (3, .int .i64 a)], ⟨[(1, ⟨false, false, 25, 17, [iv t.cnt ++ [.sl false t.nl 1 (bv t.vals)]]⟩)], []⟩, ⟨[], []⟩⟩ → Q (.exit 0) s') →
      (∀ s', refCnt r n code left = none → endQ Try.prog Try.f22 false (.bool false) .ret s' → Q .ret s') →
      wpA Try.prog cf22 lp22_5 s Q := by
  intro r
  induction r with
  | nil =>
    intro i n code left s hd hi h1 h2 h3 h4 h5 hs hA hB
    have hi' : i = 16 := by
      have := congrArg List.length hd
      have := h.cnt
      simp at *; omega
    unfold lp22_5
    simp only [b22, Try.f22, nav, Option.getD_some, if_true, if_false, Nat.reduceEqDiff]
    rw [wpA_loop]
    simp only [pr22] at hs
    simp [cf22, hs, hi']
    exact hA _ n rfl (by simp)
  | cons c r ih =>
    intro i n code left s hd hi h1 h2 h3 h4 h5 hs hA hB
    have hc16 := h.cnt
    have hi' : i < 16 := by
      have := congrArg List.length hd
      simp at *; omega
    have hg : t.cnt[i]? = some c := by
      have := congrArg (·[0]?) hd
      simpa using this
    have hgi : t.cnt[i]'(by omega) = c := by rw [List.getElem?_eq_getElem (by omega)] at hg; exact Option.some.inj hg
    have hd' : t.cnt.drop (i + 1) = r := by
      rw [← List.drop_drop, hd]; rfl
    have hp : 1 ≤ (2 : Int) ^ i ∧ (2 : Int) ^ i ≤ 65536 := pow_bd i (by omega)
    have hp2 : (2 : Int) ^ (i + 1) = 2 * 2 ^ i := by rw [Int.pow_succ]; omega
    unfold lp22_5
    simp only [b22, Try.f22, nav, Option.getD_some, if_true, if_false, Nat.reduceEqDiff]
    rw [wpA_loop]
    simp only [pr22] at hs
    have hlt : (i : Int) < 16 := by omega
    have w2 := wrap_in (↑i + 1) (by omega) (by omega)
    have w3 := wrap_in (2 * code) (by omega) (by omega)
    have w4 := wrap_in (2 * left) (by omega) (by omega)
    have w5 := wrap_in (2 * left - 1) (by omega) (by omega)
    by_cases hc : c < 0
    · simp [cf22, hs, hlt, hi', hg, hgi, hc, hc16]
      exact hB _ (by simp [refCnt, hc]) (by simp [Try.f22])
    · by_cases h255 : 255 < c
      · simp [cf22, hs, hlt, hi', hg, hgi, hc, hc16, h255]
        exact hB _ (by simp [refCnt, h255]) (by simp [Try.f22])
      · have w6 := wrap_in (2 * code + c) (by omega) (by omega)
        have w7 := wrap_in (n + c) (by omega) (by omega)
        have e0 : refCnt (c :: r) n code left = if 0 < c ∧ 2 * left - 1 < 2 * code + c then none else refCnt r (n + c) (2 * code + c) (2 * left) := by
          rw [refCnt, if_neg (by omega)]
        by_cases h0 : 0 < c
        · simp [cf22, hs, hlt, hi', hg, hgi, hc, hc16, h255, h0, w2, w3, w4, w5, w6, w7]
          constructor
          · intro hlt2
            exact hB _ (by rw [e0, if_pos ⟨h0, hlt2⟩]) (by simp [Try.f22])
          · intro hge
            rw [if_neg (by omega)] at e0
            refine ih (i + 1) (n + c) (2 * code + c) (2 * left) _ hd' (by omega) (by omega) (by omega) (by omega) (by omega) (by omega) (by simp [pr22]) ?_ ?_
            · intro s' a ha; exact hA s' a (by rw [e0]; exact ha)
            · intro s' ha; exact hB s' (by rw [e0]; exact ha)
        · simp [cf22, hs, hlt, hi', hg, hgi, hc, hc16, h255, h0, w2, w3, w4, w5, w6, w7]
          rw [if_neg (by omega)] at e0
          refine ih (i + 1) (n + c) (2 * code + c) (2 * left) _ hd' (by omega) (by omega) (by omega) (by omega) (by omega) (by omega) (by simp [pr22]) ?_ ?_
          · intro s' a ha; exact hA s' a (by rw [e0]; exact ha)
          · intro s' ha; exact hB s' (by rw [e0]; exact ha)

theorem inner22 (t : Tab) (h : t.Ok) (n : Int) (i : Nat) (vi : Int) (hvi : t.vals[i]? = some vi) (hn : t.vals.length ≤ 256) (Q : Ex → St → Prop) :
    ∀ (m k : Nat) (s : St), k + m = i →
      prep (pr22 21) s = ⟨[(1, .ptr 1 17 0 0), (3, .int .i64 n), (7, .int .i64 i), (8, .int .i64 k)], ⟨[(1, ⟨false, false, 25, 17, [iv t.cnt ++ [.sl false t.nl 1 (bv t.vals)]]⟩)], []⟩, ⟨[], []⟩⟩ →
      (∀ s', vi ∉ (t.vals.take i).drop k → prep (pr22 19) s' = ⟨[(1, .ptr 1 17 0 0), (3, .int .i64 n), (7, .int .i64 i)], ⟨[(1, ⟨false, false, 25, 17, [iv t.cnt ++ [.sl false t.nl 1 (bv t.vals)]]⟩)], []⟩, ⟨[], []⟩⟩ → Q (.exit 4) s') →
      (∀ s', vi ∈ (t.vals.take i).drop k → endQ Try.prog Try.f22 false (.bool false) .ret s' → Q .ret s') →
      wpA Try.prog cf22 lp22_21 s Q := by
  have hil : i < t.vals.length := (List.getElem?_eq_some_iff.1 hvi).1
  intro m
  induction m with
  | zero =>
    intro k s hk hs hA hB
    unfold lp22_21
    simp only [b22, Try.f22, nav, Option.getD_some, if_true, if_false, Nat.reduceEqDiff]
    rw [wpA_loop]
    simp only [pr22] at hs
    have hki : ¬ (k : Int) < i := by omega
    simp [cf22, hs, hki]
    exact hA _ (by rw [List.drop_eq_nil_of_le (by simp; omega)]; simp) (by simp)
  | succ m ih =>
    intro k s hk hs hA hB
    have hkl : k < t.vals.length := by omega
    obtain ⟨vk, hvk⟩ : ∃ v, t.vals[k]? = some v := ⟨t.vals[k], by simp [hkl]⟩
    have hgk : t.vals[k]'hkl = vk := by rw [List.getElem?_eq_getElem hkl] at hvk; exact Option.some.inj hvk
    have hgi : t.vals[i]'hil = vi := by rw [List.getElem?_eq_getElem hil] at hvi; exact Option.some.inj hvi
    have hd : (t.vals.take i).drop k = vk :: (t.vals.take i).drop (k + 1) := by
      rw [List.drop_eq_getElem_cons (by simp; omega)]
      simp [hgk]
    have hc16 := h.cnt
    unfold lp22_21
    simp only [b22, Try.f22, nav, Option.getD_some, if_true, if_false, Nat.reduceEqDiff]
    rw [wpA_loop]
    simp only [pr22] at hs
    have hki : k < i := by omega
    have w2 := wrap_in (↑k + 1) (by omega) (by omega)
    simp [cf22, hs, hki, hc16, hvk, hvi, hgk, hgi, w2, hkl, hil]
    refine ⟨by kernel_rfl, fun he => ?_, fun he => ?_⟩
    · refine hB _ ?_ ?_
      · rw [hd, he]; simp
      · simp [Try.f22]
    · refine ih (k + 1) _ (by omega) ?_ ?_ ?_
      · simp [pr22]
      · intro s' hm
        refine hA s' ?_
        rw [hd]; simp only [List.mem_cons, not_or]; exact ⟨fun e => he e.symm, hm⟩
      · intro s' hm
        refine hB s' ?_
        rw [hd]; exact List.mem_cons_of_mem _ hm

theorem outer22 (t : Tab) (h : t.Ok) (hn : t.vals.length ≤ 256) (Q : Ex → St → Prop) :
    ∀ (m i : Nat) (s : St), i + m = t.vals.length → (t.vals.take i).Nodup →
      prep (pr22 18) s = ⟨[(1, .ptr 1 17 0 0), (3, .int .i64 t.vals.length), (7, .int .i64 i)], ⟨[(1, ⟨false, false, 25, 17, [iv t.cnt ++ [.sl false t.nl 1 (bv t.vals)]]⟩)], []⟩, ⟨[], []⟩⟩ →
      (∀ s', t.vals.Nodup → prep (pr22 25) s' = ⟨[], ⟨[], []⟩, ⟨[], []⟩⟩ → Q (.exit 2) s') →
      (∀ s', ¬ t.vals.Nodup → endQ Try.prog Try.f22 false (.bool false) .ret s' → Q .ret s') →
      wpA Try.prog cf22 lp22_18 s Q := by
  intro m
  induction m with
  | zero =>
    intro i s hk hnd hs hA hB
    unfold lp22_18
    simp only [b22, Try.f22, nav, Option.getD_some, if_true, if_false, Nat.reduceEqDiff]
    rw [wpA_loop]
    simp only [pr22] at hs
    have hki : ¬ (i : Int) < t.vals.length := by omega
    simp [cf22, hs, hki]
    exact hA _ (by rw [List.take_of_length_le (by omega)] at hnd; exact hnd) (by simp)
  | succ m ih =>
    intro i s hk hnd hs hA hB
    have hil : i < t.vals.length := by omega
    obtain ⟨vi, hvi⟩ : ∃ v, t.vals[i]? = some v := ⟨t.vals[i], by simp [hil]⟩
    have hgi : t.vals[i]'hil = vi := by rw [List.getElem?_eq_getElem hil] at hvi; exact Option.some.inj hvi
    have ht : t.vals.take (i + 1) = t.vals.take i ++ [vi] := by
      rw [List.take_succ_eq_append_getElem hil, hgi]
    unfold lp22_18
    simp only [b22, Try.f22, nav, Option.getD_some, if_true, if_false, Nat.reduceEqDiff]
    rw [wpA_loop]
    simp only [pr22] at hs
    have hki : (i : Int) < t.vals.length := by omega
    have w2 := wrap_in (↑i + 1) (by omega) (by omega)
    simp [cf22, hs, hki, hil]
    refine inner22 t h t.vals.length i vi hvi hn _ i 0 _ (by omega) (by simp [pr22]) ?_ ?_
    · intro s' hm hs'
      simp only [pr22] at hs'
      simp [hs', w2]
      refine ih (i + 1) _ (by omega) ?_ (by simp [pr22]) hA hB
      rw [ht, List.nodup_append]
      refine ⟨hnd, by simp, fun a ha b hb => ?_⟩
      simp only [List.mem_singleton] at hb
      subst hb
      intro e; subst e
      exact hm (by simpa using ha)
    · intro s' hm he
      simp
      refine hB s' (fun hN => ?_) he
      have h1 : (t.vals.take (i + 1)).Nodup := hN.sublist (List.take_sublist _ _)
      rw [ht, List.nodup_append] at h1
      exact h1.2.2 vi (by simpa using hm) vi (by simp) rfl

def g22 (vs : List V) : Option V :=
  match vs with
  | [v] => (decTab v).map fun t => .bool (refCheckT t)
  | _ => none
theorem g22_ok (vs : List V) (r : V) (h : g22 vs = some r) : CallR Try.prog [] 22 vs r := by
  unfold g22 at h
  split at h <;> try (cases h; done)
  rename_i v
  simp only [Option.map_eq_some_iff] at h
  obtain ⟨t, ht, rfl⟩ := h
  obtain ⟨rfl, h0⟩ := decTab_spec ht
  have h2 := h0.cnt
  refine callR_of_wpA mixed (cf := cf22) (ow := false) at22 bd22 (by kernel_rfl) (by simp [cf22]) rfl (Cs.none_ok _) (Its.none_ok _) ?_
  simp only [b22, nav, Option.getD_some, if_true, if_false, Nat.reduceEqDiff]
  generalize hE : endQ Try.prog Try.f22 false (.bool (refCheckT t)) = E
  simp only [Try.f22, Option.getD_some, Tab.enc]
  simp [cf22, h2]
  refine cnt22 t h0 _ t.cnt 0 0 0 1 _ (by simp) (by omega) (by omega) (by omega) (by omega) (by omega) (by omega) (by simp [pr22]) ?_ ?_
  · intro s' a ha hs'
    simp only [pr22] at hs'
    have hck : refCheckT t = if a ≠ t.vals.length ∨ 256 < a then false else decide t.vals.Nodup := by unfold refCheckT; rw [ha]
    by_cases hne : a = t.vals.length
    · simp [hs', hne, h2]
      constructor
      · intro h256
        rw [← hE, hck, if_pos (by omega)]
        simp [Try.f22]
      · intro h256
        rw [if_neg (by omega)] at hck
        refine outer22 t h0 (by omega) _ t.vals.length 0 _ (by omega) (by simp) (by simp [pr22]) ?_ ?_
        · intro s2 hN hs2
          simp only [pr22] at hs2
          simp [hs2]
          rw [← hE, hck]
          simp [Try.f22, hN]
        · intro s2 hN he
          simp
          rw [← hE, hck]
          simpa [hN] using he
    · simp [hs', hne, h2]
      rw [← hE, hck]
      simp [Try.f22, hne]
  · intro s' ha he
    have hck : refCheckT t = false := by
      unfold refCheckT; rw [ha]
    simp
    rw [← hE, hck]; exact he
theorem g22_eq (t : Tab) (h : t.Ok) : g22 [.agg (iv t.cnt ++ [.sl false t.nl 1 (bv t.vals)])] = some (.bool (refCheckT t)) := by
  have := decTab_enc t h
  unfold Tab.enc at this
  simp only [g22, this, Option.map_some]
end Go.Ai

namespace Go.Ai
open Go
set_option linter.unusedSimpArgs false
set_option linter.unusedVariables false

/-! ## The two ways to ask whether a table may be come to one -/

theorem rowC_all (i : Int) (B : Int) : ∀ (n : Nat) (next : Int), (∀ x ∈ rowC i n next, x.2 < B) ↔ (n = 0 ∨ next + n - 1 < B) := by
  intro n
  induction n with
  | zero => intro next; simp [rowC]
  | succ n ih =>
    intro next
    simp only [rowC, List.mem_cons, forall_eq_or_imp, ih]
    omega

def codeOk (x : Int × Int) : Prop := x.2 < 2 ^ x.1.toNat - 1

theorem refCnt_spec : ∀ (l : List Int) (n code : Int) (k : Nat) (b : Int), refCnt l n code (2 ^ k) = some b ↔ (cntOk l ∧ (∀ x ∈ codesL l (k + 1) code, codeOk x) ∧ b = n + sumC l) := by
  intro l
  induction l with
  | nil =>
    intro n code k b
    simp only [refCnt, Option.some.injEq, codesL, sumC]
    constructor
    · intro h; exact ⟨fun _ h => by simp at h, fun _ h => by simp at h, by omega⟩
    · intro h; omega
  | cons c l ih =>
    intro n code k b
    have hp2 : (2 : Int) ^ (k + 1) = 2 * 2 ^ k := by rw [Int.pow_succ]; omega
    simp only [refCnt]
    have hrow : ∀ (x : Int × Int), x ∈ rowC (k + 1) c.toNat (2 * code) → x.1 = k + 1 := fun x hx => (rowC_mem _ _ _ _ hx).1
    have hrow2 : (∀ x ∈ rowC (k + 1) c.toNat (2 * code), codeOk x) ↔ (c.toNat = 0 ∨ 2 * code + c.toNat - 1 < 2 * 2 ^ k - 1) := by
      rw [← rowC_all (k + 1) (2 * 2 ^ k - 1) c.toNat (2 * code)]
      constructor
      · intro h x hx
        have := h x hx
        unfold codeOk at this
        rw [hrow x hx, show ((k : Int) + 1).toNat = k + 1 from by omega, hp2] at this
        exact this
      · intro h x hx
        have := h x hx
        unfold codeOk
        rw [hrow x hx, show ((k : Int) + 1).toNat = k + 1 from by omega, hp2]
        exact this
    by_cases h1 : c < 0 ∨ 255 < c
    · rw [if_pos h1]
      constructor
      · intro h; cases h
      · rintro ⟨h, _⟩
        have := h c (by simp)
        omega
    · rw [if_neg h1]
      have hih := ih (n + c) (2 * code + c) (k + 1) b
      rw [hp2, show (2 * code + c) = 2 * code + c.toNat from by omega, show (((k + 1 : Nat) : Int) + 1) = (k : Int) + 1 + 1 from by omega] at hih
      have hsplit : (∀ x ∈ codesL (c :: l) (k + 1) code, codeOk x) ↔ ((∀ x ∈ rowC (k + 1) c.toNat (2 * code), codeOk x) ∧ ∀ x ∈ codesL l (k + 1 + 1) (2 * code + c.toNat), codeOk x) := by
        simp only [codesL, List.mem_append]
        exact ⟨fun h => ⟨fun x hx => h x (.inl hx), fun x hx => h x (.inr hx)⟩, fun h x hx => hx.elim (h.1 x) (h.2 x)⟩
      have hok : cntOk (c :: l) ↔ cntOk l := ⟨fun h x hx => h x (by simp [hx]), fun h x hx => by
        rcases List.mem_cons.1 hx with rfl | hx
        · omega
        · exact h x hx⟩
      rw [hsplit, hok, hrow2]
      by_cases h2 : 0 < c ∧ 2 * 2 ^ k - 1 < 2 * code + c
      · rw [if_pos h2]
        constructor
        · intro h; cases h
        · rintro ⟨_, ⟨h3, _⟩, _⟩
          omega
      · rw [if_neg h2, show (2 * code + c) = 2 * code + c.toNat from by omega, hih]
        simp only [sumC]
        constructor
        · rintro ⟨a1, a2, a3⟩
          exact ⟨a1, ⟨by omega, a2⟩, by omega⟩
        · rintro ⟨a1, ⟨_, a2⟩, a3⟩
          exact ⟨a1, a2, by omega⟩

theorem cntSum_ok : ∀ (l : List Int) (a : Int), cntOk l → cntSum l a = some (a + sumC l) := by
  intro l
  induction l with
  | nil => intro a _; simp [cntSum, sumC]
  | cons c l ih =>
    intro a h
    have h1 := h c (by simp)
    rw [cntSum, if_neg (by omega), ih (a + c) (fun x hx => h x (by simp [hx]))]
    simp only [sumC]; congr 1; omega

theorem getD_set_true (seen : List Bool) (i j : Nat) (hi : i < seen.length) : (seen.set i true).getD j false = if i = j then true else seen.getD j false := by
  simp only [List.getD_eq_getElem?_getD, List.getElem?_set]
  by_cases h : i = j
  · subst h; simp [hi]
  · simp [h]

theorem seenGo_spec : ∀ (vs : List Int) (cs : List (Int × Int)) (seen : List Bool), vs.length = cs.length → (∀ v ∈ vs, 0 ≤ v ∧ v < 256) → seen.length = 256 →
    (seenGo vs cs seen = true ↔ (vs.Nodup ∧ (∀ v ∈ vs, seen.getD v.toNat false = false) ∧ ∀ x ∈ cs, codeOk x)) := by
  intro vs
  induction vs with
  | nil =>
    intro cs seen hl _ _
    have : cs = [] := List.length_eq_zero_iff.1 (by simpa using hl.symm)
    subst this
    simp [seenGo]
  | cons v vs ih =>
    intro cs seen hl hv hs
    cases cs with
    | nil => simp at hl
    | cons x cs =>
      obtain ⟨n, c⟩ := x
      have h1 := hv v (by simp)
      have hih := ih cs (seen.set v.toNat true) (by simpa using hl) (fun y hy => hv y (by simp [hy])) (by simpa using hs)
      simp only [seenGo]
      split
      · rename_i hc
        constructor
        · intro h; cases h
        · rintro ⟨_, a2, a3⟩
          have b2 := a2 v (by simp)
          have b3 := a3 (n, c) (by simp)
          unfold codeOk at b3
          rcases hc with hc | hc
          · rw [hc] at b2; cases b2
          · simp only at b3; omega
      · rename_i hc
        rw [hih]
        simp only [List.nodup_cons, List.mem_cons, forall_eq_or_imp]
        have hsv : seen.getD v.toNat false = false := by
          cases hh : seen.getD v.toNat false with
          | false => rfl
          | true => exact absurd (.inl hh) hc
        have hco : codeOk (n, c) := by unfold codeOk; simp only; omega
        constructor
        · rintro ⟨a1, a2, a3⟩
          refine ⟨⟨fun hm => ?_, a1⟩, ⟨hsv, fun y hy => ?_⟩, hco, a3⟩
          · have := a2 v hm
            rw [getD_set_true _ _ _ (by omega), if_pos rfl] at this
            cases this
          · have := a2 y hy
            rw [getD_set_true _ _ _ (by omega)] at this
            split at this
            · cases this
            · exact this
        · rintro ⟨⟨a0, a1⟩, ⟨_, a2⟩, _, a3⟩
          refine ⟨a1, fun y hy => ?_, a3⟩
          rw [getD_set_true _ _ _ (by omega), if_neg]
          · exact a2 y hy
          · intro e
            have hy' := hv y (by simp [hy])
            have : v = y := by omega
            exact a0 (this ▸ hy)

theorem rep_getD (n i : Nat) : (rep n false).getD i false = false := by
  simp only [rep, List.getD_eq_getElem?_getD, List.getElem?_replicate]
  split <;> rfl

/-- a table that may be -/
structure TabGood (t : Tab) : Prop where
  cnt : cntOk t.cnt
  sum : sumC t.cnt = t.vals.length
  len : t.vals.length ≤ 256
  nodup : t.vals.Nodup
  code : ∀ x ∈ codesOf t.cnt, codeOk x

theorem checkT_good (t : Tab) (h : t.Ok) : checkT t = true ↔ TabGood t := by
  constructor
  · intro hc
    obtain ⟨h1, h2, h3, h4⟩ := checkT_spec hc
    have hl := codesL_length t.cnt 1 0 h1
    rw [seenGo_spec _ _ _ (by unfold codesOf; omega) h.vals (by simp)] at h4
    exact ⟨h1, h2, h3, h4.1, h4.2.2⟩
  · intro hg
    have hl := codesL_length t.cnt 1 0 hg.cnt
    unfold checkT
    rw [cntSum_ok _ _ hg.cnt]
    simp only
    rw [if_neg (by have := hg.sum; have := hg.len; omega)]
    show seenGo t.vals (codesOf t.cnt) (rep 256 false) = true
    rw [seenGo_spec _ _ _ (by unfold codesOf; have := hg.sum; omega) h.vals (by simp)]
    exact ⟨hg.nodup, fun v _ => rep_getD _ _, hg.code⟩

theorem refCheckT_good (t : Tab) : refCheckT t = true ↔ TabGood t := by
  have key := fun b => refCnt_spec t.cnt 0 0 0 b
  have e0 : (2 : Int) ^ 0 = 1 := rfl
  rw [e0] at key
  unfold refCheckT
  cases hr : refCnt t.cnt 0 0 1 with
  | none =>
    constructor
    · intro h; cases h
    · intro hg
      have := (key (0 + sumC t.cnt)).2 ⟨hg.cnt, hg.code, rfl⟩
      rw [hr] at this; cases this
  | some b =>
    obtain ⟨h1, h2, h3⟩ := (key b).1 hr
    simp only
    constructor
    · intro h
      split at h
      · cases h
      · rename_i hn
        exact ⟨h1, by omega, by omega, of_decide_eq_true h, h2⟩
    · intro hg
      rw [if_neg (by have := hg.sum; have := hg.len; omega)]
      exact decide_eq_true hg.nodup

theorem refCheckT_eq (t : Tab) (h : t.Ok) : refCheckT t = checkT t := by
  rw [Bool.eq_iff_iff, checkT_good t h, refCheckT_good t]
end Go.Ai

namespace Go.Ai
open Go Go.Proofs
set_option maxRecDepth 100000
set_option maxHeartbeats 4000000
set_option linter.unusedSimpArgs false
set_option linter.unusedVariables false
set_option pp.deepTerms false

/-! ## the document's Codes -/
noncomputable def cf23 : Cf := { N := 42, pr := pr23, dr := dr23, C := Cs.none.add 22 g22, It := Its.none, kp := kp23, rf := true, stop := none, lid := 0 }

theorem codesArr_append : ∀ (vs : List Int) (a b : List (Int × Int)) (out : List Int), a.length ≤ vs.length → codesArr vs (a ++ b) out = codesArr (vs.drop a.length) b (codesArr vs a out) := by
  intro vs
  induction vs with
  | nil =>
    intro a b out h
    have : a = [] := List.length_eq_zero_iff.1 (by simpa using h)
    subst this; rfl
  | cons v vs ih =>
    intro a b out h
    cases a with
    | nil => simp [codesArr]
    | cons x a =>
      obtain ⟨n, c⟩ := x
      simp only [List.cons_append, codesArr, List.length_cons, List.drop_succ_cons]
      exact ih a b _ (by simpa using h)

theorem inner23 (t : Tab) (h : t.Ok) (hn : t.vals.length ≤ 256) (n : Nat) (hn1 : 1 ≤ n ∧ n ≤ 16) (c : Int) (hc : t.cnt[n - 1]? = some c) (hcc : c ≤ 255) (Q : Ex → St → Prop) :
    ∀ (m : Nat) (k : Nat) (code : Int) (at_ : Nat) (out : List Int) (s : St), (k : Int) + m = c → at_ + m ≤ t.vals.length → 0 ≤ code → code + m ≤ 100000000 → out.length = 512 →
      prep (pr23 11) s = ⟨[(1, .ptr 1 17 0 0), (2, .ptr 2 512 0 0), (3, .ptr 3 512 0 0), (4, .int .i64 code), (5, .int .i64 at_), (6, .int .i64 n), (7, .int .i64 k)], ⟨[(1, ⟨false, false, 25, 17, [iv t.cnt ++ [.sl false t.nl 1 (bv t.vals)]]⟩), (2, ⟨false, false, 34, 512, [iv (rep 512 0)]⟩), (3, ⟨false, false, 34, 512, [iv out]⟩)], []⟩, ⟨[], []⟩⟩ →
      (∀ s', prep (pr23 8) s' = ⟨[(1, .ptr 1 17 0 0), (2, .ptr 2 512 0 0), (3, .ptr 3 512 0 0), (4, .int .i64 (code + m)), (5, .int .i64 (at_ + m)), (6, .int .i64 n)], ⟨[(1, ⟨false, false, 25, 17, [iv t.cnt ++ [.sl false t.nl 1 (bv t.vals)]]⟩), (2, ⟨false, false, 34, 512, [iv (rep 512 0)]⟩), (3, ⟨false, false, 34, 512, [iv (codesArr (t.vals.drop at_) (rowC n m code) out)]⟩)], []⟩, ⟨[], []⟩⟩ → Q (.exit 2) s') →
      wpA Try.prog cf23 lp23_11 s Q := by
  have hc16 := h.cnt
  have hnl : n - 1 < 16 := by omega
  have hcg : t.cnt[n - 1]'(by omega) = c := by rw [List.getElem?_eq_getElem (by omega)] at hc; exact Option.some.inj hc
  have hnt : ((n : Int) - 1).toNat = n - 1 := by omega
  have hn0 : (1 : Int) ≤ n := by omega
  have hn2 : (n : Int) - 1 < 16 := by omega
  have w0 := wrap_in ((n : Int) - 1) (by omega) (by omega)
  intro m
  induction m with
  | zero =>
    intro k code at_ out s hk hat h0 hcd hout hs hA
    unfold lp23_11
    simp only [b23, Try.f23, nav, Option.getD_some, if_true, if_false, Nat.reduceEqDiff]
    rw [wpA_loop]
    simp only [pr23] at hs
    have hki : ¬ (k : Int) < c := by omega
    simp [cf23, hs, hki, hc16, hnl, hc, hcg, hnt, hn0, hn2, w0]
    refine hA _ ?_
    simp [rowC]
    cases t.vals.drop at_ <;> rfl
  | succ m ih =>
    intro k code at_ out s hk hat h0 hcd hout hs hA
    have hvl : at_ < t.vals.length := by omega
    obtain ⟨v, hv⟩ : ∃ v, t.vals[at_]? = some v := ⟨t.vals[at_], by simp [hvl]⟩
    have hvg : t.vals[at_]'hvl = v := by rw [List.getElem?_eq_getElem hvl] at hv; exact Option.some.inj hv
    have hvr := h.vals v (List.mem_of_getElem? hv)
    have hd : t.vals.drop at_ = v :: t.vals.drop (at_ + 1) := by
      rw [List.drop_eq_getElem_cons hvl, hvg]
    have hsp : v.toNat * 2 + 2 ≤ 512 := by omega
    unfold lp23_11
    simp only [b23, Try.f23, nav, Option.getD_some, if_true, if_false, Nat.reduceEqDiff]
    rw [wpA_loop]
    simp only [pr23] at hs
    have hki : (k : Int) < c := by omega
    have w1 := wrap_in (code + 1) (by omega) (by omega)
    have w2 := wrap_in ((at_ : Int) + 1) (by omega) (by omega)
    have w3 := wrap_in ((k : Int) + 1) (by omega) (by omega)
    simp [cf23, hs, hki, hc16, hnl, hc, hcg, hnt, hn0, hn2, w0, w1, w2, w3, hv, hvg, hvl, hvr, hout, hsp]
    refine ih (k + 1) (code + 1) (at_ + 1) (splI out (v.toNat * 2) [n, code]) _ (by omega) (by omega) (by omega) (by omega) (by rw [splI_length _ _ _ (by simp; omega)]; exact hout) (by simp [pr23]) ?_
    intro s' hs'
    refine hA s' ?_
    rw [hs', hd]
    simp [rowC, codesArr]
    omega

theorem outer23 (t : Tab) (h : t.Ok) (hg : TabGood t) (Q : Ex → St → Prop) :
    ∀ (r : List Int) (i : Nat) (code : Int) (at_ : Nat) (out : List Int) (s : St), t.cnt.drop i = r → i ≤ 16 → at_ + sumC r = t.vals.length → 0 ≤ code → code ≤ 255 * (2 ^ i - 1) → out.length = 512 →
      prep (pr23 7) s = ⟨[(1, .ptr 1 17 0 0), (2, .ptr 2 512 0 0), (3, .ptr 3 512 0 0), (4, .int .i64 code), (5, .int .i64 at_), (6, .int .i64 (i + 1))], ⟨[(1, ⟨false, false, 25, 17, [iv t.cnt ++ [.sl false t.nl 1 (bv t.vals)]]⟩), (2, ⟨false, false, 34, 512, [iv (rep 512 0)]⟩), (3, ⟨false, false, 34, 512, [iv out]⟩)], []⟩, ⟨[], []⟩⟩ →
      (∀ s', prep (pr23 16) s' = ⟨[(2, .ptr 2 512 0 0), (3, .ptr 3 512 0 0)], ⟨[(2, ⟨false, false, 34, 512, [iv (rep 512 0)]⟩), (3, ⟨false, false, 34, 512, [iv (codesArr (t.vals.drop at_) (codesL r (i + 1) code) out)]⟩)], []⟩, ⟨[], []⟩⟩ → Q (.exit 0) s') →
      wpA Try.prog cf23 lp23_7 s Q := by
  have hc16 := h.cnt
  intro r
  induction r with
  | nil =>
    intro i code at_ out s hd hi hat h0 hcd hout hs hA
    have hi' : i = 16 := by
      have := congrArg List.length hd
      simp at this; omega
    subst hi'
    unfold lp23_7
    simp only [b23, Try.f23, nav, Option.getD_some, if_true, if_false, Nat.reduceEqDiff]
    rw [wpA_loop]
    simp only [pr23] at hs
    simp [cf23, hs]
    refine hA _ ?_
    simp [codesL]
    cases t.vals.drop at_ <;> rfl
  | cons c r ih =>
    intro i code at_ out s hd hi hat h0 hcd hout hs hA
    have hi' : i < 16 := by
      have := congrArg List.length hd
      simp at this; omega
    have hgc : t.cnt[i]? = some c := by
      have := congrArg (·[0]?) hd
      simpa using this
    have hd' : t.cnt.drop (i + 1) = r := by
      rw [← List.drop_drop, hd]; rfl
    have hcc := hg.cnt c (List.mem_of_getElem? hgc)
    have hr0 : 0 ≤ sumC r := sumC_nonneg r fun x hx => hg.cnt x (by
      rw [← hd'] at hx; exact List.mem_of_mem_drop hx)
    have hp : 1 ≤ (2 : Int) ^ i ∧ (2 : Int) ^ i ≤ 65536 := pow_bd i (by omega)
    have hp2 : (2 : Int) ^ (i + 1) = 2 * 2 ^ i := by rw [Int.pow_succ]; omega
    simp only [sumC] at hat
    unfold lp23_7
    simp only [b23, Try.f23, nav, Option.getD_some, if_true, if_false, Nat.reduceEqDiff]
    rw [wpA_loop]
    simp only [pr23] at hs
    have hle : (i : Int) + 1 ≤ 16 := by omega
    have w1 := wrap_in (2 * code) (by omega) (by omega)
    simp [cf23, hs, hle, w1]
    refine inner23 t h hg.len (i + 1) (by omega) c (by simpa using hgc) hcc.2 _ c.toNat 0 (2 * code) at_ out _ (by omega) (by omega) (by omega) (by omega) hout (by simp [pr23]) ?_
    intro s' hs'
    simp only [pr23] at hs'
    have w2 := wrap_in ((i : Int) + 1 + 1) (by omega) (by omega)
    simp [hs', w2]
    have hlr : (rowC ((i : Int) + 1) c.toNat (2 * code)).length = c.toNat := rowC_length _ _ _
    refine ih (i + 1) (2 * code + c.toNat) (at_ + c.toNat) (codesArr (t.vals.drop at_) (rowC (i + 1) c.toNat (2 * code)) out) _ hd' (by omega) (by omega) (by omega) (by omega) (codesArr_length _ _ _ (fun v hv => h.vals v (List.mem_of_mem_drop hv)) hout) (by simp [pr23]) ?_
    intro s2 hs2
    refine hA s2 ?_
    rw [hs2]
    simp only [codesL]
    rw [codesArr_append _ _ _ _ (by rw [hlr]; simp; omega), hlr, List.drop_drop]
    simp

def g23 (vs : List V) : Option V :=
  match vs with
  | [v] => (decTab v).map fun t => .agg (iv (codesT t))
  | _ => none
theorem g23_ok (vs : List V) (r : V) (h : g23 vs = some r) : CallR Try.prog [] 23 vs r := by
  unfold g23 at h
  split at h <;> try (cases h; done)
  rename_i v
  simp only [Option.map_eq_some_iff] at h
  obtain ⟨t, ht, rfl⟩ := h
  obtain ⟨rfl, h0⟩ := decTab_spec ht
  have h2 := h0.cnt
  have hg22 := g22_eq t h0
  rw [refCheckT_eq t h0] at hg22
  refine callR_of_wpA mixed (cf := cf23) (ow := false) at23 bd23 (by kernel_rfl) (by simp [cf23]) rfl (Cs.add_ok (Cs.none_ok _) en22 g22_ok) (Its.none_ok _) ?_
  simp only [b23, nav, Option.getD_some, if_true, if_false, Nat.reduceEqDiff]
  generalize hE : endQ Try.prog Try.f23 false (.agg (iv (codesT t))) = E
  simp only [Try.f23, Option.getD_some, Tab.enc]
  have hl := codesT_length t h0
  cases hck : checkT t with
  | false =>
    simp [cf23, h2, hg22, hck]
    rw [← hE]
    simp [Try.f23, codesT, hck]
  | true =>
    simp [cf23, h2, hg22, hck]
    have hg := (checkT_good t h0).1 hck
    refine outer23 t h0 hg _ t.cnt 0 0 0 (rep 512 0) _ (by simp) (by omega) (by have := hg.sum; omega) (by omega) (by omega) (by simp) (by simp [pr23]) ?_
    intro s' hs'
    simp only [pr23] at hs'
    have hcT : codesT t = codesArr t.vals (codesL t.cnt 1 0) (rep 512 0) := by unfold codesT codesOf; rw [if_pos hck]
    simp only [List.drop_zero, Int.natCast_zero, Int.zero_add, ← hcT] at hs'
    simp [hs', hl]
    rw [← hE]
    simp [Try.f23, hl]
theorem g23_eq (t : Tab) (h : t.Ok) : g23 [.agg (iv t.cnt ++ [.sl false t.nl 1 (bv t.vals)])] = some (.agg (iv (codesT t))) := by
  have := decTab_enc t h
  unfold Tab.enc at this
  simp only [g23, this, Option.map_some]
end Go.Ai

namespace Go.Ai
open Go Go.Proofs
set_option maxRecDepth 100000
set_option maxHeartbeats 4000000
set_option linter.unusedSimpArgs false
set_option linter.unusedVariables false
set_option pp.deepTerms false
-- TABLES 12:{"5":[".adopt¶(.cell¶3¶16)¶65¶5¶1",".keep¶[0,2,3,4,5,6]¶[2,3,65]"]}
def pr12 : Nat → List Pr
  | 0 => [.keep [0] []]
  | 1 => [.keep [0, 2] [2, 65, 1065]]
  | 2 => [.keep [0, 2, 3] [2, 3, 65, 1065]]
  | 3 => [.keep [0, 2, 3, 4] [2, 3, 65, 1065]]
  | 4 => [.keep [0, 2, 3, 4, 5] [2, 3, 65, 1065]]
  | 5 => [.keep [0, 2, 3, 4, 5, 6] [2, 3, 65, 1065], .adopt (.cell 3 16) 65 5 1, .keep [0,2,3,4,5,6] [2,3,65]]
  | 7 => [.keep [0, 2, 3, 4, 5, 6] [2, 3, 65, 1065]]
  | 8 => [.keep [0, 2, 3, 4, 5, 6, 7] [2, 3, 65, 1065]]
  | 9 => [.keep [0, 2, 3, 4, 5, 6] [2, 3, 65, 1065]]
  | 10 => [.keep [0, 2, 3, 4, 5, 6, 7] [2, 3, 65, 1065]]
  | 11 => [.keep [0, 2, 3, 4, 5, 6, 7] [2, 3, 65, 1065]]
  | 12 => [.keep [0, 2, 3, 4, 5, 6, 7] [2, 3, 65, 1065]]
  | 13 => [.keep [0, 2, 3, 4, 5, 6, 7, 8] [2, 3, 65, 1065]]
  | 15 => [.keep [0, 2, 3, 4, 5, 6, 7, 8] [2, 3, 65, 1065]]
  | 16 => [.keep [0, 2, 3, 4, 5, 6, 7, 8] [2, 3, 65, 1065]]
  | 14 => [.keep [0, 2, 3, 4, 5, 6, 7, 8] [2, 3, 65, 1065]]
  | 6 => [.keep [0, 2, 3, 4, 5, 6] [2, 3, 65, 1065]]
  | 17 => [.keep [0, 2, 3] [2, 3, 65, 1065]]
  | 18 => [.keep [2, 3] [2, 3, 65, 1065]]
  | 19 => [.keep [2, 3] [2, 3, 65, 1065]]
  | _ => []
def dr12 : Nat → Dr
  | 15 => ⟨[[], [0], [], [2], [], [4], [5, 4], [6, 5, 4], [7, 6, 5, 4, 3, 2], [8, 7, 6, 5, 4, 3, 2], [9, 8, 7, 6, 5, 4, 3, 2], [10, 9, 8, 7, 6, 5, 4, 3, 2, 1, 0], [11, 10, 9, 8, 7, 6, 5, 4, 3, 2, 1, 0], [12, 11, 10, 9, 8, 7, 6, 5, 4, 3, 2, 1, 0]], [], [(11, []), (13, [])], [64, 65]⟩
  | 18 => ⟨[[], [0], [], [2], [3, 2], [4, 3, 2], [5, 4, 3, 2, 1, 0], [6, 5, 4, 3, 2, 1, 0]], [], [(7, [])], []⟩
  | _ => ⟨[], [], [], []⟩
theorem ck12_15 : chkDr (opsAt b12 15) (dr12 15) = true := by kernel_rfl
theorem ck12_18 : chkDr (opsAt b12 18) (dr12 18) = true := by kernel_rfl
def kp12 : List Nat → List Nat
  | _ => []
-- END
attribute [simp] pr12 dr12 kp12
/-! ## tables of choices -/
noncomputable def cf12 : Cf := { N := 92, pr := pr12, dr := dr12, C := Cs.none, It := Its.none, kp := kp12, rf := true, stop := none, lid := 0 }

theorem u8_rng (x : Int) : 0 ≤ IntKind.u8.wrap x ∧ IntKind.u8.wrap x < 256 := by
  have : IntKind.u8.wrap x = x % 256 := by simp [IntKind.wrap, IntKind.bits, IntKind.signed]
  omega

theorem inner12 (nl : Bool) (cs : List Int) (hcs : ∀ v ∈ cs, 0 ≤ v ∧ v < 256) (c0 : Int) (hc0 : cs[0]? = some c0) (left : Int) (i n : Nat) (cnt : List Int) (hcnt : cnt.length = 16) (Q : Ex → St → Prop) :
    ∀ (m k v : Nat) (vals : List Int) (s : St), k + m = n → k + m ≤ 200 → v + m ≤ 10000 → vals.length + m ≤ 10000 → (∀ x ∈ vals, 0 ≤ x ∧ x < 256) →
      prep (pr12 13) s = ⟨[(0, .sl false nl 1 (bv cs)), (2, .ptr 2 17 0 0), (3, .ptr 3 17 0 0), (4, .int .i64 left), (5, .int .i64 v), (6, .int .i64 i), (7, .int .i64 n), (8, .int .i64 k)],
        ⟨[(2, ⟨false, false, 25, 17, [iv (rep 16 0) ++ [.sl false true 0 []]]⟩), (3, ⟨false, false, 25, 17, [iv cnt ++ [.row 65 1 0 vals.length]]⟩), (65, ⟨true, true, 5, 1, bv vals⟩)], []⟩, ⟨[], []⟩⟩ →
      (∀ s' (vals' : List Int), vals'.length = vals.length + m → (∀ x ∈ vals', 0 ≤ x ∧ x < 256) → prep (pr12 6) s' = ⟨[(0, .sl false nl 1 (bv cs)), (2, .ptr 2 17 0 0), (3, .ptr 3 17 0 0), (4, .int .i64 left), (5, .int .i64 (v + m)), (6, .int .i64 i)],
        ⟨[(2, ⟨false, false, 25, 17, [iv (rep 16 0) ++ [.sl false true 0 []]]⟩), (3, ⟨false, false, 25, 17, [iv cnt ++ [.row 65 1 0 vals'.length]]⟩), (65, ⟨true, true, 5, 1, bv vals'⟩)], []⟩, ⟨[], []⟩⟩ → Q (.exit 2) s') →
      wpA Try.prog cf12 lp12_13 s Q := by
  have hl0 : 0 < cs.length := by
    cases cs with
    | nil => simp at hc0
    | cons => simp
  have hc0g : cs[0]'hl0 = c0 := by rw [List.getElem?_eq_getElem hl0] at hc0; exact Option.some.inj hc0
  intro m
  induction m with
  | zero =>
    intro k v vals s hk hk2 hv hvl hvr hs hA
    unfold lp12_13
    simp only [b12, Try.f12, nav, Option.getD_some, if_true, if_false, Nat.reduceEqDiff]
    rw [wpA_loop]
    simp only [pr12] at hs
    have hki : ¬ (k : Int) < n := by omega
    simp [cf12, hs, hki, hcnt]
    exact hA _ vals (by simp) hvr (by simp)
  | succ m ih =>
    intro k v vals s hk hk2 hv hvl hvr hs hA
    unfold lp12_13
    simp only [b12, Try.f12, nav, Option.getD_some, if_true, if_false, Nat.reduceEqDiff]
    rw [wpA_loop]
    simp only [pr12] at hs
    have hki : (k : Int) < n := by omega
    have w1 := wrap_in ((v : Int) + 1) (by omega) (by omega)
    have w2 := wrap_in ((k : Int) + 1) (by omega) (by omega)
    have a1 : vals.length + 1 ≤ maxLen := by unfold maxLen; omega
    have a2 : vals.length + 1 ≤ 140737488355328 := by omega
    simp [cf12, hs, hki, hc0, hc0g, hl0, w1, w2, a1, a2, hcnt]
    refine ⟨by kernel_rfl, ?_⟩
    generalize hx : IntKind.u8.wrap (IntKind.i64.wrap (IntKind.i64.wrap (↑v * 37) + IntKind.i64.wrap c0)) = x
    have hxr : 0 ≤ x ∧ x < 256 := by rw [← hx]; exact u8_rng _
    refine ih (k + 1) (v + 1) (vals ++ [x]) _ (by omega) (by omega) (by omega) (by simp; omega) ?_ (by simp [pr12]) ?_
    · intro y hy
      rcases List.mem_append.1 hy with hy | hy
      · exact hvr y hy
      · simp at hy; subst hy; exact hxr
    · intro s' vals' h1 h2 h3
      refine hA s' vals' (by simp at h1; omega) h2 ?_
      rw [h3]; simp; omega

theorem tmod_rng (a b : Int) (ha : 0 ≤ a) (hb : b ≠ 0) : 0 ≤ a.tmod b ∧ a.tmod b ≤ a := by
  rw [Int.tmod_eq_emod_of_nonneg ha]
  refine ⟨Int.emod_nonneg _ hb, ?_⟩
  rcases Int.lt_or_gt_of_ne hb with h | h
  · have e : a % b = a % (-b) := (Int.emod_neg a b).symm
    rw [e]
    by_cases hlt : a < -b
    · rw [Int.emod_eq_of_lt ha hlt]; omega
    · have := Int.emod_lt_of_pos a (show 0 < -b by omega); omega
  · by_cases hlt : a < b
    · rw [Int.emod_eq_of_lt ha hlt]; omega
    · have := Int.emod_lt_of_pos a h; omega

theorem outer12 (nl : Bool) (cs : List Int) (hcs : ∀ v ∈ cs, 0 ≤ v ∧ v < 256) (Q : Ex → St → Prop) :
    ∀ (m i v : Nat) (left : Int) (cnt vals : List Int) (s : St), i + m = 16 → cnt.length = 16 → v ≤ 127 * i → vals.length ≤ 127 * i → left % 2 = 0 → left ≤ 300 → - (254 * ((2 ^ i : Int) - 1)) ≤ left → (∀ x ∈ vals, 0 ≤ x ∧ x < 256) →
      prep (pr12 5) s = ⟨[(0, .sl false nl 1 (bv cs)), (2, .ptr 2 17 0 0), (3, .ptr 3 17 0 0), (4, .int .i64 left), (5, .int .i64 v), (6, .int .i64 i)],
        ⟨[(2, ⟨false, false, 25, 17, [iv (rep 16 0) ++ [.sl false true 0 []]]⟩), (3, ⟨false, false, 25, 17, [iv cnt ++ [.row 65 1 0 vals.length]]⟩), (65, ⟨true, true, 5, 1, bv vals⟩)], []⟩, ⟨[], []⟩⟩ →
      (∀ s' (cnt' vals' : List Int), cnt'.length = 16 → vals'.length ≤ 10000 → (∀ x ∈ vals', 0 ≤ x ∧ x < 256) → prep (pr12 17) s' = ⟨[(0, .sl false nl 1 (bv cs)), (2, .ptr 2 17 0 0), (3, .ptr 3 17 0 0)],
        ⟨[(2, ⟨false, false, 25, 17, [iv (rep 16 0) ++ [.sl false true 0 []]]⟩), (3, ⟨false, false, 25, 17, [iv cnt' ++ [.row 65 1 0 vals'.length]]⟩), (65, ⟨true, true, 5, 1, bv vals'⟩)], []⟩, ⟨[], []⟩⟩ → Q (.exit 0) s') →
      wpA Try.prog cf12 lp12_5 s Q := by
  intro m
  induction m with
  | zero =>
    intro i v left cnt vals s hi hcnt hv hvl hev hl1 hl2 hvr hs hA
    unfold lp12_5
    simp only [b12, Try.f12, nav, Option.getD_some, if_true, if_false, Nat.reduceEqDiff]
    rw [wpA_loop]
    simp only [pr12] at hs
    have hi' : i = 16 := by omega
    subst hi'
    simp [cf12, hs]
    exact hA _ cnt vals hcnt (by omega) hvr (by simp)
  | succ m ih =>
    intro i v left cnt vals s hi hcnt hv hvl hev hl1 hl2 hvr hs hA
    have hp : 1 ≤ (2 : Int) ^ i ∧ (2 : Int) ^ i ≤ 65536 := pow_bd i (by omega)
    have hp2 : (2 : Int) ^ (i + 1) = 2 * 2 ^ i := by rw [Int.pow_succ]; omega
    have hlt16 : (i : Int) < 16 := by omega
    by_cases hil : i < cs.length
    · obtain ⟨ci, hci⟩ : ∃ x, cs[i]? = some x := ⟨cs[i], by simp [hil]⟩
      have hcig : cs[i]'hil = ci := by rw [List.getElem?_eq_getElem hil] at hci; exact Option.some.inj hci
      obtain ⟨c0, hc0⟩ : ∃ x, cs[0]? = some x := ⟨cs[0], List.getElem?_eq_getElem (by omega)⟩
      have hcr := hcs ci (List.mem_of_getElem? hci)
      have hne : left + 1 ≠ 0 := by omega
      have w1 := wrap_in (left + 1) (by omega) (by omega)
      have w2 := wrap_in ci (by omega) (by omega)
      have hm := tmod_rng ci (left + 1) hcr.1 hne
      have hm2 := tmod_rng ci 16 hcr.1 (by omega)
      have hq : 0 ≤ (ci.tmod (left + 1)).tdiv 2 ∧ (ci.tmod (left + 1)).tdiv 2 ≤ 127 := by
        rw [Int.tdiv_eq_ediv_of_nonneg hm.1]; omega
      have w3 := wrap_in ((ci.tmod (left + 1)).tdiv 2) (by omega) (by omega)
      have hm3 : ci.tmod 16 ≤ 15 := by rw [Int.tmod_eq_emod_of_nonneg hcr.1]; omega
      have w4 := wrap_in (ci.tmod 16) (by omega) (by omega)
      have w6 := wrap_in ((i : Int) + 1) (by omega) (by omega)
      have hi16 : i < 16 := by omega
      have step : ∀ (n : Int) (s1 : St) (Q1 : Ex → St → Prop), 0 ≤ n → n ≤ 127 →
          prep (pr12 13) s1 = ⟨[(0, .sl false nl 1 (bv cs)), (2, .ptr 2 17 0 0), (3, .ptr 3 17 0 0), (4, .int .i64 (if 300 < 2 * (left - n) then 300 else 2 * (left - n))), (5, .int .i64 v), (6, .int .i64 i), (7, .int .i64 n), (8, .int .i64 0)],
            ⟨[(2, ⟨false, false, 25, 17, [iv (rep 16 0) ++ [.sl false true 0 []]]⟩), (3, ⟨false, false, 25, 17, [iv (cnt.set i n) ++ [.row 65 1 0 vals.length]]⟩), (65, ⟨true, true, 5, 1, bv vals⟩)], []⟩, ⟨[], []⟩⟩ →
          (∀ s' (vals' : List Int), vals'.length = vals.length + n.toNat → (∀ x ∈ vals', 0 ≤ x ∧ x < 256) → prep (pr12 6) s' = ⟨[(0, .sl false nl 1 (bv cs)), (2, .ptr 2 17 0 0), (3, .ptr 3 17 0 0), (4, .int .i64 (if 300 < 2 * (left - n) then 300 else 2 * (left - n))), (5, .int .i64 (v + n)), (6, .int .i64 i)],
            ⟨[(2, ⟨false, false, 25, 17, [iv (rep 16 0) ++ [.sl false true 0 []]]⟩), (3, ⟨false, false, 25, 17, [iv (cnt.set i n) ++ [.row 65 1 0 vals'.length]]⟩), (65, ⟨true, true, 5, 1, bv vals'⟩)], []⟩, ⟨[], []⟩⟩ → Q1 (.exit 2) s') →
          wpA Try.prog cf12 lp12_13 s1 Q1 := by
        intro n s1 Q1 hn0 hn1 hs1 hA1
        refine inner12 nl cs hcs c0 hc0 (if 300 < 2 * (left - n) then 300 else 2 * (left - n)) i n.toNat (cnt.set i n) (by simpa using hcnt) Q1 n.toNat 0 v vals s1 (by omega) (by omega) (by omega) (by omega) hvr ?_ ?_
        · rw [hs1]; simp; omega
        · intro s' vals' e1 e2 e3
          refine hA1 s' vals' e1 e2 ?_
          rw [e3]; simp; omega
      have fin : ∀ (n : Int), 0 ≤ n → n ≤ 127 → ∀ (s2 : St) (vals' : List Int), vals'.length = vals.length + n.toNat → (∀ x ∈ vals', 0 ≤ x ∧ x < 256) →
          prep (pr12 5) s2 = ⟨[(0, .sl false nl 1 (bv cs)), (2, .ptr 2 17 0 0), (3, .ptr 3 17 0 0), (4, .int .i64 (if 300 < 2 * (left - n) then 300 else 2 * (left - n))), (5, .int .i64 (v + n)), (6, .int .i64 (i + 1))],
            ⟨[(2, ⟨false, false, 25, 17, [iv (rep 16 0) ++ [.sl false true 0 []]]⟩), (3, ⟨false, false, 25, 17, [iv (cnt.set i n) ++ [.row 65 1 0 vals'.length]]⟩), (65, ⟨true, true, 5, 1, bv vals'⟩)], []⟩, ⟨[], []⟩⟩ →
          wpA Try.prog cf12 lp12_5 s2 Q := by
        intro n hn0 hn1 s2 vals' e1 e2 e3
        refine ih (i + 1) (v + n.toNat) (if 300 < 2 * (left - n) then 300 else 2 * (left - n)) (cnt.set i n) vals' s2 (by omega) (by simpa using hcnt) (by omega) (by omega) ?_ ?_ ?_ e2 ?_ hA
        · split <;> omega
        · split <;> omega
        · split <;> omega
        · rw [e3]; simp; omega
      unfold lp12_5
      simp only [b12, Try.f12, nav, Option.getD_some, if_true, if_false, Nat.reduceEqDiff]
      rw [wpA_loop]
      simp only [pr12] at hs
      by_cases h250 : 250 < ci
      · have w5 := wrap_in (left - ci.tmod 16) (by omega) (by omega)
        have w7 := wrap_in (2 * (left - ci.tmod 16)) (by omega) (by omega)
        simp [cf12, hs, hlt16, hi16, hil, hci, hcig, w1, w2, w3, w4, w5, w6, w7, hne, hcnt, h250]
        refine ⟨by omega, step (ci.tmod 16) _ _ (by omega) (by omega) (by simp [pr12]) ?_⟩
        intro s' vals' e1 e2 hs'
        simp only [pr12] at hs'
        simp [hs', w6]
        exact fin (ci.tmod 16) (by omega) (by omega) _ vals' e1 e2 (by simp [pr12, hcnt])
      · have w5 := wrap_in (left - (ci.tmod (left + 1)).tdiv 2) (by omega) (by omega)
        have w7 := wrap_in (2 * (left - (ci.tmod (left + 1)).tdiv 2)) (by omega) (by omega)
        simp [cf12, hs, hlt16, hi16, hil, hci, hcig, w1, w2, w3, w4, w5, w6, w7, hne, hcnt, h250]
        refine ⟨by omega, step ((ci.tmod (left + 1)).tdiv 2) _ _ (by omega) (by omega) (by simp [pr12]) ?_⟩
        intro s' vals' e1 e2 hs'
        simp only [pr12] at hs'
        simp [hs', w6]
        exact fin ((ci.tmod (left + 1)).tdiv 2) (by omega) (by omega) _ vals' e1 e2 (by simp [pr12, hcnt])
    · unfold lp12_5
      simp only [b12, Try.f12, nav, Option.getD_some, if_true, if_false, Nat.reduceEqDiff]
      rw [wpA_loop]
      simp only [pr12] at hs
      have hil' : ¬ (i : Int) < cs.length := by omega
      simp [cf12, hs, hlt16, hil, hil']
      exact hA _ cnt vals hcnt (by omega) hvr (by simp)

/-- a table of choices is one -/
theorem run12 (nl : Bool) (cs : List Int) (hcs : ∀ v ∈ cs, 0 ≤ v ∧ v < 256) : ∃ t : Tab, t.Ok ∧ t.vals.length ≤ 10000 ∧ CallR Try.prog [] 12 [.sl false nl 1 (bv cs)] t.enc := by
  have main : wpA Try.prog cf12 b12 (enterSt [] [.sl false nl 1 (bv cs)]) fun e s' => ∃ t : Tab, t.Ok ∧ t.vals.length ≤ 10000 ∧ endQ Try.prog Try.f12 false t.enc e s' := by
    simp only [b12, nav, Option.getD_some, if_true, if_false, Nat.reduceEqDiff]
    generalize hE : (fun e s' => ∃ t : Tab, t.Ok ∧ t.vals.length ≤ 10000 ∧ endQ Try.prog Try.f12 false t.enc e s') = E
    simp only [Try.f12, Option.getD_some]
    simp [cf12]
    refine outer12 nl cs hcs _ 16 0 0 2 (rep 16 0) [] _ (by omega) (by simp) (by omega) (by simp) (by omega) (by omega) (by omega) (by simp) (by simp [pr12]) ?_
    intro s' cnt vals hcnt hvl hvr hs'
    simp only [pr12] at hs'
    by_cases h16 : 16 < cs.length
    · have h16' : (16 : Int) < cs.length := by omega
      obtain ⟨c16, hc16⟩ : ∃ x, cs[16]? = some x := ⟨cs[16], List.getElem?_eq_getElem h16⟩
      have hc16g : cs[16]'h16 = c16 := by rw [List.getElem?_eq_getElem h16] at hc16; exact Option.some.inj hc16
      by_cases h230 : 230 < c16
      · by_cases h1 : 1 < vals.length
        · obtain ⟨v1, hv1⟩ : ∃ x, vals[1]? = some x := ⟨vals[1], List.getElem?_eq_getElem h1⟩
          have hv1g : vals[1]'h1 = v1 := by rw [List.getElem?_eq_getElem h1] at hv1; exact Option.some.inj hv1
          have h0 : 0 < vals.length := by omega
          have h1' : (1 : Int) < vals.length := by omega
          simp [hs', h16, h16', hc16, hc16g, h230, hcnt, h1, h1', hv1, hv1g, h0]
          refine ⟨by kernel_rfl, ?_⟩
          rw [← hE]
          refine ⟨⟨cnt, false, vals.set 0 v1⟩, ⟨hcnt, fun x hx => ?_⟩, by simpa using hvl, ?_⟩
          · rcases List.mem_or_eq_of_mem_set hx with hx | hx
            · exact hvr x hx
            · subst hx; exact hvr _ (List.mem_of_getElem? hv1)
          · have hne : vals ≠ [] := by intro e; subst e; simp at h0
            simp [Try.f12, Tab.enc, hcnt, hne]
        · have h1' : ¬ (1 : Int) < vals.length := by omega
          simp [hs', h16, h16', hc16, hc16g, h230, hcnt, h1, h1']
          rw [← hE]
          exact ⟨⟨cnt, vals.isEmpty, vals⟩, ⟨hcnt, hvr⟩, hvl, by simp [Try.f12, Tab.enc, hcnt]⟩
      · simp [hs', h16, h16', hc16, hc16g, h230, hcnt]
        rw [← hE]
        exact ⟨⟨cnt, vals.isEmpty, vals⟩, ⟨hcnt, hvr⟩, hvl, by simp [Try.f12, Tab.enc, hcnt]⟩
    · have h16' : ¬ (16 : Int) < cs.length := by omega
      simp [hs', h16, h16', hcnt]
      rw [← hE]
      exact ⟨⟨cnt, vals.isEmpty, vals⟩, ⟨hcnt, hvr⟩, hvl, by simp [Try.f12, Tab.enc, hcnt]⟩
  obtain ⟨e, s', h1, t, h2, h3, h4⟩ := main
  exact ⟨t, h2, h3, callR_of_wpA mixed (cf := cf12) (ow := false) at12 bd12 (by kernel_rfl) (by simp [cf12]) rfl (Cs.none_ok _) (Its.none_ok _) ⟨e, s', h1, h4⟩⟩

open Classical in
/-- the table of choices -/
noncomputable def tableT (nl : Bool) (cs : List Int) : Tab := if h : ∀ v ∈ cs, 0 ≤ v ∧ v < 256 then Classical.choose (run12 nl cs h) else ⟨[], false, []⟩
theorem tableT_spec (nl : Bool) (cs : List Int) (h : ∀ v ∈ cs, 0 ≤ v ∧ v < 256) : (tableT nl cs).Ok ∧ (tableT nl cs).vals.length ≤ 10000 ∧ CallR Try.prog [] 12 [.sl false nl 1 (bv cs)] (tableT nl cs).enc := by
  unfold tableT
  rw [dif_pos h]
  exact Classical.choose_spec (run12 nl cs h)
noncomputable def g12 (vs : List V) : Option V :=
  match vs with
  | [.sl false nl 1 es] => (decB es).map fun cs => (tableT nl cs).enc
  | _ => none
theorem g12_ok (vs : List V) (r : V) (h : g12 vs = some r) : CallR Try.prog [] 12 vs r := by
  unfold g12 at h
  split at h <;> try (cases h; done)
  rename_i nl es
  simp only [Option.map_eq_some_iff] at h
  obtain ⟨cs, hcs, rfl⟩ := h
  obtain ⟨rfl, h1⟩ := decB_spec hcs
  exact (tableT_spec nl cs h1).2.2
theorem g12_eq (nl : Bool) (cs : List Int) (h : ∀ v ∈ cs, 0 ≤ v ∧ v < 256) : g12 [.sl false nl 1 (bv cs)] = some (.agg (iv (tableT nl cs).cnt ++ [.sl false (tableT nl cs).nl 1 (bv (tableT nl cs).vals)])) := by
  simp only [g12, decB_bv cs h, Option.map_some, Tab.enc]

/-! ## huff.Check, of what is lent too -/
noncomputable def k16 : List V → Option V := lentG g16
theorem k16_ok (vs : List V) (r : V) (h : k16 vs = some r) : CallR Try.prog [] 16 vs r := lentG_ok g16_ok vs r h
theorem iv_shr (l : List Int) : shrL (iv l) = iv l := by rw [shrL_eq]; simp [iv, V.shr]
theorem shr_append (l m : List V) : shrL (l ++ m) = shrL l ++ shrL m := by simp [shrL_eq]
theorem k16_eq (br : Bool) (t : Tab) (h : t.Ok) : k16 [.agg (iv t.cnt ++ [.sl br t.nl 1 (bv t.vals)])] = some (.bool (checkT t)) := by
  cases br with
  | false => exact lentG_same (g16_eq t h)
  | true =>
    have h1 : g16 [.agg (iv t.cnt ++ [.sl true t.nl 1 (bv t.vals)])] = none := by
      have hc := h.cnt
      simp [g16, decTab, hc]
    have e : ([.agg (iv t.cnt ++ [.sl true t.nl 1 (bv t.vals)])] : List V).map V.shr = [.agg (iv t.cnt ++ [.sl false t.nl 1 (bv t.vals)])] := by
      simp [V.shr, shr_append, iv_shr, shrL]
    unfold k16 lentG
    rw [h1, e, g16_eq t h]
    simp [V.plain]
end Go.Ai

namespace Go.Ai
open Go Go.Proofs
set_option maxRecDepth 100000
set_option maxHeartbeats 4000000
set_option linter.unusedSimpArgs false
set_option linter.unusedVariables false
set_option pp.deepTerms false
-- TABLES 9 11 3
def pr9 : Nat → List Pr
  | 0 => [.keep [] []]
  | 1 => [.keep [] []]
  | 2 => [.keep [1] [1]]
  | _ => []
def dr9 : Nat → Dr
  | _ => ⟨[], [], [], []⟩
def kp9 : List Nat → List Nat
  | _ => []
def pr11 : Nat → List Pr
  | 0 => [.keep [0] []]
  | 1 => [.keep [1] [1]]
  | _ => []
def dr11 : Nat → Dr
  | 1 => ⟨[[], [0], [], [2, 1, 0], [3, 2, 1, 0], [4, 3, 2, 1, 0], [5, 4, 3, 2, 1, 0], [6, 5, 4, 3, 2, 1, 0], [5, 4, 3, 2, 1, 0], [8, 7, 6, 5, 4, 3, 2, 1, 0], [9, 8, 7, 6, 5, 4, 3, 2, 1, 0], [10, 9, 8, 7, 6, 5, 4, 3, 2, 1, 0], [11, 10, 9, 8, 7, 6, 5, 4, 3, 2, 1, 0]], [], [], [4, 6, 10, 12]⟩
  | _ => ⟨[], [], [], []⟩
theorem ck11_1 : chkDr (opsAt b11 1) (dr11 1) = true := by kernel_rfl
def kp11 : List Nat → List Nat
  | _ => []
def pr3 : Nat → List Pr
  | 0 => [.keep [0, 1, 2, 3, 4] []]
  | 1 => [.keep [1, 2, 3, 4, 5] [5]]
  | 2 => [.keep [] []]
  | 3 => [.keep [1, 2, 3, 4, 5] [5]]
  | 4 => [.keep [1, 2, 3, 4, 5, 11] [5, 11]]
  | _ => []
def dr3 : Nat → Dr
  | 4 => ⟨[[], [0], [1, 0], [2, 1, 0], [3, 2, 1, 0], [4, 3, 2, 1, 0], [5, 4, 3, 2, 1, 0], [6, 5, 4, 3, 2, 1, 0], [7, 6, 5, 4, 3, 2, 1, 0], [8, 7, 6, 5, 4, 3, 2, 1, 0], [9, 8, 7, 6, 5, 4, 3, 2, 1, 0], [10, 9, 8, 7, 6, 5, 4, 3, 2, 1, 0], [11, 10, 9, 8, 7, 6, 5, 4, 3, 2, 1, 0], [11, 10, 9, 8, 7, 6, 5, 4, 3, 2, 1, 0], [13, 11, 10, 9, 8, 7, 6, 5, 4, 3, 2, 1, 0], [14, 13, 11, 10, 9, 8, 7, 6, 5, 4, 3, 2, 1, 0], [11, 10, 9, 8, 7, 6, 5, 4, 3, 2, 1, 0], [16, 11, 10, 9, 8, 7, 6, 5, 4, 3, 2, 1, 0], [17, 16, 11, 10, 9, 8, 7, 6, 5, 4, 3, 2, 1, 0], [18, 17, 16, 11, 10, 9, 8, 7, 6, 5, 4, 3, 2, 1, 0], [19, 18, 17, 16, 15, 14, 13, 11, 10, 9, 8, 7, 6, 5, 4, 3, 2, 1, 0], [20, 19, 18, 17, 16, 15, 14, 13, 12, 11, 10, 9, 8, 7, 6, 5, 4, 3, 2, 1, 0], [21, 20, 19, 18, 17, 16, 15, 14, 13, 12, 11, 10, 9, 8, 7, 6, 5, 4, 3, 2, 1, 0], [22, 21, 20, 19, 18, 17, 16, 15, 14, 13, 12, 11, 10, 9, 8, 7, 6, 5, 4, 3, 2, 1, 0], [23, 22, 21, 20, 19, 18, 17, 16, 15, 14, 13, 12, 11, 10, 9, 8, 7, 6, 5, 4, 3, 2, 1, 0], [23, 22, 21, 20, 19, 18, 17, 16, 15, 14, 13, 12, 11, 10, 9, 8, 7, 6, 5, 4, 3, 2, 1, 0], [25, 24, 23, 22, 21, 20, 19, 18, 17, 16, 15, 14, 13, 12, 11, 10, 9, 8, 7, 6, 5, 4, 3, 2, 1, 0], [23, 22, 21, 20, 19, 18, 17, 16, 15, 14, 13, 12, 11, 10, 9, 8, 7, 6, 5, 4, 3, 2, 1, 0], [23, 22, 21, 20, 19, 18, 17, 16, 15, 14, 13, 12, 11, 10, 9, 8, 7, 6, 5, 4, 3, 2, 1, 0], [28, 27, 26, 25, 24, 23, 22, 21, 20, 19, 18, 17, 16, 15, 14, 13, 12, 11, 10, 9, 8, 7, 6, 5, 4, 3, 2, 1, 0], [29, 28, 27, 26, 25, 24, 23, 22, 21, 20, 19, 18, 17, 16, 15, 14, 13, 12, 11, 10, 9, 8, 7, 6, 5, 4, 3, 2, 1, 0], [30, 29, 28, 27, 26, 25, 24, 23, 22, 21, 20, 19, 18, 17, 16, 15, 14, 13, 12, 11, 10, 9, 8, 7, 6, 5, 4, 3, 2, 1, 0], [31, 30, 29, 28, 27, 26, 25, 24, 23, 22, 21, 20, 19, 18, 17, 16, 15, 14, 13, 12, 11, 10, 9, 8, 7, 6, 5, 4, 3, 2, 1, 0]], [], [], [30, 33, 34, 38, 49, 50, 55, 58, 59]⟩
  | _ => ⟨[], [], [], []⟩
theorem ck3_4 : chkDr (opsAt b3 4) (dr3 4) = true := by kernel_rfl
def kp3 : List Nat → List Nat
  | _ => []
-- END
attribute [simp] pr9 dr9 kp9 pr11 dr11 kp11 pr3 dr3 kp3
/-! ## the chapter's example -/
noncomputable def C9 : Cs := ((Cs.none.add 10 g10).add 15 g15).add 16 k16
theorem C9_ok : C9.Ok Try.prog [] := Cs.add_ok (Cs.add_ok (Cs.add_ok (Cs.none_ok _) en10 g10_ok) en15 g15_ok) en16 k16_ok
noncomputable def cf9 : Cf := { N := 21, pr := pr9, dr := dr9, C := C9, It := Its.none, kp := kp9, rf := true, stop := none, lid := 0 }
noncomputable def g9 (vs : List V) : Option V :=
  match vs with
  | [] => runF Try.prog cf9 [] 60 b9 Try.f9 false []
  | _ => none
theorem g9_eq : g9 [] = some (.bool true) := by kernel_rfl
theorem g9_ok (vs : List V) (r : V) (h : g9 vs = some r) : CallR Try.prog [] 9 vs r := by
  unfold g9 at h
  split at h <;> try (cases h; done)
  exact callR_of_run mixed at9 bd9 (by kernel_rfl) (by simp) rfl C9_ok (Its.none_ok _) h

/-! ## codes -/
noncomputable def C11 : Cs := (((Cs.none.add 15 g15).add 16 g16).add 22 g22).add 23 g23
theorem C11_ok : C11.Ok Try.prog [] := Cs.add_ok (Cs.add_ok (Cs.add_ok (Cs.add_ok (Cs.none_ok _) en15 g15_ok) en16 g16_ok) en22 g22_ok) en23 g23_ok
attribute [simp] C11
noncomputable def cf11 : Cf := { N := 15, pr := pr11, dr := dr11, C := C11, It := Its.none, kp := kp11, rf := true, stop := none, lid := 0 }
theorem q34 : i64Q Try.prog 34 = some 512 := by kernel_rfl
def g11 (vs : List V) : Option V :=
  match vs with
  | [v] => (decTab v).map fun t => .bool true
  | _ => none
theorem g11_ok (vs : List V) (r : V) (h : g11 vs = some r) : CallR Try.prog [] 11 vs r := by
  unfold g11 at h
  split at h <;> try (cases h; done)
  rename_i v
  simp only [Option.map_eq_some_iff] at h
  obtain ⟨t, ht, rfl⟩ := h
  obtain ⟨rfl, h0⟩ := decTab_spec ht
  have h2 := h0.cnt
  have e1 := g16_eq t h0
  have e2 := g22_eq t h0
  have e3 := g15_eq t h0
  have e4 := g23_eq t h0
  rw [refCheckT_eq t h0] at e2
  have hl := codesT_length t h0
  refine callR_of_wpA mixed (cf := cf11) (ow := false) at11 bd11 (by kernel_rfl) (by simp [cf11]) rfl C11_ok (Its.none_ok _) ?_
  simp only [b11, Try.f11, nav, Option.getD_some, Tab.enc]
  cases hck : checkT t <;> rw [hck] at e1 e2
  · simp (maxSteps := 2000000) [cf11, h2, e1, e2, e3, e4, hl, q34]
    kernel_rfl
  · simp (maxSteps := 2000000) [cf11, h2, e1, e2, e3, e4, hl, q34]
    kernel_rfl
theorem g11_eq (t : Tab) (h : t.Ok) : g11 [.agg (iv t.cnt ++ [.sl false t.nl 1 (bv t.vals)])] = some (.bool true) := by
  have := decTab_enc t h
  unfold Tab.enc at this
  simp only [g11, this, Option.map_some]

/-! ## HuffCodes -/
noncomputable def C3 : Cs := (((((Cs.none.add 9 g9).add 10 g10).add 11 g11).add 12 g12).add 13 g13).add 14 g10
theorem C3_ok : C3.Ok Try.prog [] := Cs.add_ok (Cs.add_ok (Cs.add_ok (Cs.add_ok (Cs.add_ok (Cs.add_ok (Cs.none_ok _) en9 g9_ok) en10 g10_ok) en11 g11_ok) en12 g12_ok) en13 g13_ok) en14 g14_ok
attribute [simp] C3
noncomputable def cf3 : Cf := { N := 61, pr := pr3, dr := dr3, C := C3, It := Its.none, kp := kp3, rf := true, stop := none, lid := 0 }
theorem law3 (t : Tab) (h : t.Ok) (nl : Bool) (cs : List Int) (hcs : ∀ v ∈ cs, 0 ≤ v ∧ v < 256) (class_ part k : Int) :
    CallR Try.prog [] 3 [t.enc, .sl false nl 1 (bv cs), .int .i64 class_, .int .i64 part, .int .u8 k] (.bool true) := by
  have h2 := h.cnt
  have e9 := g9_eq
  have e11 := g11_eq t h
  have e12 := g12_eq nl cs hcs
  have e11' := g11_eq (tableT nl cs) (tableT_spec nl cs hcs).1
  have e10 := g10_eq
  have std : ∀ a b, g11 [.agg (iv (stdTab (kOf a) (kOf b)).cnt ++ [.sl false false 1 (bv (stdTab (kOf a) (kOf b)).vals)])] = some (.bool true) := fun a b => by
    have := g11_eq _ (std_ok _ _ (kOf_bit a) (kOf_bit b))
    rw [std_nl _ _ (kOf_bit a) (kOf_bit b)] at this; exact this
  have same : ∀ a b, g13 [.agg (iv (stdTab (kOf a) (kOf b)).cnt ++ [.sl false false 1 (bv (stdTab (kOf a) (kOf b)).vals)]), .agg (iv (stdTab (kOf a) (kOf b)).cnt ++ [.sl false false 1 (bv (stdTab (kOf a) (kOf b)).vals)])] = some (.bool true) := fun a b => by
    have := g13_eq _ _ (std_ok _ _ (kOf_bit a) (kOf_bit b)) (std_ok _ _ (kOf_bit a) (kOf_bit b))
    rw [std_nl _ _ (kOf_bit a) (kOf_bit b)] at this; simpa using this
  have hlen : ∀ a b, (stdTab (kOf a) (kOf b)).cnt.length = 16 := fun a b => std_cnt _ _ (kOf_bit a) (kOf_bit b)
  refine callR_of_wpA mixed (cf := cf3) (ow := false) at3 bd3 (by kernel_rfl) (by simp [cf3]) rfl C3_ok (Its.none_ok _) ?_
  simp only [b3, Try.f3, nav, Option.getD_some, Tab.enc]
  by_cases h300 : (300 : Int) < t.vals.length
  · have h300' : 300 < t.vals.length := by omega
    simp [cf3, h2, h300, h300', e9]
  · have h300' : ¬ 300 < t.vals.length := by omega
    simp (maxSteps := 4000000) [cf3, h2, h300, h300', e9, e10, e11, e11', e12, std, same, hlen]
    kernel_rfl
end Go.Ai
