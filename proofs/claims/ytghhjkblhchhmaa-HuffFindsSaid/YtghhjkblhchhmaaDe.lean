/- The contract of HuffRefuses: true for every row of bytes and every two bytes. -/
import Derived.Test.YtghhjkblhchhmaaDd
namespace Go.Ai
open Go Go.Proofs
set_option maxRecDepth 100000
set_option maxHeartbeats 4000000
set_option linter.unusedSimpArgs false
set_option linter.unusedVariables false
set_option pp.deepTerms false
-- TABLES 6:{"12":[".adopt¶(.cell¶10¶16)¶85¶5¶1",".keep¶[1,7,8,9,10,11,12]¶[7,8,9,10,39,85]"]}
def pr6 : Nat → List Pr
  | 0 => [.keep [1, 2] []]
  | 1 => [.keep [1, 2] []]
  | 2 => [.keep [1, 7] [7]]
  | 3 => [.keep [] []]
  | 4 => [.keep [1, 7] [7]]
  | 5 => [.keep [1, 7, 8] [7, 8]]
  | 6 => [.keep [1, 7, 8, 9] [7, 8, 9, 39, 1039]]
  | 7 => [.keep [1, 7, 8, 9] [7, 8, 9, 39, 1039]]
  | 8 => [.keep [1, 7, 8, 9] [7, 8, 9, 39, 1039]]
  | 9 => [.keep [1, 7, 8, 9, 10] [7, 8, 9, 10, 39, 85, 1039, 1085]]
  | 10 => [.keep [1, 7, 8, 9, 10, 11] [7, 8, 9, 10, 39, 85, 1039, 1085]]
  | 11 => [.keep [1, 7, 8, 9, 10, 11] [7, 8, 9, 10, 39, 85, 1039, 1085]]
  | 12 => [.keep [1, 7, 8, 9, 10, 11, 12] [7, 8, 9, 10, 39, 85, 1039, 1085], .adopt (.cell 10 16) 85 5 1, .keep [1,7,8,9,10,11,12] [7,8,9,10,39,85]]
  | 14 => [.keep [1, 7, 8, 9, 10, 11, 12] [7, 8, 9, 10, 39, 85, 1039, 1085]]
  | 13 => [.keep [1, 7, 8, 9, 10, 11, 12] [7, 8, 9, 10, 39, 85, 1039, 1085]]
  | 15 => [.keep [1, 7, 8, 9, 10] [7, 8, 9, 10, 39, 85, 1039, 1085]]
  | 16 => [.keep [1, 7, 8, 9, 10, 13] [7, 8, 9, 10, 13, 39, 85, 88, 1039, 1085, 1088]]
  | 17 => [.keep [7, 8, 9, 10, 13] [7, 8, 9, 10, 13, 39, 85, 88, 1039, 1085, 1088]]
  | _ => []
def dr6 : Nat → Dr
  | 4 => ⟨[[], [0], [], [2], [3, 2], [4, 3, 2, 1, 0], [], [6, 5, 4, 3, 2, 1, 0]], [], [(7, [])], [8]⟩
  | 7 => ⟨[[], [0], [], [2], [], [4], [5, 4], [6, 5, 4, 3, 2], [], [8], [], [10], [11, 10], [], [13], [14, 13], [15, 14, 13, 12, 11, 10], [16, 15, 14, 13, 12, 11, 10, 9, 8], [17, 16, 15, 14, 13, 12, 11, 10, 9, 8], [18, 17, 16, 15, 14, 13, 12, 11, 10, 9, 8, 7, 6, 5, 4, 3, 2, 1, 0], [19, 18, 17, 16, 15, 14, 13, 12, 11, 10, 9, 8, 7, 6, 5, 4, 3, 2, 1, 0]], [], [(20, [])], []⟩
  | _ => ⟨[], [], [], []⟩
theorem ck6_4 : chkDr (opsAt b6 4) (dr6 4) = true := by kernel_rfl
theorem ck6_7 : chkDr (opsAt b6 7) (dr6 7) = true := by kernel_rfl
def kp6 : List Nat → List Nat
  | _ => []
-- END
attribute [simp] pr6 dr6 kp6
noncomputable def C6 : Cs := ((Cs.none.add 9 g9).add 10 g10).add 16 k16
theorem C6_ok : C6.Ok Try.prog [] := Cs.add_ok (Cs.add_ok (Cs.add_ok (Cs.none_ok _) en9 g9_ok) en10 g10_ok) en16 k16_ok
attribute [simp] C6
noncomputable def cf6 : Cf := { N := 118, pr := pr6, dr := dr6, C := C6, It := Its.none, kp := kp6, rf := true, stop := none, lid := 0 }

theorem u8_in (x : Int) (h1 : 0 ≤ x) (h2 : x < 256) : IntKind.u8.wrap x = x := by
  have : IntKind.u8.wrap x = x % 256 := by simp [IntKind.wrap, IntKind.bits, IntKind.signed]
  omega
theorem u64_in (x : Int) (h1 : 0 ≤ x) (h2 : x < 18446744073709551616) : IntKind.u64.wrap x = x := by
  have : IntKind.u64.wrap x = x % 18446744073709551616 := by simp [IntKind.wrap, IntKind.bits, IntKind.signed]
  omega
theorem std_12 (a b : Int) (ha : bit2 a) (hb : bit2 b) : decide (12 ≤ (stdTab a b).vals.length) = true := by
  rcases ha with rfl | rfl <;> rcases hb with rfl | rfl <;> kernel_rfl
theorem splice_ivr (l l' : List Int) (r : List V) (h : l'.length = l.length) : splice (iv l ++ r) 0 (iv l') = iv l' ++ r := by
  rw [splice_gen _ _ _ (by simp [h])]
  simp [iv, h]

def upto : Nat → List Int
  | 0 => []
  | i + 1 => upto i ++ [(i : Int)]
@[simp] theorem upto_len : ∀ i, (upto i).length = i
  | 0 => rfl
  | i + 1 => by simp [upto, upto_len i]

theorem loop6 (T : Tab) (hc : T.cnt.length = 16) (S cz : List Int) (hz : cz.length = 16) (n : Int) (k N : Nat) (hk : k < 6) (hN : (2 : Int) ^ (k + 1) = (N : Int)) (hN2 : N ≤ 64) (xl : Nat) (Q : Ex → St → Prop) :
    ∀ (m i : Nat) (s : St), i + m = N →
      prep (pr6 12) s = ⟨[(1, .int .u8 n), (7, .ptr 7 17 0 0), (8, .ptr 8 17 0 0), (9, .ptr 9 17 0 0), (10, .ptr 10 17 0 0), (11, .int .i64 (k + 1)), (12, .int .i64 i)],
        ⟨[(7, ⟨false, false, 25, 17, [iv T.cnt ++ [.sl false false 1 (bv T.vals)]]⟩), (8, ⟨false, false, 25, 17, [iv T.cnt ++ [.sl false false 1 (bv T.vals.tail)]]⟩), (9, ⟨false, false, 25, 17, [iv T.cnt ++ [.row 39 1 0 xl]]⟩),
          (10, ⟨false, false, 25, 17, [iv cz ++ [.row 85 1 0 i]]⟩), (39, ⟨true, true, 5, 1, bv S⟩), (85, ⟨true, true, 5, 1, bv (upto i)⟩)], []⟩, ⟨[], []⟩⟩ →
      (∀ s', prep (pr6 15) s' = ⟨[(1, .int .u8 n), (7, .ptr 7 17 0 0), (8, .ptr 8 17 0 0), (9, .ptr 9 17 0 0), (10, .ptr 10 17 0 0)],
        ⟨[(7, ⟨false, false, 25, 17, [iv T.cnt ++ [.sl false false 1 (bv T.vals)]]⟩), (8, ⟨false, false, 25, 17, [iv T.cnt ++ [.sl false false 1 (bv T.vals.tail)]]⟩), (9, ⟨false, false, 25, 17, [iv T.cnt ++ [.row 39 1 0 xl]]⟩),
          (10, ⟨false, false, 25, 17, [iv cz ++ [.row 85 1 0 N]]⟩), (39, ⟨true, true, 5, 1, bv S⟩), (85, ⟨true, true, 5, 1, bv (upto N)⟩)], []⟩, ⟨[], []⟩⟩ → Q (.exit 0) s') →
      wpA Try.prog cf6 lp6_12 s Q := by
  have wku := u64_in ((k : Int) + 1) (by omega) (by omega)
  have hk0 : ¬ (k : Int) + 1 < 0 := by omega
  have hsh : IntKind.i64.wrap (2 ^ min (k + 1) IntKind.i64.bits) = (N : Int) := by
    have := shl_one ((k + 1 : Nat) : Int) (by omega)
    rw [Int.toNat_natCast] at this
    rw [this, hN]
  have hk16 : k ≤ 16 := by omega
  intro m
  induction m with
  | zero =>
    intro i s hi hs hA
    unfold lp6_12
    simp only [b6, Try.f6, nav, Option.getD_some, if_true, if_false, Nat.reduceEqDiff]
    rw [wpA_loop]
    simp only [pr6] at hs
    have hi0 : i = N := by omega
    subst hi0
    simp [cf6, hs, ty38, wku, hk0, hsh, hk16, hc, hz]
    exact hA _ (by simp)
  | succ m ih =>
    intro i s hi hs hA
    unfold lp6_12
    simp only [b6, Try.f6, nav, Option.getD_some, if_true, if_false, Nat.reduceEqDiff]
    rw [wpA_loop]
    simp only [pr6] at hs
    have hi0 : (i : Int) < N := by omega
    have hi1 : i < N := by omega
    have wi := u8_in (i : Int) (by omega) (by omega)
    have w1 := wrap_in ((i : Int) + 1) (by omega) (by omega)
    have a1 : i + 1 ≤ maxLen := by unfold maxLen; omega
    have a2 : i + 1 ≤ 140737488355328 := by omega
    simp [cf6, hs, ty38, wku, hk0, hsh, hk16, hc, hz, hi0, hi1, wi, w1, a1, a2]
    exact ih (i + 1) _ (by omega) (by simp [pr6, upto, hz]) hA

theorem upto_mem : ∀ (i : Nat) (x : Int), x ∈ upto i → 0 ≤ x ∧ x < i
  | 0, x, h => by simp [upto] at h
  | i + 1, x, h => by
    simp only [upto, List.mem_append, List.mem_singleton] at h
    rcases h with h | h
    · have := upto_mem i x h; omega
    · omega

theorem checkT_not {t : Tab} (h : t.Ok) (hn : ¬ TabGood t) : checkT t = false := by
  cases hc : checkT t with
  | false => rfl
  | true => exact absurd ((checkT_good t h).1 hc) hn

theorem chkX (T : Tab) (hok : T.Ok) (hg : TabGood T) (h : 1 ≤ T.vals.length) : checkT ⟨T.cnt, false, T.vals.tail⟩ = false := by
  refine checkT_not ⟨hok.cnt, fun v hv => hok.vals v (List.mem_of_mem_tail hv)⟩ fun hb => ?_
  have h1 := hb.sum
  have h2 := hg.sum
  simp at h1
  omega

theorem chkY (T : Tab) (hok : T.Ok) (i j : Nat) (y : Int) (hi : i < T.vals.length) (hij : i ≠ j) (hy : T.vals[j]? = some y) : checkT ⟨T.cnt, false, T.vals.set i y⟩ = false := by
  have hyr := hok.vals y (List.mem_of_getElem? hy)
  refine checkT_not ⟨hok.cnt, fun v hv => ?_⟩ fun hb => ?_
  · rcases List.mem_or_eq_of_mem_set hv with hv | rfl
    · exact hok.vals v hv
    · exact hyr
  · have hn := List.pairwise_iff_getElem.1 hb.nodup
    obtain ⟨hj, hyj⟩ := List.getElem?_eq_some_iff.1 hy
    rcases Nat.lt_or_gt_of_ne hij with h | h
    · have := hn i j (by simpa using hi) (by simpa using hj) h
      exact this (by simp [List.getElem_set, hyj, hij])
    · have := hn j i (by simpa using hj) (by simpa using hi) h
      exact this (by simp [List.getElem_set, hyj, hij])

theorem all_z : ((List.range 6).all fun k => (codesOf ((rep 16 (0 : Int)).set k (2 ^ (k + 1)))).any fun x => x == (((k : Int) + 1), 2 ^ (k + 1) - 1)) = true := by kernel_rfl
theorem chkZ (k N : Nat) (hk : k < 6) (hN : (2 : Int) ^ (k + 1) = (N : Int)) (hN2 : N ≤ 64) : checkT ⟨(rep 16 0).set k N, false, upto N⟩ = false := by
  refine checkT_not ⟨by simp, fun v hv => ?_⟩ fun hb => ?_
  · have := upto_mem N v hv; omega
  · have h1 := List.all_eq_true.1 all_z k (List.mem_range.2 hk)
    obtain ⟨x, hx, hxe⟩ := List.any_eq_true.1 h1
    have hxe' : x = (((k : Int) + 1), 2 ^ (k + 1) - 1) := by simpa using hxe
    subst hxe'
    rw [hN] at hx
    have := hb.code _ hx
    unfold codeOk at this
    simp only at this
    rw [show ((k : Int) + 1).toNat = k + 1 from by omega, hN] at this
    omega

theorem all_w : ((List.range 16).all fun q => decide (codesOf ((rep 16 (0 : Int)).set q 1) = [((q : Int) + 1, 0)]) && decide (sumC ((rep 16 (0 : Int)).set q 1) = 1) && ((rep 16 (0 : Int)).set q 1).all fun c => decide (0 ≤ c) && decide (c ≤ 255)) = true := by kernel_rfl
theorem okW (q : Nat) (n : Int) (h1 : 0 ≤ n) (h2 : n < 256) : (⟨(rep 16 0).set q 1, false, [n]⟩ : Tab).Ok :=
  ⟨by simp, fun v hv => by simp at hv; subst hv; exact ⟨h1, h2⟩⟩
theorem chkW (q : Nat) (hq : q < 16) (n : Int) (h1 : 0 ≤ n) (h2 : n < 256) : checkT ⟨(rep 16 0).set q 1, false, [n]⟩ = true := by
  have h := List.all_eq_true.1 all_w q (List.mem_range.2 hq)
  simp only [Bool.and_eq_true, decide_eq_true_eq, List.all_eq_true] at h
  obtain ⟨⟨a1, a2⟩, a3⟩ := h
  refine (checkT_good _ (okW q n h1 h2)).2 ⟨fun c hc => a3 c hc, by simpa using a2, by simp, by simp, ?_⟩
  intro x hx
  have hx' : x ∈ codesOf ((rep 16 (0 : Int)).set q 1) := hx
  rw [a1] at hx'
  simp at hx'
  subst hx'
  unfold codeOk
  have h2 : 1 ≤ (2 : Nat) ^ q := Nat.one_le_two_pow
  have e : (2 : Int) ^ (q + 1) = ((2 ^ q * 2 : Nat) : Int) := by simp [Int.pow_succ]
  simp only
  rw [show ((q : Int) + 1).toNat = q + 1 from by omega, e]
  omega

theorem lendL_ivG (c : Co) (r : List V) : ∀ (l : List Int) (n : Nat), lendL (n + 1 + l.length) c (iv l ++ r) = (lendL (n + 1) c r).map (iv l ++ ·)
  | [], n => by simp only [iv, List.map_nil, List.nil_append, List.length_nil, Nat.add_zero]; cases lendL (n + 1) c r <;> rfl
  | x :: l, n => by
    have ih := lendL_ivG c r l n
    simp only [iv, List.map_cons, List.cons_append, List.length_cons]
    rw [← Nat.add_assoc, lendL_cons]
    have h1 : lend (n + 1 + l.length) c (.int .i64 x) = some (.int .i64 x) := by
      rw [show n + 1 + l.length = (n + l.length) + 1 from by omega]; rfl
    simp only [iv] at ih
    rw [h1, ih]
    cases lendL (n + 1) c r <;> rfl
theorem lendL_iv16 (c : Co) (r : List V) (l : List Int) (h : l.length = 16) : lendL 998 c (iv l ++ r) = (lendL 982 c r).map (iv l ++ ·) := by
  have := lendL_ivG c r l 981
  rw [h] at this
  exact this

theorem law6 (nl : Bool) (bs : List Int) (n p : Int) (h1 : 0 ≤ n) (h1' : n < 256) (h2 : 0 ≤ p) (h2' : p < 256) : CallR Try.prog [] 6 [.sl false nl 1 (bv bs), .int .u8 n, .int .u8 p] (.bool true) := by
  have bit : ∀ x : Int, 0 ≤ x → bit2 (x.tmod 2) ∧ kOf (x.tmod 2) = x.tmod 2 ∧ IntKind.i64.wrap (x.tmod 2) = x.tmod 2 ∧ IntKind.u8.wrap (x.tmod 2) = x.tmod 2 := by
    intro x hx
    have e : x.tmod 2 = x % 2 := Int.tmod_eq_emod_of_nonneg hx
    rw [e]
    have : x % 2 = 0 ∨ x % 2 = 1 := by omega
    refine ⟨this, ?_, wrap_in _ (by omega) (by omega), ?_⟩
    · unfold kOf
      rcases this with h | h <;> simp [h]
    · rcases this with h | h <;> rw [h] <;> rfl
  obtain ⟨ba, ka, wa, va⟩ := bit p h2
  have hq : 0 ≤ p.tdiv 2 := by rw [Int.tdiv_eq_ediv_of_nonneg h2]; omega
  obtain ⟨bb, kb, wb, vb⟩ := bit (p.tdiv 2) hq
  have wq : IntKind.u8.wrap (p.tdiv 2) = p.tdiv 2 := by rw [Int.tdiv_eq_ediv_of_nonneg h2]; exact u8_in _ (by omega) (by omega)
  have e10 := g10_eq (p.tmod 2) ((p.tdiv 2).tmod 2)
  rw [ka, kb] at e10
  have hok := std_ok _ _ ba bb
  have hnl := std_nl _ _ ba bb
  have hck := std_check _ _ ba bb
  have e9 := g9_eq
  have h12 : 12 ≤ (stdTab (p.tmod 2) ((p.tdiv 2).tmod 2)).vals.length := of_decide_eq_true (std_12 _ _ ba bb)
  generalize stdTab (p.tmod 2) ((p.tdiv 2).tmod 2) = T at e10 hok hnl hck h12
  have h12' : (12 : Int) ≤ T.vals.length := by omega
  have h12n : ¬ (T.vals.length : Int) < 12 := by omega
  have h12m : 1 ≤ T.vals.length := by omega
  have htk : List.take (T.vals.length - 1) T.vals.tail = T.vals.tail := List.take_of_length_le (by simp)
  have hsp : ∀ r, splice (iv (rep 16 0) ++ r) 0 (iv T.cnt) = iv T.cnt ++ r := fun r => splice_ivr _ _ _ (by rw [hok.cnt]; rfl)
  have hc := hok.cnt
  have hg := (checkT_good T hok).1 hck
  have h256 := hg.len
  have hml : T.vals.length ≤ maxLen := by simp [maxLen]; omega
  have hml2 : T.vals.length ≤ 140737488355328 := by omega
  have hne : T.vals ≠ [] := by intro h; rw [h] at h12; simp at h12
  have wn := wrap_in n (by omega) (by omega)
  have wn1 := wrap_in (n + 1) (by omega) (by omega)
  have tm : ∀ x : Int, 0 ≤ x → x.tmod T.vals.length = ((x.toNat % T.vals.length : Nat) : Int) := by
    intro x hx
    obtain ⟨k, rfl⟩ := Int.eq_ofNat_of_zero_le hx
    rw [Int.tmod_eq_emod_of_nonneg hx, Int.toNat_natCast, Int.natCast_emod]
  have ei := tm n h1
  have ej := tm (n + 1) (by omega)
  have hij : n.toNat % T.vals.length ≠ (n + 1).toNat % T.vals.length := by
    rw [show (n + 1).toNat = n.toNat + 1 from by omega]
    intro h
    have a1 := Nat.div_add_mod n.toNat T.vals.length
    have a2 := Nat.div_add_mod (n.toNat + 1) T.vals.length
    rw [← h] at a2
    have a3 : T.vals.length * ((n.toNat + 1) / T.vals.length) = T.vals.length * (n.toNat / T.vals.length) + 1 := by omega
    have a4 : T.vals.length * ((n.toNat + 1) / T.vals.length - n.toNat / T.vals.length) = 1 := by rw [Nat.mul_sub]; omega
    have := Nat.le_of_dvd (by omega) (⟨_, a4.symm⟩ : T.vals.length ∣ 1)
    omega
  have hi := Nat.mod_lt n.toNat (show 0 < T.vals.length by omega)
  have hj := Nat.mod_lt (n + 1).toNat (show 0 < T.vals.length by omega)
  generalize n.toNat % T.vals.length = i at ei hij hi
  generalize (n + 1).toNat % T.vals.length = j at ej hij hj
  have hi' : (i : Int) < T.vals.length := by omega
  have hj' : (j : Int) < T.vals.length := by omega
  obtain ⟨k, hk⟩ : ∃ k, n.tmod 6 = ((k : Nat) : Int) := ⟨(n.tmod 6).toNat, by rw [Int.tmod_eq_emod_of_nonneg h1]; omega⟩
  have hk6 : k < 6 := by rw [Int.tmod_eq_emod_of_nonneg h1] at hk; omega
  have wk := wrap_in (k : Int) (by omega) (by omega)
  have wk1 := wrap_in ((k : Int) + 1) (by omega) (by omega)
  have wku := u64_in ((k : Int) + 1) (by omega) (by omega)
  obtain ⟨N, hN, hN1, hN2⟩ : ∃ N : Nat, (2 : Int) ^ (k + 1) = (N : Int) ∧ N = 2 ^ (k + 1) ∧ N ≤ 64 := by
    refine ⟨2 ^ (k + 1), by simp, rfl, ?_⟩
    have : (2 : Nat) ^ (k + 1) ≤ 2 ^ 6 := Nat.pow_le_pow_right (by omega) (by omega)
    omega
  have hsh : IntKind.i64.wrap (2 ^ min (k + 1) IntKind.i64.bits) = (N : Int) := by
    have := shl_one ((k + 1 : Nat) : Int) (by omega)
    rw [Int.toNat_natCast] at this
    rw [this, hN]
  have hk0 : ¬ (k : Int) + 1 < 0 := by omega
  have hkk : (k : Int) + 1 - 1 = k := by omega
  have hk16 : k < 16 := by omega
  have hk16' : (k : Int) < 16 := by omega
  obtain ⟨q, hq'⟩ : ∃ q, n.tmod 16 = ((q : Nat) : Int) := ⟨(n.tmod 16).toNat, by rw [Int.tmod_eq_emod_of_nonneg h1]; omega⟩
  have hq6 : q < 16 := by rw [Int.tmod_eq_emod_of_nonneg h1] at hq'; omega
  have hq6' : (q : Int) < 16 := by omega
  obtain ⟨y, hy⟩ : ∃ y, T.vals[j]? = some y := ⟨T.vals[j], List.getElem?_eq_getElem hj⟩
  have hyg : T.vals[j]'hj = y := by rw [List.getElem?_eq_getElem hj] at hy; exact Option.some.inj hy
  have eT := k16_eq false T hok
  rw [hck, hnl] at eT
  have eX := k16_eq false ⟨T.cnt, false, T.vals.tail⟩ ⟨hok.cnt, fun v hv => hok.vals v (List.mem_of_mem_tail hv)⟩
  rw [chkX T hok hg h12m] at eX
  have eY := k16_eq true ⟨T.cnt, false, T.vals.set i y⟩ ⟨hok.cnt, fun v hv => (List.mem_or_eq_of_mem_set hv).elim (hok.vals v) (fun e => e ▸ hok.vals y (List.mem_of_getElem? hy))⟩
  rw [chkY T hok i j y hi hij hy] at eY
  have eZ := k16_eq true ⟨(rep 16 0).set k N, false, upto N⟩ ⟨by simp, fun v hv => by have := upto_mem N v hv; omega⟩
  rw [chkZ k N hk6 hN hN2] at eZ
  have eW := k16_eq true _ (okW q n h1 h1')
  rw [chkW q hq6 n h1 h1'] at eW
  simp only at eX eY eZ eW
  have hL1 : ∀ c r, lendL 998 c (iv T.cnt ++ r) = (lendL 982 c r).map (iv T.cnt ++ ·) := fun c r => lendL_iv16 c r _ hc
  have hL2 : ∀ c r, lendL 998 c (iv ((rep 16 0).set k N) ++ r) = (lendL 982 c r).map (iv ((rep 16 0).set k N) ++ ·) := fun c r => lendL_iv16 c r _ (by simp)
  have hL3 : ∀ c r, lendL 998 c (iv ((rep 16 0).set q 1) ++ r) = (lendL 982 c r).map (iv ((rep 16 0).set q 1) ++ ·) := fun c r => lendL_iv16 c r _ (by simp)
  have hE1 : (T.vals.set i y).isEmpty = false := by
    cases hx : (T.vals.set i y) with
    | nil => have := congrArg List.length hx; rw [List.length_set, List.length_nil] at this; omega
    | cons => rfl
  have hE2 : (upto N).isEmpty = false := by
    cases hx : upto N with
    | nil => have := congrArg List.length hx; have := Nat.one_le_two_pow (n := k + 1); simp at *; omega
    | cons => rfl
  have eW' : k16 [.agg (iv ((rep 16 0).set q 1) ++ [.sl true false 1 [[.int .u8 n]]])] = some (.bool true) := eW
  have hNe : N ≠ 0 := by have := Nat.one_le_two_pow (n := k + 1); omega
  refine callR_of_wpA mixed (cf := cf6) (ow := false) at6 bd6 (by kernel_rfl) (by simp [cf6]) rfl C6_ok (Its.none_ok _) ?_
  simp only [b6, nav, Option.getD_some, if_true, if_false, Nat.reduceEqDiff]
  generalize hE : endQ Try.prog Try.f6 false (.bool true) = E
  simp only [Try.f6, Option.getD_some]
  simp (maxSteps := 1000000) [cf6, wa, wb, va, vb, wq, e10, hc, h12, h12', h12n, h12m, htk, hsp]
  refine ⟨by kernel_rfl, ?_⟩
  simp (maxSteps := 1000000) [hml, hml2, hne, wn, wn1, ei, ej, hi, hj, hi', hj', hy, hyg, h12n, hc, ty38, hk, wk, wk1, wku, hk0, hsh, hkk, hk16, hk16']
  refine ⟨by kernel_rfl, ?_⟩
  refine ⟨by omega, loop6 T hc (T.vals.set i y) ((rep 16 0).set k N) (by simp) n k N hk6 hN hN2 T.vals.length _ N 0 _ (by omega) (by simp [pr6, upto]) ?_⟩
  intro s' hs'
  simp only [pr6] at hs'
  simp (maxSteps := 1000000) [hs', e9, hc, hq', hq6, hq6', show q ≤ 16 from by omega, eT, eX, eY, eZ, eW, eW', hE1, hE2, hL1, hL2, hL3, hNe]
  rw [← hE]
  simp [Try.f6]
end Go.Ai
