/- Contracts of the functions that huff.Check, huff.Codes and huff.Standard come to: for every table whose counts are sixteen and whose values are bytes. -/
import Derived.Test.YtghhjkblhchhmaaCh
import Derived.KernelRfl
import Derived.Test.YtghhjkblhchhmaaProg
namespace Go.Ai
open Go

/-! ## Huffman tables, in plain words -/

structure Tab where
  cnt : List Int
  nl : Bool
  vals : List Int

def Tab.enc (t : Tab) : V := .agg (iv t.cnt ++ [.sl false t.nl 1 (bv t.vals)])
structure Tab.Ok (t : Tab) : Prop where
  cnt : t.cnt.length = 16
  vals : ∀ v ∈ t.vals, 0 ≤ v ∧ v < 256

def decB : List (List V) → Option (List Int)
  | [] => some []
  | [.int .u8 n] :: r => if 0 ≤ n ∧ n < 256 then (decB r).map (n :: ·) else none
  | _ => none

theorem decB_bv (l : List Int) (h : ∀ v ∈ l, 0 ≤ v ∧ v < 256) : decB (bv l) = some l := by
  induction l with
  | nil => rfl
  | cons x r ih =>
    have h1 := h x (by simp)
    have h2 := ih fun v hv => h v (by simp [hv])
    simp only [bv] at h2 ⊢
    simp only [List.map_cons, decB, h1, and_self, if_true, h2, Option.map_some]

theorem decB_spec {es : List (List V)} {l : List Int} (h : decB es = some l) : es = bv l ∧ ∀ v ∈ l, 0 ≤ v ∧ v < 256 := by
  induction es generalizing l with
  | nil => simp [decB] at h; subst h; exact ⟨rfl, by simp⟩
  | cons e r ih =>
    unfold decB at h
    split at h
    · rename_i h0; cases h0
    · rename_i n r' h0
      cases h0
      split at h
      · rename_i hn
        simp only [Option.map_eq_some_iff] at h
        obtain ⟨m, hm, rfl⟩ := h
        obtain ⟨h1, h2⟩ := ih hm
        refine ⟨by rw [h1]; rfl, ?_⟩
        intro v hv
        rcases List.mem_cons.1 hv with rfl | hv
        · exact hn
        · exact h2 v hv
      · cases h
    · cases h

def decTab : V → Option Tab
  | .agg cs => if cs.length = 17 then (ints (cs.take 16)).bind fun cnt =>
      match (cs[16]? : Option V) with
      | some (.sl false nl 1 es) => (decB es).map fun vals => ⟨cnt, nl, vals⟩
      | _ => none
    else none
  | _ => none

theorem ints_spec {cs : List V} {l : List Int} (h : ints cs = some l) : cs = iv l := by
  induction cs generalizing l with
  | nil => simp [ints] at h; subst h; rfl
  | cons e r ih =>
    unfold ints at h
    split at h
    · rename_i h0; cases h0
    · rename_i n r' h0
      cases h0
      simp only [Option.map_eq_some_iff] at h
      obtain ⟨m, hm, rfl⟩ := h
      rw [ih hm]; rfl
    · cases h

theorem decTab_enc (t : Tab) (h : t.Ok) : decTab t.enc = some t := by
  obtain ⟨h1, h2⟩ := h
  unfold decTab Tab.enc
  simp [h1, decB_bv _ h2]

theorem decTab_spec {v : V} {t : Tab} (h : decTab v = some t) : v = t.enc ∧ t.Ok := by
  unfold decTab at h
  split at h <;> try (cases h; done)
  rename_i cs
  split at h <;> try (cases h; done)
  rename_i hl
  simp only [Option.bind_eq_some_iff] at h
  obtain ⟨cnt, hc, h⟩ := h
  split at h <;> try (cases h; done)
  rename_i nl es h16
  simp only [Option.map_eq_some_iff] at h
  obtain ⟨vals, hv, rfl⟩ := h
  have h1 := ints_spec hc
  obtain ⟨h2, h3⟩ := decB_spec hv
  have hlen : cnt.length = 16 := by
    have := congrArg List.length h1
    simp at this; omega
  refine ⟨?_, hlen, h3⟩
  unfold Tab.enc
  simp only
  rw [← h1, ← h2]
  have : cs = cs.take 16 ++ cs.drop 16 := (List.take_append_drop 16 cs).symm
  have hd : cs.drop 16 = [.sl false nl 1 es] := by
    have hl' : (cs.drop 16).length = 1 := by simp [hl]
    obtain ⟨x, hx⟩ := List.length_eq_one_iff.1 hl'
    have : (cs.drop 16)[0]? = some (.sl false nl 1 es) := by simpa using h16
    rw [hx] at this ⊢
    simpa using this
  rw [← hd]; rw [← this]

/-- what one length's codes are: the value's place, the length, the code -/
def laidRow (i : Int) : Nat → Int → Int → List (Int × Int × Int)
  | 0, _, _ => []
  | n + 1, at_, next => (at_, i, next) :: laidRow i n (at_ + 1) (next + 1)
def laidL : List Int → Int → Int → Int → List (Int × Int × Int)
  | [], _, _, _ => []
  | c :: r, i, at_, next => laidRow i c.toNat at_ (2 * next) ++ laidL r (i + 1) (at_ + c.toNat) (2 * next + c.toNat)
def laid (cnt : List Int) : List (Int × Int × Int) := laidL cnt 1 0 0
def itemV (x : Int × Int × Int) : List V := [.int .i64 x.1, .agg [.int .i64 x.2.1, .int .i64 x.2.2]]

/-- numbers that may be counts -/
def cntOk (l : List Int) : Prop := ∀ c ∈ l, 0 ≤ c ∧ c ≤ 255


/-! ### The codes in a row: item k is the k-th value's code -/
def rowC (i : Int) : Nat → Int → List (Int × Int)
  | 0, _ => []
  | n + 1, next => (i, next) :: rowC i n (next + 1)
def codesL : List Int → Int → Int → List (Int × Int)
  | [], _, _ => []
  | c :: r, i, next => rowC i c.toNat (2 * next) ++ codesL r (i + 1) (2 * next + c.toNat)
def num : Int → List (Int × Int) → List (Int × Int × Int)
  | _, [] => []
  | k, x :: r => (k, x) :: num (k + 1) r
def codesOf (cnt : List Int) : List (Int × Int) := codesL cnt 1 0

theorem rowC_length (i : Int) : ∀ (n : Nat) (next : Int), (rowC i n next).length = n := by
  intro n
  induction n with
  | zero => intro next; rfl
  | succ n ih => intro next; simp [rowC, ih]
theorem num_append : ∀ (a b : List (Int × Int)) (k : Int), num k (a ++ b) = num k a ++ num (k + a.length) b := by
  intro a
  induction a with
  | nil => intro b k; simp [num]
  | cons x a ih => intro b k; simp [num, ih]; congr 1; omega
theorem laidRow_num (i : Int) : ∀ (n : Nat) (at_ next : Int), laidRow i n at_ next = num at_ (rowC i n next) := by
  intro n
  induction n with
  | zero => intro a b; rfl
  | succ n ih => intro a b; simp [laidRow, rowC, num, ih]
theorem laidL_num : ∀ (l : List Int) (i at_ next : Int), laidL l i at_ next = num at_ (codesL l i next) := by
  intro l
  induction l with
  | nil => intro a b c; rfl
  | cons x l ih => intro a b c; simp only [laidL, codesL, num_append, laidRow_num, rowC_length, ih]
theorem laid_num (cnt : List Int) : laid cnt = num 0 (codesOf cnt) := laidL_num cnt 1 0 0

def sumC : List Int → Int
  | [] => 0
  | c :: r => c + sumC r
theorem codesL_length : ∀ (l : List Int) (i next : Int), cntOk l → ((codesL l i next).length : Int) = sumC l := by
  intro l
  induction l with
  | nil => intro i next _; rfl
  | cons c l ih =>
    intro i next h
    have h1 := h c (by simp)
    have h2 := ih (i + 1) (2 * next + c.toNat) fun x hx => h x (by simp [hx])
    simp only [codesL, List.length_append, rowC_length, sumC]
    omega
theorem sumC_nonneg : ∀ (l : List Int), cntOk l → 0 ≤ sumC l := by
  intro l
  induction l with
  | nil => intro _; exact Int.le_refl _
  | cons c l ih =>
    intro h
    have h1 := h c (by simp)
    have h2 := ih fun x hx => h x (by simp [hx])
    simp only [sumC]; omega

theorem rowC_mem (i : Int) : ∀ (n : Nat) (next : Int) (x : Int × Int), x ∈ rowC i n next → x.1 = i ∧ next ≤ x.2 ∧ x.2 < next + n := by
  intro n
  induction n with
  | zero => intro next x h; simp [rowC] at h
  | succ n ih =>
    intro next x h
    simp only [rowC, List.mem_cons] at h
    rcases h with rfl | h
    · simp; omega
    · have := ih _ _ h; omega
theorem codesL_mem : ∀ (l : List Int) (i : Nat) (next : Int), cntOk l → 0 ≤ next → next ≤ 255 * (2 ^ i - 1) → i + l.length ≤ 16 → ∀ x ∈ codesL l (i + 1) next, 1 ≤ x.1 ∧ x.1 ≤ 16 ∧ 0 ≤ x.2 ∧ x.2 ≤ 16777216 := by
  intro l
  induction l with
  | nil => intro i next _ _ _ _ x h; simp [codesL] at h
  | cons c l ih =>
    intro i next h h0 hn hl x hx
    have hc := h c (by simp)
    have hl' : i + 1 + l.length ≤ 16 := by simp at hl; omega
    have hp : (2 : Int) ^ i ≤ 2 ^ 15 := by exact_mod_cast Nat.pow_le_pow_right (by omega) (by omega)
    have hp2 : (2 : Int) ^ (i + 1) = 2 * 2 ^ i := by rw [Int.pow_succ]; omega
    simp only [codesL, List.mem_append] at hx
    rcases hx with hx | hx
    · have := rowC_mem _ _ _ _ hx
      omega
    · exact ih (i + 1) (2 * next + c.toNat) (fun y hy => h y (by simp [hy])) (by omega) (by omega) hl' x (by simpa using hx)
theorem codesOf_mem {cnt : List Int} (h : cntOk cnt) (hl : cnt.length = 16) : ∀ x ∈ codesOf cnt, 1 ≤ x.1 ∧ x.1 ≤ 16 ∧ 0 ≤ x.2 ∧ x.2 ≤ 16777216 := fun x hx => codesL_mem cnt 0 0 h (by omega) (by omega) (by omega) x hx

/-! ### What may be -/
def cntSum : List Int → Int → Option Int
  | [], a => some a
  | c :: r, a => if c < 0 ∨ 255 < c then none else cntSum r (a + c)
theorem cntSum_some : ∀ (l : List Int) (a b : Int), cntSum l a = some b → cntOk l ∧ b = a + sumC l := by
  intro l
  induction l with
  | nil => intro a b h; simp [cntSum] at h; exact ⟨fun _ h => by simp at h, by simp [sumC, h]⟩
  | cons c l ih =>
    intro a b h
    simp only [cntSum] at h
    split at h
    · cases h
    · rename_i hc
      obtain ⟨h1, h2⟩ := ih _ _ h
      refine ⟨fun x hx => ?_, by simp only [sumC]; omega⟩
      rcases List.mem_cons.1 hx with rfl | hx
      · omega
      · exact h1 x hx

def seenGo : List Int → List (Int × Int) → List Bool → Bool
  | v :: vs, (n, c) :: r, seen => if seen.getD v.toNat false = true ∨ 2 ^ n.toNat - 1 ≤ c then false else seenGo vs r (seen.set v.toNat true)
  | _, _, _ => true
def checkT (t : Tab) : Bool :=
  match cntSum t.cnt 0 with
  | none => false
  | some a => if a ≠ t.vals.length ∨ 256 < a then false else seenGo t.vals (codesOf t.cnt) (List.replicate 256 false)

theorem giveL_still (n : Nat) (c : Co) : ∀ (vs : List V), stillL vs = true → ∀ m, vs.length < m → 0 < n → giveL (m + n) c vs = some vs := by
  intro vs
  induction vs with
  | nil => intro _ m h hn; rw [show m + n = (m + n - 1) + 1 from by omega]; simp only [giveL]
  | cons v r ih =>
    intro h m hm hn
    simp only [stillL, Bool.and_eq_true] at h
    simp only [List.length_cons] at hm
    rw [show m + n = (m - 1 + n) + 1 from by omega]
    simp only [giveL]
    rw [show m - 1 + n = (m - 1 + n - 1) + 1 from by omega]
    simp only [give, h.1, if_true, Option.bind_some]
    rw [show m - 1 + n - 1 + 1 = (m - 1) + n from by omega]
    rw [ih h.2 (m - 1) (by omega) hn]; rfl
theorem giveL_same (n : Nat) (c : Co) (vs : List V) (h : stillL vs = true) (hn : vs.length + 1 < n) : giveL n c vs = some vs := by
  have := giveL_still 1 c vs h (n - 1) (by omega) (by omega)
  rwa [show n - 1 + 1 = n from by omega] at this

theorem giveL_ivA (c : Co) (r : List V) : ∀ (l : List Int) (n : Nat), 0 < n → giveL (n + l.length) c (iv l ++ r) = (giveL n c r).map (iv l ++ ·) := by
  intro l
  induction l with
  | nil => intro n _; simp [iv]
  | cons x l ih =>
    intro n hn
    have e : iv (x :: l) = .int .i64 x :: iv l := rfl
    rw [e, List.cons_append, show n + (x :: l).length = (n + l.length) + 1 from by simp; omega, giveL_cons, ih n hn]
    rw [show n + l.length = (n + l.length - 1) + 1 from by omega, give_int]
    cases giveL n c r <;> rfl
theorem giveL_iv (n : Nat) (c : Co) (l : List Int) (r : List V) (h : l.length < n) : giveL n c (iv l ++ r) = (giveL (n - l.length) c r).map (iv l ++ ·) := by
  have := giveL_ivA c r l (n - l.length) (by omega)
  rwa [show n - l.length + l.length = n from by omega] at this
theorem bv_set (l : List Int) (i : Nat) (x : Int) : (bv l).set i [.int .u8 x] = bv (l.set i x) := by simp [bv]
attribute [simp] giveL_iv bv_set
/-- the codes, at their values -/
def codesArr : List Int → List (Int × Int) → List Int → List Int
  | v :: vs, (n, c) :: r, out => codesArr vs r (splI out (v.toNat * 2) [n, c])
  | _, _, out => out
def codesT (t : Tab) : List Int := if checkT t then codesArr t.vals (codesOf t.cnt) (rep 512 0) else rep 512 0
theorem codesArr_length : ∀ (vs : List Int) (cs : List (Int × Int)) (out : List Int), (∀ v ∈ vs, 0 ≤ v ∧ v < 256) → out.length = 512 → (codesArr vs cs out).length = 512 := by
  intro vs
  induction vs with
  | nil => intro cs out _ h; exact h
  | cons v vs ih =>
    intro cs out hv h
    cases cs with
    | nil => exact h
    | cons x cs =>
      have h1 := hv v (by simp)
      exact ih cs _ (fun y hy => hv y (by simp [hy])) (by rw [splI_length _ _ _ (by simp; omega)]; exact h)
theorem codesT_length (t : Tab) (h : t.Ok) : (codesT t).length = 512 := by
  unfold codesT
  split
  · exact codesArr_length _ _ _ h.vals (by simp)
  · simp
theorem checkT_spec {t : Tab} (h : checkT t = true) : cntOk t.cnt ∧ sumC t.cnt = t.vals.length ∧ t.vals.length ≤ 256 ∧ seenGo t.vals (codesOf t.cnt) (rep 256 false) = true := by
  unfold checkT at h
  cases hc : cntSum t.cnt 0 with
  | none => rw [hc] at h; cases h
  | some a =>
    rw [hc] at h
    simp only at h
    split at h
    · cases h
    · rename_i hn
      obtain ⟨h1, h2⟩ := cntSum_some _ _ _ hc
      exact ⟨h1, by omega, by omega, h⟩

theorem pow_bd (n : Nat) (h : n ≤ 16) : 1 ≤ (2 : Int) ^ n ∧ (2 : Int) ^ n ≤ 65536 := by
  have h1 : (2 : Nat) ^ n ≤ 2 ^ 16 := Nat.pow_le_pow_right (by omega) h
  have h2 : 1 ≤ (2 : Nat) ^ n := Nat.one_le_two_pow
  have e : (2 : Int) ^ n = ((2 ^ n : Nat) : Int) := by simp
  omega
theorem shl_one (n : Int) (h : 0 ≤ n ∧ n ≤ 16) : IntKind.i64.wrap (2 ^ min n.toNat IntKind.i64.bits) = 2 ^ n.toNat := by
  have h1 : min n.toNat IntKind.i64.bits = n.toNat := Nat.min_eq_left (by simp [IntKind.bits]; omega)
  rw [h1]
  have := pow_bd n.toNat (by omega)
  exact wrap_in _ (by omega) (by omega)
attribute [simp high] giveL_same
end Go.Ai

namespace Go.Ai
open Go Go.Proofs
set_option maxRecDepth 100000

def nav : Code → List Nat → Code
  | c, [] => c
  | .seq a b, i :: r => if i = 0 then nav a r else nav b r
  | .cond _ a b, i :: r => if i = 0 then nav a r else nav b r
  | .rangeFunc _ _ a b, i :: r => if i = 0 then nav a r else nav b r
  | .block _ c, _ :: r => nav c r
  | .loop c, _ :: r => nav c r
  | c, _ => c

theorem ty2 : ty Try.prog 2 = some ⟨1, false, 8, [.int .i64 0], 0, 0, 0, false, false, 0, [], some .i64, false, false, false⟩ := by kernel_rfl
theorem ty3 : ty Try.prog 3 = some ⟨1, false, 8, [.int .i64 0], 0, 0, 0, false, false, 0, [], some .i64, false, false, false⟩ := by kernel_rfl
theorem ty4 : ty Try.prog 4 = some ⟨1, false, 1, [.bool false], 0, 0, 0, false, false, 0, [], none, false, true, false⟩ := by kernel_rfl
theorem ty5 : ty Try.prog 5 = some ⟨1, false, 1, [.int .u8 0], 0, 0, 0, false, false, 0, [], some .u8, false, false, false⟩ := by kernel_rfl
theorem ty9 : ty Try.prog 9 = some ⟨1, false, 16, [.str []], 0, 0, 0, false, false, 0, [], none, true, false, false⟩ := by kernel_rfl
theorem ty22 : ty Try.prog 22 = some ⟨16, true, 128, iv (rep 16 0), 3, 1, 8, false, true, 16, [], none, false, false, false⟩ := by kernel_rfl
theorem ty23 : ty Try.prog 23 = some ⟨1, false, 24, [.sl false true 0 []], 5, 1, 1, true, false, 0, [], none, false, false, false⟩ := by kernel_rfl
theorem ty25 : ty Try.prog 25 = some ⟨17, true, 152, iv (rep 16 0) ++ [.sl false true 0 []], 0, 0, 0, false, false, 0, [(0, 16), (16, 1)], none, false, false, false⟩ := by kernel_rfl
theorem ty33 : ty Try.prog 33 = some ⟨2, true, 16, [.int .i64 0, .int .i64 0], 0, 0, 0, false, false, 0, [(0, 1), (1, 1)], none, false, false, false⟩ := by kernel_rfl
theorem ty34 : ty Try.prog 34 = some ⟨512, true, 4096, iv (rep 512 0), 33, 2, 16, false, true, 256, [], none, false, false, false⟩ := by kernel_rfl
theorem ty38 : ty Try.prog 38 = some ⟨1, false, 8, [.int .u64 0], 0, 0, 0, false, false, 0, [], some .u64, false, false, false⟩ := by kernel_rfl
theorem ty40 : ty Try.prog 40 = some ⟨1, false, 2, [.int .u16 0], 0, 0, 0, false, false, 0, [], some .u16, false, false, false⟩ := by kernel_rfl
theorem ty47 : ty Try.prog 47 = some ⟨2, true, 16, [.int .i64 0, .int .i64 0], 0, 0, 0, false, false, 0, [(0, 1), (1, 1)], none, false, false, false⟩ := by kernel_rfl
theorem ty53 : ty Try.prog 53 = some ⟨256, true, 256, lb (rep 256 false), 4, 1, 1, false, true, 256, [], none, false, false, false⟩ := by kernel_rfl
theorem ty55 : ty Try.prog 55 = some ⟨1, true, 8, [.int .i64 0], 0, 0, 0, false, false, 0, [(0, 1)], none, false, false, false⟩ := by kernel_rfl
theorem ty63 : ty Try.prog 63 = some ⟨1, false, 8, [.nilp], 0, 0, 0, false, false, 0, [], none, false, false, true⟩ := by kernel_rfl
theorem ty64 : ty Try.prog 64 = some ⟨1, false, 24, [.sl false true 0 []], 3, 1, 8, true, false, 0, [], none, false, false, false⟩ := by kernel_rfl
theorem ty70 : ty Try.prog 70 = some ⟨1, false, 24, [.sl false true 0 []], 73, 1, 24, true, false, 0, [], none, false, false, false⟩ := by kernel_rfl
theorem ty72 : ty Try.prog 72 = some ⟨1, true, 24, [.sl false true 0 []], 0, 0, 0, false, false, 0, [(0, 1)], none, false, false, false⟩ := by kernel_rfl
theorem ty73 : ty Try.prog 73 = some ⟨1, false, 24, [.sl false true 0 []], 74, 1, 4, true, false, 0, [], none, false, false, false⟩ := by kernel_rfl
theorem ty74 : ty Try.prog 74 = some ⟨1, false, 4, [.int .u32 0], 0, 0, 0, false, false, 0, [], some .u32, false, false, false⟩ := by kernel_rfl
theorem ty75 : ty Try.prog 75 = some ⟨1, false, 8, [.int .u64 0], 0, 0, 0, false, false, 0, [], some .u64, false, false, false⟩ := by kernel_rfl
theorem at3 : Try.prog.funcs[3]? = some Try.f3 := by kernel_rfl
theorem en3 : Enters Try.prog 3 := ⟨Try.f3, at3, by kernel_rfl, by kernel_rfl⟩
noncomputable def b3 : Code := Try.f3.body.getD .skip
theorem bd3 : Try.f3.body = some b3 := by kernel_rfl
theorem at4 : Try.prog.funcs[4]? = some Try.f4 := by kernel_rfl
theorem en4 : Enters Try.prog 4 := ⟨Try.f4, at4, by kernel_rfl, by kernel_rfl⟩
noncomputable def b4 : Code := Try.f4.body.getD .skip
noncomputable def lp4_5 : Code := nav b4 [1, 1, 1, 1, 0, 1, 0]
noncomputable def lp4_12 : Code := nav b4 [1, 1, 1, 1, 1, 1, 0, 1, 0]
theorem bd4 : Try.f4.body = some b4 := by kernel_rfl
theorem at5 : Try.prog.funcs[5]? = some Try.f5 := by kernel_rfl
theorem en5 : Enters Try.prog 5 := ⟨Try.f5, at5, by kernel_rfl, by kernel_rfl⟩
noncomputable def b5 : Code := Try.f5.body.getD .skip
noncomputable def lp5_4 : Code := nav b5 [1, 1, 1, 0, 1, 0]
theorem bd5 : Try.f5.body = some b5 := by kernel_rfl
theorem at6 : Try.prog.funcs[6]? = some Try.f6 := by kernel_rfl
theorem en6 : Enters Try.prog 6 := ⟨Try.f6, at6, by kernel_rfl, by kernel_rfl⟩
noncomputable def b6 : Code := Try.f6.body.getD .skip
noncomputable def lp6_12 : Code := nav b6 [1, 1, 1, 1, 1, 1, 1, 1, 1, 1, 0, 1, 0]
theorem bd6 : Try.f6.body = some b6 := by kernel_rfl
theorem at7 : Try.prog.funcs[7]? = some Try.f7 := by kernel_rfl
theorem en7 : Enters Try.prog 7 := ⟨Try.f7, at7, by kernel_rfl, by kernel_rfl⟩
noncomputable def b7 : Code := Try.f7.body.getD .skip
noncomputable def lp7_6 : Code := nav b7 [1, 1, 1, 1, 0, 1, 0]
theorem bd7 : Try.f7.body = some b7 := by kernel_rfl
theorem at8 : Try.prog.funcs[8]? = some Try.f8 := by kernel_rfl
theorem en8 : Enters Try.prog 8 := ⟨Try.f8, at8, by kernel_rfl, by kernel_rfl⟩
noncomputable def b8 : Code := Try.f8.body.getD .skip
theorem bd8 : Try.f8.body = some b8 := by kernel_rfl
theorem at9 : Try.prog.funcs[9]? = some Try.f9 := by kernel_rfl
theorem en9 : Enters Try.prog 9 := ⟨Try.f9, at9, by kernel_rfl, by kernel_rfl⟩
noncomputable def b9 : Code := Try.f9.body.getD .skip
theorem bd9 : Try.f9.body = some b9 := by kernel_rfl
theorem at10 : Try.prog.funcs[10]? = some Try.f10 := by kernel_rfl
theorem en10 : Enters Try.prog 10 := ⟨Try.f10, at10, by kernel_rfl, by kernel_rfl⟩
noncomputable def b10 : Code := Try.f10.body.getD .skip
theorem bd10 : Try.f10.body = some b10 := by kernel_rfl
theorem at11 : Try.prog.funcs[11]? = some Try.f11 := by kernel_rfl
theorem en11 : Enters Try.prog 11 := ⟨Try.f11, at11, by kernel_rfl, by kernel_rfl⟩
noncomputable def b11 : Code := Try.f11.body.getD .skip
theorem bd11 : Try.f11.body = some b11 := by kernel_rfl
theorem at12 : Try.prog.funcs[12]? = some Try.f12 := by kernel_rfl
theorem en12 : Enters Try.prog 12 := ⟨Try.f12, at12, by kernel_rfl, by kernel_rfl⟩
noncomputable def b12 : Code := Try.f12.body.getD .skip
noncomputable def lp12_5 : Code := nav b12 [1, 1, 1, 1, 0, 1, 0]
noncomputable def lp12_13 : Code := nav b12 [1, 1, 1, 1, 0, 1, 0, 0, 1, 0, 0, 1, 1, 1, 1, 1, 0]
theorem bd12 : Try.f12.body = some b12 := by kernel_rfl
theorem at13 : Try.prog.funcs[13]? = some Try.f13 := by kernel_rfl
theorem en13 : Enters Try.prog 13 := ⟨Try.f13, at13, by kernel_rfl, by kernel_rfl⟩
noncomputable def b13 : Code := Try.f13.body.getD .skip
theorem bd13 : Try.f13.body = some b13 := by kernel_rfl
theorem at14 : Try.prog.funcs[14]? = some Try.f14 := by kernel_rfl
theorem en14 : Enters Try.prog 14 := ⟨Try.f14, at14, by kernel_rfl, by kernel_rfl⟩
noncomputable def b14 : Code := Try.f14.body.getD .skip
theorem bd14 : Try.f14.body = some b14 := by kernel_rfl
theorem at15 : Try.prog.funcs[15]? = some Try.f15 := by kernel_rfl
theorem en15 : Enters Try.prog 15 := ⟨Try.f15, at15, by kernel_rfl, by kernel_rfl⟩
noncomputable def b15 : Code := Try.f15.body.getD .skip
noncomputable def rf15_5 : Code := nav b15 [1, 1, 1, 0, 1, 0]
theorem bd15 : Try.f15.body = some b15 := by kernel_rfl
theorem at16 : Try.prog.funcs[16]? = some Try.f16 := by kernel_rfl
theorem en16 : Enters Try.prog 16 := ⟨Try.f16, at16, by kernel_rfl, by kernel_rfl⟩
noncomputable def b16 : Code := Try.f16.body.getD .skip
noncomputable def lp16_3 : Code := nav b16 [1, 1, 0, 1, 0]
noncomputable def rf16_13 : Code := nav b16 [1, 1, 1, 1, 1, 0, 1, 0]
theorem bd16 : Try.f16.body = some b16 := by kernel_rfl
theorem at17 : Try.prog.funcs[17]? = some Try.f17 := by kernel_rfl
theorem en17 : Enters Try.prog 17 := ⟨Try.f17, at17, by kernel_rfl, by kernel_rfl⟩
noncomputable def b17 : Code := Try.f17.body.getD .skip
noncomputable def rf17_4 : Code := nav b17 [1, 1, 0, 1, 0]
theorem bd17 : Try.f17.body = some b17 := by kernel_rfl
theorem at18 : Try.prog.funcs[18]? = some Try.f18 := by kernel_rfl
theorem en18 : Enters Try.prog 18 := ⟨Try.f18, at18, by kernel_rfl, by kernel_rfl⟩
noncomputable def b18 : Code := Try.f18.body.getD .skip
theorem bd18 : Try.f18.body = some b18 := by kernel_rfl
theorem at19 : Try.prog.funcs[19]? = some Try.f19 := by kernel_rfl
theorem en19 : Enters Try.prog 19 := ⟨Try.f19, at19, by kernel_rfl, by kernel_rfl⟩
noncomputable def b19 : Code := Try.f19.body.getD .skip
theorem bd19 : Try.f19.body = some b19 := by kernel_rfl
theorem at20 : Try.prog.funcs[20]? = some Try.f20 := by kernel_rfl
theorem en20 : Enters Try.prog 20 := ⟨Try.f20, at20, by kernel_rfl, by kernel_rfl⟩
noncomputable def b20 : Code := Try.f20.body.getD .skip
theorem bd20 : Try.f20.body = some b20 := by kernel_rfl
theorem at21 : Try.prog.funcs[21]? = some Try.f21 := by kernel_rfl
theorem en21 : Enters Try.prog 21 := ⟨Try.f21, at21, by kernel_rfl, by kernel_rfl⟩
noncomputable def b21 : Code := Try.f21.body.getD .skip
theorem bd21 : Try.f21.body = some b21 := by kernel_rfl
theorem at22 : Try.prog.funcs[22]? = some Try.f22 := by kernel_rfl
theorem en22 : Enters Try.prog 22 := ⟨Try.f22, at22, by kernel_rfl, by kernel_rfl⟩
noncomputable def b22 : Code := Try.f22.body.getD .skip
noncomputable def lp22_5 : Code := nav b22 [1, 1, 1, 1, 0, 1, 0]
noncomputable def lp22_18 : Code := nav b22 [1, 1, 1, 1, 1, 1, 0, 1, 0]
noncomputable def lp22_21 : Code := nav b22 [1, 1, 1, 1, 1, 1, 0, 1, 0, 0, 1, 0, 0, 1, 0]
theorem bd22 : Try.f22.body = some b22 := by kernel_rfl
theorem at23 : Try.prog.funcs[23]? = some Try.f23 := by kernel_rfl
theorem en23 : Enters Try.prog 23 := ⟨Try.f23, at23, by kernel_rfl, by kernel_rfl⟩
noncomputable def b23 : Code := Try.f23.body.getD .skip
noncomputable def lp23_7 : Code := nav b23 [1, 1, 1, 1, 1, 0, 1, 0]
noncomputable def lp23_11 : Code := nav b23 [1, 1, 1, 1, 1, 0, 1, 0, 0, 1, 0, 0, 1, 1, 0]
theorem bd23 : Try.f23.body = some b23 := by kernel_rfl
theorem at24 : Try.prog.funcs[24]? = some Try.f24 := by kernel_rfl
theorem en24 : Enters Try.prog 24 := ⟨Try.f24, at24, by kernel_rfl, by kernel_rfl⟩
noncomputable def b24 : Code := Try.f24.body.getD .skip
theorem bd24 : Try.f24.body = some b24 := by kernel_rfl
theorem at25 : Try.prog.funcs[25]? = some Try.f25 := by kernel_rfl
theorem en25 : Enters Try.prog 25 := ⟨Try.f25, at25, by kernel_rfl, by kernel_rfl⟩
noncomputable def b25 : Code := Try.f25.body.getD .skip
noncomputable def lp25_5 : Code := nav b25 [1, 1, 1, 0, 1, 0]
theorem bd25 : Try.f25.body = some b25 := by kernel_rfl
theorem at26 : Try.prog.funcs[26]? = some Try.f26 := by kernel_rfl
theorem en26 : Enters Try.prog 26 := ⟨Try.f26, at26, by kernel_rfl, by kernel_rfl⟩
noncomputable def b26 : Code := Try.f26.body.getD .skip
noncomputable def rf26_5 : Code := nav b26 [1, 1, 1, 0, 1, 0]
theorem bd26 : Try.f26.body = some b26 := by kernel_rfl
theorem at27 : Try.prog.funcs[27]? = some Try.f27 := by kernel_rfl
theorem en27 : Enters Try.prog 27 := ⟨Try.f27, at27, by kernel_rfl, by kernel_rfl⟩
noncomputable def b27 : Code := Try.f27.body.getD .skip
theorem bd27 : Try.f27.body = some b27 := by kernel_rfl
theorem at28 : Try.prog.funcs[28]? = some Try.f28 := by kernel_rfl
theorem en28 : Enters Try.prog 28 := ⟨Try.f28, at28, by kernel_rfl, by kernel_rfl⟩
noncomputable def b28 : Code := Try.f28.body.getD .skip
theorem bd28 : Try.f28.body = some b28 := by kernel_rfl
theorem at29 : Try.prog.funcs[29]? = some Try.f29 := by kernel_rfl
theorem en29 : Enters Try.prog 29 := ⟨Try.f29, at29, by kernel_rfl, by kernel_rfl⟩
noncomputable def b29 : Code := Try.f29.body.getD .skip
noncomputable def lp29_3 : Code := nav b29 [1, 1, 0, 1, 0]
theorem bd29 : Try.f29.body = some b29 := by kernel_rfl
theorem at30 : Try.prog.funcs[30]? = some Try.f30 := by kernel_rfl
theorem en30 : Enters Try.prog 30 := ⟨Try.f30, at30, by kernel_rfl, by kernel_rfl⟩
noncomputable def b30 : Code := Try.f30.body.getD .skip
noncomputable def lp30_2 : Code := nav b30 [1, 1, 0]
noncomputable def lp30_6 : Code := nav b30 [1, 1, 0, 0, 1, 1, 0, 0, 1, 1, 1, 0]
theorem bd30 : Try.f30.body = some b30 := by kernel_rfl
theorem at31 : Try.prog.funcs[31]? = some Try.f31 := by kernel_rfl
theorem en31 : Enters Try.prog 31 := ⟨Try.f31, at31, by kernel_rfl, by kernel_rfl⟩
noncomputable def b31 : Code := Try.f31.body.getD .skip
theorem bd31 : Try.f31.body = some b31 := by kernel_rfl
theorem at32 : Try.prog.funcs[32]? = some Try.f32 := by kernel_rfl
theorem en32 : Enters Try.prog 32 := ⟨Try.f32, at32, by kernel_rfl, by kernel_rfl⟩
noncomputable def b32 : Code := Try.f32.body.getD .skip
theorem bd32 : Try.f32.body = some b32 := by kernel_rfl
theorem at33 : Try.prog.funcs[33]? = some Try.f33 := by kernel_rfl
theorem en33 : Enters Try.prog 33 := ⟨Try.f33, at33, by kernel_rfl, by kernel_rfl⟩
noncomputable def b33 : Code := Try.f33.body.getD .skip
theorem bd33 : Try.f33.body = some b33 := by kernel_rfl
theorem at34 : Try.prog.funcs[34]? = some Try.f34 := by kernel_rfl
theorem en34 : Enters Try.prog 34 := ⟨Try.f34, at34, by kernel_rfl, by kernel_rfl⟩
noncomputable def b34 : Code := Try.f34.body.getD .skip
theorem bd34 : Try.f34.body = some b34 := by kernel_rfl
theorem at35 : Try.prog.funcs[35]? = some Try.f35 := by kernel_rfl
theorem en35 : Enters Try.prog 35 := ⟨Try.f35, at35, by kernel_rfl, by kernel_rfl⟩
noncomputable def b35 : Code := Try.f35.body.getD .skip
noncomputable def lp35_3 : Code := nav b35 [1, 1, 0, 1, 0]
theorem bd35 : Try.f35.body = some b35 := by kernel_rfl
theorem at36 : Try.prog.funcs[36]? = some Try.f36 := by kernel_rfl
theorem en36 : Enters Try.prog 36 := ⟨Try.f36, at36, by kernel_rfl, by kernel_rfl⟩
noncomputable def b36 : Code := Try.f36.body.getD .skip
theorem bd36 : Try.f36.body = some b36 := by kernel_rfl
theorem at37 : Try.prog.funcs[37]? = some Try.f37 := by kernel_rfl
theorem en37 : Enters Try.prog 37 := ⟨Try.f37, at37, by kernel_rfl, by kernel_rfl⟩
noncomputable def b37 : Code := Try.f37.body.getD .skip
theorem bd37 : Try.f37.body = some b37 := by kernel_rfl
theorem at38 : Try.prog.funcs[38]? = some Try.f38 := by kernel_rfl
theorem en38 : Enters Try.prog 38 := ⟨Try.f38, at38, by kernel_rfl, by kernel_rfl⟩
noncomputable def b38 : Code := Try.f38.body.getD .skip
theorem bd38 : Try.f38.body = some b38 := by kernel_rfl
theorem at39 : Try.prog.funcs[39]? = some Try.f39 := by kernel_rfl
theorem en39 : Enters Try.prog 39 := ⟨Try.f39, at39, by kernel_rfl, by kernel_rfl⟩
noncomputable def b39 : Code := Try.f39.body.getD .skip
theorem bd39 : Try.f39.body = some b39 := by kernel_rfl
theorem mixed : Try.prog.follows .mixedOrders = true := by kernel_rfl
end Go.Ai

namespace Go.Ai
open Go Go.Proofs
set_option maxRecDepth 100000
set_option maxHeartbeats 4000000
set_option linter.unusedSimpArgs false
set_option linter.unusedVariables false
-- TABLES 30
def pr30 : Nat → List Pr
  | 0 => [.keep [0, 1] []]
  | 1 => [.keep [0, 1, 3, 4] []]
  | 2 => [.keep [0, 3, 4, 8, 9] []]
  | 3 => [.keep [0, 3, 4, 8, 9] []]
  | 4 => [.keep [0, 3, 4, 5, 6, 8, 9] []]
  | 5 => [.keep [0, 3, 4, 5, 6, 8, 9] []]
  | 6 => [.keep [0, 3, 4, 5, 8, 9, 15, 16] []]
  | 7 => [.keep [0, 3, 4, 5, 8, 9, 15, 16] []]
  | 8 => [.keep [0, 3, 4, 5, 8, 9, 15, 16] []]
  | 9 => [.keep [0, 3, 4, 5, 8, 9, 15, 16] []]
  | 10 => [.keep [0, 3, 4, 5, 8, 9, 15, 16] []]
  | 11 => [.keep [0, 3, 4, 8, 9] []]
  | _ => []
def dr30 : Nat → Dr
  | _ => ⟨[], [], [], []⟩
def kp30 : List Nat → List Nat
  | _ => []
-- END
attribute [simp] ty3 ty22 ty25 ty33 pr30 dr30 kp30

def cf30 (st : Option Nat) (l : Nat) : Cf := { N := 32, pr := pr30, dr := dr30, C := Cs.none, It := Its.none, kp := kp30, rf := false, stop := st, lid := l }

theorem inner30 (st : Option Nat) (l : Nat) (arr : List Int) (i : Int) (hi : 0 ≤ i ∧ i < 16) (Q : Ex → St → Prop) :
    ∀ (m : Nat) (k at_ next : Int) (out : List (List V)) (s : St), 0 ≤ k → 0 ≤ at_ → 0 ≤ next → k + m ≤ 1000000 → at_ + m ≤ 1000000 → next + m ≤ 1000000000000 →
      ¬ stops st out.length →
      prep (pr30 6) s = ⟨[(0, .yl l), (3, .int .i64 at_), (4, .int .i64 next), (5, .int .i64 i), (8, .agg (iv arr)), (9, .int .i64 i), (15, .int .i64 (k + m)), (16, .int .i64 k)], ⟨[], []⟩, ⟨[], out⟩⟩ →
      (∀ s', prep (pr30 11) s' = ⟨[(0, .yl l), (3, .int .i64 (at_ + m)), (4, .int .i64 (next + m)), (8, .agg (iv arr)), (9, .int .i64 i)], ⟨[], []⟩, ⟨[], out ++ (laidRow (i + 1) m at_ next).map itemV⟩⟩ → ¬ stops st (out ++ (laidRow (i + 1) m at_ next).map itemV).length → Q (.exit 2) s') →
      (∀ s', s'.gl.out = fin st (out ++ (laidRow (i + 1) m at_ next).map itemV) → stops st (out ++ (laidRow (i + 1) m at_ next).map itemV).length → Q .ret s') →
      wpA Try.prog (cf30 st l) lp30_6 s Q := by
  intro m
  induction m with
  | zero =>
    intro k at_ next out s h1 h2 h3 h4 h5 h6 hst hs hA hB
    unfold lp30_6
    simp only [b30, Try.f30, nav, Option.getD_some, if_true, if_false, Nat.reduceEqDiff]
    rw [wpA_loop]
    simp only [pr30] at hs
    simp [cf30, hs]
    exact hA _ (by simp [laidRow]) (by simpa [laidRow] using hst)
  | succ m ih =>
    intro k at_ next out s h1 h2 h3 h4 h5 h6 hst hs hA hB
    unfold lp30_6
    simp only [b30, Try.f30, nav, Option.getD_some, if_true, if_false, Nat.reduceEqDiff]
    rw [wpA_loop]
    simp only [pr30] at hs
    have hlt : k < k + (↑m + 1) := by omega
    have w1 := wrap_in (i + 1) (by omega) (by omega)
    have w2 := wrap_in (k + 1) (by omega) (by omega)
    have w3 := wrap_in (at_ + 1) (by omega) (by omega)
    have w4 := wrap_in (next + 1) (by omega) (by omega)
    simp [cf30, hs, hlt, w1, w2, w3, w4]
    constructor
    · intro he
      refine hB _ ?_ ⟨_, he, by simp [laidRow]⟩
      simp only [laidRow, List.map_cons]
      rw [fin_at he]; rfl
    · intro hne
      refine ih (k + 1) (at_ + 1) (next + 1) (out ++ [itemV (at_, i + 1, next)]) _ (by omega) (by omega) (by omega) (by omega) (by omega) (by omega) (by simpa using stops_step hst hne) ?_ ?_ ?_
      · simp [pr30, itemV]; omega
      · intro s' hs' hl
        refine hA s' ?_ ?_
        · rw [hs']; simp [laidRow]; omega
        · simpa [laidRow] using hl
      · intro s' ho hl
        refine hB s' ?_ (by simpa [laidRow] using hl)
        rw [ho]; simp [laidRow]

theorem outer30 (st : Option Nat) (l : Nat) (arr : List Int) (harr : arr.length = 16) (hok : cntOk arr) (Q : Ex → St → Prop) :
    ∀ (r : List Int) (i : Nat) (at_ next : Int) (out : List (List V)) (s : St), arr.drop i = r → i ≤ 16 → 0 ≤ at_ → at_ ≤ 255 * i → 0 ≤ next → next ≤ 255 * (2 ^ i - 1) →
      ¬ stops st out.length →
      prep (pr30 2) s = ⟨[(0, .yl l), (3, .int .i64 at_), (4, .int .i64 next), (8, .agg (iv arr)), (9, .int .i64 i)], ⟨[], []⟩, ⟨[], out⟩⟩ →
      (∀ s', s'.gl.out = out ++ (laidL r (i + 1) at_ next).map itemV → ¬ stops st (out ++ (laidL r (i + 1) at_ next).map itemV).length → Q (.exit 0) s') →
      (∀ s', s'.gl.out = fin st (out ++ (laidL r (i + 1) at_ next).map itemV) → stops st (out ++ (laidL r (i + 1) at_ next).map itemV).length → Q .ret s') →
      wpA Try.prog (cf30 st l) lp30_2 s Q := by
  intro r
  induction r with
  | nil =>
    intro i at_ next out s hd hi h1 h2 h3 h4 hst hs hA hB
    have hi' : i = 16 := by
      have := congrArg List.length hd
      simp at this; omega
    unfold lp30_2
    simp only [b30, Try.f30, nav, Option.getD_some, if_true, if_false, Nat.reduceEqDiff]
    rw [wpA_loop]
    simp only [pr30] at hs
    simp [cf30, hs, hi']
    exact hA _ (by simp [laidL]) (by simpa [laidL] using hst)
  | cons c r ih =>
    intro i at_ next out s hd hi h1 h2 h3 h4 hst hs hA hB
    have hi' : i < 16 := by
      have := congrArg List.length hd
      simp at this; omega
    have hg : arr[i]? = some c := by
      have := congrArg (·[0]?) hd
      simpa using this
    have hd' : arr.drop (i + 1) = r := by
      rw [← List.drop_drop, hd]; rfl
    have hc := hok c (List.mem_of_getElem? hg)
    have hp : (2 : Int) ^ i ≤ 2 ^ 16 := by exact_mod_cast Nat.pow_le_pow_right (by omega) (by omega)
    have hp2 : (2 : Int) ^ (i + 1) = 2 * 2 ^ i := by rw [Int.pow_succ]; omega
    unfold lp30_2
    simp only [b30, Try.f30, nav, Option.getD_some, if_true, if_false, Nat.reduceEqDiff]
    rw [wpA_loop]
    simp only [pr30] at hs
    have hlt : (i : Int) < 16 := by omega
    have w1 := wrap_in (next * 2) (by omega) (by omega)
    simp [cf30, hs, hlt, hi', hg, w1]
    refine inner30 st l arr i ⟨by omega, by omega⟩ _ c.toNat 0 at_ (2 * next) out _ (by omega) (by omega) (by omega) (by omega) (by omega) (by omega) hst ?_ ?_ ?_
    · simp [pr30]; omega
    · intro s' hs' hl
      simp only [pr30] at hs'
      have w2 := wrap_in (↑i + 1) (by omega) (by omega)
      simp [hs', w2]
      refine ih (i + 1) (at_ + c.toNat) (2 * next + c.toNat) (out ++ (laidRow (i + 1) c.toNat at_ (2 * next)).map itemV) _ hd' (by omega) (by omega) (by omega) (by omega) (by omega) hl ?_ ?_ ?_
      · simp [pr30]
      · intro s2 ho hl2
        exact hA s2 (by rw [ho]; simp [laidL]) (by simpa [laidL] using hl2)
      · intro s2 ho hl2
        exact hB s2 (by rw [ho]; simp [laidL]) (by simpa [laidL] using hl2)
    · intro s' ho hl
      simp
      refine hB s' ?_ (stops_mono hl (by simp [laidL]))
      rw [ho, laidL, List.map_append, ← List.append_assoc, fin_append hl]

def g30 (first caps : List V) : Option (List (List V)) :=
  match first, caps with
  | [], [.ro false cs] => (decTab (.agg cs)).bind fun t => if t.cnt.all fun c => decide (0 ≤ c) && decide (c ≤ 255) then some ((laid t.cnt).map itemV) else none
  | _, _ => none

theorem g30_ok (first caps : List V) (items : List (List V)) (h : g30 first caps = some items) : IterR Try.prog [] 30 first caps items := by
  unfold g30 at h
  split at h <;> try (cases h; done)
  rename_i cs
  simp only [Option.bind_eq_some_iff] at h
  obtain ⟨t, ht, h⟩ := h
  split at h <;> try (cases h; done)
  rename_i hc
  simp only [Option.some.injEq] at h; subst h
  obtain ⟨h1, h2, h3⟩ := decTab_spec ht
  simp only [Tab.enc, V.agg.injEq] at h1; subst h1
  obtain ⟨cnt, nl, vals⟩ := t
  simp only at hc h2 h3 ⊢
  have hok : cntOk cnt := fun c hm => by have := List.all_eq_true.1 hc c hm; simpa using this
  refine iterR_of_wpA mixed (cf := cf30) at30 bd30 (by kernel_rfl) (fun st i => ⟨rfl, rfl, rfl, by kernel_rfl, by simp [cf30], Cs.none_ok _, Its.none_ok _⟩) fun st l => ?_
  simp [b30, Try.f30, nav, cf30, h2, List.take_append_of_le_length]
  refine outer30 st l cnt h2 hok _ cnt 0 0 0 [] _ (by simp) (by omega) (by omega) (by omega) (by omega) (by omega) (stops_zero st) ?_ ?_ ?_
  · simp [pr30]
  · intro s' ho hl
    simp
    rw [ho, fin_whole (by simpa [laid] using hl)]; rfl
  · intro s' ho hl
    simp
    rw [ho]; rfl
end Go.Ai

namespace Go.Ai
open Go Go.Proofs
set_option maxRecDepth 100000
set_option maxHeartbeats 4000000
set_option linter.unusedSimpArgs false
set_option linter.unusedVariables false
set_option pp.deepTerms false
-- TABLES 24 16
def pr24 : Nat → List Pr
  | 0 => [.keep [0] []]
  | 1 => [.keep [1] [1]]
  | _ => []
def dr24 : Nat → Dr
  | _ => ⟨[], [], [], []⟩
def kp24 : List Nat → List Nat
  | _ => []
def pr16 : Nat → List Pr
  | 0 => [.keep [0] []]
  | 1 => [.keep [1, 2] [1, 2]]
  | 2 => [.keep [1, 2, 3] [1, 2]]
  | 3 => [.keep [1, 2, 3, 11, 12] [1, 2]]
  | 4 => [.keep [1, 2, 3, 11, 12] [1, 2]]
  | 5 => [.keep [1, 2, 3, 5, 11, 12] [1, 2]]
  | 6 => [.keep [2] [2]]
  | 7 => [.keep [1, 2, 3, 5, 11, 12] [1, 2]]
  | 8 => [.keep [1, 2, 3, 11, 12] [1, 2]]
  | 9 => [.keep [1, 2, 3] [1, 2]]
  | 10 => [.keep [2] [2]]
  | 11 => [.keep [1, 2] [1, 2]]
  | 12 => [.keep [1, 2, 6] [1, 2, 6]]
  | 13 => [.keep [1, 2, 6, 36, 37] [1, 2, 6]]
  | 14 => [.keep [1, 2, 6, 7, 37] [1, 2, 6]]
  | 15 => [.keep [1, 2, 6, 7, 8] [1, 2, 6, 8]]
  | 16 => [.keep [1, 2, 6, 8, 9] [1, 2, 6, 8]]
  | 17 => [.keep [2] [2]]
  | 18 => [.keep [1, 2, 6, 9] [1, 2, 6]]
  | 19 => [.keep [2] [2]]
  | _ => []
def dr16 : Nat → Dr
  | 16 => ⟨[[], [0], [1, 0], [2, 1, 0], [3, 2, 1, 0], [4, 3, 2, 1, 0], [3, 2, 1, 0], [6, 3, 2, 1, 0], [7, 6, 3, 2, 1, 0], [8, 7, 6, 3, 2, 1, 0], [9, 8, 7, 6, 5, 4, 3, 2, 1, 0], [10, 9, 8, 7, 6, 5, 4, 3, 2, 1, 0]], [], [], []⟩
  | _ => ⟨[], [], [], []⟩
theorem ck16_16 : chkDr (opsAt b16 16) (dr16 16) = true := by kernel_rfl
def kp16 : List Nat → List Nat
  | [36, 37] => [1, 2, 6]
  | _ => []
-- END
attribute [simp] ty4 ty5 ty23 ty53 pr24 dr24 kp24 pr16 dr16 kp16

def cf24 : Cf := { N := 4, pr := pr24, dr := dr24, C := Cs.none, It := Its.none, kp := kp24, rf := true, stop := none, lid := 0 }

def g24 (vs : List V) : Option V :=
  match vs with
  | [v] => (decTab v).map fun t => .fn 30 [] [.ro false (iv t.cnt ++ [.sl false t.nl 1 (bv t.vals)])]
  | _ => none

theorem g24_ok (vs : List V) (r : V) (h : g24 vs = some r) : CallR Try.prog [] 24 vs r := by
  unfold g24 at h
  split at h <;> try (cases h; done)
  rename_i v
  simp only [Option.map_eq_some_iff] at h
  obtain ⟨t, ht, rfl⟩ := h
  obtain ⟨rfl, h2, h3⟩ := decTab_spec ht
  obtain ⟨cnt, nl, vals⟩ := t
  simp only at h2 h3 ⊢
  refine callR_of_wpA mixed (cf := cf24) (ow := false) at24 bd24 (by kernel_rfl) (by simp [cf24]) rfl (Cs.none_ok _) (Its.none_ok _) ?_
  simp [b24, Try.f24, nav, cf24, h2, Tab.enc]
theorem g24_eq (t : Tab) (h : t.Ok) : g24 [.agg (iv t.cnt ++ [.sl false t.nl 1 (bv t.vals)])] = some (.fn 30 [] [.ro false (iv t.cnt ++ [.sl false t.nl 1 (bv t.vals)])]) := by
  have := decTab_enc t h
  unfold Tab.enc at this
  simp only [g24, this, Option.map_some]
theorem g30_eq (t : Tab) (h : t.Ok) (hc : cntOk t.cnt) : g30 [] [.ro false (iv t.cnt ++ [.sl false t.nl 1 (bv t.vals)])] = some ((num 0 (codesOf t.cnt)).map itemV) := by
  have h1 := decTab_enc t h
  unfold Tab.enc at h1
  have h2 : (t.cnt.all fun c => decide (0 ≤ c) && decide (c ≤ 255)) = true := by
    rw [List.all_eq_true]; intro c hm; have := hc c hm; simp [this]
  simp only [g30, h1, Option.bind_some, h2, if_true, laid_num]
end Go.Ai

namespace Go.Ai
open Go Go.Proofs
set_option maxRecDepth 100000
set_option maxHeartbeats 4000000
set_option linter.unusedSimpArgs false
set_option linter.unusedVariables false
set_option pp.deepTerms false

def cf16 : Cf := { N := 57, pr := pr16, dr := dr16, C := Cs.none.add 24 g24, It := Its.none.add 30 g30, kp := kp16, rf := true, stop := none, lid := 0 }

/-- the table, boxed -/
def tabO (t : Tab) : Obj := ⟨false, false, 25, 17, [iv t.cnt ++ [.sl false t.nl 1 (bv t.vals)]]⟩
@[simp] theorem tabO_row (t : Tab) : (tabO t).row = false := rfl
@[simp] theorem tabO_sz (t : Tab) : (tabO t).sz = 17 := rfl
@[simp] theorem tabO_es (t : Tab) : (tabO t).es = [iv t.cnt ++ [.sl false t.nl 1 (bv t.vals)]] := rfl
@[simp] theorem tabO_kill (ks : List Nat) (t : Tab) : (tabO t).kill ks = tabO t := by simp [tabO]
@[simp] theorem tabO_ren (k k' : Nat) (t : Tab) : (tabO t).ren k k' = tabO t := by simp [tabO]
@[simp] theorem tabO_frz (k : Nat) (o : Obj) (t : Tab) : (tabO t).frz k o = tabO t := by simp [tabO]

theorem cnt16 (t : Tab) (h : t.Ok) (Q : Ex → St → Prop) :
    ∀ (r : List Int) (i : Nat) (all : Int) (s : St), t.cnt.drop i = r → i ≤ 16 → 0 ≤ all → all ≤ 255 * i →
      prep (pr16 3) s = ⟨[(1, .ptr 1 17 0 0), (2, .ptr 2 1 0 0), (3, .int .i64 all), (11, .agg (iv t.cnt)), (12, .int .i64 i)], ⟨[(1, tabO t), (2, ⟨false, false, 4, 1, [[.bool false]]⟩)], []⟩, ⟨[], []⟩⟩ →
      (∀ s' a, cntSum r all = some a → prep (pr16 9) s' = ⟨[(1, .ptr 1 17 0 0), (2, .ptr 2 1 0 0), (3, .int .i64 a)], ⟨[(1, tabO t), (2, ⟨false, false, 4, 1, [[.bool false]]⟩)], []⟩, ⟨[], []⟩⟩ → Q (.exit 0) s') →
      (∀ s', cntSum r all = none → endQ Try.prog Try.f16 false (.bool false) .ret s' → Q .ret s') →
      wpA Try.prog cf16 lp16_3 s Q := by
  intro r
  induction r with
  | nil =>
    intro i all s hd hi h1 h2 hs hA hB
    have hi' : i = 16 := by
      have := congrArg List.length hd
      have := h.cnt
      simp at *; omega
    unfold lp16_3
    simp only [b16, Try.f16, nav, Option.getD_some, if_true, if_false, Nat.reduceEqDiff]
    rw [wpA_loop]
    simp only [pr16] at hs
    simp [cf16, hs, hi']
    exact hA _ all rfl (by simp)
  | cons c r ih =>
    intro i all s hd hi h1 h2 hs hA hB
    have hi' : i < 16 := by
      have := congrArg List.length hd
      have := h.cnt
      simp at *; omega
    have hg : t.cnt[i]? = some c := by
      have := congrArg (·[0]?) hd
      simpa using this
    have hd' : t.cnt.drop (i + 1) = r := by
      rw [← List.drop_drop, hd]; rfl
    unfold lp16_3
    simp only [b16, Try.f16, nav, Option.getD_some, if_true, if_false, Nat.reduceEqDiff]
    rw [wpA_loop]
    simp only [pr16] at hs
    have hlt : (i : Int) < 16 := by omega
    by_cases hc : c < 0
    · simp [cf16, hs, hlt, hi', hg, hc]
      exact hB _ (by simp [cntSum, hc]) (by simp [Try.f16])
    · have w1 := wrap_in (all + c) (by omega)
      have w2 := wrap_in (↑i + 1) (by omega) (by omega)
      simp [cf16, hs, hlt, hi', hg, hc, w2]
      constructor
      · intro h255
        exact hB _ (by simp [cntSum, h255]) (by simp [Try.f16])
      · intro h255
        refine ih (i + 1) (all + c) _ hd' (by omega) (by omega) (by omega) ?_ ?_ ?_
        · simp [pr16, w1 (by omega)]
        · intro s' a ha hs'
          refine hA s' a ?_ hs'
          simp only [cntSum]; rw [if_neg (by omega)]; exact ha
        · intro s' ha he
          refine hB s' ?_ he
          simp only [cntSum]; rw [if_neg (by omega)]; exact ha

/-- the rounds: a value is seen, or its code is none -/
theorem rounds16 (t : Tab) (h : t.Ok) (Q : Ex → St → Prop) :
    ∀ (cs : List (Int × Int)) (k : Nat) (seen : List Bool) (ob : List (Nat × Obj)) (z : List Nat), k + cs.length ≤ t.vals.length → (∀ x ∈ cs, 1 ≤ x.1 ∧ x.1 ≤ 16 ∧ 0 ≤ x.2 ∧ x.2 ≤ 16777216) → seen.length = 256 →
      lk ob 1 = some (tabO t) → lk ob 2 = some ⟨false, false, 4, 1, [[.bool false]]⟩ → lk ob 6 = some ⟨false, false, 53, 256, [lb seen]⟩ →
      (∀ s', seenGo (t.vals.drop k) cs seen = true → s'.σ = [(1, .ptr 1 17 0 0), (2, .ptr 2 1 0 0), (6, .ptr 6 256 0 0)] → lk s'.co.ob 2 = some ⟨false, false, 4, 1, [[.bool false]]⟩ → s'.gl = ⟨[], []⟩ → Q .normal s') →
      (∀ s', seenGo (t.vals.drop k) cs seen = false → endQ Try.prog Try.f16 false (.bool false) .ret s' → Q .ret s') →
      roundsQ Try.prog cf16 (nav rf16_13 [0]) (nav rf16_13 [1]) [36, 37] [1, 2, 6] Q ((num k cs).map itemV) ⟨[(1, .ptr 1 17 0 0), (2, .ptr 2 1 0 0), (6, .ptr 6 256 0 0)], ⟨ob, z⟩, ⟨[], []⟩⟩ := by
  intro cs
  induction cs with
  | nil =>
    intro k seen ob z _ _ _ h1 h2 h3 hA hB
    simp [num]
    exact hA _ (by cases h : t.vals.drop k <;> rfl) rfl h2 rfl
  | cons x cs ih =>
    intro k seen ob z hk hx hseen h1 h2 h3 hA hB
    obtain ⟨n, c⟩ := x
    have hxx := hx (n, c) (by simp)
    have hlt : k < t.vals.length := by simp at hk; omega
    obtain ⟨v, hv⟩ : ∃ v, t.vals[k]? = some v := ⟨t.vals[k], by simp [hlt]⟩
    have hvr := h.vals v (List.mem_of_getElem? hv)
    have hd : t.vals.drop k = v :: t.vals.drop (k + 1) := by
      rw [List.drop_eq_getElem_cons hlt]
      rw [List.getElem?_eq_getElem hlt] at hv
      rw [Option.some.inj hv]
    simp only [num, List.map_cons, itemV, roundsQ]
    refine ⟨rfl, ?_⟩
    simp only [rf16_13, b16, Try.f16, nav, Option.getD_some, if_true, if_false, Nat.reduceEqDiff]
    have hc16 := h.cnt
    have hvn : v.toNat < 256 := by omega
    obtain ⟨b, hb⟩ : ∃ b, seen[v.toNat]? = some b := ⟨seen[v.toNat], by simp [hseen, hvn]⟩
    have hbd : seen.getD v.toNat false = b := by rw [List.getD_eq_getElem?_getD, hb]; rfl
    cases b with
    | true =>
      simp [cf16, h1, h2, h3, hv, hc16, hvr, hb]
      refine ⟨by kernel_rfl, ?_⟩
      refine hB _ ?_ ?_
      · rw [hd, seenGo, if_pos (.inl hbd)]
      · simp [Try.f16]
    | false =>
      have hn0 : ¬ n < 0 := by omega
      have e1 := shl_one n (by omega)
      have e2 := pow_bd n.toNat (by omega)
      have e3 := wrap_in (2 ^ n.toNat - 1) (by omega) (by omega)
      have hv5 : v ≤ 255 := by omega
      simp (maxSteps := 2000000) [cf16, h1, h2, h3, hv, hc16, hvr, hb, hn0, e1, e3, hv5]
      refine ⟨by kernel_rfl, fun hc => ?_, fun hc => ?_⟩
      · refine hB _ ?_ ?_
        · rw [hd, seenGo, if_pos (.inr hc)]
        · simp [Try.f16]
      · refine ih (k + 1) (seen.set v.toNat true) _ _ (by simp at hk; omega) (fun y hy => hx y (by simp [hy])) (by simpa using hseen) (by simp [lk, tabO]) (by simp [lk]) (by simp [lk]) ?_ ?_
        · intro s' hg
          refine hA s' ?_
          rw [hd, seenGo, if_neg (by rw [hbd]; simp; omega)]; exact hg
        · intro s' hg
          refine hB s' ?_
          rw [hd, seenGo, if_neg (by rw [hbd]; simp; omega)]; exact hg

def g16 (vs : List V) : Option V :=
  match vs with
  | [v] => (decTab v).map fun t => .bool (checkT t)
  | _ => none

theorem g16_ok (vs : List V) (r : V) (h : g16 vs = some r) : CallR Try.prog [] 16 vs r := by
  unfold g16 at h
  split at h <;> try (cases h; done)
  rename_i v
  simp only [Option.map_eq_some_iff] at h
  obtain ⟨t, ht, rfl⟩ := h
  obtain ⟨rfl, h0⟩ := decTab_spec ht
  have h2 := h0.cnt
  refine callR_of_wpA mixed (cf := cf16) (ow := false) at16 bd16 (by kernel_rfl) (by simp [cf16]) rfl (Cs.add_ok (Cs.none_ok _) en24 g24_ok) (Its.add_ok (Its.none_ok _) en30 g30_ok) ?_
  simp only [b16, nav, Option.getD_some, if_true, if_false, Nat.reduceEqDiff]
  generalize hE : endQ Try.prog Try.f16 false (.bool (checkT t)) = E
  simp only [Try.f16, Option.getD_some, Tab.enc]
  simp [cf16, h2]
  refine cnt16 t h0 _ t.cnt 0 0 _ (by simp) (by omega) (by omega) (by omega) (by simp [pr16, tabO]) ?_ ?_
  · intro s' a ha hs'
    obtain ⟨hok, hsum⟩ := cntSum_some _ _ _ ha
    have hg24 := g24_eq t h0
    simp only [pr16] at hs'
    by_cases hne : a = t.vals.length
    · simp [hs', hne, h2, hg24]
      have hck : checkT t = if 256 < a then false else seenGo t.vals (codesOf t.cnt) (rep 256 false) := by
        unfold checkT; rw [ha]; simp [hne, rep]
      constructor
      · intro h256
        rw [← hE, hck, if_pos (by omega)]
        simp [Try.f16]
      · intro h256
        rw [if_neg (by omega)] at hck
        refine wpA_range (items := (num 0 (codesOf t.cnt)).map itemV) (by simp; exact ⟨rfl, rfl, rfl⟩) (by kernel_rfl) (by simp [g30_eq t h0 hok]) ?_
        have hlen := codesL_length t.cnt 1 0 hok
        refine rounds16 t h0 _ (codesOf t.cnt) 0 (rep 256 false) _ _ ?_ (codesOf_mem hok h2) (by simp) (by simp [lk, tabO]) (by simp [lk]) (by simp [lk]) ?_ ?_
        · unfold codesOf; omega
        · intro s2 hg hσ hco hgl
          obtain ⟨σ, ⟨ob, z⟩, gl⟩ := s2
          simp only at hσ hco hgl
          subst hσ hgl
          simp [hco]
          rw [← hE, hck, ← List.drop_zero (l := t.vals), hg]
          simp [Try.f16]
        · intro s2 hg he
          simp
          rw [← hE, hck, ← List.drop_zero (l := t.vals), hg]
          exact he
    · simp [hs', hne, h2]
      have hck : checkT t = false := by
        unfold checkT; rw [ha]; simp [hne]
      rw [← hE, hck]
      simp [Try.f16]
  · intro s' ha he
    have hck : checkT t = false := by
      unfold checkT; rw [ha]
    simp
    rw [← hE, hck]; exact he
theorem g16_eq (t : Tab) (h : t.Ok) : g16 [.agg (iv t.cnt ++ [.sl false t.nl 1 (bv t.vals)])] = some (.bool (checkT t)) := by
  have := decTab_enc t h
  unfold Tab.enc at this
  simp only [g16, this, Option.map_some]
end Go.Ai

namespace Go.Ai
open Go Go.Proofs
set_option maxRecDepth 100000
set_option maxHeartbeats 4000000
set_option linter.unusedSimpArgs false
set_option linter.unusedVariables false
set_option pp.deepTerms false
-- TABLES 15
def pr15 : Nat → List Pr
  | 0 => [.keep [0] []]
  | 1 => [.keep [1, 2] [1, 2]]
  | 2 => [.keep [1, 2, 3] [1, 2, 3]]
  | 3 => [.keep [2, 3] [2, 3]]
  | 4 => [.keep [1, 2, 3] [1, 2, 3]]
  | 5 => [.keep [1, 2, 3, 12, 13] [1, 2, 3]]
  | 6 => [.keep [1, 2, 3, 4, 13] [1, 2, 3]]
  | 7 => [.keep [1, 2, 3, 4, 5] [1, 2, 3, 5]]
  | 8 => [.keep [2, 3] [2, 3]]
  | _ => []
def dr15 : Nat → Dr
  | 7 => ⟨[[], [0], [], [2, 1, 0], [3, 2, 1, 0], [], [5, 4, 3, 2, 1, 0], [6, 5, 4, 3, 2, 1, 0]], [], [(7, [])], []⟩
  | _ => ⟨[], [], [], []⟩
theorem ck15_7 : chkDr (opsAt b15 7) (dr15 7) = true := by kernel_rfl
def kp15 : List Nat → List Nat
  | [12, 13] => [1, 2, 3]
  | _ => []
-- END
attribute [simp] ty34 pr15 dr15 kp15
def C15 : Cs := (Cs.none.add 24 g24).add 16 g16
theorem C15_ok : C15.Ok Try.prog [] := Cs.add_ok (Cs.add_ok (Cs.none_ok _) en24 g24_ok) en16 g16_ok
attribute [simp] C15
def cf15 : Cf := { N := 22, pr := pr15, dr := dr15, C := C15, It := Its.none.add 30 g30, kp := kp15, rf := true, stop := none, lid := 0 }

theorem rounds15 (t : Tab) (h : t.Ok) (Q : Ex → St → Prop) :
    ∀ (cs : List (Int × Int)) (k : Nat) (out : List Int) (ob : List (Nat × Obj)) (z : List Nat), k + cs.length ≤ t.vals.length → out.length = 512 →
      lk ob 1 = some (tabO t) → lk ob 2 = some ⟨false, false, 34, 512, [iv (rep 512 0)]⟩ → lk ob 3 = some ⟨false, false, 34, 512, [iv out]⟩ →
      (∀ s', s'.σ = [(1, .ptr 1 17 0 0), (2, .ptr 2 512 0 0), (3, .ptr 3 512 0 0)] → lk s'.co.ob 2 = some ⟨false, false, 34, 512, [iv (rep 512 0)]⟩ → lk s'.co.ob 3 = some ⟨false, false, 34, 512, [iv (codesArr (t.vals.drop k) cs out)]⟩ → s'.gl = ⟨[], []⟩ → Q .normal s') →
      roundsQ Try.prog cf15 (nav rf15_5 [0]) (nav rf15_5 [1]) [12, 13] [1, 2, 3] Q ((num k cs).map itemV) ⟨[(1, .ptr 1 17 0 0), (2, .ptr 2 512 0 0), (3, .ptr 3 512 0 0)], ⟨ob, z⟩, ⟨[], []⟩⟩ := by
  intro cs
  induction cs with
  | nil =>
    intro k out ob z _ _ h1 h2 h3 hA
    simp [num]
    refine hA _ rfl h2 ?_ rfl
    rw [h3]; cases h : t.vals.drop k <;> rfl
  | cons x cs ih =>
    intro k out ob z hk hout h1 h2 h3 hA
    obtain ⟨n, c⟩ := x
    have hlt : k < t.vals.length := by simp at hk; omega
    obtain ⟨v, hv⟩ : ∃ v, t.vals[k]? = some v := ⟨t.vals[k], by simp [hlt]⟩
    have hvr := h.vals v (List.mem_of_getElem? hv)
    have hd : t.vals.drop k = v :: t.vals.drop (k + 1) := by
      rw [List.drop_eq_getElem_cons hlt]
      rw [List.getElem?_eq_getElem hlt] at hv
      rw [Option.some.inj hv]
    have hc16 := h.cnt
    have hsp : v.toNat * 2 + 2 ≤ 512 := by omega
    simp only [num, List.map_cons, itemV, roundsQ]
    refine ⟨rfl, ?_⟩
    simp only [rf15_5, b15, Try.f15, nav, Option.getD_some, if_true, if_false, Nat.reduceEqDiff]
    simp (maxSteps := 2000000) [cf15, h1, h2, h3, hv, hc16, hvr, hout, hsp]
    refine ⟨by kernel_rfl, ?_⟩
    refine ih (k + 1) (splI out (v.toNat * 2) [n, c]) _ _ (by simp at hk; omega) (by rw [splI_length _ _ _ (by simp; omega)]; exact hout) (by simp [lk, tabO]) (by simp [lk]) (by simp [lk]) ?_
    intro s' e1 e2 e3 e4
    refine hA s' e1 e2 ?_ e4
    rw [hd]; exact e3

def g15 (vs : List V) : Option V :=
  match vs with
  | [v] => (decTab v).map fun t => .agg (iv (codesT t))
  | _ => none

theorem g15_ok (vs : List V) (r : V) (h : g15 vs = some r) : CallR Try.prog [] 15 vs r := by
  unfold g15 at h
  split at h <;> try (cases h; done)
  rename_i v
  simp only [Option.map_eq_some_iff] at h
  obtain ⟨t, ht, rfl⟩ := h
  obtain ⟨rfl, h0⟩ := decTab_spec ht
  have h2 := h0.cnt
  have hg24 := g24_eq t h0
  have hg16 := g16_eq t h0
  refine callR_of_wpA mixed (cf := cf15) (ow := false) at15 bd15 (by kernel_rfl) (by simp [cf15]) rfl C15_ok (Its.add_ok (Its.none_ok _) en30 g30_ok) ?_
  simp only [b15, nav, Option.getD_some, if_true, if_false, Nat.reduceEqDiff]
  generalize hE : endQ Try.prog Try.f15 false (.agg (iv (codesT t))) = E
  simp only [Try.f15, Option.getD_some, Tab.enc]
  cases hck : checkT t with
  | false =>
    simp [cf15, h2, hg16, hck]
    have hl := codesT_length t h0
    rw [← hE]
    simp [Try.f15, codesT, hck]
  | true =>
    simp [cf15, h2, hg16, hck, hg24]
    obtain ⟨hok, hsum, _, _⟩ := checkT_spec hck
    refine wpA_range (items := (num 0 (codesOf t.cnt)).map itemV) (by simp; exact ⟨rfl, rfl, rfl⟩) (by kernel_rfl) (by simp [g30_eq t h0 hok]) ?_
    have hlen := codesL_length t.cnt 1 0 hok
    have hl := codesT_length t h0
    refine rounds15 t h0 _ (codesOf t.cnt) 0 (rep 512 0) _ _ ?_ (by simp) (by simp [lk, tabO]) (by simp [lk]) (by simp [lk]) ?_
    · unfold codesOf; omega
    · intro s2 hσ ho2 ho3 hgl
      obtain ⟨σ, ⟨ob, z⟩, gl⟩ := s2
      simp only at hσ ho2 ho3 hgl
      subst hσ hgl
      have hcT : codesT t = codesArr t.vals (codesOf t.cnt) (rep 512 0) := by unfold codesT; rw [if_pos hck]
      rw [List.drop_zero, ← hcT] at ho3
      simp [ho2, ho3, hl]
      rw [← hE]
      simp [Try.f15, hl]
theorem g15_eq (t : Tab) (h : t.Ok) : g15 [.agg (iv t.cnt ++ [.sl false t.nl 1 (bv t.vals)])] = some (.agg (iv (codesT t))) := by
  have := decTab_enc t h
  unfold Tab.enc at this
  simp only [g15, this, Option.map_some]
end Go.Ai

namespace Go.Ai
open Go Go.Proofs
set_option maxRecDepth 100000
set_option maxHeartbeats 4000000
set_option linter.unusedSimpArgs false
set_option linter.unusedVariables false
set_option pp.deepTerms false
-- TABLES 20 21 10 14 13
def pr20 : Nat → List Pr
  | 0 => [.keep [0] []]
  | 1 => [.keep [1, 2] [1, 2, 8, 14, 20, 23, 1008, 1014, 1020, 1023]]
  | 2 => [.keep [2, 3] [2, 8, 14, 20, 23, 1008, 1014, 1020, 1023]]
  | 3 => [.keep [2] [2, 8, 14, 20, 23, 1008, 1014, 1020, 1023]]
  | 4 => [.keep [2, 3] [2, 8, 14, 20, 23, 1008, 1014, 1020, 1023]]
  | 5 => [.keep [2] [2, 8, 14, 20, 23, 1008, 1014, 1020, 1023]]
  | 6 => [.keep [2, 3] [2, 8, 14, 20, 23, 1008, 1014, 1020, 1023]]
  | 7 => [.keep [2] [2, 8, 14, 20, 23, 1008, 1014, 1020, 1023]]
  | 8 => [.keep [2] [2, 8, 14, 20, 23, 1008, 1014, 1020, 1023]]
  | _ => []
def dr20 : Nat → Dr
  | _ => ⟨[], [], [], []⟩
def kp20 : List Nat → List Nat
  | _ => []
def pr21 : Nat → List Pr
  | 0 => [.keep [0] []]
  | 1 => [.keep [0] []]
  | 2 => [.keep [] []]
  | 3 => [.keep [0] []]
  | _ => []
def dr21 : Nat → Dr
  | _ => ⟨[], [], [], []⟩
def kp21 : List Nat → List Nat
  | _ => []
def pr10 : Nat → List Pr
  | 0 => [.keep [0, 1] []]
  | 1 => [.keep [0, 1, 4] [4, 18, 1018]]
  | 2 => [.keep [0, 1, 4, 5] [4, 5, 18, 1018]]
  | 3 => [.keep [1, 4, 5] [4, 5, 18, 1018]]
  | 4 => [.keep [1, 4, 5] [4, 5, 18, 1018]]
  | 5 => [.keep [4, 5] [4, 5, 18, 1018]]
  | 6 => [.keep [4, 5] [4, 5, 18, 1018]]
  | 7 => [.keep [4, 6] [4, 6, 18, 1018]]
  | 8 => [.keep [4, 6] [4, 6, 18, 1018]]
  | _ => []
def dr10 : Nat → Dr
  | _ => ⟨[], [], [], []⟩
def kp10 : List Nat → List Nat
  | _ => []
def pr14 : Nat → List Pr
  | 0 => [.keep [0, 1] []]
  | 1 => [.keep [0, 1, 4] [4, 12, 17, 22, 25, 1012, 1017, 1022, 1025]]
  | 2 => [.keep [4] [4, 12, 17, 22, 25, 1012, 1017, 1022, 1025]]
  | 3 => [.keep [0, 1, 4] [4, 12, 17, 22, 25, 1012, 1017, 1022, 1025]]
  | 4 => [.keep [4] [4, 12, 17, 22, 25, 1012, 1017, 1022, 1025]]
  | 5 => [.keep [1, 4] [4, 12, 17, 22, 25, 1012, 1017, 1022, 1025]]
  | 6 => [.keep [4] [4, 12, 17, 22, 25, 1012, 1017, 1022, 1025]]
  | 7 => [.keep [4] [4, 12, 17, 22, 25, 1012, 1017, 1022, 1025]]
  | _ => []
def dr14 : Nat → Dr
  | _ => ⟨[], [], [], []⟩
def kp14 : List Nat → List Nat
  | _ => []
def pr13 : Nat → List Pr
  | 0 => [.keep [0, 1] []]
  | 1 => [.keep [2, 3] [2, 3]]
  | _ => []
def dr13 : Nat → Dr
  | _ => ⟨[], [], [], []⟩
def kp13 : List Nat → List Nat
  | _ => []
-- END
attribute [simp] ty47 ty9 pr20 dr20 kp20 pr21 dr21 kp21 pr10 dr10 kp10 pr14 dr14 kp14 pr13 dr13 kp13

/-! ## bytes.Clone -/
def cf21 : Cf := { N := 8, pr := pr21, dr := dr21, C := Cs.none, It := Its.none, kp := kp21, rf := true, stop := none, lid := 0 }
def g21 (vs : List V) : Option V :=
  match vs with
  | [.sl false false 1 es] => (decB es).bind fun l => if l.length ≤ 100000 then some (.sl false false 1 (bv l)) else none
  | _ => none
theorem g21_ok (vs : List V) (r : V) (h : g21 vs = some r) : CallR Try.prog [] 21 vs r := by
  unfold g21 at h
  split at h <;> try (cases h; done)
  rename_i es
  simp only [Option.bind_eq_some_iff] at h
  obtain ⟨l, hl, h⟩ := h
  split at h <;> try (cases h; done)
  rename_i hlen
  simp only [Option.some.injEq] at h; subst h
  obtain ⟨rfl, _⟩ := decB_spec hl
  have a1 : l.length ≤ maxLen := by unfold maxLen; omega
  have a2 : l.length ≤ 140737488355328 := by omega
  refine callR_of_wpA mixed (cf := cf21) (ow := false) at21 bd21 (by kernel_rfl) (by simp [cf21]) rfl (Cs.none_ok _) (Its.none_ok _) ?_
  simp [b21, Try.f21, nav, cf21, a1, a2]
theorem g21_eq (l : List Int) (h : ∀ v ∈ l, 0 ≤ v ∧ v < 256) (hl : l.length ≤ 100000) : g21 [.sl false false 1 (bv l)] = some (.sl false false 1 (bv l)) := by
  simp only [g21, decB_bv l h, Option.bind_some, hl, if_true]

/-! ## huff.standard -/
def cf20 : Cf := { N := 25, pr := pr20, dr := dr20, C := Cs.none, It := Its.none, kp := kp20, rf := true, stop := none, lid := 0 }
/-- the table of a class, and a part, as it is laid -/
noncomputable def stdTab (a b : Int) : Tab := ((runF Try.prog cf20 [] 60 b20 Try.f20 false [.agg [.int .i64 a, .int .i64 b]]).bind decTab).getD ⟨[], false, []⟩
def bit2 (a : Int) : Prop := a = 0 ∨ a = 1
instance (a : Int) : Decidable (bit2 a) := by unfold bit2; exact inferInstance
theorem run20 (a b : Int) (ha : bit2 a) (hb : bit2 b) : runF Try.prog cf20 [] 60 b20 Try.f20 false [.agg [.int .i64 a, .int .i64 b]] = some (stdTab a b).enc := by
  rcases ha with rfl | rfl <;> rcases hb with rfl | rfl <;> kernel_rfl
theorem std_cnt (a b : Int) (ha : bit2 a) (hb : bit2 b) : (stdTab a b).cnt.length = 16 := by
  rcases ha with rfl | rfl <;> rcases hb with rfl | rfl <;> kernel_rfl
theorem std_vals (a b : Int) (ha : bit2 a) (hb : bit2 b) : ((stdTab a b).vals.all fun v => decide (0 ≤ v) && decide (v < 256)) = true := by
  rcases ha with rfl | rfl <;> rcases hb with rfl | rfl <;> kernel_rfl
theorem std_nl (a b : Int) (ha : bit2 a) (hb : bit2 b) : (stdTab a b).nl = false := by
  rcases ha with rfl | rfl <;> rcases hb with rfl | rfl <;> kernel_rfl
theorem std_len (a b : Int) (ha : bit2 a) (hb : bit2 b) : decide ((stdTab a b).vals.length ≤ 256) = true := by
  rcases ha with rfl | rfl <;> rcases hb with rfl | rfl <;> kernel_rfl
theorem std_ok (a b : Int) (ha : bit2 a) (hb : bit2 b) : (stdTab a b).Ok := by
  refine ⟨std_cnt a b ha hb, fun v hv => ?_⟩
  have := List.all_eq_true.1 (std_vals a b ha hb) v hv
  simpa using this
theorem std_check (a b : Int) (ha : bit2 a) (hb : bit2 b) : checkT (stdTab a b) = true := by
  rcases ha with rfl | rfl <;> rcases hb with rfl | rfl <;> kernel_rfl

noncomputable def g20 (vs : List V) : Option V :=
  match vs with
  | [.agg [.int .i64 a, .int .i64 b]] => if bit2 a ∧ bit2 b then runF Try.prog cf20 [] 60 b20 Try.f20 false [.agg [.int .i64 a, .int .i64 b]] else none
  | _ => none
theorem g20_ok (vs : List V) (r : V) (h : g20 vs = some r) : CallR Try.prog [] 20 vs r := by
  unfold g20 at h
  split at h <;> try (cases h; done)
  rename_i a b
  split at h <;> try (cases h; done)
  exact callR_of_run mixed at20 bd20 (by kernel_rfl) (by simp [cf20]) rfl (Cs.none_ok _) (Its.none_ok _) h
theorem g20_eq (a b : Int) (ha : bit2 a) (hb : bit2 b) : g20 [.agg [.int .i64 a, .int .i64 b]] = some (.agg (iv (stdTab a b).cnt ++ [.sl false false 1 (bv (stdTab a b).vals)])) := by
  simp only [g20, ha, hb, and_self, if_true, run20 a b ha hb, Tab.enc, std_nl a b ha hb]

/-! ## huff.Standard -/
def kOf (a : Int) : Int := if a = 0 then 0 else 1
theorem kOf_bit (a : Int) : bit2 (kOf a) := by unfold kOf bit2; split <;> simp
noncomputable def cf10 : Cf := { N := 21, pr := pr10, dr := dr10, C := (Cs.none.add 20 g20).add 21 g21, It := Its.none, kp := kp10, rf := true, stop := none, lid := 0 }
noncomputable def g10 (vs : List V) : Option V :=
  match vs with
  | [.int .i64 a, .int .i64 b] => some (stdTab (kOf a) (kOf b)).enc
  | _ => none
theorem g10_ok (vs : List V) (r : V) (h : g10 vs = some r) : CallR Try.prog [] 10 vs r := by
  unfold g10 at h
  split at h <;> try (cases h; done)
  rename_i a b
  simp only [Option.some.injEq] at h; subst h
  have ha := kOf_bit a
  have hb := kOf_bit b
  have e1 := g20_eq _ _ ha hb
  have hok := std_ok _ _ ha hb
  have hl := of_decide_eq_true (std_len _ _ ha hb)
  have e2 := g21_eq _ hok.vals (by omega)
  have e3 := hok.cnt
  have e4 := std_nl _ _ ha hb
  refine callR_of_wpA mixed (cf := cf10) (ow := false) at10 bd10 (by kernel_rfl) (by simp [cf10]) rfl (Cs.add_ok (Cs.add_ok (Cs.none_ok _) en20 g20_ok) en21 g21_ok) (Its.none_ok _) ?_
  simp only [b10, Try.f10, nav, Option.getD_some]
  by_cases h1 : a = 0 <;> by_cases h2 : b = 0 <;> simp [kOf, h1, h2] at e1 e2 e3 e4 ⊢ <;> simp [cf10, h1, h2, e1, e2, e3, e4, Tab.enc]
theorem g10_eq (a b : Int) : g10 [.int .i64 a, .int .i64 b] = some (.agg (iv (stdTab (kOf a) (kOf b)).cnt ++ [.sl false false 1 (bv (stdTab (kOf a) (kOf b)).vals)])) := by
  simp only [g10, Tab.enc, std_nl _ _ (kOf_bit a) (kOf_bit b)]

/-! ## the document's Standard -/
noncomputable def cf14 : Cf := { N := 27, pr := pr14, dr := dr14, C := Cs.none, It := Its.none, kp := kp14, rf := true, stop := none, lid := 0 }
theorem g14_ok (vs : List V) (r : V) (h : g10 vs = some r) : CallR Try.prog [] 14 vs r := by
  unfold g10 at h
  split at h <;> try (cases h; done)
  rename_i a b
  simp only [Option.some.injEq] at h; subst h
  refine callR_of_wpA mixed (cf := cf14) (ow := false) at14 bd14 (by kernel_rfl) (by simp [cf14]) rfl (Cs.none_ok _) (Its.none_ok _) ?_
  rw [show b14 = repl (repl (repl (repl b14 [1, 0, 1, 0] (nav b14 [1, 0, 1, 0])) [1, 1, 0, 1, 0] (nav b14 [1, 1, 0, 1, 0])) [1, 1, 1, 0, 1, 0] (nav b14 [1, 1, 1, 0, 1, 0])) [1, 1, 1, 1] (nav b14 [1, 1, 1, 1]) from by kernel_rfl]
  generalize hA : nav b14 [1, 0, 1, 0] = TA
  generalize hB : nav b14 [1, 1, 0, 1, 0] = TB
  generalize hC : nav b14 [1, 1, 1, 0, 1, 0] = TC
  generalize hD : nav b14 [1, 1, 1, 1] = TD
  generalize hE : endQ Try.prog Try.f14 false (stdTab (kOf a) (kOf b)).enc = E
  simp only [b14, Try.f14, repl, Option.getD_some, if_true, if_false, Nat.reduceEqDiff]
  by_cases h1 : a = 0
  · by_cases h2 : b = 0
    · simp [cf14, h1, h2]
      rw [← hE, ← hA]
      simp only [kOf, h1, h2, if_true]
      exact wpA_runQ (fn := Try.f14) (ow := false) 10 (by kernel_rfl) (fun s' h => h)
    · simp [cf14, h1, h2]
      rw [← hE, ← hB]
      simp only [kOf, h1, h2, if_true, if_false]
      exact wpA_runQ (fn := Try.f14) (ow := false) 10 (by kernel_rfl) (fun s' h => h)
  · by_cases h2 : b = 0
    · simp [cf14, h1, h2]
      rw [← hE, ← hC]
      simp only [kOf, h1, h2, if_true, if_false]
      exact wpA_runQ (fn := Try.f14) (ow := false) 10 (by kernel_rfl) (fun s' h => h)
    · simp [cf14, h1, h2]
      rw [← hE, ← hD]
      simp only [kOf, h1, h2, if_true, if_false]
      exact wpA_runQ (fn := Try.f14) (ow := false) 10 (by kernel_rfl) (fun s' h => h)

/-! ## the document's Same -/
noncomputable def cf13 : Cf := { N := 19, pr := pr13, dr := dr13, C := Cs.none, It := Its.none, kp := kp13, rf := true, stop := none, lid := 0 }
def g13 (vs : List V) : Option V :=
  match vs with
  | [v, w] => (decTab v).bind fun t => (decTab w).map fun u => .bool (decide (t.cnt = u.cnt ∧ t.vals = u.vals))
  | _ => none
theorem toBytes_bv : ∀ (l : List Int), toBytes (bv l) = some (l.map fun n => UInt8.ofNat n.toNat) := by
  intro l
  induction l with
  | nil => rfl
  | cons x r ih =>
    simp only [bv, List.map_cons] at ih ⊢
    simp only [toBytes, ih, Option.map_some]
theorem bytes_inj : ∀ (l m : List Int), (∀ v ∈ l, 0 ≤ v ∧ v < 256) → (∀ v ∈ m, 0 ≤ v ∧ v < 256) → ((l.map fun n => UInt8.ofNat n.toNat) = m.map fun n => UInt8.ofNat n.toNat) → l = m := by
  intro l
  induction l with
  | nil => intro m _ _ h; cases m with
    | nil => rfl
    | cons => simp at h
  | cons x l ih =>
    intro m hl hm h
    cases m with
    | nil => simp at h
    | cons y m =>
      simp only [List.map_cons, List.cons.injEq] at h
      have h1 := hl x (by simp)
      have h2 := hm y (by simp)
      have h3 := congrArg UInt8.toNat h.1
      simp at h3
      rw [ih m (fun v hv => hl v (by simp [hv])) (fun v hv => hm v (by simp [hv])) h.2]
      congr 1; omega
theorem q22 : i64Q Try.prog 22 = some 16 := by kernel_rfl
theorem g13_ok (vs : List V) (r : V) (h : g13 vs = some r) : CallR Try.prog [] 13 vs r := by
  unfold g13 at h
  split at h <;> try (cases h; done)
  rename_i v w
  simp only [Option.bind_eq_some_iff, Option.map_eq_some_iff] at h
  obtain ⟨t, ht, u, hu, rfl⟩ := h
  obtain ⟨rfl, h1⟩ := decTab_spec ht
  obtain ⟨rfl, h2⟩ := decTab_spec hu
  have hc1 := h1.cnt
  have hc2 := h2.cnt
  refine callR_of_wpA mixed (cf := cf13) (ow := false) at13 bd13 (by kernel_rfl) (by simp [cf13]) rfl (Cs.none_ok _) (Its.none_ok _) ?_
  generalize hE : endQ Try.prog Try.f13 false (.bool (decide (t.cnt = u.cnt ∧ t.vals = u.vals))) = E
  simp only [b13, Try.f13, nav, Option.getD_some]
  by_cases hc : t.cnt = u.cnt
  · simp [cf13, hc1, hc2, hc, q22, Tab.enc, toBytes_bv]
    rw [← hE]
    have he : (List.map (fun n => UInt8.ofNat n.toNat) t.vals == List.map (fun n => UInt8.ofNat n.toNat) u.vals) = decide (t.vals = u.vals) := by
      by_cases hv : t.vals = u.vals
      · simp [hv]
      · have : ¬ (List.map (fun n : Int => UInt8.ofNat n.toNat) t.vals) = List.map (fun n : Int => UInt8.ofNat n.toNat) u.vals := fun e => hv (bytes_inj _ _ h1.vals h2.vals e)
        simp [hv, this]
    simp [Try.f13, hc, he]
  · simp [cf13, hc1, hc2, hc, q22, Tab.enc, toBytes_bv]
    rw [← hE]
    simp [Try.f13, hc]
theorem g13_eq (t u : Tab) (h1 : t.Ok) (h2 : u.Ok) : g13 [.agg (iv t.cnt ++ [.sl false t.nl 1 (bv t.vals)]), .agg (iv u.cnt ++ [.sl false u.nl 1 (bv u.vals)])] = some (.bool (decide (t.cnt = u.cnt ∧ t.vals = u.vals))) := by
  have e1 := decTab_enc t h1
  have e2 := decTab_enc u h2
  unfold Tab.enc at e1 e2
  simp only [g13, e1, e2, Option.bind_some, Option.map_some]
end Go.Ai
