/- Texts of the abstract interpreter and of its contracts. -/
import Derived.Test.YtghhjkblhchhmaaCg
import Derived.IntWalk
namespace Go.Ai
open Go
variable {P : Program}

/-! ## What a stretch of code comes to, step by step -/

def wpA (P : Program) (cf : Cf) (c : Code) (s : St) (Q : Ex → St → Prop) : Prop := ∃ e s', exec P cf c s = some (e, s') ∧ Q e s'

def seqQ (P : Program) (cf : Cf) (y : Code) (Q : Ex → St → Prop) : Ex → St → Prop
  | .normal, s => wpA P cf y s Q
  | .exit i, s => Q (.exit i) s
  | .ret, s => Q .ret s

def blockQ (id : Nat) (Q : Ex → St → Prop) : Ex → St → Prop
  | .exit i, s => if i = id then Q .normal s else Q (.exit i) s
  | .normal, s => Q .normal s
  | .ret, s => Q .ret s

variable {cf : Cf} {s : St} {Q Q' : Ex → St → Prop}

theorem wpA.mono {c : Code} (h : wpA P cf c s Q) (hQ : ∀ e s', Q e s' → Q' e s') : wpA P cf c s Q' := by
  obtain ⟨e, s', h1, h2⟩ := h
  exact ⟨e, s', h1, hQ e s' h2⟩

theorem wpA_skip : wpA P cf .skip s Q ↔ Q .normal s := by
  constructor
  · rintro ⟨e, s', h1, h2⟩
    rw [exec_skip] at h1; cases h1; exact h2
  · intro h; exact ⟨_, _, exec_skip cf s, h⟩
theorem wpA_exit {id : Nat} : wpA P cf (.exit id) s Q ↔ Q (.exit id) s := by
  constructor
  · rintro ⟨e, s', h1, h2⟩
    rw [exec_exit] at h1; cases h1; exact h2
  · intro h; exact ⟨_, _, exec_exit cf id s, h⟩
theorem wpA_ret : wpA P cf .ret s Q ↔ Q .ret s := by
  constructor
  · rintro ⟨e, s', h1, h2⟩
    rw [exec_ret] at h1; cases h1; exact h2
  · intro h; exact ⟨_, _, exec_ret cf s, h⟩
theorem wpA_region {id : Nat} {ops : Array Oper} {draw : Bool} : wpA P cf (.region id ops draw) s Q ↔ ∃ s', regionA P cf id ops draw s = some s' ∧ Q .normal s' := by
  unfold wpA
  rw [exec_region]
  constructor
  · rintro ⟨e, s', h1, h2⟩
    simp only [Option.map_eq_some_iff, Prod.mk.injEq] at h1
    obtain ⟨s1, h3, rfl, rfl⟩ := h1
    exact ⟨_, h3, h2⟩
  · rintro ⟨s', h1, h2⟩
    exact ⟨.normal, s', by rw [h1]; rfl, h2⟩
/-- what follows a result that there is -/
def optQ {α : Type} (r : Option α) (K : α → Prop) : Prop :=
  match r with
  | some x => K x
  | none => False

theorem optQ_some {α : Type} (x : α) (K : α → Prop) : optQ (some x) K = K x := rfl
theorem optQ_none {α : Type} (K : α → Prop) : optQ none K = False := rfl
theorem optQ_guard {α : Type} (c : Prop) [Decidable c] (x : α) (K : α → Prop) : optQ (if c then some x else none) K = (c ∧ K x) := by
  by_cases h : c <;> simp [h, optQ]
theorem optQ_ite {α : Type} (c : Prop) [Decidable c] (x y : Option α) (K : α → Prop) : optQ (if c then x else y) K = ((c → optQ x K) ∧ (¬ c → optQ y K)) := by
  by_cases h : c <;> simp [h]

theorem wpA_reg {id : Nat} {ops : Array Oper} {draw : Bool} : wpA P cf (.region id ops draw) s Q ↔ optQ (regionA P cf id ops draw s) (Q .normal) := by
  rw [wpA_region]
  constructor
  · rintro ⟨s', h1, h2⟩; rw [h1]; exact h2
  · intro h
    cases hr : regionA P cf id ops draw s with
    | none => rw [hr] at h; exact h.elim
    | some s' => rw [hr] at h; exact ⟨s', rfl, h⟩
theorem wpA_seq {x y : Code} : wpA P cf (.seq x y) s Q ↔ wpA P cf x s (seqQ P cf y Q) := by
  unfold wpA
  rw [exec_seq]
  constructor
  · rintro ⟨e, s', h1, h2⟩
    cases hx : exec P cf x s with
    | none => rw [hx] at h1; cases h1
    | some p =>
      obtain ⟨e1, s1⟩ := p
      rw [hx] at h1
      refine ⟨e1, s1, rfl, ?_⟩
      cases e1 with
      | normal => exact ⟨e, s', h1, h2⟩
      | exit i => cases h1; exact h2
      | ret => cases h1; exact h2
  · rintro ⟨e1, s1, hx, h2⟩
    rw [hx]
    cases e1 with
    | normal => obtain ⟨e, s', h3, h4⟩ := h2; exact ⟨e, s', h3, h4⟩
    | exit i => exact ⟨_, _, rfl, h2⟩
    | ret => exact ⟨_, _, rfl, h2⟩
theorem wpA_loop {c : Code} : wpA P cf (.loop c) s Q ↔ wpA P cf c s (seqQ P cf (.loop c) Q) := by
  unfold wpA
  rw [exec_loop]
  constructor
  · rintro ⟨e, s', h1, h2⟩
    cases hx : exec P cf c s with
    | none => rw [hx] at h1; cases h1
    | some p =>
      obtain ⟨e1, s1⟩ := p
      rw [hx] at h1
      refine ⟨e1, s1, rfl, ?_⟩
      cases e1 with
      | normal => exact ⟨e, s', h1, h2⟩
      | exit i => cases h1; exact h2
      | ret => cases h1; exact h2
  · rintro ⟨e1, s1, hx, h2⟩
    rw [hx]
    cases e1 with
    | normal => obtain ⟨e, s', h3, h4⟩ := h2; exact ⟨e, s', h3, h4⟩
    | exit i => exact ⟨_, _, rfl, h2⟩
    | ret => exact ⟨_, _, rfl, h2⟩
theorem wpA_block {id : Nat} {c : Code} : wpA P cf (.block id c) s Q ↔ wpA P cf c s (blockQ id Q) := by
  unfold wpA
  rw [exec_block]
  constructor
  · rintro ⟨e, s', h1, h2⟩
    cases hx : exec P cf c s with
    | none => rw [hx] at h1; cases h1
    | some p =>
      obtain ⟨e1, s1⟩ := p
      rw [hx] at h1
      refine ⟨e1, s1, rfl, ?_⟩
      cases e1 with
      | normal => cases h1; exact h2
      | exit i =>
        simp only [inBlock, Option.some.injEq, Prod.mk.injEq] at h1
        obtain ⟨rfl, rfl⟩ := h1
        simp only [blockQ]
        split
        · rename_i hi; rw [if_pos hi] at h2; exact h2
        · rename_i hi; rw [if_neg hi] at h2; exact h2
      | ret => cases h1; exact h2
  · rintro ⟨e1, s1, hx, h2⟩
    rw [hx]
    cases e1 with
    | normal => exact ⟨_, _, rfl, h2⟩
    | exit i =>
      simp only [blockQ] at h2
      refine ⟨_, _, rfl, ?_⟩
      split
      · rename_i hi; rw [if_pos hi] at h2; exact h2
      · rename_i hi; rw [if_neg hi] at h2; exact h2
    | ret => exact ⟨_, _, rfl, h2⟩

def condQ (v : V) (x y : Prop) : Prop :=
  match v with
  | .bool true => x
  | .bool false => y
  | _ => False

theorem condQ_dec (p : Prop) [Decidable p] (x y : Prop) : condQ (.bool (decide p)) x y = ((p → x) ∧ (¬ p → y)) := by
  by_cases h : p <;> simp [h, condQ]
theorem condQ_bool (b : Bool) (x y : Prop) : condQ (.bool b) x y = ((b = true → x) ∧ (b = false → y)) := by cases b <;> simp [condQ]
theorem condQ_true (x y : Prop) : condQ (.bool true) x y = x := rfl
theorem condQ_false (x y : Prop) : condQ (.bool false) x y = y := rfl

theorem wpA_cond {c : Operand} {x y : Code} : wpA P cf (.cond c x y) s Q ↔ condQ (ev s c) (wpA P cf x s Q) (wpA P cf y s Q) := by
  unfold wpA
  rw [exec_cond]
  generalize ev s c = v
  cases v with
  | bool b => cases b <;> exact Iff.rfl
  | _ =>
    constructor
    · rintro ⟨_, _, h1, _⟩; cases h1
    · intro h; exact h.elim

/-- the rounds of a range over a function, one by one -/
def roundsQ (P : Program) (cf : Cf) (x y : Code) (ps kp : List Nat) (Q : Ex → St → Prop) : List (List V) → St → Prop
  | [], s => Q .normal s
  | vs :: r, s => vs.length = ps.length ∧ wpA P cf x (pushes ps vs s) fun
    | .normal, s1 => wpA P cf y s1 fun
      | .normal, s2 => roundsQ P cf x y ps kp Q r (s2.back kp)
      | e, s2 => Q e (s2.back kp)
    | _, _ => False

theorem rounds_of {x y : Code} {ps kp : List Nat} : ∀ (items : List (List V)) (s : St), roundsQ P cf x y ps kp Q items s → ∃ e s', rounds (fun s => after (exec P cf x s) (exec P cf y)) ps kp items s = some (e, s') ∧ Q e s' := by
  intro items
  induction items with
  | nil => intro s h; exact ⟨_, _, rfl, h⟩
  | cons vs r ih =>
    intro s h
    obtain ⟨hl, e1, s1, hx, h⟩ := h
    simp only [rounds, if_pos hl, hx]
    cases e1 with
    | normal =>
      obtain ⟨e2, s2, hy, h⟩ := h
      simp only [after, hy]
      cases e2 with
      | normal => exact ih _ h
      | exit i => exact ⟨_, _, rfl, h⟩
      | ret => exact ⟨_, _, rfl, h⟩
    | exit i => exact h.elim
    | ret => exact h.elim

theorem wpA_range {g : Operand} {ps : Array Tmp} {x y : Code} {f : Nat} {first caps : List V} {items : List (List V)} (hg : ev s g = .fn f first caps)
    (hc : (cf.rf && ps.toList.all (fun p => decide (p < cf.N)) && rfOk (cf.kp ps.toList) ps.toList x y && first.all V.still && caps.all V.still) = true) (hi : cf.It f first caps = some items)
    (h : roundsQ P cf x y ps.toList (cf.kp ps.toList) Q items (s.back (cf.kp ps.toList))) : wpA P cf (.rangeFunc g ps x y) s Q := by
  obtain ⟨e, s', h1, h2⟩ := rounds_of _ _ h
  refine ⟨e, s', ?_, h2⟩
  rw [exec_range]
  unfold rangeA
  simp only [hg, if_pos hc, hi, Option.bind_some]
  exact h1

/-! ## Lists of numbers, as cells -/

def iv (l : List Int) : List V := l.map (.int .i64)
def bv (l : List Int) : List (List V) := l.map fun n => [.int .u8 n]

theorem iv_append (l m : List Int) : iv (l ++ m) = iv l ++ iv m := by simp [iv]
theorem iv_get (l : List Int) (i : Nat) : (iv l)[i]? = (l[i]?).map (.int .i64) := by simp [iv]
theorem iv_length (l : List Int) : (iv l).length = l.length := by simp [iv]
theorem iv_still (l : List Int) : stillL (iv l) = true := by induction l with
  | nil => rfl
  | cons x r ih => simp only [iv, List.map_cons, stillL, V.still, Bool.true_and] at ih ⊢; exact ih
theorem iv_kill (ks : List Nat) (l : List Int) : killL ks (iv l) = iv l := by induction l with
  | nil => rfl
  | cons x r ih => simp only [iv, List.map_cons, killL, V.kill] at ih ⊢; rw [ih]
theorem iv_ren (k k' : Nat) (l : List Int) : renL k k' (iv l) = iv l := by induction l with
  | nil => rfl
  | cons x r ih => simp only [iv, List.map_cons, renL, V.ren] at ih ⊢; rw [ih]
theorem iv_frz (k : Nat) (o : Obj) (l : List Int) : frzL k o (iv l) = iv l := by induction l with
  | nil => rfl
  | cons x r ih => simp only [iv, List.map_cons, frzL, V.frz] at ih ⊢; rw [ih]
theorem iv_unb (l : List Int) : unbL (iv l) = iv l := by induction l with
  | nil => rfl
  | cons x r ih => simp only [iv, List.map_cons, unbL, V.unb] at ih ⊢; rw [ih]
theorem iv_mkill (ks : List Nat) (l : List Int) : (iv l).map (V.kill ks) = iv l := by rw [← killL_eq, iv_kill]
theorem iv_mren (k k' : Nat) (l : List Int) : (iv l).map (V.ren k k') = iv l := by rw [← renL_eq, iv_ren]
theorem iv_mfrz (k : Nat) (o : Obj) (l : List Int) : (iv l).map (V.frz k o) = iv l := by rw [← frzL_eq, iv_frz]
theorem iv_one (l : List Int) : (iv l).all V.one = true := by simp [iv, V.one]
theorem iv_zero (n : Nat) : List.replicate n (V.int .i64 0) = iv (List.replicate n 0) := by simp [iv]
theorem iv_set (l : List Int) (i : Nat) (x : Int) : (iv l).set i (.int .i64 x) = iv (l.set i x) := by simp [iv]
theorem iv_ints (l : List Int) : ints (iv l) = some l := ints_map l
theorem iv_take (l : List Int) (n : Nat) : (iv l).take n = iv (l.take n) := by simp [iv]
theorem iv_drop (l : List Int) (n : Nat) : (iv l).drop n = iv (l.drop n) := by simp [iv]
theorem kill_append (ks : List Nat) (l m : List V) : killL ks (l ++ m) = killL ks l ++ killL ks m := by simp [killL_eq]
theorem ren_append (k k' : Nat) (l m : List V) : renL k k' (l ++ m) = renL k k' l ++ renL k k' m := by simp [renL_eq]
theorem frz_append (k : Nat) (o : Obj) (l m : List V) : frzL k o (l ++ m) = frzL k o l ++ frzL k o m := by simp [frzL_eq]
theorem unb_append (l m : List V) : unbL (l ++ m) = unbL l ++ unbL m := by simp [unbL_eq]
theorem still_append (l m : List V) : stillL (l ++ m) = (stillL l && stillL m) := by simp [stillL_eq]

theorem bv_get (l : List Int) (i : Nat) : (bv l)[i]? = (l[i]?).map fun n => [.int .u8 n] := by simp [bv]
theorem bv_length (l : List Int) : (bv l).length = l.length := by simp [bv]
theorem bv_append (l m : List Int) : bv (l ++ m) = bv l ++ bv m := by simp [bv]
theorem bv_nil : bv [] = [] := rfl
theorem bv_take (l : List Int) (n : Nat) : (bv l).take n = bv (l.take n) := by simp [bv]
theorem bv_drop (l : List Int) (n : Nat) : (bv l).drop n = bv (l.drop n) := by simp [bv]
theorem bv_eq_nil (l : List Int) : (bv l).isEmpty = l.isEmpty := by cases l <;> rfl

end Go.Ai

namespace Go.Ai
open Go
set_option linter.unusedSimpArgs false
theorem prep_mk (ps : List Pr) (σ : List (Nat × V)) (co : Co) (gl : Fx) : prep ps ⟨σ, co, gl⟩ = ps.foldl Pr.run ⟨σ, co, gl⟩ := rfl
def oneL : List V → Bool
  | [] => true
  | v :: r => v.one && oneL r
theorem oneL_eq (l : List V) : l.all V.one = oneL l := by
  induction l with
  | nil => rfl
  | cons v r ih => simp [oneL, ih]
theorem oneL_append (l m : List V) : oneL (l ++ m) = (oneL l && oneL m) := by simp [← oneL_eq]
theorem iv_oneL (l : List Int) : oneL (iv l) = true := by rw [← oneL_eq, iv_one]
theorem flat_agg (cs : List V) : V.flat (.agg cs) = if oneL cs = true then some cs else none := by simp only [V.flat, oneL_eq]
theorem one_int (k : IntKind) (n : Int) : V.one (.int k n) = true := rfl
theorem one_bool (b : Bool) : V.one (.bool b) = true := rfl
theorem one_str (b : List UInt8) : V.one (.str b) = true := rfl
theorem one_sl (a b : Bool) (c : Nat) (d : List (List V)) : V.one (.sl a b c d) = true := rfl
theorem one_row (a b c d : Nat) : V.one (.row a b c d) = true := rfl
theorem one_ptr (a b c d : Nat) : V.one (.ptr a b c d) = true := rfl
theorem one_ro (a : Bool) (b : List V) : V.one (.ro a b) = true := rfl
theorem one_fn (a : Nat) (b c : List V) : V.one (.fn a b c) = true := rfl
theorem flat_int (k : IntKind) (n : Int) : V.flat (.int k n) = some [.int k n] := rfl
theorem flat_bool (b : Bool) : V.flat (.bool b) = some [.bool b] := rfl
theorem flat_str (b : List UInt8) : V.flat (.str b) = some [.str b] := rfl
theorem flat_sl (a b : Bool) (c : Nat) (d : List (List V)) : V.flat (.sl a b c d) = some [.sl a b c d] := rfl
theorem flat_row (a b c d : Nat) : V.flat (.row a b c d) = some [.row a b c d] := rfl
theorem flat_ptr (a b c d : Nat) : V.flat (.ptr a b c d) = some [.ptr a b c d] := rfl
theorem flat_ro (a : Bool) (b : List V) : V.flat (.ro a b) = some [.ro a b] := rfl
theorem flat_fn (a : Nat) (b c : List V) : V.flat (.fn a b c) = some [.fn a b c] := rfl
theorem flat_nilp : V.flat .nilp = some [.nilp] := rfl
theorem flat_nilfn : V.flat .nilfn = some [.nilfn] := rfl
theorem flat_nilif : V.flat .nilif = some [.nilif] := rfl
attribute [simp] oneL oneL_eq oneL_append iv_oneL flat_agg one_int one_bool one_str one_sl one_row one_ptr one_ro one_fn flat_int flat_bool flat_str flat_sl flat_row flat_ptr flat_ro flat_fn flat_nilp flat_nilfn flat_nilif
section
variable (n : Nat) (c : Co)
theorem giveL_nil : giveL (n + 1) c [] = some [] := rfl
theorem giveL_cons (v : V) (r : List V) : giveL (n + 1) c (v :: r) = (give n c v).bind fun v => (giveL n c r).map (v :: ·) := rfl
theorem give_still (v : V) (h : v.still = true) : give (n + 1) c v = some v := by simp only [give, h, if_true]
theorem give_int (k : IntKind) (x : Int) : give (n + 1) c (.int k x) = some (.int k x) := rfl
theorem give_bool (b : Bool) : give (n + 1) c (.bool b) = some (.bool b) := rfl
theorem give_str (b : List UInt8) : give (n + 1) c (.str b) = some (.str b) := rfl
theorem give_nilp : give (n + 1) c .nilp = some .nilp := rfl
theorem give_nilfn : give (n + 1) c .nilfn = some .nilfn := rfl
theorem give_nilif : give (n + 1) c .nilif = some .nilif := rfl
theorem give_slf (a : Bool) (k : Nat) (es : List (List V)) : give (n + 1) c (.sl false a k es) = some (.sl false a k es) := rfl
theorem give_rof (es : List V) : give (n + 1) c (.ro false es) = some (.ro false es) := rfl
theorem lend_int (k : IntKind) (x : Int) : lend (n + 1) c (.int k x) = some (.int k x) := rfl
theorem lend_bool (b : Bool) : lend (n + 1) c (.bool b) = some (.bool b) := rfl
theorem lend_str (b : List UInt8) : lend (n + 1) c (.str b) = some (.str b) := rfl
theorem lend_nilp : lend (n + 1) c .nilp = some .nilp := rfl
theorem lend_nilfn : lend (n + 1) c .nilfn = some .nilfn := rfl
theorem lend_nilif : lend (n + 1) c .nilif = some .nilif := rfl
theorem lend_slf (a : Bool) (k : Nat) (es : List (List V)) : lend (n + 1) c (.sl false a k es) = some (.sl false a k es) := rfl
theorem lend_rof (es : List V) : lend (n + 1) c (.ro false es) = some (.ro false es) := rfl
theorem give_row (k sz lo hi : Nat) : give (n + 1) c (.row k sz lo hi) = (lk c.ob k).bind fun o => if o.sz = sz ∧ o.row ∧ hi ≤ o.es.length then some (.sl false (o.nl && o.es.isEmpty) sz (if lo = 0 ∧ hi = o.es.length then o.es else (o.es.drop lo).take (hi - lo))) else none := rfl
theorem give_ptr (k sz i off : Nat) : give (n + 1) c (.ptr k sz i off) = (lk c.ob k).bind fun o => if o.sz = sz then (o.es[i]?).bind fun e => if off ≤ e.length then (giveL n c (e.drop off)).map (.ro false) else none else none := rfl
theorem give_agg (cs : List V) : give (n + 1) c (.agg cs) = if stillL cs = true then some (.agg cs) else (giveL n c cs).map .agg := rfl
theorem give_fn (f : Nat) (a b : List V) : give (n + 1) c (.fn f a b) = if (stillL a && stillL b) = true then some (.fn f a b) else (giveL n c a).bind fun a => (giveL n c b).map (.fn f a) := rfl
theorem lendL_nil : lendL (n + 1) c [] = some [] := rfl
theorem lendL_cons (v : V) (r : List V) : lendL (n + 1) c (v :: r) = (lend n c v).bind fun v => (lendL n c r).map (v :: ·) := rfl
theorem lend_still (v : V) (h : v.still = true) : lend (n + 1) c v = some v := by simp only [lend, h, if_true]
theorem lend_sl (nl : Bool) (sz : Nat) (es : List (List V)) : lend (n + 1) c (.sl true nl sz es) = some (.sl true nl sz es) := rfl
theorem lend_row (k sz lo hi : Nat) : lend (n + 1) c (.row k sz lo hi) = (lk c.ob k).bind fun o => if o.sz = sz ∧ o.row ∧ hi ≤ o.es.length then some (.sl true (o.nl && o.es.isEmpty) sz (if lo = 0 ∧ hi = o.es.length then o.es else (o.es.drop lo).take (hi - lo))) else none := rfl
theorem lend_ptr (k sz i off : Nat) : lend (n + 1) c (.ptr k sz i off) = (lk c.ob k).bind fun o => if o.sz = sz then (o.es[i]?).bind fun e => if off ≤ e.length then (lendL n c (e.drop off)).map (.ro true) else none else none := rfl
theorem lend_ro (cs : List V) : lend (n + 1) c (.ro true cs) = (lendL n c cs).map (.ro true) := rfl
theorem lend_agg (cs : List V) : lend (n + 1) c (.agg cs) = if stillL cs = true then some (.agg cs) else (lendL n c cs).map .agg := rfl
theorem lend_fn (f : Nat) (a b : List V) : lend (n + 1) c (.fn f a b) = if (stillL a && stillL b) = true then some (.fn f a b) else (lendL n c a).bind fun a => (lendL n c b).map (.fn f a) := rfl
end
attribute [simp] giveL_nil giveL_cons give_int give_bool give_str give_nilp give_nilfn give_nilif give_slf give_rof lend_int lend_bool lend_str lend_nilp lend_nilfn lend_nilif lend_slf lend_rof give_row give_ptr give_agg give_fn lendL_nil lendL_cons lend_sl lend_row lend_ptr lend_ro lend_agg lend_fn
/-! ### Step by step, as what follows -/
def orO {α : Type} (a b : Option α) : Option α :=
  match a with
  | some x => some x
  | none => b
theorem orO_some {α : Type} (x : α) (b : Option α) : orO (some x) b = some x := rfl
theorem orO_none {α : Type} (b : Option α) : orO none b = b := rfl
theorem orO_right {α : Type} (a : Option α) : orO a none = a := by cases a <;> rfl
theorem map_guard {α β : Type} (c : Prop) [Decidable c] (x : α) (f : α → β) : (if c then some x else none).map f = if c then some (f x) else none := by by_cases h : c <;> simp [h]
theorem bind_guard {α β : Type} (c : Prop) [Decidable c] (x : α) (f : α → Option β) : (if c then some x else none).bind f = if c then f x else none := by by_cases h : c <;> simp [h]
theorem guard_guard {α : Type} (c d : Prop) [Decidable c] [Decidable d] (x : α) : (if c then (if d then some x else none) else none) = if c ∧ d then some x else none := by
  by_cases h : c <;> simp [h]
theorem map_none_guard {α β : Type} (c : Prop) [Decidable c] (x : α) (f : α → β) : (if c then none else some x).map f = if c then none else some (f x) := by by_cases h : c <;> simp [h]
theorem bind_none_guard {α β : Type} (c : Prop) [Decidable c] (x : α) (f : α → Option β) : (if c then none else some x).bind f = if c then none else f x := by by_cases h : c <;> simp [h]
theorem optQ_none_guard {α : Type} (c : Prop) [Decidable c] (x : α) (K : α → Prop) : optQ (if c then none else some x) K = (¬ c ∧ K x) := by by_cases h : c <;> simp [h, optQ]
def rangeRev : Nat → List Nat
  | 0 => []
  | n + 1 => n :: rangeRev n
theorem rangeRev_eq (n : Nat) : (List.range n).reverse = rangeRev n := by
  induction n with
  | zero => rfl
  | succ n ih => simp [List.range_succ, rangeRev, ih]
theorem valOp_eq (P : Program) (s : St) (o : Oper) : valOp P s o = orO (stepVal P s o) (moreVal P s o) := by unfold valOp orO; cases stepVal P s o <;> rfl
theorem stepVal_bin (P : Program) (s : St) (d : Option Nat) (op : BinOp) (t : Nat) (x y : Operand) (u ty' : Nat) (pos : String) (af : Array Edge) (g : Option (Nat × Bool)) :
    stepVal P s ⟨d, .binOp op t x y u, ty', pos, af, g⟩ = orO (bin op (ev s x) (ev s y)) ((ty P t).bind fun T => match op with
        | .eql => (eqv T (ev s x) (ev s y)).map .bool
        | .neq => (eqv T (ev s x) (ev s y)).map fun b => .bool (!b)
        | _ => none) := by
  unfold stepVal orO
  simp only
  cases bin op (ev s x) (ev s y) <;> rfl
attribute [simp] orO_some orO_none orO_right map_guard bind_guard guard_guard map_none_guard bind_none_guard optQ_none_guard rangeRev rangeRev_eq valOp_eq stepVal_bin
section
variable (P : Program) (cf : Cf) (ops : Array Oper)
/-- what follows what an operation lays -/
def lyK (K : St → Prop) (s : St) (d : Option Nat) (x : Res) : Prop := K (s.lay d x)
/-- the rest of a stretch of operations -/
def stK (r : List Oper) (K : St → Prop) (s : St) : Prop := optQ (runL P cf ops r s) K
/-- an operation that is wanted, or is not -/
def goK (o : Oper) (r : List Oper) (K : St → Prop) (s : St) : Bool → Prop
  | true => optQ (stepY P cf s o) (stK P cf ops r K)
  | false => stK P cf ops r K (s.put o.dst skipV)
theorem stK_nil (K : St → Prop) (s : St) : stK P cf ops [] K s = K s := rfl
theorem stK_cons (o : Oper) (r : List Oper) (K : St → Prop) (s : St) : stK P cf ops (o :: r) K s = (okDst cf.N o = true ∧ optQ (wantedA ops s o) (goK P cf ops o r K s)) := by
  simp only [stK, runL]
  cases wantedA ops s o with
  | none => simp [optQ]
  | some b =>
    cases b with
    | true =>
      by_cases h : okDst cf.N o = true
      · simp only [h, if_true, true_and, goK, optQ_some]
        cases stepY P cf s o <;> rfl
      · simp [h, optQ]
    | false =>
      by_cases h : okDst cf.N o = true
      · simp only [h, if_true, true_and, goK, optQ_some, stK]
      · simp [h, optQ]
theorem goK_true (o : Oper) (r : List Oper) (K : St → Prop) (s : St) : goK P cf ops o r K s true = optQ (stepY P cf s o) (stK P cf ops r K) := rfl
theorem goK_false (o : Oper) (r : List Oper) (K : St → Prop) (s : St) : goK P cf ops o r K s false = stK P cf ops r K (s.put o.dst skipV) := rfl
theorem optQ_stepY (K : St → Prop) (s : St) (o : Oper) : optQ (stepY P cf s o) K = if (isCall o && !cf.rf) = true then optQ (orO (yieldA cf.stop cf.lid s o) (stepOp P cf.C s o)) K else optQ (stepOp P cf.C s o) K := by
  by_cases h : (isCall o && !cf.rf) = true
  · simp only [stepY, h, if_true]
    cases yieldA cf.stop cf.lid s o <;> rfl
  · simp [stepY, h]
theorem optQ_stepOp (K : St → Prop) (C : Cs) (s : St) (o : Oper) : optQ (stepOp P C s o) K =
    if bears o = true then optQ (resOp P C (vacateO o.dst s) o) (lyK K (vacateO o.dst s) o.dst)
    else if isCall o = true then optQ (orO ((resOp P C s o).map (s.lay o.dst)) ((resOp P C (vacateO o.dst s) o).map ((vacateO o.dst s).lay o.dst))) K
    else optQ (resOp P C s o) (lyK K s o.dst) := by
  by_cases h : bears o = true
  · simp only [stepOp, h, if_true]; cases resOp P C (vacateO o.dst s) o <;> rfl
  · by_cases h2 : isCall o = true
    · simp only [stepOp, h, h2, if_true, Bool.false_eq_true, if_false]
      cases resOp P C s o <;> rfl
    · simp only [stepOp, h, h2, Bool.false_eq_true, if_false]
      cases resOp P C s o <;> rfl
theorem optQ_region_plain (K : St → Prop) (id : Nat) (s : St) : optQ (regionA P cf id ops false s) K = stK P cf ops ops.toList K (prepA cf id s) := rfl
/-- the end of a region that draws its order -/
def drK (d : Dr) (s0 : St) (K : St → Prop) (R : List Res) : Prop := apartR d R 0 = true ∧ K (stJ ops R s0 (List.range ops.size).reverse)
def pfK (C : Cs) (N : Nat) (d : Dr) (s0 : St) (r : List Oper) (i : Nat) (R : List Res) (K : List Res → Prop) (x : Res) : Prop := optQ (pfx P C N ops d s0 r (i + 1) (R ++ [x])) K
def pgK (C : Cs) (N : Nat) (d : Dr) (s0 : St) (o : Oper) (r : List Oper) (i : Nat) (R : List Res) (K : List Res → Prop) : Bool → Prop
  | true => optQ (resOp P C (viewOf ops d s0 R i) o) (pfK P ops C N d s0 r i R K)
  | false => pfK P ops C N d s0 r i R K (.val skipV)
theorem optQ_region_draw (K : St → Prop) (id : Nat) (s : St) : optQ (regionA P cf id ops true s) K =
    (chkDr ops (cf.dr id) = true ∧ optQ (pfx P cf.C cf.N ops (cf.dr id) ((cf.dr id).ks.foldl (fun s k => vacate k s) (prepA cf id s)) ops.toList 0 []) (drK ops (cf.dr id) ((cf.dr id).ks.foldl (fun s k => vacate k s) (prepA cf id s)) K)) := by
  show optQ (runD P cf.C cf.N ops (cf.dr id) (prepA cf id s)) K = _
  unfold runD
  by_cases h : chkDr ops (cf.dr id) = true
  · simp only [h, if_true, true_and]
    generalize pfx P cf.C cf.N ops (cf.dr id) ((cf.dr id).ks.foldl (fun s k => vacate k s) (prepA cf id s)) ops.toList 0 [] = p
    cases p with
    | none => rfl
    | some R =>
      by_cases hR : apartR (cf.dr id) R 0 = true
      · simp [hR, optQ, drK]
      · simp [hR, optQ, drK]
  · simp [h, optQ]
theorem optQ_pfx_nil (C : Cs) (N : Nat) (d : Dr) (s0 : St) (i : Nat) (R : List Res) (K : List Res → Prop) : optQ (pfx P C N ops d s0 [] i R) K = K R := rfl
theorem optQ_pfx_cons (C : Cs) (N : Nat) (d : Dr) (s0 : St) (o : Oper) (r : List Oper) (i : Nat) (R : List Res) (K : List Res → Prop) : optQ (pfx P C N ops d s0 (o :: r) i R) K =
    (okDst N o = true ∧ optQ (wantedA ops (viewOf ops d s0 R i) o) (pgK P ops C N d s0 o r i R K)) := by
  simp only [pfx]
  by_cases h : okDst N o = true
  · simp only [h, if_true, true_and]
    cases wantedA ops (viewOf ops d s0 R i) o with
    | none => rfl
    | some b =>
      cases b with
      | true =>
        simp only [optQ_some, pgK]
        cases resOp P C (viewOf ops d s0 R i) o <;> rfl
      | false => rfl
  · simp [h, optQ]
theorem pfK_eq (C : Cs) (N : Nat) (d : Dr) (s0 : St) (r : List Oper) (i : Nat) (R : List Res) (K : List Res → Prop) (x : Res) : pfK P ops C N d s0 r i R K x = optQ (pfx P C N ops d s0 r (i + 1) (R ++ [x])) K := rfl
theorem pgK_true (C : Cs) (N : Nat) (d : Dr) (s0 : St) (o : Oper) (r : List Oper) (i : Nat) (R : List Res) (K : List Res → Prop) : pgK P ops C N d s0 o r i R K true = optQ (resOp P C (viewOf ops d s0 R i) o) (pfK P ops C N d s0 r i R K) := rfl
theorem pgK_false (C : Cs) (N : Nat) (d : Dr) (s0 : St) (o : Oper) (r : List Oper) (i : Nat) (R : List Res) (K : List Res → Prop) : pgK P ops C N d s0 o r i R K false = pfK P ops C N d s0 r i R K (.val skipV) := rfl
/-- the branches of a condition -/
def brK (x y : Code) (s : St) (Q : Ex → St → Prop) : Bool → Prop
  | true => wpA P cf x s Q
  | false => wpA P cf y s Q
def condK (v : V) (F : Bool → Prop) : Prop :=
  match v with
  | .bool b => F b
  | _ => False
theorem condK_bool (b : Bool) (F : Bool → Prop) : condK (.bool b) F = F b := rfl
theorem brK_true (x y : Code) (s : St) (Q : Ex → St → Prop) : brK P cf x y s Q true = wpA P cf x s Q := rfl
theorem brK_false (x y : Code) (s : St) (Q : Ex → St → Prop) : brK P cf x y s Q false = wpA P cf y s Q := rfl
theorem brK_dec (x y : Code) (s : St) (Q : Ex → St → Prop) (p : Prop) [Decidable p] : brK P cf x y s Q (decide p) = ((p → wpA P cf x s Q) ∧ (¬ p → wpA P cf y s Q)) := by
  by_cases h : p <;> simp [h, brK]
theorem brK_not (x y : Code) (s : St) (Q : Ex → St → Prop) (b : Bool) : brK P cf x y s Q (!b) = brK P cf y x s Q b := by cases b <;> rfl
theorem brK_any (x y : Code) (s : St) (Q : Ex → St → Prop) (b : Bool) : brK P cf x y s Q b = ((b = true → wpA P cf x s Q) ∧ (b = false → wpA P cf y s Q)) := by
  cases b <;> simp [brK]
theorem wpA_condK (c : Operand) (x y : Code) (s : St) (Q : Ex → St → Prop) : wpA P cf (.cond c x y) s Q ↔ condK (ev s c) (brK P cf x y s Q) := by
  rw [wpA_cond]
  generalize ev s c = v
  cases v with
  | bool b => cases b <;> exact Iff.rfl
  | _ => exact Iff.rfl
end
def opsAt : Code → Nat → Array Oper
  | .region i ops _, id => if i = id then ops else #[]
  | .seq x y, id => let a := opsAt x id; if a.size = 0 then opsAt y id else a
  | .cond _ x y, id => let a := opsAt x id; if a.size = 0 then opsAt y id else a
  | .block _ c, id => opsAt c id
  | .loop c, id => opsAt c id
  | .rangeFunc _ _ x y, id => let a := opsAt x id; if a.size = 0 then opsAt y id else a
  | _, _ => #[]
attribute [simp ↓] optQ_stepY optQ_stepOp optQ_region_plain optQ_region_draw optQ_pfx_nil optQ_pfx_cons stK_nil stK_cons goK_true goK_false pfK_eq pgK_true pgK_false wpA_condK condK_bool brK_true brK_false
attribute [simp] lyK drK brK_dec brK_not
theorem iv_app_get (l : List Int) (r : List V) (i : Nat) : (iv l ++ r)[i]? = if i < l.length then (iv l)[i]? else r[i - l.length]? := by rw [List.getElem?_append, iv_length]
attribute [simp high] iv_app_get
def layO (o : Option Oper) (x : Option Res) (s : St) : St :=
  match o, x with
  | some o, some x => s.lay o.dst x
  | _, _ => s
theorem layO_some (o : Oper) (x : Res) (s : St) : layO (some o) (some x) s = s.lay o.dst x := rfl
theorem stJ_nil (ops : Array Oper) (R : List Res) (s0 : St) : stJ ops R s0 [] = s0 := rfl
theorem stJ_cons (ops : Array Oper) (R : List Res) (s0 : St) (j : Nat) (r : List Nat) : stJ ops R s0 (j :: r) = layO ops[j]? R[j]? (stJ ops R s0 r) := by
  simp only [stJ]
  cases ops[j]? <;> cases R[j]? <;> rfl
attribute [simp] layO_some stJ_nil stJ_cons
attribute [simp] viewOf St.hide apartR Res.touch
/-! ## The words by which a stretch is reckoned out -/
attribute [simp ↓] wpA_skip wpA_exit wpA_ret wpA_reg wpA_seq wpA_block
attribute [simp] optQ_some optQ_none optQ_guard seqQ blockQ
attribute [simp] prepA prep_mk Pr.run St.norm pickL lk rm wantedA okDst bears resOp stepVal moreVal ev St.get ofConst bin arith St.lay Res.val Co.turn St.put St.push isCall Co.cellsAt subv isInt
attribute [simp] nilV St.atL St.setL boxOf vacate vacateO St.kill Co.kill Co.set Co.birth Co.del Co.ren St.ren mvK Obj.kill Obj.ren V.kill V.ren killL renL rmL V.frz frzL Obj.frz St.freeze
attribute [simp] yieldA St.unb V.unb unbL Obj.unb V.still stillL V.cells Co.elems calleeA resStore resAppend appendOk buildVal okParts placeOf fillA flats callVal lowB highB minV maxV toBytes aggEq eqv
attribute [simp] roundsQ pushes St.back resV resL handBack enterL enterSt skipV
attribute [simp high] iv_get bv_get
attribute [simp] iv_append iv_length iv_still iv_kill iv_ren iv_frz iv_unb unb_append iv_mkill iv_mren iv_mfrz iv_zero iv_set iv_ints iv_take iv_drop kill_append ren_append frz_append still_append bv_length bv_nil bv_take bv_drop bv_eq_nil
/-- bools, as cells -/
def lb (l : List Bool) : List V := l.map .bool
theorem lb_get (l : List Bool) (i : Nat) : (lb l)[i]? = (l[i]?).map .bool := by simp [lb]
theorem lb_length (l : List Bool) : (lb l).length = l.length := by simp [lb]
theorem lb_still (l : List Bool) : stillL (lb l) = true := by rw [stillL_eq]; simp [lb, V.still]
theorem lb_mkill (ks : List Nat) (l : List Bool) : (lb l).map (V.kill ks) = lb l := by simp [lb, V.kill]
theorem lb_mren (k k' : Nat) (l : List Bool) : (lb l).map (V.ren k k') = lb l := by simp [lb, V.ren]
theorem lb_mfrz (k : Nat) (o : Obj) (l : List Bool) : (lb l).map (V.frz k o) = lb l := by simp [lb, V.frz]
theorem lb_munb (l : List Bool) : (lb l).map V.unb = lb l := by simp [lb, V.unb]
theorem lb_oneL (l : List Bool) : oneL (lb l) = true := by rw [← oneL_eq]; simp [lb, V.one]
theorem lb_set (l : List Bool) (i : Nat) (x : Bool) : (lb l).set i (.bool x) = lb (l.set i x) := by simp [lb]
attribute [simp high] lb_get
attribute [simp] lb_length lb_still lb_mkill lb_mren lb_mfrz lb_munb lb_oneL lb_set

theorem iv_munb (l : List Int) : (iv l).map V.unb = iv l := by rw [← unbL_eq, iv_unb]
attribute [simp] iv_munb

/-- n times the same -/
def rep {α : Type} (n : Nat) (x : α) : List α := List.replicate n x
theorem rep_length {α : Type} (n : Nat) (x : α) : (rep n x).length = n := List.length_replicate
theorem rep_get {α : Type} (n : Nat) (x : α) (i : Nat) (h : i < n) : (rep n x)[i]? = some x := by simp [rep, h]
attribute [simp] rep_length
theorem int_beq (a b : Int) : (a == b) = decide (a = b) := by
  by_cases h : a = b <;> simp [h]
theorem int_bne (a b : Int) : (a != b) = !decide (a = b) := by
  by_cases h : a = b <;> simp [h]
attribute [simp] int_beq int_bne
/-! ### Cells laid over others -/
def splI (l : List Int) (off : Nat) (vs : List Int) : List Int := l.take off ++ vs ++ l.drop (off + vs.length)
theorem splI_length (l : List Int) (off : Nat) (vs : List Int) (h : off + vs.length ≤ l.length) : (splI l off vs).length = l.length := by simp [splI]; omega
theorem splice_one (e : List V) (off : Nat) (v : V) : splice e off [v] = e.set off v := rfl
theorem splice_gen (e : List V) (off : Nat) (vs : List V) (h : off + vs.length ≤ e.length) : splice e off vs = e.take off ++ vs ++ e.drop (off + vs.length) := by
  unfold splice
  split
  · rename_i v
    have hlt : off < e.length := by simp at h; omega
    rw [List.set_eq_take_append_cons_drop, if_pos hlt]; simp
  · split
    · rename_i hc
      obtain ⟨rfl, hl⟩ := hc
      rw [hl]; simp
    · rfl
theorem splice_iv (l : List Int) (off : Nat) (vs : List Int) (h : off + vs.length ≤ l.length) : splice (iv l) off (iv vs) = iv (splI l off vs) := by
  rw [splice_gen _ _ _ (by simpa using h)]; simp [splI, iv]
theorem splice_iv2 (l : List Int) (off : Nat) (a b : Int) (h : off + 2 ≤ l.length) : splice (iv l) off [.int .i64 a, .int .i64 b] = iv (splI l off [a, b]) := splice_iv l off [a, b] h
theorem splice_all (e vs : List V) (h : vs.length = e.length) : splice e 0 vs = vs := by
  rw [splice_gen _ _ _ (by omega), h]; simp
theorem iv_app_set (l : List Int) (r : List V) (i : Nat) (v : V) : (iv l ++ r).set i v = if i < l.length then (iv l).set i v ++ r else iv l ++ r.set (i - l.length) v := by rw [List.set_append, iv_length]
attribute [simp] splice_one splice_iv2 splice_all iv_app_set
theorem bv_snoc (l : List Int) (x : Int) : bv l ++ [[.int .u8 x]] = bv (l ++ [x]) := by simp [bv]
attribute [simp] bv_snoc
end Go.Ai

namespace Go.Ai
open Go
variable {P : Program}

/-! ## Contracts, one laid upon the others -/

def Cs.none : Cs := fun _ _ => Option.none
def Cs.add (C : Cs) (f : Nat) (g : List V → Option V) : Cs := fun f' vs => if f' = f then g vs else C f' vs
def Its.none : Its := fun _ _ _ => Option.none
def Its.add (I : Its) (f : Nat) (g : List V → List V → Option (List (List V))) : Its := fun f' a b => if f' = f then g a b else I f' a b

theorem Cs.none_ok (G : List (Nat × V)) : Cs.none.Ok P G := fun _ _ _ h => by cases h
theorem Cs.add_ok {G : List (Nat × V)} {C : Cs} {f : Nat} {g : List V → Option V} (h : C.Ok P G) (he : Enters P f) (hg : ∀ vs r, g vs = some r → CallR P G f vs r) : (C.add f g).Ok P G := by
  intro f' vs r hr
  unfold Cs.add at hr
  split at hr
  · rename_i e; subst e; exact ⟨he, hg vs r hr⟩
  · exact h f' vs r hr
theorem Its.none_ok (G : List (Nat × V)) : Its.none.Ok P G := fun _ _ _ _ h => by cases h
theorem Its.add_ok {G : List (Nat × V)} {I : Its} {f : Nat} {g : List V → List V → Option (List (List V))} (h : I.Ok P G) (he : Enters P f) (hg : ∀ a b items, g a b = some items → IterR P G f a b items) : (I.add f g).Ok P G := by
  intro f' a b items hr
  unfold Its.add at hr
  split at hr
  · rename_i e; subst e; exact ⟨he, hg a b items hr⟩
  · exact h f' a b items hr

/-! ### What is lent for a call alone -/
mutual
def V.shr : V → V
  | .sl _ nl sz es => .sl false nl sz es
  | .ro _ cs => .ro false (shrL cs)
  | .agg cs => .agg (shrL cs)
  | .fn f a b => .fn f (shrL a) (shrL b)
  | .tup _ => .undef
  | .own _ _ _ _ => .undef
  | .row _ _ _ _ => .undef
  | .ptr _ _ _ _ => .undef
  | .int k n => .int k n
  | .bool b => .bool b
  | .str s => .str s
  | .nilp => .nilp
  | .nilfn => .nilfn
  | .nilif => .nilif
  | .yl l => .yl l
  | .undef => .undef
def shrL : List V → List V
  | [] => []
  | v :: r => v.shr :: shrL r
end
theorem shrL_eq (l : List V) : shrL l = l.map V.shr := by
  induction l with
  | nil => rfl
  | cons v r ih => simp [shrL, ih]

theorem RR.shr {w : World} {ok : Nat → Prop} {v : V} {u : Value} (h : RR w ok v u) : RR w ok v.shr u := by
  induction h with
  | int k n => exact .int k n
  | bool b => exact .bool b
  | str s => exact .str s
  | nilp => exact .nilp
  | nilfn => exact .nilfn
  | nilif => exact .nilif
  | yl l => exact .yl l
  | @undef u' => exact .undef _
  | snil sz => exact .snil sz
  | sl hok hb hnl hcap hsz hlen hc h1 ih => exact .sl hok hb hnl hcap hsz hlen hc h1
  | ro hok hb hsz hc ih =>
    simp only [V.shr, shrL_eq]
    refine .ro hok hb (by simpa using hsz) fun j v u hj hu => ?_
    simp only [List.getElem?_map, Option.map_eq_some_iff] at hj
    obtain ⟨v', hv', rfl⟩ := hj
    exact ih j v' u hv' hu
  | agg hs hc ih =>
    simp only [V.shr, shrL_eq]
    refine .agg (by simpa using hs) fun j v u hj hu => ?_
    simp only [List.getElem?_map, Option.map_eq_some_iff] at hj
    obtain ⟨v', hv', rfl⟩ := hj
    exact ih j v' u hv' hu
  | fn hs ht ha hb iha ihb =>
    simp only [V.shr, shrL_eq]
    refine .fn (by simpa using hs) (by simpa using ht) (fun j v u hj hu => ?_) (fun j v u hj hu => ?_)
    · simp only [List.getElem?_map, Option.map_eq_some_iff] at hj
      obtain ⟨v', hv', rfl⟩ := hj
      exact iha j v' u hv' hu
    · simp only [List.getElem?_map, Option.map_eq_some_iff] at hj
      obtain ⟨v', hv', rfl⟩ := hj
      exact ihb j v' u hv' hu

theorem PV.shr {w : World} {L : Nat → Prop} {v : V} {u : Value} (h : PV w (okP w L) (okbP w) v u) : RR w (okP w fun _ => False) v.shr u := by
  have mono : ∀ {v u}, RR w (okP w L) v u → RR w (okP w fun _ => False) v u := fun h => h.mono fun b hb => ⟨⟨hb.1, id⟩, rfl⟩
  induction h with
  | rr h0 => exact (mono h0).shr
  | bnil sz => exact .snil sz
  | bsl hok hb hnl hcap hsz hlen hc h1 => exact .sl ⟨hok, id⟩ hb hnl hcap hsz hlen (fun i e j v u a b c => mono (hc i e j v u a b c)) h1
  | bro hok hb hsz hc ih =>
    simp only [V.shr, shrL_eq]
    refine .ro ⟨hok, id⟩ hb (by simpa using hsz) fun j v u hj hu => ?_
    simp only [List.getElem?_map, Option.map_eq_some_iff] at hj
    obtain ⟨v', hv', rfl⟩ := hj
    exact ih j v' u hv' hu
  | rnil sz hz hk => exact absurd trivial hz
  | row hz hk hh hc => exact absurd trivial hz
  | ptr hz hk => exact absurd trivial hz
  | agg hs hc ih =>
    simp only [V.shr, shrL_eq]
    refine .agg (by simpa using hs) fun j v u hj hu => ?_
    simp only [List.getElem?_map, Option.map_eq_some_iff] at hj
    obtain ⟨v', hv', rfl⟩ := hj
    exact ih j v' u hv' hu
  | tup hs hc ih => exact .undef _
  | fn hs ht ha hb iha ihb =>
    simp only [V.shr, shrL_eq]
    refine .fn (by simpa using hs) (by simpa using ht) (fun j v u hj hu => ?_) (fun j v u hj hu => ?_)
    · simp only [List.getElem?_map, Option.map_eq_some_iff] at hj
      obtain ⟨v', hv', rfl⟩ := hj
      exact iha j v' u hv' hu
    · simp only [List.getElem?_map, Option.map_eq_some_iff] at hj
      obtain ⟨v', hv', rfl⟩ := hj
      exact ihb j v' u hv' hu

/-! A value that leads nowhere. -/
mutual
def V.plain : V → Bool
  | .int _ _ | .bool _ | .str _ | .nilp | .nilfn | .nilif | .undef => true
  | .agg cs => plainL cs
  | .tup cs => plainL cs
  | _ => false
def plainL : List V → Bool
  | [] => true
  | v :: r => v.plain && plainL r
end
theorem plainL_eq (l : List V) : plainL l = l.all V.plain := by
  induction l with
  | nil => rfl
  | cons v r ih => simp [plainL, ih]
theorem iv_plain (l : List Int) : plainL (iv l) = true := by rw [plainL_eq]; simp [iv, V.plain]

theorem RR.plain {w : World} {ok ok' : Nat → Prop} {v : V} {u : Value} (h : RR w ok v u) (hp : v.plain = true) : RR w ok' v u := by
  induction h with
  | int k n => exact .int k n
  | bool b => exact .bool b
  | str s => exact .str s
  | nilp => exact .nilp
  | nilfn => exact .nilfn
  | nilif => exact .nilif
  | undef u => exact .undef u
  | agg hs hc ih =>
    simp only [V.plain, plainL_eq, List.all_eq_true] at hp
    exact .agg hs fun j v u hj hu => ih j v u hj hu (hp v (List.mem_of_getElem? hj))
  | _ => simp [V.plain] at hp

theorem CallR.lent {G : List (Nat × V)} {f : Nat} {vs : List V} {r : V} (h : CallR P G f (vs.map V.shr) r) (hp : r.plain = true) : CallR P G f vs r := by
  intro w L us hs hL hG hv
  refine (h w (fun _ => False) us (by simpa using hs) (fun b hb => hb.elim) (fun g v hg => (hG g v hg).mono fun b hb => ⟨⟨hb.1, id⟩, rfl⟩) (fun j v u hj hu => ?_)).mono fun e w' he => ?_
  · simp only [List.getElem?_map, Option.map_eq_some_iff] at hj
    obtain ⟨v', hv', rfl⟩ := hj
    exact .rr (PV.shr (hv j v' u hv' hu))
  · cases e with
    | returned u =>
      obtain ⟨h1, h2⟩ := he
      refine ⟨h1, ?_⟩
      cases h2 with
      | rr h3 => exact .rr (h3.plain hp)
      | tup hs hc =>
        simp only [V.plain, plainL_eq, List.all_eq_true] at hp
        exact .tup hs fun j v u hj hu => (hc j v u hj hu).plain (hp v (List.mem_of_getElem? hj))
      | own h3 => simp [V.plain] at hp
    | panicked c => exact he
    | outgrown => exact he

/-- a contract that takes what is lent, too -/
def lentG (g : List V → Option V) (vs : List V) : Option V :=
  match g vs with
  | some r => some r
  | none => match g (vs.map V.shr) with
    | some r => if r.plain = true then some r else none
    | none => none
theorem lentG_ok {G : List (Nat × V)} {f : Nat} {g : List V → Option V} (h : ∀ vs r, g vs = some r → CallR P G f vs r) (vs : List V) (r : V) (hr : lentG g vs = some r) : CallR P G f vs r := by
  unfold lentG at hr
  split at hr
  · rename_i r' h1; cases hr; exact h vs _ h1
  · split at hr <;> try (cases hr; done)
    rename_i r' h1
    split at hr <;> try (cases hr; done)
    rename_i hp
    cases hr
    exact (h _ _ h1).lent hp
theorem lentG_same {g : List V → Option V} {vs : List V} {r : V} (h : g vs = some r) : lentG g vs = some r := by simp only [lentG, h]

/-- how a function ends -/
def endQ (P : Program) (fn : Func) (ow : Bool) (r : V) : Ex → St → Prop
  | .exit _, _ => False
  | _, s => optQ (resL P s fn.results.toList) fun rs => handBack ow s.co rs = some r

theorem callR_of_wpA (hm : P.follows .mixedOrders = true) {G : List (Nat × V)} {f : FuncId} {fn : Func} {c : Code} {cf : Cf} {vs : List V} {ow : Bool} {r : V}
    (hf : P.funcs[f]? = some fn) (hb : fn.body = some c) (hN : fn.ntmps = cf.N) (hvs : vs.length ≤ cf.N) (hrf : cf.rf = true) (hC : cf.C.Ok P G) (hI : cf.It.Ok P G)
    (hx : wpA P cf c (enterSt G vs) (endQ P fn ow r)) : CallR P G f vs r := by
  obtain ⟨e, s', h1, h2⟩ := hx
  have key : optQ (resL P s' fn.results.toList) (fun rs => handBack ow s'.co rs = some r) → (e = .normal ∨ e = .ret) → CallR P G f vs r := by
    intro h he
    cases hr : resL P s' fn.results.toList with
    | none => rw [hr] at h; exact h.elim
    | some rs => rw [hr] at h; exact callR_of_exec hm hf hb hN hvs hrf hC hI h1 he hr h
  cases e with
  | normal => exact key h2 (.inl rfl)
  | ret => exact key h2 (.inr rfl)
  | exit i => exact h2.elim

theorem endQ_of {fn : Func} {ow : Bool} {r : V} {s : St} (h : (resL P s fn.results.toList).bind (handBack ow s.co) = some r) : endQ P fn ow r .ret s := by
  show optQ (resL P s fn.results.toList) _
  simp only [Option.bind_eq_some_iff] at h
  obtain ⟨rs, h1, h2⟩ := h
  rw [h1]; exact h2

/-- a function that is run out, at closed arguments -/
def runF (P : Program) (cf : Cf) (G : List (Nat × V)) (n : Nat) (c : Code) (fn : Func) (ow : Bool) (vs : List V) : Option V :=
  match execF P cf n c (enterSt G vs) with
  | some (.exit _, _) => none
  | some (_, s) => (resL P s fn.results.toList).bind (handBack ow s.co)
  | none => none

theorem callR_of_run (hm : P.follows .mixedOrders = true) {G : List (Nat × V)} {f : FuncId} {fn : Func} {c : Code} {cf : Cf} {vs : List V} {ow : Bool} {r : V} {n : Nat}
    (hf : P.funcs[f]? = some fn) (hb : fn.body = some c) (hN : fn.ntmps = cf.N) (hvs : vs.length ≤ cf.N) (hrf : cf.rf = true) (hC : cf.C.Ok P G) (hI : cf.It.Ok P G)
    (hx : runF P cf G n c fn ow vs = some r) : CallR P G f vs r := by
  unfold runF at hx
  split at hx
  · cases hx
  · rename_i e s hne he
    simp only [Option.bind_eq_some_iff] at hx
    obtain ⟨rs, h1, h2⟩ := hx
    refine callR_of_exec hm hf hb hN hvs hrf hC hI ((exec_iff cf).2 ⟨n, he⟩) ?_ h1 h2
    cases e with
    | normal => exact .inl rfl
    | ret => exact .inr rfl
    | exit i => exact absurd rfl (hne i)
  · cases hx

/-- a stretch that is run out, at a closed state -/
def runT (P : Program) (cf : Cf) (n : Nat) (c : Code) (fn : Func) (ow : Bool) (s : St) : Option V :=
  match execF P cf n c s with
  | some (.exit _, _) => none
  | some (_, s) => (resL P s fn.results.toList).bind (handBack ow s.co)
  | none => none
theorem wpA_run {cf : Cf} {c : Code} {fn : Func} {ow : Bool} {r : V} {s : St} (n : Nat) (h : runT P cf n c fn ow s = some r) : wpA P cf c s (endQ P fn ow r) := by
  unfold runT at h
  split at h
  · cases h
  · rename_i e s' hne he
    refine ⟨e, s', (exec_iff cf).2 ⟨n, he⟩, ?_⟩
    simp only [Option.bind_eq_some_iff] at h
    obtain ⟨rs, h1, h2⟩ := h
    cases e with
    | exit i => exact absurd rfl (hne i)
    | normal => show optQ (resL P s' fn.results.toList) _; rw [h1]; exact h2
    | ret => show optQ (resL P s' fn.results.toList) _; rw [h1]; exact h2
  · cases h

/-- the same, of a stretch that returns -/
def runR (P : Program) (cf : Cf) (n : Nat) (c : Code) (fn : Func) (ow : Bool) (s : St) : Option V :=
  match execF P cf n c s with
  | some (.ret, s) => (resL P s fn.results.toList).bind (handBack ow s.co)
  | _ => none
theorem wpA_runQ {cf : Cf} {c : Code} {fn : Func} {ow : Bool} {r : V} {s : St} {Q : Ex → St → Prop} (n : Nat) (h : runR P cf n c fn ow s = some r) (hQ : ∀ s', endQ P fn ow r .ret s' → Q .ret s') : wpA P cf c s Q := by
  unfold runR at h
  split at h
  · rename_i s' he
    exact ⟨.ret, s', (exec_iff cf).2 ⟨n, he⟩, hQ s' (endQ_of h)⟩
  · cases h

def repl : Code → List Nat → Code → Code
  | _, [], T => T
  | .seq a b, i :: r, T => if i = 0 then .seq (repl a r T) b else .seq a (repl b r T)
  | .cond c a b, i :: r, T => if i = 0 then .cond c (repl a r T) b else .cond c a (repl b r T)
  | .rangeFunc g ps a b, i :: r, T => if i = 0 then .rangeFunc g ps (repl a r T) b else .rangeFunc g ps a (repl b r T)
  | .block id c, _ :: r, T => .block id (repl c r T)
  | .loop c, _ :: r, T => .loop (repl c r T)
  | c, _, _ => c

/-! ### What is handed out, and where it stops -/

def stops (st : Option Nat) (n : Nat) : Prop := ∃ k, st = some k ∧ k < n
def fin (st : Option Nat) (items : List (List V)) : List (List V) :=
  match st with
  | some k => items.take (k + 1)
  | none => items

theorem not_stops {st : Option Nat} {n : Nat} (h : ¬ stops st n) : ∀ k, st = some k → n ≤ k := fun k hk => by
  rcases Nat.lt_or_ge k n with h1 | h1
  · exact absurd ⟨k, hk, h1⟩ h
  · exact h1
theorem stops_zero (st : Option Nat) : ¬ stops st 0 := fun ⟨_, _, h⟩ => by omega
theorem stops_mono {st : Option Nat} {n m : Nat} (h : stops st n) (hle : n ≤ m) : stops st m := by
  obtain ⟨k, h1, h2⟩ := h
  exact ⟨k, h1, by omega⟩
theorem stops_step {st : Option Nat} {n : Nat} (h : ¬ stops st n) (hne : ¬ st = some n) : ¬ stops st (n + 1) := by
  rintro ⟨k, h1, h2⟩
  rcases Nat.lt_or_eq_of_le (Nat.le_of_lt_succ h2) with h3 | h3
  · exact h ⟨k, h1, h3⟩
  · subst h3; exact hne h1
theorem fin_whole {st : Option Nat} {l : List (List V)} (h : ¬ stops st l.length) : fin st l = l := by
  cases st with
  | none => rfl
  | some k =>
    have := not_stops h k rfl
    exact List.take_of_length_le (by omega)
theorem fin_append {st : Option Nat} {l m : List (List V)} (h : stops st l.length) : fin st (l ++ m) = fin st l := by
  obtain ⟨k, rfl, hk⟩ := h
  simp only [fin]
  rw [List.take_append_of_le_length (by omega)]
theorem fin_at {st : Option Nat} {l m : List (List V)} {x : List V} (h : st = some l.length) : fin st (l ++ x :: m) = l ++ [x] := by
  subst h
  simp [fin, List.take_append, List.take_of_length_le]

/-- the contract of a function that is ranged over -/
theorem iterR_of_wpA (hm : P.follows .mixedOrders = true) {G : List (Nat × V)} {f : FuncId} {fn : Func} {c : Code} {cf : Option Nat → Nat → Cf} {first caps : List V} {items : List (List V)}
    (hf : P.funcs[f]? = some fn) (hb : fn.body = some c) (hr0 : fn.results = #[]) (hcf : ∀ st i, (cf st i).rf = false ∧ (cf st i).stop = st ∧ (cf st i).lid = i ∧ fn.ntmps = (cf st i).N ∧ first.length + 1 + caps.length ≤ (cf st i).N ∧ (cf st i).C.Ok P G ∧ (cf st i).It.Ok P G)
    (hx : ∀ (st : Option Nat) (i : Nat), wpA P (cf st i) c (enterSt G (first ++ [.yl i] ++ caps)) fun e s' => (e = .normal ∨ e = .ret) ∧ s'.gl.out = fin st items) : IterR P G f first caps items := by
  refine iterR_of_exec hm hf hb hr0 hcf fun st i => ?_
  obtain ⟨e, s', h1, h2, h3⟩ := hx st i
  refine ⟨e, s', h1, h2, h3.trans ?_⟩
  cases st <;> rfl

@[simp] theorem wrap_in (n : Int) (h1 : -9223372036854775808 ≤ n) (h2 : n ≤ 9223372036854775807) : IntKind.i64.wrap n = n := IntWalk.i64_in n ⟨h1, h2⟩

attribute [simp] Cs.add Cs.none Its.add Its.none endQ
end Go.Ai
