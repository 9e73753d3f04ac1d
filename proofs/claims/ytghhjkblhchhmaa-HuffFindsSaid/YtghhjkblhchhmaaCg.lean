/- Texts of the abstract interpreter and of its contracts. -/
import Derived.Test.YtghhjkblhchhmaaCf
import Derived.RangeFuncNested
namespace Go.Ai
open Go
variable {P : Program} {w : World} {L : Nat → Prop} {l : Lay} {s : St} {a : Act}

/-! ## Code -/

inductive Ex where
  | normal
  | exit (id : Nat)
  | ret
  deriving DecidableEq

def Ex.to : Ex → Exit
  | .normal => .normal
  | .exit id => .exit id
  | .ret => .ret

/-- what a function that is ranged over hands to the loop's body, by its first and its captured arguments -/
abbrev Its := Nat → List V → List V → Option (List (List V))

/-- N: the frame's size; pr: what is done to the state's form ahead of a region; dr: how a region that draws its order is taken; C, It: the contracts of what is called, and ranged over; kp: what is kept across a range over a function, by its parameters; rf: a plain function (else one that is ranged over: stop: the round that ends it, lid: the loop's record) -/
structure Cf where
  N : Nat
  pr : Nat → List Pr
  dr : Nat → Dr
  C : Cs
  It : Its
  kp : List Nat → List Nat
  rf : Bool
  stop : Option Nat
  lid : Nat

def stepY (P : Program) (cf : Cf) (s : St) (o : Oper) : Option St :=
  if isCall o && !cf.rf then
    match yieldA cf.stop cf.lid s o with
    | some s' => some s'
    | none => stepOp P cf.C s o
  else stepOp P cf.C s o

def runL (P : Program) (cf : Cf) (ops : Array Oper) : List Oper → St → Option St
  | [], s => some s
  | o :: r, s => match wantedA ops s o with
    | some true => if okDst cf.N o then (match stepY P cf s o with | some s' => runL P cf ops r s' | none => none) else none
    | some false => if okDst cf.N o then runL P cf ops r (s.put o.dst skipV) else none
    | none => none

def prepA (cf : Cf) (id : Nat) (s : St) : St := prep (cf.pr id) s

def regionA (P : Program) (cf : Cf) (id : Nat) (ops : Array Oper) (draw : Bool) (s : St) : Option St :=
  if draw then runD P cf.C cf.N ops (cf.dr id) (prepA cf id s) else runL P cf ops ops.toList (prepA cf id s)

/-- the slots that code writes -/
def wr : Code → List Nat
  | .region _ ops _ => ops.toList.filterMap (·.dst)
  | .seq x y => wr x ++ wr y
  | .cond _ x y => wr x ++ wr y
  | .block _ c => wr c
  | .loop c => wr c
  | .rangeFunc _ _ x y => wr x ++ wr y
  | _ => []

def rfOk (kp : List Nat) (ps : List Nat) (x y : Code) : Bool := kp.all fun t => !(wr x).contains t && !(wr y).contains t && !ps.contains t

def pushes : List Nat → List V → St → St
  | p :: ps, v :: vs, s => pushes ps vs (s.push p v)
  | _, _, s => s

def St.back (kp : List Nat) (s : St) : St := { s with σ := pickL kp s.σ }

/-- the rounds of a range over a function -/
def rounds (run : St → Option (Ex × St)) (ps kp : List Nat) : List (List V) → St → Option (Ex × St)
  | [], s => some (.normal, s)
  | vs :: r, s => if vs.length = ps.length then
      match run (pushes ps vs s) with
      | some (.normal, s2) => rounds run ps kp r (s2.back kp)
      | some (e, s2) => some (e, s2.back kp)
      | none => none
    else none

/-- what follows a stretch that ends as usual -/
def andThen (r : Option (Ex × St)) (k : St → Option (Ex × St)) : Option (Ex × St) :=
  match r with
  | some (.normal, s) => k s
  | r => r

/-- what follows a stretch that must end as usual -/
def after (r : Option (Ex × St)) (k : St → Option (Ex × St)) : Option (Ex × St) :=
  match r with
  | some (.normal, s) => k s
  | _ => none

def rangeA (cf : Cf) (run : St → Option (Ex × St)) (g : Operand) (ps : Array Tmp) (x y : Code) (s : St) : Option (Ex × St) :=
  match ev s g with
  | .fn f first caps => if cf.rf && ps.toList.all (fun p => decide (p < cf.N)) && rfOk (cf.kp ps.toList) ps.toList x y && first.all V.still && caps.all V.still then
      (cf.It f first caps).bind fun items => rounds run ps.toList (cf.kp ps.toList) items (s.back (cf.kp ps.toList))
    else none
  | _ => none

def branch (v : V) (x y : Option (Ex × St)) : Option (Ex × St) :=
  match v with
  | .bool true => x
  | .bool false => y
  | _ => none

def inBlock (id : Nat) (r : Option (Ex × St)) : Option (Ex × St) :=
  match r with
  | some (.exit i, s) => some (if i = id then .normal else .exit i, s)
  | r => r

def execF (P : Program) (cf : Cf) : Nat → Code → St → Option (Ex × St)
  | 0, _, _ => none
  | n + 1, c, s =>
    match c with
    | .skip => some (.normal, s)
    | .region id ops draw => (regionA P cf id ops draw s).map fun s => (.normal, s)
    | .seq x y => andThen (execF P cf n x s) (execF P cf n y)
    | .cond c x y => branch (ev s c) (execF P cf n x s) (execF P cf n y s)
    | .block id c => inBlock id (execF P cf n c s)
    | .loop c => andThen (execF P cf n c s) (execF P cf n (.loop c))
    | .exit id => some (.exit id, s)
    | .ret => some (.ret, s)
    | .rangeFunc g ps x y => rangeA cf (fun s => after (execF P cf n x s) (execF P cf n y)) g ps x y s
    | _ => none

/-! ### More fuel, no other end -/

theorem andThen_mono {r r' : Option (Ex × St)} {k k' : St → Option (Ex × St)} {q : Ex × St} (hr : ∀ q, r = some q → r' = some q) (hk : ∀ s q, k s = some q → k' s = some q) (h : andThen r k = some q) : andThen r' k' = some q := by
  cases r with
  | none => cases h
  | some p =>
    rw [hr p rfl]
    obtain ⟨e, s⟩ := p
    cases e with
    | normal => exact hk _ _ h
    | exit i => exact h
    | ret => exact h

theorem after_mono {r r' : Option (Ex × St)} {k k' : St → Option (Ex × St)} {q : Ex × St} (hr : ∀ q, r = some q → r' = some q) (hk : ∀ s q, k s = some q → k' s = some q) (h : after r k = some q) : after r' k' = some q := by
  cases r with
  | none => cases h
  | some p =>
    rw [hr p rfl]
    obtain ⟨e, s⟩ := p
    cases e with
    | normal => exact hk _ _ h
    | exit i => cases h
    | ret => cases h

theorem rounds_mono {run run' : St → Option (Ex × St)} {ps kp : List Nat} (hr : ∀ s q, run s = some q → run' s = some q) : ∀ (items : List (List V)) (s : St) (q : Ex × St), rounds run ps kp items s = some q → rounds run' ps kp items s = some q := by
  intro items
  induction items with
  | nil => intro s q h; exact h
  | cons vs r ih =>
    intro s q h
    simp only [rounds] at h ⊢
    split at h <;> try (cases h; done)
    rename_i hl
    rw [if_pos hl]
    cases hx : run (pushes ps vs s) with
    | none => rw [hx] at h; cases h
    | some p =>
      rw [hr _ _ hx]
      rw [hx] at h
      obtain ⟨e, s2⟩ := p
      cases e with
      | normal => exact ih _ _ h
      | exit i => exact h
      | ret => exact h

theorem rangeA_mono {cf : Cf} {run run' : St → Option (Ex × St)} (hr : ∀ s q, run s = some q → run' s = some q) {g : Operand} {ps : Array Tmp} {x y : Code} {s : St} {q : Ex × St} (h : rangeA cf run g ps x y s = some q) : rangeA cf run' g ps x y s = some q := by
  unfold rangeA at h ⊢
  split at h <;> try (cases h; done)
  split at h <;> try (cases h; done)
  rename_i hc
  rw [if_pos hc]
  simp only [Option.bind_eq_some_iff] at h ⊢
  obtain ⟨items, hi, h⟩ := h
  exact ⟨items, hi, rounds_mono hr _ _ _ h⟩

theorem branch_mono {v : V} {x y x' y' : Option (Ex × St)} {q : Ex × St} (hx : ∀ q, x = some q → x' = some q) (hy : ∀ q, y = some q → y' = some q) (h : branch v x y = some q) : branch v x' y' = some q := by
  unfold branch at h ⊢
  split at h
  · exact hx _ h
  · exact hy _ h
  · cases h

theorem inBlock_mono {id : Nat} {r r' : Option (Ex × St)} {q : Ex × St} (hr : ∀ q, r = some q → r' = some q) (h : inBlock id r = some q) : inBlock id r' = some q := by
  cases r with
  | none => cases h
  | some p => rw [hr p rfl]; exact h

theorem execF_mono (cf : Cf) : ∀ (n : Nat) (c : Code) (s : St) (r : Ex × St), execF P cf n c s = some r → execF P cf (n + 1) c s = some r := by
  intro n
  induction n with
  | zero => intro c s r h; simp [execF] at h
  | succ n ih =>
    intro c s r h
    cases c with
    | seq x y => rw [execF] at h ⊢; exact andThen_mono (fun q => ih _ _ _) (fun s q => ih _ _ _) h
    | loop c => rw [execF] at h ⊢; exact andThen_mono (fun q => ih _ _ _) (fun s q => ih _ _ _) h
    | cond c x y => rw [execF] at h ⊢; exact branch_mono (fun q => ih _ _ _) (fun q => ih _ _ _) h
    | block id c => rw [execF] at h ⊢; exact inBlock_mono (fun q => ih _ _ _) h
    | rangeFunc g ps x y => rw [execF] at h ⊢; exact rangeA_mono (fun s q => after_mono (fun q => ih _ _ _) (fun s q => ih _ _ _)) h
    | _ => exact h

theorem execF_le (cf : Cf) {n m : Nat} (hle : n ≤ m) {c : Code} {s : St} {r : Ex × St} (h : execF P cf n c s = some r) : execF P cf m c s = some r := by
  induction m with
  | zero => have : n = 0 := by omega
            subst this; exact h
  | succ m ih =>
    rcases Nat.lt_or_ge m n with h1 | h1
    · have : n = m + 1 := by omega
      subst this; exact h
    · exact execF_mono cf m c s r (ih h1)

open Classical in
/-- what a stretch of code comes to -/
noncomputable def exec (P : Program) (cf : Cf) (c : Code) (s : St) : Option (Ex × St) :=
  if h : ∃ n, (execF P cf n c s).isSome then execF P cf (Classical.choose h) c s else none

theorem exec_iff (cf : Cf) {c : Code} {s : St} {r : Ex × St} : exec P cf c s = some r ↔ ∃ n, execF P cf n c s = some r := by
  unfold exec
  constructor
  · intro h
    split at h
    · exact ⟨_, h⟩
    · cases h
  · rintro ⟨n, hn⟩
    have h : ∃ n, (execF P cf n c s).isSome := ⟨n, by rw [hn]; rfl⟩
    rw [dif_pos h]
    obtain ⟨r', hr'⟩ := Option.isSome_iff_exists.1 (Classical.choose_spec h)
    have h1 := execF_le cf (Nat.le_max_left n (Classical.choose h)) hn
    have h2 := execF_le cf (Nat.le_max_right n (Classical.choose h)) hr'
    rw [h1] at h2
    rw [hr', h2]

theorem exec_skip (cf : Cf) (s : St) : exec P cf .skip s = some (.normal, s) := (exec_iff cf).2 ⟨1, rfl⟩
theorem exec_exit (cf : Cf) (id : Nat) (s : St) : exec P cf (.exit id) s = some (.exit id, s) := (exec_iff cf).2 ⟨1, rfl⟩
theorem exec_ret (cf : Cf) (s : St) : exec P cf .ret s = some (.ret, s) := (exec_iff cf).2 ⟨1, rfl⟩

theorem exec_region (cf : Cf) (id : Nat) (ops : Array Oper) (draw : Bool) (s : St) : exec P cf (.region id ops draw) s = (regionA P cf id ops draw s).map fun s => (.normal, s) := by
  apply Option.ext; intro r
  rw [exec_iff]
  constructor
  · rintro ⟨n, hn⟩
    cases n with
    | zero => simp [execF] at hn
    | succ n => exact hn
  · intro h; exact ⟨1, h⟩

theorem andThen_normal (s : St) (k : St → Option (Ex × St)) : andThen (some (.normal, s)) k = k s := rfl
theorem andThen_exit (i : Nat) (s : St) (k : St → Option (Ex × St)) : andThen (some (.exit i, s)) k = some (.exit i, s) := rfl
theorem andThen_ret (s : St) (k : St → Option (Ex × St)) : andThen (some (.ret, s)) k = some (.ret, s) := rfl

/-- an equation of the fuelled form passes to the limit -/
theorem exec_lim {cf : Cf} {c : Code} {s : St} {rhs : Option (Ex × St)} (h1 : ∀ n q, execF P cf (n + 1) c s = some q → rhs = some q) (h2 : ∀ q, rhs = some q → ∃ n, execF P cf n c s = some q) : exec P cf c s = rhs := by
  apply Option.ext; intro r
  rw [exec_iff]
  constructor
  · rintro ⟨n, hn⟩
    cases n with
    | zero => simp [execF] at hn
    | succ n => exact h1 n r hn
  · exact h2 r

theorem up (cf : Cf) {n : Nat} {c : Code} : ∀ (s : St) (q : Ex × St), execF P cf n c s = some q → exec P cf c s = some q := fun _ _ h => (exec_iff cf).2 ⟨n, h⟩

theorem andThen_fuel {cf : Cf} {x y : Code} {s : St} {q : Ex × St} (h : andThen (exec P cf x s) (exec P cf y) = some q) : ∃ n, andThen (execF P cf n x s) (execF P cf n y) = some q := by
  cases hx : exec P cf x s with
  | none => rw [hx] at h; cases h
  | some p =>
    rw [hx] at h
    obtain ⟨n, hn⟩ := (exec_iff cf).1 hx
    obtain ⟨e, s1⟩ := p
    cases e with
    | normal =>
      obtain ⟨m, hm⟩ := (exec_iff cf).1 (show exec P cf y s1 = some q from h)
      exact ⟨max n m, by rw [execF_le cf (Nat.le_max_left n m) hn]; exact execF_le cf (Nat.le_max_right n m) hm⟩
    | exit i => exact ⟨n, by rw [hn]; exact h⟩
    | ret => exact ⟨n, by rw [hn]; exact h⟩

theorem after_fuel {cf : Cf} {x y : Code} {s : St} {q : Ex × St} (h : after (exec P cf x s) (exec P cf y) = some q) : ∃ n, after (execF P cf n x s) (execF P cf n y) = some q := by
  cases hx : exec P cf x s with
  | none => rw [hx] at h; cases h
  | some p =>
    rw [hx] at h
    obtain ⟨n, hn⟩ := (exec_iff cf).1 hx
    obtain ⟨e, s1⟩ := p
    cases e with
    | normal =>
      obtain ⟨m, hm⟩ := (exec_iff cf).1 (show exec P cf y s1 = some q from h)
      exact ⟨max n m, by rw [execF_le cf (Nat.le_max_left n m) hn]; exact execF_le cf (Nat.le_max_right n m) hm⟩
    | exit i => cases h
    | ret => cases h

theorem exec_seq (cf : Cf) (x y : Code) (s : St) : exec P cf (.seq x y) s = andThen (exec P cf x s) (exec P cf y) :=
  exec_lim (fun n q h => andThen_mono (fun q => up cf _ q) (up cf) (show andThen (execF P cf n x s) (execF P cf n y) = some q from h)) fun q h => by
    obtain ⟨n, hn⟩ := andThen_fuel h
    exact ⟨n + 1, hn⟩

theorem exec_loop (cf : Cf) (c : Code) (s : St) : exec P cf (.loop c) s = andThen (exec P cf c s) (exec P cf (.loop c)) :=
  exec_lim (fun n q h => andThen_mono (fun q => up cf _ q) (up cf) (show andThen (execF P cf n c s) (execF P cf n (.loop c)) = some q from h)) fun q h => by
    obtain ⟨n, hn⟩ := andThen_fuel h
    exact ⟨n + 1, hn⟩

theorem branch_true (x y : Option (Ex × St)) : branch (.bool true) x y = x := rfl
theorem branch_false (x y : Option (Ex × St)) : branch (.bool false) x y = y := rfl
theorem branch_dec (p : Prop) [Decidable p] (x y : Option (Ex × St)) : branch (.bool (decide p)) x y = if p then x else y := by
  by_cases h : p <;> simp [h, branch]
theorem branch_bool (b : Bool) (x y : Option (Ex × St)) : branch (.bool b) x y = if b then x else y := by cases b <;> rfl

theorem exec_cond (cf : Cf) (c : Operand) (x y : Code) (s : St) : exec P cf (.cond c x y) s = branch (ev s c) (exec P cf x s) (exec P cf y s) :=
  exec_lim (fun n q h => branch_mono (up cf _) (up cf _) (show branch (ev s c) (execF P cf n x s) (execF P cf n y s) = some q from h)) fun q h => by
    have hE : ∀ n, execF P cf (n + 1) (.cond c x y) s = branch (ev s c) (execF P cf n x s) (execF P cf n y s) := fun n => rfl
    unfold branch at h
    split at h
    · rename_i hv
      obtain ⟨n, hn⟩ := (exec_iff cf).1 h
      exact ⟨n + 1, by rw [hE, hv]; exact hn⟩
    · rename_i hv
      obtain ⟨n, hn⟩ := (exec_iff cf).1 h
      exact ⟨n + 1, by rw [hE, hv]; exact hn⟩
    · cases h

theorem inBlock_normal (id : Nat) (s : St) : inBlock id (some (.normal, s)) = some (.normal, s) := rfl
theorem inBlock_ret (id : Nat) (s : St) : inBlock id (some (.ret, s)) = some (.ret, s) := rfl
theorem inBlock_exit (id i : Nat) (s : St) : inBlock id (some (.exit i, s)) = some (if i = id then .normal else .exit i, s) := rfl

theorem exec_block (cf : Cf) (id : Nat) (c : Code) (s : St) : exec P cf (.block id c) s = inBlock id (exec P cf c s) :=
  exec_lim (fun n q h => inBlock_mono (up cf _) (show inBlock id (execF P cf n c s) = some q from h)) fun q h => by
    cases hx : exec P cf c s with
    | none => rw [hx] at h; cases h
    | some p =>
      rw [hx] at h
      obtain ⟨n, hn⟩ := (exec_iff cf).1 hx
      exact ⟨n + 1, by rw [show execF P cf (n + 1) (.block id c) s = inBlock id (execF P cf n c s) from rfl, hn]; exact h⟩

theorem rounds_fuel {cf : Cf} {x y : Code} {ps kp : List Nat} : ∀ (items : List (List V)) (s : St) (q : Ex × St), rounds (fun s => after (exec P cf x s) (exec P cf y)) ps kp items s = some q →
    ∃ n, rounds (fun s => after (execF P cf n x s) (execF P cf n y)) ps kp items s = some q := by
  intro items
  induction items with
  | nil => intro s q h; exact ⟨0, h⟩
  | cons vs r ih =>
    intro s q h
    simp only [rounds] at h
    split at h <;> try (cases h; done)
    rename_i hl
    cases hx : after (exec P cf x (pushes ps vs s)) (exec P cf y) with
    | none => rw [hx] at h; cases h
    | some p =>
      rw [hx] at h
      obtain ⟨n, hn⟩ := after_fuel hx
      have mono : ∀ {n m : Nat}, n ≤ m → ∀ (s : St) (q : Ex × St), after (execF P cf n x s) (execF P cf n y) = some q → after (execF P cf m x s) (execF P cf m y) = some q :=
        fun hle s q h => after_mono (fun q => execF_le cf hle) (fun s q => execF_le cf hle) h
      obtain ⟨e, s2⟩ := p
      cases e with
      | normal =>
        obtain ⟨m, hm⟩ := ih _ _ h
        refine ⟨max n m, ?_⟩
        simp only [rounds, if_pos hl, mono (Nat.le_max_left n m) _ _ hn]
        exact rounds_mono (mono (Nat.le_max_right n m)) _ _ _ hm
      | exit i =>
        refine ⟨n, ?_⟩
        simp only [rounds, if_pos hl, hn]; exact h
      | ret =>
        refine ⟨n, ?_⟩
        simp only [rounds, if_pos hl, hn]; exact h

theorem exec_range (cf : Cf) (g : Operand) (ps : Array Tmp) (x y : Code) (s : St) : exec P cf (.rangeFunc g ps x y) s = rangeA cf (fun s => after (exec P cf x s) (exec P cf y)) g ps x y s :=
  exec_lim (fun n q h => rangeA_mono (fun s q => after_mono (up cf _) (up cf)) (show rangeA cf (fun s => after (execF P cf n x s) (execF P cf n y)) g ps x y s = some q from h)) fun q h => by
    have hE : ∀ n, execF P cf (n + 1) (.rangeFunc g ps x y) s = rangeA cf (fun s => after (execF P cf n x s) (execF P cf n y)) g ps x y s := fun n => rfl
    unfold rangeA at h
    split at h <;> try (cases h; done)
    rename_i f first caps hg
    split at h <;> try (cases h; done)
    rename_i hc
    simp only [Option.bind_eq_some_iff] at h
    obtain ⟨items, hi, h⟩ := h
    obtain ⟨n, hn⟩ := rounds_fuel _ _ _ h
    refine ⟨n + 1, ?_⟩
    rw [hE]
    unfold rangeA
    simp only [hg, if_pos hc, hi, Option.bind_some]
    exact hn

/-! ### What has been handed to the loop's body only grows -/

theorem stepY_out {cf : Cf} {s' : St} {o : Oper} (h : stepY P cf s o = some s') : s.gl.out <+: s'.gl.out ∧ s'.gl.g = s.gl.g := by
  have plain : stepOp P cf.C s o = some s' → s.gl.out <+: s'.gl.out ∧ s'.gl.g = s.gl.g := fun h => by
    rw [stepOp_gl h]; exact ⟨List.prefix_refl _, rfl⟩
  unfold stepY at h
  split at h
  · split at h
    · rename_i s1 h1
      simp only [Option.some.injEq] at h; subst h
      obtain ⟨h2, vs, h3⟩ := yieldA_gl h1
      rw [h3]
      exact ⟨List.prefix_append _ _, h2⟩
    · exact plain h
  · exact plain h

theorem runL_out {cf : Cf} {ops : Array Oper} : ∀ (os : List Oper) {s s' : St}, runL P cf ops os s = some s' → s.gl.out <+: s'.gl.out ∧ s'.gl.g = s.gl.g := by
  intro os
  induction os with
  | nil => intro s s' h; simp only [runL, Option.some.injEq] at h; subst h; exact ⟨List.prefix_refl _, rfl⟩
  | cons o r ih =>
    intro s s' h
    simp only [runL] at h
    split at h
    · split at h <;> try (cases h; done)
      split at h <;> try (cases h; done)
      rename_i s1 h1
      obtain ⟨p1, p2⟩ := stepY_out h1
      obtain ⟨q1, q2⟩ := ih h
      exact ⟨p1.trans q1, q2.trans p2⟩
    · split at h <;> try (cases h; done)
      obtain ⟨q1, q2⟩ := ih h
      rw [put_gl] at q1 q2
      exact ⟨q1, q2⟩
    · cases h

theorem prepA_gl (cf : Cf) (id : Nat) (s : St) : (prepA cf id s).gl = s.gl := prep_gl _ s

theorem regionA_out {cf : Cf} {id : Nat} {ops : Array Oper} {draw : Bool} {s' : St} (h : regionA P cf id ops draw s = some s') : s.gl.out <+: s'.gl.out ∧ s'.gl.g = s.gl.g := by
  unfold regionA at h
  split at h
  · unfold runD at h
    split at h <;> try (cases h; done)
    simp only [Option.bind_eq_some_iff] at h
    obtain ⟨R, hR, h⟩ := h
    split at h <;> try (cases h; done)
    simp only [Option.some.injEq] at h; subst h
    rw [stJ_gl]
    have : ∀ (ks : List Nat) (s : St), (ks.foldl (fun s k => vacate k s) s).gl = s.gl := by
      intro ks
      induction ks with
      | nil => intro s; rfl
      | cons k ks ih => intro s; rw [List.foldl_cons, ih]; exact vacateO_gl (some k) s
    rw [this, prepA_gl]
    exact ⟨List.prefix_refl _, rfl⟩
  · have h1 := runL_out _ h
    rw [prepA_gl] at h1
    exact h1

theorem pushes_gl : ∀ (ps : List Nat) (vs : List V) (s : St), (pushes ps vs s).gl = s.gl ∧ (pushes ps vs s).co = s.co := by
  intro ps
  induction ps with
  | nil => intro vs s; exact ⟨rfl, rfl⟩
  | cons p ps ih =>
    intro vs s
    cases vs with
    | nil => exact ⟨rfl, rfl⟩
    | cons v vs => exact ih vs (s.push p v)

theorem rounds_out {run : St → Option (Ex × St)} {ps kp : List Nat} (hr : ∀ s e s', run s = some (e, s') → s.gl.out <+: s'.gl.out ∧ s'.gl.g = s.gl.g) : ∀ (items : List (List V)) (s : St) (e : Ex) (s' : St), rounds run ps kp items s = some (e, s') → s.gl.out <+: s'.gl.out ∧ s'.gl.g = s.gl.g := by
  intro items
  induction items with
  | nil => intro s e s' h; simp only [rounds, Option.some.injEq, Prod.mk.injEq] at h; rw [← h.2]; exact ⟨List.prefix_refl _, rfl⟩
  | cons vs r ih =>
    intro s e s' h
    simp only [rounds] at h
    split at h <;> try (cases h; done)
    split at h
    · rename_i s2 hx
      have h1 := hr _ _ _ hx
      have h2 := ih _ _ _ h
      rw [(pushes_gl ps vs s).1] at h1
      exact ⟨h1.1.trans h2.1, h2.2.trans h1.2⟩
    · rename_i e2 s2 _ hx
      simp only [Option.some.injEq, Prod.mk.injEq] at h
      have h1 := hr _ _ _ hx
      rw [(pushes_gl ps vs s).1] at h1
      rw [← h.2]; exact h1
    · cases h

theorem execF_out {cf : Cf} : ∀ (n : Nat) (c : Code) {s : St} {e : Ex} {s' : St}, execF P cf n c s = some (e, s') → s.gl.out <+: s'.gl.out ∧ s'.gl.g = s.gl.g := by
  intro n
  induction n with
  | zero => intro c s e s' h; simp [execF] at h
  | succ n ih =>
    intro c s e s' h
    have two : ∀ (x : Code) (k : St → Option (Ex × St)) {s : St} {e : Ex} {s' : St}, (∀ s e s', k s = some (e, s') → s.gl.out <+: s'.gl.out ∧ s'.gl.g = s.gl.g) → andThen (execF P cf n x s) k = some (e, s') → s.gl.out <+: s'.gl.out ∧ s'.gl.g = s.gl.g := by
      intro x k s e s' hk h
      cases hx : execF P cf n x s with
      | none => rw [hx] at h; cases h
      | some p =>
        rw [hx] at h
        obtain ⟨e1, s1⟩ := p
        have h1 := ih _ hx
        cases e1 with
        | normal =>
          have h2 := hk _ _ _ h
          exact ⟨h1.1.trans h2.1, h2.2.trans h1.2⟩
        | exit i => simp only [andThen, Option.some.injEq, Prod.mk.injEq] at h; rw [← h.2]; exact h1
        | ret => simp only [andThen, Option.some.injEq, Prod.mk.injEq] at h; rw [← h.2]; exact h1
    cases c with
    | skip => simp only [execF, Option.some.injEq, Prod.mk.injEq] at h; rw [← h.2]; exact ⟨List.prefix_refl _, rfl⟩
    | exit id => simp only [execF, Option.some.injEq, Prod.mk.injEq] at h; rw [← h.2]; exact ⟨List.prefix_refl _, rfl⟩
    | ret => simp only [execF, Option.some.injEq, Prod.mk.injEq] at h; rw [← h.2]; exact ⟨List.prefix_refl _, rfl⟩
    | region id ops draw =>
      simp only [execF, Option.map_eq_some_iff, Prod.mk.injEq] at h
      obtain ⟨s1, h1, rfl, rfl⟩ := h
      exact regionA_out h1
    | seq x y => rw [execF] at h; exact two x _ (fun s e s' => ih _) h
    | loop c => rw [execF] at h; exact two c _ (fun s e s' => ih _) h
    | cond c x y =>
      rw [execF] at h
      unfold branch at h
      split at h
      · exact ih _ h
      · exact ih _ h
      · cases h
    | block id c =>
      rw [execF] at h
      cases hx : execF P cf n c s with
      | none => rw [hx] at h; cases h
      | some p =>
        rw [hx] at h
        obtain ⟨e1, s1⟩ := p
        have h1 := ih _ hx
        cases e1 <;> (simp only [inBlock, Option.some.injEq, Prod.mk.injEq] at h; rw [← h.2]; exact h1)
    | rangeFunc g ps x y =>
      rw [execF] at h
      unfold rangeA at h
      split at h <;> try (cases h; done)
      split at h <;> try (cases h; done)
      simp only [Option.bind_eq_some_iff] at h
      obtain ⟨items, hi, h⟩ := h
      have hrun : ∀ s e s', (after (execF P cf n x s) (execF P cf n y)) = some (e, s') → s.gl.out <+: s'.gl.out ∧ s'.gl.g = s.gl.g := by
       intro s e s' hx
       cases hx1 : execF P cf n x s with
       | none => rw [hx1] at hx; cases hx
       | some p =>
         rw [hx1] at hx
         obtain ⟨e1, s1⟩ := p
         have h1 := ih _ hx1
         cases e1 with
         | normal =>
           have h2 := ih _ (show execF P cf n y s1 = some (e, s') from hx)
           exact ⟨h1.1.trans h2.1, h2.2.trans h1.2⟩
         | exit i => cases hx
         | ret => cases hx
      have h1 := rounds_out hrun _ _ _ _ h
      exact h1
    | scope c => simp [execF] at h
    | label c => simp [execF] at h
    | goto c => simp [execF] at h
    | refuse c => simp [execF] at h

end Go.Ai

namespace Go.Ai
open Go
variable {P : Program} {w : World} {L : Nat → Prop} {l : Lay} {s : St} {a : Act}

/-- what a stretch has left, and what follows it -/
theorem After.comp {Y : Option (Pro P)} {W : Nat → Prop} {s1 s2 : St} {a1 a2 : Act} {w1 w2 : World} {L1 : Nat → Prop} {l1 : Lay} (f1 : FrY Y w L l s.co w1 L1 l1 s1.co) {ms1 : List Nat} (d1 : a1.defers = ms1.map mkD ++ a.defers) (n1 : ms1.Nodup) (y1 : Y.isSome = true → ms1 = [])
    (m1 : ∀ r ∈ ms1, w1.heap[r]? = some (.deferred (some [])) ∧ ¬ excl l1 s1.co r ∧ ¬ L1 r ∧ w.heap.size ≤ r) (z1 : a1.tmps.size = a.tmps.size) (g1 : s1.gl.g = s.gl.g) (t1 : ∀ t, ¬ W t → a1.tmps.getD t undef = a.tmps.getD t undef)
    (h' : After Y W w1 L1 l1 s1 a1 s2 a2 w2) : After Y W w L l s a s2 a2 w2 := by
  obtain ⟨⟨L2, l2, r2, v2, f2, ms2, d2, n2, y2, m2⟩, z2, g2, t2⟩ := h'
  have lt1 : ∀ r ∈ ms1, r < w1.heap.size := fun r hr => (Array.getElem?_eq_some_iff.1 (m1 r hr).1).1
  refine ⟨⟨L2, l2, r2, v2, f1.trans f2, ms2 ++ ms1, by rw [d2, d1]; simp, List.nodup_append.2 ⟨n2, n1, fun r hr r' hr' e => ?_⟩, fun hy => by rw [y2 hy, y1 hy]; rfl, fun r hr => ?_⟩, z2.trans z1, g2.trans g1, fun t ht => (t2 t ht).trans (t1 t ht)⟩
  · subst e
    have := lt1 r hr'
    have := (m2 r hr).2.2.2
    omega
  · rcases List.mem_append.1 hr with h1 | h1
    · obtain ⟨p1, p2, p3, p4⟩ := m2 r h1
      exact ⟨p1, p2, p3, Nat.le_trans f1.size p4⟩
    · obtain ⟨p1, p2, p3, p4⟩ := m1 r h1
      obtain ⟨q1, q2, q3⟩ := f2.keep r (lt1 r h1) p2 (fun _ => p3)
      exact ⟨q1.trans p1, q2, q3 p3, p4⟩

/-- the run's mode fits the protocol -/
def Mode (cf : Cf) (Y : Option (Pro P)) : Prop :=
  match Y with
  | none => cf.rf = true
  | some y => cf.rf = false ∧ cf.stop = y.stop ∧ cf.lid = y.l

theorem runL_sound {F : Fence} (hF : WideF F) {n : Nat} {cf : Cf} {Y : Option (Pro P)} (hY : Mode cf Y) {W : Nat → Prop} {ops : Array Oper} (hW : ∀ (i : Nat) (o : Oper) (t : Nat), ops[i]? = some o → o.dst = some t → W t) {Q : Exit → Act → World → Prop} :
    ∀ (os : List Oper) (i : Nat), ops.toList.drop i = os → ∀ {w : World} {L : Nat → Prop} {l : Lay} {s : St} {a : Act} {s' : St}, Rel w L l s a → Live Y w (excl l s.co) L s → a.tmps.size = cf.N → cf.C.Ok P s.gl.g → (∀ y, Y = some y → s'.gl.out <+: y.lim) →
    runL P cf ops os s = some s' → (∀ a' w', After Y W w L l s a s' a' w' → Q .normal a' w') → wpOpsIn F n P ops Q (List.range' i os.length) a w := by
  intro os
  induction os with
  | nil =>
    intro i hi w L l s a s' h hl hN hC hp hs hQ
    simp only [runL, Option.some.injEq] at hs; subst hs
    exact hQ a w (.self h hl)
  | cons o r ih =>
    intro i hi w L l s a s' h hl hN hC hp hs hQ
    have hoi : ops[i]? = some o := by
      have := congrArg (·[0]?) hi
      simpa using this
    have hri : ops.toList.drop (i + 1) = r := by
      have := congrArg (·.drop 1) hi
      simpa [List.drop_drop, Nat.add_comm] using this
    simp only [List.length_cons, List.range'_succ, wpOpsIn, hoi]
    simp only [runL] at hs
    have htm : ∀ (u : Value) (t : Nat), ¬ W t → (a.put o.dst u).tmps.getD t undef = a.tmps.getD t undef := fun u t ht => Act.put_other _ _ _ _ (fun e => ht (hW i o t hoi e))
    split at hs
    · rename_i hw
      rw [wantedA_sound h hw, if_pos rfl]
      split at hs <;> try (cases hs; done)
      rename_i hd
      split at hs <;> try (cases hs; done)
      rename_i s1 h1
      have hd' : ∀ t, o.dst = some t → t < a.tmps.size := fun t ht => hN ▸ okDst_spec hd t ht
      have plain : stepOp P cf.C s o = some s1 → o.wpIn F n P a w (wpOpsIn F n P ops Q (List.range' (i + 1) r.length)) Q := fun h1 => by
        refine (stepOp_sound h hd' hC h1).wp hF fun w' l' u hr hf => ?_
        have hgl := stepOp_gl h1
        exact ih (i + 1) hri hr (hl.step hr hf hgl) (by rw [Act.put_size]; exact hN) (hgl ▸ hC) hp hs fun a' w'' ha => hQ a' w'' (After.cons hf (Act.put_size _ _ _) (Act.put_defers' _ _ _) hgl (htm u) ha)
      unfold stepY at h1
      split at h1
      · rename_i hc
        split at h1
        · rename_i s2 h2
          simp only [Option.some.injEq] at h1; subst h1
          cases Y with
          | none => rw [show cf.rf = true from hY] at hc; simp at hc
          | some y =>
            obtain ⟨_, hst, hli⟩ := hY
            rw [hst, hli] at h2
            refine yield_sound hF h hl (fun t ht => ⟨hd' t ht, hW i o t hoi ht⟩) h2 ((runL_out _ hs).1.trans (hp y rfl)) fun u w' ha => ?_
            obtain ⟨⟨L1, l1, r1, v1, f1, ms1, d1, n1, y1, m1⟩, z1, g1, t1⟩ := ha
            exact ih (i + 1) hri r1 v1 (by rw [Act.put_size]; exact hN) (g1 ▸ hC) hp hs fun a' w'' ha => hQ a' w'' (After.comp f1 d1 n1 y1 m1 z1 g1 t1 ha)
        · exact plain h1
      · exact plain h1
    · rename_i hw
      rw [wantedA_sound h hw, if_neg (by simp)]
      split at hs <;> try (cases hs; done)
      rename_i hd
      have hd' : ∀ t, o.dst = some t → t < a.tmps.size := fun t ht => hN ▸ okDst_spec hd t ht
      have hr := h.put skip_sv o.dst hd'
      have hf : Fr w l s.co w l (s.put o.dst skipV).co := by cases o.dst <;> exact .refl _ _ _
      have hgl := put_gl s o.dst skipV
      exact ⟨fun f _ => hF.fn f, ih (i + 1) hri hr (hl.step hr hf hgl) (by rw [Act.put_size]; exact hN) (hgl ▸ hC) hp hs fun a' w'' ha => hQ a' w'' (After.cons hf (Act.put_size _ _ _) (Act.put_defers' _ _ _) hgl (htm undef) ha)⟩
    · cases hs

theorem prep_rel (cf : Cf) (id : Nat) (h : Rel w L l s a) : ∃ l', Rel w L l' (prepA cf id s) a ∧ Fr w l s.co w l' (prepA cf id s).co := by
  obtain ⟨l', h1, h2, _⟩ := prep_sound (cf.pr id) h
  exact ⟨l', h1, h2⟩

theorem regionA_sound {F : Fence} (hF : WideF F) (hm : P.follows .mixedOrders = true) {k : Nat} {cf : Cf} {Y : Option (Pro P)} (hY : Mode cf Y) {W : Nat → Prop} {id : Nat} {ops : Array Oper} {draw : Bool} {s' : St} {Q : Exit → Act → World → Prop}
    (hW : ∀ t ∈ wr (.region id ops draw), W t) (h : Rel w L l s a) (hl : Live Y w (excl l s.co) L s) (hN : a.tmps.size = cf.N) (hC : cf.C.Ok P s.gl.g) (hp : ∀ y, Y = some y → s'.gl.out <+: y.lim)
    (hs : regionA P cf id ops draw s = some s') (hQ : ∀ a' w', After Y W w L l s a s' a' w' → Q .normal a' w') : (Code.region id ops draw).wpIn F k P Q a w := by
  obtain ⟨l1, h1, hf1⟩ := prep_rel cf id h
  have hg1 := prepA_gl cf id s
  have hl1 := hl.step h1 hf1 hg1
  have hC : cf.C.Ok P (prepA cf id s).gl.g := by rw [hg1]; exact hC
  have hq : ∀ a' w', After Y W w L l1 (prepA cf id s) a s' a' w' → Q .normal a' w' := fun a' w' ha => hQ a' w' (After.cons hf1 rfl rfl hg1 (fun _ _ => rfl) ha)
  have hW' : ∀ (i : Nat) (o : Oper) (t : Nat), ops[i]? = some o → o.dst = some t → W t := fun i o t ho ht => hW t (by
    simp only [wr, List.mem_filterMap]
    exact ⟨o, by rw [Array.mem_toList_iff]; exact Array.mem_of_getElem? ho, ht⟩)
  unfold regionA at hs
  cases draw with
  | true =>
    simp only [if_true] at hs
    exact runD_sound hF hm h1 hl1 hN hC hW' hs hq
  | false =>
    simp only [Bool.false_eq_true, if_false] at hs
    have := runL_sound hF (n := k) hY hW' (Q := Q) ops.toList 0 rfl h1 hl1 hN hC hp hs hq
    refine wpIn_region ?_
    rw [List.range_eq_range']
    simpa using this

/-! ### A range over a function -/

/-- the contract of a function that is ranged over -/
def IterR (P : Program) (G : List (Nat × V)) (f : Nat) (first caps : List V) (items : List (List V)) : Prop :=
  ∀ (y : Pro P), y.items = items → ∀ (w : World) (L : Nat → Prop) (us1 us2 : Array Value), us1.size = first.length → us2.size = caps.length → y.K 0 w (fun _ => False) L → (∀ b, L b → b < w.heap.size) →
    (∀ g v, lk G g = some v → RR w (okP w L) v (.pointer (some ⟨g, 0, none⟩))) →
    (∀ (j : Nat) (v : V) (u : Value), first[j]? = some v → us1[j]? = some u → RR w (okP w L) v u) → (∀ (j : Nat) (v : V) (u : Value), caps[j]? = some v → us2[j]? = some u → RR w (okP w L) v u) →
    Calls P f (us1 ++ #[.func (.yield y.l) #[] #[]] ++ us2) w fun
      | .returned _, w' => ∃ X' L' i', y.K i' w' X' L' ∧ i' = (match y.stop with
          | some k => if k < items.length then k + 1 else items.length
          | none => items.length)
      | _, _ => False

def Its.Ok (P : Program) (G : List (Nat × V)) (I : Its) : Prop := ∀ f first caps items, I f first caps = some items → Enters P f ∧ IterR P G f first caps items

/-- the world has turned in blocks that are lent, and that nothing borrowed lies in -/
theorem Rel.shift {w' : World} {L' : Nat → Prop} (h : Rel w L l s a) (hsz : w.heap.size ≤ w'.heap.size) (hk : ∀ b, b < w.heap.size → ¬ L b → w'.heap[b]? = w.heap[b]? ∧ ¬ L' b) (hM : ∀ b, b < w.heap.size → b < l.M → w'.heap[b]? = w.heap[b]? ∨ excl l s.co b)
    (hlt : ∀ b, L' b → b < w'.heap.size) : Rel w' L' l s a := by
  have hok : ∀ b, okB w L l s.co b → okB w' L' l s.co b ∧ w'.heap[b]? = w.heap[b]? := fun b hb =>
    ⟨⟨Nat.lt_of_lt_of_le hb.1 hsz, (hk b hb.1 hb.2.1).2, hb.2.2⟩, (hk b hb.1 hb.2.1).1⟩
  have hokb : ∀ b, okbB w l s.co b → okbB w' l s.co b ∧ w'.heap[b]? = w.heap[b]? := fun b hb =>
    ⟨⟨hb.1, Nat.lt_of_lt_of_le hb.2.1 hsz, hb.2.2⟩, (hM b hb.2.1 hb.1).resolve_right hb.2.2⟩
  have hS : ∀ {v u}, SV w L l s.co v u → SV w' L' l s.co v u := fun hv => hv.mono hok hokb (fun k hz => ⟨rfl, rfl, hz⟩)
  have hR : ∀ {v u}, SR w L l s.co v u → SR w' L' l s.co v u := fun hv => hv.mono hok
  exact {
    vals := fun t v hv => ⟨(h.vals t v hv).1, hS (h.vals t v hv).2⟩
    objs := fun k o hk' => by
      rcases h.objs k o hk' with h1 | ⟨b, c, h1⟩
      · exact .inl h1
      · have hb := h.lt k o b hk' h1.at_
        exact .inr ⟨b, c, { h1 with heap := (hk b hb.1 hb.2).1.trans h1.heap, val := fun i e j v u x y z => hS (h1.val i e j v u x y z), still := fun hr i e j v u x y z => hR (h1.still hr i e j v u x y z) }⟩
    inj := h.inj
    lt := fun k o b h1 h2 => by
      have := h.lt k o b h1 h2
      exact ⟨Nat.lt_of_lt_of_le this.1 hsz, (hk b this.1 this.2).2⟩
    lent := hlt
    unborn := h.unborn
    glob := fun g v hg => hR (h.glob g v hg) }

/-- fewer blocks are lent -/
theorem Rel.fewer {L' : Nat → Prop} (h : Rel w L l s a) (hL : ∀ b, L' b → L b) : Rel w L' l s a :=
  h.shift (Nat.le_refl _) (fun b _ hn => ⟨rfl, fun h' => hn (hL b h')⟩) (fun _ _ _ => .inl rfl) (fun b hb => h.lent b (hL b hb))

/-- how the rounds go: all end as usual; or one does not -/
theorem rounds_cases {run : St → Option (Ex × St)} {ps kp : List Nat} : ∀ (items : List (List V)) (s : St) (e : Ex) (s' : St), rounds run ps kp items s = some (e, s') →
    ∃ (S : Nat → St) (m : Nat), S 0 = s ∧ m ≤ items.length ∧ (∀ i, i < m → ∃ vs s2, items[i]? = some vs ∧ vs.length = ps.length ∧ run (pushes ps vs (S i)) = some (.normal, s2) ∧ S (i + 1) = s2.back kp) ∧
      ((e = .normal ∧ m = items.length ∧ s' = S m) ∨ (e ≠ .normal ∧ ∃ vs s2, items[m]? = some vs ∧ vs.length = ps.length ∧ run (pushes ps vs (S m)) = some (e, s2) ∧ s' = s2.back kp)) := by
  intro items
  induction items with
  | nil =>
    intro s e s' h
    simp only [rounds, Option.some.injEq, Prod.mk.injEq] at h
    exact ⟨fun _ => s, 0, rfl, Nat.le_refl _, fun i hi => by omega, .inl ⟨h.1.symm, rfl, h.2.symm⟩⟩
  | cons vs r ih =>
    intro s e s' h
    simp only [rounds] at h
    split at h <;> try (cases h; done)
    rename_i hl
    split at h
    · rename_i s2 hx
      obtain ⟨S, m, h0, hm, hall, hend⟩ := ih _ _ _ h
      refine ⟨fun i => match i with | 0 => s | i + 1 => S i, m + 1, rfl, by simp; omega, fun i hi => ?_, ?_⟩
      · cases i with
        | zero => exact ⟨vs, s2, rfl, hl, hx, h0⟩
        | succ i =>
          obtain ⟨vs', s3, p1, p2, p3, p4⟩ := hall i (by omega)
          exact ⟨vs', s3, by simpa using p1, p2, p3, p4⟩
      · rcases hend with ⟨p1, p2, p3⟩ | ⟨p1, vs', s3, p2, p3, p4, p5⟩
        · exact .inl ⟨p1, by simp [p2], p3⟩
        · exact .inr ⟨p1, vs', s3, by simpa using p2, p3, p4, p5⟩
    · rename_i e2 s2 hne hx
      simp only [Option.some.injEq, Prod.mk.injEq] at h
      obtain ⟨rfl, rfl⟩ := h
      exact ⟨fun _ => s, 0, rfl, Nat.zero_le _, fun i hi => by omega, .inr ⟨fun he => hne he, vs, s2, rfl, hl, hx, rfl⟩⟩
    · cases h

theorem back_less (kp : List Nat) (s : St) : Less (s.back kp) s := ⟨fun t v => lk_pickL _ t kp v, fun _ _ hk => hk, fun _ hk => hk, rfl⟩

theorem lk_pickL_mem {α : Type} (r : List (Nat × α)) (t : Nat) : ∀ (ks : List Nat) (x : α), lk (pickL ks r) t = some x → t ∈ ks := by
  intro ks
  induction ks with
  | nil => intro x h; simp [pickL, lk] at h
  | cons k ks ih =>
    intro x h
    simp only [pickL] at h
    split at h
    · rw [lk_cons] at h
      split at h
      · rename_i hk; simp [hk]
      · exact List.mem_cons_of_mem _ (ih x h)
    · exact List.mem_cons_of_mem _ (ih x h)

end Go.Ai

namespace Go.Ai
open Go
variable {P : Program} {w : World} {L : Nat → Prop} {l : Lay} {s : St} {a : Act}

/-- within a round, its loop's record lies where it lay -/
def RoundOk (F : Fence) (w : World) (l : Lay) (c : Co) : Prop := ∀ l0, F.round = some l0 → (∃ r0, w.heap[l0]? = some (.loop r0)) ∧ ¬ excl l c l0

theorem RoundOk.keep {F : Fence} {c c' : Co} {w' : World} {L' : Nat → Prop} {l' : Lay} (h : RoundOk F w l c) (hf : FrY (none : Option (Pro P)) w L l c w' L' l' c') : RoundOk F w' l' c' := by
  intro l0 h0
  obtain ⟨⟨r0, h1⟩, h2⟩ := h l0 h0
  have hlt : l0 < w.heap.size := (Array.getElem?_eq_some_iff.1 h1).1
  obtain ⟨p1, p2, _⟩ := hf.keep l0 hlt h2 (fun hh => by cases hh)
  exact ⟨⟨r0, p1.trans h1⟩, p2⟩

/-- what is to be shown of a stretch of code -/
def Sound (P : Program) (cf : Cf) (n : Nat) (c : Code) : Prop :=
  ∀ {F : Fence}, WideF F → ∀ {k : Nat} {Y : Option (Pro P)}, Mode cf Y → ∀ {W : Nat → Prop}, (∀ t ∈ wr c, W t) → ∀ {w : World} {L : Nat → Prop} {l : Lay} {s : St} {a : Act} {e : Ex} {s' : St} {Q : Exit → Act → World → Prop}, Rel w L l s a → Live Y w (excl l s.co) L s → a.tmps.size = cf.N →
    cf.C.Ok P s.gl.g → cf.It.Ok P s.gl.g → (Y = none → RoundOk F w l s.co) → (∀ y, Y = some y → s'.gl.out <+: y.lim) → execF P cf n c s = some (e, s') → (∀ a' w', After Y W w L l s a s' a' w' → Q e.to a' w') → c.wpIn F k P Q a w

theorem alloc_old (w : World) (o : Go.Obj) (b : Nat) (h : b < w.heap.size) : (w.alloc o).heap[b]? = w.heap[b]? := by
  show (w.heap.push o)[b]? = w.heap[b]?
  simp [Array.getElem?_push, Nat.ne_of_lt h]

theorem enter_run {F : Fence} (fn : FuncId) (tmps : Array Value) (ps : Array Tmp) (x y : Code) {c : Co} (hro : RoundOk F w l c) :
    ∃ (w2 : World) (lr : Nat) (ms : List Nat) (D : Nat), (Instr.enterLoop fn tmps ps x y F.round).run P w = .ok (lr, ms.map mkD) w2 ∧ Kept w w2 ∧ w.heap.size ≤ lr ∧ w2.heap[lr]? = some (.loop { state := .ready, pending := none, fn, tmps, params := ps, assign := x, body := y, defers := D }) ∧
      ms.Nodup ∧ ∀ r ∈ ms, w.heap.size ≤ r ∧ r ≠ lr ∧ w2.heap[r]? = some (.deferred (some [])) := by
  cases hr : F.round with
  | none =>
    refine ⟨_, w.heap.size + 1, [w.heap.size], w.heap.size, run_enterLoop_outer fn tmps ps x y, ⟨by simp; omega, fun b hb => ?_, ⟨rfl, rfl⟩⟩, by omega, ?_, by simp, fun r hr => ?_⟩
    · rw [alloc_old _ _ b (by simp; omega), alloc_old _ _ b hb]
    · have := World.alloc_heap_new (w.alloc (.deferred (some []))) (.loop { state := .ready, pending := none, fn, tmps, params := ps, assign := x, body := y, defers := w.heap.size })
      simpa using this
    · simp only [List.mem_singleton] at hr; subst hr
      exact ⟨Nat.le_refl _, by omega, by rw [alloc_old _ _ _ (by simp)]; exact World.alloc_heap_new _ _⟩
  | some l0 =>
    obtain ⟨⟨r0, h1⟩, _⟩ := hro l0 hr
    exact ⟨_, w.heap.size, [], r0.defers, run_enterLoop_inner h1 fn tmps ps x y, ⟨by simp, fun b hb => alloc_old _ _ b hb, ⟨rfl, rfl⟩⟩, Nat.le_refl _, World.alloc_heap_new _ _, .nil, fun r hr => by cases hr⟩

theorem pushes_rel : ∀ (ps : List Nat) (vs : List V) (us : List Value) {s : St} {a : Act}, Rel w L l s a → vs.length = ps.length → us.length = vs.length → (∀ p ∈ ps, p < a.tmps.size) → (∀ (j : Nat) (v : V) (u : Value), vs[j]? = some v → us[j]? = some u → SV w L l s.co v u) →
    Rel w L l (pushes ps vs s) { a with tmps := (ps.zip us).foldl (fun tmps (t, x) => tmps.setIfInBounds t x) a.tmps } ∧ ((ps.zip us).foldl (fun tmps (t, x) => tmps.setIfInBounds t x) a.tmps).size = a.tmps.size ∧
      ∀ t, t ∉ ps → ((ps.zip us).foldl (fun tmps (t, x) => tmps.setIfInBounds t x) a.tmps).getD t undef = a.tmps.getD t undef := by
  intro ps
  induction ps with
  | nil => intro vs us s a h _ _ _ _; exact ⟨h, rfl, fun _ _ => rfl⟩
  | cons p ps ih =>
    intro vs us s a h h1 h2 hp hv
    cases vs with
    | nil => simp at h1
    | cons v vs =>
      cases us with
      | nil => simp at h2
      | cons u us =>
        have hp0 : p < a.tmps.size := hp p (by simp)
        have h3 := h.push (hv 0 v u rfl rfl) p hp0
        have hsz : (a.put (some p) u).tmps.size = a.tmps.size := Act.put_size _ _ _
        obtain ⟨q1, q2, q3⟩ := ih vs us h3 (by simpa using h1) (by simpa using h2) (fun q hq => by rw [hsz]; exact hp q (by simp [hq])) (fun j v' u' hj hu => hv (j + 1) v' u' (by simpa using hj) (by simpa using hu))
        refine ⟨q1, q2.trans hsz, fun t ht => (q3 t (fun h => ht (by simp [h]))).trans (Act.put_other _ _ _ _ (fun e => ht (by cases e; simp)))⟩

theorem defers_rel (h : Rel w L l s a) (ds : List Deferred) : Rel w L l s { a with defers := ds } := ⟨h.vals, h.objs, h.inj, h.lt, h.lent, h.unborn, h.glob⟩

/-- the act that the loop began with, where its kept slots were not written -/
theorem back_rel {kp : List Nat} {a0 a2 : Act} (h : Rel w L l s a2) (hsz : a2.tmps.size = a0.tmps.size) (ht : ∀ t ∈ kp, a2.tmps.getD t undef = a0.tmps.getD t undef) : Rel w L l (s.back kp) a0 := by
  have h1 := h.forget (back_less kp s)
  refine ⟨fun t v hv => ?_, h1.objs, h1.inj, h1.lt, h1.lent, h1.unborn, h1.glob⟩
  have := h1.vals t v hv
  rw [ht t (lk_pickL_mem _ _ _ _ hv), hsz] at this
  exact this

end Go.Ai

namespace Go.Ai
open Go
variable {P : Program} {w : World} {L : Nat → Prop} {l : Lay} {s : St} {a : Act}

def Lay.reM (l : Lay) (M : Nat) : Lay := { l with M := M }

theorem excl_reM {c : Co} {M b : Nat} : excl (l.reM M) c b ↔ excl l c b := Iff.rfl

/-- what is borrowed lies lower still -/
theorem Rel.reM (h : Rel w L l s a) (M : Nat) (hM : ∀ b, b < l.M → b < w.heap.size → b < M) : Rel w L (l.reM M) s a := by
  have hok : ∀ b, okB w L l s.co b → okB w L (l.reM M) s.co b ∧ w.heap[b]? = w.heap[b]? := fun b hb => ⟨hb, rfl⟩
  have hokb : ∀ b, okbB w l s.co b → okbB w (l.reM M) s.co b ∧ w.heap[b]? = w.heap[b]? := fun b hb => ⟨⟨hM b hb.1 hb.2.1, hb.2⟩, rfl⟩
  have hS : ∀ {v u}, SV w L l s.co v u → SV w L (l.reM M) s.co v u := fun hv => VR.mono (l := l) (l' := l.reM M) hok hokb (fun _ hz => ⟨rfl, rfl, hz⟩) hv
  have hR : ∀ {v u}, SR w L l s.co v u → SR w L (l.reM M) s.co v u := fun hv => hv.mono hok
  exact {
    vals := fun t v hv => ⟨(h.vals t v hv).1, hS (h.vals t v hv).2⟩
    objs := fun k o hk => by
      rcases h.objs k o hk with h1 | ⟨b, c, h1⟩
      · exact .inl h1
      · exact .inr ⟨b, c, { h1 with val := fun i e j v u x y z => hS (h1.val i e j v u x y z), still := fun hr i e j v u x y z => hR (h1.still hr i e j v u x y z) }⟩
    inj := h.inj
    lt := h.lt
    lent := h.lent
    unborn := h.unborn
    glob := fun g v hg => hR (h.glob g v hg) }

/-- the loop's record turns, and nothing else -/
theorem Rel.record {lr : Nat} {o : Go.Obj} (h : Rel w L l s a) (hL : L lr) (hM : l.M ≤ lr) : Rel (w.putObj lr o) L l s a :=
  h.shift (by simp) (fun b _ hn => ⟨World.putObj_heap_other (fun e => hn (e ▸ hL)), hn⟩) (fun b _ hb => .inl (World.putObj_heap_other (by omega))) (fun b hb => by simpa using h.lent b hb)

theorem foldl_zip (ps : Array Tmp) (us : Array Value) (tm : Array Value) : (ps.zip us).foldl (fun tmps (x : Tmp × Value) => tmps.setIfInBounds x.1 x.2) tm = (ps.toList.zip us.toList).foldl (fun tmps (x : Tmp × Value) => tmps.setIfInBounds x.1 x.2) tm := by
  rw [← Array.foldl_toList, Array.toList_zip]

/-- the record of a loop -/
def recOf (fn : FuncId) (tmps : Array Value) (ps : Array Tmp) (x y : Code) (D : Nat) (st : LoopState) (j : Option Code) : Go.Obj :=
  .loop { state := st, pending := j, fn, tmps, params := ps, assign := x, body := y, defers := D }

/-- the record behind a round -/
def recE (fn : FuncId) (tmps : Array Value) (ps : Array Tmp) (x y : Code) (D : Nat) : Ex → Go.Obj
  | .normal => recOf fn tmps ps x y D .ready none
  | .ret => recOf fn tmps ps x y D .done (some .ret)
  | .exit id => recOf fn tmps ps x y D .done (some (.exit id))

/-- what holds between the rounds: of the state S that the rounds so far have come to -/
structure Kp (w0 : World) (L : Nat → Prop) (l : Lay) (s : St) (a : Act) (n2 lr : Nat) (ms : List Nat) (o : Go.Obj) (S : St) (w : World) (X A : Nat → Prop) (lc : Lay) : Prop where
  eqA : A = fun b => L b ∨ excl lc S.co b ∨ b = lr
  rel : Rel w (fun b => L b ∨ X b ∨ b = lr) lc S a
  fr : Fr w0 l s.co w lc S.co
  xlow : ∀ b, X b → n2 ≤ b
  recd : w.heap[lr]? = some o
  ms : ∀ r ∈ ms, w.heap[r]? = some (.deferred (some [])) ∧ ¬ excl lc S.co r ∧ ¬ X r
  gl : S.gl.g = s.gl.g

/-- the ranged function's own doings -/
theorem Kp.step {w0 : World} {n2 lr : Nat} {ms : List Nat} {o : Go.Obj} {S : St} {X A : Nat → Prop} {lc : Lay} (h : Kp w0 L l s a n2 lr ms o S w X A lc) (hM : l.M ≤ n2) (hn : w0.heap.size ≤ n2) (hlr : lr < n2) (hn2 : n2 ≤ w.heap.size) {w' : World} {X' : Nat → Prop} (hio : Io w w')
    (hsz : w.heap.size ≤ w'.heap.size) (hk : ∀ b, b < w.heap.size → ¬ X b → w'.heap[b]? = w.heap[b]? ∧ ¬ X' b) (hX' : ∀ b, X' b → b < w'.heap.size) : Kp w0 L l s a n2 lr ms o S w' X' A lc := by
  have hXlow : ∀ b, b < n2 → ¬ X b := fun b hb hx => by have := h.xlow b hx; omega
  have hlrX := hXlow lr hlr
  have hlrs : lr < w.heap.size := by omega
  refine ⟨h.eqA, ?_, ⟨Nat.le_trans h.fr.size hsz, fun b hb he => ?_, h.fr.M, h.fr.io.trans hio⟩, fun b hb => ?_, (hk lr hlrs hlrX).1.trans h.recd, fun r hr => ?_, h.gl⟩
  · refine h.rel.shift hsz (fun b hb hnb => ?_) (fun b hb hbM => ?_) (fun b hb => ?_)
    · obtain ⟨h1, h2⟩ := hk b hb (fun hx => hnb (.inr (.inl hx)))
      exact ⟨h1, fun hh => hh.elim (fun h => hnb (.inl h)) (fun hh => hh.elim h2 (fun h => hnb (.inr (.inr h))))⟩
    · rw [h.fr.M] at hbM
      exact .inl (hk b hb (hXlow b (by omega))).1
    · rcases hb with hb | hb | hb
      · exact Nat.lt_of_lt_of_le (h.rel.lent b (.inl hb)) hsz
      · exact hX' b hb
      · subst hb; omega
  · obtain ⟨h1, h2⟩ := h.fr.keep b hb he
    exact ⟨(hk b (Nat.lt_of_lt_of_le hb h.fr.size) (hXlow b (by omega))).1.trans h1, h2⟩
  · rcases Nat.lt_or_ge b w.heap.size with h1 | h1
    · by_cases hx : X b
      · exact h.xlow b hx
      · exact absurd hb (hk b h1 hx).2
    · omega
  · obtain ⟨h1, h2, h3⟩ := h.ms r hr
    have hlt : r < w.heap.size := (Array.getElem?_eq_some_iff.1 h1).1
    exact ⟨(hk r hlt h3).1.trans h1, h2, (hk r hlt h3).2⟩

/-- one round: the assignment, the body, the record's end -/
theorem Kp.round {cf : Cf} {n : Nat} {x y : Code} (ihx : Sound P cf n x) (ihy : Sound P cf n y) (hrf : cf.rf = true) {w0 : World} {n2 lr : Nat} {ms : List Nat} {fn : FuncId} {ps : Array Tmp} {D : Nat} {S : St} {X A : Nat → Prop} {lc : Lay}
    (h : Kp w0 L l s a n2 lr ms (recOf fn a.tmps ps x y D .ready none) S w X A lc) (hM : l.M ≤ w0.heap.size) (hlr : w0.heap.size ≤ lr) (hL : ∀ b, L b → b < w0.heap.size) (hms : ∀ r ∈ ms, w0.heap.size ≤ r ∧ r ≠ lr) (hN : a.tmps.size = cf.N) (hC : cf.C.Ok P s.gl.g) (hI : cf.It.Ok P s.gl.g)
    (hps : ∀ p ∈ ps.toList, p < cf.N) {kp : List Nat} (hkp : ∀ t ∈ kp, t ∉ wr x ∧ t ∉ wr y ∧ t ∉ ps.toList) {vs : List V} {us : Array Value} (hvs : vs.length = ps.toList.length) (hus : us.size = vs.length)
    (hXA : ∀ b, X b → ¬ A b) (hv : ∀ (j : Nat) (v : V) (u : Value), vs[j]? = some v → us[j]? = some u → RR w (fun b => b < w.heap.size ∧ ¬ X b ∧ ¬ A b) v u) {e : Ex} {s2 : St} (hrun : after (execF P cf n x (pushes ps.toList vs S)) (execF P cf n y) = some (e, s2))
    {F : Fence} (hF : WideF F) (k : Nat) :
    RoundIn F k P lr fn ((ps.zip us).foldl (fun tmps (x : Tmp × Value) => tmps.setIfInBounds x.1 x.2) a.tmps) x y w fun
      | .returned u, w' => u = .bool (decide (e = .normal)) ∧ ∃ (A' : Nat → Prop) (lc' : Lay), Kp w0 L l s a n2 lr ms (recE fn a.tmps ps x y D e) (s2.back kp) w' X A' lc' ∧
          w.heap.size ≤ w'.heap.size ∧ Io w w' ∧ (∀ b, b < w.heap.size → ¬ A b → w'.heap[b]? = w.heap[b]? ∧ ¬ A' b) ∧ ∀ b, A' b → b < w'.heap.size
      | _, _ => False := by
  have hA := h.eqA
  subst hA
  have hlrl : w.heap.size > lr := (Array.getElem?_eq_some_iff.1 h.recd).1
  have hlcM : lc.M ≤ lr := by rw [h.fr.M]; omega
  have hgl : S.gl.g = s.gl.g := h.gl
  obtain ⟨g, hx, hy⟩ : ∃ sx, execF P cf n x (pushes ps.toList vs S) = some (.normal, sx) ∧ execF P cf n y sx = some (e, s2) := by
    unfold after at hrun
    split at hrun
    · rename_i sx h1; exact ⟨sx, h1, hrun⟩
    · cases hrun
  rw [foldl_zip]
  obtain ⟨q1, q2, q3⟩ := pushes_rel ps.toList vs us.toList h.rel hvs (by simpa using hus) (fun p hp => by rw [hN]; exact hps p hp) (fun j v u p q => .rr ((hv j v u p (by simpa using q)).mono (fun b hb =>
    ⟨⟨hb.1, fun hh => hh.elim (fun h => hb.2.2 (.inl h)) (fun hh => hh.elim hb.2.1 (fun h => hb.2.2 (.inr (.inr h)))), fun he => hb.2.2 (.inr (.inl he))⟩, rfl⟩)))
  have hco : (pushes ps.toList vs S).co = S.co := (pushes_gl _ _ _).2
  have hglp : (pushes ps.toList vs S).gl = S.gl := (pushes_gl _ _ _).1
  generalize htm : (ps.toList.zip us.toList).foldl (fun tmps (x : Tmp × Value) => tmps.setIfInBounds x.1 x.2) a.tmps = tm at q1 q2 q3
  have hF1 : WideF (F.inRound lr) := by obtain ⟨r, rfl⟩ := hF; exact ⟨some lr, rfl⟩
  have hround : (F.inRound lr).round = some lr := rfl
  have hnx : ∀ {w1 : World} {c1 : Co} {l1 : Lay} {s1 : St} {a1 : Act}, Rel w1 (fun b => L b ∨ X b ∨ b = lr) l1 s1 a1 → c1 = s1.co → ¬ excl l1 c1 lr := by
    rintro w1 c1 l1 s1 a1 hr rfl ⟨k, o, h1, h2⟩
    exact (hr.lt k o lr h1 h2).2 (.inr (.inr rfl))
  refine roundIn_of_wpIn (hF.fn fn) ?_
  have q1' := defers_rel q1 []
  refine ihx hF1 (Y := none) hrf (W := fun t => t ∈ wr x) (fun t ht => ht) (s := pushes ps.toList vs S) (a := { tmps := tm, defers := [] }) (l := lc) q1' trivial (q2.trans hN) (by rw [hglp, hgl]; exact hC) (by rw [hglp, hgl]; exact hI)
    (fun _ l0 h0 => ?_) (fun y hy => by cases hy) hx fun a1 w1 ha1 => ?_
  · cases h0
    exact ⟨⟨_, h.recd⟩, hnx q1' rfl⟩
  obtain ⟨⟨L1, l1, r1, _, f1, ms1, d1, _, _, _⟩, z1, g1, t1⟩ := ha1
  have hL1 := f1.same rfl
  subst hL1
  have hlr1 : w1.heap[lr]? = some (recOf fn a.tmps ps x y D .ready none) := (f1.keep lr hlrl (hnx q1' rfl) (fun hh => by cases hh)).1.trans h.recd
  refine ⟨_, run_beginRound hlr1 rfl, ?_⟩
  generalize hbusy : (Go.Obj.loop { ({ state := .ready, pending := none, fn := fn, tmps := a.tmps, params := ps, assign := x, body := y, defers := D } : Loop) with state := .busy }) = ob
  have hl1M : l1.M ≤ lr := by rw [f1.M]; exact hlcM
  have r1' : Rel (w1.putObj lr ob) (fun b => L b ∨ X b ∨ b = lr) l1 g a1 := r1.record (.inr (.inr rfl)) hl1M
  have hlr1l : lr < w1.heap.size := (Array.getElem?_eq_some_iff.1 hlr1).1
  refine ihy hF1 (Y := none) hrf (W := fun t => t ∈ wr y) (fun t ht => ht) r1' trivial (z1.trans (q2.trans hN)) (by rw [g1, hglp, hgl]; exact hC) (by rw [g1, hglp, hgl]; exact hI)
    (fun _ l0 h0 => ?_) (fun y hy => by cases hy) hy fun a2 w2 ha2 => ?_
  · cases h0
    exact ⟨⟨_, by rw [World.putObj_heap_same hlr1l, ← hbusy]⟩, hnx r1' rfl⟩
  obtain ⟨⟨L2, l2, r2, _, f2, ms2, d2, _, _, _⟩, z2, g2, t2⟩ := ha2
  have hL2 := f2.same rfl
  subst hL2
  have hsz1 : (w1.putObj lr ob).heap.size = w1.heap.size := by simp
  have hlr2 : w2.heap[lr]? = some ob := (f2.keep lr (by rw [hsz1]; exact hlr1l) (hnx r1' rfl) (fun hh => by cases hh)).1.trans (World.putObj_heap_same hlr1l)
  have hlr2l : lr < w2.heap.size := (Array.getElem?_eq_some_iff.1 hlr2).1
  have hl2M : l2.M ≤ lr := by rw [f2.M]; exact hl1M
  -- from the round's beginning to its end, but for the record
  have chain : ∀ b, b < w.heap.size → ¬ excl lc S.co b → b ≠ lr → w2.heap[b]? = w.heap[b]? ∧ ¬ excl l2 s2.co b := by
    intro b hb he hne
    obtain ⟨p1, p2, _⟩ := f1.keep b hb (by rw [hco]; exact he) (fun hh => by cases hh)
    have hb1 := Nat.lt_of_lt_of_le hb f1.size
    obtain ⟨p3, p4, _⟩ := f2.keep b (by rw [hsz1]; exact hb1) p2 (fun hh => by cases hh)
    exact ⟨p3.trans ((World.putObj_heap_other hne).trans p1), p4⟩
  have hszw : w.heap.size ≤ w2.heap.size := Nat.le_trans f1.size (by rw [← hsz1]; exact f2.size)
  have hback : ∀ o', Rel (w2.putObj lr o') (fun b => L b ∨ X b ∨ b = lr) l2 (s2.back kp) a := fun o' => by
    refine back_rel (a2 := a2) (r2.record (.inr (.inr rfl)) hl2M) (z2.trans (z1.trans q2)) fun t ht => ?_
    obtain ⟨k1, k2, k3⟩ := hkp t ht
    exact (t2 t k2).trans ((t1 t k1).trans (q3 t k3))
  have fin : ∀ o', ∃ (A' : Nat → Prop) (lc' : Lay), Kp w0 L l s a n2 lr ms o' (s2.back kp) (w2.putObj lr o') X A' lc' ∧ w.heap.size ≤ (w2.putObj lr o').heap.size ∧ Io w (w2.putObj lr o') ∧
      (∀ b, b < w.heap.size → ¬ (L b ∨ excl lc S.co b ∨ b = lr) → (w2.putObj lr o').heap[b]? = w.heap[b]? ∧ ¬ A' b) ∧ ∀ b, A' b → b < (w2.putObj lr o').heap.size := by
    intro o'
    have hiow : Io w (w2.putObj lr o') := (f1.io.trans f2.io)
    refine ⟨fun b => L b ∨ excl l2 (s2.back kp).co b ∨ b = lr, l2, ⟨rfl, hback o', ⟨?_, fun b hb he => ?_, f2.M.trans (f1.M.trans h.fr.M), h.fr.io.trans hiow⟩, h.xlow, World.putObj_heap_same hlr2l, fun r hr => ?_, ?_⟩, ?_, hiow, fun b hb hn => ?_, fun b hb => ?_⟩
    · simpa using Nat.le_trans h.fr.size hszw
    · obtain ⟨p1, p2⟩ := h.fr.keep b hb he
      have hne : b ≠ lr := by omega
      obtain ⟨p3, p4⟩ := chain b (Nat.lt_of_lt_of_le hb h.fr.size) p2 hne
      exact ⟨(World.putObj_heap_other hne).trans (p3.trans p1), p4⟩
    · obtain ⟨p1, p2, p3⟩ := h.ms r hr
      have hne := (hms r hr).2
      obtain ⟨p4, p5⟩ := chain r (Array.getElem?_eq_some_iff.1 p1).1 p2 hne
      exact ⟨(World.putObj_heap_other hne).trans (p4.trans p1), p5, p3⟩
    · show s2.gl.g = s.gl.g
      rw [g2, g1, hglp, hgl]
    · simpa using hszw
    · have hne : b ≠ lr := fun e => hn (.inr (.inr e))
      obtain ⟨p3, p4⟩ := chain b hb (fun he => hn (.inr (.inl he))) hne
      exact ⟨(World.putObj_heap_other hne).trans p3, fun hh => hh.elim (fun h => hn (.inl h)) (fun hh => hh.elim p4 hne)⟩
    · rcases hb with hb | hb | hb
      · have := hL b hb; simp; have := h.fr.size; omega
      · obtain ⟨k, o, h1, h2⟩ := hb
        exact ((hback o').lt k o b h1 h2).1
      · subst hb; simpa using hlr2l
  subst hbusy
  cases e with
  | normal => exact ⟨_, _, run_endRound none hlr2, by simp, fin _⟩
  | ret => exact ⟨_, _, run_endRound (some .ret) hlr2, by simp, fin _⟩
  | exit id => exact ⟨_, _, run_endRound (some (.exit id)) hlr2, by simp, fin _⟩

end Go.Ai

namespace Go.Ai
open Go
variable {P : Program} {w : World} {L : Nat → Prop} {l : Lay} {s : St} {a : Act}

def jumpOf : Ex → Option Code
  | .normal => none
  | .ret => some .ret
  | .exit id => some (.exit id)

theorem range_sound {cf : Cf} {n : Nat} {x y : Code} (ihx : Sound P cf n x) (ihy : Sound P cf n y) {F : Fence} (hF : WideF F) {k : Nat} (hrf : cf.rf = true) {W : Nat → Prop} {e : Ex} {s' : St} {Q : Exit → Act → World → Prop} (h : Rel w L l s a) (hN : a.tmps.size = cf.N)
    (hC : cf.C.Ok P s.gl.g) (hI : cf.It.Ok P s.gl.g) (hro : RoundOk F w l s.co) {g : Operand} {ps : Array Tmp} (hs : rangeA cf (fun s => after (execF P cf n x s) (execF P cf n y)) g ps x y s = some (e, s'))
    (hQ : ∀ a' w', After (none : Option (Pro P)) W w L l s a s' a' w' → Q e.to a' w') : (Code.rangeFunc g ps x y).wpIn F k P Q a w := by
  unfold rangeA at hs
  split at hs <;> try (cases hs; done)
  rename_i f first caps hg
  split at hs <;> try (cases hs; done)
  rename_i hc
  simp only [Option.bind_eq_some_iff] at hs
  obtain ⟨items, hi, hr⟩ := hs
  simp only [Bool.and_eq_true, List.all_eq_true, decide_eq_true_eq] at hc
  obtain ⟨⟨⟨⟨_, hps⟩, hrfo⟩, hst1⟩, hst2⟩ := hc
  generalize hkpe : cf.kp ps.toList = kp at hr hrfo
  have hkp : ∀ t ∈ kp, t ∉ wr x ∧ t ∉ wr y ∧ t ∉ ps.toList := by
    intro t ht
    have := List.all_eq_true.1 hrfo t ht
    simp only [Bool.and_eq_true, Bool.not_eq_true', List.contains_eq_mem, decide_eq_false_iff_not] at this
    exact ⟨this.1.1, this.1.2, this.2⟩
  obtain ⟨S, m, hS0, hml, hall, hend⟩ := rounds_cases _ _ _ _ hr
  obtain ⟨hE, hIter⟩ := hI f first caps items hi
  have hgv := h.ev g
  rw [hg] at hgv
  obtain ⟨us1, us3, he, hs1, hs3, hv1, hv3⟩ := hgv.fn_inv
  refine wpIn_rangeFunc fun fn hfn => ?_
  obtain ⟨w2, lr, ms, D, henter, hk2, hlr, hrec, hnd, hms⟩ := enter_run (P := P) fn a.tmps ps x y hro
  have hlr2 : lr < w2.heap.size := (Array.getElem?_eq_some_iff.1 hrec).1
  -- the two sides
  let l1 := l.reM (min l.M w.heap.size)
  have hl1M : l1.M ≤ w.heap.size := Nat.min_le_right _ _
  let S' : Nat → St := fun i => if i ≤ m then S i else s'
  let ob : Nat → Go.Obj := fun i => if i ≤ m then recOf fn a.tmps ps x y D .ready none else recOf fn a.tmps ps x y D .done (jumpOf e)
  have hmsd : ∀ r ∈ ms, w.heap.size ≤ r ∧ r ≠ lr := fun r hr => ⟨(hms r hr).1, (hms r hr).2.1⟩
  let y0 : Pro P := {
    K := fun i w' X A => w2.heap.size ≤ w'.heap.size ∧ ∃ lc, Kp w L l1 s a w2.heap.size lr ms (ob i) (S' i) w' X A lc
    l := lr
    items := items
    stop := if e = .normal then none else some m
    step := fun {i} {w1} {X} {A} {w'} {X'} hK hsz hio hk hX' => by
      obtain ⟨h1, lc, h2⟩ := hK
      exact ⟨Nat.le_trans h1 hsz, lc, h2.step (Nat.le_trans hl1M hk2.size) hk2.size hlr2 h1 hio hsz hk hX'⟩
    round := fun {i} {w1} {X} {A} {vs} {us} hK hstop hvs hus hXA hv => by
      obtain ⟨h1, lc, h2⟩ := hK
      have him : i ≤ m := by
        by_cases hen : e = .normal
        · rcases hend with ⟨_, q2, _⟩ | ⟨q1, _⟩
          · have := (List.getElem?_eq_some_iff.1 hvs).1; omega
          · exact absurd hen q1
        · exact hstop m (by rw [if_neg hen])
      have hob : ob i = recOf fn a.tmps ps x y D .ready none := if_pos him
      have hSi : S' i = S i := if_pos him
      rw [hob, hSi] at h2
      -- this round's run
      have hone : ∃ e2 s2, vs.length = ps.toList.length ∧ after (execF P cf n x (pushes ps.toList vs (S i))) (execF P cf n y) = some (e2, s2) ∧ S' (i + 1) = s2.back kp ∧
          ob (i + 1) = recE fn a.tmps ps x y D e2 ∧ decide (e2 = .normal) = decide ((if e = .normal then none else some m) ≠ some i) := by
        rcases Nat.lt_or_ge i m with hlt | hge
        · obtain ⟨vs', s2, p1, p2, p3, p4⟩ := hall i hlt
          rw [hvs] at p1; cases p1
          refine ⟨.normal, s2, p2, p3, (if_pos (by omega : i + 1 ≤ m)).trans p4, if_pos (by omega : i + 1 ≤ m), ?_⟩
          have : (if e = Ex.normal then none else some m) ≠ some i := by
            split
            · intro h; cases h
            · intro h; cases h; omega
          simp [this]
        · have him' : i = m := by omega
          subst him'
          rcases hend with ⟨_, q2, _⟩ | ⟨q1, vs', s2, p1, p2, p3, p4⟩
          · have := (List.getElem?_eq_some_iff.1 hvs).1; omega
          · rw [hvs] at p1; cases p1
            refine ⟨e, s2, p2, p3, (if_neg (by omega : ¬ i + 1 ≤ i)).trans p4, (if_neg (by omega : ¬ i + 1 ≤ i)).trans ?_, ?_⟩
            · cases e with
              | normal => exact absurd rfl q1
              | ret => rfl
              | exit id => rfl
            · simp [q1]
      obtain ⟨e2, s2, o1, o2, o3, o4, o5⟩ := hone
      refine ⟨fn, _, x, y, run_yield h2.recd (by rw [hus, o1]; simp), fun F' n' hF' => ?_⟩
      refine (Kp.round ihx ihy hrf h2 hl1M hlr h.lent hmsd hN hC hI (fun p hp => hps p hp) hkp o1 hus hXA hv o2 hF' n').mono fun e' w' he' => ?_
      cases e' with
      | returned u =>
        obtain ⟨r1, A', lc', r2, r3, r4, r5⟩ := he'
        refine ⟨by rw [r1, o5], A', ⟨Nat.le_trans h1 r3, lc', ?_⟩, r3, r4, r5⟩
        rw [o3, o4]; exact r2
      | panicked c => exact he'
      | outgrown => exact he' }
  have hA0 : ∀ b, (L b ∨ excl l1 (S' 0).co b ∨ b = lr) → b < w2.heap.size := by
    intro b hb
    have hS'0 : S' 0 = S 0 := if_pos (Nat.zero_le _)
    rw [hS'0, hS0] at hb
    rcases hb with hb | hb | hb
    · exact Nat.lt_of_lt_of_le (h.lent b hb) hk2.size
    · obtain ⟨k, o, p1, p2⟩ := hb
      exact Nat.lt_of_lt_of_le (h.lt k o b p1 p2).1 hk2.size
    · subst hb; exact hlr2
  have hback := (h.forget (back_less kp s)).reM (min l.M w.heap.size) (fun b h1 h2 => Nat.lt_min.2 ⟨h1, h2⟩)
  have hS'0 : S' 0 = s.back kp := (if_pos (Nat.zero_le _)).trans hS0
  have hK0 : y0.K 0 w2 (fun _ => False) (fun b => L b ∨ excl l1 (S' 0).co b ∨ b = lr) := by
    refine ⟨Nat.le_refl _, l1, rfl, ?_, ⟨hk2.size, fun b hb he => ⟨hk2.keep b hb, ?_⟩, rfl, hk2.io⟩, fun b hb => hb.elim, ?_, fun r hr => ⟨(hms r hr).2.2, ?_, fun hh => hh⟩, ?_⟩
    · rw [hS'0]
      refine hback.shift hk2.size (fun b hb hn => ⟨hk2.keep b hb, fun hh => hh.elim hn (fun hh => hh.elim id (fun e => by omega))⟩) (fun b hb _ => .inl (hk2.keep b hb)) (fun b hb => ?_)
      rcases hb with hb | hb | hb
      · exact Nat.lt_of_lt_of_le (h.lent b hb) hk2.size
      · exact hb.elim
      · subst hb; exact hlr2
    · rw [hS'0]; exact he
    · exact (congrArg _ (if_pos (Nat.zero_le m)) : some (ob 0) = _) ▸ hrec
    · rw [hS'0]
      rintro ⟨k, o, p1, p2⟩
      have := (h.lt k o r p1 p2).1
      have := (hms r hr).1
      omega
    · rw [hS'0]; rfl
  refine ⟨lr, ms.map mkD, w2, { target := .fn (.func f) us3, args := us1 ++ #[.func (.yield lr) #[] #[]] }, w2, f, us1 ++ #[.func (.yield lr) #[] #[]] ++ us3, w2, henter, ?_, fun f' _ => hF.fn f', ?_, fun hd => by simp [hF.depth] at hd, hF.callsIn ?_⟩
  · unfold resolve
    have hmap : (#[Operand.const (.func (.yield lr) #[] #[])] : Array Operand).map a.eval = #[.func (.yield lr) #[] #[]] := by simp [Act.eval]
    simp only []
    rw [he, hmap]
    rfl
  · exact hE.run _ w2
  · have ok1 : ∀ b, okB w L l s.co b → okP w2 (fun b => L b ∨ excl l1 (S' 0).co b ∨ b = lr) b ∧ w2.heap[b]? = w.heap[b]? := by
      intro b hb
      refine ⟨⟨Nat.lt_of_lt_of_le hb.1 hk2.size, fun hh => ?_⟩, hk2.keep b hb.1⟩
      rw [hS'0] at hh
      rcases hh with hh | hh | hh
      · exact hb.2.1 hh
      · exact hb.2.2 hh
      · have := hb.1; omega
    refine (hIter y0 rfl w2 _ us1 us3 hs1 hs3 hK0 hA0 (fun g' v hg' => (h.glob g' v hg').mono ok1) (fun j v u p q => (VR.still (hv1 j v u p q) (hst1 v (List.mem_of_getElem? p))).mono ok1)
      (fun j v u p q => (VR.still (hv3 j v u p q) (hst2 v (List.mem_of_getElem? p))).mono ok1)).mono fun en w3 hen => ?_
    cases en with
    | panicked c => exact hen.elim
    | outgrown => exact hen.elim
    | returned u =>
      obtain ⟨X', L', i', ⟨hw3, lc, hK⟩, hi'⟩ := hen
      have hfin : S' i' = s' ∧ ob i' = recOf fn a.tmps ps x y D (if e = .normal then .ready else .done) (jumpOf e) := by
        rcases hend with ⟨q1, q2, q3⟩ | ⟨q1, vs', s2, p1, p2, p3, p4⟩
        · have : i' = m := by rw [hi']; simp only [y0, q1, if_true]; exact q2.symm
          subst this
          exact ⟨(if_pos (Nat.le_refl _)).trans q3.symm, (if_pos (Nat.le_refl _)).trans (by rw [q1]; rfl)⟩
        · have hlt := (List.getElem?_eq_some_iff.1 p1).1
          have : i' = m + 1 := by rw [hi']; simp only [y0, q1, if_false, hlt, if_true]
          subst this
          exact ⟨if_neg (by omega), (if_neg (by omega : ¬ m + 1 ≤ m)).trans (by rw [if_neg q1])⟩
      rw [hfin.1, hfin.2] at hK
      have hend2 := run_endLoop (P := P) hK.recd (by simp only []; split <;> simp)
      refine ⟨_, _, hend2, ?_⟩
      generalize hexh : (Go.Obj.loop _) = oe
      have hlr3 : lr < w3.heap.size := (Array.getElem?_eq_some_iff.1 hK.recd).1
      have hlcM : lc.M ≤ lr := by rw [hK.fr.M]; omega
      have hrel : Rel (w3.putObj lr oe) L (lc.reM l.M) s' { a with defers := ms.map mkD ++ a.defers } := by
        have r1 := (hK.rel.record (o := oe) (.inr (.inr rfl)) hlcM).fewer (L' := L) (fun b hb => .inl hb)
        have r2 := r1.reM l.M (fun b hb _ => by
          rw [hK.fr.M] at hb
          exact Nat.lt_of_lt_of_le hb (Nat.min_le_left _ _))
        exact defers_rel r2 _
      have haft : After (none : Option (Pro P)) W w L l s a s' { a with defers := ms.map mkD ++ a.defers } (w3.putObj lr oe) := by
        refine ⟨⟨L, lc.reM l.M, hrel, trivial, ⟨by simpa using hK.fr.size, fun b hb hne _ => ?_, fun _ => rfl, rfl, hK.fr.io⟩, ms, rfl, hnd, (fun hh => by cases hh), fun r hr => ?_⟩, rfl, hK.gl, fun _ _ => rfl⟩
        · obtain ⟨p1, p2⟩ := hK.fr.keep b hb hne
          exact ⟨(World.putObj_heap_other (by omega)).trans p1, p2, id⟩
        · obtain ⟨p1, p2, _⟩ := hK.ms r hr
          refine ⟨(World.putObj_heap_other (hmsd r hr).2).trans p1, p2, fun hL => ?_, (hmsd r hr).1⟩
          have := h.lent r hL
          have := (hmsd r hr).1
          omega
      have hq := hQ _ _ haft
      cases e with
      | normal => exact hq
      | ret => exact wpIn_ret hq
      | exit id => exact wpIn_exit hq

end Go.Ai

namespace Go.Ai
open Go
variable {P : Program} {w : World} {L : Nat → Prop} {l : Lay} {s : St} {a : Act}

theorem After.round {F : Fence} {Y : Option (Pro P)} {c : Co} {w' : World} {L' : Nat → Prop} {l' : Lay} {c' : Co} (h : Y = none → RoundOk F w l c) (hf : FrY Y w L l c w' L' l' c') : Y = none → RoundOk F w' l' c' := by
  intro hY
  subst hY
  exact (h rfl).keep hf

/-- what execF comes to, holds of every run -/
theorem execF_sound (hm : P.follows .mixedOrders = true) (cf : Cf) : ∀ (n : Nat) (c : Code), Sound P cf n c := by
  intro n
  induction n using Nat.strongRecOn with
  | _ n ih =>
  intro c F hF k Y hY W hW w L l s a e s' Q h hl hN hC hI hro hp hs hQ
  cases n with
  | zero => simp [execF] at hs
  | succ n =>
  -- one stretch, then another
  have two : ∀ (x y : Code), (∀ t ∈ wr x, W t) → (∀ t ∈ wr y, W t) → andThen (execF P cf n x s) (execF P cf n y) = some (e, s') → x.wpIn F k P (Exit.then (y.wpIn F k P Q) Q) a w := by
    intro x y hx hy hs
    cases hxx : execF P cf n x s with
    | none => rw [hxx] at hs; cases hs
    | some p =>
      rw [hxx] at hs
      obtain ⟨e1, s1⟩ := p
      have hp1 : ∀ y, Y = some y → s1.gl.out <+: y.lim := fun y0 hy0 => by
        cases e1 with
        | normal => exact (execF_out n y (show execF P cf n y s1 = some (e, s') from hs)).1.trans (hp y0 hy0)
        | exit i => simp only [andThen, Option.some.injEq, Prod.mk.injEq] at hs; rw [hs.2]; exact hp y0 hy0
        | ret => simp only [andThen, Option.some.injEq, Prod.mk.injEq] at hs; rw [hs.2]; exact hp y0 hy0
      refine ih n (by omega) x hF hY hx h hl hN hC hI hro hp1 hxx fun a1 w1 ha1 => ?_
      cases e1 with
      | normal =>
        obtain ⟨⟨L1, l1, r1, v1, f1, ms1, d1, n1, y1, m1⟩, z1, g1, t1⟩ := ha1
        exact ih n (by omega) y hF hY hy r1 v1 (z1.trans hN) (g1 ▸ hC) (g1 ▸ hI) (After.round hro f1) hp hs fun a' w' ha => hQ a' w' (After.comp f1 d1 n1 y1 m1 z1 g1 t1 ha)
      | exit i =>
        simp only [andThen, Option.some.injEq, Prod.mk.injEq] at hs
        obtain ⟨rfl, rfl⟩ := hs
        exact hQ a1 w1 ha1
      | ret =>
        simp only [andThen, Option.some.injEq, Prod.mk.injEq] at hs
        obtain ⟨rfl, rfl⟩ := hs
        exact hQ a1 w1 ha1
  cases c with
  | skip =>
    simp only [execF, Option.some.injEq, Prod.mk.injEq] at hs
    obtain ⟨rfl, rfl⟩ := hs
    exact wpIn_skip (hQ a w (.self h hl))
  | region id ops draw =>
    simp only [execF, Option.map_eq_some_iff, Prod.mk.injEq] at hs
    obtain ⟨s1, h1, rfl, rfl⟩ := hs
    exact regionA_sound hF hm hY hW h hl hN hC hp h1 hQ
  | exit id =>
    simp only [execF, Option.some.injEq, Prod.mk.injEq] at hs
    obtain ⟨rfl, rfl⟩ := hs
    exact wpIn_exit (hQ a w (.self h hl))
  | ret =>
    simp only [execF, Option.some.injEq, Prod.mk.injEq] at hs
    obtain ⟨rfl, rfl⟩ := hs
    exact wpIn_ret (hQ a w (.self h hl))
  | seq x y =>
    rw [execF] at hs
    exact wpIn_seq (two x y (fun t ht => hW t (by simp [wr, ht])) (fun t ht => hW t (by simp [wr, ht])) hs)
  | cond c x y =>
    rw [execF] at hs
    unfold branch at hs
    split at hs
    · rename_i hv
      have := h.ev c; rw [hv] at this
      exact wpIn_cond_true (SV.bool_inv this) (ih n (by omega) x hF hY (fun t ht => hW t (by simp [wr, ht])) h hl hN hC hI hro hp hs hQ)
    · rename_i hv
      have := h.ev c; rw [hv] at this
      exact wpIn_cond_false (SV.bool_inv this) (ih n (by omega) y hF hY (fun t ht => hW t (by simp [wr, ht])) h hl hN hC hI hro hp hs hQ)
    · cases hs
  | block id c =>
    rw [execF] at hs
    refine wpIn_block ?_
    cases hx : execF P cf n c s with
    | none => rw [hx] at hs; cases hs
    | some p =>
      rw [hx] at hs
      obtain ⟨e1, s1⟩ := p
      have hp1 : ∀ y, Y = some y → s1.gl.out <+: y.lim := fun y0 hy0 => by
        cases e1 <;> (simp only [inBlock, Option.some.injEq, Prod.mk.injEq] at hs; rw [hs.2]; exact hp y0 hy0)
      refine ih n (by omega) c hF hY (fun t ht => hW t (by simpa [wr] using ht)) h hl hN hC hI hro hp1 hx fun a1 w1 ha1 => ?_
      cases e1 with
      | normal =>
        simp only [inBlock, Option.some.injEq, Prod.mk.injEq] at hs
        obtain ⟨rfl, rfl⟩ := hs
        exact hQ a1 w1 ha1
      | ret =>
        simp only [inBlock, Option.some.injEq, Prod.mk.injEq] at hs
        obtain ⟨rfl, rfl⟩ := hs
        exact hQ a1 w1 ha1
      | exit i =>
        simp only [inBlock, Option.some.injEq, Prod.mk.injEq] at hs
        obtain ⟨rfl, rfl⟩ := hs
        simp only [Ex.to, Exit.inBlock]
        have := hQ a1 w1 ha1
        by_cases hi : i = id
        · subst hi
          simpa [Ex.to] using this
        · simp only [hi, if_false, Ex.to] at this ⊢
          exact this
  | rangeFunc g ps x y =>
    rw [execF] at hs
    cases Y with
    | some y0 =>
      unfold rangeA at hs
      split at hs <;> try (cases hs; done)
      split at hs <;> try (cases hs; done)
      rename_i hc
      rw [show cf.rf = false from hY.1] at hc
      simp at hc
    | none => exact range_sound (ih n (by omega) x) (ih n (by omega) y) hF hY h hN hC hI (hro rfl) hs hQ
  | loop c =>
    -- the rounds, by how much is left
    let J : Nat → Act → World → Prop := fun m a1 w1 => m ≤ n + 1 ∧ ∃ s1, After Y W w L l s a s1 a1 w1 ∧ execF P cf m (.loop c) s1 = some (e, s')
    have ex : ∀ a1 w1, (∃ m, J m a1 w1) → ∃ m, J m a1 w1 ∧ ∀ m', J m' a1 w1 → m ≤ m' := by
      intro a1 w1 ⟨m, hm⟩
      induction m using Nat.strongRecOn with
      | _ m ihm =>
        by_cases hsm : ∃ m', m' < m ∧ J m' a1 w1
        · obtain ⟨m', h1, h2⟩ := hsm; exact ihm m' h1 h2
        · exact ⟨m, hm, fun m' h' => by
            rcases Nat.lt_or_ge m' m with h1 | h1
            · exact absurd ⟨m', h1, h'⟩ hsm
            · exact h1⟩
    let μ : Act → World → Nat := fun a1 w1 => open Classical in if h : ∃ m, J m a1 w1 then Classical.choose (ex a1 w1 h) else 0
    refine wpIn_loop (fun a1 w1 => ∃ m, J m a1 w1) μ ⟨n + 1, Nat.le_refl _, s, .self h hl, hs⟩ fun a1 w1 hI1 => ?_
    have hμ : μ a1 w1 = Classical.choose (ex a1 w1 hI1) := dif_pos hI1
    obtain ⟨⟨hle, s1, ha1, hx1⟩, hmin⟩ := Classical.choose_spec (ex a1 w1 hI1)
    rw [← hμ] at hle hx1
    cases hmm : μ a1 w1 with
    | zero => rw [hmm] at hx1; simp [execF] at hx1
    | succ m =>
      rw [hmm, execF] at hx1
      obtain ⟨⟨L1, l1, r1, v1, f1, ms1, d1, n1, y1, m1⟩, z1, g1, t1⟩ := ha1
      cases hb : execF P cf m c s1 with
      | none => rw [hb] at hx1; cases hx1
      | some p =>
        rw [hb] at hx1
        obtain ⟨e2, s2⟩ := p
        have hp2 : ∀ y, Y = some y → s2.gl.out <+: y.lim := fun y0 hy0 => by
          cases e2 with
          | normal => exact (execF_out m _ (show execF P cf m (.loop c) s2 = some (e, s') from hx1)).1.trans (hp y0 hy0)
          | exit i => simp only [andThen, Option.some.injEq, Prod.mk.injEq] at hx1; rw [hx1.2]; exact hp y0 hy0
          | ret => simp only [andThen, Option.some.injEq, Prod.mk.injEq] at hx1; rw [hx1.2]; exact hp y0 hy0
        refine ih m (by omega) c hF hY (fun t ht => hW t (by simpa [wr] using ht)) r1 v1 (z1.trans hN) (g1 ▸ hC) (g1 ▸ hI) (After.round hro f1) hp2 hb fun a2 w2 ha2 => ?_
        have hall := After.comp f1 d1 n1 y1 m1 z1 g1 t1 ha2
        cases e2 with
        | normal =>
          have hJ : J m a2 w2 := ⟨by omega, s2, hall, hx1⟩
          refine ⟨⟨m, hJ⟩, ?_⟩
          have hI2 : ∃ m, J m a2 w2 := ⟨m, hJ⟩
          have hμ2 : μ a2 w2 = Classical.choose (ex a2 w2 hI2) := dif_pos hI2
          have := (Classical.choose_spec (ex a2 w2 hI2)).2 m hJ
          rw [← hμ2] at this
          omega
        | exit i =>
          simp only [andThen, Option.some.injEq, Prod.mk.injEq] at hx1
          obtain ⟨rfl, rfl⟩ := hx1
          exact hQ a2 w2 hall
        | ret =>
          simp only [andThen, Option.some.injEq, Prod.mk.injEq] at hx1
          obtain ⟨rfl, rfl⟩ := hx1
          exact hQ a2 w2 hall
  | scope c => simp [execF] at hs
  | label c => simp [execF] at hs
  | goto c => simp [execF] at hs
  | refuse c => simp [execF] at hs

end Go.Ai

namespace Go.Ai
open Go
variable {P : Program} {w : World} {L : Nat → Prop} {l : Lay} {s : St} {a : Act}

/-! ## Blocks that are no cells -/

theorem RR.cells {w w' : World} {ok ok' : Nat → Prop} (h : ∀ (b : Nat) (c : Array Value) (el : TypeId) (fz : Nat × Nat), ok b → w.heap[b]? = some (Go.Obj.cells c el fz) → ok' b ∧ w'.heap[b]? = w.heap[b]?) {v : V} {u : Value} (hr : RR w ok v u) : RR w' ok' v u := by
  induction hr with
  | int k n => exact .int k n
  | bool b => exact .bool b
  | str s => exact .str s
  | nilp => exact .nilp
  | nilfn => exact .nilfn
  | nilif => exact .nilif
  | yl l => exact .yl l
  | undef u => exact .undef u
  | snil sz => exact .snil sz
  | sl hok hb hnl hcap hsz hlen hc h1 ih => exact .sl (h _ _ _ _ hok hb).1 ((h _ _ _ _ hok hb).2.trans hb) hnl hcap hsz hlen ih h1
  | ro hok hb hsz hc ih => exact .ro (h _ _ _ _ hok hb).1 ((h _ _ _ _ hok hb).2.trans hb) hsz ih
  | agg hs hc ih => exact .agg hs ih
  | fn hs ht ha hb iha ihb => exact .fn hs ht iha ihb

theorem VR.cells' {w w' : World} {ok okb : Nat → Prop} {l : Lay} {Z : Nat → Prop} (h : ∀ (b : Nat) (c : Array Value) (el : TypeId) (fz : Nat × Nat), w.heap[b]? = some (Go.Obj.cells c el fz) → w'.heap[b]? = w.heap[b]?) {v : V} {u : Value} (hr : VR w ok okb l Z v u) : VR w' ok okb l Z v u := by
  have hR : ∀ {v u}, RR w ok v u → RR w' ok v u := fun hr => hr.cells (fun b c el fz ho hb => ⟨ho, h b c el fz hb⟩)
  induction hr with
  | rr h0 => exact .rr (hR h0)
  | bnil sz => exact .bnil sz
  | bsl hok hb hnl hcap hsz hlen hc h1 => exact .bsl hok ((h _ _ _ _ hb).trans hb) hnl hcap hsz hlen (fun i e j v u a b c => hR (hc i e j v u a b c)) h1
  | bro hok hb hsz hc ih => exact .bro hok ((h _ _ _ _ hb).trans hb) hsz ih
  | rnil sz hz hk => exact .rnil sz hz hk
  | row hz hk hh hc => exact .row hz hk hh hc
  | ptr hz hk => exact .ptr hz hk
  | agg hs hc ih => exact .agg hs ih
  | tup hs hc ih => exact .tup hs ih
  | fn hs ht ha hb iha ihb => exact .fn hs ht iha ihb

/-- a block that is no cells turns -/
theorem Rel.other {w' : World} (h : Rel w L l s a) (hsz : w'.heap.size = w.heap.size) (hk : ∀ (b : Nat) (c : Array Value) (el : TypeId) (fz : Nat × Nat), w.heap[b]? = some (Go.Obj.cells c el fz) → w'.heap[b]? = w.heap[b]?) : Rel w' L l s a := by
  have e1 : okB w' L l s.co = okB w L l s.co := by funext b; simp only [okB, hsz]
  have e2 : okbB w' l s.co = okbB w l s.co := by funext b; simp only [okbB, hsz]
  have hS : ∀ {v u}, SV w L l s.co v u → SV w' L l s.co v u := fun hv => by
    have := VR.cells' hk hv
    rw [← e1, ← e2] at this; exact this
  have hR : ∀ {v u}, SR w L l s.co v u → SR w' L l s.co v u := fun hv => by
    have := hv.cells (w' := w') (fun b c el fz ho hb => ⟨ho, hk b c el fz hb⟩)
    rw [← e1] at this; exact this
  exact {
    vals := fun t v hv => ⟨(h.vals t v hv).1, hS (h.vals t v hv).2⟩
    objs := fun k o hk' => by
      rcases h.objs k o hk' with h1 | ⟨b, c, h1⟩
      · exact .inl h1
      · exact .inr ⟨b, c, { h1 with heap := (hk b _ _ _ h1.heap).trans h1.heap, val := fun i e j v u x y z => hS (h1.val i e j v u x y z), still := fun hr i e j v u x y z => hR (h1.still hr i e j v u x y z) }⟩
    inj := h.inj
    lt := fun k o b h1 h2 => by rw [hsz]; exact h.lt k o b h1 h2
    lent := fun b hb => by rw [hsz]; exact h.lent b hb
    unborn := h.unborn
    glob := fun g v hg => hR (h.glob g v hg) }

/-! ## A function's contract out of its body -/

def enterL : Nat → List V → List (Nat × V)
  | _, [] => []
  | i, v :: r => (i, v) :: enterL (i + 1) r

/-- the state that a function begins in -/
def enterSt (G : List (Nat × V)) (vs : List V) : St := ⟨enterL 0 vs, ⟨[], []⟩, ⟨G, []⟩⟩

theorem lk_enterL : ∀ (vs : List V) (i t : Nat) (v : V), lk (enterL i vs) t = some v → i ≤ t ∧ vs[t - i]? = some v := by
  intro vs
  induction vs with
  | nil => intro i t v h; simp [enterL, lk] at h
  | cons x r ih =>
    intro i t v h
    simp only [enterL, lk_cons] at h
    split at h
    · rename_i he; subst he; exact ⟨Nat.le_refl _, by simpa using h⟩
    · rename_i he
      obtain ⟨h1, h2⟩ := ih (i + 1) t v h
      refine ⟨by omega, ?_⟩
      rw [show t - i = (t - (i + 1)) + 1 from by omega]; simpa using h2

def resV (P : Program) (s : St) : ResultVar → Option V
  | .tmp t => some (s.get t)
  | .cell a t => (s.co.cellsAt (s.get a)).bind fun (e, off) => (ty P t).bind fun T => subv e off T

def resL (P : Program) (s : St) : List ResultVar → Option (List V)
  | [] => some []
  | x :: r => match resV P s x, resL P s r with
    | some v, some vs => some (v :: vs)
    | _, _ => none

/-- what goes back: a slice as one that the caller may own, or as read-only content -/
def handBack (ow : Bool) (c : Co) : List V → Option V
  | [.row k sz lo hi] =>
    if ow then (lk c.ob k).bind fun o => if o.row = true ∧ o.sz = sz ∧ lo = 0 ∧ hi = o.es.length then some (.own o.nl o.el sz o.es) else none
    else give 1000 c (.row k sz lo hi)
  | [v] => give 1000 c v
  | vs => (giveL 1000 c vs).map .tup

theorem res_one (h : Rel w L l s a) {x : ResultVar} {v : V} (hv : resV P s x = some v) :
    ∃ u, (match x with
      | .tmp t => pure (a.tmps.getD t undef)
      | .cell ad t => do loadVar t (← asAddr (a.tmps.getD ad undef)) : Sem Value).run P w = .ok u w ∧ SV w L l s.co v u := by
  cases x with
  | tmp t =>
    simp only [resV, Option.some.injEq] at hv; subst hv
    exact ⟨_, by simp, h.get t⟩
  | cell ad t =>
    simp only [resV, Option.bind_eq_some_iff] at hv
    obtain ⟨⟨e, off⟩, he, T, hT, hs⟩ := hv
    obtain ⟨b, base, cs, el, fz, hu, hb, hsz, hc⟩ := (cellsAt_sound h (h.get ad) he).ex
    obtain ⟨u, hr, hv⟩ := sub_sound (P := P) hb hT hs hsz hc
    exact ⟨u, by simp [hu, asAddr, hr], hv⟩

theorem res_all (h : Rel w L l s a) : ∀ (xs : List ResultVar) (vs : List V), resL P s xs = some vs →
    ∃ us : List Value, (xs.mapM (m := Sem) fun
      | .tmp t => pure (a.tmps.getD t undef)
      | .cell ad t => do loadVar t (← asAddr (a.tmps.getD ad undef))).run P w = .ok us w ∧ us.length = vs.length ∧ ∀ (j : Nat) (v : V) (u : Value), vs[j]? = some v → us[j]? = some u → SV w L l s.co v u := by
  intro xs
  induction xs with
  | nil =>
    intro vs h
    simp only [resL, Option.some.injEq] at h; subst h
    exact ⟨[], by simp, rfl, fun j v u h => by simp at h⟩
  | cons x r ih =>
    intro vs hv
    simp only [resL] at hv
    split at hv <;> try (cases hv; done)
    rename_i v vs' h1 h2
    simp only [Option.some.injEq] at hv; subst hv
    obtain ⟨u, p1, p2⟩ := res_one h h1
    obtain ⟨us, q1, q2, q3⟩ := ih vs' h2
    refine ⟨u :: us, ?_, by simp [q2], fun j v u hj hu => ?_⟩
    · rw [List.mapM_cons]
      simp only [Sem.run_bind]
      rw [p1]
      simp only [Result.andThen_ok]
      rw [q1]
      simp only [Result.andThen_ok, Sem.run_pure]
    · cases j with
      | zero => simp at hj hu; subst hj; subst hu; exact p2
      | succ j => simp at hj hu; exact q3 j v u hj hu

theorem results_sound (h : Rel w L l s a) {fn : Func} {vs : List V} (hv : resL P s fn.results.toList = some vs) :
    ∃ us : Array Value, (results fn a.tmps).run P w = .ok (if h : us.size = 1 then us[0] else .tuple us) w ∧ us.size = vs.length ∧ ∀ (j : Nat) (v : V) (u : Value), vs[j]? = some v → us[j]? = some u → SV w L l s.co v u := by
  obtain ⟨us, h1, h2, h3⟩ := res_all h _ _ hv
  refine ⟨us.toArray, ?_, by simpa using h2, fun j v u p q => h3 j v u p (by simpa using q)⟩
  have : (fn.results.mapM (m := Sem) fun
      | .tmp t => pure (a.tmps.getD t undef)
      | .cell ad t => do loadVar t (← asAddr (a.tmps.getD ad undef))).run P w = .ok us.toArray w := by
    rw [Array.mapM_eq_mapM_toList]
    simp only [Sem.run_map]
    rw [h1]
    rfl
  have e : results fn a.tmps = (do
    let vs ← fn.results.mapM (m := Sem) fun
      | .tmp t => pure (a.tmps.getD t undef)
      | .cell ad t => do loadVar t (← asAddr (a.tmps.getD ad undef))
    pure (if h : vs.size = 1 then vs[0] else .tuple vs)) := rfl
  rw [e, Sem.run_bind, this]
  simp only [Result.andThen_ok, Sem.run_pure]

/-- what goes back, in the world that the callee leaves -/
theorem handBack_sound {w0 : World} {s0 : Co} {l0 : Lay} (h : Rel w L l s a) (hs0 : s0.ob = []) (hF : Fr w0 l0 s0 w l s.co) {ow : Bool} {vs : List V} {r : V} {us : Array Value} (hg : handBack ow s.co vs = some r)
    (hs : us.size = vs.length) (hv : ∀ (j : Nat) (v : V) (u : Value), vs[j]? = some v → us[j]? = some u → SV w L l s.co v u) : Ret w (okP w L) w0.heap.size r (if h : us.size = 1 then us[0] else .tuple us) := by
  have many : ∀ vs', giveL 1000 s.co vs = some vs' → vs.length ≠ 1 → r = .tup vs' → Ret w (okP w L) w0.heap.size r (if h : us.size = 1 then us[0] else .tuple us) := by
    intro vs' hvs' hne hr
    subst hr
    rw [dif_neg (by omega)]
    obtain ⟨h1, h2⟩ := giveL_get 1000 _ _ hvs'
    refine .tup (by omega) fun j v u hj hu => ?_
    obtain ⟨m, x, _, h4, h5⟩ := h2 j v hj
    exact give_sound h m (hv j x u h4 hu) h5
  have one : ∀ v, vs = [v] → give 1000 s.co v = some r → Ret w (okP w L) w0.heap.size r (if h : us.size = 1 then us[0] else .tuple us) := by
    intro v he hgv
    subst he
    have h1 : us.size = 1 := hs
    rw [dif_pos h1]
    exact .rr (give_sound h 1000 (hv 0 v us[0] rfl (by simp [h1])) hgv)
  unfold handBack at hg
  split at hg
  · rename_i k sz lo hi
    split at hg
    · simp only [Option.bind_eq_some_iff] at hg
      obtain ⟨o, ho, hg⟩ := hg
      split at hg <;> try (cases hg; done)
      rename_i hc
      obtain ⟨hrow, rfl, rfl, rfl⟩ := hc
      simp only [Option.some.injEq] at hg; subst hg
      have h1 : us.size = 1 := hs
      rw [dif_pos h1]
      have hr := hv 0 _ us[0] rfl (by simp [h1])
      refine .own ?_
      rcases h.objs k o ho with ⟨_, h3, h4, h5⟩ | ⟨b, c, hL⟩
      · rcases hr.row_inv with ⟨_, _, _, _, he⟩ | ⟨b, hk, _⟩
        · exact .inl ⟨h3, h4, he⟩
        · rw [h5] at hk; cases hk
      · rcases hr.row_inv with ⟨_, _, _, hn, _⟩ | ⟨b', hk, _, _, hcap, he⟩
        · rw [hL.at_] at hn; cases hn
        · rw [hL.at_] at hk; cases hk
          have hb := h.lt k o b ho hL.at_
          have hx : excl l s.co b := ⟨k, o, ho, hL.at_⟩
          refine .inr ⟨b, c, l.κ k, ?_, hb.1, by simpa using he, hL.heap, hL.size, hL.fits, hL.cap, hL.nl, hL.len, fun i e j v x p q r => ⟨(hL.still hrow i e j v x p q r).mono (fun q hq => ⟨⟨⟨hq.1, hq.2.1⟩, fun e => hq.2.2 (e ▸ hx)⟩, rfl⟩), hL.one i e j v x p q r⟩⟩
          rcases Nat.lt_or_ge b w0.heap.size with h6 | h6
          · exact absurd hx (hF.keep b h6 (fun ⟨k', o', h7, _⟩ => by rw [hs0] at h7; simp [lk] at h7)).2
          · exact h6
    · exact one _ rfl hg
  · exact one _ rfl hg
  · rename_i hn _
    simp only [Option.map_eq_some_iff] at hg
    obtain ⟨vs', h1, h2⟩ := hg
    refine many vs' h1 ?_ h2.symm
    intro hl
    obtain ⟨v, hv⟩ := List.length_eq_one_iff.1 hl
    subst hv
    rename_i hn2
    exact hn2 v rfl


/-- the marks are taken, one by one -/
theorem leave_marks {F : Fence} {n : Nat} {fn : Func} {tm : Array Value} {R : Ending → World → Prop} : ∀ (ms : List Nat) (w : World), ms.Nodup → (∀ r ∈ ms, w.heap[r]? = some (.deferred (some []))) →
    (∀ w', w'.heap.size = w.heap.size → Io w w' → (∀ b, b ∉ ms → w'.heap[b]? = w.heap[b]?) → ∃ v, (results fn tm).run P w' = .ok v w' ∧ R (.returned v) w') → LeavesInM F n P fn tm R (ms.map mkD) .returning w := by
  intro ms
  induction ms with
  | nil =>
    intro w _ _ h
    exact h w rfl ⟨rfl, rfl⟩ (fun _ _ => rfl)
  | cons r ms ih =>
    intro w hn hm h
    have hr := hm r (by simp)
    have hlt : r < w.heap.size := (Array.getElem?_eq_some_iff.1 hr).1
    refine ⟨by simp, .inl ⟨r, _, rfl, run_takeDeferred hr, ih _ (List.nodup_cons.1 hn).2 (fun q hq => ?_) (fun w' hs hio hk => ?_)⟩⟩
    · have hne : q ≠ r := fun e => (List.nodup_cons.1 hn).1 (e ▸ hq)
      rw [World.putObj_heap_other hne]
      exact hm q (by simp [hq])
    · refine h w' (by rw [hs]; simp) hio (fun b hb => ?_)
      have hne : b ≠ r := fun e => hb (by simp [e])
      rw [hk b (fun hh => hb (by simp [hh])), World.putObj_heap_other hne]

/-- how a function begins -/
theorem enter_rel {G : List (Nat × V)} {vs : List V} {us : Array Value} {nt : Nat} (hs : us.size = vs.length) (hL : ∀ b, L b → b < w.heap.size) (hG : ∀ g v, lk G g = some v → RR w (okP w L) v (.pointer (some ⟨g, 0, none⟩)))
    (hv : ∀ (j : Nat) (v : V) (u : Value), vs[j]? = some v → us[j]? = some u → PV w (okP w L) (okbP w) v u) :
    Rel w L ⟨fun _ => none, fun _ => 0, w.heap.size⟩ (enterSt G vs) { tmps := us ++ Array.replicate nt undef, defers := [] } := by
  have nx : ∀ b, ¬ excl ⟨fun _ => none, fun _ => 0, w.heap.size⟩ (enterSt G vs).co b := fun b ⟨k, o, h1, _⟩ => by simp [enterSt, lk] at h1
  refine ⟨fun t v ht => ?_, fun k o hk => by simp [enterSt, lk] at hk, fun k k' o o' b hk => by simp [enterSt, lk] at hk, fun k o b hk => by simp [enterSt, lk] at hk, hL, fun k hk => by simp [enterSt] at hk, fun g v hg => ?_⟩
  · obtain ⟨_, h1⟩ := lk_enterL vs 0 t v ht
    rw [Nat.sub_zero] at h1
    have hlt : t < us.size := by rw [hs]; exact (List.getElem?_eq_some_iff.1 h1).1
    refine ⟨by simp; omega, ?_⟩
    have hget : (us ++ Array.replicate nt undef).getD t undef = us[t] := by
      simp [Array.getD_eq_getD_getElem?, Array.getElem?_append_left hlt, hlt]
    simp only [hget]
    exact PV.sv (hv t v us[t] h1 (by simp [hlt])) (fun b hb => ⟨⟨hb.1, hb.2, nx b⟩, rfl⟩) (fun b hb => ⟨⟨hb, hb, nx b⟩, rfl⟩)
  · exact (hG g v hg).mono (fun b hb => ⟨⟨hb.1, hb.2, nx b⟩, rfl⟩)

theorem callR_of_exec (hm : P.follows .mixedOrders = true) {G : List (Nat × V)} {f : FuncId} {fn : Func} {c : Code} {cf : Cf} {vs rs : List V} {e : Ex} {s' : St} {ow : Bool} {r : V}
    (hf : P.funcs[f]? = some fn) (hb : fn.body = some c) (hN : fn.ntmps = cf.N) (hvs : vs.length ≤ cf.N) (hrf : cf.rf = true) (hC : cf.C.Ok P G) (hI : cf.It.Ok P G)
    (hx : exec P cf c (enterSt G vs) = some (e, s')) (he : e = .normal ∨ e = .ret) (hr : resL P s' fn.results.toList = some rs) (hg : handBack ow s'.co rs = some r) : CallR P G f vs r := by
  intro w L us hs hL hG hv
  obtain ⟨n, hn⟩ := (exec_iff cf).1 hx
  have h0 := enter_rel (nt := fn.ntmps - us.size) hs hL hG hv
  have hF : WideF Fence.wide := ⟨none, rfl⟩
  refine callsIn_wide.1 (callsIn_of_wp_marks (n := 0) hf hb trivial (execF_sound hm cf n c hF (Y := none) hrf (W := fun _ => True) (fun _ _ => trivial) h0 trivial ?_ hC hI (fun _ l0 h0 => by cases h0) (fun _ hy => by cases hy) hn fun a' w' ha => ?_))
  · simp; omega
  · obtain ⟨⟨L', l', hrel, _, hfr, ms, hd, hnd, hyn, hms⟩, hsz, hgl, _⟩ := ha
    have hLL : L' = L := hfr.same rfl
    rw [hLL] at hrel hfr hms
    have hnx : ∀ b, ¬ excl ⟨fun _ => none, fun _ => 0, w.heap.size⟩ (enterSt G vs).co b := fun b ⟨k, o, h1, _⟩ => by simp [enterSt, lk] at h1
    have hend : LeavesInM Fence.wide 0 P fn a'.tmps (fun
      | .returned u, w' => Kept w w' ∧ Ret w' (okP w' L) w.heap.size r u
      | _, _ => False) a'.defers .returning w' := by
      rw [hd, List.append_nil]
      refine leave_marks ms w' hnd (fun q hq => (hms q hq).1) fun w2 hs2 hio2 hk2 => ?_
      have hrel2 : Rel w2 L l' s' a' := hrel.other hs2 (fun b c el fz hb => hk2 b (fun hh => by rw [(hms b hh).1] at hb; cases hb))
      obtain ⟨us', h1, h2, h3⟩ := results_sound hrel2 hr
      have hkept : Kept w w2 := ⟨by rw [hs2]; exact hfr.size, fun b hb => (hk2 b (fun hh => by have := (hms b hh).2.2.2; omega)).trans (hfr.keep b hb (hnx b) (fun hh => by cases hh)).1, hfr.io.trans hio2⟩
      have hfr2 : Fr w ⟨fun _ => none, fun _ => 0, w.heap.size⟩ (enterSt G vs).co w2 l' s'.co := ⟨hkept.size, fun b hb he => ⟨hkept.keep b hb, (hfr.keep b hb he (fun hh => by cases hh)).2.1⟩, hfr.M, hkept.io⟩
      exact ⟨_, h1, hkept, handBack_sound hrel2 (s0 := (enterSt G vs).co) rfl hfr2 hg h2 h3⟩
    rcases he with rfl | rfl
    · exact hend
    · exact hend

/-- the contract of a function that is ranged over -/
theorem iterR_of_exec (hm : P.follows .mixedOrders = true) {G : List (Nat × V)} {f : FuncId} {fn : Func} {c : Code} {cf : Option Nat → Nat → Cf} {first caps : List V} {items : List (List V)}
    (hf : P.funcs[f]? = some fn) (hb : fn.body = some c) (hr0 : fn.results = #[]) (hcf : ∀ st i, (cf st i).rf = false ∧ (cf st i).stop = st ∧ (cf st i).lid = i ∧ fn.ntmps = (cf st i).N ∧ first.length + 1 + caps.length ≤ (cf st i).N ∧ (cf st i).C.Ok P G ∧ (cf st i).It.Ok P G)
    (hx : ∀ (st : Option Nat) (i : Nat), ∃ e s', exec P (cf st i) c (enterSt G (first ++ [.yl i] ++ caps)) = some (e, s') ∧ (e = .normal ∨ e = .ret) ∧ s'.gl.out = (match st with
      | some k => items.take (k + 1)
      | none => items)) : IterR P G f first caps items := by
  intro y hy w L us1 us2 hs1 hs2 hK hL hG hv1 hv2
  obtain ⟨e, s', hxe, he, hout⟩ := hx y.stop y.l
  obtain ⟨c1, c2, c3, c4, c5, c6, c7⟩ := hcf y.stop y.l
  obtain ⟨n, hn⟩ := (exec_iff _).1 hxe
  have hsz : (us1 ++ #[Value.func (.yield y.l) #[] #[]] ++ us2).size = (first ++ [V.yl y.l] ++ caps).length := by simp [hs1, hs2]; omega
  have h0 := enter_rel (vs := first ++ [.yl y.l] ++ caps) (nt := fn.ntmps - (us1 ++ #[Value.func (.yield y.l) #[] #[]] ++ us2).size) hsz hL hG (fun j v u p q => .rr (by
    by_cases hj : j < first.length
    · rw [List.append_assoc, List.getElem?_append_left hj] at p
      rw [Array.append_assoc, Array.getElem?_append_left (by omega)] at q
      exact hv1 j v u p q
    · rw [List.append_assoc, List.getElem?_append_right (by omega)] at p
      rw [Array.append_assoc, Array.getElem?_append_right (by omega), hs1] at q
      cases hj' : j - first.length with
      | zero =>
        rw [hj'] at p q
        rw [Array.getElem?_append_left (by simp)] at q
        simp at p q
        subst p; subst q; exact .yl _
      | succ i =>
        rw [hj'] at p q
        rw [Array.getElem?_append_right (by simp)] at q
        exact hv2 i v u (by simpa using p) (by simpa using q)))
  have hF : WideF Fence.wide := ⟨none, rfl⟩
  have hlive : Live (some y) w (excl ⟨fun _ => none, fun _ => 0, w.heap.size⟩ (enterSt G (first ++ [.yl y.l] ++ caps)).co) L (enterSt G (first ++ [.yl y.l] ++ caps)) := by
    have : excl ⟨fun _ => none, fun _ => 0, w.heap.size⟩ (enterSt G (first ++ [.yl y.l] ++ caps)).co = fun _ => False := by
      funext b; exact propext ⟨fun ⟨k, o, h1, _⟩ => by simp [enterSt, lk] at h1, fun h => h.elim⟩
    rw [this]; exact hK
  refine callsIn_wide.1 (callsIn_of_wp_marks (n := 0) hf hb trivial (execF_sound hm _ n c hF (Y := some y) ⟨c1, c2, c3⟩ (W := fun _ => True) (fun _ _ => trivial) h0 hlive ?_ c6 c7 (fun hh => by cases hh) (fun y' hy' => ?_) hn fun a' w' ha => ?_))
  · rw [hsz] at *
    simp at hsz ⊢; omega
  · cases hy'
    rw [hout]
    unfold Pro.lim
    rw [hy]
    cases y.stop <;> exact List.prefix_refl _
  · obtain ⟨⟨L', l', hrel, hl', hfr, ms, hd, hnd, hyn, hms⟩, hsz, hgl, _⟩ := ha
    have hend : LeavesInM Fence.wide 0 P fn a'.tmps (fun
      | .returned _, w' => ∃ X' L' i', y.K i' w' X' L' ∧ i' = (match y.stop with
          | some k => if k < items.length then k + 1 else items.length
          | none => items.length)
      | _, _ => False) a'.defers .returning w' := by
      rw [hd, List.append_nil]
      refine leave_marks ms w' hnd (fun q hq => (hms q hq).1) fun w2 hs2 hio2 hk2 => ?_
      have hms0 : ms = [] := hyn rfl
      subst hms0
      refine ⟨.tuple #[], by unfold results; rw [hr0]; simp, excl l' s'.co, L', s'.gl.out.length, ?_, ?_⟩
      · have h1 : y.K s'.gl.out.length w' (excl l' s'.co) L' := hl'
        exact y.step h1 (by omega) hio2 (fun b hb hx => ⟨hk2 b (by simp), hx⟩) (fun b ⟨k, o, p1, p2⟩ => by
          rw [hs2]; exact (hrel.lt k o b p1 p2).1)
      · rw [hout]
        cases y.stop with
        | none => rfl
        | some k =>
          simp only [List.length_take]
          split <;> omega
    rcases he with rfl | rfl
    · exact hend
    · exact hend

end Go.Ai
