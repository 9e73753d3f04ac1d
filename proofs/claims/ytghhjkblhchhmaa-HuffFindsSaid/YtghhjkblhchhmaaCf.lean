/- Texts of the abstract interpreter and of its contracts. -/
import Derived.Test.YtghhjkblhchhmaaCe
namespace Go.Ai
open Go
variable {P : Program} {w : World} {L : Nat → Prop} {l : Lay} {s : St} {a : Act}

def eff (d : Option Nat) (r : Res) (k : Nat) : Option (Option Obj) :=
  if d = some k ∧ r.ob.isSome then some r.ob else if r.del = some k then some none else
  match r.st with
  | some (k', o) => if k' = k then some (some o) else none
  | none => none

theorem turn_ob (c : Co) (r : Res) (k : Nat) : lk (c.turn r).ob k = (if r.del = some k then none else match r.st with
    | some (k', o) => if k' = k then some o else lk c.ob k
    | none => lk c.ob k) := by
  unfold Co.turn
  cases hd : r.del with
  | none =>
    cases hs : r.st with
    | none => simp
    | some p => obtain ⟨k', o⟩ := p; simp [lk_set]
  | some kd =>
    cases hs : r.st with
    | none =>
      simp only [Co.del, lk_rm, Option.some.injEq]
    | some p =>
      obtain ⟨k', o⟩ := p
      simp only [Co.del, lk_rm, lk_set, Option.some.injEq]

theorem turn_z (c : Co) (r : Res) : (c.turn r).z = c.z := by
  unfold Co.turn
  cases r.del <;> cases r.st <;> rfl

theorem lay_ob (s : St) (d : Option Nat) (r : Res) (k : Nat) : lk (s.lay d r).co.ob k = (eff d r k).getD (lk s.co.ob k) := by
  have base : lk (s.co.turn r).ob k = ((if r.del = some k then some none else match r.st with
    | some (k', o) => if k' = k then some (some o) else none
    | none => none) : Option (Option Obj)).getD (lk s.co.ob k) := by
    rw [turn_ob]
    by_cases h1 : r.del = some k
    · simp [h1]
    · simp only [h1, if_false]
      cases hs : r.st with
      | none => rfl
      | some p => obtain ⟨k', o⟩ := p; simp only []; split <;> rfl
  cases d with
  | none =>
    have : eff none r k = (if r.del = some k then some none else match r.st with
      | some (k', o) => if k' = k then some (some o) else none
      | none => none) := by unfold eff; rw [if_neg (by simp)]
    rw [this, ← base]; rfl
  | some d =>
    cases hob : r.ob with
    | none =>
      have : eff (some d) r k = (if r.del = some k then some none else match r.st with
        | some (k', o) => if k' = k then some (some o) else none
        | none => none) := by unfold eff; rw [if_neg (by simp [hob])]
      rw [this, ← base]
      simp [St.lay, hob, St.put, St.push]
    | some x =>
      simp only [St.lay, hob, St.push, Co.birth, lk_cons]
      by_cases hdk : d = k
      · subst hdk; simp [eff, hob]
      · have : eff (some d) r k = (if r.del = some k then some none else match r.st with
          | some (k', o) => if k' = k then some (some o) else none
          | none => none) := by unfold eff; rw [if_neg (by simp [hdk])]
        rw [if_neg hdk, this, ← base]

theorem lay_σ (s : St) (d : Option Nat) (r : Res) (t : Nat) : lk (s.lay d r).σ t = if d = some t then some r.v else lk s.σ t := by
  cases d with
  | none => simp [St.lay, St.put]
  | some d => cases h : r.ob <;> simp [St.lay, h, St.put, St.push, lk_cons]

theorem lay_z (s : St) (d : Option Nat) (r : Res) (k : Nat) : k ∈ (s.lay d r).co.z ↔ k ∈ s.co.z ∧ ¬ (d = some k ∧ r.ob.isSome) := by
  cases d with
  | none => simp [St.lay, St.put, turn_z]
  | some d =>
    cases h : r.ob <;> simp [St.lay, h, St.put, St.push, Co.birth, turn_z]
    intro _
    exact ⟨fun a b => a b.symm, fun a b => a b.symm⟩

section
variable {ops : Array Oper} {R : List Res} {s0 : St} {d : Dr} {C : Cs} {N : Nat}

def effOf (ops : Array Oper) (R : List Res) (k j : Nat) : Option (Option Obj) :=
  match ops[j]?, R[j]? with
  | some o, some r => eff o.dst r k
  | _, _ => none

def tch (ops : Array Oper) (R : List Res) (k j : Nat) : Bool := (effOf ops R k j).isSome

theorem stJ_gl (J : List Nat) : (stJ ops R s0 J).gl = s0.gl := by
  induction J with
  | nil => rfl
  | cons j r ih =>
    simp only [stJ]; split
    · rw [lay_gl]; exact ih
    · exact ih

theorem stJ_ob (k : Nat) : ∀ (J : List Nat), lk (stJ ops R s0 J).co.ob k = match J.find? (tch ops R k) with
    | some j => (effOf ops R k j).getD none
    | none => lk s0.co.ob k := by
  intro J
  induction J with
  | nil => rfl
  | cons j r ih =>
    simp only [stJ]
    split
    · rename_i o x ho hx
      rw [lay_ob]
      have he : effOf ops R k j = eff o.dst x k := by simp only [effOf, ho, hx]
      rw [List.find?_cons]
      cases hc : eff o.dst x k with
      | none =>
        have : tch ops R k j = false := by simp [tch, he, hc]
        rw [this]; exact ih
      | some y =>
        have : tch ops R k j = true := by simp [tch, he, hc]
        rw [this]
        simp [he, hc]
    · rename_i hno
      have he : effOf ops R k j = none := by
        unfold effOf; split
        · rename_i o x ho hx; exact absurd hx (hno o x ho)
        · rfl
      rw [List.find?_cons]
      have : tch ops R k j = false := by simp [tch, he]
      rw [this]; exact ih

theorem stJ_σ_none (t : Nat) : ∀ (J : List Nat), (∀ j ∈ J, ∀ o, ops[j]? = some o → o.dst ≠ some t) → lk (stJ ops R s0 J).σ t = lk s0.σ t := by
  intro J
  induction J with
  | nil => intro _; rfl
  | cons j r ih =>
    intro h
    simp only [stJ]
    split
    · rename_i o x ho hx
      rw [lay_σ, if_neg (h j (by simp) o ho)]
      exact ih fun j hj => h j (by simp [hj])
    · exact ih fun j hj => h j (by simp [hj])

theorem stJ_σ_some (hO : DrOk ops d) {i : Nat} {oi : Oper} {x : Res} {t : Nat} (ho : ops[i]? = some oi) (hx : R[i]? = some x) (ht : oi.dst = some t) : ∀ (J : List Nat), i ∈ J → lk (stJ ops R s0 J).σ t = some x.v := by
  intro J
  induction J with
  | nil => intro h; cases h
  | cons j r ih =>
    intro hm
    by_cases hji : i = j
    · subst hji
      simp only [stJ, ho, hx]
      rw [lay_σ, if_pos ht]
    · have hr := ih ((List.mem_cons.1 hm).resolve_left hji)
      simp only [stJ]
      split
      · rename_i o y ho' hy
        rw [lay_σ, if_neg (fun e => hji (hO.dist i j oi o t ho ho' ht e))]
        exact hr
      · exact hr

theorem stJ_z (k : Nat) : ∀ (J : List Nat), k ∈ (stJ ops R s0 J).co.z ↔ k ∈ s0.co.z ∧ ∀ j ∈ J, ∀ o x, ops[j]? = some o → R[j]? = some x → x.ob.isSome = true → o.dst ≠ some k := by
  intro J
  induction J with
  | nil => simp [stJ]
  | cons j r ih =>
    simp only [stJ]
    split
    · rename_i o x ho hx
      rw [lay_z, ih]
      constructor
      · rintro ⟨⟨h1, h2⟩, h3⟩
        refine ⟨h1, fun j' hj' o' x' ho' hx' hb he => ?_⟩
        rcases List.mem_cons.1 hj' with rfl | hj'
        · rw [ho] at ho'; rw [hx] at hx'; cases ho'; cases hx'; exact h3 ⟨he, hb⟩
        · exact h2 j' hj' o' x' ho' hx' hb he
      · rintro ⟨h1, h2⟩
        exact ⟨⟨h1, fun j' hj' => h2 j' (by simp [hj'])⟩, fun hh => h2 j (by simp) o x ho hx hh.2 hh.1⟩
    · rename_i hno
      rw [ih]
      constructor
      · rintro ⟨h1, h2⟩
        refine ⟨h1, fun j' hj' o' x' ho' hx' => ?_⟩
        rcases List.mem_cons.1 hj' with rfl | hj'
        · exact absurd hx' (hno o' x' ho')
        · exact h2 j' hj' o' x' ho' hx'
      · rintro ⟨h1, h2⟩
        exact ⟨h1, fun j' hj' => h2 j' (by simp [hj'])⟩

theorem stJ_ext {R R' : List Res} : ∀ (J : List Nat), (∀ j ∈ J, j < R.length) → stJ ops (R ++ R') s0 J = stJ ops R s0 J := by
  intro J
  induction J with
  | nil => intro _; rfl
  | cons j r ih =>
    intro h
    simp only [stJ, ih (fun j hj => h j (by simp [hj])), List.getElem?_append_left (h j (by simp))]

/-- what each operation lays, in sight of what it hangs on -/
structure Good (P : Program) (C : Cs) (N : Nat) (ops : Array Oper) (d : Dr) (s0 : St) (R : List Res) (i : Nat) (o : Oper) : Prop where
  ok : okDst N o = true
  does : ∃ b x, wantedA ops (viewOf ops d s0 R i) o = some b ∧ R[i]? = some x ∧ (if b then resOp P C (viewOf ops d s0 R i) o = some x else x = .val skipV)

theorem pfx_good (hO : DrOk ops d) : ∀ (r : List Oper) (i : Nat) (R R' : List Res), R.length = i → pfx P C N ops d s0 r i R = some R' → R'.length = i + r.length ∧ (∃ R2, R' = R ++ R2) ∧ ∀ k o, r[k]? = some o → Good P C N ops d s0 R' (i + k) o := by
  intro r
  induction r with
  | nil =>
    intro i R R' hl h
    simp only [pfx, Option.some.injEq] at h; subst h
    exact ⟨by simp [hl], ⟨[], by simp⟩, fun k o hk => by simp at hk⟩
  | cons o r ih =>
    intro i R R' hl h
    simp only [pfx] at h
    split at h <;> try (cases h; done)
    rename_i hok
    have key : ∀ b x, wantedA ops (viewOf ops d s0 R i) o = some b → (if b then resOp P C (viewOf ops d s0 R i) o = some x else x = .val skipV) → pfx P C N ops d s0 r (i + 1) (R ++ [x]) = some R' →
        R'.length = i + (o :: r).length ∧ (∃ R2, R' = R ++ R2) ∧ ∀ k o', (o :: r)[k]? = some o' → Good P C N ops d s0 R' (i + k) o' := by
      intro b x hb hx h
      obtain ⟨h1, ⟨R2, h2⟩, h3⟩ := ih (i + 1) (R ++ [x]) R' (by simp [hl]) h
      refine ⟨by rw [h1]; simp; omega, ⟨x :: R2, by rw [h2]; simp⟩, fun k o' hk => ?_⟩
      cases k with
      | zero =>
        simp at hk; subst hk
        have he : viewOf ops d s0 R' i = viewOf ops d s0 R i := by
          unfold viewOf
          rw [h2, List.append_assoc, stJ_ext _ (fun j hj => by rw [hl]; exact hO.T i j hj)]
        refine ⟨hok, b, x, by rw [Nat.add_zero, he]; exact hb, ?_, by rw [Nat.add_zero, he]; exact hx⟩
        rw [h2, Nat.add_zero, List.append_assoc, List.getElem?_append_right (by omega), hl]; simp
      | succ k =>
        simp at hk
        have := h3 k o' hk
        rw [show i + (k + 1) = i + 1 + k from by omega]; exact this
    split at h
    · rename_i hb
      split at h <;> try (cases h; done)
      rename_i x hx
      exact key true x hb (by simpa using hx) h
    · rename_i hb
      exact key false _ hb (by simp) h
    · cases h

structure Ctx (P : Program) (C : Cs) (N : Nat) (ops : Array Oper) (d : Dr) (s0 : St) (R : List Res) : Prop where
  ok : DrOk ops d
  len : R.length = ops.size
  good : ∀ i o, ops[i]? = some o → Good P C N ops d s0 R i o
  unborn : ∀ k, k ∈ s0.co.z → lk s0.co.ob k = none
  apart : ∀ j r, R[j]? = some r → ∀ k ∈ r.touch, ∃ bs, lk d.E j = some bs ∧ ∀ i ∈ bs, k ∈ d.H.getD i []

/-- it turns the object k -/
def turns (R : List Res) (k j : Nat) : Prop := ∃ r, R[j]? = some r ∧ k ∈ r.touch
/-- the object k is born in it -/
def bearsK (ops : Array Oper) (R : List Res) (k j : Nat) : Prop := ∃ o r, ops[j]? = some o ∧ R[j]? = some r ∧ o.dst = some k ∧ r.ob.isSome = true

theorem tch_cases {k j : Nat} (h : tch ops R k j = true) : turns R k j ∨ bearsK ops R k j := by
  unfold tch effOf at h
  split at h
  · rename_i o r ho hr
    unfold eff at h
    split at h
    · rename_i hc; exact .inr ⟨o, r, ho, hr, hc.1, hc.2⟩
    · split at h
      · rename_i hd; exact .inl ⟨r, hr, by simp [Res.touch, hd]⟩
      · split at h
        · rename_i k' x hst
          split at h
          · rename_i hk; subst hk; exact .inl ⟨r, hr, by simp [Res.touch, hst]⟩
          · cases h
        · cases h
  · cases h

variable {K : Nat}

theorem Ctx.op (c : Ctx P C N ops d s0 R) {j : Nat} (h : turns R K j) : ∃ o r, ops[j]? = some o ∧ R[j]? = some r ∧ K ∈ r.touch ∧ resOp P C (viewOf ops d s0 R j) o = some r := by
  obtain ⟨r, hr, hk⟩ := h
  have hlt : j < ops.size := by rw [← c.len]; exact (List.getElem?_eq_some_iff.1 hr).1
  obtain ⟨_, b, x, _, hx, hres⟩ := c.good j ops[j] (by simp [hlt])
  rw [hr] at hx; cases hx
  cases b with
  | true => exact ⟨ops[j], r, by simp [hlt], hr, hk, by simpa using hres⟩
  | false =>
    simp only [Bool.false_eq_true, if_false] at hres
    subst hres
    simp [Res.touch, Res.val] at hk

theorem hide_ob {hs : List Nat} {s : St} {k : Nat} {x : Obj} (h : lk (s.hide hs).co.ob k = some x) : k ∉ hs ∧ lk s.co.ob k = some x := by
  simp only [St.hide, lk_rmL] at h
  split at h
  · cases h
  · rename_i hk; exact ⟨hk, h⟩

theorem Ctx.bornZ (c : Ctx P C N ops d s0 R) {j : Nat} (h : bearsK ops R K j) : K ∈ s0.co.z := by
  obtain ⟨o, r, ho, hr, hd, hb⟩ := h
  obtain ⟨_, b, x, _, hx, hres⟩ := c.good j o ho
  rw [hr] at hx; cases hx
  cases b with
  | true =>
    simp only [if_true] at hres
    obtain ⟨d', h1, h2⟩ := resOp_born hres hb
    rw [hd] at h1; cases h1
    exact ((stJ_z K _).1 h2).1
  | false =>
    simp only [Bool.false_eq_true, if_false] at hres
    subst hres
    simp [Res.val] at hb

theorem jOk_mem {T : List (List Nat)} : ∀ {J : List Nat}, jOk T J = true → ∀ a ∈ J, ∀ i ∈ T.getD a [], i ∈ J := by
  intro J
  induction J with
  | nil => intro _ a h; cases h
  | cons j r ih =>
    intro h a ha i hi
    simp only [jOk, Bool.and_eq_true, List.all_eq_true, List.contains_iff_mem] at h
    rcases List.mem_cons.1 ha with rfl | ha
    · exact List.mem_cons_of_mem _ (h.1.2 i hi)
    · exact List.mem_cons_of_mem _ (ih h.1.1 a ha i hi)

/-- what is turned was there, or was born before -/
theorem Ctx.born_in (c : Ctx P C N ops d s0 R) (hz : K ∈ s0.co.z) : ∀ (j : Nat), turns R K j → ∃ b ∈ d.T.getD j [], bearsK ops R K b := by
  intro j
  induction j using Nat.strongRecOn with
  | _ j ih =>
    intro h
    obtain ⟨o, r, ho, hr, hk, hres⟩ := c.op h
    obtain ⟨x, hx⟩ := resOp_touch hres hk
    have h1 := (hide_ob hx).2
    rw [stJ_ob] at h1
    split at h1
    · rename_i a ha
      have hm := List.mem_of_find?_eq_some ha
      have ht := List.find?_some ha
      rcases tch_cases ht with h2 | h2
      · obtain ⟨b, hb, hbb⟩ := ih a (c.ok.T j a hm) h2
        exact ⟨b, jOk_mem (c.ok.ok j) a hm b hb, hbb⟩
      · exact ⟨a, hm, h2⟩
    · rw [c.unborn K hz] at h1; cases h1

theorem Ctx.one_birth (c : Ctx P C N ops d s0 R) {i j : Nat} (h : bearsK ops R K i) (h' : bearsK ops R K j) : i = j := by
  obtain ⟨o, r, ho, hr, hd, hb⟩ := h
  obtain ⟨o', r', ho', hr', hd', hb'⟩ := h'
  exact c.ok.dist i j o o' K ho ho' hd hd'

theorem turns_lt (c : Ctx P C N ops d s0 R) {j : Nat} (h : turns R K j) : j < ops.size := by
  obtain ⟨r, hr, _⟩ := h
  rw [← c.len]; exact (List.getElem?_eq_some_iff.1 hr).1

theorem bears_lt {j : Nat} (h : bearsK ops R K j) : j < ops.size := by
  obtain ⟨o, _, ho, _⟩ := h
  exact (Array.getElem?_eq_some_iff.1 ho).1

/-- beside one that turns K, nobody looks at K -/
theorem Ctx.beside (c : Ctx P C N ops d s0 R) {j : Nat} (h : turns R K j) (i : Nat) (hi : i < ops.size) : i = j ∨ i ∈ d.T.getD j [] ∨ j ∈ d.T.getD i [] ∨ K ∈ d.H.getD i [] := by
  obtain ⟨r, hr, hk⟩ := h
  obtain ⟨bs, hbs, hall⟩ := c.apart j r hr K hk
  have hj : j < ops.size := by rw [← c.len]; exact (List.getElem?_eq_some_iff.1 hr).1
  rcases c.ok.beside j bs hbs hj i hi with h1 | h1 | h1 | h1
  · exact .inl h1
  · exact .inr (.inl h1)
  · exact .inr (.inr (.inl h1))
  · exact .inr (.inr (.inr (hall i h1)))

theorem Ctx.hidden (c : Ctx P C N ops d s0 R) {j : Nat} (h : turns R K j) : K ∉ d.H.getD j [] := by
  obtain ⟨o, r, ho, hr, hk, hres⟩ := c.op h
  obtain ⟨x, hx⟩ := resOp_touch hres hk
  exact (hide_ob hx).1

theorem Ctx.comparable (c : Ctx P C N ops d s0 R) {i j : Nat} (hi : tch ops R K i = true) (hj : tch ops R K j = true) : i = j ∨ i ∈ d.T.getD j [] ∨ j ∈ d.T.getD i [] := by
  rcases tch_cases hi with h1 | h1 <;> rcases tch_cases hj with h2 | h2
  · rcases c.beside h1 j (turns_lt c h2) with h3 | h3 | h3 | h3
    · exact .inl h3.symm
    · exact .inr (.inr h3)
    · exact .inr (.inl h3)
    · exact absurd h3 (c.hidden h2)
  · obtain ⟨b, hb, hbb⟩ := c.born_in (c.bornZ h2) i h1
    rw [c.one_birth hbb h2] at hb
    exact .inr (.inr hb)
  · obtain ⟨b, hb, hbb⟩ := c.born_in (c.bornZ h1) j h2
    rw [c.one_birth hbb h1] at hb
    exact .inr (.inl hb)
  · exact .inl (c.one_birth h1 h2)

theorem first_unique {T : List (List Nat)} (hT : ∀ i, ∀ j ∈ T.getD i [], j < i) {p : Nat → Bool} {a : Nat} (ha : p a = true) : ∀ {J : List Nat}, jOk T J = true → a ∈ J → (∀ b ∈ J, p b = true → b = a ∨ b ∈ T.getD a []) → J.find? p = some a := by
  intro J
  induction J with
  | nil => intro _ h; cases h
  | cons j r ih =>
    intro h hm hall
    have hj := h
    simp only [jOk, Bool.and_eq_true, Bool.not_eq_true', List.all_eq_true, List.contains_iff_mem] at h
    have hnr : j ∉ r := by have := h.2; simpa using this
    by_cases hpj : p j = true
    · rw [List.find?_cons, hpj]
      rcases hall j (by simp) hpj with h1 | h1
      · rw [h1]
      · rcases List.mem_cons.1 hm with h2 | h2
        · subst h2; exact absurd (hT a a h1) (Nat.lt_irrefl _)
        · exact absurd (jOk_mem h.1.1 a h2 j h1) hnr
    · rw [List.find?_cons]
      simp only [hpj]
      refine ih h.1.1 ?_ (fun b hb => hall b (by simp [hb]))
      rcases List.mem_cons.1 hm with h2 | h2
      · subst h2; exact absurd ha hpj
      · exact h2

theorem find_first {T : List (List Nat)} (hT : ∀ i, ∀ j ∈ T.getD i [], j < i) {p : Nat → Bool} {a b : Nat} : ∀ {J : List Nat}, jOk T J = true → J.find? p = some a → b ∈ J → p b = true → a ∈ T.getD b [] → False := by
  intro J
  induction J with
  | nil => intro _ h; simp at h
  | cons j r ih =>
    intro h hf hb hpb hab
    have h' := h
    simp only [jOk, Bool.and_eq_true, Bool.not_eq_true'] at h
    have hnr : j ∉ r := by have := h.2; simpa using this
    rw [List.find?_cons] at hf
    split at hf
    · cases hf
      rcases List.mem_cons.1 hb with h2 | h2
      · subst h2; exact absurd (hT b b hab) (Nat.lt_irrefl _)
      · exact hnr (jOk_mem h.1.1 b h2 _ hab)
    · rename_i hpj
      rcases List.mem_cons.1 hb with h2 | h2
      · subst h2; rw [hpb] at hpj; cases hpj
      · exact ih h.1.1 hf h2 hpb hab

/-- what i sees of the objects is so, whatever else has run -/
theorem Ctx.sees_ob (c : Ctx P C N ops d s0 R) {i : Nat} (hi : i < ops.size) {J : List Nat} (hJ : jOk d.T J = true) (hT : ∀ j ∈ d.T.getD i [], j ∈ J) (hn : i ∉ J) (hn' : ∀ b ∈ J, i ∉ d.T.getD b []) {x : Obj}
    (hk : lk (viewOf ops d s0 R i).co.ob K = some x) : lk (stJ ops R s0 J).co.ob K = some x := by
  obtain ⟨hH, hk⟩ := hide_ob hk
  have inT : ∀ b ∈ J, turns R K b → b ∈ d.T.getD i [] := by
    intro b hb h
    rcases c.beside h i hi with h1 | h1 | h1 | h1
    · exact absurd (h1 ▸ hb) hn
    · exact absurd h1 (hn' b hb)
    · exact h1
    · exact absurd h1 hH
  rw [stJ_ob] at hk ⊢
  cases hf : (d.T.getD i []).find? (tch ops R K) with
  | some a =>
    rw [hf] at hk
    have hm := List.mem_of_find?_eq_some hf
    have ht := List.find?_some hf
    have : J.find? (tch ops R K) = some a := by
      refine first_unique c.ok.T ht hJ (hT a hm) fun b hb hpb => ?_
      rcases c.comparable ht hpb with h1 | h1 | h1
      · exact .inl h1.symm
      · exfalso
        rcases tch_cases hpb with h2 | h2
        · exact find_first c.ok.T (c.ok.ok i) hf (inT b hb h2) hpb h1
        · rcases tch_cases ht with h3 | h3
          · obtain ⟨b', hb', hbb⟩ := c.born_in (c.bornZ h2) a h3
            rw [c.one_birth hbb h2] at hb'
            have := c.ok.T a b hb'
            have := c.ok.T b a h1
            omega
          · rw [c.one_birth h3 h2] at h1
            exact absurd (c.ok.T b b h1) (Nat.lt_irrefl _)
      · exact .inr h1
    rw [this]; exact hk
  | none =>
    rw [hf] at hk
    have : J.find? (tch ops R K) = none := by
      rw [List.find?_eq_none]
      intro b hb hpb
      rcases tch_cases hpb with h2 | h2
      · have h3 := inT b hb h2
        rw [List.find?_eq_none] at hf
        exact hf b h3 hpb
      · have h3 := c.unborn K (c.bornZ h2)
        simp only at hk
        rw [h3] at hk; cases hk
    rw [this]; exact hk

/-- two orders of all -/
theorem Ctx.less (c : Ctx P C N ops d s0 R) {J J' : List Nat} (hJ : jOk d.T J = true) (hJ' : jOk d.T J' = true) (h : ∀ j, j ∈ J' ↔ j ∈ J) : Less (stJ ops R s0 J') (stJ ops R s0 J) := by
  refine ⟨fun t v hv => ?_, fun k x hk => ?_, fun k hk => ?_, by rw [stJ_gl, stJ_gl]⟩
  · by_cases he : ∃ j ∈ J', ∃ o, ops[j]? = some o ∧ o.dst = some t
    · obtain ⟨j, hj, o, ho, ht⟩ := he
      have hlt : j < R.length := by rw [c.len]; exact (Array.getElem?_eq_some_iff.1 ho).1
      have hx : R[j]? = some R[j] := by simp [hlt]
      rw [stJ_σ_some c.ok ho hx ht J' hj] at hv
      rw [stJ_σ_some c.ok ho hx ht J ((h j).1 hj)]; exact hv
    · have hn : ∀ j ∈ J', ∀ o, ops[j]? = some o → o.dst ≠ some t := fun j hj o ho ht => he ⟨j, hj, o, ho, ht⟩
      rw [stJ_σ_none t J' hn] at hv
      rw [stJ_σ_none t J (fun j hj => hn j ((h j).2 hj))]; exact hv
  · rw [stJ_ob] at hk ⊢
    cases hf : J'.find? (tch ops R k) with
    | some a =>
      rw [hf] at hk
      have hm := List.mem_of_find?_eq_some hf
      have ht := List.find?_some hf
      have : J.find? (tch ops R k) = some a := by
        refine first_unique c.ok.T ht hJ ((h a).1 hm) fun b hb hpb => ?_
        rcases c.comparable ht hpb with h1 | h1 | h1
        · exact .inl h1.symm
        · exact (find_first c.ok.T hJ' hf ((h b).2 hb) hpb h1).elim
        · exact .inr h1
      rw [this]; exact hk
    | none =>
      rw [hf] at hk
      have : J.find? (tch ops R k) = none := by
        rw [List.find?_eq_none] at hf ⊢
        exact fun b hb => hf b ((h b).2 hb)
      rw [this]; exact hk
  · rw [stJ_z] at hk ⊢
    exact ⟨hk.1, fun j hj => hk.2 j ((h j).2 hj)⟩

end
end Go.Ai

namespace Go.Ai
open Go
variable {P : Program} {w : World} {L : Nat → Prop} {l : Lay} {s : St} {a : Act}

theorem listed_lt {listed : Array Bool} {i : Nat} (h : listed.getD i false = true) : i < listed.size := by
  rcases Nat.lt_or_ge i listed.size with h' | h'
  · exact h'
  · simp [Array.getElem?_eq_none h'] at h

theorem listed_swap {listed : Array Bool} {i : Nat} (hi : i < listed.size) : listed.getD i true = listed.getD i false := by simp [hi]

theorem set_listed {listed : Array Bool} {i : Nat} (hi : i < listed.size) (j : Nat) : (listed.setIfInBounds i true).getD j false = (if j = i then true else listed.getD j false) := by
  by_cases h : j = i
  · subst h; simp [hi]
  · rw [if_neg h, getD_set_ne false (Ne.symm h)]

theorem set_count {listed : Array Bool} {i : Nat} (hi : i < listed.size) (h : listed.getD i false = false) {n : Nat} (hc : listed.toList.count false ≤ n + 1) : (listed.setIfInBounds i true).toList.count false ≤ n := by
  have hf : listed.toList[i]'(by simpa using hi) = false := by simpa [hi] using h
  rw [Array.toList_setIfInBounds, List.count_set (by simpa using hi), hf]
  have e1 : (if (false == false) = true then 1 else 0) = 1 := rfl
  have e2 : (if (true == false) = true then 1 else 0) = 0 := rfl
  rw [e1, e2]
  omega

theorem count_zero {listed : Array Bool} (h : listed.toList.count false ≤ 0) {i : Nat} (hi : i < listed.size) : listed.getD i false = true := by
  cases hc : listed.getD i false with
  | true => rfl
  | false =>
    have hm : false ∈ listed.toList := by
      have : listed.toList[i]'(by simpa using hi) = false := by simpa [hi] using hc
      rw [← this]; exact List.getElem_mem _
    have := List.count_pos_iff.2 hm
    omega

def Dc (ops : Array Oper) (listed : Array Bool) : Prop :=
  ∀ (i : Nat) (o : Oper), ops[i]? = some o → listed.getD i false = true → ∀ e ∈ o.after, Region.binds .any e = true → listed.getD e.on false = true

section
variable {F : Fence} {k : Nat} {ops : Array Oper} {R : List Res} {s0 : St} {d : Dr} {C : Cs} {N : Nat} {Q : Exit → Act → World → Prop}

/-- all are listed, or one is ready -/
theorem ready_nil {listed : Array Bool} (hs : listed.size = ops.size) (hO : DrOk ops d) (h : Region.ready .any ops listed = []) : ∀ i, i < ops.size → listed.getD i false = true := by
  intro i
  induction i using Nat.strongRecOn with
  | _ i ih =>
    intro hi
    cases hc : listed.getD i false with
    | true => rfl
    | false =>
      have : i ∈ Region.ready .any ops listed := mem_ready.2 ⟨by rw [listed_swap (by omega)]; exact hc, ops[i], by simp [hi], fun e he hb => by
        have := (hO.lt i ops[i] (by simp [hi]) e he hb).1
        exact ih e.on this (Nat.lt_trans this hi)⟩
      rw [h] at this; cases this

theorem dc_set {listed : Array Bool} (hD : Dc ops listed) {i : Nat} (hi : i < listed.size) (hr : i ∈ Region.ready .any ops listed) : Dc ops (listed.setIfInBounds i true) := by
  intro j o ho hj e he hb
  rw [set_listed hi] at hj ⊢
  split
  · rfl
  · split at hj
    · rename_i hji; subst hji
      obtain ⟨_, o', ho', hall⟩ := mem_ready.1 hr
      rw [ho] at ho'; cases ho'
      exact hall e he hb
    · exact hD j o ho hj e he hb

theorem T_listed (hO : DrOk ops d) {listed : Array Bool} (hD : Dc ops listed) : ∀ (i : Nat) (o : Oper), ops[i]? = some o → (∀ e ∈ o.after, Region.binds .any e = true → listed.getD e.on false = true) → ∀ j ∈ d.T.getD i [], listed.getD j false = true := by
  intro i
  induction i using Nat.strongRecOn with
  | _ i ih =>
    intro o ho hall j hj
    obtain ⟨e, he, hb, h⟩ := hO.via i o ho j hj
    have hl := hall e he hb
    rcases h with h | h
    · rw [← h]; exact hl
    · have hlt := (hO.lt i o ho e he hb).1
      have hsz : e.on < ops.size := Nat.lt_trans hlt (Array.getElem?_eq_some_iff.1 ho).1
      exact ih e.on hlt ops[e.on] (by simp [hsz]) (hD e.on ops[e.on] (by simp [hsz]) hl) j h

theorem jOk_range (hO : DrOk ops d) : ∀ n, jOk d.T (List.range n).reverse = true := by
  intro n
  induction n with
  | zero => rfl
  | succ n ih =>
    rw [List.range_succ, List.reverse_append]
    simp only [List.reverse_cons, List.reverse_nil, List.nil_append, List.singleton_append, jOk, Bool.and_eq_true, Bool.not_eq_true', List.all_eq_true, List.contains_iff_mem, List.mem_reverse, List.mem_range]
    refine ⟨⟨ih, fun i hi => hO.T n i hi⟩, ?_⟩
    simp

theorem phaseA {Y : Option (Pro P)} {W : Nat → Prop} (hF : WideF F) (c : Ctx P C N ops d s0 R) (hC : C.Ok P s0.gl.g) (hW : ∀ (i : Nat) (o : Oper) (t : Nat), ops[i]? = some o → o.dst = some t → W t) : ∀ (fuel : Nat) (listed : Array Bool) (J : List Nat) (w : World) (l : Lay) (a : Act), listed.size = ops.size → listed.toList.count false ≤ fuel → Dc ops listed →
    jOk d.T J = true → (∀ j, j ∈ J ↔ listed.getD j false = true) → Rel w L l (stJ ops R s0 J) a → Live Y w (excl l (stJ ops R s0 J).co) L (stJ ops R s0 J) → a.tmps.size = N → (∀ a' w', After Y W w L l (stJ ops R s0 J) a (stJ ops R s0 (List.range ops.size).reverse) a' w' → Q .normal a' w') →
    wpAnyIn F k P .any ops Q fuel listed a w := by
  have fin : ∀ (listed : Array Bool) (J : List Nat) (w : World) (l : Lay) (a : Act), listed.size = ops.size → jOk d.T J = true → (∀ j, j ∈ J ↔ listed.getD j false = true) → Rel w L l (stJ ops R s0 J) a → Live Y w (excl l (stJ ops R s0 J).co) L (stJ ops R s0 J) →
      (∀ a' w', After Y W w L l (stJ ops R s0 J) a (stJ ops R s0 (List.range ops.size).reverse) a' w' → Q .normal a' w') → (∀ i, i < ops.size → listed.getD i false = true) → Q .normal a w := by
    intro listed J w l a hsz hok hJ h hl hQ hall
    have hless : Less (stJ ops R s0 (List.range ops.size).reverse) (stJ ops R s0 J) := c.less hok (jOk_range c.ok _) (fun j => by
      rw [List.mem_reverse, List.mem_range, hJ j]
      exact ⟨fun h1 => hall j h1, fun h1 => by have := listed_lt h1; omega⟩)
    exact hQ a w (After.step hl (h.forget hless) (hless.fr w l) rfl rfl (by rw [stJ_gl, stJ_gl]) (fun _ _ => rfl))
  intro fuel
  induction fuel with
  | zero =>
    intro listed J w l a hsz hc hD hok hJ h hl hN hQ
    have hall : ∀ i, i < ops.size → listed.getD i false = true := fun i hi => count_zero hc (by omega)
    refine ⟨?_, fin listed J w l a hsz hok hJ h hl hQ hall⟩
    cases hr : Region.ready .any ops listed with
    | nil => rfl
    | cons i r =>
      obtain ⟨h1, o, h2, _⟩ := mem_ready.1 (show i ∈ Region.ready .any ops listed by rw [hr]; simp)
      have hlt : i < ops.size := (Array.getElem?_eq_some_iff.1 h2).1
      rw [listed_swap (by omega), hall i hlt] at h1; cases h1
  | succ fuel ih =>
    intro listed J w l a hsz hc hD hok hJ h hl hN hQ
    refine ⟨fun hr => fin listed J w l a hsz hok hJ h hl hQ (ready_nil hsz c.ok hr), fun i hi => ?_⟩
    obtain ⟨hun, o, ho, hafter⟩ := mem_ready.1 hi
    have hlt : i < ops.size := (Array.getElem?_eq_some_iff.1 ho).1
    rw [listed_swap (by omega)] at hun
    obtain ⟨hokd, b, x, hb, hx, hres⟩ := c.good i o ho
    have hTl : ∀ j ∈ d.T.getD i [], j ∈ J := fun j hj => (hJ j).2 (T_listed c.ok hD i o ho hafter j hj)
    have hiJ : i ∉ J := fun hm => by rw [(hJ i).1 hm] at hun; cases hun
    have hnT : ∀ j ∈ J, i ∉ d.T.getD j [] := fun j hj hm => hiJ (jOk_mem hok j hj i hm)
    have hsig : ∀ t ∈ readsT ops o, lk (stJ ops R s0 J).σ t = lk (stJ ops R s0 (d.T.getD i [])).σ t := by
      intro t ht
      by_cases he : ∃ j ∈ d.T.getD i [], ∃ oj, ops[j]? = some oj ∧ oj.dst = some t
      · obtain ⟨j, hj, oj, hoj, htj⟩ := he
        have hjl : j < R.length := by rw [c.len]; exact (Array.getElem?_eq_some_iff.1 hoj).1
        have hxj : R[j]? = some R[j] := by simp [hjl]
        rw [stJ_σ_some c.ok hoj hxj htj _ hj, stJ_σ_some c.ok hoj hxj htj _ (hTl j hj)]
      · rw [stJ_σ_none t _ (fun j hj oj hoj htj => he ⟨j, hj, oj, hoj, htj⟩)]
        refine stJ_σ_none t _ (fun j hj oj hoj htj => ?_)
        rcases c.ok.reads i o t j oj ho ht hoj htj with h1 | h1
        · exact he ⟨j, h1, oj, hoj, htj⟩
        · exact hnT j hj h1
    have hgl : (stJ ops R s0 J).gl = (viewOf ops d s0 R i).gl := by simp only [viewOf, St.hide]; rw [stJ_gl, stJ_gl]
    have hsees : Sees (viewOf ops d s0 R i) (stJ ops R s0 J) o := by
      refine ⟨fun y hy => ?_, fun k y hk => c.sees_ob hlt hok hTl hiJ hnT hk, fun t ht hk => ?_⟩
      · cases y with
        | tmp t =>
          have : t ∈ readsT ops o := by
            simp only [readsT, List.mem_append, List.mem_filterMap]
            exact .inl ⟨.tmp t, hy, rfl⟩
          simp only [ev, St.get, hsig t this, viewOf, St.hide]
        | const v => rfl
        | func f => rfl
        | global g => simp only [ev, hgl]
      · simp only [viewOf, St.hide] at hk
        rw [stJ_z] at hk ⊢
        refine ⟨hk.1, fun j hj oj xj hoj hxj hb htj => ?_⟩
        have := c.ok.dist j i oj o t hoj ho htj ht
        subst this
        exact hiJ hj
    have hwant : wantedA ops (stJ ops R s0 J) o = some b := by
      unfold wantedA at hb ⊢
      split at hb
      · exact hb
      · rename_i j want hg
        split at hb
        · rename_i t ht
          have : t ∈ readsT ops o := by simp [readsT, hg, ht]
          have e1 : (stJ ops R s0 J).get t = (viewOf ops d s0 R i).get t := by simp only [St.get, hsig t this, viewOf, St.hide]
          rw [e1]; exact hb
        · cases hb
    have hok' : jOk d.T (i :: J) = true := by
      simp only [jOk, Bool.and_eq_true, Bool.not_eq_true', List.all_eq_true, List.contains_iff_mem]
      exact ⟨⟨hok, hTl⟩, by simpa using hiJ⟩
    have hJ' : ∀ j, j ∈ i :: J ↔ (listed.setIfInBounds i true).getD j false = true := by
      intro j
      rw [set_listed (by omega), List.mem_cons, hJ j]
      by_cases hj : j = i
      · subst hj; simp
      · simp [hj]
    have hd' : ∀ t, o.dst = some t → t < a.tmps.size := fun t ht => hN ▸ okDst_spec hokd t ht
    have hst : stJ ops R s0 (i :: J) = (stJ ops R s0 J).lay o.dst x := by simp only [stJ, ho, hx]
    have htm : ∀ (u : Value) (t : Nat), ¬ W t → (a.put o.dst u).tmps.getD t undef = a.tmps.getD t undef := fun u t ht => Act.put_other _ _ _ _ (fun e => ht (hW i o t ho e))
    unfold wpOpIn
    rw [ho]
    simp only [wantedA_sound h hwant]
    cases b with
    | true =>
      simp only [if_true] at hres ⊢
      refine (resOp_sound h hd' (by rw [stJ_gl]; exact hC) (resOp_mono hsees hres)).wp hF fun w' l' u hr hf => ?_
      rw [← hst] at hr hf
      have hgg : (stJ ops R s0 (i :: J)).gl = (stJ ops R s0 J).gl := by rw [stJ_gl, stJ_gl]
      exact ih _ (i :: J) w' l' _ (by simpa using hsz) (set_count (by omega) hun hc) (dc_set hD (by omega) hi) hok' hJ' hr (hl.step hr hf hgg) (by rw [Act.put_size]; exact hN)
        fun a' w'' ha => hQ a' w'' (After.cons hf (Act.put_size _ _ _) (Act.put_defers' _ _ _) hgg (htm u) ha)
    | false =>
      simp only [Bool.false_eq_true, if_false] at hres ⊢
      subst hres
      have hr := h.put skip_sv o.dst hd'
      rw [lay_val] at hst
      have hf : Fr w l (stJ ops R s0 J).co w l ((stJ ops R s0 J).put o.dst skipV).co := by cases o.dst <;> exact .refl _ _ _
      rw [← hst] at hr hf
      have hgg : (stJ ops R s0 (i :: J)).gl = (stJ ops R s0 J).gl := by rw [stJ_gl, stJ_gl]
      exact ⟨fun f _ => hF.fn f, ih _ (i :: J) w l _ (by simpa using hsz) (set_count (by omega) hun hc) (dc_set hD (by omega) hi) hok' hJ' hr (hl.step hr hf hgg) (by rw [Act.put_size]; exact hN)
        fun a' w'' ha => hQ a' w'' (After.cons hf (Act.put_size _ _ _) (Act.put_defers' _ _ _) hgg (htm undef) ha)⟩

theorem vacates_rel : ∀ (ks : List Nat) {l : Lay} {s : St}, Rel w L l s a → ∃ l', Rel w L l' (ks.foldl (fun s k => vacate k s) s) a ∧ Fr w l s.co w l' (ks.foldl (fun s k => vacate k s) s).co ∧ (ks.foldl (fun s k => vacate k s) s).gl = s.gl := by
  intro ks
  induction ks with
  | nil => intro l s h; exact ⟨l, h, .refl _ _ _, rfl⟩
  | cons k ks ih =>
    intro l s h
    obtain ⟨l1, h1, h2, h3⟩ := vacate_rel h k
    obtain ⟨l2, h4, h5, h6⟩ := ih h1
    exact ⟨l2, h4, h2.trans h5, h6.trans h3⟩

theorem runD_sound {Y : Option (Pro P)} {W : Nat → Prop} (hF : WideF F) (hm : P.follows .mixedOrders = true) {id : Nat} {s' : St} (h : Rel w L l s a) (hl : Live Y w (excl l s.co) L s) (hN : a.tmps.size = N) (hC : C.Ok P s.gl.g) (hW : ∀ (i : Nat) (o : Oper) (t : Nat), ops[i]? = some o → o.dst = some t → W t)
    (hs : runD P C N ops d s = some s') (hQ : ∀ a' w', After Y W w L l s a s' a' w' → Q .normal a' w') :
    (Code.region id ops true).wpIn F k P Q a w := by
  unfold runD at hs
  split at hs <;> try (cases hs; done)
  rename_i hchk
  have hO := chkDr_ok hchk
  simp only [Option.bind_eq_some_iff] at hs
  obtain ⟨R, hpfx, hs⟩ := hs
  split at hs <;> try (cases hs; done)
  rename_i hap
  simp only [Option.some.injEq] at hs; subst hs
  obtain ⟨l1, h1, hF1, hg1⟩ := vacates_rel d.ks h
  obtain ⟨g1, _, g3⟩ := pfx_good hO ops.toList 0 [] R rfl hpfx
  have hkept : Kept w { w with drawn := w.drawn + 1 } := ⟨Nat.le_refl _, fun _ _ => rfl, ⟨rfl, rfl⟩⟩
  have h2 := h1.grow hkept
  have hF2 := hF1.trans (hkept.fr l1 _)
  have hctx : Ctx P C N ops d (d.ks.foldl (fun s k => vacate k s) s) R := by
    refine ⟨hO, by rw [g1]; simp, fun i o ho => ?_, h1.unborn, fun j r hr k hk => ?_⟩
    · have := g3 i o (by simpa using ho)
      rwa [Nat.zero_add] at this
    · have := apartR_spec R 0 j r hap hr k hk
      rwa [Nat.zero_add] at this
  refine wpIn_region_any hm ?_
  refine phaseA (Y := Y) hF hctx (hg1 ▸ hC) hW ops.size (Array.replicate ops.size false) [] _ l1 a (by simp) ?_ ?_ rfl ?_ h2 (hl.step h2 hF2 hg1) hN ?_
  · simp
  · intro i o _ hi e _ _
    by_cases hlt : i < ops.size <;> simp [hlt] at hi
  · intro j
    by_cases hlt : j < ops.size <;> simp [hlt]
  · intro a' w' ha
    exact hQ a' w' (After.cons hF2 rfl rfl hg1 (fun _ _ => rfl) ha)

end
end Go.Ai

namespace Go.Ai
open Go
variable {P : Program} {w : World} {L : Nat → Prop} {l : Lay} {s : St} {a : Act}

/-! ## A row of the activation's own is given up: from here on it is read-only content -/

mutual
def V.frz (k : Nat) (o : Obj) : V → V
  | .row j sz lo hi => if j = k then (if o.sz = sz ∧ hi ≤ o.es.length then .sl false (o.nl && o.es.isEmpty) sz (if lo = 0 ∧ hi = o.es.length then o.es else (o.es.drop lo).take (hi - lo)) else .undef) else .row j sz lo hi
  | .agg cs => .agg (frzL k o cs)
  | .tup cs => .tup (frzL k o cs)
  | .ro br cs => .ro br (frzL k o cs)
  | .fn f a b => .fn f (frzL k o a) (frzL k o b)
  | v => v
def frzL (k : Nat) (o : Obj) : List V → List V
  | [] => []
  | v :: r => v.frz k o :: frzL k o r
end

theorem frzL_eq (k : Nat) (o : Obj) (vs : List V) : frzL k o vs = vs.map (V.frz k o) := by
  induction vs with
  | nil => rfl
  | cons v r ih => simp [frzL, ih]

def Obj.frz (x : Obj) (k : Nat) (o : Obj) : Obj := if x.row then x else { x with es := x.es.map fun e => e.map (V.frz k o) }

def St.freeze (s : St) (k : Nat) : St :=
  match lk s.co.ob k with
  | some o => if o.row then { s with σ := s.σ.map fun p => (p.1, p.2.frz k o), co := { s.co with ob := (rm s.co.ob k).map fun p => (p.1, p.2.frz k o) } } else s
  | none => s

theorem RR.frz {w : World} {ok : Nat → Prop} {v : V} {u : Value} (k : Nat) (o : Obj) (hr : RR w ok v u) : RR w ok (v.frz k o) u := by
  induction hr with
  | ro hok hb hsz hc ih =>
    simp only [V.frz, frzL_eq]
    refine .ro hok hb (by simpa using hsz) fun j v u hj hu => ?_
    simp only [List.getElem?_map, Option.map_eq_some_iff] at hj
    obtain ⟨v', hv', rfl⟩ := hj
    exact ih j v' u hv' hu
  | agg hs hc ih =>
    simp only [V.frz, frzL_eq]
    refine .agg (by simpa using hs) fun j v u hj hu => ?_
    simp only [List.getElem?_map, Option.map_eq_some_iff] at hj
    obtain ⟨v', hv', rfl⟩ := hj
    exact ih j v' u hv' hu
  | fn hs ht ha hb iha ihb =>
    simp only [V.frz, frzL_eq]
    refine .fn (by simpa using hs) (by simpa using ht) (fun j v u hj hu => ?_) (fun j v u hj hu => ?_)
    · simp only [List.getElem?_map, Option.map_eq_some_iff] at hj
      obtain ⟨v', hv', rfl⟩ := hj
      exact iha j v' u hv' hu
    · simp only [List.getElem?_map, Option.map_eq_some_iff] at hj
      obtain ⟨v', hv', rfl⟩ := hj
      exact ihb j v' u hv' hu
  | sl hok hb hnl hcap hsz hlen hc h1 ih => simp only [V.frz]; exact .sl hok hb hnl hcap hsz hlen hc h1
  | int k n => exact .int k n
  | bool b => exact .bool b
  | str s => exact .str s
  | nilp => exact .nilp
  | nilfn => exact .nilfn
  | nilif => exact .nilif
  | yl l => exact .yl l
  | undef u => exact .undef u
  | snil sz => exact .snil sz

theorem Rel.freeze (h : Rel w L l s a) (k : Nat) : Rel w L l (s.freeze k) a ∧ Fr w l s.co w l (s.freeze k).co ∧ (s.freeze k).gl = s.gl := by
  unfold St.freeze
  split
  · rename_i o ho
    split
    · rename_i hrow
      generalize hS' : ({ s with σ := s.σ.map fun p => (p.1, p.2.frz k o), co := { s.co with ob := (rm s.co.ob k).map fun p => (p.1, p.2.frz k o) } } : St) = S'
      have hlk : ∀ j y, lk S'.co.ob j = some y → ∃ x, lk s.co.ob j = some x ∧ y = x.frz k o ∧ j ≠ k := by
        intro j y hj
        subst hS'
        simp only [lk_map (fun x : Obj => x.frz k o), lk_rm, Option.map_eq_some_iff] at hj
        obtain ⟨x, hx, rfl⟩ := hj
        split at hx
        · cases hx
        · rename_i hne; exact ⟨x, hx, rfl, fun e => hne e.symm⟩
      have hz : S'.co.z = s.co.z := by subst hS'; rfl
      have hx : ∀ b, excl l S'.co b → excl l s.co b := fun b ⟨j, y, h1, h2⟩ => by
        obtain ⟨x, h3, _, _⟩ := hlk j y h1
        exact ⟨j, x, h3, h2⟩
      have hF : Fr w l s.co w l S'.co := ⟨Nat.le_refl _, fun b _ he => ⟨rfl, fun he' => he (hx b he')⟩, rfl, .refl _⟩
      have hnk : ∀ b, l.ι k = some b → ¬ excl l S'.co b := fun b hb ⟨j, y, h1, h2⟩ => by
        obtain ⟨x, h3, _, h4⟩ := hlk j y h1
        exact h4 (h.inj j k x o b h3 ho h2 hb)
      -- what named k is now content
      have hrow' : ∀ sz lo hi u, SV w L l s.co (.row k sz lo hi) u → SV w L l S'.co (V.frz k o (.row k sz lo hi)) u := by
        intro sz lo hi u hv
        simp only [V.frz, if_true]
        split
        · rename_i hc
          have hes := row_elems (s := s) (lo := lo) ho ⟨hc.1, hrow, hc.2⟩
          generalize (if lo = 0 ∧ hi = o.es.length then o.es else (o.es.drop lo).take (hi - lo)) = es at hes
          rcases elems_sound h hv hes with ⟨h1, rfl⟩ | ⟨b, off, cap, cs, el, fz, rfl, hcap, hE⟩
          · subst h1
            rcases hv.row_inv with ⟨rfl, rfl, _, hn, _⟩ | ⟨b, hk, _, _, _, he⟩
            · rcases h.objs k o ho with ⟨_, h3, h4, _⟩ | ⟨b, c, hL⟩
              · rw [h3, h4]; exact .rr (.snil _)
              · rw [hL.at_] at hn; cases hn
            · cases he
          · rcases hv.row_inv with ⟨_, _, _, _, he⟩ | ⟨b', hk, _, _, _, he⟩
            · cases he
            · simp only [Value.slice.injEq, Option.some.injEq, Addr.mk.injEq] at he
              obtain ⟨⟨rfl, _⟩, _⟩ := he
              refine .rr (.sl ⟨(Array.getElem?_eq_some_iff.1 hE.heap).1, (h.lt k o b ho hk).2, hnk b hk⟩ hE.heap ?_ hcap hE.room hE.len (fun i e j v u x y z => hF.rr (hE.val i e j v u x y z).1) (fun i e j v u x y z => (hE.val i e j v u x y z).2))
              intro hnl
              simp only [Bool.and_eq_true, List.isEmpty_iff] at hnl
              rcases h.objs k o ho with ⟨_, _, _, hn⟩ | ⟨b', c, hL⟩
              · rw [hn] at hk; cases hk
              · exact absurd hnl.2 (hL.nl hnl.1)
        · exact .rr (.undef _)
      have hS : ∀ {v u}, SV w L l s.co v u → SV w L l S'.co (v.frz k o) u := by
        intro v u hv
        induction hv with
        | rr h0 => exact .rr (hF.rr (h0.frz k o))
        | bnil sz => exact .bnil sz
        | bsl hok hbb hnl hcap hsz hlen hc h1 => simp only [V.frz]; exact .bsl (hF.okb _ hok).1 hbb hnl hcap hsz hlen (fun i e j v u a b c => hF.rr (hc i e j v u a b c)) h1
        | bro hok hbb hsz hc ih =>
          simp only [V.frz, frzL_eq]
          refine .bro (hF.okb _ hok).1 hbb (by simpa using hsz) fun j v u hj hu => ?_
          simp only [List.getElem?_map, Option.map_eq_some_iff] at hj
          obtain ⟨v', hv', rfl⟩ := hj
          exact ih j v' u hv' hu
        | @rnil j sz hzj hk =>
          by_cases hjk : j = k
          · subst hjk; exact hrow' sz 0 0 _ (.rnil sz hzj hk)
          · simp only [V.frz, if_neg hjk]; exact .rnil sz (by rw [ZB, hz]; exact hzj) hk
        | @row j sz lo hi b hzj hk hh hc =>
          by_cases hjk : j = k
          · subst hjk; exact hrow' sz lo hi _ (.row hzj hk hh hc)
          · simp only [V.frz, if_neg hjk]; exact .row (by rw [ZB, hz]; exact hzj) hk hh hc
        | ptr hzj hk => exact .ptr (by rw [ZB, hz]; exact hzj) hk
        | agg hs hc ih =>
          simp only [V.frz, frzL_eq]
          refine .agg (by simpa using hs) fun j v u hj hu => ?_
          simp only [List.getElem?_map, Option.map_eq_some_iff] at hj
          obtain ⟨v', hv', rfl⟩ := hj
          exact ih j v' u hv' hu
        | tup hs hc ih =>
          simp only [V.frz, frzL_eq]
          refine .tup (by simpa using hs) fun j v u hj hu => ?_
          simp only [List.getElem?_map, Option.map_eq_some_iff] at hj
          obtain ⟨v', hv', rfl⟩ := hj
          exact ih j v' u hv' hu
        | fn hs ht ha hb iha ihb =>
          simp only [V.frz, frzL_eq]
          refine .fn (by simpa using hs) (by simpa using ht) (fun j v u hj hu => ?_) (fun j v u hj hu => ?_)
          · simp only [List.getElem?_map, Option.map_eq_some_iff] at hj
            obtain ⟨v', hv', rfl⟩ := hj
            exact iha j v' u hv' hu
          · simp only [List.getElem?_map, Option.map_eq_some_iff] at hj
            obtain ⟨v', hv', rfl⟩ := hj
            exact ihb j v' u hv' hu
      refine ⟨?_, hF, by subst hS'; rfl⟩
      exact {
        vals := fun t v hv => by
          have : lk (s.σ.map fun p => (p.1, p.2.frz k o)) t = some v := by subst hS'; exact hv
          simp only [lk_map, Option.map_eq_some_iff] at this
          obtain ⟨v0, hv0, rfl⟩ := this
          exact ⟨(h.vals t v0 hv0).1, hS (h.vals t v0 hv0).2⟩
        objs := fun j y hj => by
          obtain ⟨x, hx1, rfl, hne⟩ := hlk j y hj
          cases hxr : x.row with
          | true =>
            have he : x.frz k o = x := by simp [Obj.frz, hxr]
            rw [he]
            rcases h.objs j x hx1 with h1 | ⟨b, c, h1⟩
            · exact .inl h1
            · exact .inr ⟨b, c, { h1 with val := fun i e j v u x y z => .rr (hF.rr (h1.still hxr i e j v u x y z)), still := fun hr i e j v u x y z => hF.rr (h1.still hr i e j v u x y z) }⟩
          | false =>
            have he : x.frz k o = { x with es := x.es.map fun e => e.map (V.frz k o) } := by simp [Obj.frz, hxr]
            rw [he]
            rcases h.objs j x hx1 with h1 | ⟨b, c, h1⟩
            · rw [hxr] at h1; cases h1.1
            · have hget : ∀ (i : Nat) (e : List V) (j : Nat) (v : V), (x.es.map fun e => e.map (V.frz k o))[i]? = some e → e[j]? = some v → ∃ e0 v0, x.es[i]? = some e0 ∧ e0[j]? = some v0 ∧ v = v0.frz k o := by
                intro i e j v h1 h2
                simp only [List.getElem?_map, Option.map_eq_some_iff] at h1
                obtain ⟨e0, he0, rfl⟩ := h1
                simp only [List.getElem?_map, Option.map_eq_some_iff] at h2
                obtain ⟨v0, hv0, rfl⟩ := h2
                exact ⟨e0, v0, he0, hv0, rfl⟩
              exact .inr ⟨b, c, {
                at_ := h1.at_, heap := h1.heap, size := h1.size, fits := by simpa using h1.fits, cap := h1.cap
                box := fun _ => by simpa using h1.box hxr
                nl := fun hn => by simpa using h1.nl hn
                len := by
                  intro e he'
                  simp only [List.mem_map] at he'
                  obtain ⟨e0, he0, rfl⟩ := he'
                  simpa using h1.len e0 he0
                val := by
                  intro i e j v u x y z
                  obtain ⟨e0, v0, he0, hv0, rfl⟩ := hget i e j v x y
                  exact hS (h1.val i e0 j v0 u he0 hv0 z)
                one := by
                  intro i e j v u x y z
                  obtain ⟨e0, v0, he0, hv0, rfl⟩ := hget i e j v x y
                  exact h1.one i e0 j v0 u he0 hv0 z
                still := fun hr => absurd hr (by simp [hxr]) }⟩
        inj := fun j1 j2 y1 y2 b h1 h2 hb1 hb2 => by
          obtain ⟨x1, p1, _, _⟩ := hlk j1 y1 h1
          obtain ⟨x2, p2, _, _⟩ := hlk j2 y2 h2
          exact h.inj j1 j2 x1 x2 b p1 p2 hb1 hb2
        lt := fun j y b hj hb => by
          obtain ⟨x, p1, _, _⟩ := hlk j y hj
          exact h.lt j x b p1 hb
        lent := h.lent
        unborn := fun j hj => by
          rw [hz] at hj
          cases hc : lk S'.co.ob j with
          | none => rfl
          | some y =>
            obtain ⟨x, p1, _, _⟩ := hlk j y hc
            rw [h.unborn j hj] at p1; cases p1
        glob := fun g v hg => hF.rr (h.glob g v (by subst hS'; exact hg)) }
    · exact ⟨h, .refl _ _ _, rfl⟩
  · exact ⟨h, .refl _ _ _, rfl⟩

end Go.Ai

namespace Go.Ai
open Go
variable {P : Program} {w : World} {L : Nat → Prop} {l : Lay} {s : St} {a : Act}

/-! ## What is done to the state's form ahead of a region -/

/-- a place: a slot, or a cell of a box -/
inductive Loc where
  | slot (t : Nat)
  | cell (k off : Nat)

/-- keep: cut to these slots and objects; frz: a row is given up; adopt: a nil slice at x is a row of the activation's own, named d; name: the row at x is named d -/
inductive Pr where
  | keep (vs ks : List Nat)
  | frz (k : Nat)
  | adopt (x : Loc) (d el sz : Nat)
  | name (x : Loc) (d : Nat)

def boxOf (c : Co) (k : Nat) : Option (Obj × List V) :=
  match lk c.ob k with
  | some o => if o.row then none else match o.es with | [e] => some (o, e) | _ => none
  | none => none

def St.atL (s : St) : Loc → V
  | .slot t => s.get t
  | .cell k off => match boxOf s.co k with
    | some (_, e) => (e[off]?).getD .undef
    | none => .undef

def St.setL (s : St) (x : Loc) (v : V) : St :=
  match x with
  | .slot t => s.push t v
  | .cell k off => match boxOf s.co k with
    | some (o, e) => { s with co := s.co.set k { o with es := [e.set off v] } }
    | none => s

def nilV : V → Bool
  | .sl false true _ [] => true
  | _ => false

def Pr.run (s : St) : Pr → St
  | .keep vs ks => s.norm vs ks
  | .frz k => s.freeze k
  | .adopt x d el sz =>
    if nilV (s.atL x) then
      let s1 := vacate d s
      if d ∈ s1.co.z then
        let s2 : St := { s1 with co := s1.co.birth d ⟨true, true, el, sz, []⟩ }
        if nilV (s2.atL x) then s2.setL x (.row d sz 0 0) else s2
      else s1
    else s
  | .name x d => match s.atL x with
    | .row k _ _ _ => if k = d then s else (s.kill [d]).ren k d
    | _ => s

theorem boxOf_some {c : Co} {k : Nat} {o : Obj} {e : List V} (h : boxOf c k = some (o, e)) : lk c.ob k = some o ∧ o.row = false ∧ o.es = [e] := by
  unfold boxOf at h
  split at h <;> try (cases h; done)
  rename_i o' ho
  split at h <;> try (cases h; done)
  rename_i hr
  split at h <;> try (cases h; done)
  rename_i e' he
  simp only [Option.some.injEq, Prod.mk.injEq] at h
  obtain ⟨rfl, rfl⟩ := h
  exact ⟨ho, by simpa using hr, he⟩

/-- what lies at a place is read otherwise -/
theorem Rel.turnL (h : Rel w L l s a) (x : Loc) (v : V) (hu : s.atL x ≠ .undef) (hv : ∀ u, SV w L l s.co (s.atL x) u → SV w L l s.co v u) : Rel w L l (s.setL x v) a ∧ Fr w l s.co w l (s.setL x v).co ∧ (s.setL x v).gl = s.gl := by
  cases x with
  | slot t =>
    simp only [St.atL] at hu hv
    refine ⟨?_, .refl _ _ _, rfl⟩
    cases hl : lk s.σ t with
    | none => exact absurd (by simp [St.get, hl]) hu
    | some v0 =>
      have hg : s.get t = v0 := by simp [St.get, hl]
      rw [hg] at hv
      refine { h with vals := fun k y hk => ?_ }
      simp only [St.setL, St.push, lk_cons] at hk
      split at hk
      · rename_i he; subst he
        simp only [Option.some.injEq] at hk; subst hk
        exact ⟨(h.vals t v0 hl).1, hv _ (h.vals t v0 hl).2⟩
      · exact h.vals k y hk
  | cell k off =>
    simp only [St.atL] at hu hv
    simp only [St.setL]
    split
    · rename_i o e hb
      obtain ⟨ho, hr, he⟩ := boxOf_some hb
      rw [hb] at hu hv
      simp only at hu hv
      rcases h.objs k o ho with h1 | ⟨b, c, hL⟩
      · rw [hr] at h1; cases h1.1
      · have hF : Fr w l s.co w l (s.co.set k { o with es := [e.set off v] }) := Fr.set ho hL.at_ (Nat.le_refl _) (fun _ _ _ => rfl)
        have hS : ∀ {x u}, SV w L l s.co x u → SV w L l (s.co.set k { o with es := [e.set off v] }) x u := fun hv => hF.sv (fun _ hz => ⟨rfl, rfl, hz⟩) hv
        refine ⟨h.set ho hL.at_ (Nat.le_refl _) (fun _ _ _ => rfl) (c' := c) { hL with fits := by simpa [he] using hL.fits, box := fun hh => by simpa [he] using hL.box hh, nl := fun _ => by simp, len := fun e' he' => ?_, val := fun i e' j v' u p q r => ?_, one := fun i e' j v' u p q r => ?_, still := fun hh => absurd hh (by simp [hr]) }, hF, rfl⟩
        · simp only [List.mem_singleton] at he'; subst he'
          rw [List.length_set]; exact hL.len e (by simp [he])
        · cases i with
          | succ i => simp at p
          | zero =>
            simp only [List.getElem?_cons_zero, Option.some.injEq] at p; subst p
            rw [List.getElem?_set] at q
            split at q
            · rename_i hj; subst hj
              split at q
              · rename_i hlt
                simp only [Option.some.injEq] at q; subst q
                obtain ⟨y, hy⟩ : ∃ y, e[off]? = some y := ⟨e[off], by simp [hlt]⟩
                rw [hy] at hv
                exact hS (hv u (hL.val 0 e off y u (by simp [he]) hy r))
              · cases q
            · exact hS (hL.val 0 e j v' u (by simp [he]) q r)
        · cases i with
          | succ i => simp at p
          | zero =>
            simp only [List.getElem?_cons_zero, Option.some.injEq] at p; subst p
            have hj : j < e.length := by
              have := (List.getElem?_eq_some_iff.1 q).1
              simpa using this
            exact hL.one 0 e j e[j] u (by simp [he]) (by simp [hj]) r
    · exact ⟨h, .refl _ _ _, rfl⟩

theorem nilV_spec {v : V} (h : nilV v = true) : ∃ sz, v = .sl false true sz [] := by
  unfold nilV at h
  split at h
  · exact ⟨_, rfl⟩
  · cases h

theorem Pr.sound (h : Rel w L l s a) (p : Pr) : ∃ l', Rel w L l' (Pr.run s p) a ∧ Fr w l s.co w l' (Pr.run s p).co ∧ (Pr.run s p).gl = s.gl := by
  cases p with
  | keep vs ks =>
    have hless := norm_less vs ks s
    exact ⟨l, h.forget hless, hless.fr w l, rfl⟩
  | frz k => exact ⟨l, h.freeze k⟩
  | adopt x d el sz =>
    simp only [Pr.run]
    split
    · obtain ⟨l1, h1, hF1, hg1⟩ := vacate_rel h d
      generalize vacate d s = s1 at h1 hF1 hg1 ⊢
      split
      · rename_i hz
        have hl : ObjR w L (l1.set d none 0) (s1.co.birth d ⟨true, true, el, sz, []⟩) d ⟨true, true, el, sz, []⟩ := .inl ⟨rfl, rfl, rfl, by simp [Lay.set]⟩
        have h2 := h1.birth hz (b := none) (n := 0) (w' := w) (fun _ e => by cases e) (Nat.le_refl _) (fun _ _ => rfl) hl
        have hF2 : Fr w l1 s1.co w (l1.set d none 0) (s1.co.birth d ⟨true, true, el, sz, []⟩) := Fr.birth (fun _ e => by cases e) (Nat.le_refl _) (fun _ _ => rfl)
        have hnz : d ∉ (s1.co.birth d ⟨true, true, el, sz, []⟩).z := birth_notZ
        have hg2 : ({ s1 with co := s1.co.birth d ⟨true, true, el, sz, []⟩ } : St).gl = s1.gl := rfl
        generalize hs2 : ({ s1 with co := s1.co.birth d ⟨true, true, el, sz, []⟩ } : St) = s2 at h2 hg2 ⊢
        have hco : s2.co = s1.co.birth d ⟨true, true, el, sz, []⟩ := by rw [← hs2]
        rw [← hco] at hF2 hnz
        split
        · rename_i hn
          obtain ⟨sz', hn'⟩ := nilV_spec hn
          obtain ⟨p1, p2, p3⟩ := h2.turnL x (.row d sz 0 0) (by rw [hn']; exact fun e => by cases e) (fun u hu => by
            rw [hn'] at hu
            have hu' : u = .slice none 0 0 := by
              cases hu with
              | rr hr =>
                cases hr with
                | snil => rfl
                | sl hok hb hnl => exact absurd rfl (hnl rfl)
            subst hu'
            exact .rnil sz hnz (by simp [Lay.set]))
          exact ⟨_, p1, (hF1.trans hF2).trans p2, p3.trans (hg2.trans hg1)⟩
        · exact ⟨_, h2, hF1.trans hF2, hg2.trans hg1⟩
      · exact ⟨_, h1, hF1, hg1⟩
    · exact ⟨l, h, .refl _ _ _, rfl⟩
  | name x d =>
    simp only [Pr.run]
    split
    · rename_i k sz lo hi hx
      split
      · exact ⟨l, h, .refl _ _ _, rfl⟩
      · rename_i hne
        obtain ⟨h1, h2⟩ := (h.kill [d]).ren (k := k) (k' := d) (by simp [St.kill, Co.kill]) hne
        exact ⟨_, h1, (Fr.kill w l s.co [d]).trans h2, rfl⟩
    · exact ⟨l, h, .refl _ _ _, rfl⟩

def prep (ps : List Pr) (s : St) : St := ps.foldl Pr.run s

theorem prep_sound : ∀ (ps : List Pr) {l : Lay} {s : St}, Rel w L l s a → ∃ l', Rel w L l' (prep ps s) a ∧ Fr w l s.co w l' (prep ps s).co ∧ (prep ps s).gl = s.gl := by
  intro ps
  induction ps with
  | nil => intro l s h; exact ⟨l, h, .refl _ _ _, rfl⟩
  | cons p ps ih =>
    intro l s h
    obtain ⟨l1, h1, hF1, hg1⟩ := Pr.sound h p
    obtain ⟨l2, h2, hF2, hg2⟩ := ih h1
    exact ⟨l2, h2, hF1.trans hF2, hg2.trans hg1⟩

theorem freeze_gl (s : St) (k : Nat) : (s.freeze k).gl = s.gl := by
  unfold St.freeze
  split
  · split <;> rfl
  · rfl

theorem vacate_gl (d : Nat) (s : St) : (vacate d s).gl = s.gl := by
  unfold vacate
  split
  · rfl
  · split <;> rfl

theorem setL_gl (s : St) (x : Loc) (v : V) : (s.setL x v).gl = s.gl := by
  cases x with
  | slot t => rfl
  | cell k off => simp only [St.setL]; split <;> rfl

theorem Pr.run_gl (s : St) (p : Pr) : (Pr.run s p).gl = s.gl := by
  cases p with
  | keep vs ks => rfl
  | frz k => exact freeze_gl s k
  | adopt x d el sz =>
    simp only [Pr.run]
    split
    · split
      · split
        · rw [setL_gl]; exact vacate_gl d s
        · exact vacate_gl d s
      · exact vacate_gl d s
    · rfl
  | name x d =>
    simp only [Pr.run]
    split
    · split <;> rfl
    · rfl

theorem prep_gl : ∀ (ps : List Pr) (s : St), (prep ps s).gl = s.gl := by
  intro ps
  induction ps with
  | nil => intro s; rfl
  | cons p ps ih => intro s; exact (ih _).trans (Pr.run_gl s p)

end Go.Ai
