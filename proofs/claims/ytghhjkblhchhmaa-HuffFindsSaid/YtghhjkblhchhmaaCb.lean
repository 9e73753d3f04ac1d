/- Texts of the abstract interpreter and of its contracts. -/
import Derived.Test.YtghhjkblhchhmaaCa
import Derived.ChangeKeysEq
import Derived.Laws.BytesArg
namespace Go.Ai
open Go
variable {P : Program} {w : World} {L : Nat → Prop} {l : Lay} {s : St} {a : Act}

/-! ## '==' of arrays and structs of ints -/

/-- the number of cells of a type all of whose cells are ints -/
def i64Fs (P : Program) (g : Nat → Option Nat) : List Field → Nat → Option Nat
  | [], off => some off
  | f :: r, off => if f.name = "_" ∨ f.offset ≠ off then none else
      (g f.type).bind fun m => if P.cellsOf f.type = m then i64Fs P g r (off + m) else none

def i64T (P : Program) : Nat → Nat → Option Nat
  | 0, _ => none
  | d + 1, t =>
    match P.underlying t with
    | some (.int .i64) => some 1
    | some (.array n e) => (i64T P d e).bind fun m => if P.cellsOf e = m ∧ (P.info? e).isSome then some (n * m) else none
    | some (.struct fs) => if P.stoodInHeld t then none else i64Fs P (i64T P d) fs.toList 0
    | _ => none

def intCells (xs : List Int) : List Value := xs.map (.int .i64)

/-- the value of such a type *)-/
def ofInts (P : Program) (t : Nat) (xs : List Int) : Value :=
  match P.underlying t with
  | some (.array _ _) | some (.struct _) => .agg (intCells xs).toArray
  | _ => .int .i64 (xs.headD 0)

theorem part_ints {d e m : Nat} (h : i64T P d e = some m) (hs : P.cellsOf e = m) {ys : List Int} {off : Nat} (ho : off + m ≤ ys.length) (w : World) :
    (part e (intCells ys).toArray off).run P w = .ok (ofInts P e ((ys.drop off).take m)) w := by
  cases d with
  | zero => simp [i64T] at h
  | succ d =>
    unfold i64T at h
    have agg : ∀ dd, P.underlying e = some dd → isAggD dd = true → (match dd with | .array _ _ | .struct _ => true | _ => false) = true → (part e (intCells ys).toArray off).run P w = .ok (ofInts P e ((ys.drop off).take m)) w := by
      intro dd hu ha hd
      obtain ⟨i, hi⟩ := info_of_underlying hu
      have h1 : ofInts P e ((ys.drop off).take m) = .agg (intCells ((ys.drop off).take m)).toArray := by
        unfold ofInts; rw [hu]; cases dd <;> simp at hd <;> rfl
      rw [h1]
      simp only [part, Sem.run_bind, run_isAgg hu, Result.andThen_ok, ha, if_true, run_sizeOf w hi, Sem.run_pure, hs]
      congr 2
      apply Array.ext'
      simp [intCells, List.map_drop, List.map_take]
    split at h
    · rename_i hu
      simp only [Option.some.injEq] at h; subst h
      have hlt : off < ys.length := by omega
      have h1 : ofInts P e ((ys.drop off).take 1) = .int .i64 ys[off] := by
        unfold ofInts; rw [hu]
        simp only []
        rw [List.drop_eq_getElem_cons hlt]; rfl
      rw [h1]
      simp only [part, Sem.run_bind, run_isAgg hu, Result.andThen_ok, isAggD, Bool.false_eq_true, if_false]
      have : (intCells ys).toArray[off]? = some (.int .i64 ys[off]) := by simp [intCells, hlt]
      rw [this]
      simp
    · rename_i n e' hu
      exact agg _ hu rfl rfl
    · rename_i fs hu
      exact agg _ hu rfl rfl
    · cases h

theorem take_add_eq {m k : Nat} {xs ys : List Int} (hx : m ≤ xs.length) (hy : m ≤ ys.length) : (xs.take (m + k) = ys.take (m + k)) ↔ (xs.take m = ys.take m ∧ (xs.drop m).take k = (ys.drop m).take k) := by
  rw [List.take_add, List.take_add]
  constructor
  · intro h
    exact List.append_inj h (by simp; omega)
  · rintro ⟨h1, h2⟩; rw [h1, h2]

/-- 'equalIn' of such a type is equality of the ints -/
theorem equalIn_ints : ∀ (d t m : Nat), i64T P d t = some m → ∀ (D : Nat) (xs ys : List Int) (w : World), xs.length = m → ys.length = m → (Op.equalIn (D + d) t (ofInts P t xs) (ofInts P t ys)).run P w = .ok (decide (xs = ys)) w := by
  intro d
  induction d with
  | zero => intro t m h; simp [i64T] at h
  | succ d ih =>
    intro t m h D xs ys w hx hy
    unfold i64T at h
    rw [show D + (d + 1) = (D + d) + 1 from rfl]
    split at h
    · rename_i hu
      simp only [Option.some.injEq] at h; subst h
      obtain ⟨x, rfl⟩ := List.length_eq_one_iff.1 hx
      obtain ⟨y, rfl⟩ := List.length_eq_one_iff.1 hy
      have h1 : ∀ z, ofInts P t [z] = .int .i64 z := fun z => by unfold ofInts; rw [hu]; rfl
      rw [h1, h1, run_equalIn_int w (D + d) t .i64 .i64 x y hu]
      congr 1
      by_cases hxy : x = y
      · simp [hxy]
      · simp [hxy]
    · rename_i n e hu
      simp only [Option.bind_eq_some_iff] at h
      obtain ⟨m', he, h⟩ := h
      split at h <;> try (cases h; done)
      rename_i hc
      simp only [Option.some.injEq] at h; subst h
      obtain ⟨hcs, hinfo⟩ := hc
      obtain ⟨i, hi⟩ := Option.isSome_iff_exists.1 hinfo
      have h1 : ∀ z, ofInts P t z = .agg (intCells z).toArray := fun z => by unfold ofInts; rw [hu]
      rw [h1, h1, run_equalIn_array w (D + d) _ _ hu hi, hcs]
      have key : ∀ (k j : Nat), j + k = n → (Op.eqItems (D + d) e m' (intCells xs).toArray (intCells ys).toArray (List.range' j k)).run P w = .ok (decide ((xs.drop (j * m')).take (k * m') = (ys.drop (j * m')).take (k * m'))) w := by
        intro k
        induction k with
        | zero => intro j _; simp [Op.eqItems]
        | succ k ihk =>
          intro j hj
          have hroom : j * m' + m' ≤ n * m' := by rw [← Nat.succ_mul]; exact Nat.mul_le_mul_right _ (by omega)
          have hl : ∀ z : List Int, z.length = n * m' → ((z.drop (j * m')).take m').length = m' := fun z hz => by simp; omega
          have e1 : (k + 1) * m' = m' + k * m' := by rw [Nat.add_mul, Nat.one_mul, Nat.add_comm]
          have e2 : (j + 1) * m' = j * m' + m' := by rw [Nat.add_mul, Nat.one_mul]
          simp only [List.range'_succ, Op.eqItems, Sem.run_bind, part_ints he hcs (show j * m' + m' ≤ xs.length by omega), part_ints he hcs (show j * m' + m' ≤ ys.length by omega), Result.andThen_ok, ih e m' he D _ _ w (hl xs hx) (hl ys hy)]
          rw [show (decide ((xs.drop (j * m')).take ((k + 1) * m') = (ys.drop (j * m')).take ((k + 1) * m'))) = (decide ((xs.drop (j * m')).take m' = (ys.drop (j * m')).take m') && decide ((xs.drop ((j + 1) * m')).take (k * m') = (ys.drop ((j + 1) * m')).take (k * m'))) from by
            rw [e1, e2, ← List.drop_drop, ← List.drop_drop, ← Bool.decide_and]
            exact decide_eq_decide.2 (take_add_eq (by simp; omega) (by simp; omega))]
          by_cases hq : (xs.drop (j * m')).take m' = (ys.drop (j * m')).take m'
          · simp only [hq, decide_true, Bool.not_true, Bool.false_eq_true, if_false, Bool.true_and]
            exact ihk (j + 1) (by omega)
          · simp [hq]
      have := key n 0 (by omega)
      rw [List.range_eq_range', this]
      congr 2
      simp only [Nat.zero_mul, List.drop_zero]
      rw [List.take_of_length_le (by omega), List.take_of_length_le (by omega)]
    · rename_i fs hu
      split at h <;> try (cases h; done)
      rename_i hst
      have h1 : ∀ z, ofInts P t z = .agg (intCells z).toArray := fun z => by unfold ofInts; rw [hu]
      have hfs : P.fieldsOf t = fs := by simp [Program.fieldsOf, hu]
      rw [h1, h1, run_equalIn_struct w (D + d) t _ _ (by rw [hfs]; exact hu) (by simpa using hst), hfs]
      have key : ∀ (fl : List Field) (off : Nat), i64Fs P (i64T P d) fl off = some m → off ≤ m ∧ (Op.eqFields (D + d) (intCells xs).toArray (intCells ys).toArray fl).run P w = .ok (decide (xs.drop off = ys.drop off)) w := by
        intro fl
        induction fl with
        | nil =>
          intro off h
          simp only [i64Fs, Option.some.injEq] at h; subst h
          refine ⟨Nat.le_refl _, ?_⟩
          rw [List.drop_of_length_le (by omega), List.drop_of_length_le (by omega)]
          simp [Op.eqFields]
        | cons f r ihf =>
          intro off h
          simp only [i64Fs] at h
          split at h <;> try (cases h; done)
          rename_i hno
          simp only [Option.bind_eq_some_iff] at h
          obtain ⟨m', hm', h⟩ := h
          split at h <;> try (cases h; done)
          rename_i hcs
          obtain ⟨hle, hrest⟩ := ihf (off + m') h
          have hn : f.name ≠ "_" := fun e => hno (.inl e)
          have ho : f.offset = off := by
            apply Classical.byContradiction
            exact fun e => hno (.inr e)
          refine ⟨by omega, ?_⟩
          simp only [Op.eqFields, hn, ne_eq, not_false_eq_true, if_true, ho, Sem.run_bind, part_ints hm' hcs (show off + m' ≤ xs.length by omega), part_ints hm' hcs (show off + m' ≤ ys.length by omega), Result.andThen_ok,
            ih f.type m' hm' D _ _ w (show ((xs.drop off).take m').length = m' by simp; omega) (show ((ys.drop off).take m').length = m' by simp; omega)]
          have hsplit : (xs.drop off = ys.drop off) ↔ ((xs.drop off).take m' = (ys.drop off).take m' ∧ xs.drop (off + m') = ys.drop (off + m')) := by
            rw [← List.drop_drop, ← List.drop_drop]
            constructor
            · intro h; rw [h]; exact ⟨rfl, rfl⟩
            · rintro ⟨h1, h2⟩
              rw [← List.take_append_drop m' (xs.drop off), h1, h2, List.take_append_drop]
          rw [show decide (xs.drop off = ys.drop off) = (decide ((xs.drop off).take m' = (ys.drop off).take m') && decide (xs.drop (off + m') = ys.drop (off + m'))) from by
            rw [← Bool.decide_and]; exact decide_eq_decide.2 hsplit]
          by_cases hq : (xs.drop off).take m' = (ys.drop off).take m'
          · simp only [hq, decide_true, Bool.not_true, Bool.false_eq_true, if_false, Bool.true_and]
            exact hrest
          · simp [hq]
      have := (key fs.toList 0 h).2
      rw [this]; rfl
    · cases h

end Go.Ai
