/- From what a call is handed, as data, to what the interpreter takes; and the row's end, for a law that returns true. -/
import Derived.Test.YtghhjkblhchhmaaDb
import Derived.Test.YtghhjkblhchhmaaRows
import Derived.WalkKit
import Derived.ProofKit
import Derived.OpenShut
namespace Go.Ai
open Go Go.Proofs
open Go.ChangeShapes Go.WideShapes Go.ChangeAt Go.RowKit
set_option linter.unusedVariables false
set_option linter.unusedSimpArgs false

/-! ## From what a call is handed, as data, to what the interpreter takes -/
section
variable {P : Program}

theorem rowAt_le (fits : TypeId → Bool) : ∀ (d : Nat) (e : TypeId) (count off n : Nat), rowAt P fits d e count off n = true → off ≤ count * P.cellsOf e := by
  intro d
  cases d with
  | zero => intro e count off n h; simp [rowAt] at h
  | succ d =>
    intro e count off n h
    unfold rowAt at h
    simp only at h
    split at h
    · cases h
    · rename_i hs
      have hd := Nat.div_add_mod off (P.cellsOf e)
      have hm := Nat.mod_lt off (Nat.pos_of_ne_zero hs)
      simp only [Bool.or_eq_true, Bool.and_eq_true, decide_eq_true_eq, beq_iff_eq] at h
      rcases h with ⟨⟨h1, h2⟩, _⟩ | ⟨h1, _⟩
      · rw [h1, Nat.add_zero] at hd
        rw [← hd, Nat.mul_comm]
        exact Nat.mul_le_mul_right _ (by omega)
      · have : (off / P.cellsOf e + 1) * P.cellsOf e ≤ count * P.cellsOf e := Nat.mul_le_mul_right _ h1
        rw [Nat.add_mul, Nat.one_mul, Nat.mul_comm] at this
        omega
theorem liesAt_le : ∀ (d : Nat) (e : TypeId) (count off : Nat) (u : TypeId) (n : Nat), liesAt P d e count off u n = true → off ≤ count * P.cellsOf e := by
  intro d
  induction d with
  | zero => intro e count off u n h; simp [liesAt] at h
  | succ d ih =>
    intro e count off u n h
    simp only [liesAt, Bool.or_eq_true] at h
    rcases h with h | h
    · exact rowAt_le _ _ _ _ _ _ h
    · split at h
      · exact ih _ _ _ _ _ h
      · cases h

theorem has_block {W : World} {base : Nat} {a : Addr} {e : TypeId} {n : Nat} (h : W.has P .any base a e n) : ∃ b off c el fz, a = ⟨b, off, none⟩ ∧ W.heap[b]? = some (.cells c el fz) ∧ off ≤ c.size := by
  obtain ⟨_, hs, row, cells, hsh, hl⟩ := h
  obtain ⟨b, off, sp⟩ := a
  simp only at hs; subst hs
  unfold World.shape? at hsh
  split at hsh
  · rename_i c el fz hb
    simp only [Option.some.injEq, Prod.mk.injEq] at hsh
    obtain ⟨rfl, rfl⟩ := hsh
    refine ⟨b, off, c, _, fz, rfl, hb, ?_⟩
    exact Nat.le_trans (liesAt_le _ _ _ _ _ _ hl) (Nat.div_mul_le_self _ _)
  · cases hsh

/-- a slice of whole numbers -/
theorem sl_rr {H : Type} {enc : TypeId × Value → H} {W : World} {base fuel : Nat} {t e : TypeId} {k : IntKind} {v : Value} {x : DataW H × List MemPlace} (ht : P.underlying t = some (.slice e)) (he : P.underlying e = some (.int k)) (hc : P.cellsOf e = 1)
    (hok : Cell.okWide P W .any base t v) (h : DataW.trod enc P W 0 (fun _ => true) true fuel t [v] = some x) :
    ∃ (nl : Bool) (zs : List Int), RR W (okP W fun _ => False) (.sl false nl 1 (zs.map fun n => [V.int k n])) v ∧ ∀ n ∈ zs, (Lit.int k n).wf = true := by
  rcases open_ints ht he hc h with ⟨hcs, hx⟩ | ⟨a, len, cap, zs, hcs, _, hl, hm, hz, hx, hcell, hwz⟩
  · simp only [List.cons.injEq, and_true] at hcs; subst hcs
    exact ⟨true, [], .snil 1, by simp⟩
  · simp only [List.cons.injEq, and_true] at hcs; subst hcs
    simp only [Cell.okWide, ht, Cell.ok] at hok
    obtain ⟨_, _, hhas⟩ := hok
    obtain ⟨b, off, c, el, fz, rfl, hb, hoff⟩ := has_block hhas
    simp only [if_true] at hz
    have get : ∀ i, i < len → c[off + i]? = some (.int k (zs.getD i 0)) := by
      intro i hi
      have := hcell i (by omega)
      rw [add_pair, cell_at hb] at this
      exact this
    have hlen : ((zs.take len).map fun n => [V.int k n]).length = len := by simp; omega
    refine ⟨false, zs.take len, ?_, fun n hn => hwz n (List.mem_of_mem_take hn)⟩
    have key := RR.sl (w := W) (ok := okP W fun _ => False) (nl := false) (sz := 1) (es := (zs.take len).map fun n => [V.int k n]) (b := b) (off := off) (cap := cap) (c := c) (el := el) (fz := fz)
      ⟨(Array.getElem?_eq_some_iff.1 hb).1, id⟩ hb (fun hh => by cases hh) (by rw [hlen]; exact hl) (by
        rw [hlen, Nat.mul_one]
        cases len with
        | zero => simpa using hoff
        | succ n =>
          have := (Array.getElem?_eq_some_iff.1 (get n (by omega))).1
          omega) (by intro q hq; simp only [List.mem_map] at hq; obtain ⟨_, _, rfl⟩ := hq; rfl) ?_ ?_
    · rw [hlen] at key; exact key
    all_goals
      intro i q j v u h1 h2 h3
      simp only [List.getElem?_map, Option.map_eq_some_iff] at h1
      obtain ⟨n, hn, rfl⟩ := h1
      cases j with
      | succ j => simp at h2
      | zero =>
        simp only [List.getElem?_cons_zero, Option.some.injEq] at h2; subst h2
        rw [List.getElem?_take] at hn
        split at hn
        · rename_i hi
          rw [Nat.mul_one, Nat.add_zero, get i hi] at h3
          cases h3
          rw [List.getD_eq_getElem?_getD, hn]
          first | exact .int _ _ | rfl
        · cases hn

theorem u8_wf {n : Int} (h : (Lit.int .u8 n).wf = true) : 0 ≤ n ∧ n < 256 := by
  have := bounds_u8 h
  omega
end

section
variable {H : Type} {enc : TypeId × Value → H}

/-- the row's end, for a law: it returns true, and nothing that was there has turned -/
theorem law_post {P : Program} {fn : Func} {s : ChangeSpec} {W W' : World} {args : Array Value} {ds : List (DataW H)} {before : List MemPlace} (hl : laidOutB P = true) (hv : s.vars = [])
    (hts : (fn.params.toList.all fun t => P.readableRec t && decide (t < P.types.size)) = true) {tb : TypeId} (hrt : fn.resultTypes = #[tb]) (hb : P.underlying tb = some .bool)
    (hW : DataW.Whole enc P fn.params.toList s.vars false W args.toList ds [] before) (hk : Kept W W') (hfn : s.fn H (ds ++ []) = { results := [.lit (.bool true)], args := ds }) :
    s.post enc P fn false true false false W args (.bool true) W' := by
  have hW' := hW
  obtain ⟨p, q, hA, hV, rfl, hfz, hnd⟩ := hW
  have hlt : ∀ x ∈ p, x.block < W.heap.size := fun x hx => hW'.lt x (List.mem_append.2 (.inl hx))
  have stay : ∀ (ts : List TypeId) (vs : List Value) (ds : List (DataW H)) (p : List MemPlace), (ts.all fun t => P.readableRec t && decide (t < P.types.size)) = true → DataW.TrodAll enc P W 0 (fun _ => true) true ts vs ds p → (∀ x ∈ p, x.block < W.heap.size) →
      DataW.TrodAll enc P W' 0 (fun b => decide (b < W.heap.size)) true ts vs ds p := by
    intro ts
    induction ts with
    | nil =>
      intro vs ds p _ h _
      cases vs with
      | cons => exact h.elim
      | nil => cases ds with
        | cons => exact h.elim
        | nil => exact h
    | cons t ts ih =>
      intro vs ds p ha h hp
      cases vs with
      | nil => exact h.elim
      | cons v vs => cases ds with
        | nil => exact h.elim
        | cons d ds =>
          obtain ⟨p1, p2, h1, h2, rfl⟩ := h
          simp only [List.all_cons, Bool.and_eq_true, decide_eq_true_eq] at ha
          refine ⟨p1, p2, ?_, ih vs ds p2 (by simpa using ha.2) h2 (fun x hx => hp x (List.mem_append.2 (.inr hx))), rfl⟩
          refine WideElems.Trod_stays hl ha.1.1 ha.1.2 h1 (fun x hx => ?_) (fun x hx => by simpa using hp x (List.mem_append.2 (.inl hx)))
          have hb : Below W.heap.size W { W' with tape := W.tape } := ⟨hk.io.1, rfl, hk.io.2, hk.size, fun b hb => hk.keep b hb⟩
          exact hb.same (hp x (List.mem_append.2 (.inl hx)))
  have hres : DataW.TrodAll enc P W' W.heap.size (fun _ => false) false fn.resultTypes.toList ((Value.bool true).resultList fn.resultTypes.size) [.lit (.bool true)] [] := by
    rw [hrt]
    exact ⟨[], [], shut_bool hb true, rfl, rfl⟩
  refine ⟨ds, [], p ++ q, [], p, [], hW', ?_, ?_, ?_, ?_, fun hh => by cases hh⟩
  · rw [hfn]; exact hres
  · rw [hfn]; exact stay _ _ _ _ hts hA hlt
  · rw [hv, hfn]; exact rfl
  · refine ⟨hk.io.1, hk.io.2, fun i hi => ?_⟩
    rw [hk.keep i hi]
    cases W.heap[i]? with
    | none => simp
    | some o => cases o <;> simp

theorem int_rr {P : Program} {W : World} {v : Value} {d : DataW H} {ps : List MemPlace} {t : TypeId} {k : IntKind} {base : Nat} (ht : P.underlying t = some (.int k)) (hok : Value.okWide P W .any base t v) (h : DataW.Trod enc P W 0 (fun _ => true) true t v d ps) :
    ∃ n, (Lit.int k n).wf = true ∧ ∀ ok, RR W ok (.int k n) v := by
  obtain ⟨n, rfl, _, _, hw⟩ := open_int ht hok h
  exact ⟨n, hw, fun ok => .int k n⟩

theorem bytes_rr {W : World} {v : Value} {d : DataW H} {ps : List MemPlace} {base : Nat} (hok : Value.okWide Try.prog W .any base 23 v) (h : DataW.Trod enc Try.prog W 0 (fun _ => true) true 23 v d ps) :
    ∃ (nl : Bool) (zs : List Int), (∀ n ∈ zs, 0 ≤ n ∧ n < 256) ∧ RR W (okP W fun _ => False) (.sl false nl 1 (bv zs)) v := by
  obtain ⟨a, len, cap, rfl⟩ := okWide_slice Try.underlying23 hok
  obtain ⟨fuel, hf⟩ := h
  simp only [Value.okWide, Try.underlying23] at hok
  obtain ⟨nl, zs, h1, h2⟩ := sl_rr Try.underlying23 Try.underlying5 (by kernel_rfl) hok hf
  exact ⟨nl, zs, fun n hn => u8_wf (h2 n hn), h1⟩

theorem tab_rr {W : World} {v : Value} {d : DataW H} {ps : List MemPlace} {base : Nat} (hok : Value.okWide Try.prog W .any base 25 v) (h : DataW.Trod enc Try.prog W 0 (fun _ => true) true 25 v d ps) :
    ∃ t : Tab, t.Ok ∧ RR W (okP W fun _ => False) t.enc v := by
  simp only [Value.okWide, Try.underlying25] at hok
  obtain ⟨cs, rfl, hcs, ts, hts, _, hcell⟩ := hok
  have hsz : cs.size = 17 := by rw [hcs]; kernel_rfl
  obtain ⟨fuel, hf⟩ := h
  have hf' : DataW.trod enc Try.prog W 0 (fun _ => true) true fuel 25 cs.toList = some (d, ps) := hf
  obtain ⟨y0, y1, n, _, _, h0, h1⟩ := trod_struct2 Try.underlying25 hf'
  have c22 : Try.prog.cellsOf 22 = 16 := by kernel_rfl
  have c23 : Try.prog.cellsOf 23 = 1 := by kernel_rfl
  have c3 : Try.prog.cellsOf 3 = 1 := by kernel_rfl
  simp only [c22, c23] at h0 h1
  obtain ⟨xs, m, _, _, _, hxl, hxs⟩ := DataW.trod_array Try.underlying22 h0
  have hts' : ts = List.replicate 16 3 ++ [23] := by
    have : Try.prog.cellTypes Try.prog.depth 25 = some (List.replicate 16 3 ++ [23]) := by kernel_rfl
    rw [this] at hts
    exact (Option.some.inj hts).symm
  have nums : ∀ i, i < 16 → ∃ z, cs[i]? = some (.int .i64 z) := by
    intro i hi
    have h2 := hxs i hi
    rw [c3, Nat.mul_one] at h2
    have hx : ∃ x, xs[i]? = some x := ⟨xs[i]'(by omega), List.getElem?_eq_getElem (by omega)⟩
    obtain ⟨x, hx⟩ := hx
    rw [hx] at h2
    obtain ⟨z, hz, _, _⟩ := DataW.trod_int Try.underlying3 h2
    refine ⟨z, ?_⟩
    have h3 := congrArg (·[0]?) hz
    simp only [List.drop_zero, List.getElem?_take, List.getElem?_drop, Nat.add_zero, Nat.lt_add_one, if_true, hi, List.getElem?_cons_zero] at h3
    simpa using h3
  obtain ⟨z, hz⟩ : ∃ z : Nat → Int, ∀ i, i < 16 → cs[i]? = some (.int .i64 (z i)) :=
    ⟨fun i => if h : i < 16 then Classical.choose (nums i h) else 0, fun i hi => by simp only [dif_pos hi]; exact Classical.choose_spec (nums i hi)⟩
  have h16 : ∃ v16, cs[16]? = some v16 := ⟨cs[16]'(by omega), by simp [hsz]⟩
  obtain ⟨v16, hv16⟩ := h16
  have hok16 : Cell.okWide Try.prog W .any base 23 v16 := by
    obtain ⟨u, hu, h3⟩ := hcell 16 v16 hv16
    rw [hts'] at hu
    have : u = 23 := by simpa using hu.symm
    rw [← this]; exact h3
  have h1' : DataW.trod enc Try.prog W 0 (fun _ => true) true n 23 [v16] = some y1 := by
    have e : (cs.toList.drop 16).take 1 = [v16] := by
      have hl : cs.toList.length = 17 := by simpa using hsz
      have hg : cs.toList[16]'(by omega) = v16 := by
        have := hv16
        rw [Array.getElem?_eq_getElem (by omega)] at this
        simpa using Option.some.inj this
      rw [List.drop_eq_getElem_cons (by omega), hg]; rfl
    rw [e] at h1; exact h1
  obtain ⟨nl, zs, h4, h5⟩ := sl_rr Try.underlying23 Try.underlying5 (by kernel_rfl) hok16 h1'
  refine ⟨⟨(List.range 16).map z, nl, zs⟩, ⟨by simp, fun n hn => u8_wf (h5 n hn)⟩, ?_⟩
  unfold Tab.enc
  refine .agg (by simp [hsz]) fun j v u hj hu => ?_
  simp only [iv_app_get, List.length_map, List.length_range, iv_get, List.getElem?_map] at hj
  split at hj
  · rename_i hj16
    rw [List.getElem?_range hj16] at hj
    simp only [Option.map_some, Option.some.injEq] at hj
    subst hj
    rw [hz j hj16] at hu
    cases hu
    exact .int _ _
  · rename_i hj16
    have : j = 16 := by
      have := (Array.getElem?_eq_some_iff.1 hu).1
      omega
    subst this
    simp only [Nat.sub_self, List.getElem?_cons_zero, Option.some.injEq] at hj
    subst hj
    rw [hv16] at hu
    cases hu
    exact h4

/-- a law's call, out of its contract -/
theorem law_call {P : Program} {f : Nat} {vs : List V} {W : World} {args : Array Value} (h : CallR P [] f vs (.bool true)) (hs : args.size = vs.length) (hv : ∀ (j : Nat) (v : V) (u : Value), vs[j]? = some v → args[j]? = some u → RR W (okP W fun _ => False) v u) :
    Calls P f args W fun e W' => e = .returned (.bool true) ∧ Kept W W' := by
  refine (h W (fun _ => False) args hs (fun _ hb => hb.elim) (fun g v hg => by simp [lk] at hg) (fun j v u p q => .rr (hv j v u p q))).mono fun e w' he => ?_
  cases e with
  | returned u =>
    obtain ⟨h1, h2⟩ := he
    cases h2 with
    | rr h3 => cases h3; exact ⟨rfl, h1⟩
  | panicked c => exact he.elim
  | outgrown => exact he.elim
end
end Go.Ai
