/- Texts of the abstract interpreter and of its contracts. -/
import Derived.Test.YtghhjkblhchhmaaCb
import Derived.Test.YtghhjkblhchhmaaCa
namespace Go.Ai
open Go
variable {P : Program} {w : World} {L : Nat → Prop} {l : Lay} {s : St} {a : Act}

def ints : List V → Option (List Int)
  | [] => some []
  | .int .i64 n :: r => (ints r).map (n :: ·)
  | _ => none

theorem ints_map (xs : List Int) : ints (xs.map (V.int .i64)) = some xs := by
  induction xs with
  | nil => rfl
  | cons x r ih => simp [ints, ih]

/-- an array or a struct, all of whose cells are ints -/
def i64Q (P : Program) (t : Nat) : Option Nat :=
  if P.eqGuardType P.depth t then none else
  match P.underlying t with
  | some (.array _ _) | some (.struct _) => i64T P 50 t
  | _ => none

def aggEq (P : Program) (t : Nat) : V → V → Option Bool
  | .agg cs, .agg ds => (i64Q P t).bind fun n => (ints cs).bind fun xs => (ints ds).bind fun ys => if xs.length = n ∧ ys.length = n then some (decide (xs = ys)) else none
  | _, _ => none

def moreVal (P : Program) (s : St) (o : Oper) : Option V :=
  match o.op with
  | .binOp .eql t x y _ => (aggEq P t (ev s x) (ev s y)).map .bool
  | .binOp .neq t x y _ => (aggEq P t (ev s x) (ev s y)).map fun b => .bool !b
  | .convert src d x => (ty P src).bind fun S => (ty P d).bind fun T => (ty P S.elem).bind fun E =>
      if S.isSlice = true ∧ T.isStr = true ∧ E.kind = some .u8 then (s.co.elems (ev s x)).bind fun (sz, es) => if sz = 1 then (toBytes es).map .str else none else none
  | _ => none

theorem ints_sound : ∀ (cs : List V) (xs : List Int) (us : List Value) {c : Co}, ints cs = some xs → us.length = cs.length → (∀ (j : Nat) (v : V) (u : Value), cs[j]? = some v → us[j]? = some u → SV w L l c v u) → us = intCells xs := by
  intro cs
  induction cs with
  | nil =>
    intro xs us c h hl _
    simp only [ints, Option.some.injEq] at h; subst h
    exact List.length_eq_zero_iff.1 hl
  | cons v r ih =>
    intro xs us c h hl hv
    cases us with
    | nil => simp at hl
    | cons u us =>
      unfold ints at h
      split at h
      · rename_i heq; cases heq
      · rename_i n r' heq
        cases heq
        simp only [Option.map_eq_some_iff] at h
        obtain ⟨ys, hys, rfl⟩ := h
        have h1 := hv 0 _ u rfl rfl
        rw [SV.int_inv h1, ih ys us hys (by simpa using hl) (fun j v u hj hu => hv (j + 1) v u (by simpa using hj) (by simpa using hu))]
        rfl
      · cases h

theorem aggEq_sound {t : Nat} {x y : V} {ux uy : Value} {b : Bool} {c : Co} (h : aggEq P t x y = some b) (hx : SV w L l c x ux) (hy : SV w L l c y uy) (ox oy : Operand) :
    (∃ us vs, ux = .agg us ∧ uy = .agg vs) ∧ (∀ op, (eqGuard op t ox oy ux uy).run P w = .ok () w) ∧ (binOp .eql t ux uy).run P w = .ok (.bool b) w ∧ (binOp .neq t ux uy).run P w = .ok (.bool !b) w := by
  cases x <;> simp only [aggEq] at h <;> try (cases h; done)
  cases y <;> simp only [] at h <;> try (cases h; done)
  rename_i cs ds
  simp only [Option.bind_eq_some_iff] at h
  obtain ⟨n, hn, xs, hxs, ys, hys, h⟩ := h
  split at h <;> try (cases h; done)
  rename_i hl
  simp only [Option.some.injEq] at h; subst h
  obtain ⟨us, rfl, h1, h2⟩ := hx.agg_inv
  obtain ⟨vs, rfl, h3, h4⟩ := hy.agg_inv
  have e1 : us = (intCells xs).toArray := by
    rw [← Array.toArray_toList (xs := us), ints_sound cs xs us.toList hxs (by simpa using h1) (fun j v u p q => h2 j v u p (by simpa using q))]
  have e2 : vs = (intCells ys).toArray := by
    rw [← Array.toArray_toList (xs := vs), ints_sound ds ys vs.toList hys (by simpa using h3) (fun j v u p q => h4 j v u p (by simpa using q))]
  unfold i64Q at hn
  split at hn <;> try (cases hn; done)
  rename_i hg
  have hag : ∀ zs : List Int, ofInts P t zs = .agg (intCells zs).toArray := by
    intro zs
    unfold ofInts
    split at hn <;> first | (rename_i heq; rw [heq]) | cases hn
  have hn' : i64T P 50 t = some n := by
    split at hn <;> first | exact hn | cases hn
  have hrun := equalIn_ints 50 t n hn' 9950 xs ys w hl.1 hl.2
  rw [hag, hag] at hrun
  subst e1; subst e2
  refine ⟨⟨_, _, rfl, rfl⟩, fun op => run_eqGuard_agg w op t ox oy _ _ (by simpa using hg), ?_, ?_⟩
  · rw [run_eql_struct, hrun]; rfl
  · rw [run_neq_struct, hrun]; rfl

theorem toBytes_spec : ∀ (es : List (List V)) (bs : List UInt8), toBytes es = some bs → ∃ ns : List Int, es = ns.map (fun n => [V.int .u8 n]) ∧ bs = ns.map fun n => UInt8.ofNat n.toNat := by
  intro es
  induction es with
  | nil => intro bs h; simp only [toBytes, Option.some.injEq] at h; subst h; exact ⟨[], rfl, rfl⟩
  | cons e r ih =>
    intro bs h
    unfold toBytes at h
    split at h
    · rename_i heq; cases heq
    · rename_i n r' heq
      cases heq
      simp only [Option.map_eq_some_iff] at h
      obtain ⟨bs', h1, rfl⟩ := h
      obtain ⟨ns, h2, h3⟩ := ih bs' h1
      exact ⟨n :: ns, by simp [h2], by simp [h3]⟩
    · cases h

theorem moreVal_sound {o : Oper} {v : V} (h : Rel w L l s a) (hs : moreVal P s o = some v) : Gives P w L l s a o v := by
  obtain ⟨dst, op, typ, pos, after, g⟩ := o
  unfold moreVal at hs
  split at hs
  · rename_i t x y t' hop
    simp only at hop; subst hop
    simp only [Option.map_eq_some_iff] at hs
    obtain ⟨b, hb, rfl⟩ := hs
    obtain ⟨_, h1, h2, _⟩ := aggEq_sound hb (h.ev x) (h.ev y) x y
    exact ⟨.bool b, by simp only [execOp, Sem.run_bind, h1, h2, Result.andThen_ok, Sem.run_pure], .rr (.bool _)⟩
  · rename_i t x y t' hop
    simp only at hop; subst hop
    simp only [Option.map_eq_some_iff] at hs
    obtain ⟨b, hb, rfl⟩ := hs
    obtain ⟨_, h1, _, h2⟩ := aggEq_sound hb (h.ev x) (h.ev y) x y
    exact ⟨.bool !b, by simp only [execOp, Sem.run_bind, h1, h2, Result.andThen_ok, Sem.run_pure], .rr (.bool _)⟩
  · rename_i src d x hop
    simp only at hop; subst hop
    simp only [Option.bind_eq_some_iff] at hs
    obtain ⟨S, hS, T, hT, E, hE, hs⟩ := hs
    split at hs <;> try (cases hs; done)
    rename_i hc
    obtain ⟨hc1, hc2, hc3⟩ := hc
    simp only [Option.bind_eq_some_iff] at hs
    obtain ⟨⟨sz, es⟩, hes, hs⟩ := hs
    split at hs <;> try (cases hs; done)
    rename_i hsz
    simp only at hsz; subst hsz
    simp only [Option.map_eq_some_iff] at hs
    obtain ⟨bs, hbs, rfl⟩ := hs
    obtain ⟨i1, d1, z1, _, hd1, _, rfl⟩ := ty_spec hS
    obtain ⟨i2, d2, z2, _, hd2, _, rfl⟩ := ty_spec hT
    obtain ⟨i3, d3, z3, _, hd3, _, rfl⟩ := ty_spec hE
    obtain ⟨e, rfl⟩ := isSlice_spec hc1
    have hd2s : P.underlying d = some .string := by
      cases d2 <;> simp [mkTy] at hc2
      exact hd2
    have hd3u : P.underlying e = some (.int .u8) := by
      obtain rfl := kind_spec hc3
      exact hd3
    obtain ⟨ns, rfl, rfl⟩ := toBytes_spec es bs hbs
    rcases elems_sound h (h.ev x) hes with ⟨h1, h2⟩ | ⟨b, off, cap, cs, el, fz, h2, hcap, hE⟩
    · have hns : ns = [] := by simpa using h1
      subst hns
      refine ⟨.string ByteArray.empty, ?_, .rr (.str ByteArray.empty)⟩
      simp only [execOp, h2, Sem.run_bind, run_convert_bytes_nil w src e hd1 hd3u 0 0 d hd2s, Result.andThen_ok, Sem.run_pure]
    · have hcell : ∀ i, i < ns.length → w.cell? ⟨b, off + i, none⟩ = some (.int .u8 (ns.getD i 0)) := by
        intro i hi
        have hroom := hE.room
        have hlt : off + i < cs.size := by simp at hroom; omega
        have h3 := hE.val i [V.int .u8 ns[i]] 0 (V.int .u8 ns[i]) cs[off + i] (by simp [hi]) rfl (by simp [hlt])
        have h4 := SV.int_inv (VR.rr h3.1)
        rw [cell_at hE.heap, Array.getElem?_eq_getElem hlt, h4]
        simp [hi]
      have hrun := run_convert_bytes_arg w src e hd1 hd3u b off ns.length cap ns rfl hcell d hd2s
      refine ⟨.string (strOfNums ns), ?_, ?_⟩
      · rw [List.length_map] at h2
        simp only [execOp, h2, Sem.run_bind, hrun, Result.andThen_ok, Sem.run_pure]
      · have : (strOfNums ns).data.toList = ns.map fun n => UInt8.ofNat n.toNat := by simp [strOfNums]
        rw [← this]
        exact .rr (.str _)
  · cases hs

end Go.Ai
