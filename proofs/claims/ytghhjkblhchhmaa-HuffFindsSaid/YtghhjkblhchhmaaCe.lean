/- Texts of the abstract interpreter and of its contracts. -/
import Derived.Test.YtghhjkblhchhmaaCd
import Derived.Test.YtghhjkblhchhmaaCc
import Derived.RangeFuncIn
import Derived.OrdersIn
namespace Go.Ai
open Go
variable {P : Program} {w : World} {L : Nat → Prop} {l : Lay} {s : St} {a : Act}

/-! ## One operation -/

def WideF (F : Fence) : Prop := ∃ r, F = { Fence.wide with round := r }

theorem WideF.fn {F : Fence} (h : WideF F) (f : FuncId) : F.fn f := by obtain ⟨r, rfl⟩ := h; trivial
theorem WideF.depth {F : Fence} (h : WideF F) : F.depth = none := by obtain ⟨r, rfl⟩ := h; rfl

theorem WideF.callsIn {F : Fence} (h : WideF F) {n : Nat} {f : FuncId} {args : Array Value} {w : World} {R : Ending → World → Prop} (hc : Calls P f args w R) : CallsIn F n P f args w R := by
  obtain ⟨r, rfl⟩ := h
  have := callsIn_wide (n := n).2 hc
  exact ⟨trivial, fun cs _ => this.2 cs (room_wide _)⟩

/-- a function that has a body, and is called as any other -/
def Enters (P : Program) (f : FuncId) : Prop := ∃ fn, P.funcs[f]? = some fn ∧ (fn.name == "runtime.NumGoroutine") = false ∧ fn.body.isNone = false

theorem Enters.run {f : FuncId} (h : Enters P f) (us : Array Value) (w : World) : (callFunc f us).run P w = .ok (.enter f us) w := by
  obtain ⟨fn, h1, h2, h3⟩ := h
  unfold callFunc
  simp only [Sem.run_bind, run_program, Result.andThen_ok, h1, h2, h3, Bool.false_eq_true, if_false, Sem.run_pure]

/-- the contracts that a stretch may use -/
abbrev Cs := Nat → List V → Option V

def Cs.Ok (P : Program) (G : List (Nat × V)) (C : Cs) : Prop := ∀ f vs r, C f vs = some r → Enters P f ∧ CallR P G f vs r

def calleeA (s : St) (c : Call) : Option (Nat × List V) :=
  match c.callee with
  | .value x => match ev s x with
    | .fn f first caps => some (f, first ++ c.args.toList.map (ev s) ++ caps)
    | _ => none
  | _ => none


/-! ### What an operation lays -/

/-- a value; an object that is born under its slot's name; an object that goes over into that one; an object that is turned -/
structure Res where
  v : V
  ob : Option Obj
  del : Option Nat
  st : Option (Nat × Obj)

def Res.val (v : V) : Res := ⟨v, none, none, none⟩

def Co.turn (c : Co) (r : Res) : Co :=
  let c := match r.st with | some (k, o) => c.set k o | none => c
  match r.del with | some k => c.del k | none => c

def St.lay (s : St) (d : Option Nat) (r : Res) : St :=
  match d, r.ob with
  | some d, some x => St.push { s with co := (s.co.turn r).birth d x } d r.v
  | d, _ => St.put { s with co := s.co.turn r } d r.v

def resStore (P : Program) (s : St) (t : Nat) (x y : Operand) : Option Res :=
  (ty P t).bind fun T =>
  match ev s x with
  | .ptr k sz i off => (lk s.co.ob k).bind fun o => (o.es[i]?).bind fun e => ((ev s y).flat).bind fun vs =>
      if o.sz = sz ∧ vs.length = T.size ∧ off + T.size ≤ sz ∧ (o.row = false ∨ stillL vs = true) then
        some ⟨.tup [], none, none, some (k, { o with es := o.es.set i (splice e off vs) })⟩
      else none
  | _ => none

def resAppend (P : Program) (s : St) (d : Option Nat) (ts : List Nat) (x y : Operand) : Option Res :=
  match ts with
  | [t, t'] => if t = t' then (ty P t).bind fun T => d.bind fun d => (ty P T.elem).bind fun E => if E.zero.length ≠ E.size then none else (s.co.elems (ev s y)).bind fun (sz, es) =>
      match ev s x with
      | .row k szk lo hi => (lk s.co.ob k).bind fun o =>
          if d ∈ s.co.z ∧ o.row = true ∧ lo = 0 ∧ hi = o.es.length ∧ szk = T.esz ∧ o.sz = T.esz ∧ o.el = T.elem ∧ (sz = T.esz ∨ es = []) ∧ appendOk T o.es.length es.length = true then
            some ⟨.row d T.esz 0 (o.es.length + es.length), some { o with es := o.es ++ es }, some k, none⟩
          else none
      | .sl _ true _ [] =>
          if d ∈ s.co.z ∧ (sz = T.esz ∨ es = []) ∧ appendOk T 0 es.length = true then
            some ⟨.row d T.esz 0 es.length, some ⟨true, true, T.elem, T.esz, es⟩, none, none⟩
          else none
      | _ => none
    else none
  | _ => none

def valOp (P : Program) (s : St) (o : Oper) : Option V :=
  match stepVal P s o with
  | some v => some v
  | none => moreVal P s o

def resOp (P : Program) (C : Cs) (s : St) (o : Oper) : Option Res :=
  match o.op with
  | .store t x y => if o.dst = none then resStore P s t x y else none
  | .alloc t => (ty P t).bind fun T => o.dst.bind fun d =>
      if d ∈ s.co.z ∧ T.zero.all V.one ∧ T.zero.length = T.size then some ⟨.ptr d T.size 0 0, some ⟨false, false, t, T.size, [T.zero]⟩, none, none⟩ else none
  | .box t x => (ty P t).bind fun T => o.dst.bind fun d => ((ev s x).flat).bind fun cs =>
      if d ∈ s.co.z ∧ cs.length = T.size then some ⟨.ptr d T.size 0 0, some ⟨false, false, t, T.size, [cs]⟩, none, none⟩ else none
  | .build t ps => (buildVal P s t ps.toList).map .val
  | .buildSlice t len ps => (ty P t).bind fun T => o.dst.bind fun d => (flats s (ps.toList.map (·.2))).bind fun es =>
      if d ∈ s.co.z ∧ T.isSlice ∧ (ty P T.elem).isSome ∧ T.esz ≠ 0 ∧ len * T.esz ≤ 16777216 ∧ ps.toList.map (·.1) = List.range len ∧ (es.all fun e => e.length == T.esz && stillL e) = true then
        some ⟨.row d T.esz 0 len, some ⟨true, false, T.elem, T.esz, es⟩, none, none⟩ else none
  | .call c =>
    match c.callee with
    | .builtin .append => match c.args.toList with
      | [x, y] => resAppend P s o.dst c.argTypes.toList x y
      | _ => none
    | .builtin _ => (stepVal P s o).map .val
    | _ => (calleeA s c).bind fun (f, vs) => (lendL 1000 s.co vs).bind fun vs => (C f vs).bind fun r =>
      match r with
      | .own nl el sz es => o.dst.bind fun d => if d ∈ s.co.z then some ⟨.row d sz 0 es.length, some ⟨true, nl, el, sz, es⟩, none, none⟩ else none
      | r => some (.val r)
  | _ => (valOp P s o).map .val

/-- operations that lay an object under their slot's name -/
def bears (o : Oper) : Bool :=
  match o.op with
  | .alloc _ | .box _ _ | .buildSlice _ _ _ => true
  | .call c => match c.callee with
    | .builtin .append => true
    | _ => false
  | _ => false

def isCall (o : Oper) : Bool :=
  match o.op with
  | .call c => match c.callee with
    | .builtin _ => false
    | _ => true
  | _ => false

def vacateO (d : Option Nat) (s : St) : St :=
  match d with
  | some d => vacate d s
  | none => s

/-- one operation of a region that runs in order -/
def stepOp (P : Program) (C : Cs) (s : St) (o : Oper) : Option St :=
  if bears o then let s := vacateO o.dst s; (resOp P C s o).map (s.lay o.dst)
  else match resOp P C s o with
    | some r => some (s.lay o.dst r)
    | none => if isCall o then let s := vacateO o.dst s; (resOp P C s o).map (s.lay o.dst) else none

theorem vacateO_rel (h : Rel w L l s a) (d : Option Nat) : ∃ l', Rel w L l' (vacateO d s) a ∧ Fr w l s.co w l' (vacateO d s).co ∧ (vacateO d s).gl = s.gl := by
  cases d with
  | none => exact ⟨l, h, .refl _ _ _, rfl⟩
  | some d => exact vacate_rel h d

/-- what a run of an operation asks -/
def Does (P : Program) (w : World) (L : Nat → Prop) (l : Lay) (s : St) (a : Act) (o : Oper) (s' : St) : Prop :=
  (∀ c, o.op ≠ .defer c) ∧
  ((∃ u w' l', (execOp a.eval o).run P w = .ok (.value u) w' ∧ Rel w' L l' s' (a.put o.dst u) ∧ Fr w l s.co w' l' s'.co) ∨
  (∃ w' l', (execOp a.eval o).run P w = .ok .skip w' ∧ Rel w' L l' s' (a.put o.dst undef) ∧ Fr w l s.co w' l' s'.co) ∨
  ∃ f us, (execOp a.eval o).run P w = .ok (.enter f us) w ∧ Calls P f us w fun
    | .returned u, w' => ∃ l', Rel w' L l' s' (a.put o.dst u) ∧ Fr w l s.co w' l' s'.co
    | _, _ => False)

theorem Does.wp {F : Fence} (hF : WideF F) {n : Nat} {o : Oper} {s' : St} (h : Does P w L l s a o s') {K : Act → World → Prop} {Q : Exit → Act → World → Prop}
    (hK : ∀ w' l' u, Rel w' L l' s' (a.put o.dst u) → Fr w l s.co w' l' s'.co → K (a.put o.dst u) w') : o.wpIn F n P a w K Q := by
  refine ⟨fun f _ => hF.fn f, ?_⟩
  rw [Oper.semAt_eq _ _ _ h.1]
  rcases h.2 with ⟨u, w', l', h1, h2, h3⟩ | ⟨w', l', h1, h2, h3⟩ | ⟨f, us, h1, h2⟩
  · rw [h1]; exact hK w' l' u h2 h3
  · rw [h1]; exact hK w' l' undef h2 h3
  · rw [h1, Oper.uponIn_enter]
    refine ⟨fun hd => by simp [hF.depth] at hd, hF.callsIn (h2.mono fun e w' he => ?_)⟩
    cases e with
    | returned u => obtain ⟨l', h3, h4⟩ := he; exact hK w' l' u h3 h4
    | panicked c => exact he.elim
    | outgrown => exact he.elim

theorem own_born (h : Rel w L l s a) {w' : World} (hk : Kept w w') {d : Nat} (hd : d ∈ s.co.z) {nl : Bool} {el sz : Nat} {es : List (List V)} {u : Value}
    (ho : OwnRow w' (okP w' (LB L l s.co)) w.heap.size nl el sz es u) (ht : d < a.tmps.size) :
    ∃ l', Rel w' L l' (St.push { s with co := s.co.birth d ⟨true, nl, el, sz, es⟩ } d (.row d sz 0 es.length)) (a.put (some d) u) ∧ Fr w l s.co w' l' (s.co.birth d ⟨true, nl, el, sz, es⟩) := by
  have hio := hk.io
  rcases ho with ⟨rfl, rfl, rfl⟩ | ⟨b, c, cap, hn, hb, rfl, hheap, hsz, hle, hcm, hnl, hlen, hval⟩
  · refine ⟨l.set d none 0, ?_, Fr.birth (fun _ hh => by cases hh) hk.size hk.keep⟩
    exact (h.birth hd (fun _ hh => by cases hh) hk.size hk.keep (.inl ⟨rfl, rfl, rfl, by simp [Lay.set]⟩)).push (.rnil _ birth_notZ (by simp [Lay.set])) d ht
  · have hF : Fr w l s.co w' (l.set d (some b) cap) (s.co.birth d ⟨true, nl, el, sz, es⟩) := Fr.birth (fun _ hh => by cases hh; exact hn) hk.size hk.keep
    refine ⟨l.set d (some b) cap, ?_, hF⟩
    have hκ : (l.set d (some b) cap).κ d = cap := by simp [Lay.set]
    have hrow := row_sv (w' := w') (L := L) (c := s.co.birth d ⟨true, nl, el, sz, es⟩) (k := d) (sz := sz) (n := es.length) birth_notZ (l' := l.set d (some b) cap) (b := b) (by simp [Lay.set]) (by rw [hκ]; exact hle)
    rw [hκ] at hrow
    refine (h.birth hd (fun _ hh => by cases hh; exact ⟨hn, hb⟩) hk.size hk.keep (.inr ⟨b, c, ?_⟩)).push hrow d ht
    have ok : ∀ q, (okP w' (LB L l s.co) q ∧ q ≠ b) → okB w' L (l.set d (some b) cap) (s.co.birth d ⟨true, nl, el, sz, es⟩) q ∧ w'.heap[q]? = w'.heap[q]? := by
      intro q hq
      refine ⟨⟨hq.1.1, fun hh => hq.1.2 (.inl hh), fun hh => ?_⟩, rfl⟩
      rcases excl_birth hh with h1 | h1
      · exact hq.1.2 (.inr h1)
      · exact hq.2 (Option.some.inj h1).symm
    exact {
      at_ := by simp [Lay.set], heap := hheap, size := by rw [hκ]; exact hsz, fits := by rw [hκ]; exact hle, cap := by rw [hκ]; exact hcm, box := (fun hh => by cases hh), nl := hnl, len := hlen
      val := fun i e j v u p q r => .rr ((hval i e j v u p q r).1.mono ok)
      one := fun i e j v u p q r => (hval i e j v u p q r).2
      still := fun _ i e j v u p q r => (hval i e j v u p q r).1.mono ok }

theorem Ret.sv {w' : World} {c : Co} {r : V} {u : Value} {n0 : Nat} (h : Ret w' (okP w' (LB L l c)) n0 r u) (hr : ∀ nl el sz es, r ≠ .own nl el sz es) : SV w' L l c r u := by
  have ok : ∀ q, okP w' (LB L l c) q → okB w' L l c q ∧ w'.heap[q]? = w'.heap[q]? := fun q hq => ⟨⟨hq.1, fun hh => hq.2 (.inl hh), fun hh => hq.2 (.inr hh)⟩, rfl⟩
  cases h with
  | rr h => exact .rr (h.mono ok)
  | tup hs hc => exact .tup hs fun j v u p q => .rr ((hc j v u p q).mono ok)
  | own h => exact absurd rfl (hr _ _ _ _)

end Go.Ai

namespace Go.Ai
open Go
variable {P : Program} {w : World} {L : Nat → Prop} {l : Lay} {s : St} {a : Act}

theorem SV.fn_inv {c : Co} {f : Nat} {x y : List V} {u : Value} (h : SV w L l c (.fn f x y) u) : ∃ us vs : Array Value, u = .func (.func f) us vs ∧ us.size = x.length ∧ vs.size = y.length ∧
    (∀ (j : Nat) (v : V) (u : Value), x[j]? = some v → us[j]? = some u → SV w L l c v u) ∧ ∀ (j : Nat) (v : V) (u : Value), y[j]? = some v → vs[j]? = some u → SV w L l c v u := by
  cases h with
  | rr h => cases h with
    | fn hs ht ha hb => exact ⟨_, _, rfl, hs, ht, fun j v u p q => .rr (ha j v u p q), fun j v u p q => .rr (hb j v u p q)⟩
  | fn hs ht ha hb => exact ⟨_, _, rfl, hs, ht, ha, hb⟩

theorem svs_append {c : Co} {vs vs2 : List V} {us us2 : Array Value} (hs : us.size = vs.length) (h : ∀ (j : Nat) (v : V) (u : Value), vs[j]? = some v → us[j]? = some u → SV w L l c v u)
    (h2 : ∀ (j : Nat) (v : V) (u : Value), vs2[j]? = some v → us2[j]? = some u → SV w L l c v u) : ∀ (j : Nat) (v : V) (u : Value), (vs ++ vs2)[j]? = some v → (us ++ us2)[j]? = some u → SV w L l c v u := by
  intro j v u p q
  by_cases hj : j < vs.length
  · rw [List.getElem?_append_left hj] at p
    rw [Array.getElem?_append_left (by omega)] at q
    exact h j v u p q
  · rw [List.getElem?_append_right (by omega)] at p
    rw [Array.getElem?_append_right (by omega), hs] at q
    exact h2 _ v u p q


theorem turn_none (c : Co) (v : V) (x : Option Obj) : c.turn ⟨v, x, none, none⟩ = c := rfl
theorem lay_val (s : St) (d : Option Nat) (v : V) : s.lay d (.val v) = s.put d v := by cases d <;> rfl
theorem lay_born (s : St) (d : Nat) (v : V) (x : Obj) : s.lay (some d) ⟨v, some x, none, none⟩ = St.push { s with co := s.co.birth d x } d v := rfl

theorem call_sound {C : Cs} {c : Call} {f : Nat} {vs vs' : List V} {r : V} {s' : St} {o : Oper} (ho : o.op = .call c) (h : Rel w L l s a) (hC : C.Ok P s.gl.g)
    (hc : calleeA s c = some (f, vs)) (hv : lendL 1000 s.co vs = some vs') (hr : C f vs' = some r)
    (hp : ∀ u w', Kept w w' → Ret w' (okP w' (LB L l s.co)) w.heap.size r u → ∃ l', Rel w' L l' s' (a.put o.dst u) ∧ Fr w l s.co w' l' s'.co) : Does P w L l s a o s' := by
  obtain ⟨hE, hR⟩ := hC f vs' r hr
  unfold calleeA at hc
  split at hc <;> try (cases hc; done)
  rename_i x hx
  split at hc <;> try (cases hc; done)
  rename_i f' first caps hf
  simp only [Option.some.injEq, Prod.mk.injEq] at hc
  obtain ⟨rfl, rfl⟩ := hc
  have hfx := h.ev x
  rw [hf] at hfx
  obtain ⟨us1, us3, he, hs1, hs3, hv1, hv3⟩ := hfx.fn_inv
  have hsv : ∀ (j : Nat) (v : V) (u : Value), (first ++ c.args.toList.map (ev s) ++ caps)[j]? = some v → (us1 ++ c.args.map a.eval ++ us3)[j]? = some u → SV w L l s.co v u :=
    svs_append (by simp [hs1]) (svs_append hs1 hv1 (evs_sound h c.args)) hv3
  have hrun : (execOp a.eval o).run P w = .ok (.enter f' (us1 ++ c.args.map a.eval ++ us3)) w := by
    have h1 : execOp a.eval o = (do let d ← resolve a.eval c o.type; invoke d.target d.args) := by unfold execOp; rw [ho]
    have h2 : (resolve a.eval c o.type).run P w = .ok { target := .fn (.func f') us3, args := us1 ++ c.args.map a.eval } w := by
      unfold resolve
      simp only [hx]
      rw [he]
      rfl
    rw [h1, Sem.run_bind, h2, Result.andThen_ok]
    exact hE.run _ w
  refine ⟨fun c' hh => (by rw [ho] at hh; cases hh), .inr (.inr ⟨f', _, hrun, ?_⟩)⟩
  obtain ⟨hlen, hget⟩ := lendL_get 1000 _ _ hv
  have hcall := hR w (LB L l s.co) (us1 ++ c.args.map a.eval ++ us3) (by rw [hlen]; simp [hs1, hs3]) (fun b hb => hb.elim (h.lent b) (fun ⟨k, o, h1, h2⟩ => (h.lt k o b h1 h2).1))
    (fun g v hg => (h.glob g v hg).mono okB_okP) (fun j v u p q => by
      obtain ⟨m, x', _, h4, h5⟩ := hget j v p
      exact lend_sound h m (hsv j x' u h4 q) h5)
  refine hcall.mono fun e w' he' => ?_
  cases e with
  | returned u => exact hp u w' he'.1 he'.2
  | panicked c => exact he'
  | outgrown => exact he'

theorem Gives.does {o : Oper} {v : V} (h : Rel w L l s a) (hd : ∀ t, o.dst = some t → t < a.tmps.size) (hg : Gives P w L l s a o v) (hn : ∀ c, o.op ≠ .defer c) : Does P w L l s a o (s.lay o.dst (.val v)) := by
  obtain ⟨u, h1, h2⟩ := hg
  rw [lay_val]
  refine ⟨hn, .inl ⟨u, w, l, h1, h.put h2 o.dst hd, ?_⟩⟩
  have := Fr.refl w l s.co
  cases o.dst <;> exact this

theorem Does.of_fresh {o : Oper} {l0 : Lay} {s0 s' : St} (h2 : Fr w l s.co w l0 s0.co) (h : Does P w L l0 s0 a o s') : Does P w L l s a o s' := by
  refine ⟨h.1, ?_⟩
  rcases h.2 with ⟨u, w', l', p1, p2, p3⟩ | ⟨w', l', p1, p2, p3⟩ | ⟨f, us, p1, p2⟩
  · exact .inl ⟨u, w', l', p1, p2, h2.trans p3⟩
  · exact .inr (.inl ⟨w', l', p1, p2, h2.trans p3⟩)
  · refine .inr (.inr ⟨f, us, p1, p2.mono fun e w' he => ?_⟩)
    cases e with
    | returned u => obtain ⟨l', h3, h4⟩ := he; exact ⟨l', h3, h2.trans h4⟩
    | panicked c => exact he
    | outgrown => exact he

theorem store_of_res {t : Nat} {x y : Operand} {r : Res} (h : resStore P s t x y = some r) : stepStore P s t x y = some (s.lay none r) := by
  unfold resStore at h
  unfold stepStore
  simp only [Option.bind_eq_some_iff] at h ⊢
  obtain ⟨T, hT, h⟩ := h
  refine ⟨T, hT, ?_⟩
  split at h <;> try (cases h; done)
  rename_i k sz i off hx
  simp only [hx]
  simp only [Option.bind_eq_some_iff] at h ⊢
  obtain ⟨o, ho, e, he, vs, hvs, h⟩ := h
  refine ⟨o, ho, e, he, vs, hvs, ?_⟩
  split at h <;> try (cases h; done)
  rename_i hc
  simp only [Option.some.injEq] at h; subst h
  rw [if_pos hc]; rfl

theorem append_of_res {d : Option Nat} {ts : List Nat} {x y : Operand} {r : Res} (h : resAppend P s d ts x y = some r) : stepAppend P s d ts x y = some (s.lay d r) := by
  unfold resAppend at h
  unfold stepAppend
  split at h <;> try (cases h; done)
  split at h <;> try (cases h; done)
  rename_i t t' htt
  dsimp only
  rw [if_pos htt]
  simp only [Option.bind_eq_some_iff] at h ⊢
  obtain ⟨T, hT, d, rfl, E, hE, h⟩ := h
  refine ⟨T, hT, d, rfl, E, hE, ?_⟩
  split at h <;> try (cases h; done)
  rename_i hEz
  rw [if_neg hEz]
  simp only [Option.bind_eq_some_iff] at h ⊢
  obtain ⟨⟨sz, es⟩, hes, h⟩ := h
  refine ⟨(sz, es), hes, ?_⟩
  split at h
  · rename_i k szk lo hi hx
    simp only [hx]
    simp only [Option.bind_eq_some_iff] at h ⊢
    obtain ⟨o, ho, h⟩ := h
    refine ⟨o, ho, ?_⟩
    split at h <;> try (cases h; done)
    rename_i hc
    simp only [Option.some.injEq] at h; subst h
    rw [if_pos hc]; rfl
  · rename_i br szk hx
    simp only [hx]
    split at h <;> try (cases h; done)
    rename_i hc
    simp only [Option.some.injEq] at h; subst h
    rw [if_pos hc]; rfl
  · cases h

theorem valOp_sound {o : Oper} {v : V} (h : Rel w L l s a) (hs : valOp P s o = some v) : Gives P w L l s a o v := by
  unfold valOp at hs
  split at hs
  · rename_i v' hv
    simp only [Option.some.injEq] at hs; subst hs
    exact stepVal_sound h hv
  · exact moreVal_sound h hs

theorem resOp_sound {C : Cs} {r : Res} {o : Oper} (h : Rel w L l s a) (hd : ∀ t, o.dst = some t → t < a.tmps.size) (hC : C.Ok P s.gl.g) (hs : resOp P C s o = some r) : Does P w L l s a o (s.lay o.dst r) := by
  obtain ⟨dst, op, typ, pos, after, g⟩ := o
  have val : ∀ v, stepVal P s ⟨dst, op, typ, pos, after, g⟩ = some v → (∀ c, op ≠ .defer c) → Does P w L l s a ⟨dst, op, typ, pos, after, g⟩ (s.lay dst (.val v)) := fun v hv hn => Gives.does h hd (stepVal_sound h hv) hn
  have val2 : ∀ v, valOp P s ⟨dst, op, typ, pos, after, g⟩ = some v → (∀ c, op ≠ .defer c) → Does P w L l s a ⟨dst, op, typ, pos, after, g⟩ (s.lay dst (.val v)) := fun v hv hn => Gives.does h hd (valOp_sound h hv) hn
  cases op <;> simp only [resOp] at hs
  case store t x y =>
    split at hs <;> try (cases hs; done)
    rename_i hdst
    subst hdst
    obtain ⟨w', h1, h2, h3⟩ := store_sound h (store_of_res hs)
    refine ⟨(fun c hh => by cases hh), .inr (.inl ⟨w', l, ?_, h2, h3⟩)⟩
    simp only [execOp, Sem.run_bind, h1, Result.andThen_ok, Sem.run_pure]
  case alloc t =>
    simp only [Option.bind_eq_some_iff] at hs
    obtain ⟨T, hT, d, rfl, hs⟩ := hs
    split at hs <;> try (cases hs; done)
    rename_i hc
    simp only [Option.some.injEq] at hs; subst hs
    have hst : stepAlloc P s (some d) t = some (s.lay (some d) ⟨.ptr d T.size 0 0, some ⟨false, false, t, T.size, [T.zero]⟩, none, none⟩) := by
      rw [lay_born]; simp only [stepAlloc, hT, Option.bind_some, if_pos hc]
    obtain ⟨u, w', l', p1, p2, p3⟩ := alloc_sound h hd hst
    exact ⟨(fun c hh => by cases hh), .inl ⟨u, w', l', by simp only [execOp, Sem.run_bind, p1, Result.andThen_ok, Sem.run_pure], p2, p3⟩⟩
  case box t x =>
    simp only [Option.bind_eq_some_iff] at hs
    obtain ⟨T, hT, d, rfl, cs, hcs, hs⟩ := hs
    split at hs <;> try (cases hs; done)
    rename_i hc
    simp only [Option.some.injEq] at hs; subst hs
    have hst : stepBox P s (some d) t x = some (s.lay (some d) ⟨.ptr d T.size 0 0, some ⟨false, false, t, T.size, [cs]⟩, none, none⟩) := by
      rw [lay_born]; simp only [stepBox, hT, hcs, Option.bind_some, if_pos hc]
    obtain ⟨u, w', l', p1, p2, p3⟩ := box_sound h hd hst
    exact ⟨(fun c hh => by cases hh), .inl ⟨u, w', l', by simp only [execOp, Sem.run_bind, p1, Result.andThen_ok, Sem.run_pure], p2, p3⟩⟩
  case buildSlice t n ps =>
    simp only [Option.bind_eq_some_iff] at hs
    obtain ⟨T, hT, d, rfl, es, hes, hs⟩ := hs
    split at hs <;> try (cases hs; done)
    rename_i hc
    simp only [Option.some.injEq] at hs; subst hs
    have hst : stepSlice P s (some d) t n ps.toList = some (s.lay (some d) ⟨.row d T.esz 0 n, some ⟨true, false, T.elem, T.esz, es⟩, none, none⟩) := by
      rw [lay_born]; simp only [stepSlice, hT, hes, Option.bind_some, if_pos hc]
    obtain ⟨u, w', l', p1, p2, p3⟩ := slice_lit_sound h hd hst
    exact ⟨(fun c hh => by cases hh), .inl ⟨u, w', l', by simp only [execOp, Sem.run_bind, p1, Result.andThen_ok, Sem.run_pure], p2, p3⟩⟩
  case build t ps =>
    simp only [Option.map_eq_some_iff] at hs
    obtain ⟨v, hv, rfl⟩ := hs
    obtain ⟨u, p1, p2⟩ := build_sound h hv
    exact Gives.does (o := ⟨dst, .build t ps, typ, pos, after, g⟩) h hd ⟨u, by simp only [execOp, Sem.run_bind, p1, Result.andThen_ok, Sem.run_pure], p2⟩ (fun c hh => by cases hh)
  case call c =>
    split at hs
    · rename_i hc
      split at hs <;> try (cases hs; done)
      rename_i x y hargs
      have hargs' : c.args = #[x, y] := by rw [← Array.toArray_toList (xs := c.args), hargs]
      obtain ⟨u, w', l', p1, p2, p3⟩ := append_sound (typ := typ) h hd (append_of_res hs)
      refine ⟨(fun c hh => by cases hh), .inl ⟨u, w', l', ?_, p2, p3⟩⟩
      obtain ⟨callee, args, ts⟩ := c
      simp only at hc hargs' p1; subst hc hargs'
      simp only [execOp, resolve, invoke, builtin, Sem.run_bind, Sem.run_pure, Result.andThen_ok, List.map_toArray, List.map_cons, List.map_nil, p1]
    · simp only [Option.map_eq_some_iff] at hs
      obtain ⟨v, hv, rfl⟩ := hs
      exact val v hv (fun c hh => by cases hh)
    · simp only [Option.bind_eq_some_iff] at hs
      obtain ⟨⟨f, vs⟩, h1, vs', h2, r', h3, hs⟩ := hs
      refine call_sound rfl h hC h1 h2 h3 fun u w' hk hr => ?_
      split at hs
      · simp only [Option.bind_eq_some_iff] at hs
        obtain ⟨d, rfl, hs⟩ := hs
        split at hs <;> try (cases hs; done)
        rename_i hdz
        simp only [Option.some.injEq] at hs; subst hs
        cases hr with
        | rr hr => cases hr
        | own ho => exact own_born h hk hdz ho (hd d rfl)
      · rename_i hn
        simp only [Option.some.injEq] at hs; subst hs
        rw [lay_val]
        refine ⟨l, (h.grow hk).put (hr.sv hn) dst hd, ?_⟩
        have := hk.fr l s.co
        cases dst <;> exact this
  case defer c => simp [valOp, moreVal, stepVal] at hs
  all_goals
    simp only [Option.map_eq_some_iff] at hs
    obtain ⟨v, hv, rfl⟩ := hs
    exact val2 v hv (fun c hh => by cases hh)

theorem put_gl (s : St) (d : Option Nat) (v : V) : (s.put d v).gl = s.gl := by cases d <;> rfl

theorem lay_gl (s : St) (d : Option Nat) (r : Res) : (s.lay d r).gl = s.gl := by
  unfold St.lay
  split
  · rfl
  · exact put_gl _ _ _

theorem vacateO_gl (d : Option Nat) (s : St) : (vacateO d s).gl = s.gl := by
  cases d with
  | none => rfl
  | some d =>
    simp only [vacateO, vacate]
    split
    · rfl
    · split <;> rfl

theorem stepOp_gl {C : Cs} {s' : St} {o : Oper} (hs : stepOp P C s o = some s') : s'.gl = s.gl := by
  unfold stepOp at hs
  split at hs
  · simp only [Option.map_eq_some_iff] at hs
    obtain ⟨r, hr, rfl⟩ := hs
    rw [lay_gl, vacateO_gl]
  · split at hs
    · simp only [Option.some.injEq] at hs; subst hs; exact lay_gl _ _ _
    · split at hs <;> try (cases hs; done)
      simp only [Option.map_eq_some_iff] at hs
      obtain ⟨r, hr, rfl⟩ := hs
      rw [lay_gl, vacateO_gl]

theorem stepOp_sound {C : Cs} {s' : St} {o : Oper} (h : Rel w L l s a) (hd : ∀ t, o.dst = some t → t < a.tmps.size) (hC : C.Ok P s.gl.g) (hs : stepOp P C s o = some s') : Does P w L l s a o s' := by
  obtain ⟨l', h1, h2, h3⟩ := vacateO_rel h o.dst
  unfold stepOp at hs
  split at hs
  · simp only [Option.map_eq_some_iff] at hs
    obtain ⟨r, hr, rfl⟩ := hs
    exact Does.of_fresh h2 (resOp_sound h1 hd (h3 ▸ hC) hr)
  · split at hs
    · rename_i r hr
      simp only [Option.some.injEq] at hs; subst hs
      exact resOp_sound h hd hC hr
    · split at hs <;> try (cases hs; done)
      simp only [Option.map_eq_some_iff] at hs
      obtain ⟨r, hr, rfl⟩ := hs
      exact Does.of_fresh h2 (resOp_sound h1 hd (h3 ▸ hC) hr)

end Go.Ai

namespace Go.Ai
open Go
variable {P : Program} {w : World} {L : Nat → Prop} {l : Lay} {s : St} {a : Act}

/-! ## A function that is ranged over: while a round runs, what it only borrows may turn -/

mutual
def V.unb : V → V
  | .sl br nl sz es => if br then .undef else .sl br nl sz es
  | .ro br cs => if br then .undef else .ro br cs
  | .agg cs => .agg (unbL cs)
  | .tup cs => .tup (unbL cs)
  | .fn f a b => .fn f (unbL a) (unbL b)
  | v => v
def unbL : List V → List V
  | [] => []
  | v :: r => v.unb :: unbL r
end

theorem unbL_eq (vs : List V) : unbL vs = vs.map V.unb := by
  induction vs with
  | nil => rfl
  | cons v r ih => simp [unbL, ih]

def Obj.unb (o : Obj) : Obj := if o.row then o else { o with es := o.es.map fun e => e.map V.unb }
def St.unb (s : St) : St := { s with σ := s.σ.map fun p => (p.1, p.2.unb), co := { s.co with ob := s.co.ob.map fun p => (p.1, p.2.unb) } }

theorem RR.unb {w : World} {ok : Nat → Prop} {v : V} {u : Value} (hr : RR w ok v u) : RR w ok v.unb u := by
  induction hr with
  | ro hok hb hsz hc ih => simp only [V.unb]; exact .ro hok hb hsz hc
  | agg hs hc ih =>
    simp only [V.unb, unbL_eq]
    refine .agg (by simpa using hs) fun j v u hj hu => ?_
    simp only [List.getElem?_map, Option.map_eq_some_iff] at hj
    obtain ⟨v', hv', rfl⟩ := hj
    exact ih j v' u hv' hu
  | fn hs ht ha hb iha ihb =>
    simp only [V.unb, unbL_eq]
    refine .fn (by simpa using hs) (by simpa using ht) (fun j v u hj hu => ?_) (fun j v u hj hu => ?_)
    · simp only [List.getElem?_map, Option.map_eq_some_iff] at hj
      obtain ⟨v', hv', rfl⟩ := hj
      exact iha j v' u hv' hu
    · simp only [List.getElem?_map, Option.map_eq_some_iff] at hj
      obtain ⟨v', hv', rfl⟩ := hj
      exact ihb j v' u hv' hu
  | sl hok hb hnl hcap hsz hlen hc h1 ih => simp only [V.unb]; exact .sl hok hb hnl hcap hsz hlen hc h1
  | int k n => exact .int k n
  | bool b => exact .bool b
  | str s => exact .str s
  | nilp => exact .nilp
  | nilfn => exact .nilfn
  | nilif => exact .nilif
  | yl l => exact .yl l
  | undef u => exact .undef u
  | snil sz => exact .snil sz

/-- what is borrowed is forgotten: the rest holds still -/
theorem VR.unb {w : World} {ok okb : Nat → Prop} {l : Lay} {Z : Nat → Prop} {v : V} {u : Value} (hr : VR w ok okb l Z v u) : VR w ok (fun _ => False) l Z v.unb u := by
  induction hr with
  | rr h0 => exact .rr h0.unb
  | bnil sz => simp only [V.unb]; exact .rr (.undef _)
  | bsl hok hbb hnl hcap hsz hlen hc h1 => simp only [V.unb]; exact .rr (.undef _)
  | bro hok hbb hsz hc ih => simp only [V.unb]; exact .rr (.undef _)
  | rnil sz hz hk => exact .rnil sz hz hk
  | row hz hk hh hc => exact .row hz hk hh hc
  | ptr hz hk => exact .ptr hz hk
  | agg hs hc ih =>
    simp only [V.unb, unbL_eq]
    refine .agg (by simpa using hs) fun j v u hj hu => ?_
    simp only [List.getElem?_map, Option.map_eq_some_iff] at hj
    obtain ⟨v', hv', rfl⟩ := hj
    exact ih j v' u hv' hu
  | tup hs hc ih =>
    simp only [V.unb, unbL_eq]
    refine .tup (by simpa using hs) fun j v u hj hu => ?_
    simp only [List.getElem?_map, Option.map_eq_some_iff] at hj
    obtain ⟨v', hv', rfl⟩ := hj
    exact ih j v' u hv' hu
  | fn hs ht ha hb iha ihb =>
    simp only [V.unb, unbL_eq]
    refine .fn (by simpa using hs) (by simpa using ht) (fun j v u hj hu => ?_) (fun j v u hj hu => ?_)
    · simp only [List.getElem?_map, Option.map_eq_some_iff] at hj
      obtain ⟨v', hv', rfl⟩ := hj
      exact iha j v' u hv' hu
    · simp only [List.getElem?_map, Option.map_eq_some_iff] at hj
      obtain ⟨v', hv', rfl⟩ := hj
      exact ihb j v' u hv' hu

theorem lk_unb (c : List (Nat × Obj)) (k : Nat) : lk (c.map fun p => (p.1, p.2.unb)) k = (lk c k).map Obj.unb := lk_map Obj.unb c k

theorem excl_unb {b : Nat} : excl l s.unb.co b ↔ excl l s.co b := by
  constructor
  · rintro ⟨k, o, hk, hb⟩
    simp only [St.unb, lk_unb, Option.map_eq_some_iff] at hk
    obtain ⟨o', h1, _⟩ := hk
    exact ⟨k, o', h1, hb⟩
  · rintro ⟨k, o, hk, hb⟩
    exact ⟨k, o.unb, by simp only [St.unb, lk_unb, hk, Option.map_some], hb⟩

/-- the world has turned where it was lent, and nowhere else -/
theorem Rel.turned {w' : World} {L' : Nat → Prop} (h : Rel w L l s a) (hsz : w.heap.size ≤ w'.heap.size) (hk : ∀ b, b < w.heap.size → ¬ L b → w'.heap[b]? = w.heap[b]? ∧ ¬ L' b) (hlt : ∀ b, L' b → b < w'.heap.size) : Rel w' L' l s.unb a := by
  have hok : ∀ b, okB w L l s.co b → okB w' L' l s.unb.co b ∧ w'.heap[b]? = w.heap[b]? := fun b hb =>
    ⟨⟨Nat.lt_of_lt_of_le hb.1 hsz, (hk b hb.1 hb.2.1).2, fun he => hb.2.2 (excl_unb.1 he)⟩, (hk b hb.1 hb.2.1).1⟩
  have hS : ∀ {v u}, SV w L l s.co v u → SV w' L' l s.unb.co v.unb u := fun hv => (VR.unb hv).mono hok (fun b hb => hb.elim) (fun k hz => ⟨rfl, rfl, hz⟩)
  have hR : ∀ {v u}, SR w L l s.co v u → SR w' L' l s.unb.co v u := fun hv => hv.mono hok
  exact {
    vals := fun t v hv => by
      simp only [St.unb, lk_map, Option.map_eq_some_iff] at hv
      obtain ⟨v0, h0, rfl⟩ := hv
      exact ⟨(h.vals t v0 h0).1, hS (h.vals t v0 h0).2⟩
    objs := fun k o hk' => by
      simp only [St.unb, lk_unb, Option.map_eq_some_iff] at hk'
      obtain ⟨o0, h0, rfl⟩ := hk'
      cases hrow : o0.row with
      | true =>
        have he : o0.unb = o0 := by simp [Obj.unb, hrow]
        rw [he]
        rcases h.objs k o0 h0 with h1 | ⟨b, c, h1⟩
        · exact .inl h1
        · have hb := h.lt k o0 b h0 h1.at_
          exact .inr ⟨b, c, { h1 with heap := (hk b hb.1 hb.2).1.trans h1.heap, val := fun i e j v u x y z => .rr (hR (h1.still hrow i e j v u x y z)), still := fun hr i e j v u x y z => hR (h1.still hr i e j v u x y z) }⟩
      | false =>
        have he : o0.unb = { o0 with es := o0.es.map fun e => e.map V.unb } := by simp [Obj.unb, hrow]
        rw [he]
        rcases h.objs k o0 h0 with h1 | ⟨b, c, h1⟩
        · rw [hrow] at h1; cases h1.1
        · have hb := h.lt k o0 b h0 h1.at_
          have hget : ∀ (i : Nat) (e : List V) (j : Nat) (v : V), (o0.es.map fun e => e.map V.unb)[i]? = some e → e[j]? = some v → ∃ e0 v0, o0.es[i]? = some e0 ∧ e0[j]? = some v0 ∧ v = v0.unb := by
            intro i e j v h1 h2
            simp only [List.getElem?_map, Option.map_eq_some_iff] at h1
            obtain ⟨e0, he0, rfl⟩ := h1
            simp only [List.getElem?_map, Option.map_eq_some_iff] at h2
            obtain ⟨v0, hv0, rfl⟩ := h2
            exact ⟨e0, v0, he0, hv0, rfl⟩
          exact .inr ⟨b, c, {
            at_ := h1.at_, heap := (hk b hb.1 hb.2).1.trans h1.heap, size := h1.size, fits := by simpa using h1.fits, cap := h1.cap
            box := fun _ => by simpa using h1.box hrow
            nl := fun hn => by simpa using h1.nl hn
            len := by
              intro e he
              simp only [List.mem_map] at he
              obtain ⟨e0, he0, rfl⟩ := he
              simpa using h1.len e0 he0
            val := by
              intro i e j v u x y z
              obtain ⟨e0, v0, he0, hv0, rfl⟩ := hget i e j v x y
              exact hS (h1.val i e0 j v0 u he0 hv0 z)
            one := by
              intro i e j v u x y z
              obtain ⟨e0, v0, he0, hv0, rfl⟩ := hget i e j v x y
              exact h1.one i e0 j v0 u he0 hv0 z
            still := fun hr => absurd hr (by simp [hrow]) }⟩
    inj := fun k k' o o' b h1 h2 h3 h4 => by
      simp only [St.unb, lk_unb, Option.map_eq_some_iff] at h1 h2
      obtain ⟨o0, h1, _⟩ := h1
      obtain ⟨o1, h2, _⟩ := h2
      exact h.inj k k' o0 o1 b h1 h2 h3 h4
    lt := fun k o b h1 h2 => by
      simp only [St.unb, lk_unb, Option.map_eq_some_iff] at h1
      obtain ⟨o0, h1, _⟩ := h1
      have := h.lt k o0 b h1 h2
      exact ⟨Nat.lt_of_lt_of_le this.1 hsz, (hk b this.1 this.2).2⟩
    lent := hlt
    unborn := fun k hk' => by
      simp only [St.unb, lk_unb, h.unborn k hk']; rfl
    glob := fun g v hg => hR (h.glob g v hg) }

/-! ### What a loop's body asks, and does -/

/-- The two sides of a range over a function. K i w X A: what holds when i rounds have run, in the world w, where X are the blocks that the ranged function may turn, A those that the rounds may turn. -/
structure Pro (P : Program) where
  K : Nat → World → (Nat → Prop) → (Nat → Prop) → Prop
  l : Nat
  items : List (List V)
  stop : Option Nat
  step : ∀ {i : Nat} {w : World} {X A : Nat → Prop} {w' : World} {X' : Nat → Prop}, K i w X A → w.heap.size ≤ w'.heap.size → Io w w' → (∀ b, b < w.heap.size → ¬ X b → w'.heap[b]? = w.heap[b]? ∧ ¬ X' b) → (∀ b, X' b → b < w'.heap.size) → K i w' X' A
  round : ∀ {i : Nat} {w : World} {X A : Nat → Prop} {vs : List V} {us : Array Value}, K i w X A → (∀ k, stop = some k → i ≤ k) → items[i]? = some vs → us.size = vs.length → (∀ b, X b → ¬ A b) → (∀ (j : Nat) (v : V) (u : Value), vs[j]? = some v → us[j]? = some u → RR w (fun b => b < w.heap.size ∧ ¬ X b ∧ ¬ A b) v u) →
    ∃ f tmps assign body, (Instr.yield l us).run P w = .ok (.round l f tmps assign body) w ∧ ∀ (F : Fence) (n : Nat), WideF F → RoundIn F n P l f tmps assign body w fun
      | .returned u, w' => u = .bool (decide (stop ≠ some i)) ∧ ∃ A', K (i + 1) w' X A' ∧ w.heap.size ≤ w'.heap.size ∧ Io w w' ∧ (∀ b, b < w.heap.size → ¬ A b → w'.heap[b]? = w.heap[b]? ∧ ¬ A' b) ∧ ∀ b, A' b → b < w'.heap.size
      | _, _ => False

/-- the rounds that there are -/
def Pro.lim (y : Pro P) : List (List V) :=
  match y.stop with
  | some k => y.items.take (k + 1)
  | none => y.items

theorem Pro.lim_le (y : Pro P) {k : Nat} (h : y.stop = some k) : y.lim.length ≤ k + 1 := by
  simp only [Pro.lim, h, List.length_take]; omega

theorem Pro.lim_prefix (y : Pro P) : y.lim <+: y.items := by
  unfold Pro.lim
  split
  · exact List.take_prefix _ _
  · exact List.prefix_refl _

def Live (Y : Option (Pro P)) (w : World) (X A : Nat → Prop) (s : St) : Prop :=
  match Y with
  | none => True
  | some y => y.K s.gl.out.length w X A

structure FrY (Y : Option (Pro P)) (w : World) (L : Nat → Prop) (l : Lay) (s : Co) (w' : World) (L' : Nat → Prop) (l' : Lay) (s' : Co) : Prop where
  size : w.heap.size ≤ w'.heap.size
  keep : ∀ b, b < w.heap.size → ¬ excl l s b → (Y.isSome = true → ¬ L b) → w'.heap[b]? = w.heap[b]? ∧ ¬ excl l' s' b ∧ (¬ L b → ¬ L' b)
  same : Y = none → L' = L
  M : l'.M = l.M
  io : Io w w'

theorem Fr.y {w' : World} {l' : Lay} {s s' : Co} (h : Fr w l s w' l' s') (Y : Option (Pro P)) : FrY Y w L l s w' L l' s' :=
  ⟨h.size, fun b hb he _ => ⟨(h.keep b hb he).1, (h.keep b hb he).2, id⟩, fun _ => rfl, h.M, h.io⟩

theorem FrY.trans {Y : Option (Pro P)} {w1 w2 : World} {L1 L2 : Nat → Prop} {l1 l2 : Lay} {s s1 s2 : Co} (h : FrY Y w L l s w1 L1 l1 s1) (h' : FrY Y w1 L1 l1 s1 w2 L2 l2 s2) : FrY Y w L l s w2 L2 l2 s2 where
  size := Nat.le_trans h.size h'.size
  keep := fun b hb he hL => by
    obtain ⟨p1, p2, p3⟩ := h.keep b hb he hL
    obtain ⟨q1, q2, q3⟩ := h'.keep b (Nat.lt_of_lt_of_le hb h.size) p2 (fun hy => p3 (hL hy))
    exact ⟨q1.trans p1, q2, fun hl => q3 (p3 hl)⟩
  same := fun hY => (h'.same hY).trans (h.same hY)
  M := h'.M.trans h.M
  io := h.io.trans h'.io

def mkD (r : Nat) : Deferred := { target := .collected r, args := #[] }

/-- what a stretch leaves behind; it writes no slot but those of W -/
structure After (Y : Option (Pro P)) (W : Nat → Prop) (w : World) (L : Nat → Prop) (l : Lay) (s : St) (a : Act) (s' : St) (a' : Act) (w' : World) : Prop where
  ex : ∃ L' l', Rel w' L' l' s' a' ∧ Live Y w' (excl l' s'.co) L' s' ∧ FrY Y w L l s.co w' L' l' s'.co ∧
    ∃ ms : List Nat, a'.defers = ms.map mkD ++ a.defers ∧ ms.Nodup ∧ (Y.isSome = true → ms = []) ∧ ∀ r ∈ ms, w'.heap[r]? = some (.deferred (some [])) ∧ ¬ excl l' s'.co r ∧ ¬ L' r ∧ w.heap.size ≤ r
  size : a'.tmps.size = a.tmps.size
  gl : s'.gl.g = s.gl.g
  tm : ∀ t, ¬ W t → a'.tmps.getD t undef = a.tmps.getD t undef

theorem After.self {Y : Option (Pro P)} {W : Nat → Prop} (h : Rel w L l s a) (hl : Live Y w (excl l s.co) L s) : After Y W w L l s a s a w :=
  ⟨⟨L, l, h, hl, (Fr.refl w l s.co).y Y, [], rfl, .nil, fun _ => rfl, fun r hr => by cases hr⟩, rfl, rfl, fun _ _ => rfl⟩

theorem After.mono {Y : Option (Pro P)} {W W' : Nat → Prop} {s' : St} {a' : Act} {w' : World} (h : After Y W w L l s a s' a' w') (hW : ∀ t, W t → W' t) : After Y W' w L l s a s' a' w' :=
  ⟨h.ex, h.size, h.gl, fun t ht => h.tm t fun hw => ht (hW t hw)⟩

/-- a step that keeps to the activation's own -/
theorem After.step {Y : Option (Pro P)} {W : Nat → Prop} {s1 : St} {a1 : Act} {w1 : World} {l1 : Lay} (hl : Live Y w (excl l s.co) L s) (hr : Rel w1 L l1 s1 a1) (hf : Fr w l s.co w1 l1 s1.co)
    (hz : a1.tmps.size = a.tmps.size) (hd : a1.defers = a.defers) (hg : s1.gl = s.gl) (ht : ∀ t, ¬ W t → a1.tmps.getD t undef = a.tmps.getD t undef) : After Y W w L l s a s1 a1 w1 := by
  refine ⟨⟨L, l1, hr, ?_, hf.y Y, [], hd, .nil, fun _ => rfl, fun r hr => by cases hr⟩, hz, by rw [hg], ht⟩
  cases Y with
  | none => trivial
  | some y =>
    simp only [Live, hg] at hl ⊢
    exact y.step hl hf.size hf.io (fun b hb he => hf.keep b hb he) (fun b ⟨k, o, h1, h2⟩ => (hr.lt k o b h1 h2).1)

theorem Live.step {Y : Option (Pro P)} {s1 : St} {a1 : Act} {w1 : World} {l1 : Lay} (hl : Live Y w (excl l s.co) L s) (hr : Rel w1 L l1 s1 a1) (hf : Fr w l s.co w1 l1 s1.co) (hg : s1.gl = s.gl) : Live Y w1 (excl l1 s1.co) L s1 := by
  cases Y with
  | none => trivial
  | some y =>
    simp only [Live, hg] at hl ⊢
    exact y.step hl hf.size hf.io (fun b hb he => hf.keep b hb he) (fun b ⟨k, o, h1, h2⟩ => (hr.lt k o b h1 h2).1)

/-- a step that keeps to the activation's own, and what follows it -/
theorem After.cons {Y : Option (Pro P)} {W : Nat → Prop} {s1 s2 : St} {a1 a2 : Act} {w1 w2 : World} {l1 : Lay} (hf : Fr w l s.co w1 l1 s1.co) (hz : a1.tmps.size = a.tmps.size) (hd : a1.defers = a.defers) (hg : s1.gl = s.gl)
    (ht : ∀ t, ¬ W t → a1.tmps.getD t undef = a.tmps.getD t undef) (h : After Y W w1 L l1 s1 a1 s2 a2 w2) : After Y W w L l s a s2 a2 w2 := by
  obtain ⟨⟨L2, l2, r2, v2, f2, ms2, d2, n2, y2, m2⟩, z2, g2, t2⟩ := h
  exact ⟨⟨L2, l2, r2, v2, (hf.y Y).trans f2, ms2, by rw [d2, hd], n2, y2, fun r hr => ⟨(m2 r hr).1, (m2 r hr).2.1, (m2 r hr).2.2.1, Nat.le_trans hf.size (m2 r hr).2.2.2⟩⟩, z2.trans hz, by rw [g2, hg], fun t hw => (t2 t hw).trans (ht t hw)⟩

theorem Act.put_size (a : Act) (d : Option Tmp) (u : Value) : (a.put d u).tmps.size = a.tmps.size := by cases d <;> simp [Act.put]
theorem Act.put_defers' (a : Act) (d : Option Tmp) (u : Value) : (a.put d u).defers = a.defers := by cases d <;> rfl
theorem Act.put_other (a : Act) (d : Option Tmp) (u : Value) (t : Nat) (h : d ≠ some t) : (a.put d u).tmps.getD t undef = a.tmps.getD t undef := by
  cases d with
  | none => rfl
  | some d =>
    have : ¬ d = t := fun e => h (by rw [e])
    simp only [Act.put, Array.getD_eq_getD_getElem?, Array.getElem?_setIfInBounds_ne this]

end Go.Ai

namespace Go.Ai
open Go
variable {P : Program} {w : World} {L : Nat → Prop} {l : Lay} {s : St} {a : Act}

def wantedA (ops : Array Oper) (s : St) (o : Oper) : Option Bool :=
  match o.guard with
  | none => some true
  | some (j, want) => match (ops[j]?).bind (·.dst) with
    | some t => match s.get t with
      | .bool b => some (b == want)
      | .tup _ => some false
      | _ => none
    | none => none

theorem wantedA_sound {ops : Array Oper} {o : Oper} {b : Bool} (h : Rel w L l s a) (hw : wantedA ops s o = some b) : Region.wanted o (yielded ops a.tmps) = b := by
  unfold wantedA at hw
  unfold Region.wanted
  split at hw
  · rename_i hg; simp at hw; subst hw; simp [hg]
  · rename_i j want hg
    simp only [hg]
    split at hw <;> try (cases hw; done)
    rename_i t ht
    unfold yielded
    rw [ht]
    simp only [Option.bind_some]
    split at hw
    · rename_i b' hb
      simp only [Option.some.injEq] at hw; subst hw
      cases hl : lk s.σ t with
      | none => simp [St.get, hl] at hb
      | some v =>
        have h1 := h.vals t v hl
        have : s.get t = v := by simp [St.get, hl]
        rw [this] at hb; subst hb
        have h2 := SV.bool_inv h1.2
        have h3 : a.tmps[t]? = some (.bool b') := by rw [← h2]; simp [h1.1]
        rw [h3]
        cases b' <;> cases want <;> rfl
    · rename_i cs hb
      simp only [Option.some.injEq] at hw; subst hw
      cases hl : lk s.σ t with
      | none => simp [St.get, hl] at hb
      | some v =>
        have h1 := h.vals t v hl
        have : s.get t = v := by simp [St.get, hl]
        rw [this] at hb; subst hb
        obtain ⟨us, h2, _⟩ := SV.tup_inv h1.2
        have h3 : a.tmps[t]? = some (.tuple us) := by rw [← h2]; simp [h1.1]
        rw [h3]
        cases want <;> rfl
    · cases hw

def okDst (N : Nat) (o : Oper) : Bool :=
  match o.dst with
  | some d => decide (d < N)
  | none => true

theorem okDst_spec {N : Nat} {o : Oper} (h : okDst N o = true) : ∀ t, o.dst = some t → t < N := by
  intro t ht
  simpa [okDst, ht] using h

def skipV : V := .tup []

theorem skip_sv {c : Co} : SV w L l c skipV undef := .tup (by rfl) (fun j v u h => by simp at h)


/-! ### A call of a loop's body -/

def yieldA (stop : Option Nat) (lid : Nat) (s : St) (o : Oper) : Option St :=
  match o.op with
  | .call c => match c.callee with
    | .value x => match ev s x with
      | .yl i => if i = lid ∧ (c.args.toList.map (ev s)).all V.still then
          some (St.put { s.unb with gl := { s.gl with out := s.gl.out ++ [c.args.toList.map (ev s)] } } o.dst (.bool (decide (stop ≠ some s.gl.out.length)))) else none
      | _ => none
    | _ => none
  | _ => none

theorem yieldA_gl {stop : Option Nat} {lid : Nat} {s' : St} {o : Oper} (h : yieldA stop lid s o = some s') : s'.gl.g = s.gl.g ∧ ∃ vs, s'.gl.out = s.gl.out ++ [vs] := by
  unfold yieldA at h
  split at h <;> try (cases h; done)
  split at h <;> try (cases h; done)
  split at h <;> try (cases h; done)
  split at h <;> try (cases h; done)
  simp only [Option.some.injEq] at h; subst h
  rw [put_gl]
  exact ⟨rfl, _, rfl⟩

theorem yield_sound {F : Fence} (hF : WideF F) {n : Nat} {y : Pro P} {s' : St} {o : Oper} {W : Nat → Prop} (h : Rel w L l s a) (hl : Live (some y) w (excl l s.co) L s) (hd : ∀ t, o.dst = some t → t < a.tmps.size ∧ W t) (hs : yieldA y.stop y.l s o = some s')
    (hp : s'.gl.out <+: y.lim) {K : Act → World → Prop} {Q : Exit → Act → World → Prop} (hK : ∀ u w', After (some y) W w L l s a s' (a.put o.dst u) w' → K (a.put o.dst u) w') : o.wpIn F n P a w K Q := by
  obtain ⟨dst, op, typ, pos, after, g⟩ := o
  unfold yieldA at hs
  split at hs <;> try (cases hs; done)
  rename_i c hop
  simp only at hop; subst hop
  split at hs <;> try (cases hs; done)
  rename_i x hx
  split at hs <;> try (cases hs; done)
  rename_i i hi
  split at hs <;> try (cases hs; done)
  rename_i hc
  obtain ⟨rfl, hstill⟩ := hc
  generalize hvs : c.args.toList.map (ev s) = vs at hs hstill
  simp only [Option.some.injEq] at hs; subst hs
  have hev := h.ev x
  rw [hi] at hev
  have hval : a.eval x = .func (.yield y.l) #[] #[] := by
    generalize a.eval x = u at hev
    cases hev with | rr hr => cases hr; rfl
  have hX : ∀ b, excl l s.co b → ¬ L b := fun b ⟨k, o, h1, h2⟩ => (h.lt k o b h1 h2).2
  have hout : y.items[s.gl.out.length]? = some vs := by
    rw [put_gl] at hp
    obtain ⟨r, hr⟩ := hp.trans y.lim_prefix
    rw [← hr, List.append_assoc, List.getElem?_append_right (Nat.le_refl _)]; simp
  have hgo : (St.put { s.unb with gl := { s.gl with out := s.gl.out ++ [vs] } } dst (.bool (decide (y.stop ≠ some s.gl.out.length)))).gl.out.length = s.gl.out.length + 1 := by rw [put_gl]; simp
  have hlim : ∀ k, y.stop = some k → s.gl.out.length ≤ k := fun k hk => by
    have h1 := hp.length_le
    rw [hgo] at h1
    have h2 := y.lim_le hk
    omega
  obtain ⟨f, tmps, assign, body, hrun, hround⟩ := y.round (us := c.args.map a.eval) hl hlim hout (by rw [← hvs]; simp) hX (fun j v u p q =>
    (VR.still (evs_sound h c.args j v u (by rw [hvs]; exact p) q) (List.all_eq_true.1 hstill v (List.mem_of_getElem? p))).mono (fun b hb => ⟨⟨hb.1, hb.2.2, hb.2.1⟩, rfl⟩))
  refine ⟨fun f _ => hF.fn f, ?_⟩
  rw [Oper.semAt_eq _ _ _ (fun c' hh => by cases hh)]
  have hexec : (execOp a.eval ⟨dst, .call c, typ, pos, after, g⟩).run P w = .ok (.round y.l f tmps assign body) w := by
    have h1 : (resolve a.eval c typ).run P w = .ok { target := .fn (.yield y.l) #[], args := #[] ++ c.args.map a.eval } w := by
      unfold resolve
      simp only [hx]
      rw [hval]
      rfl
    simp only [execOp, Sem.run_bind, h1, Result.andThen_ok, invoke]
    rw [Array.empty_append]; exact hrun
  rw [hexec, Oper.uponIn_round]
  refine ⟨fun hd => by simp [hF.depth] at hd, (hround F (n - 1) hF).mono fun e w' he => ?_⟩
  cases e with
  | panicked c => exact he.elim
  | outgrown => exact he.elim
  | returned u =>
    obtain ⟨rfl, A', hK', hsz, hio, hkeep, hlt⟩ := he
    have hr1 := h.turned hsz hkeep hlt
    have hr2 : Rel w' A' l { s.unb with gl := { s.gl with out := s.gl.out ++ [vs] } } a := { hr1 with }
    have hr3 := hr2.put (d := dst) (v := .bool (decide (y.stop ≠ some s.gl.out.length))) (.rr (.bool _)) (fun t ht => (hd t ht).1)
    have hco : (St.put { s.unb with gl := { s.gl with out := s.gl.out ++ [vs] } } dst (.bool (decide (y.stop ≠ some s.gl.out.length)))).co = s.unb.co := by cases dst <;> rfl
    refine hK _ w' ⟨⟨A', l, hr3, ?_, ⟨hsz, fun b hb he hL => ?_, (fun hh => by cases hh), rfl, hio⟩, [], by rw [Act.put_defers']; rfl, .nil, fun _ => rfl, fun r hr => by cases hr⟩, Act.put_size _ _ _, by rw [put_gl], fun t ht => Act.put_other _ _ _ _ (fun hh => ht (hd t hh).2)⟩
    · simp only [Live, hgo, hco]
      have : excl l s.unb.co = excl l s.co := by funext b; exact propext excl_unb
      rw [this]; exact hK'
    · rw [hco]
      exact ⟨(hkeep b hb (hL rfl)).1, fun hx => he (excl_unb.1 hx), fun _ => (hkeep b hb (hL rfl)).2⟩

end Go.Ai

namespace Go.Ai
open Go
variable {P : Program}

/-! ## A region in any order: an operation sees what it hangs on, and nothing else -/

theorem lowB_congr {s s' : St} (lo : Option Operand) (h : ∀ x, lo = some x → ev s' x = ev s x) : lowB s' lo = lowB s lo := by
  cases lo with
  | none => rfl
  | some y => simp only [lowB, h y rfl]
theorem highB_congr {s s' : St} (hi : Option Operand) (n : Nat) (h : ∀ x, hi = some x → ev s' x = ev s x) : highB s' hi n = highB s hi n := by
  cases hi with
  | none => rfl
  | some y => simp only [highB, h y rfl]

structure Sees (s s' : St) (o : Oper) : Prop where
  ev : ∀ x ∈ o.op.operands.toList, ev s' x = ev s x
  ob : ∀ k x, lk s.co.ob k = some x → lk s'.co.ob k = some x
  z : ∀ d, o.dst = some d → d ∈ s.co.z → d ∈ s'.co.z

theorem cellsAt_mono {c c' : Co} (h : ∀ k x, lk c.ob k = some x → lk c'.ob k = some x) {v : V} {r : List V × Nat} (hr : c.cellsAt v = some r) : c'.cellsAt v = some r := by
  cases v <;> simp only [Co.cellsAt] at hr ⊢ <;> try exact hr
  simp only [Option.bind_eq_some_iff] at hr ⊢
  obtain ⟨o, ho, hr⟩ := hr
  exact ⟨o, h _ _ ho, hr⟩

theorem elems_mono {c c' : Co} (h : ∀ k x, lk c.ob k = some x → lk c'.ob k = some x) {v : V} {r : Nat × List (List V)} (hr : c.elems v = some r) : c'.elems v = some r := by
  cases v <;> simp only [Co.elems] at hr ⊢ <;> try exact hr
  simp only [Option.bind_eq_some_iff] at hr ⊢
  obtain ⟨o, ho, hr⟩ := hr
  exact ⟨o, h _ _ ho, hr⟩

theorem map_ev {s s' : St} {xs : List Operand} (h : ∀ x ∈ xs, ev s' x = ev s x) : xs.map (ev s') = xs.map (ev s) := List.map_congr_left h

theorem stepVal_mono {s s' : St} {o : Oper} (h : Sees s s' o) {v : V} (hs : stepVal P s o = some v) : stepVal P s' o = some v := by
  obtain ⟨dst, op, typ, pos, after, g⟩ := o
  have hev := h.ev
  cases op <;> simp only [stepVal] at hs ⊢ <;> try (cases hs; done)
  case move x => rw [hev x (by simp [Op.operands])]; exact hs
  case assign x => rw [hev x (by simp [Op.operands])]; exact hs
  case pick c a b => rw [hev c (by simp [Op.operands]), hev a (by simp [Op.operands]), hev b (by simp [Op.operands])]; exact hs
  case load t x =>
    rw [hev x (by simp [Op.operands])]
    simp only [Option.bind_eq_some_iff] at hs ⊢
    obtain ⟨r, hr, hs⟩ := hs
    exact ⟨r, cellsAt_mono h.ob hr, hs⟩
  case binOp op t x y t' => rw [hev x (by simp [Op.operands]), hev y (by simp [Op.operands])]; exact hs
  case unOp op t x => rw [hev x (by simp [Op.operands])]; exact hs
  case nilCheck x => rw [hev x (by simp [Op.operands])]; exact hs
  case fieldAddr t x f => rw [hev x (by simp [Op.operands])]; exact hs
  case indexAddr t x i => rw [hev x (by simp [Op.operands]), hev i (by simp [Op.operands])]; exact hs
  case index t x i => rw [hev x (by simp [Op.operands]), hev i (by simp [Op.operands])]; exact hs
  case convert a b x => rw [hev x (by simp [Op.operands])]; exact hs
  case extract x i => rw [hev x (by simp [Op.operands])]; exact hs
  case makeFunc f a b =>
    cases f <;> simp only [] at hs ⊢ <;> try (cases hs; done)
    rw [map_ev (xs := a.toList) (fun x hx => hev x (by simp [Op.operands] at hx ⊢; exact .inl hx)), map_ev (xs := b.toList) (fun x hx => hev x (by simp [Op.operands] at hx ⊢; exact .inr hx))]
    exact hs
  case call c =>
    split at hs <;> try (cases hs; done)
    rename_i b hb
    have hargs : ∀ x ∈ c.args.toList, ev s' x = ev s x := fun x hx => hev x (by simp [Op.operands, Call.operands] at hx ⊢; exact .inr hx)
    generalize c.args.toList = args at hs hargs
    generalize c.argTypes.toList = ts at hs
    unfold callVal at hs ⊢
    split at hs
    · rename_i x t
      rw [hargs x (by simp)]; exact hs
    · rename_i _ x r
      rw [hargs x (by simp), map_ev (xs := r) (fun y hy => hargs y (by simp [hy]))]; exact hs
    · rename_i _ x r
      rw [hargs x (by simp), map_ev (xs := r) (fun y hy => hargs y (by simp [hy]))]; exact hs
    · cases hs
  case slice t x lo hi mx =>
    cases mx with
    | some m => cases hs
    | none =>
      simp only [] at hs ⊢
      rw [hev x (by simp [Op.operands]), lowB_congr lo (fun y hy => hev y (by simp [Op.operands, hy]))]
      have : ∀ n, highB s' hi n = highB s hi n := fun n => highB_congr hi n (fun y hy => hev y (by simp [Op.operands, hy]))
      simp only [this]
      exact hs

theorem lendL_mono {c c' : Co} (h : ∀ k x, lk c.ob k = some x → lk c'.ob k = some x) : ∀ (n : Nat), (∀ v v', lend n c v = some v' → lend n c' v = some v') ∧ ∀ vs vs', lendL n c vs = some vs' → lendL n c' vs = some vs' := by
  intro n
  induction n with
  | zero => exact ⟨fun v v' h => by simp [lend] at h, fun v v' h => by simp [lendL] at h⟩
  | succ n ih =>
    refine ⟨fun v v' hv => ?_, fun vs vs' hv => ?_⟩
    · simp only [lend] at hv ⊢
      split at hv
      · rename_i hst; rw [if_pos hst]; exact hv
      · rename_i hst
        rw [if_neg hst]
        split at hv
        · exact hv
        · simp only [Option.bind_eq_some_iff] at hv ⊢
          obtain ⟨o, ho, hv⟩ := hv
          exact ⟨o, h _ _ ho, hv⟩
        · simp only [Option.bind_eq_some_iff] at hv ⊢
          obtain ⟨o, ho, hv⟩ := hv
          refine ⟨o, h _ _ ho, ?_⟩
          split at hv <;> try (cases hv; done)
          rename_i hsz
          rw [if_pos hsz]
          simp only [Option.bind_eq_some_iff] at hv ⊢
          obtain ⟨e, he, hv⟩ := hv
          refine ⟨e, he, ?_⟩
          split at hv <;> try (cases hv; done)
          rename_i hoff
          rw [if_pos hoff]
          simp only [Option.map_eq_some_iff] at hv ⊢
          obtain ⟨cs, hcs, hv⟩ := hv
          exact ⟨cs, ih.2 _ _ hcs, hv⟩
        · simp only [Option.map_eq_some_iff] at hv ⊢
          obtain ⟨cs, hcs, hv⟩ := hv
          exact ⟨cs, ih.2 _ _ hcs, hv⟩
        · simp only [Option.map_eq_some_iff] at hv ⊢
          obtain ⟨cs, hcs, hv⟩ := hv
          exact ⟨cs, ih.2 _ _ hcs, hv⟩
        · simp only [Option.map_eq_some_iff] at hv ⊢
          obtain ⟨cs, hcs, hv⟩ := hv
          exact ⟨cs, ih.2 _ _ hcs, hv⟩
        · simp only [Option.bind_eq_some_iff, Option.map_eq_some_iff] at hv ⊢
          obtain ⟨x, hx, y, hy, hv⟩ := hv
          exact ⟨x, ih.2 _ _ hx, y, ih.2 _ _ hy, hv⟩
        · cases hv
    · cases vs with
      | nil => simpa [lendL] using hv
      | cons v r =>
        simp only [lendL, Option.bind_eq_some_iff, Option.map_eq_some_iff] at hv ⊢
        obtain ⟨x, hx, y, hy, hv⟩ := hv
        exact ⟨x, ih.1 _ _ hx, y, ih.2 _ _ hy, hv⟩

theorem flats_congr {s s' : St} : ∀ (xs : List Operand), (∀ x ∈ xs, ev s' x = ev s x) → flats s' xs = flats s xs := by
  intro xs
  induction xs with
  | nil => intro _; rfl
  | cons x r ih => intro h; simp only [flats, h x (by simp), ih (fun y hy => h y (by simp [hy]))]

theorem moreVal_mono {s s' : St} {o : Oper} (h : Sees s s' o) {v : V} (hs : moreVal P s o = some v) : moreVal P s' o = some v := by
  obtain ⟨dst, op, typ, pos, after, g⟩ := o
  have hev := h.ev
  unfold moreVal at hs ⊢
  split at hs
  · rename_i t x y t' hop
    simp only at hop; subst hop
    rw [hev x (by simp [Op.operands]), hev y (by simp [Op.operands])]; exact hs
  · rename_i t x y t' hop
    simp only at hop; subst hop
    rw [hev x (by simp [Op.operands]), hev y (by simp [Op.operands])]; exact hs
  · rename_i src d x hop
    simp only at hop; subst hop
    simp only []
    rw [hev x (by simp [Op.operands])]
    simp only [Option.bind_eq_some_iff] at hs ⊢
    obtain ⟨S, hS, T, hT, E, hE, hs⟩ := hs
    refine ⟨S, hS, T, hT, E, hE, ?_⟩
    split at hs <;> try (cases hs; done)
    rename_i hc
    rw [if_pos hc]
    simp only [Option.bind_eq_some_iff] at hs ⊢
    obtain ⟨r, hr, hs⟩ := hs
    exact ⟨r, elems_mono h.ob hr, hs⟩
  · cases hs

/-- where the plain step gives nothing at the one, it gives nothing at the other, or the same -/
theorem stepVal_none {s s' : St} {o : Oper} (h : Sees s s' o) {v : V} (hn : stepVal P s o = none) (hm : moreVal P s o = some v) : stepVal P s' o = none := by
  obtain ⟨dst, op, typ, pos, after, g⟩ := o
  have hev := h.ev
  unfold moreVal at hm
  split at hm
  · rename_i t x y t' hop
    simp only at hop; subst hop
    simp only [stepVal] at hn ⊢
    rw [hev x (by simp [Op.operands]), hev y (by simp [Op.operands])]; exact hn
  · rename_i t x y t' hop
    simp only at hop; subst hop
    simp only [stepVal] at hn ⊢
    rw [hev x (by simp [Op.operands]), hev y (by simp [Op.operands])]; exact hn
  · rename_i src d x hop
    simp only at hop; subst hop
    simp only [stepVal] at hn ⊢
    rw [hev x (by simp [Op.operands])]; exact hn
  · cases hm

theorem valOp_mono {s s' : St} {o : Oper} (h : Sees s s' o) {v : V} (hs : valOp P s o = some v) : valOp P s' o = some v := by
  unfold valOp at hs ⊢
  split at hs
  · rename_i v' hv
    rw [stepVal_mono h hv]; exact hs
  · rename_i hn
    rw [stepVal_none h hn hs]
    exact moreVal_mono h hs

theorem resOp_mono {C : Cs} {s s' : St} {o : Oper} (hS : Sees s s' o) {r : Res} (h : resOp P C s o = some r) : resOp P C s' o = some r := by
  have hval : ∀ v, stepVal P s o = some v → stepVal P s' o = some v := fun v => stepVal_mono hS
  have hval2 : ∀ v, valOp P s o = some v → valOp P s' o = some v := fun v => valOp_mono hS
  obtain ⟨dst, op, typ, pos, after, g⟩ := o
  have hev := hS.ev
  cases op <;> simp only [resOp] at h ⊢
  case store t x y =>
    split at h <;> try (cases h; done)
    rename_i hdst
    rw [if_pos hdst]
    unfold resStore at h ⊢
    rw [hev x (by simp [Op.operands]), hev y (by simp [Op.operands])]
    simp only [Option.bind_eq_some_iff] at h ⊢
    obtain ⟨T, hT, h⟩ := h
    refine ⟨T, hT, ?_⟩
    split at h <;> try (cases h; done)
    simp only [Option.bind_eq_some_iff] at h ⊢
    obtain ⟨ob, hob, h⟩ := h
    exact ⟨ob, hS.ob _ _ hob, h⟩
  case alloc t =>
    simp only [Option.bind_eq_some_iff] at h ⊢
    obtain ⟨T, hT, d, hd, h⟩ := h
    refine ⟨T, hT, d, hd, ?_⟩
    split at h <;> try (cases h; done)
    rename_i hc
    rw [if_pos ⟨hS.z d hd hc.1, hc.2⟩]; exact h
  case box t x =>
    rw [hev x (by simp [Op.operands])]
    simp only [Option.bind_eq_some_iff] at h ⊢
    obtain ⟨T, hT, d, hd, cs, hcs, h⟩ := h
    refine ⟨T, hT, d, hd, cs, hcs, ?_⟩
    split at h <;> try (cases h; done)
    rename_i hc
    rw [if_pos ⟨hS.z d hd hc.1, hc.2⟩]; exact h
  case build t ps =>
    simp only [Option.map_eq_some_iff] at h ⊢
    obtain ⟨v, hv, rfl⟩ := h
    refine ⟨v, ?_, rfl⟩
    unfold buildVal at hv ⊢
    have : (ps.toList.map fun p => (p.1, ev s' p.2)) = ps.toList.map fun p => (p.1, ev s p.2) := List.map_congr_left fun p hp => by
      rw [hev p.2 (by simp only [Op.operands, List.mem_map]; exact ⟨p, hp, rfl⟩)]
    rw [this]; exact hv
  case buildSlice t n ps =>
    rw [flats_congr (s := s) (s' := s') (ps.toList.map (·.2)) (fun x hx => hev x (by simpa only [Op.operands] using hx))]
    simp only [Option.bind_eq_some_iff] at h ⊢
    obtain ⟨T, hT, d, hd, es, hes, h⟩ := h
    refine ⟨T, hT, d, hd, es, hes, ?_⟩
    split at h <;> try (cases h; done)
    rename_i hc
    rw [if_pos ⟨hS.z d hd hc.1, hc.2⟩]; exact h
  case call c =>
    split at h
    · rename_i hc
      split at h <;> try (cases h; done)
      rename_i x y hargs
      have hargs' : c.args = #[x, y] := by rw [← Array.toArray_toList (xs := c.args), hargs]
      have hx := hev x (by simp [Op.operands, Call.operands, hargs'])
      have hy := hev y (by simp [Op.operands, Call.operands, hargs'])
      unfold resAppend at h ⊢
      split at h <;> try (cases h; done)
      dsimp only
      split at h <;> try (cases h; done)
      rename_i htt
      rw [if_pos htt, hx, hy]
      simp only [Option.bind_eq_some_iff] at h ⊢
      obtain ⟨T, hT, d, hd, E, hE, h⟩ := h
      refine ⟨T, hT, d, hd, E, hE, ?_⟩
      split at h <;> try (cases h; done)
      rename_i hEz
      rw [if_neg hEz]
      simp only [Option.bind_eq_some_iff] at h ⊢
      obtain ⟨⟨sz, es⟩, hes, h⟩ := h
      refine ⟨(sz, es), elems_mono hS.ob hes, ?_⟩
      split at h
      · simp only [Option.bind_eq_some_iff] at h ⊢
        obtain ⟨ob, hob, h⟩ := h
        refine ⟨ob, hS.ob _ _ hob, ?_⟩
        split at h <;> try (cases h; done)
        rename_i hc
        rw [if_pos ⟨hS.z d hd hc.1, hc.2⟩]; exact h
      · split at h <;> try (cases h; done)
        rename_i hc
        rw [if_pos ⟨hS.z d hd hc.1, hc.2⟩]; exact h
      · cases h
    · simp only [Option.map_eq_some_iff] at h ⊢
      obtain ⟨v, hv, rfl⟩ := h
      exact ⟨v, hval v hv, rfl⟩
    · simp only [Option.bind_eq_some_iff] at h ⊢
      obtain ⟨⟨f, vs⟩, h1, vs', h2, r', h3, h⟩ := h
      refine ⟨⟨f, vs⟩, ?_, vs', (lendL_mono hS.ob 1000).2 _ _ h2, r', h3, ?_⟩
      · unfold calleeA at h1 ⊢
        split at h1 <;> try (cases h1; done)
        rename_i x hx
        rw [hev x (by simp [Op.operands, Call.operands, hx]), map_ev (xs := c.args.toList) (fun y hy => hev y (by simp [Op.operands, Call.operands] at hy ⊢; exact .inr hy))]
        exact h1
      · split at h
        · simp only [Option.bind_eq_some_iff] at h ⊢
          obtain ⟨d, hd, h⟩ := h
          refine ⟨d, hd, ?_⟩
          split at h <;> try (cases h; done)
          rename_i hc
          rw [if_pos (hS.z d hd hc)]; exact h
        · exact h
  all_goals
    simp only [Option.map_eq_some_iff] at h ⊢
    obtain ⟨v, hv, rfl⟩ := h
    exact ⟨v, hval2 v hv, rfl⟩

end Go.Ai

namespace Go.Ai
open Go
variable {P : Program} {w : World} {L : Nat → Prop} {l : Lay} {s : St} {a : Act}

theorem resOp_born {C : Cs} {s : St} {o : Oper} {r : Res} (h : resOp P C s o = some r) (hb : r.ob.isSome = true) : ∃ d, o.dst = some d ∧ d ∈ s.co.z := by
  obtain ⟨dst, op, typ, pos, after, g⟩ := o
  cases op <;> simp only [resOp] at h
  case store t x y =>
    split at h <;> try (cases h; done)
    simp only [resStore, Option.bind_eq_some_iff] at h
    obtain ⟨T, hT, h⟩ := h
    split at h <;> try (cases h; done)
    simp only [Option.bind_eq_some_iff] at h
    obtain ⟨o, ho, e, he, vs, hvs, h⟩ := h
    split at h <;> try (cases h; done)
    simp only [Option.some.injEq] at h; subst h; simp at hb
  case alloc t =>
    simp only [Option.bind_eq_some_iff] at h
    obtain ⟨T, hT, d, hd, h⟩ := h
    split at h <;> try (cases h; done)
    rename_i hc
    exact ⟨d, hd, hc.1⟩
  case box t x =>
    simp only [Option.bind_eq_some_iff] at h
    obtain ⟨T, hT, d, hd, cs, hcs, h⟩ := h
    split at h <;> try (cases h; done)
    rename_i hc
    exact ⟨d, hd, hc.1⟩
  case buildSlice t n ps =>
    simp only [Option.bind_eq_some_iff] at h
    obtain ⟨T, hT, d, hd, es, hes, h⟩ := h
    split at h <;> try (cases h; done)
    rename_i hc
    exact ⟨d, hd, hc.1⟩
  case call c =>
    split at h
    · split at h <;> try (cases h; done)
      unfold resAppend at h
      split at h <;> try (cases h; done)
      split at h <;> try (cases h; done)
      simp only [Option.bind_eq_some_iff] at h
      obtain ⟨T, hT, d, hd, E, hE, h⟩ := h
      split at h <;> try (cases h; done)
      simp only [Option.bind_eq_some_iff] at h
      obtain ⟨⟨sz, es⟩, hes, h⟩ := h
      split at h
      · simp only [Option.bind_eq_some_iff] at h
        obtain ⟨o, ho, h⟩ := h
        split at h <;> try (cases h; done)
        rename_i hc
        exact ⟨d, hd, hc.1⟩
      · split at h <;> try (cases h; done)
        rename_i hc
        exact ⟨d, hd, hc.1⟩
      · cases h
    · simp only [Option.map_eq_some_iff] at h
      obtain ⟨v, hv, rfl⟩ := h
      simp [Res.val] at hb
    · simp only [Option.bind_eq_some_iff] at h
      obtain ⟨⟨f, vs⟩, h1, vs', h2, r', h3, h⟩ := h
      split at h
      · simp only [Option.bind_eq_some_iff] at h
        obtain ⟨d, hd, h⟩ := h
        split at h <;> try (cases h; done)
        rename_i hc
        exact ⟨d, hd, hc⟩
      · simp only [Option.some.injEq] at h; subst h; simp [Res.val] at hb
  all_goals
    simp only [Option.map_eq_some_iff] at h
    obtain ⟨v, hv, rfl⟩ := h
    simp [Res.val] at hb

/-- the objects that an operation turns -/
def Res.touch (r : Res) : List Nat := r.del.toList ++ (r.st.map Prod.fst).toList

theorem resOp_touch {C : Cs} {s : St} {o : Oper} {r : Res} (h : resOp P C s o = some r) {k : Nat} (hk : k ∈ r.touch) : ∃ x, lk s.co.ob k = some x := by
  obtain ⟨dst, op, typ, pos, after, g⟩ := o
  have no : ∀ v, r = .val v → ∃ x, lk s.co.ob k = some x := fun v hv => by subst hv; simp [Res.touch, Res.val] at hk
  cases op <;> simp only [resOp] at h
  case store t x y =>
    split at h <;> try (cases h; done)
    simp only [resStore, Option.bind_eq_some_iff] at h
    obtain ⟨T, hT, h⟩ := h
    split at h <;> try (cases h; done)
    simp only [Option.bind_eq_some_iff] at h
    obtain ⟨o, ho, e, he, vs, hvs, h⟩ := h
    split at h <;> try (cases h; done)
    simp only [Option.some.injEq] at h; subst h
    simp [Res.touch] at hk; subst hk; exact ⟨o, ho⟩
  case alloc t =>
    simp only [Option.bind_eq_some_iff] at h
    obtain ⟨T, hT, d, hd, h⟩ := h
    split at h <;> try (cases h; done)
    simp only [Option.some.injEq] at h; subst h; simp [Res.touch] at hk
  case box t x =>
    simp only [Option.bind_eq_some_iff] at h
    obtain ⟨T, hT, d, hd, cs, hcs, h⟩ := h
    split at h <;> try (cases h; done)
    simp only [Option.some.injEq] at h; subst h; simp [Res.touch] at hk
  case buildSlice t n ps =>
    simp only [Option.bind_eq_some_iff] at h
    obtain ⟨T, hT, d, hd, es, hes, h⟩ := h
    split at h <;> try (cases h; done)
    simp only [Option.some.injEq] at h; subst h; simp [Res.touch] at hk
  case call c =>
    split at h
    · split at h <;> try (cases h; done)
      unfold resAppend at h
      split at h <;> try (cases h; done)
      split at h <;> try (cases h; done)
      simp only [Option.bind_eq_some_iff] at h
      obtain ⟨T, hT, d, hd, E, hE, h⟩ := h
      split at h <;> try (cases h; done)
      simp only [Option.bind_eq_some_iff] at h
      obtain ⟨⟨sz, es⟩, hes, h⟩ := h
      split at h
      · simp only [Option.bind_eq_some_iff] at h
        obtain ⟨o, ho, h⟩ := h
        split at h <;> try (cases h; done)
        simp only [Option.some.injEq] at h; subst h
        simp [Res.touch] at hk; subst hk; exact ⟨o, ho⟩
      · split at h <;> try (cases h; done)
        simp only [Option.some.injEq] at h; subst h; simp [Res.touch] at hk
      · cases h
    · simp only [Option.map_eq_some_iff] at h
      obtain ⟨v, hv, rfl⟩ := h
      exact no v rfl
    · simp only [Option.bind_eq_some_iff] at h
      obtain ⟨⟨f, vs⟩, h1, vs', h2, r', h3, h⟩ := h
      split at h
      · simp only [Option.bind_eq_some_iff] at h
        obtain ⟨d, hd, h⟩ := h
        split at h <;> try (cases h; done)
        simp only [Option.some.injEq] at h; subst h; simp [Res.touch] at hk
      · simp only [Option.some.injEq] at h; exact no _ h.symm
  all_goals
    simp only [Option.map_eq_some_iff] at h
    obtain ⟨v, hv, hr⟩ := h
    exact no v hr.symm

/-! ## A region that draws its order -/

/-- T: what each operation hangs on, the latest first; H: the objects that each must not look at; E: the operations that turn objects, and who runs beside them; ks: the names that the region lays objects under -/
structure Dr where
  T : List (List Nat)
  H : List (List Nat)
  E : List (Nat × List Nat)
  ks : List Nat

def dstIs (ops : Array Oper) (j t : Nat) : Bool :=
  match ops[j]? with
  | some o => o.dst == some t
  | none => false

def readsT (ops : Array Oper) (o : Oper) : List Nat :=
  (o.op.operands.toList.filterMap fun | .tmp t => some t | _ => none) ++ (match o.guard with
    | some (j, _) => ((ops[j]?).bind (·.dst)).toList
    | none => [])

/-- a list of operations, the latest first, in which each has behind it what it hangs on -/
def jOk (T : List (List Nat)) : List Nat → Bool
  | [] => true
  | j :: r => jOk T r && ((T.getD j []).all fun i => r.contains i) && !r.contains j

def chkOne (ops : Array Oper) (d : Dr) (i : Nat) (o : Oper) : Bool :=
  let Ti := d.T.getD i []
  (o.after.toList.all fun e => !Region.binds .any e || (decide (e.on < i) && Ti.contains e.on)) &&
  (Ti.all fun j => decide (j < i) && o.after.toList.any fun e => Region.binds .any e && (e.on == j || (d.T.getD e.on []).contains j)) &&
  jOk d.T Ti &&
  ((readsT ops o).all fun t => (List.range ops.size).all fun j => !dstIs ops j t || Ti.contains j || (d.T.getD j []).contains i) &&
  (match o.dst with
    | some t => (List.range ops.size).all fun j => j == i || !dstIs ops j t
    | none => true) &&
  (match lk d.E i with
    | some bs => (List.range ops.size).all fun j => j == i || Ti.contains j || (d.T.getD j []).contains i || bs.contains j
    | none => true)

def chkDr (ops : Array Oper) (d : Dr) : Bool :=
  decide (d.T.length ≤ ops.size) && (ops.toList.zipIdx.all fun (o, i) => chkOne ops d i o)

def stJ (ops : Array Oper) (R : List Res) (s0 : St) : List Nat → St
  | [] => s0
  | j :: r => match ops[j]?, R[j]? with
    | some o, some x => (stJ ops R s0 r).lay o.dst x
    | _, _ => stJ ops R s0 r

def St.hide (hs : List Nat) (s : St) : St := { s with co := { s.co with ob := rmL s.co.ob hs } }

def viewOf (ops : Array Oper) (d : Dr) (s0 : St) (R : List Res) (i : Nat) : St := (stJ ops R s0 (d.T.getD i [])).hide (d.H.getD i [])

def pfx (P : Program) (C : Cs) (N : Nat) (ops : Array Oper) (d : Dr) (s0 : St) : List Oper → Nat → List Res → Option (List Res)
  | [], _, R => some R
  | o :: r, i, R =>
    let v := viewOf ops d s0 R i
    if okDst N o then
      match wantedA ops v o with
      | some true => match resOp P C v o with
        | some x => pfx P C N ops d s0 r (i + 1) (R ++ [x])
        | none => none
      | some false => pfx P C N ops d s0 r (i + 1) (R ++ [.val skipV])
      | none => none
    else none

def apartR (d : Dr) : List Res → Nat → Bool
  | [], _ => true
  | r :: rs, j => (r.touch.all fun k => match lk d.E j with
      | some bs => bs.all fun i => (d.H.getD i []).contains k
      | none => false) && apartR d rs (j + 1)

def runD (P : Program) (C : Cs) (N : Nat) (ops : Array Oper) (d : Dr) (s : St) : Option St :=
  if chkDr ops d then
    let s0 := d.ks.foldl (fun s k => vacate k s) s
    (pfx P C N ops d s0 ops.toList 0 []).bind fun R => if apartR d R 0 then some (stJ ops R s0 (List.range ops.size).reverse) else none
  else none

/-! ### The checks, as facts -/
structure DrOk (ops : Array Oper) (d : Dr) : Prop where
  lt : ∀ i o, ops[i]? = some o → ∀ e ∈ o.after, Region.binds .any e = true → e.on < i ∧ e.on ∈ d.T.getD i []
  T : ∀ i, ∀ j ∈ d.T.getD i [], j < i
  via : ∀ i o, ops[i]? = some o → ∀ j ∈ d.T.getD i [], ∃ e ∈ o.after, Region.binds .any e = true ∧ (e.on = j ∨ j ∈ d.T.getD e.on [])
  ok : ∀ i, jOk d.T (d.T.getD i []) = true
  reads : ∀ (i : Nat) (o : Oper) (t j : Nat) (oj : Oper), ops[i]? = some o → t ∈ readsT ops o → ops[j]? = some oj → oj.dst = some t → j ∈ d.T.getD i [] ∨ i ∈ d.T.getD j []
  dist : ∀ (i j : Nat) (oi oj : Oper) (t : Nat), ops[i]? = some oi → ops[j]? = some oj → oi.dst = some t → oj.dst = some t → i = j
  beside : ∀ i bs, lk d.E i = some bs → i < ops.size → ∀ j, j < ops.size → j = i ∨ j ∈ d.T.getD i [] ∨ i ∈ d.T.getD j [] ∨ j ∈ bs

theorem chkDr_ok {ops : Array Oper} {d : Dr} (h : chkDr ops d = true) : DrOk ops d := by
  simp only [chkDr, Bool.and_eq_true, decide_eq_true_eq, List.all_eq_true] at h
  obtain ⟨hTl, hall⟩ := h
  have one : ∀ i o, ops[i]? = some o → chkOne ops d i o = true := fun i o ho => by
    refine hall (o, i) ?_
    rw [List.mem_zipIdx_iff_getElem?]; simpa using ho
  have out : ∀ i, ops.size ≤ i → d.T.getD i [] = [] := fun i hi => by rw [List.getD_eq_getElem?_getD, List.getElem?_eq_none (by omega)]; rfl
  have at_ : ∀ i, i < ops.size → ops[i]? = some ops[i]! := fun i hi => by simp [hi]
  refine ⟨fun i o ho e he hb => ?_, fun i j hj => ?_, fun i o ho j hj => ?_, fun i => ?_, fun i o t j oj ho ht hoj htj => ?_, fun i j oi oj t hoi hoj ht htj => ?_, fun i bs hbs hi j hj => ?_⟩
  · have h1 := one i o ho
    simp only [chkOne, Bool.and_eq_true, List.all_eq_true, Bool.or_eq_true, Bool.not_eq_true', decide_eq_true_eq, List.contains_iff_mem] at h1
    rcases h1.1.1.1.1.1 e (by simpa using he) with h2 | h2
    · rw [hb] at h2; cases h2
    · exact h2
  · rcases Nat.lt_or_ge i ops.size with hi | hi
    · have h1 := one i _ (at_ i hi)
      simp only [chkOne, Bool.and_eq_true, List.all_eq_true, decide_eq_true_eq] at h1
      exact (h1.1.1.1.1.2 j hj).1
    · rw [out i hi] at hj; cases hj
  · have h1 := one i o ho
    simp only [chkOne, Bool.and_eq_true, List.all_eq_true, decide_eq_true_eq, List.any_eq_true, Bool.or_eq_true, beq_iff_eq, List.contains_iff_mem] at h1
    obtain ⟨e, he, hb, h2⟩ := (h1.1.1.1.1.2 j hj).2
    exact ⟨e, by simpa using he, hb, h2⟩
  · rcases Nat.lt_or_ge i ops.size with hi | hi
    · have h1 := one i _ (at_ i hi)
      simp only [chkOne, Bool.and_eq_true] at h1
      exact h1.1.1.1.2
    · rw [out i hi]; rfl
  · have h1 := one i o ho
    simp only [chkOne, Bool.and_eq_true] at h1
    have h2 := h1.1.1.2
    simp only [List.all_eq_true, Bool.or_eq_true, Bool.not_eq_true', List.contains_iff_mem, List.mem_range] at h2
    rcases h2 t ht j (Array.getElem?_eq_some_iff.1 hoj).1 with (h3 | h3) | h3
    · simp [dstIs, hoj, htj] at h3
    · exact .inl h3
    · exact .inr h3
  · have h1 := one i oi hoi
    simp only [chkOne, Bool.and_eq_true] at h1
    have h2 := h1.1.2
    rw [ht] at h2
    simp only [List.all_eq_true, Bool.or_eq_true, Bool.not_eq_true', beq_iff_eq, List.mem_range] at h2
    rcases h2 j (Array.getElem?_eq_some_iff.1 hoj).1 with h3 | h3
    · exact h3.symm
    · simp [dstIs, hoj, htj] at h3
  · have h1 := one i _ (at_ i hi)
    simp only [chkOne, Bool.and_eq_true] at h1
    have h2 := h1.2
    rw [hbs] at h2
    simp only [List.all_eq_true, Bool.or_eq_true, beq_iff_eq, List.contains_iff_mem, List.mem_range] at h2
    rcases h2 j hj with ((h3 | h3) | h3) | h3
    · exact .inl h3
    · exact .inr (.inl h3)
    · exact .inr (.inr (.inl h3))
    · exact .inr (.inr (.inr h3))

theorem apartR_spec {d : Dr} : ∀ (R : List Res) (n j : Nat) (r : Res), apartR d R n = true → R[j]? = some r → ∀ k ∈ r.touch, ∃ bs, lk d.E (n + j) = some bs ∧ ∀ i ∈ bs, k ∈ d.H.getD i [] := by
  intro R
  induction R with
  | nil => intro n j r _ h; simp at h
  | cons x R ih =>
    intro n j r h hr k hk
    simp only [apartR, Bool.and_eq_true] at h
    cases j with
    | zero =>
      simp at hr; subst hr
      have h1 := List.all_eq_true.1 h.1 k hk
      rw [Nat.add_zero]
      split at h1
      · rename_i bs hbs
        exact ⟨bs, hbs, fun i hi => by simpa using List.all_eq_true.1 h1 i hi⟩
      · cases h1
    | succ j =>
      simp at hr
      have := ih (n + 1) j r h.2 hr k hk
      rw [show n + (j + 1) = n + 1 + j from by omega]; exact this

end Go.Ai
