/- Texts of the abstract interpreter and of its contracts. -/
import Derived.CallsIn
import Derived.RangeFuncIn
import Derived.Laws.AppendOwn
import Derived.Laws.Tables
import Derived.Laws.Strings
import Derived.Laws.Cells
import Derived.Laws.CopyRow
import Derived.Laws.OwnMore
import Derived.Great.BuildSlice
namespace Go.Ai
open Go

/-- abstract values: what one temporary, or one cell, holds. An 'agg' is flat: its parts are one-cell values. -/
inductive V where
  | int (k : IntKind) (n : Int)
  | bool (b : Bool)
  | str (s : List UInt8)
  | agg (cs : List V)
  | tup (cs : List V)
  | sl (br nl : Bool) (sz : Nat) (es : List (List V))
  | own (nl : Bool) (el sz : Nat) (es : List (List V))
  | row (k sz lo hi : Nat)
  | ptr (k sz i off : Nat)
  | ro (br : Bool) (cs : List V)
  | nilp
  | fn (f : Nat) (first caps : List V)
  | nilfn
  | nilif
  | yl (l : Nat)
  | undef
  deriving Inhabited

/-- an object of the activation's own: a box (one element), or a row of a slice -/
structure Obj where
  row : Bool
  nl : Bool
  el : Nat
  sz : Nat
  es : List (List V)

/-- the objects; and those to be born in this stretch, that are named nowhere -/
structure Co where
  ob : List (Nat × Obj)
  z : List Nat

/-- g: what the pointers to package-level variables lead to; out: what has been handed to a loop's body so far (in a function that is ranged over) -/
structure Fx where
  g : List (Nat × V)
  out : List (List V)

structure St where
  σ : List (Nat × V)
  co : Co
  gl : Fx

def lk {α : Type} : List (Nat × α) → Nat → Option α
  | [], _ => none
  | (s, x) :: r, t => if s = t then some x else lk r t

def rm {α : Type} : List (Nat × α) → Nat → List (Nat × α)
  | [], _ => []
  | (s, x) :: r, t => if s = t then rm r t else (s, x) :: rm r t

def V.cells : V → List V
  | .agg cs => cs
  | v => [v]

/-- the value of a constant -/
def ofConst : Value → V
  | .int k n => .int k n
  | .bool b => .bool b
  | .string s => .str s.data.toList
  | .slice none 0 0 => .sl false true 0 []
  | .pointer none => .nilp
  | .nilFunc => .nilfn
  | .nilIface => .nilif
  | _ => .undef

def St.get (s : St) (t : Nat) : V := (lk s.σ t).getD .undef
def St.push (s : St) (t : Nat) (v : V) : St := { s with σ := (t, v) :: s.σ }
def St.put (s : St) (d : Option Nat) (v : V) : St :=
  match d with
  | some t => s.push t v
  | none => s

def ev (s : St) : Operand → V
  | .tmp t => s.get t
  | .const v => ofConst v
  | .func f => .fn f [] []
  | .global g => (lk s.gl.g g).getD .undef

/-! what refers to the objects ks is forgotten -/
mutual
def V.kill (ks : List Nat) : V → V
  | .row k sz lo hi => if k ∈ ks then .undef else .row k sz lo hi
  | .ptr k sz i off => if k ∈ ks then .undef else .ptr k sz i off
  | .agg cs => .agg (killL ks cs)
  | .tup cs => .tup (killL ks cs)
  | .ro br cs => .ro br (killL ks cs)
  | .fn f a b => .fn f (killL ks a) (killL ks b)
  | .own _ _ _ _ => .undef
  | v => v
def killL (ks : List Nat) : List V → List V
  | [] => []
  | v :: r => v.kill ks :: killL ks r
end

theorem killL_eq (ks : List Nat) (l : List V) : killL ks l = l.map (V.kill ks) := by
  induction l with
  | nil => rfl
  | cons v r ih => simp [killL, ih]

def Obj.kill (ks : List Nat) (o : Obj) : Obj := if o.row then o else { o with es := o.es.map fun e => e.map (V.kill ks) }

def rmL {α : Type} (l : List (Nat × α)) : List Nat → List (Nat × α)
  | [] => l
  | k :: r => rmL (rm l k) r

def Co.kill (c : Co) (ks : List Nat) : Co := { ob := (rmL c.ob ks).map fun p => (p.1, p.2.kill ks), z := ks ++ c.z }

/-- the objects ks are to be born: what was of their names is forgotten -/
def St.kill (s : St) (ks : List Nat) : St := { s with σ := s.σ.map fun p => (p.1, p.2.kill ks), co := s.co.kill ks }

/-! a value that names no object of the activation, and may be kept for ever; one that may lie in a cell -/
mutual
def V.still : V → Bool
  | .int _ _ | .bool _ | .str _ | .nilp | .nilfn | .nilif | .yl _ | .undef => true
  | .sl br _ _ _ => !br
  | .ro br _ => !br
  | .agg cs => stillL cs
  | .fn _ a b => stillL a && stillL b
  | _ => false
def stillL : List V → Bool
  | [] => true
  | v :: r => v.still && stillL r
end

theorem stillL_eq (l : List V) : stillL l = l.all V.still := by
  induction l with
  | nil => rfl
  | cons v r ih => simp [stillL, ih]

def V.one : V → Bool
  | .agg _ | .tup _ | .own _ _ _ _ | .undef => false
  | _ => true

/-- the cells of a value that may be laid in memory -/
def V.flat : V → Option (List V)
  | .agg cs => if cs.all V.one then some cs else none
  | v => if v.one then some [v] else none

end Go.Ai

namespace Go.Ai
open Go

/-! ## What an abstract value says of a value -/

/-- read-only content, over blocks that 'ok' lets: no word of the activation's objects -/
inductive RR (w : World) (ok : Nat → Prop) : V → Value → Prop
  | int (k : IntKind) (n : Int) : RR w ok (.int k n) (.int k n)
  | bool (b : Bool) : RR w ok (.bool b) (.bool b)
  | str (s : ByteArray) : RR w ok (.str s.data.toList) (.string s)
  | nilp : RR w ok .nilp (.pointer none)
  | nilfn : RR w ok .nilfn .nilFunc
  | nilif : RR w ok .nilif .nilIface
  | yl (l : Nat) : RR w ok (.yl l) (.func (.yield l) #[] #[])
  | undef (u : Value) : RR w ok .undef u
  | snil (sz : Nat) : RR w ok (.sl false true sz []) (.slice none 0 0)
  | sl {nl : Bool} {sz : Nat} {es : List (List V)} {b off cap : Nat} {c : Array Value} {el : TypeId} {fz : Nat × Nat}
      (hok : ok b) (hb : w.heap[b]? = some (.cells c el fz)) (hnl : nl = true → es ≠ []) (hcap : es.length ≤ cap) (hsz : off + es.length * sz ≤ c.size)
      (hlen : ∀ e ∈ es, e.length = sz)
      (hc : ∀ (i : Nat) (e : List V) (j : Nat) (v : V) (u : Value), es[i]? = some e → e[j]? = some v → c[off + i * sz + j]? = some u → RR w ok v u)
      (h1 : ∀ (i : Nat) (e : List V) (j : Nat) (v : V) (u : Value), es[i]? = some e → e[j]? = some v → c[off + i * sz + j]? = some u → u.oneCell' = true) :
      RR w ok (.sl false nl sz es) (.slice (some ⟨b, off, none⟩) es.length cap)
  | ro {cs : List V} {b off : Nat} {c : Array Value} {el : TypeId} {fz : Nat × Nat}
      (hok : ok b) (hb : w.heap[b]? = some (.cells c el fz)) (hsz : off + cs.length ≤ c.size)
      (hc : ∀ (j : Nat) (v : V) (u : Value), cs[j]? = some v → c[off + j]? = some u → RR w ok v u) :
      RR w ok (.ro false cs) (.pointer (some ⟨b, off, none⟩))
  | agg {cs : List V} {us : Array Value} (hs : us.size = cs.length) (hc : ∀ (j : Nat) (v : V) (u : Value), cs[j]? = some v → us[j]? = some u → RR w ok v u) :
      RR w ok (.agg cs) (.agg us)
  | fn {f : Nat} {a b : List V} {us vs : Array Value} (hs : us.size = a.length) (ht : vs.size = b.length)
      (ha : ∀ (j : Nat) (v : V) (u : Value), a[j]? = some v → us[j]? = some u → RR w ok v u) (hb : ∀ (j : Nat) (v : V) (u : Value), b[j]? = some v → vs[j]? = some u → RR w ok v u) :
      RR w ok (.fn f a b) (.func (.func f) us vs)

theorem RR.mono {w w' : World} {ok ok' : Nat → Prop} (h : ∀ b, ok b → ok' b ∧ w'.heap[b]? = w.heap[b]?) {v : V} {u : Value} (hr : RR w ok v u) : RR w' ok' v u := by
  induction hr with
  | int k n => exact .int k n
  | bool b => exact .bool b
  | str s => exact .str s
  | nilp => exact .nilp
  | nilfn => exact .nilfn
  | nilif => exact .nilif
  | yl l => exact .yl l
  | undef u => exact .undef u
  | snil sz => exact .snil sz
  | sl hok hb hnl hcap hsz hlen hc h1 ih => exact .sl (h _ hok).1 ((h _ hok).2.trans hb) hnl hcap hsz hlen ih h1
  | ro hok hb hsz hc ih => exact .ro (h _ hok).1 ((h _ hok).2.trans hb) hsz ih
  | agg hs hc ih => exact .agg hs ih
  | fn hs ht ha hb iha ihb => exact .fn hs ht iha ihb

/-- where the objects lie; M: what is borrowed lies below it -/
structure Lay where
  ι : Nat → Option Nat
  κ : Nat → Nat
  M : Nat

/-- all values. 'ok': blocks that may be read for ever; 'okb': blocks that may be read while the activation lasts; 'Z': objects that are named nowhere -/
inductive VR (w : World) (ok okb : Nat → Prop) (l : Lay) (Z : Nat → Prop) : V → Value → Prop
  | rr {v : V} {u : Value} (h : RR w ok v u) : VR w ok okb l Z v u
  | bnil (sz : Nat) : VR w ok okb l Z (.sl true true sz []) (.slice none 0 0)
  | bsl {nl : Bool} {sz : Nat} {es : List (List V)} {b off cap : Nat} {c : Array Value} {el : TypeId} {fz : Nat × Nat}
      (hok : okb b) (hb : w.heap[b]? = some (.cells c el fz)) (hnl : nl = true → es ≠ []) (hcap : es.length ≤ cap) (hsz : off + es.length * sz ≤ c.size)
      (hlen : ∀ e ∈ es, e.length = sz)
      (hc : ∀ (i : Nat) (e : List V) (j : Nat) (v : V) (u : Value), es[i]? = some e → e[j]? = some v → c[off + i * sz + j]? = some u → RR w ok v u)
      (h1 : ∀ (i : Nat) (e : List V) (j : Nat) (v : V) (u : Value), es[i]? = some e → e[j]? = some v → c[off + i * sz + j]? = some u → u.oneCell' = true) :
      VR w ok okb l Z (.sl true nl sz es) (.slice (some ⟨b, off, none⟩) es.length cap)
  | bro {cs : List V} {b off : Nat} {c : Array Value} {el : TypeId} {fz : Nat × Nat}
      (hok : okb b) (hb : w.heap[b]? = some (.cells c el fz)) (hsz : off + cs.length ≤ c.size)
      (hc : ∀ (j : Nat) (v : V) (u : Value), cs[j]? = some v → c[off + j]? = some u → VR w ok okb l Z v u) :
      VR w ok okb l Z (.ro true cs) (.pointer (some ⟨b, off, none⟩))
  | rnil {k : Nat} (sz : Nat) (hz : ¬ Z k) (hk : l.ι k = none) : VR w ok okb l Z (.row k sz 0 0) (.slice none 0 0)
  | row {k sz lo hi b : Nat} (hz : ¬ Z k) (hk : l.ι k = some b) (h : lo ≤ hi) (hc : hi ≤ l.κ k) :
      VR w ok okb l Z (.row k sz lo hi) (.slice (some ⟨b, lo * sz, none⟩) (hi - lo) (l.κ k - lo))
  | ptr {k sz i off b : Nat} (hz : ¬ Z k) (hk : l.ι k = some b) : VR w ok okb l Z (.ptr k sz i off) (.pointer (some ⟨b, i * sz + off, none⟩))
  | agg {cs : List V} {us : Array Value} (hs : us.size = cs.length) (hc : ∀ (j : Nat) (v : V) (u : Value), cs[j]? = some v → us[j]? = some u → VR w ok okb l Z v u) :
      VR w ok okb l Z (.agg cs) (.agg us)
  | tup {cs : List V} {us : Array Value} (hs : us.size = cs.length) (hc : ∀ (j : Nat) (v : V) (u : Value), cs[j]? = some v → us[j]? = some u → VR w ok okb l Z v u) :
      VR w ok okb l Z (.tup cs) (.tuple us)
  | fn {f : Nat} {a b : List V} {us vs : Array Value} (hs : us.size = a.length) (ht : vs.size = b.length)
      (ha : ∀ (j : Nat) (v : V) (u : Value), a[j]? = some v → us[j]? = some u → VR w ok okb l Z v u) (hb : ∀ (j : Nat) (v : V) (u : Value), b[j]? = some v → vs[j]? = some u → VR w ok okb l Z v u) :
      VR w ok okb l Z (.fn f a b) (.func (.func f) us vs)

theorem VR.mono {w w' : World} {ok ok' okb okb' : Nat → Prop} {l l' : Lay} {Z Z' : Nat → Prop} (h : ∀ b, ok b → ok' b ∧ w'.heap[b]? = w.heap[b]?)
    (hb : ∀ b, okb b → okb' b ∧ w'.heap[b]? = w.heap[b]?) (hl : ∀ k, ¬ Z k → l'.ι k = l.ι k ∧ l'.κ k = l.κ k ∧ ¬ Z' k)
    {v : V} {u : Value} (hr : VR w ok okb l Z v u) : VR w' ok' okb' l' Z' v u := by
  induction hr with
  | rr h0 => exact .rr (h0.mono h)
  | bnil sz => exact .bnil sz
  | bsl hok hbb hnl hcap hsz hlen hc h1 => exact .bsl (hb _ hok).1 ((hb _ hok).2.trans hbb) hnl hcap hsz hlen (fun i e j v u a b c => (hc i e j v u a b c).mono h) h1
  | bro hok hbb hsz hc ih => exact .bro (hb _ hok).1 ((hb _ hok).2.trans hbb) hsz ih
  | rnil sz hz hk => exact .rnil sz (hl _ hz).2.2 ((hl _ hz).1.trans hk)
  | row hz hk hh hc => have := hl _ hz; rw [← this.2.1] at hc ⊢; exact .row this.2.2 (this.1.trans hk) hh hc
  | ptr hz hk => exact .ptr (hl _ hz).2.2 ((hl _ hz).1.trans hk)
  | agg hs hc ih => exact .agg hs ih
  | tup hs hc ih => exact .tup hs ih
  | fn hs ht ha hb iha ihb => exact .fn hs ht iha ihb

/-- what refers to ks is forgotten: the rest holds still -/
theorem RR.kill {w : World} {ok : Nat → Prop} {v : V} {u : Value} (ks : List Nat) (hr : RR w ok v u) : RR w ok (v.kill ks) u := by
  induction hr with
  | ro hok hb hsz hc ih =>
    simp only [V.kill, killL_eq]
    refine .ro hok hb (by simpa using hsz) fun j v u hj hu => ?_
    simp only [List.getElem?_map, Option.map_eq_some_iff] at hj
    obtain ⟨v', hv', rfl⟩ := hj
    exact ih j v' u hv' hu
  | agg hs hc ih =>
    simp only [V.kill, killL_eq]
    refine .agg (by simpa using hs) fun j v u hj hu => ?_
    simp only [List.getElem?_map, Option.map_eq_some_iff] at hj
    obtain ⟨v', hv', rfl⟩ := hj
    exact ih j v' u hv' hu
  | fn hs ht ha hb iha ihb =>
    simp only [V.kill, killL_eq]
    refine .fn (by simpa using hs) (by simpa using ht) (fun j v u hj hu => ?_) (fun j v u hj hu => ?_)
    · simp only [List.getElem?_map, Option.map_eq_some_iff] at hj
      obtain ⟨v', hv', rfl⟩ := hj
      exact iha j v' u hv' hu
    · simp only [List.getElem?_map, Option.map_eq_some_iff] at hj
      obtain ⟨v', hv', rfl⟩ := hj
      exact ihb j v' u hv' hu
  | sl hok hb hnl hcap hsz hlen hc h1 ih => simp only [V.kill]; exact .sl hok hb hnl hcap hsz hlen hc h1
  | int k n => exact .int k n
  | bool b => exact .bool b
  | str s => exact .str s
  | nilp => exact .nilp
  | nilfn => exact .nilfn
  | nilif => exact .nilif
  | yl l => exact .yl l
  | undef u => exact .undef u
  | snil sz => exact .snil sz

theorem VR.kill {w : World} {ok okb : Nat → Prop} {l : Lay} {Z : Nat → Prop} (ks : List Nat) {v : V} {u : Value} (hr : VR w ok okb l Z v u) :
    VR w ok okb l (fun k => Z k ∨ k ∈ ks) (v.kill ks) u := by
  induction hr with
  | rr h0 => exact .rr (h0.kill ks)
  | bnil sz => exact .bnil sz
  | bsl hok hbb hnl hcap hsz hlen hc h1 => simp only [V.kill]; exact .bsl hok hbb hnl hcap hsz hlen hc h1
  | bro hok hbb hsz hc ih =>
    simp only [V.kill, killL_eq]
    refine .bro hok hbb (by simpa using hsz) fun j v u hj hu => ?_
    simp only [List.getElem?_map, Option.map_eq_some_iff] at hj
    obtain ⟨v', hv', rfl⟩ := hj
    exact ih j v' u hv' hu
  | rnil sz hz hk =>
    simp only [V.kill]
    split
    · exact .rr (.undef _)
    · exact .rnil sz (by simp [*]) hk
  | row hz hk hh hc =>
    simp only [V.kill]
    split
    · exact .rr (.undef _)
    · exact .row (by simp [*]) hk hh hc
  | ptr hz hk =>
    simp only [V.kill]
    split
    · exact .rr (.undef _)
    · exact .ptr (by simp [*]) hk
  | agg hs hc ih =>
    simp only [V.kill, killL_eq]
    refine .agg (by simpa using hs) fun j v u hj hu => ?_
    simp only [List.getElem?_map, Option.map_eq_some_iff] at hj
    obtain ⟨v', hv', rfl⟩ := hj
    exact ih j v' u hv' hu
  | tup hs hc ih =>
    simp only [V.kill, killL_eq]
    refine .tup (by simpa using hs) fun j v u hj hu => ?_
    simp only [List.getElem?_map, Option.map_eq_some_iff] at hj
    obtain ⟨v', hv', rfl⟩ := hj
    exact ih j v' u hv' hu
  | fn hs ht ha hb iha ihb =>
    simp only [V.kill, killL_eq]
    refine .fn (by simpa using hs) (by simpa using ht) (fun j v u hj hu => ?_) (fun j v u hj hu => ?_)
    · simp only [List.getElem?_map, Option.map_eq_some_iff] at hj
      obtain ⟨v', hv', rfl⟩ := hj
      exact iha j v' u hv' hu
    · simp only [List.getElem?_map, Option.map_eq_some_iff] at hj
      obtain ⟨v', hv', rfl⟩ := hj
      exact ihb j v' u hv' hu

/-- a still value is read-only content, whatever it came as -/
theorem VR.still {w : World} {ok okb : Nat → Prop} {l : Lay} {Z : Nat → Prop} {v : V} {u : Value} (hr : VR w ok okb l Z v u) (hs : v.still = true) : RR w ok v u := by
  induction hr with
  | rr h0 => exact h0
  | agg hsz hc ih =>
    simp only [V.still, stillL_eq, List.all_eq_true] at hs
    exact .agg hsz fun j v u hj hu => ih j v u hj hu (hs v (List.mem_of_getElem? hj))
  | fn hsz ht ha hb iha ihb =>
    simp only [V.still, stillL_eq, Bool.and_eq_true, List.all_eq_true] at hs
    exact .fn hsz ht (fun j v u hj hu => iha j v u hj hu (hs.1 v (List.mem_of_getElem? hj))) (fun j v u hj hu => ihb j v u hj hu (hs.2 v (List.mem_of_getElem? hj)))
  | _ => simp [V.still] at hs

theorem VR.one {w : World} {ok okb : Nat → Prop} {l : Lay} {Z : Nat → Prop} {v : V} {u : Value} (hr : VR w ok okb l Z v u) (hs : v.one = true) : u.oneCell' = true := by
  cases hr with
  | rr h0 => cases h0 <;> first | rfl | (simp [V.one] at hs)
  | agg _ _ => simp [V.one] at hs
  | tup _ _ => simp [V.one] at hs
  | _ => rfl

theorem VR.notZ {w : World} {ok okb : Nat → Prop} {l : Lay} {Z Z' : Nat → Prop} {v : V} {u : Value} (hr : VR w ok okb l Z v u) (h : ∀ k, Z' k → Z k) : VR w ok okb l Z' v u :=
  hr.mono (fun _ h => ⟨h, rfl⟩) (fun _ h => ⟨h, rfl⟩) (fun _ hz => ⟨rfl, rfl, fun h' => hz (h _ h')⟩)

end Go.Ai

namespace Go.Ai
open Go

/-! ## The state's relation -/

def excl (l : Lay) (s : Co) (b : Nat) : Prop := ∃ k o, lk s.ob k = some o ∧ l.ι k = some b
def okB (w : World) (L : Nat → Prop) (l : Lay) (s : Co) (b : Nat) : Prop := b < w.heap.size ∧ ¬ L b ∧ ¬ excl l s b
def okbB (w : World) (l : Lay) (s : Co) (b : Nat) : Prop := b < l.M ∧ b < w.heap.size ∧ ¬ excl l s b
def ZB (s : Co) (k : Nat) : Prop := k ∈ s.z
/-- a value in a state -/
abbrev SV (w : World) (L : Nat → Prop) (l : Lay) (s : Co) : V → Value → Prop := VR w (okB w L l s) (okbB w l s) l (ZB s)
/-- read-only content in a state -/
abbrev SR (w : World) (L : Nat → Prop) (l : Lay) (s : Co) : V → Value → Prop := RR w (okB w L l s)

/-- an object that lies in memory -/
structure Lies (w : World) (L : Nat → Prop) (l : Lay) (s : Co) (k : Nat) (o : Obj) (b : Nat) (c : Array Value) : Prop where
  at_ : l.ι k = some b
  heap : w.heap[b]? = some (.cells c o.el (0, 0))
  size : c.size = l.κ k * o.sz
  fits : o.es.length ≤ l.κ k
  cap : l.κ k ≤ maxLen
  box : o.row = false → o.es.length = l.κ k
  nl : o.nl = true → o.es ≠ []
  len : ∀ e ∈ o.es, e.length = o.sz
  val : ∀ (i : Nat) (e : List V) (j : Nat) (v : V) (u : Value), o.es[i]? = some e → e[j]? = some v → c[i * o.sz + j]? = some u → SV w L l s v u
  one : ∀ (i : Nat) (e : List V) (j : Nat) (v : V) (u : Value), o.es[i]? = some e → e[j]? = some v → c[i * o.sz + j]? = some u → u.oneCell' = true
  still : o.row = true → ∀ (i : Nat) (e : List V) (j : Nat) (v : V) (u : Value), o.es[i]? = some e → e[j]? = some v → c[i * o.sz + j]? = some u → SR w L l s v u

def ObjR (w : World) (L : Nat → Prop) (l : Lay) (s : Co) (k : Nat) (o : Obj) : Prop :=
  (o.row = true ∧ o.nl = true ∧ o.es = [] ∧ l.ι k = none) ∨ ∃ b c, Lies w L l s k o b c

structure Rel (w : World) (L : Nat → Prop) (l : Lay) (s : St) (a : Act) : Prop where
  vals : ∀ t v, lk s.σ t = some v → t < a.tmps.size ∧ SV w L l s.co v (a.tmps.getD t undef)
  objs : ∀ k o, lk s.co.ob k = some o → ObjR w L l s.co k o
  inj : ∀ k k' o o' b, lk s.co.ob k = some o → lk s.co.ob k' = some o' → l.ι k = some b → l.ι k' = some b → k = k'
  lt : ∀ k o b, lk s.co.ob k = some o → l.ι k = some b → b < w.heap.size ∧ ¬ L b
  lent : ∀ b, L b → b < w.heap.size
  unborn : ∀ k, k ∈ s.co.z → lk s.co.ob k = none
  glob : ∀ g v, lk s.gl.g g = some v → SR w L l s.co v (.pointer (some ⟨g, 0, none⟩))

/-- the world outside has not turned -/
def Io (w w' : World) : Prop := w'.os = w.os ∧ w'.output = w.output
theorem Io.refl (w : World) : Io w w := ⟨rfl, rfl⟩
theorem Io.trans {w w' w'' : World} (h : Io w w') (h' : Io w' w'') : Io w w'' := ⟨h'.1.trans h.1, h'.2.trans h.2⟩

/-- what a stretch of the activation keeps: whatever is not its own lies as it lay, and does not become its own -/
structure Fr (w : World) (l : Lay) (s : Co) (w' : World) (l' : Lay) (s' : Co) : Prop where
  size : w.heap.size ≤ w'.heap.size
  keep : ∀ b, b < w.heap.size → ¬ excl l s b → w'.heap[b]? = w.heap[b]? ∧ ¬ excl l' s' b
  M : l'.M = l.M
  io : Io w w'

theorem Fr.refl (w : World) (l : Lay) (s : Co) : Fr w l s w l s := ⟨Nat.le_refl _, fun _ _ h => ⟨rfl, h⟩, rfl, .refl _⟩

theorem Fr.trans {w w' w'' : World} {l l' l'' : Lay} {s s' s'' : Co} (h : Fr w l s w' l' s') (h' : Fr w' l' s' w'' l'' s'') : Fr w l s w'' l'' s'' :=
  ⟨Nat.le_trans h.size h'.size, fun b hb he =>
    have h1 := h.keep b hb he
    have h2 := h'.keep b (Nat.lt_of_lt_of_le hb h.size) h1.2
    ⟨h2.1.trans h1.1, h2.2⟩, h'.M.trans h.M, h.io.trans h'.io⟩

theorem Fr.ok {w w' : World} {L : Nat → Prop} {l l' : Lay} {s s' : Co} (h : Fr w l s w' l' s') : ∀ b, okB w L l s b → okB w' L l' s' b ∧ w'.heap[b]? = w.heap[b]? :=
  fun b ⟨h1, h2, h3⟩ => ⟨⟨Nat.lt_of_lt_of_le h1 h.size, h2, (h.keep b h1 h3).2⟩, (h.keep b h1 h3).1⟩
theorem Fr.okb {w w' : World} {l l' : Lay} {s s' : Co} (h : Fr w l s w' l' s') : ∀ b, okbB w l s b → okbB w' l' s' b ∧ w'.heap[b]? = w.heap[b]? :=
  fun b ⟨h0, h1, h3⟩ => ⟨⟨h.M ▸ h0, Nat.lt_of_lt_of_le h1 h.size, (h.keep b h1 h3).2⟩, (h.keep b h1 h3).1⟩

/-- content that no later turn reaches -/
theorem Fr.rr {w w' : World} {L : Nat → Prop} {l l' : Lay} {s s' : Co} (h : Fr w l s w' l' s') {v : V} {u : Value} (hr : SR w L l s v u) : SR w' L l' s' v u := hr.mono h.ok

theorem Fr.sv {w w' : World} {L : Nat → Prop} {l l' : Lay} {s s' : Co} (h : Fr w l s w' l' s') (hl : ∀ k, k ∉ s.z → l'.ι k = l.ι k ∧ l'.κ k = l.κ k ∧ k ∉ s'.z)
    {v : V} {u : Value} (hr : SV w L l s v u) : SV w' L l' s' v u := hr.mono h.ok h.okb hl

/-! ### looking up -/
theorem lk_cons {α : Type} (t : Nat) (x : α) (r : List (Nat × α)) (k : Nat) : lk ((t, x) :: r) k = if t = k then some x else lk r k := rfl

theorem lk_rm {α : Type} (r : List (Nat × α)) (t k : Nat) : lk (rm r t) k = if t = k then none else lk r k := by
  induction r with
  | nil => simp [rm, lk]
  | cons p r ih =>
    obtain ⟨s, x⟩ := p
    simp only [rm]
    by_cases h : s = t
    · subst h
      simp only [if_true, ih, lk_cons]
      split <;> simp_all
    · simp only [h, if_false, lk_cons, ih]
      by_cases h2 : s = k
      · subst h2; simp; intro h3; exact absurd h3.symm h
      · simp [h2]

theorem lk_rmL {α : Type} (ks : List Nat) : ∀ (r : List (Nat × α)) (k : Nat), lk (rmL r ks) k = if k ∈ ks then none else lk r k := by
  induction ks with
  | nil => intro r k; simp [rmL]
  | cons a ks ih =>
    intro r k
    simp only [rmL, ih, lk_rm, List.mem_cons]
    by_cases h1 : k ∈ ks
    · simp [h1]
    · by_cases h2 : a = k
      · simp [h1, h2]
      · have : ¬ k = a := fun h => h2 h.symm
        simp [h1, h2, this]

theorem lk_map {α β : Type} (f : α → β) (r : List (Nat × α)) (k : Nat) : lk (r.map fun p => (p.1, f p.2)) k = (lk r k).map f := by
  induction r with
  | nil => rfl
  | cons p r ih =>
    obtain ⟨a, x⟩ := p
    simp only [List.map_cons, lk_cons, ih]
    split <;> rfl

/-! ### pushing a value -/
theorem getD_set (a : Array Value) (t d : Nat) (u : Value) (h : t < a.size) : (a.setIfInBounds t u).getD d undef = if t = d then u else a.getD d undef := by
  simp only [Array.getD_eq_getD_getElem?]
  by_cases he : t = d
  · subst he; simp [h]
  · simp [he, Array.getElem?_setIfInBounds_ne he]

theorem Rel.push {w : World} {L : Nat → Prop} {l : Lay} {s : St} {a : Act} (h : Rel w L l s a) {v : V} {u : Value} (hv : SV w L l s.co v u) (t : Nat) (ht : t < a.tmps.size) :
    Rel w L l (s.push t v) (a.put (some t) u) where
  vals := fun k x hk => by
    simp only [St.push, lk_cons] at hk
    simp only [Act.put, Array.size_setIfInBounds, getD_set _ _ _ _ ht]
    by_cases he : t = k
    · subst he; simp at hk; subst hk; simp [ht]; exact hv
    · simp only [he, if_false] at hk ⊢; exact h.vals k x hk
  objs := h.objs
  inj := h.inj
  lt := h.lt
  lent := h.lent
  unborn := h.unborn
  glob := h.glob

theorem Rel.put {w : World} {L : Nat → Prop} {l : Lay} {s : St} {a : Act} (h : Rel w L l s a) {v : V} {u : Value} (hv : SV w L l s.co v u) (d : Option Nat) (hd : ∀ t, d = some t → t < a.tmps.size) :
    Rel w L l (s.put d v) (a.put d u) := by
  cases d with
  | none => exact h
  | some t => exact h.push hv t (hd t rfl)

theorem Rel.get {w : World} {L : Nat → Prop} {l : Lay} {s : St} {a : Act} (h : Rel w L l s a) (t : Nat) : SV w L l s.co (s.get t) (a.tmps.getD t undef) := by
  simp only [St.get]
  cases hl : lk s.σ t with
  | none => exact .rr (.undef _)
  | some v => exact (h.vals t v hl).2

theorem ofConst_rr (w : World) (ok : Nat → Prop) (v : Value) : RR w ok (ofConst v) v := by
  unfold ofConst
  split <;> first | exact .int _ _ | exact .bool _ | exact .str _ | exact .snil _ | exact .nilp | exact .nilfn | exact .nilif | exact .undef _

theorem Rel.ev {w : World} {L : Nat → Prop} {l : Lay} {s : St} {a : Act} (h : Rel w L l s a) (x : Operand) : SV w L l s.co (ev s x) (a.eval x) := by
  cases x with
  | tmp t => exact h.get t
  | const v => exact .rr (ofConst_rr _ _ v)
  | global g =>
    simp only [Ai.ev]
    cases hl : lk s.gl.g g with
    | none => exact .rr (.undef _)
    | some v => exact .rr (h.glob g v hl)
  | func f => exact .rr (.fn rfl rfl (fun j v u h => by simp at h) (fun j v u h => by simp at h))

end Go.Ai

namespace Go.Ai
open Go

theorem lk_kill (c : Co) (ks : List Nat) (k : Nat) : lk (c.kill ks).ob k = if k ∈ ks then none else (lk c.ob k).map (Obj.kill ks) := by
  simp only [Co.kill, lk_map, lk_rmL]
  split <;> rfl

theorem excl_kill {l : Lay} {c : Co} {ks : List Nat} {b : Nat} (h : excl l (c.kill ks) b) : excl l c b := by
  obtain ⟨k, o, hk, hb⟩ := h
  rw [lk_kill] at hk
  split at hk
  · cases hk
  · simp only [Option.map_eq_some_iff] at hk
    obtain ⟨o', ho', _⟩ := hk
    exact ⟨k, o', ho', hb⟩

theorem Fr.kill (w : World) (l : Lay) (c : Co) (ks : List Nat) : Fr w l c w l (c.kill ks) := ⟨Nat.le_refl _, fun _ _ h => ⟨rfl, fun h' => h (excl_kill h')⟩, rfl, .refl _⟩

theorem SV.kill {w : World} {L : Nat → Prop} {l : Lay} {c : Co} {v : V} {u : Value} (h : SV w L l c v u) (ks : List Nat) : SV w L l (c.kill ks) (v.kill ks) u :=
  (VR.kill ks h).mono (Fr.kill w l c ks).ok (Fr.kill w l c ks).okb (fun _ hz => ⟨rfl, rfl, fun h' => hz ((List.mem_append.1 h').symm)⟩)

theorem ObjR.kill {w : World} {L : Nat → Prop} {l : Lay} {c : Co} {k : Nat} {o : Obj} (h : ObjR w L l c k o) (ks : List Nat) : ObjR w L l (c.kill ks) k (o.kill ks) := by
  have hF := Fr.kill w l c ks
  cases hrow : o.row with
  | true =>
    have he : o.kill ks = o := by simp [Obj.kill, hrow]
    rw [he]
    rcases h with h | ⟨b, d, h⟩
    · exact .inl h
    · refine .inr ⟨b, d, { h with val := ?_, still := ?_ }⟩
      · exact fun i e j v u h1 h2 h3 => .rr (hF.rr (h.still hrow i e j v u h1 h2 h3))
      · exact fun hr i e j v u h1 h2 h3 => hF.rr (h.still hr i e j v u h1 h2 h3)
  | false =>
    have he : o.kill ks = { o with es := o.es.map fun e => e.map (V.kill ks) } := by simp [Obj.kill, hrow]
    rw [he]
    rcases h with h | ⟨b, d, h⟩
    · rw [hrow] at h; cases h.1
    · have hget : ∀ (i : Nat) (e : List V) (j : Nat) (v : V), (o.es.map fun e => e.map (V.kill ks))[i]? = some e → e[j]? = some v → ∃ e0 v0, o.es[i]? = some e0 ∧ e0[j]? = some v0 ∧ v = v0.kill ks := by
        intro i e j v h1 h2
        simp only [List.getElem?_map, Option.map_eq_some_iff] at h1
        obtain ⟨e0, he0, rfl⟩ := h1
        simp only [List.getElem?_map, Option.map_eq_some_iff] at h2
        obtain ⟨v0, hv0, rfl⟩ := h2
        exact ⟨e0, v0, he0, hv0, rfl⟩
      refine .inr ⟨b, d, ?_⟩
      exact {
        at_ := h.at_, heap := h.heap, size := h.size, fits := by simpa using h.fits, cap := h.cap
        box := fun _ => by simpa using h.box hrow
        nl := fun hn => by simpa using h.nl hn
        len := by
          intro e he
          simp only [List.mem_map] at he
          obtain ⟨e0, he0, rfl⟩ := he
          simpa using h.len e0 he0
        val := by
          intro i e j v u h1 h2 h3
          obtain ⟨e0, v0, he0, hv0, rfl⟩ := hget i e j v h1 h2
          exact (h.val i e0 j v0 u he0 hv0 h3).kill ks
        one := by
          intro i e j v u h1 h2 h3
          obtain ⟨e0, v0, he0, hv0, rfl⟩ := hget i e j v h1 h2
          exact h.one i e0 j v0 u he0 hv0 h3
        still := fun hr => absurd hr (by simp [hrow]) }

theorem Rel.kill {w : World} {L : Nat → Prop} {l : Lay} {s : St} {a : Act} (h : Rel w L l s a) (ks : List Nat) : Rel w L l (s.kill ks) a where
  vals := fun t v hv => by
    simp only [St.kill, lk_map, Option.map_eq_some_iff] at hv
    obtain ⟨v0, h0, rfl⟩ := hv
    exact ⟨(h.vals t v0 h0).1, SV.kill (h.vals t v0 h0).2 ks⟩
  objs := fun k o hk => by
    simp only [St.kill, lk_kill] at hk
    split at hk
    · cases hk
    · simp only [Option.map_eq_some_iff] at hk
      obtain ⟨o0, h0, rfl⟩ := hk
      exact (h.objs k o0 h0).kill ks
  inj := fun k k' o o' b hk hk' hb hb' => by
    simp only [St.kill, lk_kill] at hk hk'
    split at hk
    · cases hk
    · split at hk'
      · cases hk'
      · simp only [Option.map_eq_some_iff] at hk hk'
        obtain ⟨o0, h0, _⟩ := hk
        obtain ⟨o1, h1, _⟩ := hk'
        exact h.inj k k' o0 o1 b h0 h1 hb hb'
  lt := fun k o b hk hb => by
    simp only [St.kill, lk_kill] at hk
    split at hk
    · cases hk
    · simp only [Option.map_eq_some_iff] at hk
      obtain ⟨o0, h0, _⟩ := hk
      exact h.lt k o0 b h0 hb
  lent := h.lent
  unborn := fun k hk => by
    simp only [St.kill, Co.kill, List.mem_append] at hk
    simp only [St.kill, lk_kill]
    split
    · rfl
    · rename_i hn
      rw [h.unborn k (hk.resolve_left hn)]; rfl
  glob := fun g v hg => (Fr.kill w l s.co ks).rr (h.glob g v hg)

/-! ### an object is turned, in its own block -/

def Co.set (c : Co) (k : Nat) (o : Obj) : Co := { ob := (k, o) :: rm c.ob k, z := c.z }

theorem lk_set (c : Co) (k : Nat) (o : Obj) (k' : Nat) : lk (c.set k o).ob k' = if k = k' then some o else lk c.ob k' := by
  simp only [Co.set, lk_cons, lk_rm]
  split <;> rfl

theorem excl_set {l : Lay} {c : Co} {k : Nat} {o o' : Obj} (h : lk c.ob k = some o) (b : Nat) : excl l (c.set k o') b ↔ excl l c b := by
  constructor
  · rintro ⟨k', o1, h1, hb⟩
    rw [lk_set] at h1
    split at h1
    · rename_i he; subst he; exact ⟨k, o, h, hb⟩
    · exact ⟨k', o1, h1, hb⟩
  · rintro ⟨k', o1, h1, hb⟩
    by_cases he : k = k'
    · subst he; exact ⟨k, o', by simp [lk_set], hb⟩
    · exact ⟨k', o1, by simp [lk_set, he, h1], hb⟩

theorem Fr.set {w w' : World} {l : Lay} {c : Co} {k : Nat} {o o' : Obj} {b : Nat} (h : lk c.ob k = some o) (hb : l.ι k = some b)
    (hsz : w.heap.size ≤ w'.heap.size) (hkeep : ∀ b', b' < w.heap.size → b' ≠ b → w'.heap[b']? = w.heap[b']?) (hio : Io w w' := by first | exact ⟨rfl, rfl⟩ | assumption) : Fr w l c w' l (c.set k o') :=
  ⟨hsz, fun b' hlt he => ⟨hkeep b' hlt (fun e => he (e ▸ ⟨k, o, h, hb⟩)), fun he' => he ((excl_set h b').1 he')⟩, rfl, hio⟩

theorem Rel.set {w w' : World} {L : Nat → Prop} {l : Lay} {s : St} {a : Act} (h : Rel w L l s a) {k : Nat} {o o' : Obj} {b : Nat} (hk : lk s.co.ob k = some o) (hb : l.ι k = some b)
    (hsz : w.heap.size ≤ w'.heap.size) (hkeep : ∀ b', b' < w.heap.size → b' ≠ b → w'.heap[b']? = w.heap[b']?) {c' : Array Value}
    (hl : Lies w' L l (s.co.set k o') k o' b c') (hio : Io w w' := by first | exact ⟨rfl, rfl⟩ | assumption) : Rel w' L l { s with co := s.co.set k o' } a := by
  have hF : Fr w l s.co w' l (s.co.set k o') := Fr.set hk hb hsz hkeep
  have hS : ∀ {v u}, SV w L l s.co v u → SV w' L l (s.co.set k o') v u := fun hv => hF.sv (fun _ hz => ⟨rfl, rfl, hz⟩) hv
  exact {
    vals := fun t v hv => ⟨(h.vals t v hv).1, hS (h.vals t v hv).2⟩
    objs := fun k' o1 h1 => by
      simp only [lk_set] at h1
      split at h1
      · rename_i he; subst he; cases h1; exact .inr ⟨b, c', hl⟩
      · rename_i he
        rcases h.objs k' o1 h1 with hv | ⟨b1, c1, h2⟩
        · exact .inl hv
        · have hne : b1 ≠ b := fun e => he (h.inj k k' o o1 b hk h1 hb (e ▸ h2.at_))
          have hb1 := (h.lt k' o1 b1 h1 h2.at_).1
          exact .inr ⟨b1, c1, { h2 with heap := (hkeep b1 hb1 hne).trans h2.heap, val := fun i e j v u x y z => hS (h2.val i e j v u x y z), still := fun hr i e j v u x y z => hF.rr (h2.still hr i e j v u x y z) }⟩
    inj := fun k1 k2 o1 o2 b' h1 h2 hb1 hb2 => by
      simp only [lk_set] at h1 h2
      have get : ∀ k1 o1, (if k = k1 then some o' else lk s.co.ob k1) = some o1 → ∃ o3, lk s.co.ob k1 = some o3 := by
        intro k1 o1 h1
        split at h1
        · rename_i he; subst he; exact ⟨o, hk⟩
        · exact ⟨o1, h1⟩
      obtain ⟨o3, h3⟩ := get k1 o1 h1
      obtain ⟨o4, h4⟩ := get k2 o2 h2
      exact h.inj k1 k2 o3 o4 b' h3 h4 hb1 hb2
    lt := fun k1 o1 b' h1 hb1 => by
      simp only [lk_set] at h1
      split at h1
      · rename_i he; subst he
        have := h.lt k o b' hk hb1
        exact ⟨Nat.lt_of_lt_of_le this.1 hsz, this.2⟩
      · have := h.lt k1 o1 b' h1 hb1
        exact ⟨Nat.lt_of_lt_of_le this.1 hsz, this.2⟩
    lent := fun b' hb' => Nat.lt_of_lt_of_le (h.lent b' hb') hsz
    unborn := fun k1 h1 => by
      have := h.unborn k1 h1
      simp only [lk_set]
      split
      · rename_i he; subst he; rw [hk] at this; cases this
      · exact this
    glob := fun g v hg => hF.rr (h.glob g v hg) }

/-! ### an object is born -/

def Co.birth (c : Co) (k : Nat) (o : Obj) : Co := { ob := (k, o) :: c.ob, z := c.z.filter (· ≠ k) }
def Lay.set (l : Lay) (k : Nat) (b : Option Nat) (n : Nat) : Lay := ⟨fun k' => if k' = k then b else l.ι k', fun k' => if k' = k then n else l.κ k', l.M⟩

theorem excl_birth {l : Lay} {c : Co} {k : Nat} {o : Obj} {b : Option Nat} {n b' : Nat} (h : excl (l.set k b n) (c.birth k o) b') : excl l c b' ∨ b = some b' := by
  obtain ⟨k', o1, h1, hb⟩ := h
  simp only [Co.birth, lk_cons] at h1
  simp only [Lay.set] at hb
  by_cases he : k = k'
  · subst he; simp at hb; exact .inr hb
  · simp only [he, if_false] at h1
    have : ¬ k' = k := fun e => he e.symm
    simp only [this, if_false] at hb
    exact .inl ⟨k', o1, h1, hb⟩

theorem Fr.birth {w w' : World} {l : Lay} {c : Co} {k : Nat} {o : Obj} {b : Option Nat} {n : Nat} (hb : ∀ x, b = some x → w.heap.size ≤ x)
    (hsz : w.heap.size ≤ w'.heap.size) (hkeep : ∀ b', b' < w.heap.size → w'.heap[b']? = w.heap[b']?) (hio : Io w w' := by first | exact ⟨rfl, rfl⟩ | assumption) : Fr w l c w' (l.set k b n) (c.birth k o) :=
  ⟨hsz, fun b' hlt he => ⟨hkeep b' hlt, fun he' => (excl_birth he').elim he fun e => by have := hb b' e; omega⟩, rfl, hio⟩

theorem birth_keep {l : Lay} {c : Co} {k : Nat} {o : Obj} {b : Option Nat} {n : Nat} (hk : k ∈ c.z) : ∀ k', k' ∉ c.z → (l.set k b n).ι k' = l.ι k' ∧ (l.set k b n).κ k' = l.κ k' ∧ k' ∉ (c.birth k o).z := by
  intro k' h
  have hne : k' ≠ k := fun e => h (e ▸ hk)
  refine ⟨by simp [Lay.set, hne], by simp [Lay.set, hne], ?_⟩
  simp [Co.birth, h]

theorem Rel.birth {w w' : World} {L : Nat → Prop} {l : Lay} {s : St} {a : Act} (h : Rel w L l s a) {k : Nat} {o : Obj} {b : Option Nat} {n : Nat} (hk : k ∈ s.co.z)
    (hb : ∀ x, b = some x → w.heap.size ≤ x ∧ x < w'.heap.size)
    (hsz : w.heap.size ≤ w'.heap.size) (hkeep : ∀ b', b' < w.heap.size → w'.heap[b']? = w.heap[b']?)
    (hl : ObjR w' L (l.set k b n) (s.co.birth k o) k o) (hio : Io w w' := by first | exact ⟨rfl, rfl⟩ | assumption) : Rel w' L (l.set k b n) { s with co := s.co.birth k o } a := by
  have hF : Fr w l s.co w' (l.set k b n) (s.co.birth k o) := Fr.birth (fun x e => (hb x e).1) hsz hkeep
  have hS : ∀ {v u}, SV w L l s.co v u → SV w' L (l.set k b n) (s.co.birth k o) v u := fun hv => hF.sv (birth_keep hk) hv
  have hι : ∀ k', k' ≠ k → (l.set k b n).ι k' = l.ι k' := fun k' he => by simp [Lay.set, he]
  have hκ : ∀ k', k' ≠ k → (l.set k b n).κ k' = l.κ k' := fun k' he => by simp [Lay.set, he]
  have hself : (l.set k b n).ι k = b := by simp [Lay.set]
  have hlk : ∀ k', k' ≠ k → lk (s.co.birth k o).ob k' = lk s.co.ob k' := fun k' he => by simp only [Co.birth, lk_cons, if_neg (fun e : k = k' => he e.symm)]
  exact {
    vals := fun t v hv => ⟨(h.vals t v hv).1, hS (h.vals t v hv).2⟩
    objs := fun k' o1 h1 => by
      by_cases he : k' = k
      · subst he
        simp only [Co.birth, lk_cons, if_true, Option.some.injEq] at h1
        subst h1; exact hl
      · rw [hlk k' he] at h1
        rcases h.objs k' o1 h1 with hv | ⟨b1, c1, h2⟩
        · exact .inl ⟨hv.1, hv.2.1, hv.2.2.1, (hι k' he).trans hv.2.2.2⟩
        · have hb1 := (h.lt k' o1 b1 h1 h2.at_).1
          exact .inr ⟨b1, c1, { h2 with at_ := (hι k' he).trans h2.at_, heap := (hkeep b1 hb1).trans h2.heap, size := by rw [hκ k' he]; exact h2.size, fits := by rw [hκ k' he]; exact h2.fits, cap := by rw [hκ k' he]; exact h2.cap, box := fun hr => by rw [hκ k' he]; exact h2.box hr, val := fun i e j v u x y z => hS (h2.val i e j v u x y z), still := fun hr i e j v u x y z => hF.rr (h2.still hr i e j v u x y z) }⟩
    inj := fun k1 k2 o1 o2 b' h1 h2 hb1 hb2 => by
      by_cases e1 : k1 = k
      · by_cases e2 : k2 = k
        · rw [e1, e2]
        · subst e1
          rw [hlk k2 e2] at h2
          rw [hself] at hb1
          rw [hι k2 e2] at hb2
          have := (hb b' hb1).1
          have := (h.lt k2 o2 b' h2 hb2).1
          omega
      · by_cases e2 : k2 = k
        · subst e2
          rw [hlk k1 e1] at h1
          rw [hself] at hb2
          rw [hι k1 e1] at hb1
          have := (hb b' hb2).1
          have := (h.lt k1 o1 b' h1 hb1).1
          omega
        · rw [hlk k1 e1] at h1
          rw [hlk k2 e2] at h2
          rw [hι k1 e1] at hb1
          rw [hι k2 e2] at hb2
          exact h.inj k1 k2 o1 o2 b' h1 h2 hb1 hb2
    lt := fun k1 o1 b' h1 hb1 => by
      by_cases e1 : k1 = k
      · subst e1
        rw [hself] at hb1
        have := hb b' hb1
        exact ⟨this.2, fun hL => by have := h.lent b' hL; omega⟩
      · rw [hlk k1 e1] at h1
        rw [hι k1 e1] at hb1
        have := h.lt k1 o1 b' h1 hb1
        exact ⟨Nat.lt_of_lt_of_le this.1 hsz, this.2⟩
    lent := fun b' hb' => Nat.lt_of_lt_of_le (h.lent b' hb') hsz
    unborn := fun k1 h1 => by
      simp only [Co.birth, List.mem_filter, decide_eq_true_eq] at h1
      rw [hlk k1 h1.2]; exact h.unborn k1 h1.1
    glob := fun g v hg => hF.rr (h.glob g v hg) }

end Go.Ai

namespace Go.Ai
open Go

/-! ## Operations that only hand back a value -/

def isSA : TypeDesc → Bool
  | .slice _ | .array _ _ => true
  | _ => false

/-- what is known of a type -/
structure Ty where
  size : Nat
  isAgg : Bool
  bytes : Nat
  zero : List V
  elem : Nat
  esz : Nat
  ebytes : Nat
  isSlice : Bool
  isArray : Bool
  alen : Nat
  offs : List (Nat × Nat)
  kind : Option IntKind
  isStr : Bool
  isBool : Bool
  isPtr : Bool

def isAggD : TypeDesc → Bool
  | .struct _ | .array _ _ => true
  | _ => false

def mkTy (P : Program) (i : TypeInfo) (d : TypeDesc) (z : Value) : Ty :=
  let e : Nat := match d with | .slice e => e | .array _ e => e | _ => 0
  { size := i.size, isAgg := isAggD d, bytes := i.bytes, zero := z.cells.toList.map ofConst, elem := e,
    esz := (if isSA d then P.cellsOf e else 0), ebytes := (if isSA d then P.bytesOf e else 0),
    isSlice := (match d with | .slice _ => true | _ => false), isArray := (match d with | .array _ _ => true | _ => false),
    alen := (match d with | .array n _ => n | _ => 0),
    offs := (match d with | .struct fs => fs.toList.map fun f => (f.offset, P.cellsOf f.type) | _ => []),
    kind := (match d with | .int k => some k | _ => none),
    isStr := (match d with | .string => true | _ => false), isBool := (match d with | .bool => true | _ => false), isPtr := (match d with | .pointer _ => true | _ => false) }

def ty (P : Program) (t : Nat) : Option Ty :=
  match P.info? t, P.underlying t with
  | some i, some d => i.zero.map (mkTy P i d)
  | _, _ => none

theorem ty_spec {P : Program} {t : Nat} {T : Ty} (h : ty P t = some T) : ∃ i d z, P.info? t = some i ∧ P.underlying t = some d ∧ i.zero = some z ∧ T = mkTy P i d z := by
  unfold ty at h
  split at h
  · rename_i i d hi hd
    simp only [Option.map_eq_some_iff] at h
    obtain ⟨z, hz, rfl⟩ := h
    exact ⟨i, d, z, hi, hd, hz, rfl⟩
  · cases h

def isInt : V → Option (IntKind × Int)
  | .int k n => some (k, n)
  | _ => none

def arith (op : BinOp) (k : IntKind) (a b : Int) : Option V :=
  match op with
  | .add => some (.int k (k.wrap (a + b)))
  | .sub => some (.int k (k.wrap (a - b)))
  | .mul => some (.int k (k.wrap (a * b)))
  | .quo => if b = 0 then none else some (.int k (k.wrap (a.tdiv b)))
  | .rem => if b = 0 then none else some (.int k (a.tmod b))
  | .and => some (.int k (k.wrap (BitVec.ofInt k.bits a &&& BitVec.ofInt k.bits b).toNat))
  | .or => some (.int k (k.wrap (BitVec.ofInt k.bits a ||| BitVec.ofInt k.bits b).toNat))
  | .xor => some (.int k (k.wrap (BitVec.ofInt k.bits a ^^^ BitVec.ofInt k.bits b).toNat))
  | .andNot => some (.int k (k.wrap (BitVec.ofInt k.bits a &&& ~~~BitVec.ofInt k.bits b).toNat))
  | .eql => some (.bool (a == b))
  | .neq => some (.bool (a != b))
  | .lss => some (.bool (decide (a < b)))
  | .leq => some (.bool (decide (a ≤ b)))
  | .gtr => some (.bool (decide (a > b)))
  | .geq => some (.bool (decide (a ≥ b)))
  | _ => none

def bin (op : BinOp) : V → V → Option V
  | .int k a, .int k' b =>
    match op with
    | .shl => if b < 0 then none else some (.int k (k.wrap (a * 2 ^ (min b.toNat k.bits))))
    | .shr => if b < 0 then none else some (.int k (a.fdiv (2 ^ (min b.toNat k.bits))))
    | _ => if k = k' then arith op k a b else none
  | .str a, .str b => match op with | .eql => some (.bool (a == b)) | .neq => some (.bool (!(a == b))) | _ => none
  | _, _ => none

/-- equality of what is no number and no text: bools; what may be nil -/
def eqv (T : Ty) : V → V → Option Bool
  | .bool a, .bool b => if T.isBool then some (a == b) else none
  | .nilp, .nilp => if T.isPtr then some true else none
  | .ptr _ _ _ _, .nilp => if T.isPtr then some false else none
  | .nilp, .ptr _ _ _ _ => if T.isPtr then some false else none
  | .ro _ _, .nilp => if T.isPtr then some false else none
  | .nilp, .ro _ _ => if T.isPtr then some false else none
  | .sl _ nl _ es, .sl false true _ [] => if T.isSlice then some (nl && es.isEmpty) else none
  | _, _ => none

def subv (e : List V) (off : Nat) (T : Ty) : Option V :=
  if T.isAgg then
    if off = 0 ∧ T.size = e.length then some (.agg e)
    else if off + T.size ≤ e.length then some (.agg ((e.drop off).take T.size)) else none
  else e[off]?

/-- the cells that a pointer leads to, from its place on -/
def Co.cellsAt (c : Co) (a : V) : Option (List V × Nat) :=
  match a with
  | .ptr k sz i off => (lk c.ob k).bind fun o => if o.sz = sz then (o.es[i]?).map fun e => (e, off) else none
  | .ro _ cs => some (cs, 0)
  | _ => none

def toBytes : List (List V) → Option (List UInt8)
  | [] => some []
  | [.int .u8 n] :: r => (toBytes r).map (UInt8.ofNat n.toNat :: ·)
  | _ => none

/-- a slice's elements -/
def Co.elems (c : Co) (a : V) : Option (Nat × List (List V)) :=
  match a with
  | .row k sz lo hi => (lk c.ob k).bind fun o => if o.sz = sz ∧ o.row ∧ hi ≤ o.es.length then some (sz, if lo = 0 ∧ hi = o.es.length then o.es else (o.es.drop lo).take (hi - lo)) else none
  | .sl _ _ sz es => some (sz, es)
  | _ => none

/-- a slice expression's bounds -/
def lowB (s : St) : Option Operand → Option Nat
  | none => some 0
  | some y => match isInt (ev s y) with | some (_, n) => if 0 ≤ n then some n.toNat else none | none => none
def highB (s : St) (y : Option Operand) (len : Nat) : Option Nat :=
  match y with
  | none => some len
  | some y => match isInt (ev s y) with | some (_, n) => if 0 ≤ n ∧ n.toNat ≤ len then some n.toNat else none | none => none

def minV : V → List V → Option V
  | .int k x, [] => some (.int k x)
  | .int k x, .int _ y :: r => minV (.int k (if y < x then y else x)) r
  | _, _ => none
def maxV : V → List V → Option V
  | .int k x, [] => some (.int k x)
  | .int k x, .int _ y :: r => maxV (.int k (if y > x then y else x)) r
  | _, _ => none

def callVal (P : Program) (s : St) (b : Builtin) (args : List Operand) (ts : List Nat) : Option V :=
  match b, args, ts with
  | .len, [x], [t] => (ty P t).bind fun T =>
      if T.isSlice then
        match ev s x with
        | .row _ _ lo hi => some (.int .i64 ((hi - lo : Nat) : Int))
        | .sl _ _ _ es => some (.int .i64 (es.length : Int))
        | _ => none
      else if T.isStr then match ev s x with | .str b => some (.int .i64 (b.length : Int)) | _ => none
      else none
  | .min, x :: r, _ => minV (ev s x) (r.map (ev s))
  | .max, x :: r, _ => maxV (ev s x) (r.map (ev s))
  | _, _, _ => none

def stepVal (P : Program) (s : St) (o : Oper) : Option V :=
  match o.op with
  | .move x => some (ev s x)
  | .assign x => some (ev s x)
  | .pick c a b => match ev s c with | .bool true => some (ev s a) | .bool false => some (ev s b) | _ => none
  | .load t a => (s.co.cellsAt (ev s a)).bind fun (e, off) => (ty P t).bind fun T => subv e off T
  | .binOp op t x y _ => match bin op (ev s x) (ev s y) with
      | some v => some v
      | none => (ty P t).bind fun T => match op with
        | .eql => (eqv T (ev s x) (ev s y)).map .bool
        | .neq => (eqv T (ev s x) (ev s y)).map fun b => .bool (!b)
        | _ => none
  | .unOp op _ x => match op, ev s x with
      | .not, .bool b => some (.bool !b)
      | .neg, .int k n => some (.int k (k.wrap (0 - n)))
      | .xor, .int k n => some (.int k (k.wrap (BitVec.ofInt k.bits (if k.signed then -1 else k.max) ^^^ BitVec.ofInt k.bits n).toNat))
      | _, _ => none
  | .nilCheck x => match ev s x with | .ptr k sz i off => some (.ptr k sz i off) | .ro br cs => some (.ro br cs) | _ => none
  | .fieldAddr t x f => (ty P t).bind fun T => (T.offs[f]?).bind fun (d, n) => if n = 0 then none else
      match ev s x with
      | .ptr k sz i off => some (.ptr k sz i (off + d))
      | .ro br cs => if d ≤ cs.length then some (.ro br (cs.drop d)) else none
      | _ => none
  | .indexAddr t x ix => (ty P t).bind fun T => (isInt (ev s ix)).bind fun (_, n) => if T.esz = 0 then none else
      if T.isArray then
        if 0 ≤ n ∧ n < T.alen then
          match ev s x with
          | .ptr k sz i off => some (.ptr k sz i (off + n.toNat * T.esz))
          | .ro br cs => if n.toNat * T.esz ≤ cs.length then some (.ro br (cs.drop (n.toNat * T.esz))) else none
          | _ => none
        else none
      else if T.isSlice then
        match ev s x with
        | .row k sz lo hi => if sz = T.esz ∧ 0 ≤ n ∧ n < ((hi - lo : Nat) : Int) then some (.ptr k sz (lo + n.toNat) 0) else none
        | .sl br _ sz es => if sz = T.esz ∧ 0 ≤ n then (es[n.toNat]?).map (.ro br) else none
        | _ => none
      else none
  | .index t x ix => (ty P t).bind fun T => (isInt (ev s ix)).bind fun (_, n) =>
      match ev s x with
      | .agg cs => if T.isArray ∧ T.esz ≠ 0 ∧ 0 ≤ n ∧ n < T.alen then (ty P T.elem).bind fun E => subv cs (n.toNat * T.esz) E else none
      | _ => none
  | .convert src d x => (ty P src).bind fun _ => (ty P d).bind fun T =>
      match T.kind, ev s x with
      | some k, .int _ n => some (.int k (k.wrap n))
      | _, _ => none
  | .extract t i => match ev s t with | .tup cs => cs[i]? | _ => none
  | .makeFunc (.func f) a b => some (.fn f (a.toList.map (ev s)) (b.toList.map (ev s)))
  | .call c => match c.callee with | .builtin b => callVal P s b c.args.toList c.argTypes.toList | _ => none
  | .slice t x lo hi none => (ty P t).bind fun T => if !T.isSlice then none else
      (lowB s lo).bind fun a =>
      match ev s x with
      | .row k sz lo' hi' => (highB s hi (hi' - lo')).bind fun b =>
          if (a = 0 ∨ a < b) ∧ lo' + b ≤ hi' ∧ sz = T.esz ∧ sz ≠ 0 then some (.row k sz (lo' + a) (lo' + b)) else none
      | .sl br nl sz es => (highB s hi es.length).bind fun b =>
          if a ≤ b ∧ sz = T.esz ∧ sz ≠ 0 then some (.sl br (nl && es.isEmpty) sz ((es.drop a).take (b - a))) else none
      | _ => none
  | _ => none

end Go.Ai

namespace Go.Ai
open Go
variable {P : Program} {w : World} {L : Nat → Prop} {l : Lay} {s : St} {a : Act}

theorem SV.int_inv {c : Co} {k : IntKind} {n : Int} {u : Value} (h : SV w L l c (.int k n) u) : u = .int k n := by
  cases h with
  | rr h => cases h; rfl
theorem SV.bool_inv {c : Co} {b : Bool} {u : Value} (h : SV w L l c (.bool b) u) : u = .bool b := by
  cases h with
  | rr h => cases h; rfl
theorem SV.nilp_inv {c : Co} {u : Value} (h : SV w L l c .nilp u) : u = .pointer none := by
  cases h with
  | rr h => cases h; rfl
theorem SV.str_inv {c : Co} {b : List UInt8} {u : Value} (h : SV w L l c (.str b) u) : ∃ s : ByteArray, b = s.data.toList ∧ u = .string s := by
  cases h with
  | rr h => cases h with | str s => exact ⟨s, rfl, rfl⟩
theorem isInt_spec {v : V} {k : IntKind} {n : Int} (h : isInt v = some (k, n)) : v = .int k n := by
  cases v <;> simp [isInt] at h
  obtain ⟨rfl, rfl⟩ := h; rfl

theorem arith_sound {op : BinOp} {k : IntKind} {x y : Int} {v : V} (h : arith op k x y = some v) (h1 : op ≠ .shl) (h2 : op ≠ .shr) (w : World) (ok : Nat → Prop) (t : TypeId) :
    ∃ u, (binOp op t (.int k x) (.int k y)).run P w = .ok u w ∧ RR w ok v u := by
  cases op <;> simp only [arith] at h <;> try (first | exact absurd rfl h1 | exact absurd rfl h2)
  case quo =>
    split at h
    · cases h
    · rename_i hy; simp at h; subst h; exact ⟨_, by simp [binOp, Op.intDiv, hy], .int _ _⟩
  case rem =>
    split at h
    · cases h
    · rename_i hy; simp at h; subst h; exact ⟨_, by simp [binOp, Op.intDiv, hy], .int _ _⟩
  all_goals
    simp only [Option.some.injEq] at h
    subst h
    first
      | (refine ⟨_, ?_, .int _ _⟩; simp [binOp, Op.intArith]; done)
      | (refine ⟨_, ?_, .bool _⟩; simp [binOp, Op.intCmp]; done)
      | (refine ⟨_, ?_, .int _ _⟩; simp only [binOp, ne_eq, not_true_eq_false, if_false]; rfl)

theorem bin_sound {op : BinOp} {x y v : V} {ux uy : Value} (h : bin op x y = some v) (hx : SV w L l s.co x ux) (hy : SV w L l s.co y uy) (t : TypeId) (ox oy : Operand) :
    ∃ u, (do eqGuard op t ox oy ux uy; binOp op t ux uy : Sem Value).run P w = .ok u w ∧ SV w L l s.co v u := by
  cases x <;> cases y <;> simp only [bin] at h <;> try (cases h; done)
  case int.int k x k' y =>
    obtain rfl := hx.int_inv
    obtain rfl := hy.int_inv
    have hg : (eqGuard op t ox oy (.int k x) (.int k' y)).run P w = .ok () w := by unfold eqGuard; split <;> simp
    simp only [Sem.run_bind, hg, Result.andThen_ok]
    split at h
    · split at h
      · cases h
      · rename_i hn; simp at h; subst h; exact ⟨_, by simp [binOp, Op.shift, hn], .rr (.int _ _)⟩
    · split at h
      · cases h
      · rename_i hn; simp at h; subst h; exact ⟨_, by simp [binOp, Op.shift, hn], .rr (.int _ _)⟩
    · rename_i h1 h2
      split at h
      · rename_i hk; subst hk
        obtain ⟨u, hu, hr⟩ := arith_sound (P := P) h h1 h2 w (okB w L l s.co) t
        exact ⟨u, hu, .rr hr⟩
      · cases h
  case str.str x y =>
    obtain ⟨sx, rfl, rfl⟩ := hx.str_inv
    obtain ⟨sy, rfl, rfl⟩ := hy.str_inv
    have hg : (eqGuard op t ox oy (.string sx) (.string sy)).run P w = .ok () w := by unfold eqGuard; split <;> simp
    simp only [Sem.run_bind, hg, Result.andThen_ok]
    split at h <;> try (cases h; done)
    · simp at h; subst h; exact ⟨_, by simp [binOp, Op.stringOp, ByteArray.toList_eq], .rr (.bool _)⟩
    · simp at h; subst h; exact ⟨_, by simp [binOp, Op.stringOp, ByteArray.toList_eq], .rr (.bool _)⟩

theorem run_isAgg {t : TypeId} {d : TypeDesc} (hd : P.underlying t = some d) (w : World) : (isAgg t).run P w = .ok (isAggD d) w := by
  simp only [isAgg, Sem.run_bind, run_underlying hd, Result.andThen_ok]
  cases d <;> rfl

theorem cell_at {b o : Nat} {c : Array Value} {el : TypeId} {fz : Nat × Nat} (hb : w.heap[b]? = some (.cells c el fz)) : w.cell? ⟨b, o, none⟩ = c[o]? := by
  simp [World.cell?, hb]

/-- what a pointer leads to -/
structure Leads (w : World) (L : Nat → Prop) (l : Lay) (c : Co) (e : List V) (off : Nat) (u : Value) : Prop where
  ex : ∃ b base cs el fz, u = .pointer (some ⟨b, base + off, none⟩) ∧ w.heap[b]? = some (.cells cs el fz) ∧ base + e.length ≤ cs.size ∧
    (∀ (j : Nat) (v : V) (x : Value), e[j]? = some v → cs[base + j]? = some x → SV w L l c v x)

theorem cellsAt_sound (h : Rel w L l s a) {va : V} {u : Value} (hv : SV w L l s.co va u) {e : List V} {off : Nat} (he : s.co.cellsAt va = some (e, off)) :
    Leads w L l s.co e off u := by
  cases va <;> simp only [Co.cellsAt] at he <;> try (cases he; done)
  case ptr k sz i o =>
    simp only [Option.bind_eq_some_iff] at he
    obtain ⟨ob, hob, he⟩ := he
    split at he
    · rename_i hsz
      simp only [Option.map_eq_some_iff, Prod.mk.injEq] at he
      obtain ⟨e0, he0, rfl, rfl⟩ := he
      subst hsz
      rcases h.objs k ob hob with ⟨_, _, hn, _⟩ | ⟨b, cs, hl⟩
      · rw [hn] at he0; simp at he0
      · cases hv with
        | rr hr => cases hr
        | ptr hz hk =>
          have hbb : l.ι k = some b := hl.at_
          rw [hbb] at hk; cases hk
          have hi : i < ob.es.length := (List.getElem?_eq_some_iff.1 he0).1
          have hlen := hl.len e0 (List.mem_of_getElem? he0)
          refine ⟨b, i * ob.sz, cs, ob.el, (0, 0), rfl, hl.heap, ?_, fun j v x hj hx => hl.val i e0 j v x he0 hj hx⟩
          rw [hlen, hl.size, ← Nat.succ_mul]
          exact Nat.mul_le_mul_right _ (Nat.lt_of_lt_of_le hi hl.fits)
    · cases he
  case ro br cs =>
    simp only [Option.some.injEq, Prod.mk.injEq] at he
    obtain ⟨rfl, rfl⟩ := he
    cases hv with
    | rr hr =>
      cases hr with
      | ro hok hb hsz hc => exact ⟨_, _, _, _, _, by simp, hb, hsz, fun j v x hj hx => .rr (hc j v x hj hx)⟩
    | bro hok hb hsz hc => exact ⟨_, _, _, _, _, by simp, hb, hsz, hc⟩

theorem sub_sound {e : List V} {off base b : Nat} {cs : Array Value} {el : TypeId} {fz : Nat × Nat} {t : TypeId} {T : Ty} {v : V} (hb : w.heap[b]? = some (.cells cs el fz))
    (hT : ty P t = some T) (hs : subv e off T = some v) (hsz : base + e.length ≤ cs.size)
    (hc : ∀ (j : Nat) (v : V) (x : Value), e[j]? = some v → cs[base + j]? = some x → SV w L l s.co v x) :
    ∃ u, (loadVar t ⟨b, base + off, none⟩).run P w = .ok u w ∧ SV w L l s.co v u := by
  obtain ⟨i, d, z, hi, hd, hz, rfl⟩ := ty_spec hT
  unfold subv at hs
  have hA : (mkTy P i d z).isAgg = isAggD d := rfl
  have hS : (mkTy P i d z).size = i.size := rfl
  rw [hA, hS] at hs
  have loadAll : ∀ (off' : Nat) (f : List V), (∀ j v, f[j]? = some v → e[off' + j]? = some v) → off' + f.length ≤ e.length → f.length = i.size → isAggD d = true →
      ∃ u, (loadVar t ⟨b, base + off', none⟩).run P w = .ok u w ∧ SV w L l s.co (.agg f) u := by
    intro off' f hf hle hlen hag
    refine ⟨.agg ((cs.toList.drop (base + off')).take i.size).toArray, ?_, .agg ?_ ?_⟩
    · simp only [loadVar, Sem.run_bind, run_isAgg hd, Result.andThen_ok, hag, if_true, sizeOf, typeInfo, run_program, hi, Sem.run_pure]
      have hcells : ∀ (j : Nat) (x : Value), ((cs.toList.drop (base + off')).take i.size)[j]? = some x → w.cell? ((⟨b, base + off', none⟩ : Addr).add j) = some x := by
        intro j x hj
        have hadd : (⟨b, base + off', none⟩ : Addr).add j = ⟨b, base + off' + j, none⟩ := by unfold Addr.add; split <;> simp_all
        rw [hadd, cell_at hb]
        rw [List.getElem?_take] at hj
        split at hj
        · simpa using hj
        · cases hj
      have hl2 : ((cs.toList.drop (base + off')).take i.size).length = i.size := by simp; omega
      have := run_loadCells_list (P := P) w ⟨b, base + off', none⟩ _ hcells
      rw [hl2] at this
      simp [this]
    · simp; omega
    · intro j x u hj hu
      have hj' : j < f.length := (List.getElem?_eq_some_iff.1 hj).1
      refine hc (off' + j) x u (hf j x hj) ?_
      simp only [List.getElem?_toArray, List.getElem?_take, List.getElem?_drop] at hu
      rw [if_pos (by omega)] at hu
      rw [← Nat.add_assoc]; simpa using hu
  split at hs
  · rename_i hag
    split at hs
    · rename_i h1
      simp only [Option.some.injEq] at hs; subst hs
      rw [h1.1]
      exact loadAll 0 e (fun j v hj => by simpa using hj) (by omega) (by omega) hag
    · split at hs
      · rename_i h2
        simp only [Option.some.injEq] at hs; subst hs
        refine loadAll off _ (fun j v hj => ?_) (by simp; omega) (by simp; omega) hag
        rw [List.getElem?_take] at hj
        split at hj
        · simpa using hj
        · cases hj
      · cases hs
  · rename_i hag
    have hlt : off < e.length := (List.getElem?_eq_some_iff.1 hs).1
    have hx : base + off < cs.size := by omega
    refine ⟨cs[base + off], ?_, hc off v _ hs (by simp [hx])⟩
    have hag' : isAggD d = false := by simpa using hag
    simp only [loadVar, Sem.run_bind, run_isAgg hd, Result.andThen_ok, hag', Bool.false_eq_true, if_false, run_load, cell_at hb, Array.getElem?_eq_getElem hx]

end Go.Ai

namespace Go.Ai
open Go
variable {P : Program} {w : World} {L : Nat → Prop} {l : Lay} {s : St} {a : Act}

theorem SV.agg_inv {c : Co} {cs : List V} {u : Value} (h : SV w L l c (.agg cs) u) : ∃ us : Array Value, u = .agg us ∧ us.size = cs.length ∧ ∀ (j : Nat) (v : V) (x : Value), cs[j]? = some v → us[j]? = some x → SV w L l c v x := by
  cases h with
  | rr h => cases h with | agg hs hc => exact ⟨_, rfl, hs, fun j v x a b => .rr (hc j v x a b)⟩
  | agg hs hc => exact ⟨_, rfl, hs, hc⟩
theorem SV.tup_inv {c : Co} {cs : List V} {u : Value} (h : SV w L l c (.tup cs) u) : ∃ us : Array Value, u = .tuple us ∧ us.size = cs.length ∧ ∀ (j : Nat) (v : V) (x : Value), cs[j]? = some v → us[j]? = some x → SV w L l c v x := by
  cases h with
  | rr h => cases h
  | tup hs hc => exact ⟨_, rfl, hs, hc⟩
theorem SV.ptr_inv {c : Co} {k sz i off : Nat} {u : Value} (h : SV w L l c (.ptr k sz i off) u) : ∃ b, l.ι k = some b ∧ k ∉ c.z ∧ u = .pointer (some ⟨b, i * sz + off, none⟩) := by
  cases h with
  | rr h => cases h
  | ptr hz hk => exact ⟨_, hk, hz, rfl⟩

theorem SV.row_inv {c : Co} {k sz lo hi : Nat} {u : Value} (h : SV w L l c (.row k sz lo hi) u) :
    (lo = 0 ∧ hi = 0 ∧ k ∉ c.z ∧ l.ι k = none ∧ u = .slice none 0 0) ∨ ∃ b, l.ι k = some b ∧ k ∉ c.z ∧ lo ≤ hi ∧ hi ≤ l.κ k ∧ u = .slice (some ⟨b, lo * sz, none⟩) (hi - lo) (l.κ k - lo) := by
  cases h with
  | rr h => cases h
  | rnil sz hz hk => exact .inl ⟨rfl, rfl, hz, hk, rfl⟩
  | row hz hk hle hc => exact .inr ⟨_, hk, hz, hle, hc, rfl⟩

theorem ro_drop {c : Co} {br : Bool} {cs : List V} {u : Value} (h : SV w L l c (.ro br cs) u) (d : Nat) (hd : d ≤ cs.length) :
    ∃ b o, u = .pointer (some ⟨b, o, none⟩) ∧ SV w L l c (.ro br (cs.drop d)) (.pointer (some ⟨b, o + d, none⟩)) := by
  have get : ∀ (j : Nat) (v : V), (cs.drop d)[j]? = some v → cs[d + j]? = some v := fun j v hj => by simpa using hj
  cases h with
  | rr h =>
    cases h with
    | ro hok hb hsz hc => exact ⟨_, _, rfl, .rr (.ro hok hb (by simp; omega) fun j v x hj hx => hc (d + j) v x (get j v hj) (by rw [← Nat.add_assoc]; exact hx))⟩
  | bro hok hb hsz hc => exact ⟨_, _, rfl, .bro hok hb (by simp; omega) fun j v x hj hx => hc (d + j) v x (get j v hj) (by rw [← Nat.add_assoc]; exact hx)⟩

theorem add_pair (b o n : Nat) : (⟨b, o, none⟩ : Addr).add n = ⟨b, o + n, none⟩ := by unfold Addr.add; split <;> simp_all

theorem slice_elem {c : Co} {br nl : Bool} {sz : Nat} {es : List (List V)} {u : Value} (h : SV w L l c (.sl br nl sz es) u) {i : Nat} {e : List V} (he : es[i]? = some e) :
    ∃ b off cap, u = .slice (some ⟨b, off, none⟩) es.length cap ∧ SV w L l c (.ro br e) (.pointer (some ⟨b, off + i * sz, none⟩)) := by
  have hi : i < es.length := (List.getElem?_eq_some_iff.1 he).1
  have bound : ∀ (off n : Nat), off + es.length * sz ≤ n → e.length = sz → off + i * sz + e.length ≤ n := by
    intro off n h1 h2
    rw [h2]
    have : i * sz + sz ≤ es.length * sz := by rw [← Nat.succ_mul]; exact Nat.mul_le_mul_right _ hi
    omega
  cases h with
  | rr h =>
    cases h with
    | snil => simp at he
    | sl hok hb hnl hcap hsz hlen hc h1 =>
      exact ⟨_, _, _, rfl, .rr (.ro hok hb (bound _ _ hsz (hlen e (List.mem_of_getElem? he))) fun j v x hj hx => hc i e j v x he hj hx)⟩
  | bnil => simp at he
  | bsl hok hb hnl hcap hsz hlen hc h1 =>
    exact ⟨_, _, _, rfl, .bro hok hb (bound _ _ hsz (hlen e (List.mem_of_getElem? he))) fun j v x hj hx => .rr (hc i e j v x he hj hx)⟩

theorem run_indexAt_array {t : TypeId} {n e : Nat} {b o : Nat} {k : IntKind} {i : Int} (hd : P.underlying t = some (.array n e)) (h : 0 ≤ i ∧ i < n) {ie : TypeInfo} (hi : P.info? e = some ie) (w : World) :
    (Instr.indexAt t (.pointer (some ⟨b, o, none⟩)) (.int k i)).run P w = .ok (.pointer (some ⟨b, o + i.toNat * ie.size, none⟩)) w := by
  simp [Instr.indexAt, asIntOf, run_underlying hd, Instr.sureAddr, h, sizeOf, typeInfo, hi, add_pair]

theorem run_indexAt_slice {t : TypeId} {e : Nat} {b o len cap : Nat} {k : IntKind} {i : Int} (hd : P.underlying t = some (.slice e)) (h : 0 ≤ i ∧ i < len) {ie : TypeInfo} (hi : P.info? e = some ie) (w : World) :
    (Instr.indexAt t (.slice (some ⟨b, o, none⟩) len cap) (.int k i)).run P w = .ok (.pointer (some ⟨b, o + i.toNat * ie.size, none⟩)) w := by
  simp [Instr.indexAt, asIntOf, run_underlying hd, h, sizeOf, typeInfo, hi, add_pair]

theorem esz_spec {i : TypeInfo} {d : TypeDesc} {z : Value} (h : (mkTy P i d z).esz ≠ 0) : ∃ e ie, (d = .slice e ∨ ∃ n, d = .array n e) ∧ P.info? e = some ie ∧ (mkTy P i d z).esz = ie.size ∧ (mkTy P i d z).elem = e := by
  cases d <;> simp [mkTy, isSA, Program.cellsOf] at h ⊢
  all_goals
    cases hh : P.info? _ with
    | none => rw [hh] at h; simp at h
    | some ie => exact ⟨ie, rfl, rfl⟩

theorem run_field {t : TypeId} {fs : Array Field} {f : Nat} {fd : Field} (hd : P.underlying t = some (.struct fs)) (hf : fs[f]? = some fd) {ie : TypeInfo} (hi : P.info? fd.type = some ie) (hne : ie.size ≠ 0) (b o : Nat) (w : World) :
    (Instr.fieldAt t (.pointer (some ⟨b, o, none⟩)) f).run P w = .ok (.pointer (some ⟨b, o + fd.offset, none⟩)) w := by
  simp [Instr.fieldAt, run_underlying hd, hf, Instr.sureAddr, fieldPlace, sizeOf, typeInfo, hi, hne, add_pair]

end Go.Ai

namespace Go.Ai
open Go
variable {P : Program} {w : World} {L : Nat → Prop} {l : Lay} {s : St} {a : Act}

/-- the value of an operation: what the model computes, and that it is what AI says -/
def Gives (P : Program) (w : World) (L : Nat → Prop) (l : Lay) (s : St) (a : Act) (o : Oper) (v : V) : Prop :=
  ∃ u, (execOp a.eval o).run P w = .ok (.value u) w ∧ SV w L l s.co v u

theorem isArray_spec {i : TypeInfo} {d : TypeDesc} {z : Value} (h : (mkTy P i d z).isArray = true) : ∃ n e, d = .array n e ∧ (mkTy P i d z).alen = n := by
  cases d <;> simp [mkTy] at h ⊢
theorem isSlice_spec {i : TypeInfo} {d : TypeDesc} {z : Value} (h : (mkTy P i d z).isSlice = true) : ∃ e, d = .slice e := by
  cases d <;> simp [mkTy] at h ⊢
theorem kind_spec {i : TypeInfo} {d : TypeDesc} {z : Value} {k : IntKind} (h : (mkTy P i d z).kind = some k) : d = .int k := by
  cases d <;> simp [mkTy] at h ⊢
  exact h
theorem offs_spec {i : TypeInfo} {d : TypeDesc} {z : Value} {f dd n : Nat} (h : (mkTy P i d z).offs[f]? = some (dd, n)) : ∃ fs fd, d = .struct fs ∧ fs[f]? = some fd ∧ fd.offset = dd ∧ P.cellsOf fd.type = n := by
  cases d <;> simp [mkTy] at h ⊢
  obtain ⟨fd, h1, h2, h3⟩ := h
  exact ⟨fd, h1, h2, h3⟩

theorem give_indexAddr {dst : Option Tmp} {t : TypeId} {x ix : Operand} {typ : TypeId} {pos : String} {after : Array Edge} {g : Option (Nat × Bool)} {v : V} (h : Rel w L l s a)
    (hs : stepVal P s ⟨dst, .indexAddr t x ix, typ, pos, after, g⟩ = some v) : Gives P w L l s a ⟨dst, .indexAddr t x ix, typ, pos, after, g⟩ v := by
  simp only [stepVal, Option.bind_eq_some_iff] at hs
  obtain ⟨T, hT, ⟨k, n⟩, hn, hs⟩ := hs
  obtain ⟨i, d, z, hi, hd, hz, rfl⟩ := ty_spec hT
  have hix : a.eval ix = .int k n := (isInt_spec hn ▸ h.ev ix).int_inv
  have hx := h.ev x
  split at hs
  · cases hs
  rename_i hesz
  obtain ⟨e, ie, hde, hie, he1, _⟩ := esz_spec hesz
  simp only [he1] at hs
  split at hs
  · rename_i harr
    obtain ⟨m, e', rfl, hal⟩ := isArray_spec harr
    have hee : e' = e := by
      rcases hde with h1 | ⟨m', h1⟩
      · cases h1
      · cases h1; rfl
    subst hee
    rw [hal] at hs
    split at hs
    · rename_i hr
      have hrun : ∀ b o, (execOp a.eval ⟨dst, .indexAddr t x ix, typ, pos, after, g⟩).run P w = .ok (.value (.pointer (some ⟨b, o + n.toNat * ie.size, none⟩))) w ∨ a.eval x ≠ .pointer (some ⟨b, o, none⟩) := by
        intro b o
        by_cases hxe : a.eval x = .pointer (some ⟨b, o, none⟩)
        · exact .inl (by simp [execOp, hix, hxe, run_indexAt_array hd hr hie])
        · exact .inr hxe
      split at hs
      · rename_i k' sz i' off hv
        simp only [Option.some.injEq] at hs; subst hs
        rw [hv] at hx
        obtain ⟨b, hb, hz', he⟩ := hx.ptr_inv
        refine ⟨_, (hrun b _).resolve_right (fun hh => hh he), ?_⟩
        rw [Nat.add_assoc]
        exact .ptr hz' hb
      · rename_i br cs hv
        split at hs
        · rename_i hle
          simp only [Option.some.injEq] at hs; subst hs
          rw [hv] at hx
          obtain ⟨b, o, he, hr'⟩ := ro_drop hx (n.toNat * ie.size) hle
          exact ⟨_, (hrun b _).resolve_right (fun hh => hh he), hr'⟩
        · cases hs
      · cases hs
    · cases hs
  · split at hs
    · rename_i hsl
      obtain ⟨e', rfl⟩ := isSlice_spec hsl
      have hee : e' = e := by
        rcases hde with h1 | ⟨m', h1⟩
        · cases h1; rfl
        · cases h1
      subst hee
      split at hs
      · rename_i k' sz lo hi' hv
        split at hs
        · rename_i hr
          simp only [Option.some.injEq] at hs; subst hs
          rw [hv] at hx
          rcases hx.row_inv with ⟨rfl, rfl, _⟩ | ⟨b, hk, hz', hle, _, he⟩
          · simp at hr; omega
          · refine ⟨.pointer (some ⟨b, lo * sz + n.toNat * ie.size, none⟩), ?_, ?_⟩
            · simp only [execOp, hix, he, Sem.run_bind, run_indexAt_slice hd hr.2 hie, Result.andThen_ok, Sem.run_pure]
            · rw [← hr.1, ← Nat.add_mul]
              exact .ptr (off := 0) hz' hk
        · cases hs
      · rename_i br nl sz es hv
        split at hs
        · rename_i hr
          simp only [Option.map_eq_some_iff] at hs
          obtain ⟨e0, he0, rfl⟩ := hs
          rw [hv] at hx
          obtain ⟨b, off, cap, he, hro⟩ := slice_elem hx he0
          have hlt : n.toNat < es.length := (List.getElem?_eq_some_iff.1 he0).1
          have hlt2 : n < (es.length : Int) := by omega
          refine ⟨_, ?_, hr.1 ▸ hro⟩
          simp only [execOp, hix, he, Sem.run_bind, run_indexAt_slice hd ⟨hr.2, hlt2⟩ hie, Result.andThen_ok, Sem.run_pure]
        · cases hs
      · cases hs
    · cases hs

theorem give_fieldAddr {dst : Option Tmp} {t : TypeId} {x : Operand} {f : Nat} {typ : TypeId} {pos : String} {after : Array Edge} {g : Option (Nat × Bool)} {v : V} (h : Rel w L l s a)
    (hs : stepVal P s ⟨dst, .fieldAddr t x f, typ, pos, after, g⟩ = some v) : Gives P w L l s a ⟨dst, .fieldAddr t x f, typ, pos, after, g⟩ v := by
  simp only [stepVal, Option.bind_eq_some_iff] at hs
  obtain ⟨T, hT, ⟨dd, n⟩, ho, hs⟩ := hs
  obtain ⟨i, d, z, hi, hd, hz, rfl⟩ := ty_spec hT
  obtain ⟨fs, fd, rfl, hf, rfl, hn⟩ := offs_spec ho
  have hx := h.ev x
  split at hs
  · cases hs
  rename_i hn0
  cases hinfo : P.info? fd.type with
  | none => rw [Program.cellsOf, hinfo] at hn; simp at hn; exact absurd hn.symm hn0
  | some ie =>
    have hie : ie.size ≠ 0 := by rw [Program.cellsOf, hinfo] at hn; simp at hn; omega
    split at hs
    · rename_i k' sz i' off hv
      simp only [Option.some.injEq] at hs; subst hs
      rw [hv] at hx
      obtain ⟨b, hb, hz', he⟩ := hx.ptr_inv
      refine ⟨_, by simp only [execOp, he, Sem.run_bind, run_field hd hf hinfo hie, Result.andThen_ok, Sem.run_pure]; rfl, ?_⟩
      rw [Nat.add_assoc]
      exact .ptr hz' hb
    · rename_i br cs hv
      split at hs
      · rename_i hle
        simp only [Option.some.injEq] at hs; subst hs
        rw [hv] at hx
        obtain ⟨b, o, he, hr'⟩ := ro_drop hx fd.offset hle
        exact ⟨_, by simp only [execOp, he, Sem.run_bind, run_field hd hf hinfo hie, Result.andThen_ok, Sem.run_pure], hr'⟩
      · cases hs
    · cases hs

end Go.Ai

namespace Go.Ai
open Go
variable {P : Program} {w : World} {L : Nat → Prop} {l : Lay} {s : St} {a : Act}

theorem subv_part {cs : List V} {us : Array Value} {off : Nat} {t : TypeId} {T : Ty} {v : V} (hT : ty P t = some T) (hs : subv cs off T = some v) (hsz : us.size = cs.length)
    (hc : ∀ (j : Nat) (v : V) (x : Value), cs[j]? = some v → us[j]? = some x → SV w L l s.co v x) :
    ∃ u, (part t us off).run P w = .ok u w ∧ SV w L l s.co v u := by
  obtain ⟨i, d, z, hi, hd, hz, rfl⟩ := ty_spec hT
  unfold subv at hs
  have hA : (mkTy P i d z).isAgg = isAggD d := rfl
  have hS : (mkTy P i d z).size = i.size := rfl
  rw [hA, hS] at hs
  have all : ∀ (f : List V), (∀ j v, f[j]? = some v → cs[off + j]? = some v) → off + f.length ≤ cs.length → f.length = i.size → isAggD d = true →
      ∃ u, (part t us off).run P w = .ok u w ∧ SV w L l s.co (.agg f) u := by
    intro f hf hle hlen hag
    refine ⟨.agg (us.extract off (off + i.size)), ?_, .agg (by simp; omega) ?_⟩
    · simp only [part, Sem.run_bind, run_isAgg hd, Result.andThen_ok, hag, if_true, sizeOf, typeInfo, run_program, hi, Sem.run_pure]
    · intro j x u hj hu
      have hj' : j < f.length := (List.getElem?_eq_some_iff.1 hj).1
      refine hc (off + j) x u (hf j x hj) ?_
      rw [Array.getElem?_extract] at hu
      split at hu
      · exact hu
      · cases hu
  split at hs
  · rename_i hag
    split at hs
    · rename_i h1
      simp only [Option.some.injEq] at hs; subst hs
      exact all cs (fun j v hj => by rw [h1.1]; simpa using hj) (by omega) (by omega) hag
    · split at hs
      · rename_i h2
        simp only [Option.some.injEq] at hs; subst hs
        refine all _ (fun j v hj => ?_) (by simp; omega) (by simp; omega) hag
        rw [List.getElem?_take] at hj
        split at hj
        · simpa using hj
        · cases hj
      · cases hs
  · rename_i hag
    have hlt : off < cs.length := (List.getElem?_eq_some_iff.1 hs).1
    have hx : off < us.size := by omega
    have hag' : isAggD d = false := by simpa using hag
    refine ⟨us[off], ?_, hc off v _ hs (by simp [hx])⟩
    simp only [part, Sem.run_bind, run_isAgg hd, Result.andThen_ok, hag', Bool.false_eq_true, if_false, Array.getElem?_eq_getElem hx, Sem.run_pure]

theorem give_index {dst : Option Tmp} {t : TypeId} {x ix : Operand} {typ : TypeId} {pos : String} {after : Array Edge} {g : Option (Nat × Bool)} {v : V} (h : Rel w L l s a)
    (hs : stepVal P s ⟨dst, .index t x ix, typ, pos, after, g⟩ = some v) : Gives P w L l s a ⟨dst, .index t x ix, typ, pos, after, g⟩ v := by
  simp only [stepVal, Option.bind_eq_some_iff] at hs
  obtain ⟨T, hT, ⟨k, n⟩, hn, hs⟩ := hs
  obtain ⟨i, d, z, hi, hd, hz, rfl⟩ := ty_spec hT
  have hix : a.eval ix = .int k n := (isInt_spec hn ▸ h.ev ix).int_inv
  have hx := h.ev x
  split at hs
  · rename_i cs hv
    rw [hv] at hx
    obtain ⟨us, he, hsz, hc⟩ := hx.agg_inv
    split at hs
    · rename_i hr
      obtain ⟨harr, hesz, hr⟩ := hr
      obtain ⟨e, ie, hde, hie, he1, hel⟩ := esz_spec hesz
      obtain ⟨m, e', rfl, hal⟩ := isArray_spec harr
      have hee : e' = e := by
        rcases hde with h1 | ⟨m', h1⟩
        · cases h1
        · cases h1; rfl
      subst hee
      simp only [Option.bind_eq_some_iff] at hs
      obtain ⟨E, hE, hs⟩ := hs
      rw [hel] at hE
      obtain ⟨u, hu, hvr⟩ := subv_part (P := P) (w := w) hE hs hsz hc
      rw [hal] at hr
      refine ⟨u, ?_, hvr⟩
      rw [he1] at hu
      simp [execOp, hix, he, Instr.index, asIntOf, run_underlying hd, hr, sizeOf, typeInfo, hie, hu]
    · cases hs
  · cases hs

def lowM (lo : Option Value) (m : Nat) : Sem Nat := match lo with | some v => Instr.sliceBound v m .sliceB | none => pure 0
def highM (hi : Option Value) (len cap : Nat) : Sem Nat := match hi with | some v => Instr.sliceBound v cap .sliceAcap | none => pure len

theorem run_sliceAt {t e : TypeId} {ie : TypeInfo} (hd : P.underlying t = some (.slice e)) (hie : P.info? e = some ie) {lo hi : Option Value} {ad : Option Addr} {len cap n b : Nat} {w : World}
    (hlow : (lowM lo b).run P w = .ok n w) (hhigh : (highM hi len cap).run P w = .ok b w) :
    (Instr.sliceAt t (.slice ad len cap) lo hi none).run P w = .ok (.slice (if cap = n then ad else ad.map (·.add (n * ie.size))) (b - n) (cap - n)) w := by
  have hb : (Instr.sliceBounds true len cap lo hi none).run P w = .ok (n, b, cap) w := by
    unfold Instr.sliceBounds
    simp only [Sem.run_bind, Sem.run_pure, Result.andThen_ok]
    cases lo <;> cases hi <;> simp_all [lowM, highM]
  simp [Instr.sliceAt, run_underlying hd, Instr.slice, hb, sizeOf, typeInfo, hie]

theorem lowB_sound (h : Rel w L l s a) {lo : Option Operand} {n m : Nat} (hn : lowB s lo = some n) (hle : n ≤ m) : (lowM (lo.map a.eval) m).run P w = .ok n w := by
  cases lo with
  | none => simp [lowB] at hn; subst hn; rfl
  | some y =>
    simp only [lowB] at hn
    split at hn
    · rename_i k q hq
      split at hn
      · rename_i h0
        simp only [Option.some.injEq] at hn; subst hn
        have hy : a.eval y = .int k q := (isInt_spec hq ▸ h.ev y).int_inv
        have : q ≤ (m : Int) := by omega
        simp [lowM, hy, Instr.sliceBound, asIntOf, h0, this]
      · cases hn
    · cases hn

theorem highB_sound (h : Rel w L l s a) {hi : Option Operand} {n len cap : Nat} (hn : highB s hi len = some n) (hle : len ≤ cap) : (highM (hi.map a.eval) len cap).run P w = .ok n w ∧ n ≤ len := by
  cases hi with
  | none => simp [highB] at hn; subst hn; exact ⟨rfl, Nat.le_refl _⟩
  | some y =>
    simp only [highB] at hn
    split at hn
    · rename_i k q hq
      split at hn
      · rename_i h0
        simp only [Option.some.injEq] at hn; subst hn
        have hy : a.eval y = .int k q := (isInt_spec hq ▸ h.ev y).int_inv
        have : q ≤ (cap : Int) := by omega
        exact ⟨by simp [highM, hy, Instr.sliceBound, asIntOf, h0, this], h0.2⟩
      · cases hn
    · cases hn

theorem slice_sub {c : Co} {br nl : Bool} {sz n b : Nat} {es : List (List V)} {u : Value} (hx : SV w L l c (.sl br nl sz es) u) (hab : n ≤ b) (hbl : b ≤ es.length) :
    ∃ ad cap, u = .slice ad es.length cap ∧ es.length ≤ cap ∧ SV w L l c (.sl br (nl && es.isEmpty) sz ((es.drop n).take (b - n))) (.slice (if cap = n then ad else ad.map (·.add (n * sz))) (b - n) (cap - n)) := by
  have get : ∀ (q : Nat) (e : List V), ((es.drop n).take (b - n))[q]? = some e → es[n + q]? = some e := by
    intro q e hq
    rw [List.getElem?_take] at hq
    split at hq
    · simpa using hq
    · cases hq
  have hlen2 : ((es.drop n).take (b - n)).length = b - n := by simp; omega
  have mem : ∀ e ∈ (es.drop n).take (b - n), e ∈ es := fun e he => List.mem_of_mem_drop (List.mem_of_mem_take he)
  generalize (es.drop n).take (b - n) = es' at *
  -- where it lies
  have addr : ∀ (b1 off cap : Nat), ∃ off', (if cap = n then some (⟨b1, off, none⟩ : Addr) else (some (⟨b1, off, none⟩ : Addr)).map (·.add (n * sz))) = some ⟨b1, off', none⟩ ∧ (off' = off + n * sz ∨ (cap = n ∧ off' = off)) := by
    intro b1 off cap
    by_cases hq : cap = n
    · exact ⟨off, by simp [hq], .inr ⟨hq, rfl⟩⟩
    · exact ⟨off + n * sz, by simp [hq, add_pair], .inl rfl⟩
  have room : ∀ {off off' cap size : Nat}, es.length ≤ cap → off + es.length * sz ≤ size → (off' = off + n * sz ∨ (cap = n ∧ off' = off)) → off' + es'.length * sz ≤ size := by
    intro off off' cap size hcap hsize ho
    rw [hlen2]
    have h1 : (b - n) * sz + n * sz ≤ es.length * sz := by rw [← Nat.add_mul]; exact Nat.mul_le_mul_right _ (by omega)
    rcases ho with rfl | ⟨rfl, rfl⟩
    · omega
    · have : b - cap = 0 := by omega
      rw [this]; omega
  have place : ∀ {off off' cap q j : Nat} {e : List V}, es.length ≤ cap → (off' = off + n * sz ∨ (cap = n ∧ off' = off)) → es'[q]? = some e → off' + q * sz + j = off + (n + q) * sz + j := by
    intro off off' cap q j e hcap ho hq
    rcases ho with rfl | ⟨rfl, rfl⟩
    · rw [Nat.add_mul]; omega
    · have : q < es'.length := (List.getElem?_eq_some_iff.1 hq).1
      rw [hlen2] at this; omega
  have nilcase : es = [] → n = 0 ∧ b = 0 := by
    intro h; subst h
    have hb0 : b = 0 := by simpa using hbl
    exact ⟨by omega, hb0⟩
  cases hx with
  | rr hx =>
    cases hx with
    | snil =>
      obtain ⟨rfl, rfl⟩ := nilcase rfl
      have : es' = [] := List.eq_nil_of_length_eq_zero hlen2
      subst this
      exact ⟨none, 0, rfl, Nat.le_refl _, by simpa using .rr (.snil sz)⟩
    | sl hok hb1 hnl hcap hsz hlen hc h1 =>
      rename_i b1 off cap c0 el fz
      obtain ⟨off', e1, ho⟩ := addr b1 off cap
      refine ⟨_, cap, rfl, hcap, ?_⟩
      rw [e1, ← hlen2]
      refine .rr (.sl hok hb1 ?_ ?_ (room hcap hsz ho) (fun e he => hlen e (mem e he)) ?_ ?_)
      · intro hh
        simp only [Bool.and_eq_true, List.isEmpty_iff] at hh
        exact absurd hh.2 (hnl hh.1)
      · rw [hlen2]; omega
      · intro q e j v x hq hj hx
        rw [place (j := j) hcap ho hq] at hx
        exact hc (n + q) e j v x (get q e hq) hj hx
      · intro q e j v x hq hj hx
        rw [place (j := j) hcap ho hq] at hx
        exact h1 (n + q) e j v x (get q e hq) hj hx
  | bnil =>
    obtain ⟨rfl, rfl⟩ := nilcase rfl
    have : es' = [] := List.eq_nil_of_length_eq_zero hlen2
    subst this
    exact ⟨none, 0, rfl, Nat.le_refl _, by simpa using .bnil sz⟩
  | bsl hok hb1 hnl hcap hsz hlen hc h1 =>
    rename_i b1 off cap c0 el fz
    obtain ⟨off', e1, ho⟩ := addr b1 off cap
    refine ⟨_, cap, rfl, hcap, ?_⟩
    rw [e1, ← hlen2]
    refine .bsl hok hb1 ?_ ?_ (room hcap hsz ho) (fun e he => hlen e (mem e he)) ?_ ?_
    · intro hh
      simp only [Bool.and_eq_true, List.isEmpty_iff] at hh
      exact absurd hh.2 (hnl hh.1)
    · rw [hlen2]; omega
    · intro q e j v x hq hj hx
      rw [place (j := j) hcap ho hq] at hx
      exact hc (n + q) e j v x (get q e hq) hj hx
    · intro q e j v x hq hj hx
      rw [place (j := j) hcap ho hq] at hx
      exact h1 (n + q) e j v x (get q e hq) hj hx

theorem give_slice {dst : Option Tmp} {t : TypeId} {x : Operand} {lo hi : Option Operand} {typ : TypeId} {pos : String} {after : Array Edge} {g : Option (Nat × Bool)} {v : V} (h : Rel w L l s a)
    (hs : stepVal P s ⟨dst, .slice t x lo hi none, typ, pos, after, g⟩ = some v) : Gives P w L l s a ⟨dst, .slice t x lo hi none, typ, pos, after, g⟩ v := by
  simp only [stepVal, Option.bind_eq_some_iff] at hs
  obtain ⟨T, hT, hs⟩ := hs
  obtain ⟨i, d, z, hi', hd, hz, rfl⟩ := ty_spec hT
  split at hs
  · cases hs
  rename_i hsl
  obtain ⟨e, rfl⟩ := isSlice_spec (by simpa using hsl)
  have hx := h.ev x
  simp only [Option.bind_eq_some_iff] at hs
  obtain ⟨n, hn, hs⟩ := hs
  have fin : ∀ (ad : Option Addr) (len cap b : Nat) (ie : TypeInfo), a.eval x = .slice ad len cap → P.info? e = some ie →
      highB s hi len = some b → n ≤ b → len ≤ cap →
      (execOp a.eval ⟨dst, .slice t x lo hi none, typ, pos, after, g⟩).run P w = .ok (.value (.slice (if cap = n then ad else ad.map (·.add (n * ie.size))) (b - n) (cap - n))) w := by
    intro ad len cap b ie he hie hb hle hcap
    have h2 := highB_sound (P := P) h hb hcap
    simp only [execOp, he, Option.map_none, Sem.run_bind, run_sliceAt hd hie (lowB_sound h hn hle) h2.1, Result.andThen_ok, Sem.run_pure]
  have hesz : ∀ {sz : Nat}, sz = (mkTy P i (.slice e) z).esz → sz ≠ 0 → ∃ ie, P.info? e = some ie ∧ sz = ie.size := by
    intro sz h1 h2
    obtain ⟨e', ie, hde, hie, he1, _⟩ := esz_spec (P := P) (i := i) (d := .slice e) (z := z) (by rw [← h1]; exact h2)
    have hee : e' = e := by
      rcases hde with h3 | ⟨m', h3⟩
      · cases h3; rfl
      · cases h3
    exact ⟨ie, hee ▸ hie, h1.trans he1⟩
  split at hs
  · rename_i k sz lo' hi' hv
    simp only [Option.bind_eq_some_iff] at hs
    obtain ⟨b, hb, hs⟩ := hs
    split at hs
    · rename_i hc
      simp only [Option.some.injEq] at hs; subst hs
      obtain ⟨hab, hbh, hsz, hs0⟩ := hc
      obtain ⟨ie, hie, hsz'⟩ := hesz hsz hs0
      rw [hv] at hx
      rcases hx.row_inv with ⟨rfl, rfl, hz', hk, he⟩ | ⟨b0, hk, hz', hle, hc', he⟩
      · have hb0 : b = 0 := by omega
        have hn0 : n = 0 := by omega
        subst hb0; subst hn0
        exact ⟨_, fin none 0 0 0 ie he hie hb (Nat.le_refl _) (Nat.le_refl _), by simp; exact .rnil sz hz' hk⟩
      · refine ⟨_, fin _ _ _ b ie he hie hb (by omega) (by omega), ?_⟩
        have e1 : (if l.κ k - lo' = n then some (⟨b0, lo' * sz, none⟩ : Addr) else (some (⟨b0, lo' * sz, none⟩ : Addr)).map (·.add (n * ie.size))) = some ⟨b0, (lo' + n) * sz, none⟩ := by
          split
          · have : n = 0 := by omega
            subst this; rfl
          · simp [add_pair, hsz', Nat.add_mul]
        have e2 : l.κ k - lo' - n = l.κ k - (lo' + n) := by omega
        have e3 : b - n = (lo' + b) - (lo' + n) := by omega
        rw [e1, e2, e3]
        exact .row hz' hk (by omega) (by omega)
    · cases hs
  · rename_i br nl sz es hv
    simp only [Option.bind_eq_some_iff] at hs
    obtain ⟨b, hb, hs⟩ := hs
    split at hs
    · rename_i hc
      simp only [Option.some.injEq] at hs; subst hs
      obtain ⟨hab, hsz, hs0⟩ := hc
      obtain ⟨ie, hie, hsz'⟩ := hesz hsz hs0
      rw [hv] at hx
      have hbl : b ≤ es.length := (highB_sound (P := P) h hb (Nat.le_refl _)).2
      obtain ⟨ad, cap, he, hcap, hr⟩ := slice_sub hx hab hbl
      refine ⟨_, fin ad es.length cap b ie he hie hb hab hcap, ?_⟩
      rw [← hsz']; exact hr
    · cases hs
  · cases hs

end Go.Ai

namespace Go.Ai
open Go
variable {P : Program} {w : World} {L : Nat → Prop} {l : Lay} {s : St} {a : Act}

theorem isBool_spec {i : TypeInfo} {d : TypeDesc} {z : Value} (h : (mkTy P i d z).isBool = true) : d = .bool := by
  cases d <;> simp [mkTy] at h ⊢
theorem isPtr_spec {i : TypeInfo} {d : TypeDesc} {z : Value} (h : (mkTy P i d z).isPtr = true) : ∃ e, d = .pointer e := by
  cases d <;> simp [mkTy] at h ⊢

theorem SV.sl_shape {c : Co} {br nl : Bool} {sz : Nat} {es : List (List V)} {u : Value} (h : SV w L l c (.sl br nl sz es) u) :
    (u = .slice none 0 0 ∧ nl = true ∧ es = []) ∨ ∃ ad cap, u = .slice (some ad) es.length cap ∧ (nl && es.isEmpty) = false := by
  have aux : (nl = true → es ≠ []) → (nl && es.isEmpty) = false := by
    intro h
    cases nl with
    | false => rfl
    | true => simpa using h rfl
  cases h with
  | rr h =>
    cases h with
    | snil => exact .inl ⟨rfl, rfl, rfl⟩
    | sl hok hb hnl hcap hsz hlen hc h1 => exact .inr ⟨_, _, rfl, aux hnl⟩
  | bnil => exact .inl ⟨rfl, rfl, rfl⟩
  | bsl hok hb hnl hcap hsz hlen hc h1 => exact .inr ⟨_, _, rfl, aux hnl⟩

theorem SV.ro_shape {c : Co} {br : Bool} {cs : List V} {u : Value} (h : SV w L l c (.ro br cs) u) : ∃ ad, u = .pointer (some ad) := by
  cases h with
  | rr h => cases h; exact ⟨_, rfl⟩
  | bro => exact ⟨_, rfl⟩

theorem eqv_sound {x y : V} {ux uy : Value} {b : Bool} {t : TypeId} {i : TypeInfo} {d : TypeDesc} {z : Value} (h : eqv (mkTy P i d z) x y = some b) (hx : SV w L l s.co x ux) (hy : SV w L l s.co y uy)
    (hd : P.underlying t = some d) (op : BinOp) (ho : op = .eql ∨ op = .neq) (ox oy : Operand) :
    (do eqGuard op t ox oy ux uy; binOp op t ux uy : Sem Value).run P w = .ok (.bool (if op = .eql then b else !b)) w := by
  have main : ∀ (g : (eqGuard op t ox oy ux uy).run P w = .ok () w) (e : ∀ n, (Op.equalIn (n + 1) t ux uy).run P w = .ok b w)
      (hb : binOp .eql t ux uy = (do pure (.bool (← Op.equal t ux uy))) ∧ binOp .neq t ux uy = (do pure (.bool (!(← Op.equal t ux uy))))),
      (do eqGuard op t ox oy ux uy; binOp op t ux uy : Sem Value).run P w = .ok (.bool (if op = .eql then b else !b)) w := by
    intro g e hb
    have e' : (Op.equal t ux uy).run P w = .ok b w := e 9999
    rcases ho with rfl | rfl
    · rw [hb.1]; simp [g, e']
    · rw [hb.2]; simp [g, e']
  have guard : (∀ cs ds, ux = .agg cs → uy = .agg ds → False) → (ux = .nilIface → uy = .nilIface → False) → (eqGuard op t ox oy ux uy).run P w = .ok () w := by
    intro h1 h2
    rcases ho with rfl | rfl
    all_goals
      unfold eqGuard
      simp only [Bool.not_true, Bool.false_eq_true, if_false]
      first
        | rfl
        | (split
           · exact absurd (h2 rfl rfl) id
           · exact absurd (h1 _ _ rfl rfl) id
           · rfl)
  cases x <;> cases y <;> simp only [eqv] at h <;> try (cases h; done)
  case bool.bool p q =>
    split at h
    · rename_i hT
      obtain rfl := isBool_spec hT
      simp only [Option.some.injEq] at h; subst h
      obtain rfl := hx.bool_inv
      obtain rfl := hy.bool_inv
      exact main (guard (by simp) (by simp)) (fun n => by simp [Op.equalIn, run_underlying hd]) ⟨rfl, rfl⟩
    · cases h
  case nilp.nilp =>
    split at h
    · rename_i hT
      obtain ⟨e, rfl⟩ := isPtr_spec hT
      simp only [Option.some.injEq] at h; subst h
      obtain rfl := hx.nilp_inv
      obtain rfl := hy.nilp_inv
      exact main (guard (by simp) (by simp)) (fun n => by simp [Op.equalIn, run_underlying hd]) ⟨rfl, rfl⟩
    · cases h
  case ptr.nilp =>
    split at h
    · rename_i hT
      obtain ⟨e, rfl⟩ := isPtr_spec hT
      simp only [Option.some.injEq] at h; subst h
      obtain ⟨_, _, _, rfl⟩ := hx.ptr_inv
      obtain rfl := hy.nilp_inv
      exact main (guard (by simp) (by simp)) (fun n => by simp [Op.equalIn, run_underlying hd]) ⟨rfl, rfl⟩
    · cases h
  case nilp.ptr =>
    split at h
    · rename_i hT
      obtain ⟨e, rfl⟩ := isPtr_spec hT
      simp only [Option.some.injEq] at h; subst h
      obtain ⟨_, _, _, rfl⟩ := hy.ptr_inv
      obtain rfl := hx.nilp_inv
      exact main (guard (by simp) (by simp)) (fun n => by simp [Op.equalIn, run_underlying hd]) ⟨rfl, rfl⟩
    · cases h
  case ro.nilp =>
    split at h
    · rename_i hT
      obtain ⟨e, rfl⟩ := isPtr_spec hT
      simp only [Option.some.injEq] at h; subst h
      obtain ⟨_, rfl⟩ := hx.ro_shape
      obtain rfl := hy.nilp_inv
      exact main (guard (by simp) (by simp)) (fun n => by simp [Op.equalIn, run_underlying hd]) ⟨rfl, rfl⟩
    · cases h
  case nilp.ro =>
    split at h
    · rename_i hT
      obtain ⟨e, rfl⟩ := isPtr_spec hT
      simp only [Option.some.injEq] at h; subst h
      obtain ⟨_, rfl⟩ := hy.ro_shape
      obtain rfl := hx.nilp_inv
      exact main (guard (by simp) (by simp)) (fun n => by simp [Op.equalIn, run_underlying hd]) ⟨rfl, rfl⟩
    · cases h
  case sl.sl br nl sz es br' nl' sz' es' =>
    cases br' <;> cases nl' <;> cases es' <;> simp only at h <;> try (cases h; done)
    split at h
    · rename_i hT
      obtain ⟨e, rfl⟩ := isSlice_spec hT
      simp only [Option.some.injEq] at h; subst h
      have hy' : uy = .slice none 0 0 := by
        rcases hy.sl_shape with ⟨h1, _⟩ | ⟨ad, cap, h1, h2⟩
        · exact h1
        · simp_all
      subst hy'
      rcases hx.sl_shape with ⟨rfl, h1, h2⟩ | ⟨ad, cap, rfl, h2⟩
      · exact main (guard (by simp) (by simp)) (fun n => by simp [Op.equalIn, run_underlying hd, h1, h2]) ⟨rfl, rfl⟩
      · exact main (guard (by simp) (by simp)) (fun n => by simp [Op.equalIn, run_underlying hd, h2]) ⟨rfl, rfl⟩
    · cases h

end Go.Ai

namespace Go.Ai
open Go
variable {P : Program} {w : World} {L : Nat → Prop} {l : Lay} {s : St} {a : Act}

theorem isStr_spec {i : TypeInfo} {d : TypeDesc} {z : Value} (h : (mkTy P i d z).isStr = true) : d = .string := by
  cases d <;> simp [mkTy] at h ⊢

theorem minV_sound (h : Rel w L l s a) : ∀ (r : List Operand) (k : IntKind) (x : Int) (v : V), minV (.int k x) (r.map (ev s)) = some v →
    ∃ y, v = .int k y ∧ ((r.map a.eval).foldlM Builtin.min2 (.int k x)).run P w = .ok (.int k y) w := by
  intro r
  induction r with
  | nil => intro k x v hv; simp [minV] at hv; exact ⟨x, hv.symm, rfl⟩
  | cons o r ih =>
    intro k x v hv
    simp only [List.map_cons] at hv ⊢
    cases ho : ev s o <;> rw [ho] at hv <;> simp only [minV] at hv <;> try (cases hv; done)
    rename_i k' y
    obtain ⟨z, h1, h2⟩ := ih k _ v hv
    have he : a.eval o = .int k' y := (ho ▸ h.ev o).int_inv
    exact ⟨z, h1, by simp only [he, List.foldlM_cons, Builtin.min2, Sem.run_bind, Sem.run_pure, Result.andThen_ok]; exact h2⟩

theorem maxV_sound (h : Rel w L l s a) : ∀ (r : List Operand) (k : IntKind) (x : Int) (v : V), maxV (.int k x) (r.map (ev s)) = some v →
    ∃ y, v = .int k y ∧ ((r.map a.eval).foldlM Builtin.max2 (.int k x)).run P w = .ok (.int k y) w := by
  intro r
  induction r with
  | nil => intro k x v hv; simp [maxV] at hv; exact ⟨x, hv.symm, rfl⟩
  | cons o r ih =>
    intro k x v hv
    simp only [List.map_cons] at hv ⊢
    cases ho : ev s o <;> rw [ho] at hv <;> simp only [maxV] at hv <;> try (cases hv; done)
    rename_i k' y
    obtain ⟨z, h1, h2⟩ := ih k _ v hv
    have he : a.eval o = .int k' y := (ho ▸ h.ev o).int_inv
    exact ⟨z, h1, by simp only [he, List.foldlM_cons, Builtin.max2, Sem.run_bind, Sem.run_pure, Result.andThen_ok]; exact h2⟩

theorem minV_int {x : V} {r : List V} {v : V} (h : minV x r = some v) : ∃ k n, x = .int k n := by
  cases x <;> cases r <;> simp [minV] at h ⊢
theorem maxV_int {x : V} {r : List V} {v : V} (h : maxV x r = some v) : ∃ k n, x = .int k n := by
  cases x <;> cases r <;> simp [maxV] at h ⊢

theorem give_builtin {dst : Option Tmp} {c : Call} {b : Builtin} {typ : TypeId} {pos : String} {after : Array Edge} {g : Option (Nat × Bool)} {v : V} (h : Rel w L l s a)
    (hc : c.callee = .builtin b) (hs : callVal P s b c.args.toList c.argTypes.toList = some v) : Gives P w L l s a ⟨dst, .call c, typ, pos, after, g⟩ v := by
  obtain ⟨callee, args, ts⟩ := c
  simp only at hc hs; subst hc
  have hargs : ∀ l, args.toList = l → args = l.toArray := fun l hl => by rw [← hl]
  have hts : ∀ l, ts.toList = l → ts = l.toArray := fun l hl => by rw [← hl]
  have run : ∀ u, (∀ cs, (builtin b ts typ cs (args.map a.eval)).run P w = .ok (.value u) w) →
      (execOp a.eval ⟨dst, .call ⟨.builtin b, args, ts⟩, typ, pos, after, g⟩).run P w = .ok (.value u) w := by
    intro u hu
    simp only [execOp, resolve, Sem.run_bind, Sem.run_pure, Result.andThen_ok, invoke]
    exact hu _
  unfold callVal at hs
  split at hs
  · rename_i x t hx ht
    obtain rfl := hargs _ hx
    obtain rfl := hts _ ht
    simp only [Option.bind_eq_some_iff] at hs
    obtain ⟨T, hT, hs⟩ := hs
    obtain ⟨i, d, z, hi, hd, hz, rfl⟩ := ty_spec hT
    have hxr := h.ev x
    split at hs
    · rename_i hsl
      obtain ⟨e, rfl⟩ := isSlice_spec hsl
      split at hs
      · rename_i k sz lo hi' hv
        simp only [Option.some.injEq] at hs; subst hs
        rw [hv] at hxr
        refine ⟨.int .i64 ((hi' - lo : Nat) : Int), run _ (fun cs => ?_), .rr (.int _ _)⟩
        rcases hxr.row_inv with ⟨rfl, rfl, _, _, he⟩ | ⟨b0, _, _, _, _, he⟩ <;>
          simp [builtin, Builtin.len_, run_underlying hd, he, goInt]
      · rename_i br nl sz es hv
        simp only [Option.some.injEq] at hs; subst hs
        rw [hv] at hxr
        refine ⟨.int .i64 (es.length : Int), run _ (fun cs => ?_), .rr (.int _ _)⟩
        rcases hxr.sl_shape with ⟨he, _, hn⟩ | ⟨ad, cap, he, _⟩
        · simp [builtin, Builtin.len_, run_underlying hd, he, goInt, hn]
        · simp [builtin, Builtin.len_, run_underlying hd, he, goInt]
      · cases hs
    · split at hs
      · rename_i hst
        obtain rfl := isStr_spec hst
        split at hs
        · rename_i bs hv
          simp only [Option.some.injEq] at hs; subst hs
          rw [hv] at hxr
          obtain ⟨q, rfl, he⟩ := hxr.str_inv
          refine ⟨.int .i64 (q.size : Int), run _ (fun cs => ?_), ?_⟩
          · simp [builtin, Builtin.len_, run_underlying hd, he, goInt]
          · have : q.data.toList.length = q.size := by rw [Array.length_toList]; rfl
            rw [this]; exact .rr (.int _ _)
        · cases hs
      · cases hs
  · rename_i x r hx
    obtain rfl := hargs _ hx
    obtain ⟨k, n, hxe⟩ := minV_int hs
    rw [hxe] at hs
    obtain ⟨y, rfl, hr⟩ := minV_sound (P := P) h r k n v hs
    have he : a.eval x = .int k n := (hxe ▸ h.ev x).int_inv
    refine ⟨_, run _ (fun cs => ?_), .rr (.int _ _)⟩
    simp [builtin, Builtin.min_, he, hr]
  · rename_i x r hx
    obtain rfl := hargs _ hx
    obtain ⟨k, n, hxe⟩ := maxV_int hs
    rw [hxe] at hs
    obtain ⟨y, rfl, hr⟩ := maxV_sound (P := P) h r k n v hs
    have he : a.eval x = .int k n := (hxe ▸ h.ev x).int_inv
    refine ⟨_, run _ (fun cs => ?_), .rr (.int _ _)⟩
    simp [builtin, Builtin.max_, he, hr]
  · cases hs

end Go.Ai

namespace Go.Ai
open Go
variable {P : Program} {w : World} {L : Nat → Prop} {l : Lay} {s : St} {a : Act}

theorem evs_sound (h : Rel w L l s a) (xs : Array Operand) : ∀ (j : Nat) (v : V) (u : Value), (xs.toList.map (ev s))[j]? = some v → (xs.map a.eval)[j]? = some u → SV w L l s.co v u := by
  intro j v u hv hu
  simp only [List.getElem?_map, Option.map_eq_some_iff, Array.getElem?_map, Array.getElem?_toList] at hv hu
  obtain ⟨x, hx, rfl⟩ := hv
  obtain ⟨y, hy, rfl⟩ := hu
  rw [hx] at hy; cases hy
  exact h.ev x

theorem stepVal_sound {o : Oper} {v : V} (h : Rel w L l s a) (hs : stepVal P s o = some v) : Gives P w L l s a o v := by
  obtain ⟨dst, op, typ, pos, after, g⟩ := o
  cases op
  case move x => simp only [stepVal, Option.some.injEq] at hs; subst hs; exact ⟨_, rfl, h.ev x⟩
  case assign x => simp only [stepVal, Option.some.injEq] at hs; subst hs; exact ⟨_, rfl, h.ev x⟩
  case pick c x y =>
    simp only [stepVal] at hs
    have hc := h.ev c
    split at hs
    · rename_i hb
      simp only [Option.some.injEq] at hs; subst hs
      rw [hb] at hc
      exact ⟨_, by simp [execOp, hc.bool_inv, asBool], h.ev x⟩
    · rename_i hb
      simp only [Option.some.injEq] at hs; subst hs
      rw [hb] at hc
      exact ⟨_, by simp [execOp, hc.bool_inv, asBool], h.ev y⟩
    · cases hs
  case load t x =>
    simp only [stepVal, Option.bind_eq_some_iff] at hs
    obtain ⟨⟨e, off⟩, he, T, hT, hs⟩ := hs
    obtain ⟨b, base, cs, el, fz, hu, hb, hsz, hc⟩ := (cellsAt_sound h (h.ev x) he).ex
    obtain ⟨u, hr, hv⟩ := sub_sound (P := P) hb hT hs hsz hc
    exact ⟨u, by simp [execOp, hu, Instr.loadAt, Instr.sureAddr, hr], hv⟩
  case binOp op t x y t' =>
    simp only [stepVal] at hs
    split at hs
    · rename_i v' hb
      simp only [Option.some.injEq] at hs; subst hs
      obtain ⟨u, hr, hv⟩ := bin_sound (P := P) hb (h.ev x) (h.ev y) t x y
      exact ⟨u, by simp only [execOp, Sem.run_bind] at hr ⊢; rw [hr]; rfl, hv⟩
    · simp only [Option.bind_eq_some_iff] at hs
      obtain ⟨T, hT, hs⟩ := hs
      obtain ⟨i, d, z, hi, hd, hz, rfl⟩ := ty_spec hT
      split at hs
      · simp only [Option.map_eq_some_iff] at hs
        obtain ⟨b, hb, rfl⟩ := hs
        have hr := eqv_sound (P := P) hb (h.ev x) (h.ev y) hd .eql (.inl rfl) x y
        exact ⟨_, by simp only [execOp, Sem.run_bind] at hr ⊢; rw [hr]; rfl, .rr (.bool _)⟩
      · simp only [Option.map_eq_some_iff] at hs
        obtain ⟨b, hb, rfl⟩ := hs
        have hr := eqv_sound (P := P) hb (h.ev x) (h.ev y) hd .neq (.inr rfl) x y
        exact ⟨_, by simp only [execOp, Sem.run_bind] at hr ⊢; rw [hr]; rfl, .rr (.bool _)⟩
      · cases hs
  case unOp op t x =>
    simp only [stepVal] at hs
    have hx := h.ev x
    split at hs
    · rename_i b hb
      simp only [Option.some.injEq] at hs; subst hs
      rw [hb] at hx
      exact ⟨_, by simp [execOp, hx.bool_inv, Op.unary], .rr (.bool _)⟩
    · rename_i k n hb
      simp only [Option.some.injEq] at hs; subst hs
      rw [hb] at hx
      exact ⟨_, by simp only [execOp, hx.int_inv, Op.unary, Op.intArith, Sem.run_bind, Sem.run_pure, Result.andThen_ok], .rr (.int _ _)⟩
    · rename_i k n hb
      simp only [Option.some.injEq] at hs; subst hs
      rw [hb] at hx
      exact ⟨_, by simp only [execOp, hx.int_inv, Op.unary, Op.intBits, Sem.run_bind, Sem.run_pure, Result.andThen_ok], .rr (.int _ _)⟩
    · cases hs
  case nilCheck x =>
    simp only [stepVal] at hs
    have hx := h.ev x
    split at hs
    · rename_i k sz i off hb
      simp only [Option.some.injEq] at hs; subst hs
      rw [hb] at hx
      obtain ⟨b, _, _, he⟩ := hx.ptr_inv
      exact ⟨_, by simp [execOp, he], he ▸ hx⟩
    · rename_i br cs hb
      simp only [Option.some.injEq] at hs; subst hs
      rw [hb] at hx
      obtain ⟨ad, he⟩ := hx.ro_shape
      exact ⟨_, by simp [execOp, he], he ▸ hx⟩
    · cases hs
  case fieldAddr t x f => exact give_fieldAddr h hs
  case indexAddr t x ix => exact give_indexAddr h hs
  case index t x ix => exact give_index h hs
  case convert src d x =>
    simp only [stepVal, Option.bind_eq_some_iff] at hs
    obtain ⟨S, hS, T, hT, hs⟩ := hs
    obtain ⟨i, d1, z, hi, hd, hz, rfl⟩ := ty_spec hS
    obtain ⟨i2, d2, z2, hi2, hd2, hz2, rfl⟩ := ty_spec hT
    have hx := h.ev x
    split at hs
    · rename_i k k' n hk hb
      simp only [Option.some.injEq] at hs; subst hs
      obtain rfl := kind_spec hk
      rw [hb] at hx
      refine ⟨.int k (k.wrap n), ?_, .rr (.int _ _)⟩
      have : (convert src d (.int k' n)).run P w = .ok (.int k (k.wrap n)) w := by
        unfold convert
        simp only [Sem.run_bind, run_underlying hd, run_underlying hd2, Result.andThen_ok]
        cases d1 <;> rfl
      simp only [execOp, hx.int_inv, Sem.run_bind, this, Result.andThen_ok, Sem.run_pure]
    · cases hs
  case extract t i =>
    simp only [stepVal] at hs
    have hx := h.ev t
    split at hs
    · rename_i cs hb
      rw [hb] at hx
      obtain ⟨us, he, hsz, hc⟩ := hx.tup_inv
      have hlt : i < us.size := by rw [hsz]; exact (List.getElem?_eq_some_iff.1 hs).1
      exact ⟨us[i], by simp [execOp, he, Instr.extract, hlt], hc i v _ hs (by simp [hlt])⟩
    · cases hs
  case makeFunc fn x y =>
    cases fn <;> simp only [stepVal] at hs <;> try (cases hs; done)
    simp only [Option.some.injEq] at hs; subst hs
    refine ⟨_, by simp only [execOp, Instr.makeFunc, Sem.run_bind, Sem.run_pure, Result.andThen_ok], .fn (by simp) (by simp) (evs_sound h x) (evs_sound h y)⟩
  case call c =>
    simp only [stepVal] at hs
    split at hs
    · rename_i b hb; exact give_builtin h hb hs
    · cases hs
  case slice t x lo hi mx =>
    cases mx with
    | none => exact give_slice h hs
    | some m => simp [stepVal] at hs
  all_goals (simp [stepVal] at hs)

end Go.Ai

namespace Go.Ai
open Go
variable {P : Program} {w : World} {L : Nat → Prop} {l : Lay} {s : St} {a : Act}

theorem cells_one {u : Value} (h : u.oneCell' = true) : u.cells = #[u] := by cases u <;> first | rfl | (simp [Value.oneCell'] at h)

theorem flat_sound {c : Co} {v : V} {u : Value} {cs : List V} (h : SV w L l c v u) (hf : v.flat = some cs) :
    u.cells.size = cs.length ∧ ∀ (j : Nat) (v : V) (x : Value), cs[j]? = some v → u.cells[j]? = some x → SV w L l c v x ∧ x.oneCell' = true := by
  have one : v.one = true → v.flat = some [v] → cs = [v] → u.cells.size = cs.length ∧ ∀ (j : Nat) (v : V) (x : Value), cs[j]? = some v → u.cells[j]? = some x → SV w L l c v x ∧ x.oneCell' = true := by
    intro h1 _ he
    subst he
    have hu := h.one h1
    rw [cells_one hu]
    refine ⟨rfl, fun j v' x hv hx => ?_⟩
    cases j with
    | zero => simp at hv hx; subst hv; subst hx; exact ⟨h, hu⟩
    | succ j => simp at hv
  cases v <;> simp only [V.flat] at hf
  case agg ds =>
    split at hf
    · rename_i hall
      simp only [Option.some.injEq] at hf; subst hf
      obtain ⟨us, rfl, hsz, hc⟩ := h.agg_inv
      refine ⟨hsz, fun j v x hv hx => ?_⟩
      have hr := hc j v x hv hx
      exact ⟨hr, hr.one (by simp only [List.all_eq_true] at hall; exact hall v (List.mem_of_getElem? hv))⟩
    · cases hf
  all_goals
    split at hf
    · rename_i h1
      simp only [Option.some.injEq] at hf
      exact one h1 (by simp only [V.flat, h1, if_true]) hf.symm
    · cases hf

/-- cells laid over others -/
def splice (e : List V) (off : Nat) (vs : List V) : List V :=
  match vs with
  | [v] => e.set off v
  | vs => if off = 0 ∧ vs.length = e.length then vs else e.take off ++ vs ++ e.drop (off + vs.length)

theorem splice_spec (e : List V) (off : Nat) (vs : List V) (h : off + vs.length ≤ e.length) :
    (splice e off vs).length = e.length ∧ ∀ j, (splice e off vs)[j]? = if off ≤ j ∧ j < off + vs.length then vs[j - off]? else e[j]? := by
  have gen : (e.take off ++ vs ++ e.drop (off + vs.length)).length = e.length ∧ ∀ j, (e.take off ++ vs ++ e.drop (off + vs.length))[j]? = if off ≤ j ∧ j < off + vs.length then vs[j - off]? else e[j]? := by
    have hl : (e.take off).length = off := by simp; omega
    refine ⟨by simp; omega, fun j => ?_⟩
    by_cases h1 : j < off
    · rw [List.append_assoc, List.getElem?_append_left (by omega), if_neg (by omega), List.getElem?_take, if_pos h1]
    · by_cases h2 : j < off + vs.length
      · rw [List.append_assoc, List.getElem?_append_right (by omega), hl, List.getElem?_append_left (by omega), if_pos ⟨by omega, h2⟩]
      · rw [List.getElem?_append_right (by simp; omega), if_neg (by omega), List.getElem?_drop]
        congr 1
        simp; omega
  unfold splice
  split
  · rename_i v
    simp only [List.length_cons, List.length_nil, Nat.zero_add] at h ⊢
    refine ⟨by simp, fun j => ?_⟩
    rw [List.getElem?_set]
    by_cases hj : off = j
    · subst hj
      have h1 : off < e.length := by omega
      simp [h1]
    · have : ¬ (off ≤ j ∧ j < off + 1) := by omega
      simp [hj, this]
  · split
    · rename_i h2
      obtain ⟨rfl, h3⟩ := h2
      refine ⟨h3, fun j => ?_⟩
      by_cases hj : j < vs.length
      · simp [hj]
      · have h4 : vs[j]? = none := List.getElem?_eq_none (by omega)
        have h5 : e[j]? = none := List.getElem?_eq_none (by omega)
        simp [hj, h5]
    · exact gen

def stepStore (P : Program) (s : St) (t : Nat) (x y : Operand) : Option St :=
  (ty P t).bind fun T =>
  match ev s x with
  | .ptr k sz i off => (lk s.co.ob k).bind fun o => (o.es[i]?).bind fun e => ((ev s y).flat).bind fun vs =>
      if o.sz = sz ∧ vs.length = T.size ∧ off + T.size ≤ sz ∧ (o.row = false ∨ stillL vs = true) then
        some { s with co := s.co.set k { o with es := o.es.set i (splice e off vs) } }
      else none
  | _ => none

theorem div_unique {a b i j sz : Nat} (ha : a < sz) (hb : b < sz) (h : i * sz + a = j * sz + b) : i = j ∧ a = b := by
  have h1 : (i * sz + a) / sz = i := by rw [Nat.mul_comm, Nat.mul_add_div (by omega)]; simp [Nat.div_eq_of_lt ha]
  have h2 : (j * sz + b) / sz = j := by rw [Nat.mul_comm, Nat.mul_add_div (by omega)]; simp [Nat.div_eq_of_lt hb]
  have : i = j := by rw [← h1, ← h2, h]
  subst this
  exact ⟨rfl, by omega⟩

theorem store_sound {t : Nat} {x y : Operand} {s' : St} (h : Rel w L l s a) (hs : stepStore P s t x y = some s') :
    ∃ w', (Instr.storeAt t (a.eval x) (a.eval y)).run P w = .ok () w' ∧ Rel w' L l s' a ∧ Fr w l s.co w' l s'.co := by
  simp only [stepStore, Option.bind_eq_some_iff] at hs
  obtain ⟨T, hT, hs⟩ := hs
  obtain ⟨it, d, z, hi, hd, hz, rfl⟩ := ty_spec hT
  split at hs <;> try (cases hs; done)
  rename_i k sz i off hx
  simp only [Option.bind_eq_some_iff] at hs
  obtain ⟨o, ho, e, he, vs, hvs, hs⟩ := hs
  split at hs <;> try (cases hs; done)
  rename_i hc
  obtain ⟨rfl, hlen, hoff, hstill⟩ := hc
  simp only [Option.some.injEq] at hs; subst hs
  have hS : (mkTy P it d z).size = it.size := rfl
  rw [hS] at hlen hoff
  obtain ⟨b, hb, hkz, hae⟩ := (hx ▸ h.ev x).ptr_inv
  obtain ⟨hcsz, hcv⟩ := flat_sound (h.ev y) hvs
  rcases h.objs k o ho with ⟨_, _, hn, _⟩ | ⟨b', c, hl⟩
  · rw [hn] at he; simp at he
  have hbb : b' = b := by have := hl.at_; rw [hb] at this; exact (Option.some.inj this).symm
  subst hbb
  have hi' : i < o.es.length := (List.getElem?_eq_some_iff.1 he).1
  have hel : e.length = o.sz := hl.len e (List.mem_of_getElem? he)
  have hroom : i * o.sz + o.sz ≤ c.size := by
    rw [hl.size, ← Nat.succ_mul]
    exact Nat.mul_le_mul_right _ (Nat.lt_of_lt_of_le hi' hl.fits)
  have hucl : (a.eval y).cells.toList.length = it.size := by rw [Array.length_toList, hcsz, hlen]
  have hrun := run_storeCells_at P b' (i * o.sz + off) o.el (a.eval y).cells.toList 0 c w hl.heap (by rw [hucl]; omega) (by
    intro u hu
    obtain ⟨j, hj, hju⟩ := List.getElem_of_mem hu
    have hj2 : j < vs.length := by rw [hlen, ← hucl]; exact hj
    exact (hcv j vs[j] u (by simp [hj2]) (by rw [← Array.getElem?_toList, List.getElem?_eq_getElem hj, hju])).2)
  simp only [Nat.add_zero] at hrun
  generalize hc' : (c.toList.take (i * o.sz + off) ++ (a.eval y).cells.toList ++ c.toList.drop (i * o.sz + off + (a.eval y).cells.toList.length)).toArray = c' at hrun
  have hc'get : ∀ p, c'[p]? = if i * o.sz + off ≤ p ∧ p < i * o.sz + off + it.size then (a.eval y).cells[p - (i * o.sz + off)]? else c[p]? := by
    intro p
    subst hc'
    have hl1 : (c.toList.take (i * o.sz + off)).length = i * o.sz + off := by simp; omega
    simp only [List.getElem?_toArray]
    by_cases h1 : p < i * o.sz + off
    · rw [List.append_assoc, List.getElem?_append_left (by omega), if_neg (by omega), List.getElem?_take, if_pos h1, Array.getElem?_toList]
    · by_cases h2 : p < i * o.sz + off + it.size
      · rw [List.append_assoc, List.getElem?_append_right (by omega), hl1, List.getElem?_append_left (by omega), if_pos ⟨by omega, h2⟩, Array.getElem?_toList]
      · rw [List.getElem?_append_right (by simp only [List.length_append]; omega), if_neg (by omega), List.getElem?_drop, Array.getElem?_toList]
        congr 1
        simp only [List.length_append]; omega
  have hc'sz : c'.size = c.size := by
    subst hc'
    simp only [List.size_toArray, List.length_append, List.length_take, List.length_drop, Array.length_toList]
    have := hucl
    rw [Array.length_toList] at this
    omega
  have hsp := splice_spec e off vs (by omega)
  have hF : Fr w l s.co (w.setRow b' c') l (s.co.set k { o with es := o.es.set i (splice e off vs) }) :=
    Fr.set ho hb (by simp) (fun q _ hq => setRow_other w b' q c' hq)
  have hSV : ∀ {v u}, SV w L l s.co v u → SV (w.setRow b' c') L l (s.co.set k { o with es := o.es.set i (splice e off vs) }) v u := fun hv => hF.sv (fun _ hz => ⟨rfl, rfl, hz⟩) hv
  -- what a cell holds now
  have cell : ∀ (i' : Nat) (e' : List V) (j : Nat) (v : V) (u : Value), (o.es.set i (splice e off vs))[i']? = some e' → e'[j]? = some v → c'[i' * o.sz + j]? = some u →
      (∃ q : Nat, i' = i ∧ vs[q]? = some v ∧ (a.eval y).cells[q]? = some u) ∨ ∃ e0 : List V, o.es[i']? = some e0 ∧ e0[j]? = some v ∧ c[i' * o.sz + j]? = some u := by
    intro i' e' j v u h1 h2 h3
    rw [List.getElem?_set] at h1
    rw [hc'get] at h3
    by_cases hii : i = i'
    · subst hii
      simp only [hi', if_true, Option.some.injEq] at h1
      subst h1
      have hjl : j < e.length := by rw [← hsp.1]; exact (List.getElem?_eq_some_iff.1 h2).1
      rw [hsp.2] at h2
      by_cases hj : off ≤ j ∧ j < off + vs.length
      · rw [if_pos hj] at h2
        rw [if_pos (by omega)] at h3
        have : i * o.sz + j - (i * o.sz + off) = j - off := by omega
        rw [this] at h3
        exact .inl ⟨j - off, rfl, h2, h3⟩
      · rw [if_neg hj] at h2
        rw [if_neg (by omega)] at h3
        exact .inr ⟨e, he, h2, h3⟩
    · simp only [hii, if_false] at h1
      have hjl : j < o.sz := by rw [← hl.len e' (List.mem_of_getElem? h1)]; exact (List.getElem?_eq_some_iff.1 h2).1
      have hne : ¬ (i * o.sz + off ≤ i' * o.sz + j ∧ i' * o.sz + j < i * o.sz + off + it.size) := by
        intro hh
        have : i' * o.sz + j = i * o.sz + (i' * o.sz + j - i * o.sz) := by omega
        exact hii (div_unique (sz := o.sz) hjl (by omega) this).1.symm
      rw [if_neg hne] at h3
      exact .inr ⟨e', h1, h2, h3⟩
  refine ⟨w.setRow b' c', ?_, ?_, hF⟩
  · rw [hae]
    have hsz2 : ¬ ((a.eval y).cells.size ≠ it.size) := by rw [hcsz, hlen]; simp
    simp only [Instr.storeAt, Instr.sureAddr, Sem.run_bind, Sem.run_pure, Result.andThen_ok, storeVar, sizeOf, typeInfo, run_program, hi]
    rw [if_neg hsz2]
    exact hrun
  · refine h.set ho hb (by simp) (fun q _ hq => setRow_other w b' q c' hq) (c' := c') ?_
    exact {
      at_ := hb, heap := setRow_heap w b' c c' o.el (0, 0) hl.heap, size := hc'sz.trans hl.size, fits := by simpa using hl.fits, cap := hl.cap
      box := fun hr => by simpa using hl.box hr
      nl := fun hr => by
        intro hh
        have : o.es.length = 0 := by simpa using congrArg List.length hh
        omega
      len := by
        intro e' he'
        rcases List.mem_or_eq_of_mem_set he' with h1 | h1
        · exact hl.len e' h1
        · subst h1; rw [hsp.1, hel]
      val := by
        intro i' e' j v u h1 h2 h3
        rcases cell i' e' j v u h1 h2 h3 with ⟨q, _, hq1, hq2⟩ | ⟨e0, q1, q2, q3⟩
        · exact hSV (hcv q v u hq1 hq2).1
        · exact hSV (hl.val i' e0 j v u q1 q2 q3)
      one := by
        intro i' e' j v u h1 h2 h3
        rcases cell i' e' j v u h1 h2 h3 with ⟨q, _, hq1, hq2⟩ | ⟨e0, q1, q2, q3⟩
        · exact (hcv q v u hq1 hq2).2
        · exact hl.one i' e0 j v u q1 q2 q3
      still := by
        intro hr i' e' j v u h1 h2 h3
        rcases cell i' e' j v u h1 h2 h3 with ⟨q, _, hq1, hq2⟩ | ⟨e0, q1, q2, q3⟩
        · rcases hstill with hs | hs
          · rw [hs] at hr; cases hr
          · rw [stillL_eq, List.all_eq_true] at hs
            exact hF.rr ((hcv q v u hq1 hq2).1.still (hs v (List.mem_of_getElem? hq1)))
        · exact hF.rr (hl.still hr i' e0 j v u q1 q2 q3) }

end Go.Ai

namespace Go.Ai
open Go
variable {P : Program} {w : World} {L : Nat → Prop} {l : Lay} {s : St} {a : Act}

theorem birth_notZ {c : Co} {k : Nat} {o : Obj} : k ∉ (c.birth k o).z := by simp [Co.birth]

/-- a new block is an object -/
theorem born (h : Rel w L l s a) {d n : Nat} (hd : d ∈ s.co.z) (o : Obj) (c : Array Value) {w' : World} (hw : w'.heap = w.heap.push (.cells c o.el (0, 0)))
    (size : c.size = n * o.sz) (fits : o.es.length ≤ n) (cap : n ≤ maxLen) (box : o.row = false → o.es.length = n) (nl : o.nl = true → o.es ≠ []) (len : ∀ e ∈ o.es, e.length = o.sz)
    (val : ∀ (i : Nat) (e : List V) (j : Nat) (v : V) (u : Value), o.es[i]? = some e → e[j]? = some v → c[i * o.sz + j]? = some u → SV w L l s.co v u ∧ u.oneCell' = true ∧ (o.row = true → v.still = true)) (hio : Io w w' := by first | exact ⟨rfl, rfl⟩ | assumption) :
    Rel w' L (l.set d (some w.heap.size) n) { s with co := s.co.birth d o } a ∧ Fr w l s.co w' (l.set d (some w.heap.size) n) (s.co.birth d o) := by
  have hsz : w'.heap.size = w.heap.size + 1 := by rw [hw]; simp
  have hkeep : ∀ b', b' < w.heap.size → w'.heap[b']? = w.heap[b']? := fun b' hb => by
    rw [hw, Array.getElem?_push]; simp [Nat.ne_of_lt hb]
  have hnew : w'.heap[w.heap.size]? = some (.cells c o.el (0, 0)) := by rw [hw, Array.getElem?_push]; simp
  have hz := h.unborn d hd
  have hF : Fr w l s.co w' (l.set d (some w.heap.size) n) (s.co.birth d o) := Fr.birth (fun x e => by cases e; exact Nat.le_refl _) (by omega) hkeep
  have hS : ∀ {v u}, SV w L l s.co v u → SV w' L (l.set d (some w.heap.size) n) (s.co.birth d o) v u := fun hv => hF.sv (birth_keep hd) hv
  refine ⟨h.birth hd (fun x e => by cases e; omega) (by omega) hkeep ?_, hF⟩
  refine .inr ⟨w.heap.size, c, ?_⟩
  have hκ : (l.set d (some w.heap.size) n).κ d = n := by simp [Lay.set]
  exact {
    at_ := by simp [Lay.set], heap := hnew, size := by rw [hκ]; exact size, fits := by rw [hκ]; exact fits, cap := by rw [hκ]; exact cap, box := fun hr => by rw [hκ]; exact box hr, nl := nl, len := len
    val := fun i e j v u h1 h2 h3 => hS (val i e j v u h1 h2 h3).1
    one := fun i e j v u h1 h2 h3 => (val i e j v u h1 h2 h3).2.1
    still := fun hr i e j v u h1 h2 h3 => hF.rr ((val i e j v u h1 h2 h3).1.still ((val i e j v u h1 h2 h3).2.2 hr)) }

/-- a box with one element -/
theorem born_box (h : Rel w L l s a) {d : Nat} (hd : d ∈ s.co.z) (el : Nat) (cs : List V) (c : Array Value) {w' : World} (hw : w'.heap = w.heap.push (.cells c el (0, 0)))
    (size : c.size = cs.length) (val : ∀ (j : Nat) (v : V) (u : Value), cs[j]? = some v → c[j]? = some u → SV w L l s.co v u ∧ u.oneCell' = true) (hio : Io w w' := by first | exact ⟨rfl, rfl⟩ | assumption) :
    Rel w' L (l.set d (some w.heap.size) 1) { s with co := s.co.birth d ⟨false, false, el, cs.length, [cs]⟩ } a ∧ Fr w l s.co w' (l.set d (some w.heap.size) 1) (s.co.birth d ⟨false, false, el, cs.length, [cs]⟩) := by
  refine born h hd ⟨false, false, el, cs.length, [cs]⟩ c hw (by simpa using size) (by simp) (by simp [maxLen]) (fun _ => rfl) (fun hh => by cases hh) (fun e he => by simp at he; rw [he]) ?_
  intro i e j v u h1 h2 h3
  cases i with
  | zero =>
    simp only [List.getElem?_cons_zero, Option.some.injEq] at h1; subst h1
    simp only [Nat.zero_mul, Nat.zero_add] at h3
    exact ⟨(val j v u h2 h3).1, (val j v u h2 h3).2, fun hh => by cases hh⟩
  | succ i => simp at h1

def stepAlloc (P : Program) (s : St) (d : Option Nat) (t : Nat) : Option St :=
  (ty P t).bind fun T => d.bind fun d =>
    if d ∈ s.co.z ∧ T.zero.all V.one ∧ T.zero.length = T.size then
      some (St.push { s with co := s.co.birth d ⟨false, false, t, T.size, [T.zero]⟩ } d (.ptr d T.size 0 0))
    else none

def stepBox (P : Program) (s : St) (d : Option Nat) (t : Nat) (x : Operand) : Option St :=
  (ty P t).bind fun T => d.bind fun d => ((ev s x).flat).bind fun cs =>
    if d ∈ s.co.z ∧ cs.length = T.size then
      some (St.push { s with co := s.co.birth d ⟨false, false, t, T.size, [cs]⟩ } d (.ptr d T.size 0 0))
    else none

theorem ptr_born {w' : World} {c : Co} {d sz n b : Nat} {o : Obj} : SV w' L (l.set d (some b) n) (c.birth d o) (.ptr d sz 0 0) (.pointer (some ⟨b, 0, none⟩)) := by
  have := VR.ptr (w := w') (ok := okB w' L (l.set d (some b) n) (c.birth d o)) (okb := okbB w' (l.set d (some b) n) (c.birth d o)) (l := l.set d (some b) n) (Z := ZB (c.birth d o)) (k := d) (sz := sz) (i := 0) (off := 0) (b := b) birth_notZ (by simp [Lay.set])
  simpa using this

theorem alloc_sound {d : Option Tmp} {t : Nat} {s' : St} (h : Rel w L l s a) (hd : ∀ x, d = some x → x < a.tmps.size) (hs : stepAlloc P s d t = some s') :
    ∃ u w' l', (Instr.alloc t true (.tuple #[])).run P w = .ok u w' ∧ Rel w' L l' s' (a.put d u) ∧ Fr w l s.co w' l' s'.co := by
  simp only [stepAlloc, Option.bind_eq_some_iff] at hs
  obtain ⟨T, hT, d, rfl, hs⟩ := hs
  obtain ⟨i, dd, z, hi, hdd, hz, rfl⟩ := ty_spec hT
  split at hs <;> try (cases hs; done)
  rename_i hc
  simp only [Option.some.injEq] at hs; subst hs
  obtain ⟨hdz, hall, hlen⟩ := hc
  have hZ : (mkTy P i dd z).zero = z.cells.toList.map ofConst := rfl
  have hS : (mkTy P i dd z).size = i.size := rfl
  rw [hZ] at hall hlen
  rw [hS] at hlen
  have hb := born_box h hdz t (z.cells.toList.map ofConst) z.cells (w' := { w with heap := w.heap.push (.cells z.cells t) }) rfl (by simp) (by
    intro j v u h1 h2
    simp only [List.getElem?_map, Array.getElem?_toList, Option.map_eq_some_iff] at h1
    obtain ⟨u', hu', rfl⟩ := h1
    rw [h2] at hu'; cases hu'
    have hr : SV w L l s.co (ofConst u) u := .rr (ofConst_rr _ _ u)
    have h1' : (ofConst u).one = true := by
      rw [List.all_eq_true] at hall
      exact hall _ (List.mem_map.2 ⟨u, Array.mem_toList_iff.2 (Array.mem_of_getElem? h2), rfl⟩)
    exact ⟨hr, hr.one h1'⟩)
  rw [hlen] at hb
  refine ⟨.pointer (some ⟨w.heap.size, 0, none⟩), { w with heap := w.heap.push (.cells z.cells t) }, l.set d (some w.heap.size) 1, ?_, ?_, ?_⟩
  · simp [Instr.alloc, zeroValue, typeInfo, hi, hz, newVar, newRow]
  · rw [hZ, hS]
    exact hb.1.push ptr_born d (hd d rfl)
  · rw [hZ, hS]; exact hb.2

theorem box_sound {d : Option Tmp} {t : Nat} {x : Operand} {s' : St} (h : Rel w L l s a) (hd : ∀ x, d = some x → x < a.tmps.size) (hs : stepBox P s d t x = some s') :
    ∃ u w' l', (Instr.box t (a.eval x)).run P w = .ok u w' ∧ Rel w' L l' s' (a.put d u) ∧ Fr w l s.co w' l' s'.co := by
  simp only [stepBox, Option.bind_eq_some_iff] at hs
  obtain ⟨T, hT, d, rfl, cs, hcs, hs⟩ := hs
  split at hs <;> try (cases hs; done)
  rename_i hc
  simp only [Option.some.injEq] at hs; subst hs
  obtain ⟨hdz, hlen⟩ := hc
  obtain ⟨hsz, hcv⟩ := flat_sound (h.ev x) hcs
  have hb := born_box h hdz t cs (a.eval x).cells (w' := { w with heap := w.heap.push (.cells (a.eval x).cells t) }) rfl hsz (fun j v u h1 h2 => hcv j v u h1 h2)
  rw [hlen] at hb
  refine ⟨.pointer (some ⟨w.heap.size, 0, none⟩), { w with heap := w.heap.push (.cells (a.eval x).cells t) }, l.set d (some w.heap.size) 1, ?_, ?_, ?_⟩
  · simp [Instr.box, newVar, newRow]
  · exact hb.1.push ptr_born d (hd d rfl)
  · exact hb.2

end Go.Ai

namespace Go.Ai
open Go
variable {P : Program} {w : World} {L : Nat → Prop} {l : Lay} {s : St} {a : Act}

/-! ## composite values -/

def fillA (place : Nat → Option (Nat × Nat)) (cl : List V) : List (Nat × V) → Option (List V)
  | [] => some cl
  | (i, v) :: r =>
    match place i, v.flat with
    | some (off, size), some vs => if vs.length = size ∧ off + size ≤ cl.length then fillA place (splice cl off vs) r else none
    | _, _ => none

theorem foldl_cells (off : Nat) (v cs : Array Value) (h : off + v.size ≤ cs.size) :
    (v.zipIdx.foldl (fun cs (x : Value × Nat) => cs.setIfInBounds (off + x.2) x.1) cs).size = cs.size ∧
    ∀ k, (v.zipIdx.foldl (fun cs (x : Value × Nat) => cs.setIfInBounds (off + x.2) x.1) cs)[k]? = if off ≤ k ∧ k < off + v.size then v[k - off]? else cs[k]? := by
  have := Great.foldl_set off v.toList 0 cs
  rw [← Array.foldl_toList, Array.toList_zipIdx]
  refine ⟨this.1, fun k => ?_⟩
  rw [this.2 k]
  simp only [Nat.add_zero, Array.length_toList, Array.getElem?_toList]
  by_cases h1 : off ≤ k ∧ k < off + v.size
  · rw [if_pos h1, if_pos ⟨h1.1, h1.2, by omega⟩]
  · rw [if_neg h1, if_neg (fun hh => h1 ⟨hh.1, hh.2.1⟩)]

theorem fill_sound (h : Rel w L l s a) (place : Nat → Option (Nat × Nat)) : ∀ (ps : List (Nat × Operand)) (cl : List V) (c : Array Value) (cl' : List V), c.size = cl.length →
    (∀ (j : Nat) (v : V) (u : Value), cl[j]? = some v → c[j]? = some u → SV w L l s.co v u) →
    fillA place cl (ps.map fun p => (p.1, ev s p.2)) = some cl' →
    ∃ c', Instr.fill place c (ps.map fun p => (p.1, a.eval p.2)) = some c' ∧ c'.size = cl'.length ∧ ∀ (j : Nat) (v : V) (u : Value), cl'[j]? = some v → c'[j]? = some u → SV w L l s.co v u := by
  intro ps
  induction ps with
  | nil => intro cl c cl' hsz hc hf; simp [fillA] at hf; subst hf; exact ⟨c, rfl, hsz, hc⟩
  | cons p ps ih =>
    intro cl c cl' hsz hc hf
    simp only [List.map_cons, fillA] at hf
    split at hf <;> try (cases hf; done)
    rename_i off size vs hp hvs
    split at hf <;> try (cases hf; done)
    rename_i hcond
    obtain ⟨hl, hle⟩ := hcond
    obtain ⟨hus, huc⟩ := flat_sound (h.ev p.2) hvs
    have hfold := foldl_cells off (a.eval p.2).cells c (by rw [hus, hl, hsz]; exact hle)
    have hsp := splice_spec cl off vs (by omega)
    obtain ⟨c', hr, h1, h2⟩ := ih (splice cl off vs) _ cl' (by rw [hfold.1, hsz, hsp.1]) (by
      intro j v u hj hu
      rw [hsp.2] at hj
      rw [hfold.2, hus] at hu
      by_cases hin : off ≤ j ∧ j < off + vs.length
      · rw [if_pos hin] at hj hu
        exact (huc (j - off) v u hj hu).1
      · rw [if_neg hin] at hj hu
        exact hc j v u hj hu) hf
    refine ⟨c', ?_, h1, h2⟩
    simp only [List.map_cons]
    unfold Instr.fill
    simp only [hp]
    rw [if_neg (by simp; omega)]
    exact hr

def placeOf (T : Ty) (i : Nat) : Option (Nat × Nat) := if T.isArray then some (i * T.esz, T.esz) else T.offs[i]?

def okParts (T : Ty) : Bool := T.isAgg && (if T.isArray then T.esz != 0 else T.offs.all fun p => p.2 != 0)

def buildVal (P : Program) (s : St) (t : Nat) (ps : List (Nat × Operand)) : Option V :=
  (ty P t).bind fun T => if okParts T then
    (fillA (placeOf T) T.zero (ps.map fun p => (p.1, ev s p.2))).map .agg else none

theorem mapM_offs {fs : List Field} (h : ∀ f ∈ fs, P.cellsOf f.type ≠ 0) : fs.mapM (fun f => (P.info? f.type).map fun i => (f.offset, i.size)) = some (fs.map fun f => (f.offset, P.cellsOf f.type)) := by
  induction fs with
  | nil => rfl
  | cons f fs ih =>
    have h1 := h f (by simp)
    cases hi : P.info? f.type with
    | none => rw [Program.cellsOf, hi] at h1; simp at h1
    | some i =>
      simp only [List.mapM_cons, hi, Option.map_some, Option.bind_eq_bind, Option.bind_some, ih (fun g hg => h g (by simp [hg])), Option.pure_def, List.map_cons]
      simp [Program.cellsOf, hi]

theorem build_sound {t : Nat} {ps : Array (Nat × Operand)} {v : V} (h : Rel w L l s a) (hs : buildVal P s t ps.toList = some v) :
    ∃ u, (Instr.build t (ps.map fun (i, x) => (i, a.eval x))).run P w = .ok u w ∧ SV w L l s.co v u := by
  simp only [buildVal, Option.bind_eq_some_iff] at hs
  obtain ⟨T, hT, hs⟩ := hs
  obtain ⟨i, d, z, hi, hd, hz, rfl⟩ := ty_spec hT
  split at hs <;> try (cases hs; done)
  rename_i hc
  simp only [Option.map_eq_some_iff] at hs
  obtain ⟨cl', hf, rfl⟩ := hs
  have hZ : (mkTy P i d z).zero = z.cells.toList.map ofConst := rfl
  obtain ⟨c', hr, h1, h2⟩ := fill_sound h (placeOf (mkTy P i d z)) ps.toList (mkTy P i d z).zero z.cells cl' (by rw [hZ]; simp) (by
    intro j v u hj hu
    rw [hZ] at hj
    simp only [List.getElem?_map, Array.getElem?_toList, Option.map_eq_some_iff] at hj
    obtain ⟨u', hu', rfl⟩ := hj
    rw [hu] at hu'; cases hu'
    exact .rr (ofConst_rr _ _ u)) hf
  have hparts : (ps.map fun (i, x) => (i, a.eval x)).toList = ps.toList.map fun p => (p.1, a.eval p.2) := by simp
  refine ⟨.agg c', run_build w t _ c' ?_, .agg h1 h2⟩
  rw [hparts]
  unfold Program.built
  simp only [okParts, Bool.and_eq_true] at hc
  obtain ⟨hag, hc⟩ := hc
  cases d <;> try (simp [mkTy, isAggD] at hag; done)
  case array n e =>
    have he : (mkTy P i (.array n e) z).isArray = true := rfl
    simp only [he, if_true, bne_iff_ne] at hc
    obtain ⟨e', ie, hde, hie, he1, _⟩ := esz_spec hc
    have hee : e = e' := by
      rcases hde with h3 | ⟨m', h3⟩
      · cases h3
      · cases h3; rfl
    subst hee
    simp only [hi, hd, hz, hie]
    have hpl : placeOf (mkTy P i (.array n e) z) = fun i => some (i * ie.size, ie.size) := by
      funext q; simp [placeOf, he, he1]
    rw [← hpl]; exact hr
  case struct fs =>
    have he : (mkTy P i (.struct fs) z).isArray = false := rfl
    simp only [he, Bool.false_eq_true, if_false] at hc
    have ho : (mkTy P i (.struct fs) z).offs = fs.toList.map fun f => (f.offset, P.cellsOf f.type) := rfl
    rw [ho] at hc
    have hm := mapM_offs (P := P) (fs := fs.toList) (by
      intro f hf
      simp only [List.all_map, List.all_eq_true, Function.comp, bne_iff_ne] at hc
      exact hc f hf)
    simp only [hi, hd, hz, hm]
    have hpl : placeOf (mkTy P i (.struct fs) z) = fun x => (fs.toList.map fun f => (f.offset, P.cellsOf f.type)).toArray[x]? := by
      funext q; simp [placeOf, he, ho]
    rw [← hpl]; exact hr

/-! ## slice literals -/

def flats (s : St) : List Operand → Option (List (List V))
  | [] => some []
  | x :: r => match (ev s x).flat, flats s r with
    | some cs, some es => some (cs :: es)
    | _, _ => none

def stepSlice (P : Program) (s : St) (d : Option Nat) (t len : Nat) (ps : List (Nat × Operand)) : Option St :=
  (ty P t).bind fun T => d.bind fun d => (flats s (ps.map (·.2))).bind fun es =>
    if d ∈ s.co.z ∧ T.isSlice ∧ (ty P T.elem).isSome ∧ T.esz ≠ 0 ∧ len * T.esz ≤ 16777216 ∧ ps.map (·.1) = List.range len ∧ (es.all fun e => e.length == T.esz && stillL e) = true then
      some (St.push { s with co := s.co.birth d ⟨true, false, T.elem, T.esz, es⟩ } d (.row d T.esz 0 len))
    else none

theorem flats_sound (h : Rel w L l s a) : ∀ (xs : List Operand) (es : List (List V)), flats s xs = some es → es.length = xs.length ∧
    ∀ (i : Nat) (e : List V), es[i]? = some e → ∃ u, (xs.map a.eval)[i]? = some u ∧ u.cells.size = e.length ∧
      ∀ (j : Nat) (v : V) (x : Value), e[j]? = some v → u.cells[j]? = some x → SV w L l s.co v x ∧ x.oneCell' = true := by
  intro xs
  induction xs with
  | nil => intro es he; simp [flats] at he; subst he; exact ⟨rfl, fun i e h => by simp at h⟩
  | cons x xs ih =>
    intro es he
    simp only [flats] at he
    split at he <;> try (cases he; done)
    rename_i cs es' hcs hes
    simp only [Option.some.injEq] at he; subst he
    obtain ⟨h1, h2⟩ := ih es' hes
    refine ⟨by simp [h1], fun i e hi => ?_⟩
    cases i with
    | zero =>
      simp only [List.getElem?_cons_zero, Option.some.injEq] at hi; subst hi
      exact ⟨a.eval x, by simp, flat_sound (h.ev x) hcs⟩
    | succ i =>
      simp only [List.getElem?_cons_succ] at hi
      obtain ⟨u, hu, hh⟩ := h2 i e hi
      exact ⟨u, by simpa using hu, hh⟩

theorem zip_range {α : Type} : ∀ (ps : List (Nat × α)) (n0 : Nat), ps.map (·.1) = (List.range' n0 ps.length) → ps = ((ps.map (·.2)).zipIdx n0).map fun x => (x.2, x.1) := by
  intro ps
  induction ps with
  | nil => intro n0 _; rfl
  | cons p ps ih =>
    intro n0 h
    simp only [List.map_cons, List.length_cons, List.range'_succ, List.cons.injEq] at h
    simp only [List.map_cons, List.zipIdx_cons]
    obtain ⟨i, x⟩ := p
    simp only at h
    obtain ⟨rfl, h⟩ := h
    congr 1
    exact ih (i + 1) h

theorem slice_lit_sound {d : Option Tmp} {t len : Nat} {ps : Array (Nat × Operand)} {s' : St} (h : Rel w L l s a) (hd : ∀ x, d = some x → x < a.tmps.size) (hs : stepSlice P s d t len ps.toList = some s') :
    ∃ u w' l', (Instr.buildSlice t len (ps.map fun (i, x) => (i, a.eval x))).run P w = .ok u w' ∧ Rel w' L l' s' (a.put d u) ∧ Fr w l s.co w' l' s'.co := by
  simp only [stepSlice, Option.bind_eq_some_iff] at hs
  obtain ⟨T, hT, d, rfl, es, hes, hs⟩ := hs
  obtain ⟨i, dd, z, hi, hdd, hz, rfl⟩ := ty_spec hT
  split at hs <;> try (cases hs; done)
  rename_i hc
  simp only [Option.some.injEq] at hs; subst hs
  obtain ⟨hdz, hsl, hety, hesz, hsmall, hrange, hall⟩ := hc
  obtain ⟨e, rfl⟩ := isSlice_spec hsl
  obtain ⟨e', ie, hde, hie, he1, hel⟩ := esz_spec hesz
  have hee : e = e' := by
    rcases hde with h3 | ⟨m', h3⟩
    · cases h3; rfl
    · cases h3
  subst hee
  rw [hel, he1]
  rw [he1] at hesz hsmall hall
  obtain ⟨hel2, hget⟩ := flats_sound h (ps.toList.map (·.2)) es hes
  by_cases hlen0 : len = 0
  · subst hlen0
    have hps : ps = #[] := by
      have := congrArg List.length hrange
      simp at this
      exact this
    subst hps
    have hes0 : es = [] := List.length_eq_zero_iff.1 (by simpa using hel2)
    subst hes0
    have hrun : (Instr.buildSlice t 0 ((#[] : Array (Nat × Operand)).map fun (i, x) => (i, a.eval x))).run P w = .ok (.slice (some ⟨w.heap.size, 0, none⟩) 0 0) (w.alloc (.cells #[] e)) := by
      simp [Instr.buildSlice, run_underlying hdd, sizeOf, typeInfo, hie, newRow, Instr.fill]
      have e0 : Array.map (fun _ => (default : Value)) (Array.range 0) = #[] := Array.eq_empty_of_size_eq_zero (by simp)
      rw [e0]
    have hb := born (w := w) h hdz ⟨true, false, e, ie.size, []⟩ #[] (n := 0) (w' := w.alloc (.cells #[] e)) rfl (by simp) (by simp) (by simp [maxLen]) (fun hh => by cases hh) (fun hh => by cases hh)
      (fun q hq => by simp at hq) (by intro i' e' j v u h1; simp at h1)
    refine ⟨_, _, _, hrun, ?_, hb.2⟩
    refine hb.1.push ?_ d (hd d rfl)
    have hrow := VR.row (w := w.alloc (.cells #[] e)) (ok := okB (w.alloc (.cells #[] e)) L (l.set d (some w.heap.size) 0) (s.co.birth d ⟨true, false, e, ie.size, []⟩)) (okb := okbB (w.alloc (.cells #[] e)) (l.set d (some w.heap.size) 0) (s.co.birth d ⟨true, false, e, ie.size, []⟩)) (l := l.set d (some w.heap.size) 0) (Z := ZB (s.co.birth d ⟨true, false, e, ie.size, []⟩)) (k := d) (sz := ie.size) (lo := 0) (hi := 0) (b := w.heap.size) birth_notZ (by simp [Lay.set]) (Nat.le_refl _) (by simp [Lay.set])
    simpa [Lay.set] using hrow
  have hpl : ps.toList.length = len := by have := congrArg List.length hrange; simpa using this
  have hesl : es.length = len := by rw [hel2]; simpa using hpl
  rw [List.all_eq_true] at hall
  have hall' : ∀ q ∈ es, q.length = ie.size ∧ stillL q = true := fun q hq => by have := hall q hq; simpa using this
  -- the parts
  let vs : List Value := (ps.toList.map (·.2)).map a.eval
  have hvsl : vs.length = len := by simp [vs, hpl]
  have hvs : ∀ u ∈ vs, u.cells.size = ie.size := by
    intro u hu
    obtain ⟨q, hq, hqu⟩ := List.getElem_of_mem hu
    have hq2 : q < es.length := by rw [hesl, ← hvsl]; exact hq
    obtain ⟨u', hu', hsz, _⟩ := hget q es[q] (by simp [hq2])
    have : vs[q]? = some u' := hu'
    rw [List.getElem?_eq_getElem hq, hqu] at this
    cases this
    rw [hsz]; exact (hall' _ (List.getElem_mem hq2)).1
  have hparts : (ps.map fun (i, x) => (i, a.eval x)).toList = (vs.zipIdx 0).map fun x => (x.2, x.1) := by
    have h0 : (ps.map fun (i, x) => (i, a.eval x)).toList = ps.toList.map fun p => (p.1, a.eval p.2) := by simp
    rw [h0]
    have h1 := zip_range (ps.toList.map fun p => (p.1, a.eval p.2)) 0 (by
      rw [List.map_map, List.length_map, hpl, ← List.range_eq_range']; exact hrange)
    rw [h1]
    simp only [List.map_map, vs]
    rfl
  obtain ⟨E, hE⟩ := Option.isSome_iff_exists.1 hety
  rw [hel] at hE
  obtain ⟨i2, d2, z2, hi2, _, hz2, _⟩ := ty_spec hE
  rw [hie] at hi2; cases hi2
  cases hzz : ie.zero with
  | none => rw [hzz] at hz2; cases hz2
  | some zz =>
    obtain ⟨c, hc, hcsz, hcget⟩ := Great.fill_dense (s := ie.size) (by omega) vs 0 ((Array.range (len * ie.size)).map (zz.cells[· % zz.cells.size]!)) hvs (by simp [hvsl])
    rw [← hparts] at hc
    have hrun := run_buildSlice (P := P) w t e len (ps.map fun (i, x) => (i, a.eval x)) c ie zz hdd hie hzz (by omega) (by
      intro hh
      rcases Nat.mul_eq_zero.1 hh with h1 | h1
      · exact hlen0 h1
      · exact hesz h1) hc
    have hb := born (w := w) h hdz ⟨true, false, e, ie.size, es⟩ c (n := len) (w' := w.alloc (.cells c e)) rfl (by rw [hcsz]; simp) (by simp [hesl]) (by simp [maxLen]; have : len ≤ len * ie.size := Nat.le_mul_of_pos_right _ (by omega); omega) (fun hh => by cases hh) (fun hh => by cases hh)
      (fun q hq => (hall' q hq).1) (by
        intro i' e' j v u h1 h2 h3
        simp only at h1 h3
        have hi' : i' < len := by rw [← hesl]; exact (List.getElem?_eq_some_iff.1 h1).1
        have hjl : j < ie.size := by rw [← (hall' e' (List.mem_of_getElem? h1)).1]; exact (List.getElem?_eq_some_iff.1 h2).1
        obtain ⟨u', hu', hsz', hcell⟩ := hget i' e' h1
        rw [hcget] at h3
        have hdiv : (i' * ie.size + j) / ie.size = i' := by rw [Nat.mul_comm, Nat.mul_add_div (by omega)]; simp [Nat.div_eq_of_lt hjl]
        have hmod : (i' * ie.size + j) % ie.size = j := by rw [Nat.mul_comm, Nat.mul_add_mod]; exact Nat.mod_eq_of_lt hjl
        rw [if_pos ⟨by omega, by rw [Nat.zero_add, hvsl]; have : i' * ie.size + ie.size ≤ len * ie.size := by rw [← Nat.succ_mul]; exact Nat.mul_le_mul_right _ hi'
                                 omega⟩, Nat.sub_zero, hdiv, hmod] at h3
        have hu2 : vs[i']? = some u' := hu'
        rw [hu2] at h3
        simp only [Option.bind_some] at h3
        have hstill := (hall' e' (List.mem_of_getElem? h1)).2
        rw [stillL_eq, List.all_eq_true] at hstill
        exact ⟨(hcell j v u h2 h3).1, (hcell j v u h2 h3).2, fun _ => hstill v (List.mem_of_getElem? h2)⟩)
    refine ⟨_, _, _, hrun, ?_, hb.2⟩
    refine hb.1.push ?_ d (hd d rfl)
    have := VR.row (w := w.alloc (.cells c e)) (ok := okB (w.alloc (.cells c e)) L (l.set d (some w.heap.size) len) (s.co.birth d ⟨true, false, e, ie.size, es⟩)) (okb := okbB (w.alloc (.cells c e)) (l.set d (some w.heap.size) len) (s.co.birth d ⟨true, false, e, ie.size, es⟩))
      (l := l.set d (some w.heap.size) len) (Z := ZB (s.co.birth d ⟨true, false, e, ie.size, es⟩)) (k := d) (sz := ie.size) (lo := 0) (hi := len) (b := w.heap.size) birth_notZ (by simp [Lay.set]) (Nat.zero_le _) (by simp [Lay.set])
    simpa [Lay.set] using this

end Go.Ai

namespace Go.Ai
open Go
variable {P : Program} {w : World} {L : Nat → Prop} {l : Lay} {s : St} {a : Act}

def Co.del (c : Co) (k : Nat) : Co := { c with ob := rm c.ob k }

/-- object k goes over into object d: in its own block, in a new one, or nowhere (an empty row). What named k names nothing that may be used. -/
def Co.over (c : Co) (k d : Nat) (o : Obj) : Co := (c.del k).birth d o

theorem lk_over (c : Co) (k d : Nat) (o : Obj) (k' : Nat) : lk (c.over k d o).ob k' = if d = k' then some o else if k = k' then none else lk c.ob k' := by
  simp only [Co.over, Co.birth, lk_cons, Co.del, lk_rm]

theorem z_over {c : Co} {k d : Nat} {o : Obj} (k' : Nat) : k' ∈ (c.over k d o).z ↔ k' ∈ c.z ∧ k' ≠ d := by
  simp [Co.over, Co.birth, Co.del]

structure Over (w w' : World) (l : Lay) (c : Co) (k d : Nat) (b : Option Nat) : Prop where
  live : ∃ o0, lk c.ob k = some o0
  dz : d ∈ c.z
  size : w.heap.size ≤ w'.heap.size
  new : ∀ x, b = some x → x < w'.heap.size ∧ (l.ι k = some x ∨ w.heap.size ≤ x)
  keep : ∀ x, x < w.heap.size → l.ι k ≠ some x → w'.heap[x]? = w.heap[x]?
  io : Io w w'

theorem over_fr {w' : World} {k d : Nat} {o : Obj} {b : Option Nat} {n : Nat} {c : Co} (h : Over w w' l c k d b) : Fr w l c w' (l.set d b n) (c.over k d o) where
  size := h.size
  M := rfl
  io := h.io
  keep := fun x hx he => by
    obtain ⟨o0, h0⟩ := h.live
    have hk : l.ι k ≠ some x := fun e => he ⟨k, o0, h0, e⟩
    refine ⟨h.keep x hx hk, ?_⟩
    rintro ⟨k', o1, h1, h2⟩
    rw [lk_over] at h1
    by_cases hd : d = k'
    · subst hd
      simp only [Lay.set, if_true] at h2
      rcases (h.new x h2).2 with h3 | h3
      · exact hk h3
      · omega
    · rw [if_neg hd] at h1
      split at h1
      · cases h1
      · have : ¬ k' = d := fun e => hd e.symm
        simp only [Lay.set, this, if_false] at h2
        exact he ⟨k', o1, h1, h2⟩

theorem over_keep {k d : Nat} {o : Obj} {b : Option Nat} {n : Nat} {c : Co} (hd : d ∈ c.z) : ∀ k', k' ∉ c.z → (l.set d b n).ι k' = l.ι k' ∧ (l.set d b n).κ k' = l.κ k' ∧ k' ∉ (c.over k d o).z := by
  intro k' hz
  have h1 : ¬ k' = d := fun e => hz (e ▸ hd)
  refine ⟨by simp [Lay.set, h1], by simp [Lay.set, h1], ?_⟩
  rw [z_over]
  exact fun h => hz h.1

theorem Rel.over {w' : World} {k d : Nat} {o : Obj} {b : Option Nat} {n : Nat} (h : Rel w L l s a) (hr : Over w w' l s.co k d b)
    (ho : ObjR w' L (l.set d b n) (s.co.over k d o) d o) : Rel w' L (l.set d b n) { s with co := s.co.over k d o } a := by
  have hF : Fr w l s.co w' (l.set d b n) (s.co.over k d o) := over_fr hr
  have hS : ∀ {v u}, SV w L l s.co v u → SV w' L (l.set d b n) (s.co.over k d o) v u := fun hv => hF.sv (over_keep hr.dz) hv
  have hι : ∀ k', k' ≠ d → (l.set d b n).ι k' = l.ι k' := fun k' he => by simp [Lay.set, he]
  have hκ : ∀ k', k' ≠ d → (l.set d b n).κ k' = l.κ k' := fun k' he => by simp [Lay.set, he]
  have hself : (l.set d b n).ι d = b := by simp [Lay.set]
  obtain ⟨o0, h0⟩ := hr.live
  have hlk : ∀ k' o1, k' ≠ d → lk (s.co.over k d o).ob k' = some o1 → lk s.co.ob k' = some o1 ∧ k' ≠ k := by
    intro k' o1 he h1
    rw [lk_over, if_neg (fun e => he e.symm)] at h1
    split at h1
    · cases h1
    · rename_i hk; exact ⟨h1, fun e => hk e.symm⟩
  exact {
    vals := fun t v hv => ⟨(h.vals t v hv).1, hS (h.vals t v hv).2⟩
    objs := fun k' o1 h1 => by
      by_cases he : k' = d
      · subst he
        rw [lk_over, if_pos rfl] at h1
        cases h1; exact ho
      · obtain ⟨h2, hne⟩ := hlk k' o1 he h1
        rcases h.objs k' o1 h2 with hv | ⟨b1, c1, h3⟩
        · exact .inl ⟨hv.1, hv.2.1, hv.2.2.1, (hι k' he).trans hv.2.2.2⟩
        · have hb1 := (h.lt k' o1 b1 h2 h3.at_).1
          have hnb : l.ι k ≠ some b1 := fun e => hne (h.inj k' k o1 o0 b1 h2 h0 h3.at_ e)
          exact .inr ⟨b1, c1, { h3 with at_ := (hι k' he).trans h3.at_, heap := (hr.keep b1 hb1 hnb).trans h3.heap, size := by rw [hκ k' he]; exact h3.size, fits := by rw [hκ k' he]; exact h3.fits, cap := by rw [hκ k' he]; exact h3.cap, box := fun hr => by rw [hκ k' he]; exact h3.box hr, val := fun i e j v u x y z => hS (h3.val i e j v u x y z), still := fun hr i e j v u x y z => hF.rr (h3.still hr i e j v u x y z) }⟩
    inj := fun k1 k2 o1 o2 b' h1 h2 hb1 hb2 => by
      by_cases e1 : k1 = d
      · by_cases e2 : k2 = d
        · rw [e1, e2]
        · subst e1
          obtain ⟨h3, hne⟩ := hlk k2 o2 e2 h2
          rw [hself] at hb1
          rw [hι k2 e2] at hb2
          rcases (hr.new b' hb1).2 with h4 | h4
          · exact absurd (h.inj k2 k o2 o0 b' h3 h0 hb2 h4) hne
          · have := (h.lt k2 o2 b' h3 hb2).1; omega
      · obtain ⟨h3, hne⟩ := hlk k1 o1 e1 h1
        rw [hι k1 e1] at hb1
        by_cases e2 : k2 = d
        · subst e2
          rw [hself] at hb2
          rcases (hr.new b' hb2).2 with h4 | h4
          · exact absurd (h.inj k1 k o1 o0 b' h3 h0 hb1 h4) hne
          · have := (h.lt k1 o1 b' h3 hb1).1; omega
        · obtain ⟨h4, _⟩ := hlk k2 o2 e2 h2
          rw [hι k2 e2] at hb2
          exact h.inj k1 k2 o1 o2 b' h3 h4 hb1 hb2
    lt := fun k1 o1 b' h1 hb1 => by
      by_cases e1 : k1 = d
      · subst e1
        rw [hself] at hb1
        have h2 := hr.new b' hb1
        refine ⟨h2.1, fun hL => ?_⟩
        rcases h2.2 with h3 | h3
        · exact (h.lt k o0 b' h0 h3).2 hL
        · have := h.lent b' hL; omega
      · obtain ⟨h3, _⟩ := hlk k1 o1 e1 h1
        rw [hι k1 e1] at hb1
        have := h.lt k1 o1 b' h3 hb1
        exact ⟨Nat.lt_of_lt_of_le this.1 hr.size, this.2⟩
    lent := fun b' hb' => Nat.lt_of_lt_of_le (h.lent b' hb') hr.size
    unborn := fun k1 h1 => by
      have := (z_over k1).1 h1
      rw [lk_over, if_neg (fun e => this.2 e.symm)]
      split
      · rfl
      · exact h.unborn k1 this.1
    glob := fun g v hg => hF.rr (h.glob g v hg) }

end Go.Ai

namespace Go.Ai
open Go
variable {P : Program} {w : World} {L : Nat → Prop} {l : Lay} {s : St} {a : Act}

/-- a slice's elements, where they lie -/
structure Elems (w : World) (L : Nat → Prop) (l : Lay) (c : Co) (sz : Nat) (es : List (List V)) (b off : Nat) (cs : Array Value) (el : TypeId) (fz : Nat × Nat) : Prop where
  heap : w.heap[b]? = some (.cells cs el fz)
  room : off + es.length * sz ≤ cs.size
  len : ∀ e ∈ es, e.length = sz
  val : ∀ (i : Nat) (e : List V) (j : Nat) (v : V) (x : Value), es[i]? = some e → e[j]? = some v → cs[off + i * sz + j]? = some x → SR w L l c v x ∧ x.oneCell' = true

theorem elems_sound (h : Rel w L l s a) {v : V} {u : Value} (hv : SV w L l s.co v u) {sz : Nat} {es : List (List V)} (he : s.co.elems v = some (sz, es)) :
    (es = [] ∧ u = .slice none 0 0) ∨ ∃ b off cap cs el fz, u = .slice (some ⟨b, off, none⟩) es.length cap ∧ es.length ≤ cap ∧ Elems w L l s.co sz es b off cs el fz := by
  cases v <;> simp only [Co.elems] at he <;> try (cases he; done)
  case sl br nl sz' es' =>
    simp only [Option.some.injEq, Prod.mk.injEq] at he
    obtain ⟨rfl, rfl⟩ := he
    cases hv with
    | rr hr =>
      cases hr with
      | snil => exact .inl ⟨rfl, rfl⟩
      | sl hok hb hnl hcap hsz hlen hc h1 => exact .inr ⟨_, _, _, _, _, _, rfl, hcap, hb, hsz, hlen, fun i e j v x p q r => ⟨hc i e j v x p q r, h1 i e j v x p q r⟩⟩
    | bnil => exact .inl ⟨rfl, rfl⟩
    | bsl hok hb hnl hcap hsz hlen hc h1 => exact .inr ⟨_, _, _, _, _, _, rfl, hcap, hb, hsz, hlen, fun i e j v x p q r => ⟨hc i e j v x p q r, h1 i e j v x p q r⟩⟩
  case row k sz' lo hi =>
    simp only [Option.bind_eq_some_iff] at he
    obtain ⟨o, ho, he⟩ := he
    split at he <;> try (cases he; done)
    rename_i hc
    obtain ⟨rfl, hrow, hhi⟩ := hc
    simp only [Option.some.injEq, Prod.mk.injEq] at he
    obtain ⟨rfl, he⟩ := he
    have hes : es = (o.es.drop lo).take (hi - lo) := by
      rw [← he]
      split
      · rename_i hq; obtain ⟨rfl, rfl⟩ := hq; simp
      · rfl
    rcases hv.row_inv with ⟨rfl, rfl, _, _, rfl⟩ | ⟨b, hk, _, hle, hcap, rfl⟩
    · exact .inl ⟨by rw [hes]; simp, rfl⟩
    · have hlen : es.length = hi - lo := by rw [hes]; simp; omega
      rcases h.objs k o ho with ⟨_, _, _, hn⟩ | ⟨b', cs, hl⟩
      · rw [hk] at hn; cases hn
      have hbb : b' = b := by have := hl.at_; rw [hk] at this; exact (Option.some.inj this).symm
      subst hbb
      have get : ∀ (i : Nat) (e : List V), es[i]? = some e → o.es[lo + i]? = some e := by
        intro i e hi'
        rw [hes, List.getElem?_take] at hi'
        split at hi'
        · simpa using hi'
        · cases hi'
      refine .inr ⟨b', lo * o.sz, l.κ k - lo, cs, o.el, (0, 0), by rw [hlen], by omega, hl.heap, ?_, ?_, ?_⟩
      · rw [hlen, ← Nat.add_mul, hl.size]
        exact Nat.mul_le_mul_right _ (by omega)
      · intro e hm
        obtain ⟨i, hi'⟩ := List.getElem?_of_mem hm
        exact hl.len e (List.mem_of_getElem? (get i e hi'))
      · intro i e j v x p q r
        have e1 : lo * o.sz + i * o.sz + j = (lo + i) * o.sz + j := by rw [Nat.add_mul]
        rw [e1] at r
        exact ⟨hl.still hrow (lo + i) e j v x (get i e p) q r, hl.one (lo + i) e j v x (get i e p) q r⟩

def appendOk (T : Ty) (n m : Nat) : Bool := T.isSlice && T.esz != 0 && decide (n + m ≤ maxLen) && decide ((n + m) * T.ebytes ≤ 140737488355328)

def stepAppend (P : Program) (s : St) (d : Option Nat) (ts : List Nat) (x y : Operand) : Option St :=
  match ts with
  | [t, t'] => if t = t' then (ty P t).bind fun T => d.bind fun d => (ty P T.elem).bind fun E => if E.zero.length ≠ E.size then none else (s.co.elems (ev s y)).bind fun (sz, es) =>
      match ev s x with
      | .row k szk lo hi => (lk s.co.ob k).bind fun o =>
          if d ∈ s.co.z ∧ o.row = true ∧ lo = 0 ∧ hi = o.es.length ∧ szk = T.esz ∧ o.sz = T.esz ∧ o.el = T.elem ∧ (sz = T.esz ∨ es = []) ∧ appendOk T o.es.length es.length = true then
            some (St.push { s with co := s.co.over k d { o with es := o.es ++ es } } d (.row d T.esz 0 (o.es.length + es.length)))
          else none
      | .sl _ true _ [] =>
          if d ∈ s.co.z ∧ (sz = T.esz ∨ es = []) ∧ appendOk T 0 es.length = true then
            some (St.push { s with co := s.co.birth d ⟨true, true, T.elem, T.esz, es⟩ } d (.row d T.esz 0 es.length))
          else none
      | _ => none
    else none
  | _ => none

theorem ebytes_spec {i : TypeInfo} {e : Nat} {z : Value} {ie : TypeInfo} (h : P.info? e = some ie) : (mkTy P i (.slice e) z).ebytes = ie.bytes := by
  simp [mkTy, isSA, Program.bytesOf, h]

/-- the cells of a slice's elements, side by side -/
theorem elems_cells {c : Co} {sz : Nat} {es : List (List V)} {b off : Nat} {cs : Array Value} {el : TypeId} {fz : Nat × Nat} (h : Elems w L l c sz es b off cs el fz) :
    ∃ news : List Value, news.length = es.length * sz ∧ (∀ (j : Nat) (u : Value), news[j]? = some u → w.cell? ((⟨b, off, none⟩ : Addr).add j) = some u) ∧ (∀ u ∈ news, u.oneCell' = true) ∧
      ∀ (i : Nat) (e : List V) (j : Nat) (v : V) (x : Value), es[i]? = some e → e[j]? = some v → news[i * sz + j]? = some x → SR w L l c v x ∧ x.oneCell' = true := by
  have hlen : ((cs.toList.drop off).take (es.length * sz)).length = es.length * sz := by
    have := h.room
    simp; omega
  have get : ∀ (j : Nat) (u : Value), ((cs.toList.drop off).take (es.length * sz))[j]? = some u → cs[off + j]? = some u ∧ j < es.length * sz := by
    intro j u hj
    rw [List.getElem?_take] at hj
    split at hj
    · rename_i hq; exact ⟨by simpa using hj, hq⟩
    · cases hj
  refine ⟨(cs.toList.drop off).take (es.length * sz), hlen, fun j u hj => ?_, ?_, ?_⟩
  · rw [add_pair, cell_at h.heap]; exact (get j u hj).1
  · intro u hu
    obtain ⟨j, hj⟩ := List.getElem?_of_mem hu
    obtain ⟨h1, h2⟩ := get j u hj
    have hsz : 0 < sz := by
      rcases Nat.eq_zero_or_pos sz with h0 | h0
      · rw [h0] at h2; simp at h2
      · exact h0
    have hi : j / sz < es.length := (Nat.div_lt_iff_lt_mul hsz).2 h2
    have hm : j % sz < sz := Nat.mod_lt _ hsz
    have he := h.len es[j / sz] (List.getElem_mem hi)
    refine (h.val (j / sz) es[j / sz] (j % sz) (es[j / sz])[j % sz] u (by simp [hi]) (by simp [he, hm]) ?_).2
    have : off + j / sz * sz + j % sz = off + j := by rw [Nat.add_assoc, Nat.mul_comm, Nat.div_add_mod]
    rw [this]; exact h1
  · intro i e j v x p q r
    have := (get _ x r).1
    rw [← Nat.add_assoc] at this
    exact h.val i e j v x p q this

theorem append_get {es es2 : List (List V)} {i : Nat} {e : List V} (h : (es ++ es2)[i]? = some e) : (i < es.length ∧ es[i]? = some e) ∨ (es.length ≤ i ∧ es2[i - es.length]? = some e) := by
  by_cases hi : i < es.length
  · rw [List.getElem?_append_left hi] at h; exact .inl ⟨hi, h⟩
  · rw [List.getElem?_append_right (by omega)] at h; exact .inr ⟨by omega, h⟩

end Go.Ai
