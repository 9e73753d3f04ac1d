/- Texts of the abstract interpreter and of its contracts. -/
import Derived.Test.YtghhjkblhchhmaaCa
import Derived.ArgAppend
namespace Go.Ai
open Go
variable {P : Program} {w : World} {L : Nat → Prop} {l : Lay} {s : St} {a : Act}

structure Cont (w : World) (L : Nat → Prop) (l : Lay) (c : Co) (sz : Nat) (es : List (List V)) (vs : List Value) : Prop where
  size : vs.length = es.length * sz
  len : ∀ e ∈ es, e.length = sz
  val : ∀ (i : Nat) (e : List V) (j : Nat) (v : V) (x : Value), es[i]? = some e → e[j]? = some v → vs[i * sz + j]? = some x → SR w L l c v x ∧ x.oneCell' = true

theorem Cont.nil {c : Co} {sz : Nat} : Cont w L l c sz [] [] := ⟨by simp, by simp, fun i e j v x h => by simp at h⟩

theorem Cont.append {c : Co} {sz : Nat} {es es2 : List (List V)} {vs vs2 : List Value} (h : Cont w L l c sz es vs) (h2 : Cont w L l c sz es2 vs2) : Cont w L l c sz (es ++ es2) (vs ++ vs2) where
  size := by simp [h.size, h2.size, Nat.add_mul]
  len := fun e he => (List.mem_append.1 he).elim (h.len e) (h2.len e)
  val := fun i e j v x p q r => by
    rcases append_get p with ⟨hi, he⟩ | ⟨hi, he⟩
    · have hj : j < sz := by rw [← h.len e (List.mem_of_getElem? he)]; exact (List.getElem?_eq_some_iff.1 q).1
      have : i * sz + j < vs.length := by
        rw [h.size]
        have : i * sz + sz ≤ es.length * sz := by rw [← Nat.succ_mul]; exact Nat.mul_le_mul_right _ hi
        omega
      rw [List.getElem?_append_left this] at r
      exact h.val i e j v x he q r
    · have e1 : i * sz + j = vs.length + ((i - es.length) * sz + j) := by
        rw [h.size]
        have : i * sz = es.length * sz + (i - es.length) * sz := by rw [← Nat.add_mul]; congr 1; omega
        omega
      rw [e1, List.getElem?_append_right (by omega)] at r
      exact h2.val (i - es.length) e j v x he q (by simpa using r)

theorem Cont.fr {w' : World} {l' : Lay} {c c' : Co} {sz : Nat} {es : List (List V)} {vs : List Value} (h : Cont w L l c sz es vs) (hF : Fr w l c w' l' c') : Cont w' L l' c' sz es vs :=
  ⟨h.size, h.len, fun i e j v x p q r => ⟨hF.rr (h.val i e j v x p q r).1, (h.val i e j v x p q r).2⟩⟩

theorem Cont.obj {c : Co} {k b n : Nat} {o : Obj} {vs : List Value} {cs : Array Value} (h : Cont w L l c o.sz o.es vs) (hrow : o.row = true) (hb : l.ι k = some b) (hk : l.κ k = n)
    (hheap : w.heap[b]? = some (.cells cs o.el (0, 0))) (hsz : cs.size = n * o.sz) (hn : o.es.length ≤ n) (hm : n ≤ maxLen) (hnl : o.nl = true → o.es ≠ []) (hcs : ∀ p, p < o.es.length * o.sz → cs[p]? = vs[p]?) : ObjR w L l c k o := by
  have val : ∀ (i : Nat) (e : List V) (j : Nat) (v : V) (x : Value), o.es[i]? = some e → e[j]? = some v → cs[i * o.sz + j]? = some x → SR w L l c v x ∧ x.oneCell' = true := by
    intro i e j v x p q r
    have hi : i < o.es.length := (List.getElem?_eq_some_iff.1 p).1
    have hj : j < o.sz := by rw [← h.len e (List.mem_of_getElem? p)]; exact (List.getElem?_eq_some_iff.1 q).1
    have : i * o.sz + o.sz ≤ o.es.length * o.sz := by rw [← Nat.succ_mul]; exact Nat.mul_le_mul_right _ hi
    rw [hcs _ (by omega)] at r
    exact h.val i e j v x p q r
  exact .inr ⟨b, cs, {
    at_ := hb, heap := hheap, size := by rw [hk]; exact hsz, fits := by rw [hk]; exact hn, cap := by rw [hk]; exact hm, box := (fun hh => by rw [hrow] at hh; cases hh), nl := hnl, len := h.len
    val := fun i e j v u p q r => .rr (val i e j v u p q r).1
    one := fun i e j v u p q r => (val i e j v u p q r).2
    still := fun _ i e j v u p q r => (val i e j v u p q r).1 }⟩

/-- what an object's row lies in -/
theorem Lies.cont {k b : Nat} {o : Obj} {cs : Array Value} (h : Lies w L l s.co k o b cs) (hrow : o.row = true) : Cont w L l s.co o.sz o.es (cs.toList.take (o.es.length * o.sz)) ∧ o.es.length * o.sz ≤ cs.size := by
  have hle : o.es.length * o.sz ≤ cs.size := by rw [h.size]; exact Nat.mul_le_mul_right _ h.fits
  refine ⟨⟨by simp; omega, h.len, fun i e j v x p q r => ?_⟩, hle⟩
  rw [List.getElem?_take] at r
  split at r
  · rw [Array.getElem?_toList] at r
    exact ⟨h.still hrow i e j v x p q r, h.one i e j v x p q r⟩
  · cases r

theorem run_append_none_some (t ty e : TypeId) (i : TypeInfo) (ht : P.underlying t = some (.slice e)) (hi : P.info? e = some i) (ad : Addr) (cap : Nat) (w : World) :
    (Builtin.append_ #[t, t] ty #[.slice none 0 0, .slice (some ad) 0 cap]).run P w = .ok (.slice none 0 0) w := by
  simp [Builtin.append_, run_underlying ht, sizeOf, typeInfo, hi, Builtin.lenOf, Builtin.firstCells, loadCells, loadCellsFrom]

theorem run_append_none_none (t ty e : TypeId) (i : TypeInfo) (ht : P.underlying t = some (.slice e)) (hi : P.info? e = some i) (w : World) :
    (Builtin.append_ #[t, t] ty #[.slice none 0 0, .slice none 0 0]).run P w = .ok (.slice none 0 0) w := by
  simp [Builtin.append_, run_underlying ht, sizeOf, typeInfo, hi, Builtin.lenOf, Builtin.firstCells]

theorem run_append_some_none (t ty e : TypeId) (i : TypeInfo) (ht : P.underlying t = some (.slice e)) (hi : P.info? e = some i) (ad : Addr) (n cap : Nat) (h : n ≤ cap) (w : World) :
    (Builtin.append_ #[t, t] ty #[.slice (some ad) n cap, .slice none 0 0]).run P w = .ok (.slice (some ad) n cap) w := by
  simp [Builtin.append_, run_underlying ht, sizeOf, typeInfo, hi, Builtin.lenOf, Builtin.firstCells, h, storeCells]

/-- the source's cells -/
theorem source (h : Rel w L l s a) {v : V} {u : Value} (hv : SV w L l s.co v u) {sz sz' : Nat} {es : List (List V)} (he : s.co.elems v = some (sz', es)) (hs : sz' = sz ∨ es = []) :
    (es = [] ∧ u = .slice none 0 0) ∨ ∃ ad cap news, u = .slice (some ad) es.length cap ∧ Cont w L l s.co sz es news ∧
      (∀ (j : Nat) (x : Value), news[j]? = some x → w.cell? (ad.add j) = some x) ∧ ∀ x ∈ news, x.oneCell' = true := by
  rcases elems_sound h hv he with h1 | ⟨b, off, cap, cs, el, fz, rfl, hcap, hE⟩
  · exact .inl h1
  · right
    rcases hs with rfl | rfl
    · obtain ⟨news, h1, h2, h3, h4⟩ := elems_cells hE
      exact ⟨_, cap, news, rfl, ⟨h1, hE.len, h4⟩, h2, h3⟩
    · exact ⟨_, cap, [], rfl, Cont.nil, fun j x hj => by simp at hj, fun x hx => by simp at hx⟩

theorem row_sv {c : Co} {k sz n b : Nat} {l' : Lay} {w' : World} (hz : k ∉ c.z) (hb : l'.ι k = some b) (hn : n ≤ l'.κ k) : SV w' L l' c (.row k sz 0 n) (.slice (some ⟨b, 0, none⟩) n (l'.κ k)) := by
  have := VR.row (w := w') (ok := okB w' L l' c) (okb := okbB w' l' c) (l := l') (Z := ZB c) (k := k) (sz := sz) (lo := 0) (hi := n) (b := b) hz hb (Nat.zero_le _) hn
  simpa using this

end Go.Ai

namespace Go.Ai
open Go
variable {P : Program} {w : World} {L : Nat → Prop} {l : Lay} {s : St} {a : Act}

theorem take_get {cs : Array Value} {n p : Nat} (h : p < n) : (cs.toList.take n)[p]? = cs[p]? := by
  rw [List.getElem?_take, if_pos h, Array.getElem?_toList]

/-- the new block that append lays -/
theorem grown_get (vs : List Value) (z : Array Value) (p : Nat) (h : p < vs.length) (r : Nat) : (vs.toArray ++ Builtin.zeroCells z r)[p]? = vs[p]? := by
  rw [Array.getElem?_append_left (by simpa using h)]; simp


/-- the arm with room -/
theorem run_append_at (t ty e : TypeId) (i : TypeInfo) (ht : P.underlying t = some (.slice e)) (hi : P.info? e = some i)
    (b off sLen sCap : Nat) (ad : Addr) (m c : Nat) (news : List Value) (cs : Array Value) (el : TypeId) (hl : news.length = m * i.size) (hnews : ∀ j u, news[j]? = some u → w.cell? (ad.add j) = some u)
    (h1 : ∀ u ∈ news, u.oneCell' = true) (hroom : sLen + m ≤ sCap) (hb : w.heap[b]? = some (.cells cs el (0, 0))) (hf : off + sLen * i.size + news.length ≤ cs.size) :
    (Builtin.append_ #[t, t] ty #[.slice (some ⟨b, off, none⟩) sLen sCap, .slice (some ad) m c]).run P w = .ok (.slice (some ⟨b, off, none⟩) (sLen + m) sCap)
      (w.setRow b (cs.toList.take (off + sLen * i.size) ++ news ++ cs.toList.drop (off + sLen * i.size + news.length)).toArray) := by
  have hfc := run_firstCells_some (P := P) w i.size m ad m c news hl hnews
  have hst := run_storeCells_at P b (off + sLen * i.size) el news 0 cs w hb (by simpa using hf) h1
  simp only [Nat.add_zero] at hst
  simp [Builtin.append_, run_underlying ht, sizeOf, typeInfo, hi, Builtin.lenOf, hroom, hfc, Addr.add_lit, hst]

theorem append_sound {d : Option Tmp} {ts : Array TypeId} {x y : Operand} {typ : TypeId} {s' : St} (h : Rel w L l s a) (hd : ∀ q, d = some q → q < a.tmps.size) (hs : stepAppend P s d ts.toList x y = some s') :
    ∃ u w' l', (Builtin.append_ ts typ #[a.eval x, a.eval y]).run P w = .ok u w' ∧ Rel w' L l' s' (a.put d u) ∧ Fr w l s.co w' l' s'.co := by
  unfold stepAppend at hs
  split at hs <;> try (cases hs; done)
  rename_i t t' hts
  have hts' : ts = #[t, t'] := by rw [← Array.toArray_toList (xs := ts), hts]
  subst hts'
  split at hs <;> try (cases hs; done)
  rename_i htt; subst htt
  simp only [Option.bind_eq_some_iff] at hs
  obtain ⟨T, hT, d, rfl, E, hE, hs⟩ := hs
  split at hs <;> try (cases hs; done)
  rename_i hEz
  simp only [Option.bind_eq_some_iff] at hs
  obtain ⟨⟨sz, es⟩, hes, hs⟩ := hs
  obtain ⟨it, dd, z, hi, hdd, hz, rfl⟩ := ty_spec hT
  obtain ⟨ie, de, ze, hie, hde, hze, rfl⟩ := ty_spec hE
  have hzsz : ze.cells.size = ie.size := by simpa [mkTy] using hEz
  have hx := h.ev x
  have hy := h.ev y
  -- the type's facts
  have facts : ∀ n m, appendOk (mkTy P it dd z) n m = true → ∃ e, dd = .slice e ∧ P.info? e = some ie ∧ (mkTy P it dd z).esz = ie.size ∧ (mkTy P it dd z).elem = e ∧ ie.size ≠ 0 ∧ n + m ≤ maxLen ∧ (n + m) * ie.bytes ≤ 140737488355328 := by
    intro n m hh
    simp only [appendOk, Bool.and_eq_true, bne_iff_ne, decide_eq_true_eq] at hh
    obtain ⟨⟨⟨h1, h2⟩, h3⟩, h4⟩ := hh
    obtain ⟨e, rfl⟩ := isSlice_spec h1
    obtain ⟨e', ie', hde', hie', he1, hel⟩ := esz_spec h2
    have hee : e = e' := by
      rcases hde' with h5 | ⟨m', h5⟩
      · cases h5; rfl
      · cases h5
    subst hee
    rw [hel, hie'] at hie
    have : ie' = ie := Option.some.inj hie
    subst this
    rw [ebytes_spec hie'] at h4
    exact ⟨e, rfl, hie', he1, hel, by rw [← he1]; exact h2, h3, h4⟩
  split at hs
  · -- onto a row of the activation's own
    rename_i k szk lo hi' hxv
    simp only [Option.bind_eq_some_iff] at hs
    obtain ⟨o, ho, hs⟩ := hs
    split at hs <;> try (cases hs; done)
    rename_i hc
    obtain ⟨hdz, hrow, rfl, rfl, rfl, hosz, hoel, hsz, hok⟩ := hc
    simp only [Option.some.injEq] at hs; subst hs
    obtain ⟨e, rfl, hie', he1, hel, hie0', hmax, hbytes⟩ := facts _ _ hok
    rw [hel] at hoel
    rw [he1] at hosz hsz ⊢
    rw [hxv] at hx
    generalize ho' : ({ o with es := o.es ++ es } : Obj) = o'
    have ho'row : o'.row = true := by subst ho'; exact hrow
    have ho'el : o'.el = e := by subst ho'; exact hoel
    have ho'sz : o'.sz = ie.size := by subst ho'; exact hosz
    have ho'es : o'.es = o.es ++ es := by subst ho'; rfl
    have ho'nl : o'.nl = o.nl := by subst ho'; rfl
    have hz' : d ∉ (s.co.over k d o').z := fun hh => ((z_over d).1 hh).2 rfl
    -- how it ends
    have fin : ∀ (b : Nat) (n' : Nat) (cs : Array Value) (w' : World) (vs : List Value), Over w w' l s.co k d (some b) → Cont w L l s.co ie.size (o.es ++ es) vs → w'.heap[b]? = some (.cells cs e (0, 0)) → cs.size = n' * ie.size →
        o.es.length + es.length ≤ n' → n' ≤ maxLen → (o.nl = true → o.es ++ es ≠ []) → (∀ p, p < (o.es.length + es.length) * ie.size → cs[p]? = vs[p]?) →
        Rel w' L (l.set d (some b) n') (St.push { s with co := s.co.over k d o' } d (.row d ie.size 0 (o.es.length + es.length))) (a.put (some d) (.slice (some ⟨b, 0, none⟩) (o.es.length + es.length) n')) ∧
        Fr w l s.co w' (l.set d (some b) n') (s.co.over k d o') := by
      intro b n' cs w' vs hr hcont hheap hsz' hn hm hnl hcs
      have hF : Fr w l s.co w' (l.set d (some b) n') (s.co.over k d o') := over_fr hr
      refine ⟨?_, hF⟩
      have hO : ObjR w' L (l.set d (some b) n') (s.co.over k d o') d o' := by
        refine Cont.obj (vs := vs) (cs := cs) (b := b) (n := n') ?_ ho'row (by simp [Lay.set]) (by simp [Lay.set]) (by rw [ho'el]; exact hheap) (by rw [ho'sz]; exact hsz') (by rw [ho'es]; simpa using hn) hm (by rw [ho'nl, ho'es]; exact hnl) (by rw [ho'es, ho'sz]; simpa using hcs)
        rw [ho'sz, ho'es]
        exact hcont.fr hF
      have hκ : (l.set d (some b) n').κ d = n' := by simp [Lay.set]
      have := row_sv (w' := w') (L := L) (sz := ie.size) (n := o.es.length + es.length) hz' (l' := l.set d (some b) n') (b := b) (by simp [Lay.set]) (by rw [hκ]; exact hn)
      rw [hκ] at this
      exact (h.over hr hO).push this d (hd d rfl)
    rcases h.objs k o ho with ⟨_, hnl, hnil, hιn⟩ | ⟨b, cs, hl⟩
    · -- an empty one that lies nowhere
      have hxe : a.eval x = .slice none 0 0 := by
        rcases hx.row_inv with ⟨_, _, _, _, he⟩ | ⟨b, hb, _⟩
        · exact he
        · rw [hιn] at hb; cases hb
      have none_fin : es = [] → Rel w L (l.set d none 0) (St.push { s with co := s.co.over k d o' } d (.row d ie.size 0 (o.es.length + es.length))) (a.put (some d) (.slice none 0 0)) ∧
          Fr w l s.co w (l.set d none 0) (s.co.over k d o') := by
        intro hes0
        have hr : Over w w l s.co k d none := ⟨⟨o, ho⟩, hdz, Nat.le_refl _, (fun _ e => by cases e), (fun _ _ _ => rfl), ⟨rfl, rfl⟩⟩
        refine ⟨?_, over_fr hr⟩
        refine (h.over hr (.inl ⟨ho'row, by rw [ho'nl]; exact hnl, by rw [ho'es, hnil, hes0]; rfl, by simp [Lay.set]⟩)).push ?_ d (hd d rfl)
        rw [hnil, hes0]
        exact VR.rnil _ hz' (by simp [Lay.set])
      rcases source h hy hes hsz with ⟨hes0, hye⟩ | ⟨ad, cap, news, hye, hcont, hcells, hone⟩
      · have := none_fin hes0
        exact ⟨_, w, _, by rw [hxe, hye]; exact run_append_none_none t typ e ie hdd hie' w, this⟩
      · by_cases hes0 : es = []
        · have := none_fin hes0
          refine ⟨_, w, _, ?_, this⟩
          rw [hxe, hye, hes0]
          exact run_append_none_some t typ e ie hdd hie' ad cap w
        · have hpos : 0 < es.length := List.length_pos_iff.2 hes0
          have hon : o.es.length = 0 := by rw [hnil]; rfl
          rw [hon, Nat.zero_add] at hmax hbytes
          have hrun := run_append_nil (P := P) w t typ e ie ze hdd hie' hze ad es.length cap news hcont.size hcells hpos (by simp only [maxLen] at hmax; omega) (by omega)
          have hge := grownCap_ge w es.length 0 e
          have hcm := grownCap_le_maxLen w es.length 0 e hmax
          generalize grownCap w es.length 0 e = n' at hrun hge hcm
          have := fin w.heap.size n' (news.toArray ++ Builtin.zeroCells ze.cells (n' - es.length))
            (w.drew.alloc (.cells (news.toArray ++ Builtin.zeroCells ze.cells (n' - es.length)) e)) news
            ⟨⟨o, ho⟩, hdz, (by simp), (fun q hq => by cases hq; simp), (fun q hq _ => heap_alloc_old w.drew _ q hq), ⟨rfl, rfl⟩⟩
            (by rw [hnil]; simpa using hcont) (heap_alloc_new w.drew _) (by
              simp only [Array.size_append, List.size_toArray, size_zeroCells, hzsz, hcont.size, ← Nat.add_mul]
              congr 1; omega) (by omega) hcm (fun _ hh => hes0 (List.append_eq_nil_iff.1 hh).2) (fun p hp => grown_get news ze.cells p (by rw [hcont.size]; rw [hon] at hp; simpa using hp) _)
          rw [hon, Nat.zero_add] at this ⊢
          refine ⟨_, _, _, ?_, this⟩
          rw [hxe, hye]
          exact hrun
    · -- one that lies
      have hb := hl.at_
      have hxe : a.eval x = .slice (some ⟨b, 0, none⟩) o.es.length (l.κ k) := by
        rcases hx.row_inv with ⟨_, _, _, hn, _⟩ | ⟨b', hk, _, _, _, he⟩
        · rw [hb] at hn; cases hn
        · rw [hb] at hk; cases hk; simpa using he
      obtain ⟨hco, hcl⟩ := hl.cont (s := s) hrow
      rw [hosz] at hco hcl
      have hblt := (h.lt k o b ho hb).1
      have same : es = [] → Rel w L (l.set d (some b) (l.κ k)) (St.push { s with co := s.co.over k d o' } d (.row d ie.size 0 (o.es.length + es.length))) (a.put (some d) (.slice (some ⟨b, 0, none⟩) (o.es.length + es.length) (l.κ k))) ∧
          Fr w l s.co w (l.set d (some b) (l.κ k)) (s.co.over k d o') := by
        intro hes0
        refine fin b (l.κ k) cs w (cs.toList.take (o.es.length * ie.size)) ⟨⟨o, ho⟩, hdz, Nat.le_refl _, (fun q hq => by cases hq; exact ⟨hblt, .inl hb⟩), (fun _ _ _ => rfl), ⟨rfl, rfl⟩⟩ (by rw [hes0]; simpa using hco)
          (by rw [← hoel]; exact hl.heap) (by rw [← hosz]; exact hl.size) (by rw [hes0]; simpa using hl.fits) hl.cap (fun hh => by rw [hes0]; simpa using hl.nl hh) (fun p hp => ?_)
        rw [take_get (by rw [hes0] at hp; simpa using hp)]
      rcases source h hy hes hsz with ⟨hes0, hye⟩ | ⟨ad, cap, news, hye, hcont, hcells, hone⟩
      · refine ⟨_, w, _, ?_, same hes0⟩
        rw [hxe, hye, hes0]
        exact run_append_some_none t typ e ie hdd hie' _ _ _ hl.fits w
      · have hnl : o.nl = true → o.es ++ es ≠ [] := fun hh hc => hl.nl hh (List.append_eq_nil_iff.1 hc).1
        have hall := hco.append hcont
        have hcs' := hl.size
        rw [hosz] at hcs'
        by_cases hroom : o.es.length + es.length ≤ l.κ k
        · have hle : (o.es.length + es.length) * ie.size ≤ cs.size := by rw [hcs']; exact Nat.mul_le_mul_right _ hroom
          rw [Nat.add_mul] at hle
          have hrun := run_append_at (P := P) (w := w) t typ e ie hdd hie' b 0 o.es.length (l.κ k) ad es.length cap news cs o.el hcont.size hcells hone hroom hl.heap (by rw [hcont.size]; omega)
          rw [Nat.zero_add] at hrun
          generalize hc' : (cs.toList.take (o.es.length * ie.size) ++ news ++ cs.toList.drop (o.es.length * ie.size + news.length)).toArray = cs' at hrun
          have := fin b (l.κ k) cs' (w.setRow b cs') (cs.toList.take (o.es.length * ie.size) ++ news)
            ⟨⟨o, ho⟩, hdz, (by simp), (fun q hq => by cases hq; exact ⟨by simpa using hblt, .inl hb⟩), (fun q _ hn => setRow_other w b q cs' (fun e => hn (e ▸ hb))), ⟨rfl, rfl⟩⟩
            hall (by rw [← hoel]; exact setRow_heap w b cs cs' o.el (0, 0) hl.heap) (by
              rw [← hcs', ← hc']
              have := hcont.size
              simp; omega) hroom hl.cap hnl (fun p hp => by
              rw [← hc', List.getElem?_toArray]
              rw [List.getElem?_append_left]
              rw [Nat.add_mul] at hp
              have := hcont.size
              simp; omega)
          refine ⟨_, _, _, ?_, this⟩
          rw [hxe, hye]
          exact hrun
        · have hmb : ((o.es.length + es.length : Nat) : Int) ≤ 9223372036854775807 := by simp only [maxLen] at hmax; omega
          have hrun := run_append_grow (P := P) w t typ e ie ze hdd hie' hze ⟨b, 0, none⟩ o.es.length (l.κ k) (cs.toList.take (o.es.length * ie.size)) hco.size (by
              intro j u hj
              rw [List.getElem?_take] at hj
              split at hj
              · rw [add_pair, cell_at hl.heap]; simpa using hj
              · cases hj) ad es.length cap news hcont.size hcells (by omega) hmb (growslice_fits (by omega) hbytes)
          have hge := grownCap_ge w (o.es.length + es.length) (l.κ k) e
          have hcm := grownCap_le_maxLen w (o.es.length + es.length) (l.κ k) e hmax
          generalize grownCap w (o.es.length + es.length) (l.κ k) e = n' at hrun hge hcm
          generalize hc' : ((cs.toList.take (o.es.length * ie.size)).toArray ++ news.toArray ++ Builtin.zeroCells ze.cells (n' - (o.es.length + es.length))) = cs' at hrun
          have := fin w.heap.size n' cs' (w.drew.alloc (.cells cs' e)) (cs.toList.take (o.es.length * ie.size) ++ news)
            ⟨⟨o, ho⟩, hdz, (by simp), (fun q hq => by cases hq; simp), (fun q hq _ => heap_alloc_old w.drew _ q hq), ⟨rfl, rfl⟩⟩
            hall (heap_alloc_new w.drew _) (by
              rw [← hc']
              simp only [Array.size_append, List.size_toArray, size_zeroCells, hzsz, hcont.size, hco.size, ← Nat.add_mul]
              congr 1; omega) hge hcm hnl (fun p hp => by
              rw [← hc', show (cs.toList.take (o.es.length * ie.size)).toArray ++ news.toArray = (cs.toList.take (o.es.length * ie.size) ++ news).toArray from by simp]
              exact grown_get _ ze.cells p (by rw [hall.size]; simpa using hp) _)
          refine ⟨_, _, _, ?_, this⟩
          rw [hxe, hye]
          exact hrun
  · -- onto nil
    rename_i br szk hxv
    split at hs <;> try (cases hs; done)
    rename_i hc
    obtain ⟨hdz, hsz, hok⟩ := hc
    simp only [Option.some.injEq] at hs; subst hs
    obtain ⟨e, rfl, hie', he1, hel, hie0', hmax, hbytes⟩ := facts _ _ hok
    rw [he1] at hsz ⊢
    rw [hel]
    rw [hxv] at hx
    rw [Nat.zero_add] at hmax hbytes
    dsimp only at hmax hbytes
    have hxe : a.eval x = .slice none 0 0 := by
      generalize a.eval x = u at hx
      cases hx with
      | rr hr => cases hr with
        | snil => rfl
        | sl hok hb hnl hcap hsz hlen hc h1 => exact absurd rfl (hnl rfl)
      | bnil => rfl
      | bsl hok hb hnl hcap hsz hlen hc h1 => exact absurd rfl (hnl rfl)
    have hz' : d ∉ (s.co.birth d ⟨true, true, e, ie.size, es⟩).z := by simp [Co.birth]
    have none_fin : es = [] → Rel w L (l.set d none 0) (St.push { s with co := s.co.birth d ⟨true, true, e, ie.size, es⟩ } d (.row d ie.size 0 es.length)) (a.put (some d) (.slice none 0 0)) ∧
        Fr w l s.co w (l.set d none 0) (s.co.birth d ⟨true, true, e, ie.size, es⟩) := by
      intro hes0
      subst hes0
      refine ⟨?_, Fr.birth (fun _ hh => by cases hh) (Nat.le_refl _) (fun _ _ => rfl)⟩
      exact (h.birth hdz (fun _ hh => by cases hh) (Nat.le_refl _) (fun _ _ => rfl) (.inl ⟨rfl, rfl, rfl, by simp [Lay.set]⟩)).push (.rnil _ hz' (by simp [Lay.set])) d (hd d rfl)
    rcases source h hy hes hsz with ⟨hes0, hye⟩ | ⟨ad, cap, news, hye, hcont, hcells, hone⟩
    · exact ⟨_, w, _, by rw [hxe, hye]; exact run_append_none_none t typ e ie hdd hie' w, none_fin hes0⟩
    · by_cases hes0 : es = []
      · refine ⟨_, w, _, ?_, none_fin hes0⟩
        rw [hxe, hye, hes0]
        exact run_append_none_some t typ e ie hdd hie' ad cap w
      · have hpos : 0 < es.length := List.length_pos_iff.2 hes0
        have hrun := run_append_nil (P := P) w t typ e ie ze hdd hie' hze ad es.length cap news hcont.size hcells hpos (by simp only [maxLen] at hmax; omega) (by omega)
        have hge := grownCap_ge w es.length 0 e
        have hcm := grownCap_le_maxLen w es.length 0 e hmax
        generalize grownCap w es.length 0 e = n' at hrun hge hcm
        have hF : Fr w l s.co (w.drew.alloc (.cells (news.toArray ++ Builtin.zeroCells ze.cells (n' - es.length)) e)) (l.set d (some w.heap.size) n') (s.co.birth d ⟨true, true, e, ie.size, es⟩) :=
          Fr.birth (fun _ hh => by cases hh; exact Nat.le_refl _) (by simp) (fun q hq => heap_alloc_old w.drew _ q hq)
        have hκ : (l.set d (some w.heap.size) n').κ d = n' := by simp [Lay.set]
        have hrow := row_sv (w' := w.drew.alloc (.cells (news.toArray ++ Builtin.zeroCells ze.cells (n' - es.length)) e)) (L := L) (sz := ie.size) (n := es.length) hz' (l' := l.set d (some w.heap.size) n') (b := w.heap.size) (by simp [Lay.set]) (by rw [hκ]; exact hge)
        rw [hκ] at hrow
        refine ⟨_, _, _, by rw [hxe, hye]; exact hrun, Rel.push (Rel.birth h hdz (fun q hq => by cases hq; simp) (by simp) (fun q hq => heap_alloc_old w.drew _ q hq) ?_) hrow d (hd d rfl), hF⟩
        refine Cont.obj (vs := news) (cs := news.toArray ++ Builtin.zeroCells ze.cells (n' - es.length)) (b := w.heap.size) (n := n') (hcont.fr hF) rfl (by simp [Lay.set]) hκ (heap_alloc_new w.drew _) (by
            simp only [Array.size_append, List.size_toArray, size_zeroCells, hzsz, hcont.size, ← Nat.add_mul]
            congr 1; omega) hge hcm (fun _ => hes0) (fun p hp => grown_get news ze.cells p (by rw [hcont.size]; exact hp) _)
  · cases hs

end Go.Ai

namespace Go.Ai
open Go
variable {P : Program} {w : World} {L : Nat → Prop} {l : Lay} {s : St} {a : Act}

/-! ## An object takes another name, that nothing bears -/

mutual
def V.ren (k k' : Nat) : V → V
  | .row j sz lo hi => if j = k then .row k' sz lo hi else .row j sz lo hi
  | .ptr j sz i off => if j = k then .ptr k' sz i off else .ptr j sz i off
  | .agg cs => .agg (renL k k' cs)
  | .tup cs => .tup (renL k k' cs)
  | .ro br cs => .ro br (renL k k' cs)
  | .fn f a b => .fn f (renL k k' a) (renL k k' b)
  | .own _ _ _ _ => .undef
  | v => v
def renL (k k' : Nat) : List V → List V
  | [] => []
  | v :: r => v.ren k k' :: renL k k' r
end

theorem renL_eq (k k' : Nat) (vs : List V) : renL k k' vs = vs.map (V.ren k k') := by
  induction vs with
  | nil => rfl
  | cons v r ih => simp [renL, ih]

def Obj.ren (k k' : Nat) (o : Obj) : Obj := if o.row then o else { o with es := o.es.map fun e => e.map (V.ren k k') }

def mvK (k k' : Nat) (j : Nat) : Nat := if j = k then k' else j

/-- k' bears no object, and is named nowhere ('z') -/
def Co.ren (c : Co) (k k' : Nat) : Co := { ob := (c.ob.filter fun p => p.1 ≠ k').map fun p => (mvK k k' p.1, p.2.ren k k'), z := k :: c.z.filter (· ≠ k') }

def St.ren (s : St) (k k' : Nat) : St := { s with σ := s.σ.map fun p => (p.1, p.2.ren k k'), co := s.co.ren k k' }

theorem RR.ren {w : World} {ok : Nat → Prop} {v : V} {u : Value} (k k' : Nat) (hr : RR w ok v u) : RR w ok (v.ren k k') u := by
  induction hr with
  | ro hok hb hsz hc ih =>
    simp only [V.ren, renL_eq]
    refine .ro hok hb (by simpa using hsz) fun j v u hj hu => ?_
    simp only [List.getElem?_map, Option.map_eq_some_iff] at hj
    obtain ⟨v', hv', rfl⟩ := hj
    exact ih j v' u hv' hu
  | agg hs hc ih =>
    simp only [V.ren, renL_eq]
    refine .agg (by simpa using hs) fun j v u hj hu => ?_
    simp only [List.getElem?_map, Option.map_eq_some_iff] at hj
    obtain ⟨v', hv', rfl⟩ := hj
    exact ih j v' u hv' hu
  | fn hs ht ha hb iha ihb =>
    simp only [V.ren, renL_eq]
    refine .fn (by simpa using hs) (by simpa using ht) (fun j v u hj hu => ?_) (fun j v u hj hu => ?_)
    · simp only [List.getElem?_map, Option.map_eq_some_iff] at hj
      obtain ⟨v', hv', rfl⟩ := hj
      exact iha j v' u hv' hu
    · simp only [List.getElem?_map, Option.map_eq_some_iff] at hj
      obtain ⟨v', hv', rfl⟩ := hj
      exact ihb j v' u hv' hu
  | sl hok hb hnl hcap hsz hlen hc h1 ih => simp only [V.ren]; exact .sl hok hb hnl hcap hsz hlen hc h1
  | int k n => exact .int k n
  | bool b => exact .bool b
  | str s => exact .str s
  | nilp => exact .nilp
  | nilfn => exact .nilfn
  | nilif => exact .nilif
  | yl l => exact .yl l
  | undef u => exact .undef u
  | snil sz => exact .snil sz

theorem VR.ren {w : World} {ok okb : Nat → Prop} {l l' : Lay} {Z Z' : Nat → Prop} (k k' : Nat) (hk : l'.ι k' = l.ι k ∧ l'.κ k' = l.κ k) (hl : ∀ j, j ≠ k' → l'.ι j = l.ι j ∧ l'.κ j = l.κ j)
    (hz' : Z k') (hzk : ¬ Z k → ¬ Z' k') (hz : ∀ j, j ≠ k → ¬ Z j → ¬ Z' j) {v : V} {u : Value} (hr : VR w ok okb l Z v u) : VR w ok okb l' Z' (v.ren k k') u := by
  have move : ∀ j, ¬ Z j → ¬ Z' (mvK k k' j) ∧ l'.ι (mvK k k' j) = l.ι j ∧ l'.κ (mvK k k' j) = l.κ j := by
    intro j hj
    unfold mvK
    by_cases h : j = k
    · subst h; rw [if_pos rfl]; exact ⟨hzk hj, hk.1, hk.2⟩
    · rw [if_neg h]
      have hne : j ≠ k' := fun e => hj (e ▸ hz')
      exact ⟨hz j h hj, (hl j hne).1, (hl j hne).2⟩
  have row : ∀ j sz lo hi, V.ren k k' (.row j sz lo hi) = .row (mvK k k' j) sz lo hi := fun j sz lo hi => by simp only [V.ren, mvK]; split <;> rfl
  have ptr : ∀ j sz i off, V.ren k k' (.ptr j sz i off) = .ptr (mvK k k' j) sz i off := fun j sz i off => by simp only [V.ren, mvK]; split <;> rfl
  induction hr with
  | rr h0 => exact .rr (h0.ren k k')
  | bnil sz => exact .bnil sz
  | bsl hok hbb hnl hcap hsz hlen hc h1 => simp only [V.ren]; exact .bsl hok hbb hnl hcap hsz hlen hc h1
  | bro hok hbb hsz hc ih =>
    simp only [V.ren, renL_eq]
    refine .bro hok hbb (by simpa using hsz) fun j v u hj hu => ?_
    simp only [List.getElem?_map, Option.map_eq_some_iff] at hj
    obtain ⟨v', hv', rfl⟩ := hj
    exact ih j v' u hv' hu
  | rnil sz hzj hk =>
    rw [row]
    obtain ⟨h1, h2, h3⟩ := move _ hzj
    exact .rnil sz h1 (h2.trans hk)
  | row hzj hk hh hc =>
    rw [row]
    obtain ⟨h1, h2, h3⟩ := move _ hzj
    rw [← h3] at hc ⊢
    exact .row h1 (h2.trans hk) hh hc
  | ptr hzj hk =>
    rw [ptr]
    obtain ⟨h1, h2, h3⟩ := move _ hzj
    exact .ptr h1 (h2.trans hk)
  | agg hs hc ih =>
    simp only [V.ren, renL_eq]
    refine .agg (by simpa using hs) fun j v u hj hu => ?_
    simp only [List.getElem?_map, Option.map_eq_some_iff] at hj
    obtain ⟨v', hv', rfl⟩ := hj
    exact ih j v' u hv' hu
  | tup hs hc ih =>
    simp only [V.ren, renL_eq]
    refine .tup (by simpa using hs) fun j v u hj hu => ?_
    simp only [List.getElem?_map, Option.map_eq_some_iff] at hj
    obtain ⟨v', hv', rfl⟩ := hj
    exact ih j v' u hv' hu
  | fn hs ht ha hb iha ihb =>
    simp only [V.ren, renL_eq]
    refine .fn (by simpa using hs) (by simpa using ht) (fun j v u hj hu => ?_) (fun j v u hj hu => ?_)
    · simp only [List.getElem?_map, Option.map_eq_some_iff] at hj
      obtain ⟨v', hv', rfl⟩ := hj
      exact iha j v' u hv' hu
    · simp only [List.getElem?_map, Option.map_eq_some_iff] at hj
      obtain ⟨v', hv', rfl⟩ := hj
      exact ihb j v' u hv' hu

theorem lk_filter {α : Type} (r : List (Nat × α)) (k' j : Nat) : lk (r.filter fun p => p.1 ≠ k') j = if j = k' then none else lk r j := by
  induction r with
  | nil => simp [lk]
  | cons p r ih =>
    obtain ⟨i, x⟩ := p
    by_cases h : i = k'
    · subst h
      rw [List.filter_cons_of_neg (by simp), ih, lk_cons]
      by_cases h1 : j = i
      · simp [h1]
      · rw [if_neg h1, if_neg h1, if_neg (fun e => h1 e.symm)]
    · rw [List.filter_cons_of_pos (by simpa using h), lk_cons, lk_cons, ih]
      by_cases h1 : i = j
      · subst h1; simp [h]
      · simp [h1]

theorem lk_mv {α β : Type} (g : α → β) (k k' : Nat) : ∀ (r : List (Nat × α)), lk r k' = none → ∀ j y, lk (r.map fun p => (mvK k k' p.1, g p.2)) j = some y → ∃ i x, lk r i = some x ∧ y = g x ∧ j = mvK k k' i := by
  intro r
  induction r with
  | nil => intro _ j y h; simp [lk] at h
  | cons p r ih =>
    obtain ⟨i, x⟩ := p
    intro hn j y h
    rw [lk_cons] at hn
    split at hn
    · cases hn
    · rename_i hik
      simp only [List.map_cons, lk_cons] at h
      split at h
      · rename_i hj
        cases h
        exact ⟨i, x, by simp [lk_cons], rfl, hj.symm⟩
      · rename_i hj
        obtain ⟨i2, x2, h1, h2, h3⟩ := ih hn j y h
        refine ⟨i2, x2, ?_, h2, h3⟩
        rw [lk_cons, if_neg]
        · exact h1
        · intro e; subst e; exact hj h3.symm

theorem lk_ren {c : Co} {k k' : Nat} {j : Nat} {y : Obj} (h : lk (c.ren k k').ob j = some y) : ∃ i x, lk c.ob i = some x ∧ y = x.ren k k' ∧ j = mvK k k' i ∧ i ≠ k' := by
  obtain ⟨i, x, h1, h2, h3⟩ := lk_mv (Obj.ren k k') k k' _ (by rw [lk_filter, if_pos rfl]) j y h
  rw [lk_filter] at h1
  split at h1
  · cases h1
  · rename_i hi; exact ⟨i, x, h1, h2, h3, hi⟩

/-- the object k, if there is one, takes the name k' -/
theorem Rel.ren (h : Rel w L l s a) {k k' : Nat} (hz : k' ∈ s.co.z) (hne : k ≠ k') : Rel w L (l.set k' (l.ι k) (l.κ k)) (s.ren k k') a ∧ Fr w l s.co w (l.set k' (l.ι k) (l.κ k)) (s.ren k k').co := by
  have hk' : (l.set k' (l.ι k) (l.κ k)).ι k' = l.ι k ∧ (l.set k' (l.ι k) (l.κ k)).κ k' = l.κ k := by simp [Lay.set]
  have hlj : ∀ j, j ≠ k' → (l.set k' (l.ι k) (l.κ k)).ι j = l.ι j ∧ (l.set k' (l.ι k) (l.κ k)).κ j = l.κ j := fun j hj => by simp [Lay.set, hj]
  have hmv : ∀ i, i ≠ k' → (l.set k' (l.ι k) (l.κ k)).ι (mvK k k' i) = l.ι i ∧ (l.set k' (l.ι k) (l.κ k)).κ (mvK k k' i) = l.κ i := by
    intro i hi
    unfold mvK
    by_cases hik : i = k
    · subst hik; rw [if_pos rfl]; exact hk'
    · rw [if_neg hik]; exact hlj i hi
  have hx : ∀ b, excl (l.set k' (l.ι k) (l.κ k)) (s.ren k k').co b → excl l s.co b := by
    rintro b ⟨j, y, h1, h2⟩
    obtain ⟨i, x, h3, rfl, rfl, hi⟩ := lk_ren h1
    rw [(hmv i hi).1] at h2
    exact ⟨i, x, h3, h2⟩
  have hF : Fr w l s.co w (l.set k' (l.ι k) (l.κ k)) (s.ren k k').co := ⟨Nat.le_refl _, fun b _ he => ⟨rfl, fun he' => he (hx b he')⟩, rfl, .refl _⟩
  have hzz : ∀ j, j ∈ (s.ren k k').co.z ↔ j = k ∨ (j ∈ s.co.z ∧ j ≠ k') := by intro j; simp [St.ren, Co.ren]
  have hS : ∀ {v u}, SV w L l s.co v u → SV w L (l.set k' (l.ι k) (l.κ k)) (s.ren k k').co (v.ren k k') u := fun hv =>
    (VR.ren (Z' := ZB (s.ren k k').co) k k' hk' hlj hz (fun _ hc => by rcases (hzz k').1 hc with h1 | h1; exact hne h1.symm; exact h1.2 rfl) (fun j hj hnz hc => by
      rcases (hzz j).1 hc with h1 | h1
      · exact hj h1
      · exact hnz h1.1) hv).mono hF.ok hF.okb (fun j hj => ⟨rfl, rfl, hj⟩)
  have hinj : ∀ i i', i ≠ k' → i' ≠ k' → mvK k k' i = mvK k k' i' → i = i' := by
    intro i i' hi hi' he
    unfold mvK at he
    split at he <;> split at he
    · rename_i h1 h2; rw [h1, h2]
    · exact absurd he.symm hi'
    · exact absurd he hi
    · exact he
  have hobj : ∀ i x, lk s.co.ob i = some x → i ≠ k' → ObjR w L (l.set k' (l.ι k) (l.κ k)) (s.ren k k').co (mvK k k' i) (x.ren k k') := by
    intro i x h1 hi
    obtain ⟨e1, e2⟩ := hmv i hi
    cases hrow : x.row with
    | true =>
      have he : x.ren k k' = x := by simp [Obj.ren, hrow]
      rw [he]
      rcases h.objs i x h1 with hv | ⟨b1, c1, h3⟩
      · exact .inl ⟨hv.1, hv.2.1, hv.2.2.1, e1.trans hv.2.2.2⟩
      · exact .inr ⟨b1, c1, { h3 with at_ := e1.trans h3.at_, size := by rw [e2]; exact h3.size, fits := by rw [e2]; exact h3.fits, cap := by rw [e2]; exact h3.cap, box := fun hr => by rw [e2]; exact h3.box hr, val := fun i e j v u x y z => .rr (hF.rr (h3.still hrow i e j v u x y z)), still := fun hr i e j v u x y z => hF.rr (h3.still hr i e j v u x y z) }⟩
    | false =>
      have he : x.ren k k' = { x with es := x.es.map fun e => e.map (V.ren k k') } := by simp [Obj.ren, hrow]
      rw [he]
      rcases h.objs i x h1 with hv | ⟨b1, c1, h3⟩
      · rw [hrow] at hv; cases hv.1
      · have hget : ∀ (i : Nat) (e : List V) (j : Nat) (v : V), (x.es.map fun e => e.map (V.ren k k'))[i]? = some e → e[j]? = some v → ∃ e0 v0, x.es[i]? = some e0 ∧ e0[j]? = some v0 ∧ v = v0.ren k k' := by
          intro i e j v h1 h2
          simp only [List.getElem?_map, Option.map_eq_some_iff] at h1
          obtain ⟨e0, he0, rfl⟩ := h1
          simp only [List.getElem?_map, Option.map_eq_some_iff] at h2
          obtain ⟨v0, hv0, rfl⟩ := h2
          exact ⟨e0, v0, he0, hv0, rfl⟩
        exact .inr ⟨b1, c1, {
          at_ := e1.trans h3.at_, heap := h3.heap, size := by rw [e2]; exact h3.size, fits := by rw [e2]; simpa using h3.fits, cap := by rw [e2]; exact h3.cap
          box := fun _ => by rw [e2]; simpa using h3.box hrow
          nl := fun hn => by simpa using h3.nl hn
          len := by
            intro e he'
            simp only [List.mem_map] at he'
            obtain ⟨e0, he0, rfl⟩ := he'
            simpa using h3.len e0 he0
          val := by
            intro i e j v u x y z
            obtain ⟨e0, v0, he0, hv0, rfl⟩ := hget i e j v x y
            exact hS (h3.val i e0 j v0 u he0 hv0 z)
          one := by
            intro i e j v u x y z
            obtain ⟨e0, v0, he0, hv0, rfl⟩ := hget i e j v x y
            exact h3.one i e0 j v0 u he0 hv0 z
          still := fun hr => absurd hr (by simp [hrow]) }⟩
  refine ⟨?_, hF⟩
  exact {
    vals := fun t v hv => by
      simp only [St.ren, lk_map, Option.map_eq_some_iff] at hv
      obtain ⟨v0, hv0, rfl⟩ := hv
      exact ⟨(h.vals t v0 hv0).1, hS (h.vals t v0 hv0).2⟩
    objs := fun j y hj => by
      obtain ⟨i, x, h1, rfl, rfl, hi⟩ := lk_ren hj
      exact hobj i x h1 hi
    inj := fun j1 j2 y1 y2 b h1 h2 hb1 hb2 => by
      obtain ⟨i1, x1, p1, rfl, rfl, q1⟩ := lk_ren h1
      obtain ⟨i2, x2, p2, rfl, rfl, q2⟩ := lk_ren h2
      rw [(hmv i1 q1).1] at hb1
      rw [(hmv i2 q2).1] at hb2
      rw [h.inj i1 i2 x1 x2 b p1 p2 hb1 hb2]
    lt := fun j y b hj hb => by
      obtain ⟨i, x, h1, rfl, rfl, hi⟩ := lk_ren hj
      rw [(hmv i hi).1] at hb
      exact h.lt i x b h1 hb
    lent := h.lent
    unborn := fun j hj => by
      cases hc : lk (s.ren k k').co.ob j with
      | none => rfl
      | some y =>
        obtain ⟨i, x, h1, rfl, rfl, hi⟩ := lk_ren hc
        rcases (hzz _).1 hj with h2 | ⟨h2, h3⟩
        · unfold mvK at h2
          split at h2
          · exact absurd h2.symm hne
          · rename_i hik; exact absurd h2 hik
        · unfold mvK at h2 h3
          split at h2
          · rename_i hik; rw [if_pos hik] at h3; exact absurd rfl h3
          · rw [h.unborn i h2] at h1; cases h1
    glob := fun g v hg => hF.rr (h.glob g v hg) }

/-- the name d is freed: an object that bears it takes another one -/
def vacate (d : Nat) (s : St) : St :=
  if d ∈ s.co.z then s else
  match lk s.co.ob d with
  | some _ => (s.kill [d + 1000]).ren d (d + 1000)
  | none => s.kill [d]

theorem vacate_rel (h : Rel w L l s a) (d : Nat) : ∃ l', Rel w L l' (vacate d s) a ∧ Fr w l s.co w l' (vacate d s).co ∧ (vacate d s).gl = s.gl := by
  unfold vacate
  split
  · exact ⟨l, h, .refl _ _ _, rfl⟩
  · split
    · obtain ⟨h1, h2⟩ := (h.kill [d + 1000]).ren (k := d) (k' := d + 1000) (by simp [St.kill, Co.kill]) (by omega)
      exact ⟨_, h1, (Fr.kill w l s.co [d + 1000]).trans h2, rfl⟩
    · exact ⟨l, h.kill [d], Fr.kill _ _ _ _, rfl⟩

end Go.Ai

namespace Go.Ai
open Go
variable {P : Program} {w : World} {L : Nat → Prop} {l : Lay} {s : St} {a : Act}

/-! ## Forgetting; a world that has grown -/

structure Less (s' s : St) : Prop where
  vals : ∀ t v, lk s'.σ t = some v → lk s.σ t = some v
  objs : ∀ k o, lk s'.co.ob k = some o → lk s.co.ob k = some o
  z : ∀ k, k ∈ s'.co.z → k ∈ s.co.z
  gl : s'.gl = s.gl

theorem Less.excl {s' : St} (h : Less s' s) {b : Nat} (he : excl l s'.co b) : Ai.excl l s.co b := by
  obtain ⟨k, o, h1, h2⟩ := he
  exact ⟨k, o, h.objs k o h1, h2⟩

theorem Less.fr {s' : St} (h : Less s' s) (w : World) (l : Lay) : Fr w l s.co w l s'.co := ⟨Nat.le_refl _, fun _ _ he => ⟨rfl, fun h' => he (h.excl h')⟩, rfl, .refl _⟩

theorem Rel.forget {s' : St} (h : Rel w L l s a) (hl : Less s' s) : Rel w L l s' a := by
  have hF := hl.fr w l
  have hS : ∀ {v u}, SV w L l s.co v u → SV w L l s'.co v u := fun hv => hF.sv (fun k hz => ⟨rfl, rfl, fun h' => hz (hl.z k h')⟩) hv
  exact {
    vals := fun t v hv => ⟨(h.vals t v (hl.vals t v hv)).1, hS (h.vals t v (hl.vals t v hv)).2⟩
    objs := fun k o hk => by
      rcases h.objs k o (hl.objs k o hk) with h1 | ⟨b, c, h1⟩
      · exact .inl h1
      · exact .inr ⟨b, c, { h1 with val := fun i e j v u x y z => hS (h1.val i e j v u x y z), still := fun hr i e j v u x y z => hF.rr (h1.still hr i e j v u x y z) }⟩
    inj := fun k k' o o' b h1 h2 => h.inj k k' o o' b (hl.objs k o h1) (hl.objs k' o' h2)
    lt := fun k o b h1 => h.lt k o b (hl.objs k o h1)
    lent := h.lent
    unborn := fun k hk => by
      cases hc : lk s'.co.ob k with
      | none => rfl
      | some o => have := hl.objs k o hc; rw [h.unborn k (hl.z k hk)] at this; cases this
    glob := fun g v hg => hF.rr (h.glob g v (hl.gl ▸ hg)) }

def pickL {α : Type} (ks : List Nat) (r : List (Nat × α)) : List (Nat × α) :=
  match ks with
  | [] => []
  | k :: ks => match lk r k with
    | some x => (k, x) :: pickL ks r
    | none => pickL ks r

theorem lk_pickL {α : Type} (r : List (Nat × α)) (t : Nat) : ∀ (ks : List Nat) (x : α), lk (pickL ks r) t = some x → lk r t = some x := by
  intro ks
  induction ks with
  | nil => intro x h; simp [pickL, lk] at h
  | cons k ks ih =>
    intro x h
    simp only [pickL] at h
    split at h
    · rename_i y hy
      rw [lk_cons] at h
      split at h
      · rename_i hk; subst hk; rw [hy]; exact h
      · exact ih x h
    · exact ih x h

/-- the state, cut to the slots 'vs' and the objects 'ks' -/
def St.norm (vs ks : List Nat) (s : St) : St := { σ := pickL vs s.σ, co := { ob := pickL ks s.co.ob, z := [] }, gl := s.gl }

theorem norm_less (vs ks : List Nat) (s : St) : Less (s.norm vs ks) s := ⟨fun t v => lk_pickL _ t vs v, fun k o => lk_pickL _ k ks o, fun _ hk => by simp [St.norm] at hk, rfl⟩

structure Kept (w w' : World) : Prop where
  size : w.heap.size ≤ w'.heap.size
  keep : ∀ b, b < w.heap.size → w'.heap[b]? = w.heap[b]?
  io : Io w w'

theorem Kept.fr {w' : World} (h : Kept w w') (l : Lay) (c : Co) : Fr w l c w' l c := ⟨h.size, fun b hb he => ⟨h.keep b hb, he⟩, rfl, h.io⟩

theorem Rel.grow {w' : World} (h : Rel w L l s a) (hk : Kept w w') : Rel w' L l s a := by
  have hF := hk.fr l s.co
  have hS : ∀ {v u}, SV w L l s.co v u → SV w' L l s.co v u := fun hv => hF.sv (fun _ hz => ⟨rfl, rfl, hz⟩) hv
  exact {
    vals := fun t v hv => ⟨(h.vals t v hv).1, hS (h.vals t v hv).2⟩
    objs := fun k o hk' => by
      rcases h.objs k o hk' with h1 | ⟨b, c, h1⟩
      · exact .inl h1
      · exact .inr ⟨b, c, { h1 with heap := (hk.keep b (h.lt k o b hk' h1.at_).1).trans h1.heap, val := fun i e j v u x y z => hS (h1.val i e j v u x y z), still := fun hr i e j v u x y z => hF.rr (h1.still hr i e j v u x y z) }⟩
    inj := h.inj
    lt := fun k o b h1 h2 => ⟨Nat.lt_of_lt_of_le (h.lt k o b h1 h2).1 hk.size, (h.lt k o b h1 h2).2⟩
    lent := fun b hb => Nat.lt_of_lt_of_le (h.lent b hb) hk.size
    unborn := h.unborn
    glob := fun g v hg => hF.rr (h.glob g v hg) }

/-! ## What is handed over at a call -/

/-- values with no objects in them, over blocks 'ok' (read for ever) and 'okb' (read while the call lasts) -/
abbrev PV (w : World) (ok okb : Nat → Prop) : V → Value → Prop := VR w ok okb ⟨fun _ => none, fun _ => 0, 0⟩ (fun _ => True)

theorem PV.sv {w : World} {ok okb : Nat → Prop} {v : V} {u : Value} (h : PV w ok okb v u) {w' : World} {L : Nat → Prop} {l : Lay} {c : Co} (h1 : ∀ b, ok b → okB w' L l c b ∧ w'.heap[b]? = w.heap[b]?)
    (h2 : ∀ b, okb b → okbB w' l c b ∧ w'.heap[b]? = w.heap[b]?) : SV w' L l c v u := VR.mono h1 h2 (fun _ hk => absurd trivial hk) h

/-- given read-only content -/
theorem PV.of_rr {w : World} {ok okb : Nat → Prop} {v : V} {u : Value} (h : RR w ok v u) : PV w ok okb v u := .rr h

mutual
def lend (n : Nat) (c : Co) (v : V) : Option V :=
  match n with
  | 0 => none
  | n + 1 => if v.still then some v else
    match v with
    | .sl br nl sz es => some (.sl br nl sz es)
    | .row k sz lo hi => (lk c.ob k).bind fun o => if o.sz = sz ∧ o.row ∧ hi ≤ o.es.length then some (.sl true (o.nl && o.es.isEmpty) sz (if lo = 0 ∧ hi = o.es.length then o.es else (o.es.drop lo).take (hi - lo))) else none
    | .ptr k sz i off => (lk c.ob k).bind fun o => if o.sz = sz then (o.es[i]?).bind fun e => if off ≤ e.length then (lendL n c (e.drop off)).map (.ro true) else none else none
    | .ro true cs => (lendL n c cs).map (.ro true)
    | .agg cs => (lendL n c cs).map .agg
    | .tup cs => (lendL n c cs).map .tup
    | .fn f a b => (lendL n c a).bind fun a => (lendL n c b).map (.fn f a)
    | _ => none
def lendL (n : Nat) (c : Co) (vs : List V) : Option (List V) :=
  match n with
  | 0 => none
  | n + 1 => match vs with
    | [] => some []
    | v :: r => (lend n c v).bind fun v => (lendL n c r).map (v :: ·)
end

theorem lendL_get {c : Co} : ∀ (n : Nat) (vs vs' : List V), lendL n c vs = some vs' → vs'.length = vs.length ∧ ∀ (j : Nat) (v' : V), vs'[j]? = some v' → ∃ m v, m < n ∧ vs[j]? = some v ∧ lend m c v = some v' := by
  intro n
  induction n with
  | zero => intro vs vs' h; simp [lendL] at h
  | succ n ih =>
    intro vs vs' h
    cases vs with
    | nil => simp [lendL] at h; subst h; exact ⟨rfl, fun j v' h => by simp at h⟩
    | cons v r =>
      simp only [lendL, Option.bind_eq_some_iff, Option.map_eq_some_iff] at h
      obtain ⟨v1, h1, r1, h2, rfl⟩ := h
      obtain ⟨hl, hg⟩ := ih r r1 h2
      refine ⟨by simp [hl], fun j v' hj => ?_⟩
      cases j with
      | zero => simp at hj; subst hj; exact ⟨n, v, by omega, rfl, h1⟩
      | succ j =>
        simp at hj
        obtain ⟨m, x, h3, h4, h5⟩ := hg j v' hj
        exact ⟨m, x, by omega, by simpa using h4, h5⟩

/-- what a callee may read for ever, and while it lasts -/
def okP (w : World) (L : Nat → Prop) (b : Nat) : Prop := b < w.heap.size ∧ ¬ L b
def okbP (w : World) (b : Nat) : Prop := b < w.heap.size
def LB (L : Nat → Prop) (l : Lay) (c : Co) (b : Nat) : Prop := L b ∨ excl l c b

theorem okB_okP {c : Co} : ∀ b, okB w L l c b → okP w (LB L l c) b ∧ w.heap[b]? = w.heap[b]? := fun _ h => ⟨⟨h.1, fun h' => h'.elim h.2.1 h.2.2⟩, rfl⟩

theorem row_elems {k sz lo hi : Nat} {o : Obj} (ho : lk s.co.ob k = some o) (hc : o.sz = sz ∧ o.row = true ∧ hi ≤ o.es.length) :
    s.co.elems (.row k sz lo hi) = some (sz, if lo = 0 ∧ hi = o.es.length then o.es else (o.es.drop lo).take (hi - lo)) := by
  simp [Co.elems, ho, hc]

theorem lend_sound (h : Rel w L l s a) : ∀ (n : Nat) {v v' : V} {u : Value}, SV w L l s.co v u → lend n s.co v = some v' → PV w (okP w (LB L l s.co)) (okbP w) v' u := by
  intro n
  induction n using Nat.strongRecOn with
  | _ n ih =>
  intro v v' u hv hl
  cases n with
  | zero => simp [lend] at hl
  | succ n =>
  have ihL : ∀ {vs vs' : List V} (us : Array Value), lendL n s.co vs = some vs' → (∀ (j : Nat) (v : V) (u : Value), vs[j]? = some v → us[j]? = some u → SV w L l s.co v u) →
      vs'.length = vs.length ∧ ∀ (j : Nat) (v : V) (u : Value), vs'[j]? = some v → us[j]? = some u → PV w (okP w (LB L l s.co)) (okbP w) v u := by
    intro vs vs' us hL hsv
    obtain ⟨hlen, hg⟩ := lendL_get n vs vs' hL
    refine ⟨hlen, fun j v u h1 h2 => ?_⟩
    obtain ⟨m, x, h3, h4, h5⟩ := hg j v h1
    exact ih m (by omega) (hsv j x u h4 h2) h5
  simp only [lend] at hl
  split at hl
  · rename_i hst
    simp only [Option.some.injEq] at hl; subst hl
    exact .rr ((VR.still hv hst).mono okB_okP)
  · split at hl
    · rename_i br nl sz es hst
      simp only [Option.some.injEq] at hl; subst hl
      cases hv with
      | rr hr => exact .rr (hr.mono okB_okP)
      | bnil => exact .bnil _
      | bsl hok hb hnl hcap hsz hlen hc h1 => exact .bsl hok.2.1 hb hnl hcap hsz hlen (fun i e j v u x y z => (hc i e j v u x y z).mono okB_okP) h1
    · rename_i k sz lo hi hst
      simp only [Option.bind_eq_some_iff] at hl
      obtain ⟨o, ho, hl⟩ := hl
      split at hl <;> try (cases hl; done)
      rename_i hc
      simp only [Option.some.injEq] at hl; subst hl
      have hes := row_elems (s := s) (lo := lo) ho hc
      generalize (if lo = 0 ∧ hi = o.es.length then o.es else (o.es.drop lo).take (hi - lo)) = es at hes
      rcases elems_sound h hv hes with ⟨h1, rfl⟩ | ⟨b, off, cap, cs, el, fz, rfl, hcap, hE⟩
      · subst h1
        rcases hv.row_inv with ⟨rfl, rfl, _, hn, _⟩ | ⟨b, hk, _, _, _, he⟩
        · rcases h.objs k o ho with ⟨_, h3, h4, _⟩ | ⟨b, c, hL⟩
          · rw [h3, h4]; exact .bnil _
          · rw [hL.at_] at hn; cases hn
        · cases he
      · refine .bsl ?_ hE.heap ?_ hcap hE.room hE.len (fun i e j v u x y z => ((hE.val i e j v u x y z).1).mono okB_okP) (fun i e j v u x y z => (hE.val i e j v u x y z).2)
        · exact (Array.getElem?_eq_some_iff.1 hE.heap).1
        · intro hnl
          simp only [Bool.and_eq_true, List.isEmpty_iff] at hnl
          rcases h.objs k o ho with ⟨_, _, _, hn⟩ | ⟨b', c, hL⟩
          · rcases hv.row_inv with ⟨_, _, _, _, he⟩ | ⟨b', hk, _⟩
            · cases he
            · rw [hn] at hk; cases hk
          · exact absurd hnl.2 (hL.nl hnl.1)
    · rename_i k sz i off hst
      simp only [Option.bind_eq_some_iff] at hl
      obtain ⟨o, ho, hl⟩ := hl
      split at hl <;> try (cases hl; done)
      rename_i hsz; subst hsz
      simp only [Option.bind_eq_some_iff] at hl
      obtain ⟨e, he, hl⟩ := hl
      split at hl <;> try (cases hl; done)
      rename_i hoff
      simp only [Option.map_eq_some_iff] at hl
      obtain ⟨cs, hcs, rfl⟩ := hl
      obtain ⟨b, hb, hkz, rfl⟩ := hv.ptr_inv
      rcases h.objs k o ho with ⟨_, _, hn, _⟩ | ⟨b', c, hL⟩
      · rw [hn] at he; simp at he
      have hbb : b' = b := by have := hL.at_; rw [hb] at this; exact (Option.some.inj this).symm
      subst hbb
      have hi' : i < o.es.length := (List.getElem?_eq_some_iff.1 he).1
      have hel : e.length = o.sz := hL.len e (List.mem_of_getElem? he)
      have hroom : i * o.sz + o.sz ≤ c.size := by
        rw [hL.size, ← Nat.succ_mul]
        exact Nat.mul_le_mul_right _ (Nat.lt_of_lt_of_le hi' hL.fits)
      have hG := ihL (vs := e.drop off) (c.extract (i * o.sz + off) c.size) hcs (by
        intro j v u h1 h2
        rw [Array.getElem?_extract] at h2
        split at h2
        · exact hL.val i e (off + j) v u he (by simpa using h1) (by rw [← Nat.add_assoc]; exact h2)
        · cases h2)
      refine .bro (h.lt k o b' ho hb).1 hL.heap ?_ ?_
      · rw [hG.1]; simp; omega
      · intro j v u h1 h2
        have hj : j < c.size - (i * o.sz + off) := by
          have := (Array.getElem?_eq_some_iff.1 h2).1
          omega
        refine hG.2 j v u h1 ?_
        rw [Array.getElem?_extract, if_pos (by simpa using hj)]
        exact h2
    · rename_i cs hst
      simp only [Option.map_eq_some_iff] at hl
      obtain ⟨cs', hcs, rfl⟩ := hl
      cases hv with
      | rr hr => simp [V.still] at hst; cases hr
      | @bro _ b off c el fz hok hb hsz hc =>
        have hG := ihL (vs := cs) (c.extract off c.size) hcs (by
          intro j v u h1 h2
          rw [Array.getElem?_extract] at h2
          split at h2
          · exact hc j v u h1 h2
          · cases h2)
        refine .bro hok.2.1 hb (by rw [hG.1]; exact hsz) fun j v u h1 h2 => ?_
        have hj : j < c.size - off := by
          have := (Array.getElem?_eq_some_iff.1 h2).1
          omega
        refine hG.2 j v u h1 ?_
        rw [Array.getElem?_extract, if_pos (by simpa using hj)]
        exact h2
    · rename_i cs hst
      simp only [Option.map_eq_some_iff] at hl
      obtain ⟨cs', hcs, rfl⟩ := hl
      obtain ⟨us, rfl, hs, hc⟩ := hv.agg_inv
      have hG := ihL us hcs hc
      exact .agg (by rw [hG.1]; exact hs) hG.2
    · rename_i cs hst
      simp only [Option.map_eq_some_iff] at hl
      obtain ⟨cs', hcs, rfl⟩ := hl
      obtain ⟨us, rfl, hs, hc⟩ := hv.tup_inv
      have hG := ihL us hcs hc
      exact .tup (by rw [hG.1]; exact hs) hG.2
    · rename_i f x y hst
      simp only [Option.bind_eq_some_iff, Option.map_eq_some_iff] at hl
      obtain ⟨x', hx, y', hy, rfl⟩ := hl
      cases hv with
      | rr hr =>
        cases hr with
        | fn hs ht ha hb =>
          have h1 := ihL _ hx (fun j v u p q => .rr (ha j v u p q))
          have h2 := ihL _ hy (fun j v u p q => .rr (hb j v u p q))
          exact .fn (by rw [h1.1]; exact hs) (by rw [h2.1]; exact ht) h1.2 h2.2
      | fn hs ht ha hb =>
        have h1 := ihL _ hx ha
        have h2 := ihL _ hy hb
        exact .fn (by rw [h1.1]; exact hs) (by rw [h2.1]; exact ht) h1.2 h2.2
    · cases hl

end Go.Ai

namespace Go.Ai
open Go
variable {P : Program} {w : World} {L : Nat → Prop} {l : Lay} {s : St} {a : Act}

/-! ## What a callee hands back -/

mutual
def give (n : Nat) (c : Co) (v : V) : Option V :=
  match n with
  | 0 => none
  | n + 1 => if v.still then some v else
    match v with
    | .row k sz lo hi => (lk c.ob k).bind fun o => if o.sz = sz ∧ o.row ∧ hi ≤ o.es.length then some (.sl false (o.nl && o.es.isEmpty) sz (if lo = 0 ∧ hi = o.es.length then o.es else (o.es.drop lo).take (hi - lo))) else none
    | .ptr k sz i off => (lk c.ob k).bind fun o => if o.sz = sz then (o.es[i]?).bind fun e => if off ≤ e.length then (giveL n c (e.drop off)).map (.ro false) else none else none
    | .agg cs => (giveL n c cs).map .agg
    | .fn f a b => (giveL n c a).bind fun a => (giveL n c b).map (.fn f a)
    | _ => none
def giveL (n : Nat) (c : Co) (vs : List V) : Option (List V) :=
  match n with
  | 0 => none
  | n + 1 => match vs with
    | [] => some []
    | v :: r => (give n c v).bind fun v => (giveL n c r).map (v :: ·)
end

theorem giveL_get {c : Co} : ∀ (n : Nat) (vs vs' : List V), giveL n c vs = some vs' → vs'.length = vs.length ∧ ∀ (j : Nat) (v' : V), vs'[j]? = some v' → ∃ m v, m < n ∧ vs[j]? = some v ∧ give m c v = some v' := by
  intro n
  induction n with
  | zero => intro vs vs' h; simp [giveL] at h
  | succ n ih =>
    intro vs vs' h
    cases vs with
    | nil => simp [giveL] at h; subst h; exact ⟨rfl, fun j v' h => by simp at h⟩
    | cons v r =>
      simp only [giveL, Option.bind_eq_some_iff, Option.map_eq_some_iff] at h
      obtain ⟨v1, h1, r1, h2, rfl⟩ := h
      obtain ⟨hl, hg⟩ := ih r r1 h2
      refine ⟨by simp [hl], fun j v' hj => ?_⟩
      cases j with
      | zero => simp at hj; subst hj; exact ⟨n, v, by omega, rfl, h1⟩
      | succ j =>
        simp at hj
        obtain ⟨m, x, h3, h4, h5⟩ := hg j v' hj
        exact ⟨m, x, by omega, by simpa using h4, h5⟩

theorem okB_okP' {c : Co} : ∀ b, okB w L l c b → okP w L b ∧ w.heap[b]? = w.heap[b]? := fun _ h => ⟨⟨h.1, h.2.1⟩, rfl⟩

theorem give_sound (h : Rel w L l s a) : ∀ (n : Nat) {v v' : V} {u : Value}, SV w L l s.co v u → give n s.co v = some v' → RR w (okP w L) v' u := by
  intro n
  induction n using Nat.strongRecOn with
  | _ n ih =>
  intro v v' u hv hl
  cases n with
  | zero => simp [give] at hl
  | succ n =>
  have ihL : ∀ {vs vs' : List V} (us : Array Value), giveL n s.co vs = some vs' → (∀ (j : Nat) (v : V) (u : Value), vs[j]? = some v → us[j]? = some u → SV w L l s.co v u) →
      vs'.length = vs.length ∧ ∀ (j : Nat) (v : V) (u : Value), vs'[j]? = some v → us[j]? = some u → RR w (okP w L) v u := by
    intro vs vs' us hL hsv
    obtain ⟨hlen, hg⟩ := giveL_get n vs vs' hL
    refine ⟨hlen, fun j v u h1 h2 => ?_⟩
    obtain ⟨m, x, h3, h4, h5⟩ := hg j v h1
    exact ih m (by omega) (hsv j x u h4 h2) h5
  simp only [give] at hl
  split at hl
  · rename_i hst
    simp only [Option.some.injEq] at hl; subst hl
    exact (VR.still hv hst).mono okB_okP'
  · split at hl
    · rename_i k sz lo hi hst
      simp only [Option.bind_eq_some_iff] at hl
      obtain ⟨o, ho, hl⟩ := hl
      split at hl <;> try (cases hl; done)
      rename_i hc
      simp only [Option.some.injEq] at hl; subst hl
      have hes := row_elems (s := s) (lo := lo) ho hc
      generalize (if lo = 0 ∧ hi = o.es.length then o.es else (o.es.drop lo).take (hi - lo)) = es at hes
      rcases elems_sound h hv hes with ⟨h1, rfl⟩ | ⟨b, off, cap, cs, el, fz, rfl, hcap, hE⟩
      · subst h1
        rcases hv.row_inv with ⟨rfl, rfl, _, hn, _⟩ | ⟨b, hk, _, _, _, he⟩
        · rcases h.objs k o ho with ⟨_, h3, h4, _⟩ | ⟨b, c, hL⟩
          · rw [h3, h4]; exact .snil _
          · rw [hL.at_] at hn; cases hn
        · cases he
      · rcases hv.row_inv with ⟨_, _, _, _, he⟩ | ⟨b', hk, _, _, _, he⟩
        · cases he
        · simp only [Value.slice.injEq, Option.some.injEq, Addr.mk.injEq] at he
          obtain ⟨⟨rfl, _⟩, _⟩ := he
          refine .sl ⟨(Array.getElem?_eq_some_iff.1 hE.heap).1, (h.lt k o b ho hk).2⟩ hE.heap ?_ hcap hE.room hE.len (fun i e j v u x y z => ((hE.val i e j v u x y z).1).mono okB_okP') (fun i e j v u x y z => (hE.val i e j v u x y z).2)
          intro hnl
          simp only [Bool.and_eq_true, List.isEmpty_iff] at hnl
          rcases h.objs k o ho with ⟨_, _, _, hn⟩ | ⟨b', c, hL⟩
          · rw [hn] at hk; cases hk
          · exact absurd hnl.2 (hL.nl hnl.1)
    · rename_i k sz i off hst
      simp only [Option.bind_eq_some_iff] at hl
      obtain ⟨o, ho, hl⟩ := hl
      split at hl <;> try (cases hl; done)
      rename_i hsz; subst hsz
      simp only [Option.bind_eq_some_iff] at hl
      obtain ⟨e, he, hl⟩ := hl
      split at hl <;> try (cases hl; done)
      rename_i hoff
      simp only [Option.map_eq_some_iff] at hl
      obtain ⟨cs, hcs, rfl⟩ := hl
      obtain ⟨b, hb, hkz, rfl⟩ := hv.ptr_inv
      rcases h.objs k o ho with ⟨_, _, hn, _⟩ | ⟨b', c, hL⟩
      · rw [hn] at he; simp at he
      have hbb : b' = b := by have := hL.at_; rw [hb] at this; exact (Option.some.inj this).symm
      subst hbb
      have hi' : i < o.es.length := (List.getElem?_eq_some_iff.1 he).1
      have hel : e.length = o.sz := hL.len e (List.mem_of_getElem? he)
      have hroom : i * o.sz + o.sz ≤ c.size := by
        rw [hL.size, ← Nat.succ_mul]
        exact Nat.mul_le_mul_right _ (Nat.lt_of_lt_of_le hi' hL.fits)
      have hG := ihL (vs := e.drop off) (c.extract (i * o.sz + off) c.size) hcs (by
        intro j v u h1 h2
        rw [Array.getElem?_extract] at h2
        split at h2
        · exact hL.val i e (off + j) v u he (by simpa using h1) (by rw [← Nat.add_assoc]; exact h2)
        · cases h2)
      refine .ro (h.lt k o b' ho hb) hL.heap ?_ ?_
      · rw [hG.1]; simp; omega
      · intro j v u h1 h2
        have hj : j < c.size - (i * o.sz + off) := by
          have := (Array.getElem?_eq_some_iff.1 h2).1
          omega
        refine hG.2 j v u h1 ?_
        rw [Array.getElem?_extract, if_pos (by simpa using hj)]
        exact h2
    · rename_i cs hst
      simp only [Option.map_eq_some_iff] at hl
      obtain ⟨cs', hcs, rfl⟩ := hl
      obtain ⟨us, rfl, hs, hc⟩ := hv.agg_inv
      have hG := ihL us hcs hc
      exact .agg (by rw [hG.1]; exact hs) hG.2
    · rename_i f x y hst
      simp only [Option.bind_eq_some_iff, Option.map_eq_some_iff] at hl
      obtain ⟨x', hx, y', hy, rfl⟩ := hl
      cases hv with
      | rr hr =>
        cases hr with
        | fn hs ht ha hb =>
          have h1 := ihL _ hx (fun j v u p q => .rr (ha j v u p q))
          have h2 := ihL _ hy (fun j v u p q => .rr (hb j v u p q))
          exact .fn (by rw [h1.1]; exact hs) (by rw [h2.1]; exact ht) h1.2 h2.2
      | fn hs ht ha hb =>
        have h1 := ihL _ hx ha
        have h2 := ihL _ hy hb
        exact .fn (by rw [h1.1]; exact hs) (by rw [h2.1]; exact ht) h1.2 h2.2
    · cases hl

/-- a row that nobody else holds -/
def OwnRow (w : World) (ok : Nat → Prop) (n0 : Nat) (nl : Bool) (el sz : Nat) (es : List (List V)) (u : Value) : Prop :=
  (nl = true ∧ es = [] ∧ u = .slice none 0 0) ∨ ∃ b c cap, n0 ≤ b ∧ b < w.heap.size ∧ u = .slice (some ⟨b, 0, none⟩) es.length cap ∧ w.heap[b]? = some (.cells c el (0, 0)) ∧ c.size = cap * sz ∧ es.length ≤ cap ∧ cap ≤ maxLen ∧ (nl = true → es ≠ []) ∧
    (∀ e ∈ es, e.length = sz) ∧ ∀ (i : Nat) (e : List V) (j : Nat) (v : V) (x : Value), es[i]? = some e → e[j]? = some v → c[i * sz + j]? = some x → RR w (fun q => ok q ∧ q ≠ b) v x ∧ x.oneCell' = true

/-- what a call hands back: 'n0' is the heap's size when it began -/
inductive Ret (w : World) (ok : Nat → Prop) (n0 : Nat) : V → Value → Prop
  | rr {v : V} {u : Value} (h : RR w ok v u) : Ret w ok n0 v u
  | tup {cs : List V} {us : Array Value} (hs : us.size = cs.length) (hc : ∀ (j : Nat) (v : V) (u : Value), cs[j]? = some v → us[j]? = some u → RR w ok v u) : Ret w ok n0 (.tup cs) (.tuple us)
  | own {nl : Bool} {el sz : Nat} {es : List (List V)} {u : Value} (h : OwnRow w ok n0 nl el sz es u) : Ret w ok n0 (.own nl el sz es) u

/-- a function's contract: for these arguments it hands back that, and changes nothing that was there. 'G': what the package-level variables lead to. -/
def CallR (P : Program) (G : List (Nat × V)) (f : Nat) (vs : List V) (r : V) : Prop :=
  ∀ (w : World) (L : Nat → Prop) (us : Array Value), us.size = vs.length → (∀ b, L b → b < w.heap.size) → (∀ g v, lk G g = some v → RR w (okP w L) v (.pointer (some ⟨g, 0, none⟩))) →
    (∀ (j : Nat) (v : V) (u : Value), vs[j]? = some v → us[j]? = some u → PV w (okP w L) (okbP w) v u) →
    Calls P f us w fun
      | .returned u, w' => Kept w w' ∧ Ret w' (okP w' L) w.heap.size r u
      | _, _ => False

end Go.Ai
