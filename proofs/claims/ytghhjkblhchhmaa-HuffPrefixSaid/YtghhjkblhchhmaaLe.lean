/- Proved: HuffPrefix returns true for every input that can be read, and each argument reads behind the call as it read before; no condition. -/
import Derived.Test.YtghhjkblhchhmaaGa
import Derived.Test.YtghhjkblhchhmaaDf
namespace Go.Ai
open Go Go.Proofs
theorem u16_wf {n : Int} (h : (Lit.int .u16 n).wf = true) : 0 ≤ n ∧ n < 65536 := by
  have := bounds_u16 h
  omega
end Go.Ai

namespace Go.Proofs.Ytghhjkblhchhmaa
open Go.ChangeShapes Go.WideShapes Go.ChangeAt Go.RowKit
open Go.Ai (law_post law_call int_rr bytes_rr tab_rr)
set_option linter.unusedVariables false

theorem huffPrefix_own : ownKnob Try.prog.godebug = none := by kernel_rfl
theorem huffPrefix_laid : laidOutB Try.prog = true := by kernel_rfl

set_option maxRecDepth 100000 in
theorem huffPrefix_lifted (os : Os) (started : os.Started) (H : Type) (enc : TypeId × Value → H) :
    ReturnsInHanded {} Try.checked os 7 .any (Rows.huffPrefixSpec.pre6 enc Try.prog Try.f7 Rows.huffPrefixRow.domain false) (Rows.huffPrefixSpec.post enc Try.prog Try.f7 false true false false) := by
  refine returnsInHanded_of_change (C := Try.checked) huffPrefix_own started (by kernel_rfl) Try.func7
    (ChangeSpec.witness6 (enc := enc) (C := Try.checked) false ⟨#[], #[.slice none 0 0, .int .u16 0, .int .u8 0], []⟩ 8 (by kernel_rfl) (by kernel_rfl) (by kernel_rfl) (by kernel_rfl)) ?_
  intro W base args ds gs before hval0 hW hcnd _
  have hval : ∀ (j : Nat) t v, Try.f7.params[j]? = some t → args[j]? = some v → Value.okWide Try.prog W .any base t v := hval0
  have hW' := hW
  obtain ⟨p, q, hA0, hV, rfl, hfz, hnd⟩ := hW
  have hA : DataW.TrodAll enc Try.prog W 0 (fun _ => true) true Try.f7.params.toList args.toList ds p := hA0
  rw [Try.params7] at hA hval
  obtain ⟨v0, vs0, d0, ds0, p0, q0, hargs, rfl, rfl, h0, r0⟩ := trodAll_cons hA
  obtain ⟨v1, vs1, d1, ds1, p1, q1, rfl, rfl, rfl, h1, r1⟩ := trodAll_cons r0
  obtain ⟨v2, vs2, d2, ds2, p2, q2, rfl, rfl, rfl, h2, r2⟩ := trodAll_cons r1
  obtain ⟨rfl, rfl, rfl⟩ := trodAll_nil r2
  obtain rfl : args = #[v0, v1, v2] := by cases args; simp_all
  obtain ⟨rfl, rfl⟩ := trodVars_none hV
  obtain ⟨nl0, zs0, hz0, e0⟩ := bytes_rr (hval 0 23 v0 rfl rfl) h0
  obtain ⟨n1, w1, e1⟩ := int_rr Try.underlying40 (hval 1 40 v1 rfl rfl) h1
  obtain ⟨n2, w2, e2⟩ := int_rr Try.underlying5 (hval 2 5 v2 rfl rfl) h2
  refine (law_call (Go.Ai.law7 nl0 zs0 hz0 n1 n2 (Go.Ai.u16_wf w1).1 (Go.Ai.u16_wf w1).2 (Go.Ai.u8_wf w2).1 (Go.Ai.u8_wf w2).2) rfl ?_).mono fun e W' ⟨he, hk⟩ => ?_
  · intro j v u hj hu
    match j with
    | 0 => cases hj; cases hu; exact e0
    | 1 => cases hj; cases hu; exact e1 _
    | 2 => cases hj; cases hu; exact e2 _
    | j + 3 => simp at hj
  · subst he
    exact ⟨_, rfl, law_post huffPrefix_laid rfl (by kernel_rfl) (tb := 4) (by kernel_rfl) Try.underlying4 hW' hk rfl⟩

theorem huffPrefix_over : Rows.huffPrefixRow.holds Try.pinned (OpenSpec.ofChange Rows.huffPrefixSpec) :=
  OpenClaim.holds_of_wide 7 Try.f7 rfl rfl rfl rfl rfl rfl rfl ⟨rfl, rfl, rfl, rfl, rfl⟩ rfl rfl rfl rfl rfl (by kernel_rfl) Try.func7 (by kernel_rfl)
    (of_decide_eq_true (by kernel_rfl)) (by unfold Func.isWrapper; first | (rw [if_pos (by decide +kernel)]; kernel_rfl) | (rw [if_neg (by decide +kernel)]; exact ⟨rfl, rfl⟩))
    (fun os started H enc _ => huffPrefix_lifted os started H enc)

theorem huffPrefix_proved : Rows.HuffPrefixSaid := huffPrefix_over
#print axioms huffPrefix_proved
end Go.Proofs.Ytghhjkblhchhmaa
