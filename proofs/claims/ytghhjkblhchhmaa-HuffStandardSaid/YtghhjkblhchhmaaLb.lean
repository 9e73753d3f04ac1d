/- Proved: HuffStandard returns true for every input that can be read, and each argument reads behind the call as it read before; no condition. -/
import Derived.Test.YtghhjkblhchhmaaGa
import Derived.Test.YtghhjkblhchhmaaDc

namespace Go.Proofs.Ytghhjkblhchhmaa
open Go.ChangeShapes Go.WideShapes Go.ChangeAt Go.RowKit
open Go.Ai (law_post law_call int_rr bytes_rr tab_rr)
set_option linter.unusedVariables false

theorem huffStandard_own : ownKnob Try.prog.godebug = none := by kernel_rfl
theorem huffStandard_laid : laidOutB Try.prog = true := by kernel_rfl

set_option maxRecDepth 100000 in
theorem huffStandard_lifted (os : Os) (started : os.Started) (H : Type) (enc : TypeId × Value → H) :
    ReturnsInHanded {} Try.checked os 5 .any (Rows.huffStandardSpec.pre6 enc Try.prog Try.f5 Rows.huffStandardRow.domain false) (Rows.huffStandardSpec.post enc Try.prog Try.f5 false true false false) := by
  refine returnsInHanded_of_change (C := Try.checked) huffStandard_own started (by kernel_rfl) Try.func5
    (ChangeSpec.witness6 (enc := enc) (C := Try.checked) false ⟨#[], #[.int .u8 0, .int .u8 0], []⟩ 8 (by kernel_rfl) (by kernel_rfl) (by kernel_rfl) (by kernel_rfl)) ?_
  intro W base args ds gs before hval0 hW hcnd _
  have hval : ∀ (j : Nat) t v, Try.f5.params[j]? = some t → args[j]? = some v → Value.okWide Try.prog W .any base t v := hval0
  have hW' := hW
  obtain ⟨p, q, hA0, hV, rfl, hfz, hnd⟩ := hW
  have hA : DataW.TrodAll enc Try.prog W 0 (fun _ => true) true Try.f5.params.toList args.toList ds p := hA0
  rw [Try.params5] at hA hval
  obtain ⟨v0, vs0, d0, ds0, p0, q0, hargs, rfl, rfl, h0, r0⟩ := trodAll_cons hA
  obtain ⟨v1, vs1, d1, ds1, p1, q1, rfl, rfl, rfl, h1, r1⟩ := trodAll_cons r0
  obtain ⟨rfl, rfl, rfl⟩ := trodAll_nil r1
  obtain rfl : args = #[v0, v1] := by cases args; simp_all
  obtain ⟨rfl, rfl⟩ := trodVars_none hV
  obtain ⟨n0, w0, e0⟩ := int_rr Try.underlying5 (hval 0 5 v0 rfl rfl) h0
  obtain ⟨n1, w1, e1⟩ := int_rr Try.underlying5 (hval 1 5 v1 rfl rfl) h1
  refine (law_call (Go.Ai.law5 n0 n1 (Go.Ai.u8_wf w0).1 (Go.Ai.u8_wf w1).1) rfl ?_).mono fun e W' ⟨he, hk⟩ => ?_
  · intro j v u hj hu
    match j with
    | 0 => cases hj; cases hu; exact e0 _
    | 1 => cases hj; cases hu; exact e1 _
    | j + 2 => simp at hj
  · subst he
    exact ⟨_, rfl, law_post huffStandard_laid rfl (by kernel_rfl) (tb := 4) (by kernel_rfl) Try.underlying4 hW' hk rfl⟩

theorem huffStandard_over : Rows.huffStandardRow.holds Try.pinned (OpenSpec.ofChange Rows.huffStandardSpec) :=
  OpenClaim.holds_of_wide 5 Try.f5 rfl rfl rfl rfl rfl rfl rfl ⟨rfl, rfl, rfl, rfl, rfl⟩ rfl rfl rfl rfl rfl (by kernel_rfl) Try.func5 (by kernel_rfl)
    (of_decide_eq_true (by kernel_rfl)) (by unfold Func.isWrapper; first | (rw [if_pos (by decide +kernel)]; kernel_rfl) | (rw [if_neg (by decide +kernel)]; exact ⟨rfl, rfl⟩))
    (fun os started H enc _ => huffStandard_lifted os started H enc)

theorem huffStandard_proved : Rows.HuffStandardSaid := huffStandard_over
#print axioms huffStandard_proved
end Go.Proofs.Ytghhjkblhchhmaa
