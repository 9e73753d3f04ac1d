/- Proved: HuffRow returns true for every input that can be read, and each argument reads behind the call as it read before; no condition. -/
import Derived.Test.YtghhjkblhchhmaaGa
import Derived.Test.YtghhjkblhchhmaaDd

namespace Go.Proofs.Ytghhjkblhchhmaa
open Go.ChangeShapes Go.WideShapes Go.ChangeAt Go.RowKit
open Go.Ai (law_post law_call int_rr bytes_rr tab_rr)
set_option linter.unusedVariables false

theorem huffRow_own : ownKnob Try.prog.godebug = none := by kernel_rfl
theorem huffRow_laid : laidOutB Try.prog = true := by kernel_rfl

set_option maxRecDepth 100000 in
theorem huffRow_lifted (os : Os) (started : os.Started) (H : Type) (enc : TypeId × Value → H) :
    ReturnsInHanded {} Try.checked os 4 .any (Rows.huffRowSpec.pre6 enc Try.prog Try.f4 Rows.huffRowRow.domain false) (Rows.huffRowSpec.post enc Try.prog Try.f4 false true false false) := by
  refine returnsInHanded_of_change (C := Try.checked) huffRow_own started (by kernel_rfl) Try.func4
    (ChangeSpec.witness6 (enc := enc) (C := Try.checked) false ⟨#[], #[.slice none 0 0], []⟩ 8 (by kernel_rfl) (by kernel_rfl) (by kernel_rfl) (by kernel_rfl)) ?_
  intro W base args ds gs before hval0 hW hcnd _
  have hval : ∀ (j : Nat) t v, Try.f4.params[j]? = some t → args[j]? = some v → Value.okWide Try.prog W .any base t v := hval0
  have hW' := hW
  obtain ⟨p, q, hA0, hV, rfl, hfz, hnd⟩ := hW
  have hA : DataW.TrodAll enc Try.prog W 0 (fun _ => true) true Try.f4.params.toList args.toList ds p := hA0
  rw [Try.params4] at hA hval
  obtain ⟨v0, vs0, d0, ds0, p0, q0, hargs, rfl, rfl, h0, r0⟩ := trodAll_cons hA
  obtain ⟨rfl, rfl, rfl⟩ := trodAll_nil r0
  obtain rfl : args = #[v0] := by cases args; simp_all
  obtain ⟨rfl, rfl⟩ := trodVars_none hV
  obtain ⟨nl0, zs0, hz0, e0⟩ := bytes_rr (hval 0 23 v0 rfl rfl) h0
  refine (law_call (Go.Ai.law4 nl0 zs0 hz0) rfl ?_).mono fun e W' ⟨he, hk⟩ => ?_
  · intro j v u hj hu
    match j with
    | 0 => cases hj; cases hu; exact e0
    | j + 1 => simp at hj
  · subst he
    exact ⟨_, rfl, law_post huffRow_laid rfl (by kernel_rfl) (tb := 4) (by kernel_rfl) Try.underlying4 hW' hk rfl⟩

theorem huffRow_over : Rows.huffRowRow.holds Try.pinned (OpenSpec.ofChange Rows.huffRowSpec) :=
  OpenClaim.holds_of_wide 4 Try.f4 rfl rfl rfl rfl rfl rfl rfl ⟨rfl, rfl, rfl, rfl, rfl⟩ rfl rfl rfl rfl rfl (by kernel_rfl) Try.func4 (by kernel_rfl)
    (of_decide_eq_true (by kernel_rfl)) (by unfold Func.isWrapper; first | (rw [if_pos (by decide +kernel)]; kernel_rfl) | (rw [if_neg (by decide +kernel)]; exact ⟨rfl, rfl⟩))
    (fun os started H enc _ => huffRow_lifted os started H enc)

theorem huffRow_proved : Rows.HuffRowSaid := huffRow_over
#print axioms huffRow_proved
end Go.Proofs.Ytghhjkblhchhmaa
