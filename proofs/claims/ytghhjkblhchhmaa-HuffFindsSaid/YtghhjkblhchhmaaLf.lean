/- Proved: HuffFinds returns true for every input that can be read, and each argument reads behind the call as it read before; no condition. -/
import Derived.Test.YtghhjkblhchhmaaGb
import Derived.Test.YtghhjkblhchhmaaDh
namespace Go.Ai
open Go Go.Proofs
theorem i64_wf {n : Int} (h : (Lit.int .i64 n).wf = true) : inR n := by
  have := bounds_i64 h
  unfold inR; omega
end Go.Ai

namespace Go.Proofs.Ytghhjkblhchhmaa
open Go.ChangeShapes Go.WideShapes Go.ChangeAt Go.RowKit
open Go.Ai (law_post law_call int_rr bytes_rr tab_rr)
set_option linter.unusedVariables false

theorem huffFinds_own : ownKnob Try.prog.godebug = none := by kernel_rfl
theorem huffFinds_laid : laidOutB Try.prog = true := by kernel_rfl

set_option maxRecDepth 100000 in
theorem huffFinds_lifted (os : Os) (started : os.Started) (H : Type) (enc : TypeId × Value → H) :
    ReturnsInHanded {} Try.checked os 8 .any (Rows.huffFindsSpec.pre6 enc Try.prog Try.f8 Rows.huffFindsRow.domain false) (Rows.huffFindsSpec.post enc Try.prog Try.f8 false true false false) := by
  refine returnsInHanded_of_change (C := Try.checked) huffFinds_own started (by kernel_rfl) Try.func8
    (ChangeSpec.witness6 (enc := enc) (C := Try.checked) false ⟨#[], #[.agg (Array.replicate 16 (.int .i64 0) ++ #[.slice none 0 0]), .slice none 0 0, .int .i64 0, .int .i64 0, .int .u16 0, .int .u8 0], []⟩ 8 (by kernel_rfl) (by kernel_rfl) (by kernel_rfl) (by kernel_rfl)) ?_
  intro W base args ds gs before hval0 hW hcnd _
  have hval : ∀ (j : Nat) t v, Try.f8.params[j]? = some t → args[j]? = some v → Value.okWide Try.prog W .any base t v := hval0
  have hW' := hW
  obtain ⟨p, q, hA0, hV, rfl, hfz, hnd⟩ := hW
  have hA : DataW.TrodAll enc Try.prog W 0 (fun _ => true) true Try.f8.params.toList args.toList ds p := hA0
  rw [Try.params8] at hA hval
  obtain ⟨v0, vs0, d0, ds0, p0, q0, hargs, rfl, rfl, h0, r0⟩ := trodAll_cons hA
  obtain ⟨v1, vs1, d1, ds1, p1, q1, rfl, rfl, rfl, h1, r1⟩ := trodAll_cons r0
  obtain ⟨v2, vs2, d2, ds2, p2, q2, rfl, rfl, rfl, h2, r2⟩ := trodAll_cons r1
  obtain ⟨v3, vs3, d3, ds3, p3, q3, rfl, rfl, rfl, h3, r3⟩ := trodAll_cons r2
  obtain ⟨v4, vs4, d4, ds4, p4, q4, rfl, rfl, rfl, h4, r4⟩ := trodAll_cons r3
  obtain ⟨v5, vs5, d5, ds5, p5, q5, rfl, rfl, rfl, h5, r5⟩ := trodAll_cons r4
  obtain ⟨rfl, rfl, rfl⟩ := trodAll_nil r5
  obtain rfl : args = #[v0, v1, v2, v3, v4, v5] := by cases args; simp_all
  obtain ⟨rfl, rfl⟩ := trodVars_none hV
  obtain ⟨t0, ht0, e0⟩ := tab_rr (hval 0 25 v0 rfl rfl) h0
  obtain ⟨nl1, zs1, hz1, e1⟩ := bytes_rr (hval 1 23 v1 rfl rfl) h1
  obtain ⟨n2, w2, e2⟩ := int_rr Try.underlying3 (hval 2 3 v2 rfl rfl) h2
  obtain ⟨n3, w3, e3⟩ := int_rr Try.underlying3 (hval 3 3 v3 rfl rfl) h3
  obtain ⟨n4, w4, e4⟩ := int_rr Try.underlying40 (hval 4 40 v4 rfl rfl) h4
  obtain ⟨n5, w5, e5⟩ := int_rr Try.underlying5 (hval 5 5 v5 rfl rfl) h5
  refine (law_call (Go.Ai.law8 t0 ht0 nl1 zs1 hz1 n2 n3 n4 n5 (Go.Ai.i64_wf w2) (Go.Ai.i64_wf w3) (Go.Ai.u16_wf w4).1 (Go.Ai.u16_wf w4).2 (Go.Ai.u8_wf w5).1 (Go.Ai.u8_wf w5).2) rfl ?_).mono fun e W' ⟨he, hk⟩ => ?_
  · intro j v u hj hu
    match j with
    | 0 => cases hj; cases hu; exact e0
    | 1 => cases hj; cases hu; exact e1
    | 2 => cases hj; cases hu; exact e2 _
    | 3 => cases hj; cases hu; exact e3 _
    | 4 => cases hj; cases hu; exact e4 _
    | 5 => cases hj; cases hu; exact e5 _
    | j + 6 => simp at hj
  · subst he
    exact ⟨_, rfl, law_post huffFinds_laid rfl (by kernel_rfl) (tb := 4) (by kernel_rfl) Try.underlying4 hW' hk rfl⟩

theorem huffFinds_over : Rows.huffFindsRow.holds Try.pinned (OpenSpec.ofChange Rows.huffFindsSpec) :=
  OpenClaim.holds_of_wide 8 Try.f8 rfl rfl rfl rfl rfl rfl rfl ⟨rfl, rfl, rfl, rfl, rfl⟩ rfl rfl rfl rfl rfl (by kernel_rfl) Try.func8 (by kernel_rfl)
    (of_decide_eq_true (by kernel_rfl)) (by unfold Func.isWrapper; first | (rw [if_pos (by decide +kernel)]; kernel_rfl) | (rw [if_neg (by decide +kernel)]; exact ⟨rfl, rfl⟩))
    (fun os started H enc _ => huffFinds_lifted os started H enc)

theorem huffFinds_proved : Rows.HuffFindsSaid := huffFinds_over
#print axioms huffFinds_proved
end Go.Proofs.Ytghhjkblhchhmaa
