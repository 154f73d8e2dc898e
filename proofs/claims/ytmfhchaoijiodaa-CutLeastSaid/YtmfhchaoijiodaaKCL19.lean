/- For every input CutLeast returns true, and their arguments read as they did. No conditions. -/
import Derived.Test.YtmfhchaoijiodaaRows
import Derived.Test.YtmfhchaoijiodaaKCL18
section
namespace Go.Proofs.Ytmfhchaoijiodaa
open Go.ChangeShapes Go.WideShapes Go.ChangeAt Go.RowKit Go.Ab
set_option linter.unusedVariables false
set_option maxRecDepth 100000
theorem cutLeast_lifted (os : Os) (started : os.Started) (H : Type) (enc : TypeId × Value → H) :
    ReturnsInHanded {} Try.checked os F_ladelaw26_CutLeast .any (Rows.cutLeastSpec.pre6 enc Try.prog Try.f3 Rows.cutLeastRow.domain false) (Rows.cutLeastSpec.post enc Try.prog Try.f3 false true false false) := by
  refine lift_true ([.int .u8, .int .u8].map Sh.goodV) (C := Try.checked) (r := 4) (by kernel_rfl) started (by kernel_rfl) Try.func3
    (ChangeSpec.witness6 (enc := enc) (C := Try.checked) false ⟨#[], #[.int .u8 0, .int .u8 0], []⟩ 8 (by kernel_rfl) (by kernel_rfl) (by kernel_rfl) (by kernel_rfl))
    rfl (fun ds h => ?_) rfl (by kernel_rfl) (by kernel_rfl) (of_decide_eq_true (by kernel_rfl)) (rd_of_ok (by kernel_rfl)) ?_
  · match ds, h with
    | [_, _], _ => rfl
  · rintro _ ⟨_, _, rfl, ⟨n, h2, h3⟩, _, _, rfl, ⟨m, h4, h5⟩, rfl⟩
    simp only [List.cons.injEq, and_true] at h2 h4
    subst h2 h4
    exact ct_ladelaw26_CutLeast (u8_wf h3) (u8_wf h5)
theorem cutLeast_holds : Rows.CutLeastSaid :=
  OpenClaim.holds_of_wide F_ladelaw26_CutLeast Try.f3 rfl rfl rfl rfl rfl rfl rfl ⟨rfl, rfl, rfl, rfl, rfl⟩ rfl rfl rfl rfl rfl (by kernel_rfl) Try.func3 (by kernel_rfl)
    (of_decide_eq_true (by kernel_rfl)) (by unfold Func.isWrapper; rw [if_neg (by decide +kernel)]; exact ⟨rfl, rfl⟩)
    (fun os started H enc _ => cutLeast_lifted os started H enc)
#print axioms cutLeast_holds
end Go.Proofs.Ytmfhchaoijiodaa
end
