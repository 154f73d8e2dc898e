/- For every input LedgerDestroys returns true, and its arguments read as they did. No conditions. -/
import Derived.Test.YtmpoeamfcienoaaRows
import Derived.Test.YtmpoeamfcienoaaKLD16
section
namespace Go.Proofs.Ytmpoeamfcienoaa
open Go.ChangeShapes Go.WideShapes Go.ChangeAt Go.RowKit Go.Ab
set_option linter.unusedVariables false
set_option maxRecDepth 100000
theorem ledgerDestroys_lifted (os : Os) (started : os.Started) (H : Type) (enc : TypeId × Value → H) :
    ReturnsInHanded {} Try.checked os F_ladelaw14_LedgerDestroys .any (Rows.ledgerDestroysSpec.pre6 enc Try.prog Try.f8 Rows.ledgerDestroysRow.domain false) (Rows.ledgerDestroysSpec.post enc Try.prog Try.f8 false true false false) := by
  refine lift_true ([.int .u8, .int .u8, .int .u8].map Sh.goodV) (C := Try.checked) (r := 4) (by kernel_rfl) started (by kernel_rfl) Try.func8
    (ChangeSpec.witness6 (enc := enc) (C := Try.checked) false ⟨#[], #[.int .u8 0, .int .u8 0, .int .u8 0], []⟩ 8 (by kernel_rfl) (by kernel_rfl) (by kernel_rfl) (by kernel_rfl))
    rfl (fun ds h => ?_) rfl (by kernel_rfl) (by kernel_rfl) (of_decide_eq_true (by kernel_rfl)) (rd_of_ok (by kernel_rfl)) ?_
  · match ds, h with
    | [_, _, _], _ => rfl
  · rintro _ ⟨_, _, rfl, ⟨n, h2, h3⟩, _, _, rfl, ⟨m, h4, h5⟩, _, _, rfl, ⟨q, h6, h7⟩, rfl⟩
    simp only [List.cons.injEq, and_true] at h2 h4 h6
    subst h2 h4 h6
    exact ct_ladelaw14_LedgerDestroys (u8_wf h3) (u8_wf h5) (u8_wf h7)
theorem ledgerDestroys_holds : Rows.LedgerDestroysSaid :=
  OpenClaim.holds_of_wide F_ladelaw14_LedgerDestroys Try.f8 rfl rfl rfl rfl rfl rfl rfl ⟨rfl, rfl, rfl, rfl, rfl⟩ rfl rfl rfl rfl rfl (by kernel_rfl) Try.func8 (by kernel_rfl)
    (of_decide_eq_true (by kernel_rfl)) (by unfold Func.isWrapper; rw [if_neg (by decide +kernel)]; exact ⟨rfl, rfl⟩)
    (fun os started H enc _ => ledgerDestroys_lifted os started H enc)
#print axioms ledgerDestroys_holds
end Go.Proofs.Ytmpoeamfcienoaa
end
