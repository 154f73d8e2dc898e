/- For every input PlaceMoves returns true, and its arguments read as they did. No conditions. -/
import Derived.Test.YtmpoeamfcienoaaRows
import Derived.Test.YtmpoeamfcienoaaKPM16
section
namespace Go.Proofs.Ytmpoeamfcienoaa
open Go.ChangeShapes Go.WideShapes Go.ChangeAt Go.RowKit Go.Ab
set_option linter.unusedVariables false
set_option maxRecDepth 100000
theorem placeMoves_lifted (os : Os) (started : os.Started) (H : Type) (enc : TypeId × Value → H) :
    ReturnsInHanded {} Try.checked os F_ladelaw13_PlaceMoves .any (Rows.placeMovesSpec.pre6 enc Try.prog Try.f5 Rows.placeMovesRow.domain false) (Rows.placeMovesSpec.post enc Try.prog Try.f5 false true false false) := by
  refine lift_true ([.int .u8, .int .u8, .bool, .bool, .int .u16].map Sh.goodV) (C := Try.checked) (r := 4) (by kernel_rfl) started (by kernel_rfl) Try.func5
    (ChangeSpec.witness6 (enc := enc) (C := Try.checked) false ⟨#[], #[.int .u8 0, .int .u8 0, .bool false, .bool false, .int .u16 0], []⟩ 8 (by kernel_rfl) (by kernel_rfl) (by kernel_rfl) (by kernel_rfl))
    rfl (fun ds h => ?_) rfl (by kernel_rfl) (by kernel_rfl) (of_decide_eq_true (by kernel_rfl)) (rd_of_ok (by kernel_rfl)) ?_
  · match ds, h with
    | [_, _, _, _, _], _ => rfl
  · rintro _ ⟨_, _, rfl, ⟨id, h1, h2⟩, _, _, rfl, ⟨n, h3, h4⟩, _, _, rfl, ⟨mark, h5⟩, _, _, rfl, ⟨head, h6⟩, _, _, rfl, ⟨w, h7, h8⟩, rfl⟩
    simp only [List.cons.injEq, and_true] at h1 h3 h5 h6 h7
    subst h1 h3 h5 h6 h7
    have h9 : 0 ≤ w ∧ w < 65536 := by
      simp only [Lit.wf, Bool.and_eq_true, decide_eq_true_eq] at h8
      exact ⟨h8.1, Int.lt_of_le_of_lt h8.2 (by decide)⟩
    obtain ⟨m, rfl⟩ : ∃ m : Nat, w = m := ⟨w.toNat, by omega⟩
    exact ct_ladelaw13_PlaceMoves (u8_wf h2) (u8_wf h4) (by omega)
theorem placeMoves_holds : Rows.PlaceMovesSaid :=
  OpenClaim.holds_of_wide F_ladelaw13_PlaceMoves Try.f5 rfl rfl rfl rfl rfl rfl rfl ⟨rfl, rfl, rfl, rfl, rfl⟩ rfl rfl rfl rfl rfl (by kernel_rfl) Try.func5 (by kernel_rfl)
    (of_decide_eq_true (by kernel_rfl)) (by unfold Func.isWrapper; rw [if_neg (by decide +kernel)]; exact ⟨rfl, rfl⟩)
    (fun os started H enc _ => placeMoves_lifted os started H enc)
#print axioms placeMoves_holds
end Go.Proofs.Ytmpoeamfcienoaa
end
