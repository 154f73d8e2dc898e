/- For every input PlaceLast returns true, and its arguments read as they did. No conditions. -/
import Derived.Test.YtmpoeamfcienoaaRows
import Derived.Test.YtmpoeamfcienoaaKPL16
section
namespace Go.Proofs.Ytmpoeamfcienoaa
open Go.ChangeShapes Go.WideShapes Go.ChangeAt Go.RowKit Go.Ab
set_option linter.unusedVariables false
set_option maxRecDepth 100000
def shStP : Sh := .st (.fcons shPrt (.fcons shPlc (.fcons .bool .fnil)))
theorem stP_dec (r : List AV) (h : shStP.good r) : ∃ a : StP, a.p.Wf ∧ r = a.cells := by
  obtain ⟨_, _, h1, ⟨_, _, h2, ⟨_, _, ⟨b, rfl⟩, rfl, rfl⟩, rfl⟩, rfl⟩ := h
  obtain ⟨p, k1, rfl⟩ := prt_dec _ h1
  obtain ⟨q, k2, rfl⟩ := plc_dec _ h2
  exact ⟨⟨p, q, b⟩, k1, rfl⟩
theorem placeLast_lifted (os : Os) (started : os.Started) (H : Type) (enc : TypeId × Value → H) :
    ReturnsInHanded {} Try.checked os F_ladelaw13_PlaceLast .any (Rows.placeLastSpec.pre6 enc Try.prog Try.f4 Rows.placeLastRow.domain false) (Rows.placeLastSpec.post enc Try.prog Try.f4 false true false false) := by
  refine lift_true ([.int .u8, .slice shStP].map Sh.goodV) (C := Try.checked) (r := 4) (by kernel_rfl) started (by kernel_rfl) Try.func4
    (ChangeSpec.witness6 (enc := enc) (C := Try.checked) false ⟨#[], #[.int .u8 0, .slice none 0 0], []⟩ 8 (by kernel_rfl) (by kernel_rfl) (by kernel_rfl) (by kernel_rfl))
    rfl (fun ds h => ?_) rfl (by kernel_rfl) (by kernel_rfl) (of_decide_eq_true (by kernel_rfl)) (rd_of_ok (by kernel_rfl)) ?_
  · match ds, h with
    | [_, _], _ => rfl
  · rintro _ ⟨_, _, rfl, ⟨n, h2, h3⟩, _, _, rfl, h1, rfl⟩
    obtain ⟨l, k1, k2, k3⟩ := slice_dec (av := StP.av) stP_dec (fun _ => rfl) h1
    simp only [List.cons.injEq, and_true] at k3 h2
    subst k3 h2
    exact ct_ladelaw13_PlaceLast (u8_wf h3) (by have e : maxLen = 9223372036854775807 := rfl; omega) (fun f hf => by have e : maxLen = 9223372036854775807 := rfl; have := (k2 f hf).el; omega)
theorem placeLast_holds : Rows.PlaceLastSaid :=
  OpenClaim.holds_of_wide F_ladelaw13_PlaceLast Try.f4 rfl rfl rfl rfl rfl rfl rfl ⟨rfl, rfl, rfl, rfl, rfl⟩ rfl rfl rfl rfl rfl (by kernel_rfl) Try.func4 (by kernel_rfl)
    (of_decide_eq_true (by kernel_rfl)) (by unfold Func.isWrapper; rw [if_neg (by decide +kernel)]; exact ⟨rfl, rfl⟩)
    (fun os started H enc _ => placeLast_lifted os started H enc)
#print axioms placeLast_holds
end Go.Proofs.Ytmpoeamfcienoaa
end
