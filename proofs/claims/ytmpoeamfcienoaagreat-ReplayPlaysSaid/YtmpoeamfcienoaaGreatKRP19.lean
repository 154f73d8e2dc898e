/- For every input ReplayPlays returns true, and its arguments read as they did. No conditions. -/
import Derived.Test.YtmpoeamfcienoaaGreatRows
import Derived.Test.YtmpoeamfcienoaaGreatKRP18
section
namespace Go.Proofs.YtmpoeamfcienoaaGreat
open Go.ChangeShapes Go.WideShapes Go.ChangeAt Go.RowKit Go.Ab
set_option linter.unusedVariables false
set_option maxRecDepth 100000
theorem ints_dec {k : IntKind} {xs : List AV} (h : (Sh.slice (.int k)).good xs) : ∃ l : List Int, l.length ≤ maxLen ∧ (∀ n ∈ l, (Lit.int k n).wf = true) ∧ xs = [.sl (l.map fun n => .v (.int k n)) .no] :=
  slice_dec (e := .int k) (cells := fun n => [.v (.int k n)]) (fun r ⟨n, h1, h2⟩ => ⟨n, h2, h1⟩) (fun _ => rfl) h
theorem replayPlays_lifted (os : Os) (started : os.Started) (H : Type) (enc : TypeId × Value → H) :
    ReturnsInHanded {} Tryz.checked os F_ladelaw19_ReplayPlays .any (Rows.replayPlaysSpec.pre6 enc Tryz.prog Tryz.f5 Rows.replayPlaysRow.domain false) (Rows.replayPlaysSpec.post enc Tryz.prog Tryz.f5 false true false false) := by
  refine lift_true ([.slice shFnd, .int .i64, .slice (.int .i64), .slice (.int .u8)].map Sh.goodV) (C := Tryz.checked) (r := 4) (by kernel_rfl) started (by kernel_rfl) Tryz.func5
    (ChangeSpec.witness6 (enc := enc) (C := Tryz.checked) false ⟨#[], #[.slice none 0 0, .int .i64 0, .slice none 0 0, .slice none 0 0], []⟩ 8 (by kernel_rfl) (by kernel_rfl) (by kernel_rfl) (by kernel_rfl))
    rfl (fun ds h => ?_) rfl (by kernel_rfl) (by kernel_rfl) (of_decide_eq_true (by kernel_rfl)) (rd_of_ok (by kernel_rfl)) ?_
  · match ds, h with
    | [_, _, _, _], _ => rfl
  · rintro _ ⟨_, _, rfl, h1, _, _, rfl, ⟨n, h2, h3⟩, _, _, rfl, h4, _, _, rfl, h5, rfl⟩
    obtain ⟨l, k1, k2, k3⟩ := slice_dec (av := Fnd.av) fnd_dec (fun _ => rfl) h1
    obtain ⟨x, x1, x2, x3⟩ := ints_dec h4
    obtain ⟨y, y1, y2, y3⟩ := ints_dec h5
    simp only [List.cons.injEq, and_true] at k3 h2 x3 y3
    subst k3 h2 x3 y3
    have e : maxLen = 9223372036854775807 := rfl
    exact ct_ladelaw19_ReplayPlays (by omega) (fun f hf => by have := (k2 f hf).pl; omega) (fun f hf p hp => by have := ((k2 f hf).ps p hp).el; omega) (by omega) (by omega)
theorem replayPlays_holds : Rows.ReplayPlaysSaid :=
  OpenClaim.holds_of_wide F_ladelaw19_ReplayPlays Tryz.f5 rfl rfl rfl rfl rfl rfl rfl ⟨rfl, rfl, rfl, rfl, rfl⟩ rfl rfl rfl rfl rfl (by kernel_rfl) Tryz.func5 (by kernel_rfl)
    (of_decide_eq_true (by kernel_rfl)) (by unfold Func.isWrapper; rw [if_neg (by decide +kernel)]; exact ⟨rfl, rfl⟩)
    (fun os started H enc _ => replayPlays_lifted os started H enc)
#print axioms replayPlays_holds
end Go.Proofs.YtmpoeamfcienoaaGreat
end
