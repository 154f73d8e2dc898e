/- For every input each of ShardTells, ShardWhole, ShardOne, ShardOrder returns true, and its arguments read as they did. No conditions. -/
import Derived.Test.YtconffokcoipjaaRows
import Derived.Test.YtconffokcoipjaaD7
import Derived.Test.YtconffokcoipjaaE6
import Derived.Test.YtconffokcoipjaaE7
import Derived.Test.YtconffokcoipjaaE8
import Derived.ProofKit
namespace Go.Proofs.Ytconffokcoipjaa
open Go.ChangeShapes Go.WideShapes Go.ChangeAt Go.RowKit Go.Ab
set_option linter.unusedVariables false
set_option maxRecDepth 100000

theorem small_of {l : List Fnd} (h : l.length ≤ maxLen) (hw : ∀ f ∈ l, f.Wf) : Small l := by
  have e : maxLen = 9223372036854775807 := rfl
  exact ⟨by omega, fun f hf => by have := (hw f hf).pl; omega, fun f hf p hp => by have := ((hw f hf).ps p hp).el; omega⟩

theorem ints_dec {k : IntKind} {xs : List AV} (h : (Sh.slice (.int k)).good xs) : ∃ l : List Int, l.length ≤ maxLen ∧ (∀ n ∈ l, (Lit.int k n).wf = true) ∧ xs = [.sl (l.map fun n => .v (.int k n)) .no] :=
  slice_dec (e := .int k) (cells := fun n => [.v (.int k n)]) (fun r ⟨n, h1, h2⟩ => ⟨n, h2, h1⟩) (fun _ => rfl) h

theorem shardTells_lifted (os : Os) (started : os.Started) (H : Type) (enc : TypeId × Value → H) :
    ReturnsInHanded {} Try.checked os F_ladelaw18_ShardTells .any (Rows.shardTellsSpec.pre6 enc Try.prog Try.f5 Rows.shardTellsRow.domain false) (Rows.shardTellsSpec.post enc Try.prog Try.f5 false true false false) := by
  refine lift_true ([.slice shFnd, shI, shI].map Sh.goodV) (C := Try.checked) (r := 4) (by kernel_rfl) started (by kernel_rfl) Try.func5
    (ChangeSpec.witness6 (enc := enc) (C := Try.checked) false ⟨#[], #[.slice none 0 0, .int .i64 0, .int .i64 0], []⟩ 8 (by kernel_rfl) (by kernel_rfl) (by kernel_rfl) (by kernel_rfl))
    rfl (fun ds h => ?_) rfl (by kernel_rfl) (by kernel_rfl) (of_decide_eq_true (by kernel_rfl)) (rd_of_ok (by kernel_rfl)) ?_
  · match ds, h with
    | [_, _, _], _ => rfl
  · rintro _ ⟨_, _, rfl, h1, _, _, rfl, ⟨n, h2, _⟩, _, _, rfl, ⟨m, h3, _⟩, rfl⟩
    obtain ⟨l, k1, k2, k3⟩ := slice_dec (av := Fnd.av) fnd_dec (fun _ => rfl) h1
    simp only [List.cons.injEq, and_true] at k3 h2 h3
    subst k3 h2 h3
    exact ct_ladelaw18_ShardTells (small_of k1 k2)
theorem shardTells_holds : Rows.ShardTellsSaid :=
  OpenClaim.holds_of_wide F_ladelaw18_ShardTells Try.f5 rfl rfl rfl rfl rfl rfl rfl ⟨rfl, rfl, rfl, rfl, rfl⟩ rfl rfl rfl rfl rfl (by kernel_rfl) Try.func5 (by kernel_rfl)
    (of_decide_eq_true (by kernel_rfl)) (by unfold Func.isWrapper; rw [if_neg (by decide +kernel)]; exact ⟨rfl, rfl⟩)
    (fun os started H enc _ => shardTells_lifted os started H enc)
#print axioms shardTells_holds
theorem shardWhole_lifted (os : Os) (started : os.Started) (H : Type) (enc : TypeId × Value → H) :
    ReturnsInHanded {} Try.checked os F_ladelaw18_ShardWhole .any (Rows.shardWholeSpec.pre6 enc Try.prog Try.f6 Rows.shardWholeRow.domain false) (Rows.shardWholeSpec.post enc Try.prog Try.f6 false true false false) := by
  refine lift_true ([.slice shFnd, .int .u8].map Sh.goodV) (C := Try.checked) (r := 4) (by kernel_rfl) started (by kernel_rfl) Try.func6
    (ChangeSpec.witness6 (enc := enc) (C := Try.checked) false ⟨#[], #[.slice none 0 0, .int .u8 0], []⟩ 8 (by kernel_rfl) (by kernel_rfl) (by kernel_rfl) (by kernel_rfl))
    rfl (fun ds h => ?_) rfl (by kernel_rfl) (by kernel_rfl) (of_decide_eq_true (by kernel_rfl)) (rd_of_ok (by kernel_rfl)) ?_
  · match ds, h with
    | [_, _], _ => rfl
  · rintro _ ⟨_, _, rfl, h1, _, _, rfl, ⟨n, h2, h3⟩, rfl⟩
    obtain ⟨l, k1, k2, k3⟩ := slice_dec (av := Fnd.av) fnd_dec (fun _ => rfl) h1
    simp only [List.cons.injEq, and_true] at k3 h2
    subst k3 h2
    exact ct_ladelaw18_ShardWhole (small_of k1 k2) (u8_wf h3)
theorem shardWhole_holds : Rows.ShardWholeSaid :=
  OpenClaim.holds_of_wide F_ladelaw18_ShardWhole Try.f6 rfl rfl rfl rfl rfl rfl rfl ⟨rfl, rfl, rfl, rfl, rfl⟩ rfl rfl rfl rfl rfl (by kernel_rfl) Try.func6 (by kernel_rfl)
    (of_decide_eq_true (by kernel_rfl)) (by unfold Func.isWrapper; rw [if_neg (by decide +kernel)]; exact ⟨rfl, rfl⟩)
    (fun os started H enc _ => shardWhole_lifted os started H enc)
#print axioms shardWhole_holds
theorem shardOne_lifted (os : Os) (started : os.Started) (H : Type) (enc : TypeId × Value → H) :
    ReturnsInHanded {} Try.checked os F_ladelaw18_ShardOne .any (Rows.shardOneSpec.pre6 enc Try.prog Try.f7 Rows.shardOneRow.domain false) (Rows.shardOneSpec.post enc Try.prog Try.f7 false true false false) := by
  refine lift_true ([.slice shFnd, .int .i8].map Sh.goodV) (C := Try.checked) (r := 4) (by kernel_rfl) started (by kernel_rfl) Try.func7
    (ChangeSpec.witness6 (enc := enc) (C := Try.checked) false ⟨#[], #[.slice none 0 0, .int .i8 0], []⟩ 8 (by kernel_rfl) (by kernel_rfl) (by kernel_rfl) (by kernel_rfl))
    rfl (fun ds h => ?_) rfl (by kernel_rfl) (by kernel_rfl) (of_decide_eq_true (by kernel_rfl)) (rd_of_ok (by kernel_rfl)) ?_
  · match ds, h with
    | [_, _], _ => rfl
  · rintro _ ⟨_, _, rfl, h1, _, _, rfl, ⟨n, h2, h3⟩, rfl⟩
    obtain ⟨l, k1, k2, k3⟩ := slice_dec (av := Fnd.av) fnd_dec (fun _ => rfl) h1
    simp only [List.cons.injEq, and_true] at k3 h2
    subst k3 h2
    exact ct_ladelaw18_ShardOne (small_of k1 k2) (i8_wf h3)
theorem shardOne_holds : Rows.ShardOneSaid :=
  OpenClaim.holds_of_wide F_ladelaw18_ShardOne Try.f7 rfl rfl rfl rfl rfl rfl rfl ⟨rfl, rfl, rfl, rfl, rfl⟩ rfl rfl rfl rfl rfl (by kernel_rfl) Try.func7 (by kernel_rfl)
    (of_decide_eq_true (by kernel_rfl)) (by unfold Func.isWrapper; rw [if_neg (by decide +kernel)]; exact ⟨rfl, rfl⟩)
    (fun os started H enc _ => shardOne_lifted os started H enc)
#print axioms shardOne_holds
theorem shardOrder_lifted (os : Os) (started : os.Started) (H : Type) (enc : TypeId × Value → H) :
    ReturnsInHanded {} Try.checked os F_ladelaw18_ShardOrder .any (Rows.shardOrderSpec.pre6 enc Try.prog Try.f8 Rows.shardOrderRow.domain false) (Rows.shardOrderSpec.post enc Try.prog Try.f8 false true false false) := by
  refine lift_true ([.slice (.int .u8), .int .u8].map Sh.goodV) (C := Try.checked) (r := 4) (by kernel_rfl) started (by kernel_rfl) Try.func8
    (ChangeSpec.witness6 (enc := enc) (C := Try.checked) false ⟨#[], #[.slice none 0 0, .int .u8 0], []⟩ 8 (by kernel_rfl) (by kernel_rfl) (by kernel_rfl) (by kernel_rfl))
    rfl (fun ds h => ?_) rfl (by kernel_rfl) (by kernel_rfl) (of_decide_eq_true (by kernel_rfl)) (rd_of_ok (by kernel_rfl)) ?_
  · match ds, h with
    | [_, _], _ => rfl
  · rintro _ ⟨_, _, rfl, h1, _, _, rfl, ⟨n, h2, h3⟩, rfl⟩
    obtain ⟨l, k1, k2, k3⟩ := ints_dec h1
    simp only [List.cons.injEq, and_true] at k3 h2
    subst k3 h2
    exact ct_ladelaw18_ShardOrder (by have e : maxLen = 9223372036854775807 := rfl; omega) (fun g hg => u8_wf (k2 g hg)) (u8_wf h3)
theorem shardOrder_holds : Rows.ShardOrderSaid :=
  OpenClaim.holds_of_wide F_ladelaw18_ShardOrder Try.f8 rfl rfl rfl rfl rfl rfl rfl ⟨rfl, rfl, rfl, rfl, rfl⟩ rfl rfl rfl rfl rfl (by kernel_rfl) Try.func8 (by kernel_rfl)
    (of_decide_eq_true (by kernel_rfl)) (by unfold Func.isWrapper; rw [if_neg (by decide +kernel)]; exact ⟨rfl, rfl⟩)
    (fun os started H enc _ => shardOrder_lifted os started H enc)
#print axioms shardOrder_holds
end Go.Proofs.Ytconffokcoipjaa
