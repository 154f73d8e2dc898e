/- tail.Judge hands back what judge says, for every argument. -/
import Derived.Test.YtconffokcoipjaaL
import Derived.Test.YtconffokcoipjaaD0
namespace Go.Proofs.Ytconffokcoipjaa
open Go.Ab
set_option linter.unusedVariables false
set_option linter.unusedSimpArgs false

def judge (last : Bool) (n cl : Int) : Int × Int := if cl = 2 ∨ (last = true ∧ 16 ≤ n ∧ (cl = 3 ∨ cl = 4)) then (n, 0) else (0, 21)

set_option maxRecDepth 100000 in
set_option maxHeartbeats 2000000 in
theorem run11 (last : Bool) (n cl : Int) (s : AState) : Runs (compCode Try.prog) Try.prog 11 [.v (.bool last), .v (.int .i64 n), .v (.int .i64 cl)] s
    (fun x s' => s' = s ∧ x = .tup [.v (.int .i64 (judge last n cl).1), .v (.int .i64 (judge last n cl).2)]) := by
  refine runs_e hA11 (Nat.le_of_ble_eq_true rfl) ?_
  by_cases h1 : cl = 2
  · repeat (first | (with_reducible apply o_one rfl; focus ((conv => lhs; simp [h1]); done)) | (with_reducible apply o_none rfl; focus ((conv => lhs; simp [h1]); done)) | with_reducible refine q_n ?_ | with_reducible refine q_e ?_ | with_reducible refine q_g ?_ | with_reducible refine q_r ?_ | with_reducible refine t_n ?_ | with_reducible refine t_e ?_ | with_reducible refine t_r ?_ | with_reducible refine t_g ?_ | with_reducible refine b_n ?_ | with_reducible refine b_r ?_ | with_reducible refine b_g ?_ | with_reducible refine b_x ?_ | with_reducible refine n_n ?_ | with_reducible refine n_e ?_ | with_reducible refine n_r ?_ | (with_reducible refine b_y ?_ ?_; focus (decide)) | with_reducible refine ops_nil ?_ | with_reducible refine w_seq ?_ | with_reducible refine w_block ?_ | with_reducible refine w_skip ?_ | with_reducible refine w_ret ?_ | with_reducible refine w_exit ?_ | with_reducible refine w_goto ?_ | with_reducible refine w_label ?_ | with_reducible refine w_ops ?_ | (with_reducible refine o_want ?_ ?_; focus (simp [h1]; done)) | (with_reducible refine o_skip (b' := false) ?_ Bool.false_ne_true ?_; focus (simp [h1]; done)) | (with_reducible refine o_skip (b' := true) ?_ Bool.false_ne_true.symm ?_; focus (simp [h1]; done)) | (with_reducible refine o_skipU ?_ ?_; focus (simp [h1]; done)) | (with_reducible refine w_true ?_ ?_; focus (simp [h1]; done)) | (with_reducible refine w_false ?_ ?_; focus (simp [h1]; done)))
    exact ret_ok rfl ⟨rfl, by simp [judge, h1]⟩
  · have hc : last = false ∨ (last = true ∧ ¬ 16 ≤ n) ∨ (last = true ∧ 16 ≤ n ∧ cl = 3) ∨ (last = true ∧ 16 ≤ n ∧ cl = 4) ∨ (last = true ∧ 16 ≤ n ∧ ¬ cl = 3 ∧ ¬ cl = 4) := by
      cases last
      · simp
      · simp; omega
    rcases hc with rfl | ⟨rfl, h3⟩ | ⟨rfl, h3, rfl⟩ | ⟨rfl, h3, rfl⟩ | ⟨rfl, h3, h4, h5⟩
    all_goals
      repeat (first | (with_reducible apply o_one rfl; focus ((conv => lhs; simp [*]); done)) | (with_reducible apply o_none rfl; focus ((conv => lhs; simp [*]); done)) | with_reducible refine q_n ?_ | with_reducible refine q_e ?_ | with_reducible refine q_g ?_ | with_reducible refine q_r ?_ | with_reducible refine t_n ?_ | with_reducible refine t_e ?_ | with_reducible refine t_r ?_ | with_reducible refine t_g ?_ | with_reducible refine b_n ?_ | with_reducible refine b_r ?_ | with_reducible refine b_g ?_ | with_reducible refine b_x ?_ | with_reducible refine n_n ?_ | with_reducible refine n_e ?_ | with_reducible refine n_r ?_ | (with_reducible refine b_y ?_ ?_; focus (decide)) | with_reducible refine ops_nil ?_ | with_reducible refine w_seq ?_ | with_reducible refine w_block ?_ | with_reducible refine w_skip ?_ | with_reducible refine w_ret ?_ | with_reducible refine w_exit ?_ | with_reducible refine w_goto ?_ | with_reducible refine w_label ?_ | with_reducible refine w_ops ?_ | (with_reducible refine o_want ?_ ?_; focus (simp [*]; done)) | (with_reducible refine o_skip (b' := false) ?_ Bool.false_ne_true ?_; focus (simp [*]; done)) | (with_reducible refine o_skip (b' := true) ?_ Bool.false_ne_true.symm ?_; focus (simp [*]; done)) | (with_reducible refine o_skipU ?_ ?_; focus (simp [*]; done)) | (with_reducible refine w_true ?_ ?_; focus (simp [*]; done)) | (with_reducible refine w_false ?_ ?_; focus (simp [*]; done)))
      first | exact ret_ok rfl ⟨rfl, by simp [judge, *]⟩ | trace_state

end Go.Proofs.Ytconffokcoipjaa
