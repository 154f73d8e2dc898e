import Derived.Test.YtconffokcoipjaaE5
namespace Go.Proofs.Ytconffokcoipjaa
open Go.Ab
set_option linter.unusedVariables false
set_option linter.unusedSimpArgs false
set_option maxRecDepth 100000
set_option maxHeartbeats 8000000

/-! ### how many parts -/
def cnt (l : List Fnd) : Nat := (l.map fun f => f.ps.length).sum
def cnts (L : List (List Fnd)) : Nat := (L.map cnt).sum
theorem cnt_snoc {l : List Fnd} {i : Nat} (h : i < l.length) : cnt (l.take (i + 1)) = cnt (l.take i) + l[i].ps.length := by
  unfold cnt; rw [List.take_succ_eq_append_getElem h, List.map_append, List.sum_append]; rfl
theorem cnts_snoc {l : List (List Fnd)} {i : Nat} (h : i < l.length) : cnts (l.take (i + 1)) = cnts (l.take i) + cnt l[i] := by
  unfold cnts; rw [List.take_succ_eq_append_getElem h, List.map_append, List.sum_append]; rfl
theorem cnt_take (l : List Fnd) (i : Nat) : cnt (l.take i) ≤ cnt l := by
  unfold cnt
  conv => rhs; rw [← List.take_append_drop i l, List.map_append, List.sum_append]
  omega
theorem cnts_take (l : List (List Fnd)) (i : Nat) : cnts (l.take i) ≤ cnts l := by
  unfold cnts
  conv => rhs; rw [← List.take_append_drop i l, List.map_append, List.sum_append]
  omega
theorem cnt_le {l : List Fnd} {n : Nat} (h : ∀ f ∈ l, f.ps.length ≤ n) : cnt l ≤ l.length * n := by
  induction l with
  | nil => simp [cnt]
  | cons f l ih =>
    have h1 := ih (fun f hf => h f (List.mem_cons_of_mem _ hf))
    have h2 := h f (List.mem_cons_self ..)
    simp only [cnt, List.map_cons, List.sum_cons, List.length_cons, Nat.add_mul, Nat.one_mul] at h1 ⊢
    omega
theorem cnt_full {l : List Fnd} {i : Nat} (h : l.length ≤ i) : cnt (l.take i) = cnt l := by rw [List.take_of_length_le h]
theorem cnts_full {l : List (List Fnd)} {i : Nat} (h : l.length ≤ i) : cnts (l.take i) = cnts l := by rw [List.take_of_length_le h]

theorem sum_zero {l : List Nat} (h : ∀ x ∈ l, x = 0) : l.sum = 0 := by
  induction l with
  | nil => rfl
  | cons a l ih =>
    rw [List.sum_cons, ih (fun x hx => h x (List.mem_cons_of_mem _ hx)), h a (List.mem_cons_self ..)]
theorem sum_hit (k : Nat) (v : Int) (h0 : 0 ≤ v) (h : v < k) : ((List.range k).map fun i : Nat => if v = (i : Int) then 1 else 0).sum = 1 := by
  induction k with
  | zero => omega
  | succ k ih =>
    rw [List.range_succ, List.map_append, List.sum_append]
    by_cases e : v = k
    · have : ((List.range k).map fun i : Nat => if v = (i : Int) then 1 else 0).sum = 0 := by
        apply sum_zero
        intro x hx
        obtain ⟨i, hi, rfl⟩ := List.mem_map.1 hx
        have := List.mem_range.1 hi
        rw [if_neg (by omega)]
      rw [this]; simp [e]
    · rw [ih (by omega)]; simp [e]
theorem sum_add {α : Type} (l : List α) (f g : α → Nat) : (l.map fun a => f a + g a).sum = (l.map f).sum + (l.map g).sum := by
  induction l with
  | nil => rfl
  | cons a l ih => simp [ih]; omega
theorem ofG_pos (g n : Int) : 0 ≤ ofG g n ∧ ofG g n < held n := by
  have := held_pos n
  unfold ofG
  split
  · rw [Int.zero_tmod]; omega
  · exact ⟨Int.tmod_nonneg _ (by omega), Int.tmod_lt_of_pos _ (by omega)⟩
theorem sum_mine (ps : List Prt) (n : Int) : ((List.range (held n).toNat).map fun i : Nat => (ps.filter (mineP i n)).length).sum = ps.length := by
  induction ps with
  | nil => apply sum_zero; intro x hx; obtain ⟨i, hi, rfl⟩ := List.mem_map.1 hx; rfl
  | cons p ps ih =>
    have e : (fun i : Nat => ((p :: ps).filter (mineP i n)).length) = fun i : Nat => (if ofG p.gr n = (i : Int) then 1 else 0) + (ps.filter (mineP i n)).length := by
      funext i
      rw [List.filter_cons]
      by_cases h : ofG p.gr n = (i : Int)
      · simp [mineP, h]; omega
      · simp [mineP, h]
    have := ofG_pos p.gr n
    rw [e, sum_add, sum_hit _ _ this.1 (by have := held_pos n; omega), ih]
    simp; omega
theorem splitI_cons (f : Fnd) (l : List Fnd) (i n : Int) : splitI (f :: l) i n = (if (pickF i n f).ps.isEmpty then [] else [pickF i n f]) ++ splitI l i n := by
  unfold splitI
  by_cases e : (pickF i n f).ps.isEmpty = true <;> simp [e]
theorem cnt_splitI_cons (f : Fnd) (l : List Fnd) (i n : Int) : cnt (splitI (f :: l) i n) = (f.ps.filter (mineP i n)).length + cnt (splitI l i n) := by
  rw [splitI_cons]
  by_cases e : (pickF i n f).ps.isEmpty = true
  · have e' : f.ps.filter (mineP i n) = [] := by simpa [pickF] using e
    simp only [e, if_true, List.nil_append, e', List.length_nil, Nat.zero_add]
  · simp only [e, if_false, cnt, List.map_append, List.sum_append, List.map_cons, List.map_nil, List.sum_cons, List.sum_nil]
    simp [pickF]
theorem cnts_split (l : List Fnd) (n : Int) : cnts (split l n) = cnt l := by
  unfold cnts split
  rw [List.map_map]
  induction l with
  | nil => show _ = 0; apply sum_zero; intro x hx; obtain ⟨i, hi, rfl⟩ := List.mem_map.1 hx; rfl
  | cons f l ih =>
    have e : (cnt ∘ fun i : Nat => splitI (f :: l) (i : Int) n) = fun i : Nat => (f.ps.filter (mineP i n)).length + (cnt ∘ fun i : Nat => splitI l (i : Int) n) i := by
      funext i; exact cnt_splitI_cons f l i n
    rw [e, sum_add, sum_mine, ih]
    simp [cnt]
theorem split_get {l : List Fnd} {n : Int} {i : Nat} (h : i < (split l n).length) : (split l n)[i] = splitI l i n := by simp [split]
theorem splitI_mem {l : List Fnd} {i n : Int} {f : Fnd} (h : f ∈ splitI l i n) : f.ps ≠ [] ∧ ∀ p ∈ f.ps, ofG p.gr n = i := by
  simp only [splitI, List.mem_filter, List.mem_map] at h
  obtain ⟨⟨f', _, rfl⟩, h2⟩ := h
  refine ⟨by simpa using h2, fun p hp => ?_⟩
  have := (List.mem_filter.1 hp).2
  simpa [mineP] using this

theorem ct_ladelaw18_ShardWhole {l : List Fnd} {n : Int} {s : AState} (hs : Small l) (hn : 0 ≤ n ∧ n < 256) : Gives prog F_ladelaw18_ShardWhole [.sl (l.map Fnd.av) .no, .v (.int .u8 n)] s (.v (.bool true)) s := by
  refine runs_e h_ladelaw18_ShardWhole (Nat.le_of_ble_eq_true rfl) ?_
  repeat (first | with_reducible (first | apply q_n | apply q_e | apply q_g | apply q_r | apply t_n | apply t_e | apply t_r | apply t_g | apply b_n | apply b_r | apply b_g | apply b_x | apply n_n | apply n_e | apply n_r | apply ops_nil | apply w_seq | apply w_block | apply w_skip | apply w_ret | apply w_exit | apply w_goto | apply w_label | apply w_ops | apply d_nil) | ((with_reducible apply b_y); focus (decide)) | ((with_reducible first | apply r_a | apply r_n | apply r_r | apply r_e | apply r_g); (focus (simp (disch := first | omega | (simp <;> omega) | fail); done)); (focus ((conv => lhs; simp (disch := first | omega | (simp <;> omega) | fail)); done))) | ((with_reducible apply o_1 rfl); (focus ((conv => lhs; simp (disch := first | omega | (simp <;> omega) | fail)); done))) | ((with_reducible apply o_0 rfl); (focus ((conv => lhs; simp (disch := first | omega | (simp <;> omega) | fail)); done))) | ((with_reducible apply w_plain); focus (exact rfl)) | ((with_reducible refine o_want ?_ ?_); focus (simp (disch := first | omega | (simp <;> omega) | fail); done)) | ((with_reducible refine o_skip (b' := false) ?_ Bool.false_ne_true ?_); focus (simp (disch := first | omega | (simp <;> omega) | fail); done)) | ((with_reducible refine o_skip (b' := true) ?_ Bool.false_ne_true.symm ?_); focus (simp (disch := first | omega | (simp <;> omega) | fail); done)) | ((with_reducible refine o_skipU ?_ ?_); focus (simp (disch := first | omega | (simp <;> omega) | fail); done)) | ((with_reducible apply o_giv rfl); (focus ((conv => lhs; simp (disch := first | omega | (simp <;> omega) | fail)); done)); (focus ((conv => lhs; simp (disch := first | omega | (simp <;> omega) | fail)); done)); (focus (first | (apply ct_ladelaw18_known <;> first | assumption | omega | decide)))) | ((with_reducible refine w_true ?_ ?_); focus (simp (disch := first | omega | (simp <;> omega) | fail); done)) | ((with_reducible refine w_false ?_ ?_); focus (simp (disch := first | omega | (simp <;> omega) | fail); done)) | fail)
  refine o_giv2 (fs := []) (caps := []) rfl ?_ (ct_ladelaw18_fewFound hs.h1 hs.h2 hs.h3) ?_; (focus (first | (simp; done) | rfl | (simp; rfl)))
  by_cases hf : fewFound l = true
  · obtain ⟨b1, b2, b3⟩ := fewFound_len hf
    obtain ⟨m, hm, hm1, hm2⟩ : ∃ m : Int, n.tmod 64 = m ∧ 0 ≤ m ∧ m < 64 := ⟨_, rfl, Int.tmod_nonneg _ hn.1, Int.tmod_lt_of_pos _ (by omega)⟩
    have w1 : IntKind.wrap .u8 m = m := by
      unfold IntKind.wrap; simp [IntKind.signed, IntKind.bits]; omega
    have w2 : IntKind.wrap .i64 m = m := wrap_i64 (by omega) (by omega)
    repeat (first | with_reducible (first | apply q_n | apply q_e | apply q_g | apply q_r | apply t_n | apply t_e | apply t_r | apply t_g | apply b_n | apply b_r | apply b_g | apply b_x | apply n_n | apply n_e | apply n_r | apply ops_nil | apply w_seq | apply w_block | apply w_skip | apply w_ret | apply w_exit | apply w_goto | apply w_label | apply w_ops | apply d_nil) | ((with_reducible apply b_y); focus (decide)) | ((with_reducible first | apply r_a | apply r_n | apply r_r | apply r_e | apply r_g); (focus (simp (disch := first | omega | (simp <;> omega) | fail) [hf, w1, w2, hm]; done)); (focus ((conv => lhs; simp (disch := first | omega | (simp <;> omega) | fail) [hf, w1, w2, hm]); done))) | ((with_reducible apply o_1 rfl); (focus ((conv => lhs; simp (disch := first | omega | (simp <;> omega) | fail) [hf, w1, w2, hm]); done))) | ((with_reducible apply o_0 rfl); (focus ((conv => lhs; simp (disch := first | omega | (simp <;> omega) | fail) [hf, w1, w2, hm]); done))) | ((with_reducible apply w_plain); focus (exact rfl)) | ((with_reducible refine o_want ?_ ?_); focus (simp (disch := first | omega | (simp <;> omega) | fail) [hf, w1, w2, hm]; done)) | ((with_reducible refine o_skip (b' := false) ?_ Bool.false_ne_true ?_); focus (simp (disch := first | omega | (simp <;> omega) | fail) [hf, w1, w2, hm]; done)) | ((with_reducible refine o_skip (b' := true) ?_ Bool.false_ne_true.symm ?_); focus (simp (disch := first | omega | (simp <;> omega) | fail) [hf, w1, w2, hm]; done)) | ((with_reducible refine o_skipU ?_ ?_); focus (simp (disch := first | omega | (simp <;> omega) | fail) [hf, w1, w2, hm]; done)) | ((with_reducible refine w_true ?_ ?_); focus (simp (disch := first | omega | (simp <;> omega) | fail) [hf, w1, w2, hm]; done)) | ((with_reducible refine w_false ?_ ?_); focus (simp (disch := first | omega | (simp <;> omega) | fail) [hf, w1, w2, hm]; done)) | fail)
    refine o_giv2 (fs := []) (caps := []) rfl ?_ (ct_shard_Split (l := l) (n := m + 1) (by omega) (fun f hf => by have := b2 f hf; omega)) ?_; (focus (first | (simp; done) | rfl | (simp; rfl)))
    have hk : held (m + 1) = m + 1 := by unfold held; rw [if_neg (by omega), if_neg (by omega)]
    have hlen := split_length l (m + 1)
    rw [hk] at hlen
    have hlI : ((split l (m + 1)).length : Int) = m + 1 := by omega
    generalize hSS : split l (m + 1) = SS at hlen hlI
    repeat (first | with_reducible (first | apply q_n | apply q_e | apply q_g | apply q_r | apply t_n | apply t_e | apply t_r | apply t_g | apply b_n | apply b_r | apply b_g | apply b_x | apply n_n | apply n_e | apply n_r | apply ops_nil | apply w_seq | apply w_block | apply w_skip | apply w_ret | apply w_exit | apply w_goto | apply w_label | apply w_ops | apply d_nil) | ((with_reducible apply b_y); focus (decide)) | ((with_reducible first | apply r_a | apply r_n | apply r_r | apply r_e | apply r_g); (focus (simp (disch := first | omega | (simp <;> omega) | fail) [hlI]; done)); (focus ((conv => lhs; simp (disch := first | omega | (simp <;> omega) | fail) [hlI]); done))) | ((with_reducible apply o_1 rfl); (focus ((conv => lhs; simp (disch := first | omega | (simp <;> omega) | fail) [hlI]); done))) | ((with_reducible apply o_0 rfl); (focus ((conv => lhs; simp (disch := first | omega | (simp <;> omega) | fail) [hlI]); done))) | ((with_reducible apply w_plain); focus (exact rfl)) | ((with_reducible refine o_want ?_ ?_); focus (simp (disch := first | omega | (simp <;> omega) | fail) [hlI]; done)) | ((with_reducible refine o_skip (b' := false) ?_ Bool.false_ne_true ?_); focus (simp (disch := first | omega | (simp <;> omega) | fail) [hlI]; done)) | ((with_reducible refine o_skip (b' := true) ?_ Bool.false_ne_true.symm ?_); focus (simp (disch := first | omega | (simp <;> omega) | fail) [hlI]; done)) | ((with_reducible refine o_skipU ?_ ?_); focus (simp (disch := first | omega | (simp <;> omega) | fail) [hlI]; done)) | ((with_reducible refine w_true ?_ ?_); focus (simp (disch := first | omega | (simp <;> omega) | fail) [hlI]; done)) | ((with_reducible refine w_false ?_ ?_); focus (simp (disch := first | omega | (simp <;> omega) | fail) [hlI]; done)) | fail)
    have hcl : cnt l ≤ 180 := by
      have h1 := cnt_le (l := l) (n := 6) (fun f hf => by have := b2 f hf; omega)
      have h2 : l.length * 6 ≤ 180 := by omega
      omega
    have hcs : cnts SS = cnt l := by rw [← hSS]; exact cnts_split _ _
    have hnn : ¬ (m + 1 = 0) := by omega
    -- the whole
    refine loop_ok [0, 5, 6, 7, 8, 9] (fun r a s1 => s = s1 ∧ ∃ i : Nat, i + r = l.length ∧ a = { t := den 105 [(0, .sl (l.map Fnd.av) .no), (5, .v (.int .i64 (m + 1))), (6, .sl (SS.map fun l => .sl (l.map Fnd.av) .no) .no), (7, .v (.int .i64 (cnt (l.take i) : Nat))), (8, .v (.int .i64 0)), (9, .v (.int .i64 i))], d := [] }) l.length ?_ ?_
    · exact ⟨rfl, 0, by simp, by simp [cnt]⟩
    rintro r a _ ⟨rfl, i, hir, rfl⟩
    by_cases hlt : i < l.length
    · have w3 : IntKind.wrap .i64 ((i : Int) + 1) = (i : Int) + 1 := wrap_i64 (by omega) (by omega)
      have hc := cnt_snoc hlt
      have hc2 := cnt_take l (i + 1)
      have w4 : IntKind.wrap .i64 ((cnt (l.take i) : Int) + l[i].ps.length) = (cnt (l.take (i + 1)) : Int) := by rw [wrap_i64 (by omega) (by omega)]; omega
      repeat (first | with_reducible (first | apply q_n | apply q_e | apply q_g | apply q_r | apply t_n | apply t_e | apply t_r | apply t_g | apply b_n | apply b_r | apply b_g | apply b_x | apply n_n | apply n_e | apply n_r | apply ops_nil | apply w_seq | apply w_block | apply w_skip | apply w_ret | apply w_exit | apply w_goto | apply w_label | apply w_ops | apply d_nil) | ((with_reducible apply b_y); focus (decide)) | ((with_reducible first | apply r_a | apply r_n | apply r_r | apply r_e | apply r_g); (focus (simp (disch := first | omega | (simp <;> omega) | fail) [hlt, w4]; done)); (focus ((conv => lhs; simp (disch := first | omega | (simp <;> omega) | fail) [hlt, w4]); done))) | ((with_reducible apply o_1 rfl); (focus ((conv => lhs; simp (disch := first | omega | (simp <;> omega) | fail) [hlt, w4]); done))) | ((with_reducible apply o_0 rfl); (focus ((conv => lhs; simp (disch := first | omega | (simp <;> omega) | fail) [hlt, w4]); done))) | ((with_reducible apply w_plain); focus (exact rfl)) | ((with_reducible refine o_want ?_ ?_); focus (simp (disch := first | omega | (simp <;> omega) | fail) [hlt, w4]; done)) | ((with_reducible refine o_skip (b' := false) ?_ Bool.false_ne_true ?_); focus (simp (disch := first | omega | (simp <;> omega) | fail) [hlt, w4]; done)) | ((with_reducible refine o_skip (b' := true) ?_ Bool.false_ne_true.symm ?_); focus (simp (disch := first | omega | (simp <;> omega) | fail) [hlt, w4]; done)) | ((with_reducible refine o_skipU ?_ ?_); focus (simp (disch := first | omega | (simp <;> omega) | fail) [hlt, w4]; done)) | ((with_reducible refine w_true ?_ ?_); focus (simp (disch := first | omega | (simp <;> omega) | fail) [hlt, w4]; done)) | ((with_reducible refine w_false ?_ ?_); focus (simp (disch := first | omega | (simp <;> omega) | fail) [hlt, w4]; done)) | fail)
      exact ⟨r - 1, by omega, rfl, i + 1, by omega, by simp⟩
    have hc := cnt_full (Nat.le_of_not_lt hlt)
    repeat (first | with_reducible (first | apply q_n | apply q_e | apply q_g | apply q_r | apply t_n | apply t_e | apply t_r | apply t_g | apply b_n | apply b_r | apply b_g | apply b_x | apply n_n | apply n_e | apply n_r | apply ops_nil | apply w_seq | apply w_block | apply w_skip | apply w_ret | apply w_exit | apply w_goto | apply w_label | apply w_ops | apply d_nil) | ((with_reducible apply b_y); focus (decide)) | ((with_reducible first | apply r_a | apply r_n | apply r_r | apply r_e | apply r_g); (focus (simp (disch := first | omega | (simp <;> omega) | fail) [hlt, hc]; done)); (focus ((conv => lhs; simp (disch := first | omega | (simp <;> omega) | fail) [hlt, hc]); done))) | ((with_reducible apply o_1 rfl); (focus ((conv => lhs; simp (disch := first | omega | (simp <;> omega) | fail) [hlt, hc]); done))) | ((with_reducible apply o_0 rfl); (focus ((conv => lhs; simp (disch := first | omega | (simp <;> omega) | fail) [hlt, hc]); done))) | ((with_reducible apply w_plain); focus (exact rfl)) | ((with_reducible refine o_want ?_ ?_); focus (simp (disch := first | omega | (simp <;> omega) | fail) [hlt, hc]; done)) | ((with_reducible refine o_skip (b' := false) ?_ Bool.false_ne_true ?_); focus (simp (disch := first | omega | (simp <;> omega) | fail) [hlt, hc]; done)) | ((with_reducible refine o_skip (b' := true) ?_ Bool.false_ne_true.symm ?_); focus (simp (disch := first | omega | (simp <;> omega) | fail) [hlt, hc]; done)) | ((with_reducible refine o_skipU ?_ ?_); focus (simp (disch := first | omega | (simp <;> omega) | fail) [hlt, hc]; done)) | ((with_reducible refine w_true ?_ ?_); focus (simp (disch := first | omega | (simp <;> omega) | fail) [hlt, hc]; done)) | ((with_reducible refine w_false ?_ ?_); focus (simp (disch := first | omega | (simp <;> omega) | fail) [hlt, hc]; done)) | fail)
    clear hlt hir
    -- the shards
    refine loop_ok [5, 6, 7, 8, 10] (fun r a s1 => s = s1 ∧ ∃ i : Nat, i + r = SS.length ∧ a = { t := den 105 [(5, .v (.int .i64 (m + 1))), (6, .sl (SS.map fun l => .sl (l.map Fnd.av) .no) .no), (7, .v (.int .i64 (cnt l : Nat))), (8, .v (.int .i64 (cnts (SS.take i) : Nat))), (10, .v (.int .i64 i))], d := [] }) SS.length ?_ ?_
    · exact ⟨rfl, 0, by simp, by simp [cnts, hc]⟩
    clear hc
    clear i
    rintro r a _ ⟨rfl, i, hir, rfl⟩
    by_cases hlt : i < SS.length
    · have hlt' : (i : Int) < m + 1 := by omega
      have w3 : IntKind.wrap .i64 ((i : Int) + 1) = (i : Int) + 1 := wrap_i64 (by omega) (by omega)
      have hc := cnts_snoc hlt
      have hc2 := cnts_take SS (i + 1)
      have hmem : ∀ f ∈ SS[i], f.ps ≠ [] ∧ ∀ p ∈ f.ps, ofG p.gr (m + 1) = i := by
        subst hSS
        rw [split_get hlt]; exact fun f hf => splitI_mem hf
      have hSl : SS[i].length ≤ 30 := by
        subst hSS
        rw [split_get hlt]; have := splitI_len l i (m + 1); omega
      repeat (first | with_reducible (first | apply q_n | apply q_e | apply q_g | apply q_r | apply t_n | apply t_e | apply t_r | apply t_g | apply b_n | apply b_r | apply b_g | apply b_x | apply n_n | apply n_e | apply n_r | apply ops_nil | apply w_seq | apply w_block | apply w_skip | apply w_ret | apply w_exit | apply w_goto | apply w_label | apply w_ops | apply d_nil) | ((with_reducible apply b_y); focus (decide)) | ((with_reducible first | apply r_a | apply r_n | apply r_r | apply r_e | apply r_g); (focus (simp (disch := first | omega | (simp <;> omega) | fail) [hlt, hlt']; done)); (focus ((conv => lhs; simp (disch := first | omega | (simp <;> omega) | fail) [hlt, hlt']); done))) | ((with_reducible apply o_1 rfl); (focus ((conv => lhs; simp (disch := first | omega | (simp <;> omega) | fail) [hlt, hlt']); done))) | ((with_reducible apply o_0 rfl); (focus ((conv => lhs; simp (disch := first | omega | (simp <;> omega) | fail) [hlt, hlt']); done))) | ((with_reducible apply w_plain); focus (exact rfl)) | ((with_reducible refine o_want ?_ ?_); focus (simp (disch := first | omega | (simp <;> omega) | fail) [hlt, hlt']; done)) | ((with_reducible refine o_skip (b' := false) ?_ Bool.false_ne_true ?_); focus (simp (disch := first | omega | (simp <;> omega) | fail) [hlt, hlt']; done)) | ((with_reducible refine o_skip (b' := true) ?_ Bool.false_ne_true.symm ?_); focus (simp (disch := first | omega | (simp <;> omega) | fail) [hlt, hlt']; done)) | ((with_reducible refine o_skipU ?_ ?_); focus (simp (disch := first | omega | (simp <;> omega) | fail) [hlt, hlt']; done)) | ((with_reducible refine w_true ?_ ?_); focus (simp (disch := first | omega | (simp <;> omega) | fail) [hlt, hlt']; done)) | ((with_reducible refine w_false ?_ ?_); focus (simp (disch := first | omega | (simp <;> omega) | fail) [hlt, hlt']; done)) | fail)
      refine loop_ok [5, 6, 7, 8, 10, 11] (fun r a s1 => s = s1 ∧ ∃ j : Nat, j + r = SS[i].length ∧ a = { t := den 105 [(5, .v (.int .i64 (m + 1))), (6, .sl (SS.map fun l => .sl (l.map Fnd.av) .no) .no), (7, .v (.int .i64 (cnt l : Nat))), (8, .v (.int .i64 (cnts (SS.take i) + cnt (SS[i].take j) : Nat))), (10, .v (.int .i64 i)), (11, .v (.int .i64 j))], d := [] }) SS[i].length ?_ ?_
      · exact ⟨rfl, 0, by simp, by simp [cnt]⟩
      rintro r2 a _ ⟨rfl, j, hjr, rfl⟩
      by_cases hj : j < SS[i].length
      · obtain ⟨hne, hof⟩ := hmem _ (List.getElem_mem hj)
        have hne' : ¬ SS[i][j].ps.length = 0 := by simpa using hne
        have w4 : IntKind.wrap .i64 ((j : Int) + 1) = (j : Int) + 1 := wrap_i64 (by omega) (by omega)
        have hd := cnt_snoc hj
        have hd2 := cnt_take SS[i] (j + 1)
        repeat (first | with_reducible (first | apply q_n | apply q_e | apply q_g | apply q_r | apply t_n | apply t_e | apply t_r | apply t_g | apply b_n | apply b_r | apply b_g | apply b_x | apply n_n | apply n_e | apply n_r | apply ops_nil | apply w_seq | apply w_block | apply w_skip | apply w_ret | apply w_exit | apply w_goto | apply w_label | apply w_ops | apply d_nil) | ((with_reducible apply b_y); focus (decide)) | ((with_reducible first | apply r_a | apply r_n | apply r_r | apply r_e | apply r_g); (focus (simp (disch := first | omega | (simp <;> omega) | fail) [hlt, hj, hne', hne]; done)); (focus ((conv => lhs; simp (disch := first | omega | (simp <;> omega) | fail) [hlt, hj, hne', hne]); done))) | ((with_reducible apply o_1 rfl); (focus ((conv => lhs; simp (disch := first | omega | (simp <;> omega) | fail) [hlt, hj, hne', hne]); done))) | ((with_reducible apply o_0 rfl); (focus ((conv => lhs; simp (disch := first | omega | (simp <;> omega) | fail) [hlt, hj, hne', hne]); done))) | ((with_reducible apply w_plain); focus (exact rfl)) | ((with_reducible refine o_want ?_ ?_); focus (simp (disch := first | omega | (simp <;> omega) | fail) [hlt, hj, hne', hne]; done)) | ((with_reducible refine o_skip (b' := false) ?_ Bool.false_ne_true ?_); focus (simp (disch := first | omega | (simp <;> omega) | fail) [hlt, hj, hne', hne]; done)) | ((with_reducible refine o_skip (b' := true) ?_ Bool.false_ne_true.symm ?_); focus (simp (disch := first | omega | (simp <;> omega) | fail) [hlt, hj, hne', hne]; done)) | ((with_reducible refine o_skipU ?_ ?_); focus (simp (disch := first | omega | (simp <;> omega) | fail) [hlt, hj, hne', hne]; done)) | ((with_reducible refine w_true ?_ ?_); focus (simp (disch := first | omega | (simp <;> omega) | fail) [hlt, hj, hne', hne]; done)) | ((with_reducible refine w_false ?_ ?_); focus (simp (disch := first | omega | (simp <;> omega) | fail) [hlt, hj, hne', hne]; done)) | fail)
        refine loop_ok [5, 6, 7, 8, 10, 11, 12] (fun r a s1 => s = s1 ∧ ∃ x : Nat, x + r = SS[i][j].ps.length ∧ a = { t := den 105 [(5, .v (.int .i64 (m + 1))), (6, .sl (SS.map fun l => .sl (l.map Fnd.av) .no) .no), (7, .v (.int .i64 (cnt l : Nat))), (8, .v (.int .i64 (cnts (SS.take i) + cnt (SS[i].take j) + x : Nat))), (10, .v (.int .i64 i)), (11, .v (.int .i64 j)), (12, .v (.int .i64 x))], d := [] }) SS[i][j].ps.length ?_ ?_
        · exact ⟨rfl, 0, by simp, by simp⟩
        rintro r3 a _ ⟨rfl, x, hxr, rfl⟩
        by_cases hx : x < SS[i][j].ps.length
        · have ho := hof _ (List.getElem_mem hx)
          have w5 : IntKind.wrap .i64 ((x : Int) + 1) = (x : Int) + 1 := wrap_i64 (by omega) (by omega)
          repeat (first | with_reducible (first | apply q_n | apply q_e | apply q_g | apply q_r | apply t_n | apply t_e | apply t_r | apply t_g | apply b_n | apply b_r | apply b_g | apply b_x | apply n_n | apply n_e | apply n_r | apply ops_nil | apply w_seq | apply w_block | apply w_skip | apply w_ret | apply w_exit | apply w_goto | apply w_label | apply w_ops | apply d_nil) | ((with_reducible apply b_y); focus (decide)) | ((with_reducible first | apply r_a | apply r_n | apply r_r | apply r_e | apply r_g); (focus (simp (disch := first | omega | (simp <;> omega) | fail) [hlt, hj, hx, ho]; done)); (focus ((conv => lhs; simp (disch := first | omega | (simp <;> omega) | fail) [hlt, hj, hx, ho]); done))) | ((with_reducible apply o_1 rfl); (focus ((conv => lhs; simp (disch := first | omega | (simp <;> omega) | fail) [hlt, hj, hx, ho]); done))) | ((with_reducible apply o_0 rfl); (focus ((conv => lhs; simp (disch := first | omega | (simp <;> omega) | fail) [hlt, hj, hx, ho]); done))) | ((with_reducible apply w_plain); focus (exact rfl)) | ((with_reducible refine o_want ?_ ?_); focus (simp (disch := first | omega | (simp <;> omega) | fail) [hlt, hj, hx, ho]; done)) | ((with_reducible refine o_skip (b' := false) ?_ Bool.false_ne_true ?_); focus (simp (disch := first | omega | (simp <;> omega) | fail) [hlt, hj, hx, ho]; done)) | ((with_reducible refine o_skip (b' := true) ?_ Bool.false_ne_true.symm ?_); focus (simp (disch := first | omega | (simp <;> omega) | fail) [hlt, hj, hx, ho]; done)) | ((with_reducible refine o_skipU ?_ ?_); focus (simp (disch := first | omega | (simp <;> omega) | fail) [hlt, hj, hx, ho]; done)) | ((with_reducible apply o_giv rfl); (focus ((conv => lhs; simp (disch := first | omega | (simp <;> omega) | fail) [hlt, hj, hx, ho]); done)); (focus ((conv => lhs; simp (disch := first | omega | (simp <;> omega) | fail)); done)); (focus (first | (apply ct_shard_Of <;> first | assumption | omega | decide)))) | ((with_reducible refine w_true ?_ ?_); focus (simp (disch := first | omega | (simp <;> omega) | fail) [hlt, hj, hx, ho]; done)) | ((with_reducible refine w_false ?_ ?_); focus (simp (disch := first | omega | (simp <;> omega) | fail) [hlt, hj, hx, ho]; done)) | fail)
          exact ⟨r3 - 1, by omega, rfl, x + 1, by omega, by simp [w5, Int.add_assoc]⟩
        · have hxe : x = SS[i][j].ps.length := by omega
          repeat (first | with_reducible (first | apply q_n | apply q_e | apply q_g | apply q_r | apply t_n | apply t_e | apply t_r | apply t_g | apply b_n | apply b_r | apply b_g | apply b_x | apply n_n | apply n_e | apply n_r | apply ops_nil | apply w_seq | apply w_block | apply w_skip | apply w_ret | apply w_exit | apply w_goto | apply w_label | apply w_ops | apply d_nil) | ((with_reducible apply b_y); focus (decide)) | ((with_reducible first | apply r_a | apply r_n | apply r_r | apply r_e | apply r_g); (focus (simp (disch := first | omega | (simp <;> omega) | fail) [hlt, hj, hx]; done)); (focus ((conv => lhs; simp (disch := first | omega | (simp <;> omega) | fail) [hlt, hj, hx]); done))) | ((with_reducible apply o_1 rfl); (focus ((conv => lhs; simp (disch := first | omega | (simp <;> omega) | fail) [hlt, hj, hx]); done))) | ((with_reducible apply o_0 rfl); (focus ((conv => lhs; simp (disch := first | omega | (simp <;> omega) | fail) [hlt, hj, hx]); done))) | ((with_reducible apply w_plain); focus (exact rfl)) | ((with_reducible refine o_want ?_ ?_); focus (simp (disch := first | omega | (simp <;> omega) | fail) [hlt, hj, hx]; done)) | ((with_reducible refine o_skip (b' := false) ?_ Bool.false_ne_true ?_); focus (simp (disch := first | omega | (simp <;> omega) | fail) [hlt, hj, hx]; done)) | ((with_reducible refine o_skip (b' := true) ?_ Bool.false_ne_true.symm ?_); focus (simp (disch := first | omega | (simp <;> omega) | fail) [hlt, hj, hx]; done)) | ((with_reducible refine o_skipU ?_ ?_); focus (simp (disch := first | omega | (simp <;> omega) | fail) [hlt, hj, hx]; done)) | ((with_reducible refine w_true ?_ ?_); focus (simp (disch := first | omega | (simp <;> omega) | fail) [hlt, hj, hx]; done)) | ((with_reducible refine w_false ?_ ?_); focus (simp (disch := first | omega | (simp <;> omega) | fail) [hlt, hj, hx]; done)) | fail)
          exact ⟨r2 - 1, by omega, rfl, j + 1, by omega, by rw [hxe]; simp [w4, hd, Int.add_assoc]⟩
      · have hd := cnt_full (Nat.le_of_not_lt hj)
        repeat (first | with_reducible (first | apply q_n | apply q_e | apply q_g | apply q_r | apply t_n | apply t_e | apply t_r | apply t_g | apply b_n | apply b_r | apply b_g | apply b_x | apply n_n | apply n_e | apply n_r | apply ops_nil | apply w_seq | apply w_block | apply w_skip | apply w_ret | apply w_exit | apply w_goto | apply w_label | apply w_ops | apply d_nil) | ((with_reducible apply b_y); focus (decide)) | ((with_reducible first | apply r_a | apply r_n | apply r_r | apply r_e | apply r_g); (focus (simp (disch := first | omega | (simp <;> omega) | fail) [hlt, hj]; done)); (focus ((conv => lhs; simp (disch := first | omega | (simp <;> omega) | fail) [hlt, hj]); done))) | ((with_reducible apply o_1 rfl); (focus ((conv => lhs; simp (disch := first | omega | (simp <;> omega) | fail) [hlt, hj]); done))) | ((with_reducible apply o_0 rfl); (focus ((conv => lhs; simp (disch := first | omega | (simp <;> omega) | fail) [hlt, hj]); done))) | ((with_reducible apply w_plain); focus (exact rfl)) | ((with_reducible refine o_want ?_ ?_); focus (simp (disch := first | omega | (simp <;> omega) | fail) [hlt, hj]; done)) | ((with_reducible refine o_skip (b' := false) ?_ Bool.false_ne_true ?_); focus (simp (disch := first | omega | (simp <;> omega) | fail) [hlt, hj]; done)) | ((with_reducible refine o_skip (b' := true) ?_ Bool.false_ne_true.symm ?_); focus (simp (disch := first | omega | (simp <;> omega) | fail) [hlt, hj]; done)) | ((with_reducible refine o_skipU ?_ ?_); focus (simp (disch := first | omega | (simp <;> omega) | fail) [hlt, hj]; done)) | ((with_reducible refine w_true ?_ ?_); focus (simp (disch := first | omega | (simp <;> omega) | fail) [hlt, hj]; done)) | ((with_reducible refine w_false ?_ ?_); focus (simp (disch := first | omega | (simp <;> omega) | fail) [hlt, hj]; done)) | fail)
        exact ⟨r - 1, by omega, rfl, i + 1, by omega, by simp [w3, hd, hc]⟩
    · have hlt' : ¬ (i : Int) < m + 1 := by omega
      have hc := cnts_full (Nat.le_of_not_lt hlt)
      repeat (first | with_reducible (first | apply q_n | apply q_e | apply q_g | apply q_r | apply t_n | apply t_e | apply t_r | apply t_g | apply b_n | apply b_r | apply b_g | apply b_x | apply n_n | apply n_e | apply n_r | apply ops_nil | apply w_seq | apply w_block | apply w_skip | apply w_ret | apply w_exit | apply w_goto | apply w_label | apply w_ops | apply d_nil) | ((with_reducible apply b_y); focus (decide)) | ((with_reducible first | apply r_a | apply r_n | apply r_r | apply r_e | apply r_g); (focus (simp (disch := first | omega | (simp <;> omega) | fail) [hlt', hc, hcs]; done)); (focus ((conv => lhs; simp (disch := first | omega | (simp <;> omega) | fail) [hlt', hc, hcs]); done))) | ((with_reducible apply o_1 rfl); (focus ((conv => lhs; simp (disch := first | omega | (simp <;> omega) | fail) [hlt', hc, hcs]); done))) | ((with_reducible apply o_0 rfl); (focus ((conv => lhs; simp (disch := first | omega | (simp <;> omega) | fail) [hlt', hc, hcs]); done))) | ((with_reducible apply w_plain); focus (exact rfl)) | ((with_reducible refine o_want ?_ ?_); focus (simp (disch := first | omega | (simp <;> omega) | fail) [hlt', hc, hcs]; done)) | ((with_reducible refine o_skip (b' := false) ?_ Bool.false_ne_true ?_); focus (simp (disch := first | omega | (simp <;> omega) | fail) [hlt', hc, hcs]; done)) | ((with_reducible refine o_skip (b' := true) ?_ Bool.false_ne_true.symm ?_); focus (simp (disch := first | omega | (simp <;> omega) | fail) [hlt', hc, hcs]; done)) | ((with_reducible refine o_skipU ?_ ?_); focus (simp (disch := first | omega | (simp <;> omega) | fail) [hlt', hc, hcs]; done)) | ((with_reducible refine w_true ?_ ?_); focus (simp (disch := first | omega | (simp <;> omega) | fail) [hlt', hc, hcs]; done)) | ((with_reducible refine w_false ?_ ?_); focus (simp (disch := first | omega | (simp <;> omega) | fail) [hlt', hc, hcs]; done)) | fail)
      exact ret_ok rfl ⟨by simp, rfl⟩
  · repeat (first | with_reducible (first | apply q_n | apply q_e | apply q_g | apply q_r | apply t_n | apply t_e | apply t_r | apply t_g | apply b_n | apply b_r | apply b_g | apply b_x | apply n_n | apply n_e | apply n_r | apply ops_nil | apply w_seq | apply w_block | apply w_skip | apply w_ret | apply w_exit | apply w_goto | apply w_label | apply w_ops | apply d_nil) | ((with_reducible apply b_y); focus (decide)) | ((with_reducible first | apply r_a | apply r_n | apply r_r | apply r_e | apply r_g); (focus (simp (disch := first | omega | (simp <;> omega) | fail) [hf]; done)); (focus ((conv => lhs; simp (disch := first | omega | (simp <;> omega) | fail) [hf]); done))) | ((with_reducible apply o_1 rfl); (focus ((conv => lhs; simp (disch := first | omega | (simp <;> omega) | fail) [hf]); done))) | ((with_reducible apply o_0 rfl); (focus ((conv => lhs; simp (disch := first | omega | (simp <;> omega) | fail) [hf]); done))) | ((with_reducible apply w_plain); focus (exact rfl)) | ((with_reducible refine o_want ?_ ?_); focus (simp (disch := first | omega | (simp <;> omega) | fail) [hf]; done)) | ((with_reducible refine o_skip (b' := false) ?_ Bool.false_ne_true ?_); focus (simp (disch := first | omega | (simp <;> omega) | fail) [hf]; done)) | ((with_reducible refine o_skip (b' := true) ?_ Bool.false_ne_true.symm ?_); focus (simp (disch := first | omega | (simp <;> omega) | fail) [hf]; done)) | ((with_reducible refine o_skipU ?_ ?_); focus (simp (disch := first | omega | (simp <;> omega) | fail) [hf]; done)) | ((with_reducible refine w_true ?_ ?_); focus (simp (disch := first | omega | (simp <;> omega) | fail) [hf]; done)) | ((with_reducible refine w_false ?_ ?_); focus (simp (disch := first | omega | (simp <;> omega) | fail) [hf]; done)) | fail)
    exact ret_ok rfl ⟨rfl, rfl⟩
end Go.Proofs.Ytconffokcoipjaa
