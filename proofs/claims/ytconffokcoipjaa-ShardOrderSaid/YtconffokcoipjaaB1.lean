/- Slices that stay: laid from rows of cells, read as rows of cells; a slice's literal; strings and bytes; make. -/
import Derived.Test.YtconffokcoipjaaB0
namespace Go.Ab
open Go.RowKit
set_option linter.unusedVariables false
set_option linter.unusedSimpArgs false

variable {cmp : Code → Option ACode} {P : Program}

/-- all cells, row by row -/
def rowCells (xs : List AV) : List AV := xs.flatMap AV.cells

theorem rowCells_length {xs : List AV} {k : Nat} (h : ∀ x ∈ xs, x.cells.length = k) : (rowCells xs).length = xs.length * k := by
  induction xs with
  | nil => simp [rowCells]
  | cons x xs ih =>
    have := ih fun y hy => h y (by simp [hy])
    simp only [rowCells, List.flatMap_cons, List.length_append, List.length_cons] at this ⊢
    rw [this, h x (by simp), Nat.add_mul, Nat.one_mul, Nat.add_comm]

theorem rowCells_get {xs : List AV} {k : Nat} (h : ∀ x ∈ xs, x.cells.length = k) : ∀ (i : Nat) (hi : i < xs.length) (j : Nat) (hj : j < (xs[i]).cells.length), (rowCells xs)[i * k + j]? = some (xs[i]).cells[j] := by
  induction xs with
  | nil => intro i hi; simp at hi
  | cons x xs ih =>
    intro i hi j hj
    have hx := h x (by simp)
    simp only [rowCells, List.flatMap_cons]
    cases i with
    | zero =>
      simp only [List.getElem_cons_zero] at hj ⊢
      rw [Nat.zero_mul, Nat.zero_add, List.getElem?_append_left hj, List.getElem?_eq_getElem hj]
    | succ i =>
      have := ih (fun y hy => h y (by simp [hy])) i (by simpa using hi) j (by simpa using hj)
      rw [List.getElem?_append_right (by rw [hx, Nat.add_mul]; omega), hx, Nat.add_mul, Nat.one_mul, show i * k + k + j - k = i * k + j by omega]
      exact this

/-- a slice out of its cells -/
theorem R.sl_of {c : Cx} {xs : List AV} {k : Nat} {us : List Value} (h1 : ∀ x ∈ xs, x.cells.length = k) (hR : RL c (rowCells xs) us) {B o cap : Nat} (ha : ∀ j v, us[j]? = some v → (c.arr B)[o + j]? = some v)
    (hcap : xs.length ≤ cap) {t : Tok} (ht : TokOk c t B (o + xs.length * k) (o + cap * k) xs.length cap) : R c (.sl xs t) (.slice (some ⟨B, o, none⟩) xs.length cap) := by
  have hl := rowCells_length h1
  refine .sl xs t k B o cap (fun j => us.getD j undef) (fun i hi => h1 _ (List.getElem_mem hi)) (fun j hj => ?_) (fun i hi j hj => ?_) hcap ht
  · refine ha j _ ?_
    rw [List.getD_eq_getElem?_getD, List.getElem?_eq_getElem (by rw [hR.1, hl]; exact hj)]; rfl
  · have hg := rowCells_get h1 i hi j hj
    have hlt : i * k + j < (rowCells xs).length := (List.getElem?_eq_some_iff.1 hg).1
    have := hR.2 _ hlt
    rw [(List.getElem?_eq_some_iff.1 hg).2] at this
    exact this

/-- a slice's cells -/
theorem R.sl_cells {c : Cx} {xs : List AV} {t : Tok} {y : Value} (h : R c (.sl xs t) y) :
    (xs = [] ∧ ∃ p, y = .slice p 0 0 ∧ ∀ k, t ≠ .own k) ∨ ∃ (k B o cap : Nat) (us : List Value), y = .slice (some ⟨B, o, none⟩) xs.length cap ∧ (∀ x ∈ xs, x.cells.length = k) ∧ RL c (rowCells xs) us ∧ us.length = xs.length * k ∧
      (∀ j v, us[j]? = some v → (c.arr B)[o + j]? = some v) ∧ xs.length ≤ cap ∧ TokOk c t B (o + xs.length * k) (o + cap * k) xs.length cap := by
  rcases h.sl_inv with h | ⟨k, B, o, cap, g, hy, q1, q2, q3, q4, q5⟩
  · exact .inl h
  · have h1 : ∀ x ∈ xs, x.cells.length = k := fun x hx => by
      obtain ⟨i, hi, rfl⟩ := List.mem_iff_getElem.1 hx
      exact q1 i hi
    have hl := rowCells_length h1
    refine .inr ⟨k, B, o, cap, (List.range (xs.length * k)).map g, hy, h1, ⟨by simp [hl], fun j hj => ?_⟩, by simp, fun j v hj => ?_, q4, q5⟩
    · rw [hl] at hj
      rw [List.getD_eq_getElem?_getD, List.getElem?_map, List.getElem?_range hj]
      have hk : 0 < k := by
        rcases Nat.eq_zero_or_pos k with h0 | h0
        · subst h0; simp at hj
        · exact h0
      have hi : j / k < xs.length := by rw [Nat.div_lt_iff_lt_mul hk]; exact hj
      have hm : j % k < (xs[j / k]).cells.length := by rw [q1 _ hi]; exact Nat.mod_lt _ hk
      have hg := rowCells_get h1 (j / k) hi (j % k) hm
      have e : j / k * k + j % k = j := by rw [Nat.mul_comm]; exact Nat.div_add_mod j k
      have := q3 _ hi _ hm
      rw [e] at this hg
      have hx := (List.getElem?_eq_some_iff.1 hg).2
      rw [hx]
      exact this
    · have hlt : j < xs.length * k := by
        by_cases h' : j < xs.length * k
        · exact h'
        · rw [List.getElem?_eq_none (by simpa using h')] at hj; cases hj
      rw [List.getElem?_map, List.getElem?_range hlt] at hj
      simp only [Option.map_some, Option.some.injEq] at hj
      rw [← hj]
      exact q2 j hlt

theorem R.strip1 {c : Cx} {x : AV} {y : Value} (h : R c x y) : R c x.strip1 y := by
  cases h with
  | sl xs t k B o cap g h1 h2 h3 h4 h5 => exact .sl xs .no k B o cap g h1 h2 h3 h4 trivial
  | sl0 t p ht => exact .sl0 .no p (fun k => by simp)
  | v x => exact .v _
  | p b off h => exact .p b off h
  | q cs off B o g h1 h2 => exact .q cs off B o g h1 h2
  | ms b off len cap h h1 => exact .ms b off len cap h h1
  | m b h => exact .m b h
  | f fn fs caps us vs h0 h1 h2 h3 => exact .f fn fs caps us vs h0 h1 h2 h3
  | y l h => exact .y l h
  | agg cs vs h0 h => exact .agg cs vs h0 h
  | tup cs vs h0 h => exact .tup cs vs h0 h
  | any x => exact .any _
theorem RL.strip1 {c : Cx} {xs : List AV} {us : List Value} (h : RL c xs us) : RL c (xs.map AV.strip1) us :=
  ⟨by simp [h.1], fun j hj => by rw [List.getElem_map]; exact (h.2 j (by simpa using hj)).strip1⟩
theorem R.strip {c : Cx} {x : AV} {y : Value} (h : R c x y) : R c x.strip y := by
  cases x with
  | agg cs => obtain ⟨vs, rfl, h'⟩ := h.agg_inv; exact R.agg' h'.strip1
  | sl xs t => exact h.strip1
  | _ => exact h
theorem strip_cells (x : AV) : x.strip.cells = x.cells.map AV.strip1 := by cases x <;> rfl
theorem rowCells_strip (xs : List AV) : rowCells (xs.map AV.strip) = (rowCells xs).map AV.strip1 := by
  induction xs with
  | nil => rfl
  | cons x xs ih =>
    simp only [rowCells, List.map_cons, List.flatMap_cons, List.map_append, strip_cells] at ih ⊢
    rw [ih]

theorem fillA_rows {k : Nat} : ∀ (xs : List AV) (i : Nat) (pre : List AV), pre.length = i * k → (∀ x ∈ xs, x.shape = true ∧ x.cells.length = k) →
    fillA (pre ++ List.replicate (xs.length * k) .any) ((xs.zipIdx i).map fun (x, j) => (j * k, k, x)) = some (pre ++ rowCells xs) := by
  intro xs
  induction xs with
  | nil => intro i pre _ _; simp [fillA, rowCells]
  | cons x xs ih =>
    intro i pre hp hx
    obtain ⟨h1, h2⟩ := hx x (by simp)
    simp only [List.zipIdx_cons, List.map_cons, fillA]
    have hlen : (pre ++ List.replicate ((x :: xs).length * k) AV.any).length = i * k + (xs.length * k + k) := by
      simp only [List.length_append, hp, List.length_replicate, List.length_cons, Nat.add_mul, Nat.one_mul]
    rw [if_pos ⟨h1, h2, by rw [hlen]; omega⟩]
    have ht : (pre ++ List.replicate ((x :: xs).length * k) AV.any).take (i * k) = pre := by rw [← hp]; exact List.take_left
    have hd : (pre ++ List.replicate ((x :: xs).length * k) AV.any).drop (i * k + k) = List.replicate (xs.length * k) .any := by
      rw [← hp, ← List.drop_drop, List.drop_left, List.drop_replicate]
      congr 1
      simp only [List.length_cons, Nat.add_mul, Nat.one_mul]; omega
    rw [ht, hd]
    have := ih (i + 1) (pre ++ x.cells) (by simp [hp, h2, Nat.add_mul]) (fun y hy => hx y (by simp [hy]))
    rw [this]
    simp [rowCells]

section
variable {o : Oper} {t : List AV} {s : AState}

theorem ok_bsl {ty e : TypeId} {len k : Nat} {parts : Array (Nat × Operand)} {ps : List Arg} (ho : o.op = .buildSlice ty len parts) (hu : P.underlying ty = some (.slice e)) (hk : kOf P e = some k) {z : Value} (hz : zeroOf P e = some z)
    (hidx : parts.toList.map (·.1) = List.range len) (hlen : len * k ≤ 16777216) (hps : parts.toList.mapM (fun (_, x) => cArg x) = some ps) (hok : (ps.map (Arg.ev t)).all (okRow k) = true) :
    OpOk cmp P o t s (.sl ((ps.map (Arg.ev t)).map AV.strip) .zero) s := by
  intro c w ρ hr ht
  obtain ⟨hl, hg⟩ := mapM_get hps
  have hpl : parts.toList.length = len := by have := congrArg List.length hidx; simpa using this
  have hrow : ∀ x ∈ ps.map (Arg.ev t), x.shape = true ∧ x.cells.length = k := fun x hx => by
    have := okRow_spec (List.all_eq_true.1 hok x hx)
    exact ⟨this.2.1, this.1⟩
  have hfa := fillA_rows (k := k) (ps.map (Arg.ev t)) 0 [] (by simp) hrow
  simp only [List.nil_append] at hfa
  let cells0 : Array Value := (Array.range (len * k)).map fun j => (if len * k = 0 then #[] else z.cells)[j % (if len * k = 0 then #[] else z.cells).size]!
  obtain ⟨cells', e1, e2⟩ := fill_ok (c := c) (fun i => some (i * k, k)) ((parts.toList.map fun (i, x) => (i, ρ x))) (((ps.map (Arg.ev t)).zipIdx 0).map fun (x, j) => (j * k, k, x)) cells0
    (List.replicate ((ps.map (Arg.ev t)).length * k) .any) (rowCells (ps.map (Arg.ev t))) (RL.any c _ _ (by simp [cells0, hl, hpl])) (by simp [hl])
    (fun j hj hj' => by
      simp only [List.length_map] at hj hj'
      have h1 := hg j hj (by rw [hl]; exact hj)
      have h2 : (parts.toList[j]).1 = j := by
        have : (parts.toList.map (·.1))[j]? = some j := by rw [hidx, List.getElem?_range (by omega)]
        rw [List.getElem?_map, List.getElem?_eq_getElem hj] at this
        simpa using this
      refine ⟨?_, ?_⟩
      · simp only [List.getElem_map, List.getElem_zipIdx, Nat.zero_add]
        rw [h2]
      · simp only [List.getElem_map, List.getElem_zipIdx]
        exact ht _ _ h1) hfa
  have hrun : (execOp ρ o).run P w = .ok (.value (.slice (some ⟨w.heap.size, 0, none⟩) len len)) (w.alloc (.cells cells' e)) := by
    have e1' : Instr.fill (fun i => some (i * k, k)) cells0 ((parts.map fun (i, x) => (i, ρ x)).toList) = some cells' := by rw [Array.toList_map]; exact e1
    have hnl : ¬ (len * k > 2 ^ 24) := by omega
    simp only [execOp, ho, Instr.buildSlice, Sem.run_bind, run_underlying hu, run_sizeOf hk, Result.andThen_ok, hnl, if_false]
    by_cases h0 : len * k = 0
    · have hc0 : cells0 = (Array.range (len * k)).map fun j => (#[] : Array Value)[j % (#[] : Array Value).size]! := by simp only [cells0, h0, if_true]
      rw [hc0] at e1'
      simp only [h0, if_true, Sem.run_pure, Result.andThen_ok]
      simp only [h0] at e1'
      simp only [e1', newRow, Sem.run_bind, run_newObj, Result.andThen_ok, Sem.run_pure, World.alloc_eq]
    · have hc0 : cells0 = (Array.range (len * k)).map fun j => z.cells[j % z.cells.size]! := by simp only [cells0, h0, if_false]
      rw [hc0] at e1'
      simp only [h0, if_false, Sem.run_pure, Result.andThen_ok, Sem.run_bind, run_zeroValue hz]
      simp only [e1', newRow, Sem.run_bind, run_newObj, Result.andThen_ok, Sem.run_pure, World.alloc_eq]
  have hlay := hr.lay cells' e (0, 0) cells'.toList (List.prefix_refl _)
  refine ⟨_, _, _, .inl hrun, hlay.2, hlay.1, ?_⟩
  have := R.sl_of (c := c.lay w.heap.size cells'.toList) (xs := (ps.map (Arg.ev t)).map AV.strip) (k := k) (us := cells'.toList) (B := w.heap.size) (o := 0) (cap := len) (t := .zero)
    (fun x hx => by
      obtain ⟨y, hy, rfl⟩ := List.mem_map.1 hx
      rw [strip_cells, List.length_map]; exact (hrow y hy).2)
    (by rw [rowCells_strip]; exact (e2.mono hlay.2.le).strip1) (fun j v hj => by simpa using hj) (by simp [hl, hpl]) (by show len = _; simp [hl, hpl])
  simpa [hl, hpl] using this

end
end Go.Ab
