/- The model does what 'exec' says: strings and bytes; make; append. -/
import Derived.Test.YtconffokcoipjaaB1
import Derived.Laws.MakeOwn
namespace Go.Ab
open Go.RowKit
set_option linter.unusedVariables false
set_option linter.unusedSimpArgs false

variable {cmp : Code → Option ACode} {P : Program}

theorem Rel.arr_cell {c : Cx} {s : AState} {w : World} (hr : Rel cmp c s w) {B i : Nat} {v : Value} (h : (c.arr B)[i]? = some v) : w.cell? ⟨B, i, none⟩ = some v := by
  have hne : c.arr B ≠ [] := by intro e; rw [e] at h; simp at h
  obtain ⟨vs, e, fz, k1, k2⟩ := hr.arr B hne
  obtain ⟨t, ht⟩ := k2
  rw [cell_of_row w _ _ vs e _ k1, ← Array.getElem?_toList, ← ht, List.getElem?_append_left (List.getElem?_eq_some_iff.1 h).1]
  exact h

theorem rowCells_one {xs : List AV} (h : ∀ x ∈ xs, x.cells = [x]) : rowCells xs = xs := by
  induction xs with
  | nil => rfl
  | cons x xs ih =>
    have := ih fun y hy => h y (by simp [hy])
    simp only [rowCells, List.flatMap_cons, h x (by simp)] at this ⊢
    rw [this]; rfl

theorem numsOf_ok {c : Cx} : ∀ {xs : List AV} {us : List Value} {ns : List Int}, RL c xs us → numsOf xs = some ns → us = ns.map (Value.int .u8) ∧ ns.length = xs.length := by
  intro xs
  induction xs with
  | nil => intro us ns h hn; simp [numsOf] at hn; subst hn; exact ⟨h.nil_inv, rfl⟩
  | cons x xs ih =>
    intro us ns h hn
    obtain ⟨u, us', rfl, h1, h2⟩ := h.cons_inv
    cases x with
    | v y =>
      cases y with
      | int k n =>
        cases k <;> simp only [numsOf] at hn <;> try (cases hn; done)
        simp only [Option.map_eq_some_iff] at hn
        obtain ⟨ns', hn', rfl⟩ := hn
        obtain ⟨e1, e2⟩ := ih h2 hn'
        exact ⟨by rw [h1.v_inv, e1]; rfl, by simp [e2]⟩
      | _ => simp [numsOf] at hn
    | _ => simp [numsOf] at hn

theorem numsOf_one : ∀ {xs : List AV} {ns : List Int}, numsOf xs = some ns → ∀ x ∈ xs, x.cells = [x] := by
  intro xs
  induction xs with
  | nil => intro ns _ x hx; simp at hx
  | cons y xs ih =>
    intro ns hn x hx
    cases y with
    | v y =>
      cases y with
      | int k n =>
        cases k <;> simp only [numsOf] at hn <;> try (cases hn; done)
        simp only [Option.map_eq_some_iff] at hn
        obtain ⟨ns', hn', rfl⟩ := hn
        rcases List.mem_cons.1 hx with rfl | hx
        · rfl
        · exact ih hn' x hx
      | _ => simp [numsOf] at hn
    | _ => simp [numsOf] at hn

section
variable {o : Oper} {t : List AV} {s : AState}

theorem ok_s2b {src dst e : TypeId} {x : Operand} {x' : Arg} (ho : o.op = .convert src dst x) (h1 : cArg x = some x') (hs : P.underlying src = some .string) (hd : P.underlying dst = some (.slice e)) (he : P.underlying e = some (.int .u8))
    {b : ByteArray} (hx : x'.ev t = .v (.string b)) : OpOk cmp P o t s (.sl (bytesOf b) .no) s := by
  intro c w ρ hr ht
  have e1 := ht _ _ h1
  rw [hx] at e1
  have e1 := e1.v_inv
  have hrun := Lib.run_convert_string_bytes (P := P) w src dst e b hs hd he
  have hlay := hr.lay' (w' := Lib.bytesWorld w e b) ⟨by simp [Lib.bytesWorld, World.freeze, World.drew, World.alloc, -World.alloc_eq, -World.drew_eq], by simp [Lib.bytesWorld, World.freeze, World.drew, World.alloc, -World.alloc_eq, -World.drew_eq],
      by simp [Lib.bytesWorld, World.freeze, World.drew, World.alloc, -World.alloc_eq, -World.drew_eq]⟩ (by rw [Lib.bytesWorld_size]; omega)
    (fun B hB => Lib.bytesWorld_at_old w e b B hB) (Lib.bytesCells w e b) e _ (Lib.bytesWorld_at_new w e b) (b.data.toList.map fun c => Value.int .u8 c.toNat)
    ⟨_, by simp only [Lib.bytesCells, Array.toList_append, Array.toList_map]; rfl⟩
  refine ⟨.slice (some ⟨w.heap.size, 0, none⟩) b.size (grownCap w b.size 0 e), _, _, .inl ?_, hlay.2, hlay.1, ?_⟩
  · simp only [execOp, ho, e1, Sem.run_bind, hrun, Result.andThen_ok, Sem.run_pure]
  · have hsz : (bytesOf b).length = b.size := by simp [bytesOf]
    have := R.sl_of (c := c.lay w.heap.size (b.data.toList.map fun c => Value.int .u8 c.toNat)) (xs := bytesOf b) (k := 1) (us := b.data.toList.map fun c => Value.int .u8 c.toNat) (B := w.heap.size) (o := 0) (cap := grownCap w b.size 0 e) (t := .no)
      (fun x hx => by obtain ⟨y, _, rfl⟩ := List.mem_map.1 hx; rfl)
      (by
        rw [rowCells_one (fun x hx => by obtain ⟨y, _, rfl⟩ := List.mem_map.1 hx; rfl)]
        refine ⟨by simp [bytesOf], fun j hj => ?_⟩
        have hj' : j < b.data.toList.length := by simpa [bytesOf] using hj
        rw [List.getD_eq_getElem?_getD, List.getElem?_map, List.getElem?_eq_getElem hj']
        simp only [bytesOf, List.getElem_map]
        exact .v _)
      (fun j v hj => by simpa using hj) (by rw [hsz]; exact grownCap_ge _ _ _ _) trivial
    rwa [hsz] at this

theorem ok_b2s_sl {src dst e : TypeId} {x : Operand} {x' : Arg} (ho : o.op = .convert src dst x) (h1 : cArg x = some x') (hs : P.underlying src = some (.slice e)) (hd : P.underlying dst = some .string) (he : P.underlying e = some (.int .u8))
    {xs : List AV} {tk : Tok} (hx : x'.ev t = .sl xs tk) {ns : List Int} (hn : numsOf xs = some ns) : OpOk cmp P o t s (.v (.string (strOfNums ns))) s :=
  .pure fun c w ρ hr ht => by
    have e1 := ht _ _ h1
    rw [hx] at e1
    refine ⟨.string (strOfNums ns), ?_, .v _⟩
    rcases e1.sl_cells with ⟨rfl, p0, hy, _⟩ | ⟨k, B, q, cap, us, hy, q1, q2, q3, q4, q5, _⟩
    · simp [numsOf] at hn
      subst hn
      cases p0 with
      | none =>
        simp only [execOp, ho, hy, Sem.run_bind, run_convert_bytes_nil w src e hs he 0 0 dst hd, Result.andThen_ok, Sem.run_pure]
        rfl
      | some a =>
        have hl : (loadCells a 0).run P w = .ok (([] : List Int).map (Value.int .u8)).toArray w := by simpa using run_loadCells_list (P := P) w a [] (fun j v hj => by simp at hj)
        have h2 := run_convert_bytes_string (P := P) w src dst e (some a) 0 0 hs he hd
        rw [run_bytesToString w _ 0 0 [] hl] at h2
        simp only [execOp, ho, hy, Sem.run_bind, h2, Result.andThen_ok, Sem.run_pure]
        rfl
    · rw [rowCells_one (numsOf_one hn)] at q2
      obtain ⟨hus, hl⟩ := numsOf_ok q2 hn
      subst hus
      have := run_convert_bytes_arg (P := P) w src e hs he B q xs.length cap ns hl (fun i hi => by
        refine hr.arr_cell (q4 i _ ?_)
        have hi' : i < ns.length := by omega
        rw [List.getElem?_map, List.getElem?_eq_getElem hi', List.getD_eq_getElem?_getD, List.getElem?_eq_getElem hi']; rfl) dst hd
      simp only [execOp, ho, hy, Sem.run_bind, this, Result.andThen_ok, Sem.run_pure]

theorem ok_b2s_ms {src dst e : TypeId} {x : Operand} {x' : Arg} (ho : o.op = .convert src dst x) (h1 : cArg x = some x') (hs : P.underlying src = some (.slice e)) (hd : P.underlying dst = some .string) (he : P.underlying e = some (.int .u8))
    {b off ln : Nat} (hx : x'.ev t = .ms b off ln) {cs : List AV} (hg : s.get b = .cells cs) (hl : off + ln ≤ cs.length) {ns : List Int} (hn : numsOf ((cs.drop off).take ln) = some ns) : OpOk cmp P o t s (.v (.string (strOfNums ns))) s :=
  .pure fun c w ρ hr ht => by
    have e1 := ht _ _ h1
    rw [hx] at e1
    obtain ⟨cap, hy, hb, _⟩ := e1.ms_inv
    refine ⟨.string (strOfNums ns), ?_, .v _⟩
    have hob := hr.obj b (hr.n ▸ hb)
    rw [hg] at hob
    obtain ⟨vs, e', k1, k2, k3⟩ := hob
    obtain ⟨hus, hlen⟩ := numsOf_ok ((k2.drop off).take ln) hn
    have hlen' : ns.length = ln := by rw [hlen, List.length_take, List.length_drop]; omega
    have := run_convert_bytes_arg (P := P) w src e hs he (c.mu b) off ln cap ns hlen' (fun i hi => by
      rw [cell_of_row w _ _ vs e' _ k1]
      have hi' : i < ns.length := by omega
      have : ((vs.toList.drop off).take ln)[i]? = some (Value.int .u8 (ns.getD i 0)) := by
        rw [hus, List.getElem?_map, List.getElem?_eq_getElem hi', List.getD_eq_getElem?_getD, List.getElem?_eq_getElem hi']; rfl
      rw [List.getElem?_take, if_pos hi, List.getElem?_drop] at this
      simpa using this) dst hd
    simp only [execOp, ho, hy, Sem.run_bind, this, Result.andThen_ok, Sem.run_pure]

theorem RL_made {c : Cx} (z : Value) {k : Nat} (hk : z.cells.size = k) (n : Nat) : RL c (List.replicate n (z.cells.toList.map ofCell)).flatten (madeCells z.cells (n * k)).toList := by
  have hlen : ∀ n : Nat, (List.replicate n (z.cells.toList.map ofCell)).flatten.length = n * k := by
    intro n
    induction n with
    | zero => simp
    | succ n ih => rw [List.replicate_succ, List.flatten_cons, List.length_append, ih, Nat.add_mul]; simp [hk]; omega
  have hget : ∀ (n j : Nat), j < n * k → (List.replicate n (z.cells.toList.map ofCell)).flatten[j]? = some (ofCell z.cells[j % k]!) := by
    intro n
    induction n with
    | zero => intro j hj; omega
    | succ n ih =>
      intro j hj
      rw [List.replicate_succ, List.flatten_cons]
      have hl : (z.cells.toList.map ofCell).length = k := by simp [hk]
      by_cases h : j < k
      · rw [List.getElem?_append_left (by rw [hl]; exact h), List.getElem?_map, Nat.mod_eq_of_lt h]
        have h' : j < z.cells.size := by rw [hk]; exact h
        simp [h']
      · rw [List.getElem?_append_right (by rw [hl]; omega), hl, ih (j - k) (by rw [Nat.add_mul] at hj; omega)]
        rw [← Nat.mod_eq_sub_mod (by omega)]
  refine ⟨by rw [hlen, Array.length_toList, size_madeCells], fun j hj => ?_⟩
  rw [hlen] at hj
  have h1 := hget n j hj
  rw [(List.getElem?_eq_some_iff.1 h1).2]
  have h2 : (madeCells z.cells (n * k)).toList.getD j undef = z.cells[j % k]! := by
    simp [madeCells, hk, hj, List.getD_eq_getElem?_getD]
  rw [h2]
  exact R_ofCell c _

theorem ok_mksl {ty e : TypeId} {l l2 : Operand} {l' : Arg} {i : TypeInfo} {z : Value} (ho : o.op = .makeSlice ty l l2) (h1 : cArg l = some l') (hll : l2 = l) (hu : P.underlying ty = some (.slice e)) (hi : P.info? e = some i) (hz : i.zero = some z)
    (hzs : z.cells.size = i.size) {k : IntKind} {n : Int} (hx : l'.ev t = .v (.int k n)) (h0 : 0 ≤ n) (hb : n * i.bytes ≤ 140737488355328) (h63 : n ≤ 4611686018427387904) :
    OpOk cmp P o t s (.ms s.n 0 n.toNat) (s.alloc (.cells (List.replicate n.toNat (z.cells.toList.map ofCell)).flatten)) := by
  intro c w ρ hr ht
  have e1 := ht _ _ h1
  rw [hx] at e1
  have e1 := e1.v_inv
  have e2 : ρ l2 = .int k n := by rw [hll]; exact e1
  have hrun := run_make (P := P) w ty e i z hu hi hz k k n n h0 (Int.le_refl _) (by rw [Int.mul_comm]; omega) (by omega)
  have := hr.alloc (.cells (madeCells z.cells (n.toNat * i.size)) e (0, 0)) (.cells (List.replicate n.toNat (z.cells.toList.map ofCell)).flatten) 0 0
    ⟨_, e, by rw [Cx.bind_mu]; exact heap_push_new w _, RL_made z hzs n.toNat, by rw [Cx.bind_mu, Cx.bind_arr]; exact hr.arr_new⟩ (by simp)
  refine ⟨.slice (some ⟨w.heap.size, 0, none⟩) n.toNat n.toNat, _, _, .inl ?_, this.2, this.1, ?_⟩
  · simp only [execOp, ho, e1, e2, Sem.run_bind, hrun, Result.andThen_ok, Sem.run_pure]
  · have := R.ms (c := c.bind w.heap.size 0 0) c.n 0 n.toNat n.toNat (by simp) (Nat.le_refl _)
    rwa [Cx.bind_mu, ← hr.n] at this

/-! ### append -/

theorem run_append_in {w : World} (t ty e : TypeId) (i : TypeInfo) (ht : P.underlying t = some (.slice e)) (hi : P.info? e = some i)
    (g q sLen sCap : Nat) (cur : Array Value) (e' : TypeId) (hg : w.heap[g]? = some (.cells cur e' (0, 0)))
    (a : Addr) (m c : Nat) (news : List Value) (hl : news.length = m * i.size) (hnews : ∀ j u, news[j]? = some u → w.cell? (a.add j) = some u) (h1 : ∀ u ∈ news, u.oneCell' = true)
    (hroom : sLen + m ≤ sCap) (hfit : q + sLen * i.size + news.length ≤ cur.size) :
    (Builtin.append_ #[t, t] ty #[.slice (some ⟨g, q, none⟩) sLen sCap, .slice (some a) m c]).run P w =
      .ok (.slice (some ⟨g, q, none⟩) (sLen + m) sCap) (w.setRow g (cur.toList.take (q + sLen * i.size) ++ news ++ cur.toList.drop (q + sLen * i.size + news.length)).toArray) := by
  have hf := run_firstCells_some (P := P) w i.size m a m c news hl hnews
  have hst := run_storeCells_at P g (q + sLen * i.size) e' news 0 cur w hg (by simpa using hfit) h1
  simp only [Nat.add_zero] at hst
  simp [Builtin.append_, run_underlying ht, sizeOf, typeInfo, hi, Builtin.lenOf, hroom, hf, Addr.add_lit, hst]

theorem run_append_none {w : World} (t ty e : TypeId) (i : TypeInfo) (ht : P.underlying t = some (.slice e)) (hi : P.info? e = some i) (base : Option Addr) (sLen sCap : Nat) (x : Value) (c : Nat) (hlc : sLen ≤ sCap)
    (hx : (∃ a, x = .slice (some a) 0 c) ∨ x = .slice none 0 0) : (Builtin.append_ #[t, t] ty #[.slice base sLen sCap, x]).run P w = .ok (.slice base sLen sCap) w := by
  have hst : (storeCells ⟨0, 0, none⟩ [] : Sem Unit) = pure () := rfl
  rcases hx with ⟨a, rfl⟩ | rfl <;> cases base <;> simp [Builtin.append_, run_underlying ht, sizeOf, typeInfo, hi, Builtin.lenOf, hlc, Builtin.firstCells, loadCells, loadCellsFrom, storeCells]

/-- what lies in rows of a slice that stays, where its cells are -/
theorem Rel.sl_read {c : Cx} {s : AState} {w : World} (hr : Rel cmp c s w) {B o : Nat} {us : List Value} (h : ∀ j v, us[j]? = some v → (c.arr B)[o + j]? = some v) :
    ∀ j u, us[j]? = some u → w.cell? ((⟨B, o, none⟩ : Addr).add j) = some u := fun j u hj => by rw [Addr.add_lit]; exact hr.arr_cell (h j u hj)

theorem headK_spec {k : Nat} {xs : List AV} (h : headK k xs = true) {k' : Nat} (h' : ∀ x ∈ xs, x.cells.length = k') : ∀ x ∈ xs, x.cells.length = k := by
  cases xs with
  | nil => intro x hx; simp at hx
  | cons y ys =>
    simp only [headK, beq_iff_eq] at h
    have := h' y (by simp)
    intro x hx
    rw [h' x hx, ← this, h]

/-- the rows that are appended -/
theorem new_rows {c : Cx} {ys : List AV} {k k' : Nat} {us : List Value} (hok : ys.all (okRow k) = true) (h1 : ∀ x ∈ ys, x.cells.length = k') (hR : RL c (rowCells ys) us) :
    (∀ x ∈ ys, x.cells.length = k) ∧ (∀ u ∈ us, u.oneCell' = true) := by
  have hk : ∀ x ∈ ys, x.cells.length = k := fun x hx => (okRow_spec (List.all_eq_true.1 hok x hx)).1
  refine ⟨hk, fun u hu => ?_⟩
  obtain ⟨j, hj, rfl⟩ := List.mem_iff_getElem.1 hu
  have hj' : j < (rowCells ys).length := by rw [← hR.1]; exact hj
  have := hR.2 j hj'
  rw [List.getD_eq_getElem?_getD, List.getElem?_eq_getElem hj] at this
  refine (one_ok this ?_).1
  obtain ⟨x, hx, hm⟩ := List.mem_flatMap.1 (List.getElem_mem hj')
  exact (okRow_spec (List.all_eq_true.1 hok x hx)).2.2 _ hm

/-- a number for leave to append to a block that no other number speaks of -/
theorem Rel.bindTok {c : Cx} {s : AState} {w : World} (hr : Rel cmp c s w) {B z : Nat} {vs : Array Value} {e : TypeId} (hB : w.heap[B]? = some (.cells vs e (0, 0))) (hz : z ≤ vs.size) (hno : ¬ Own c s B) :
    Rel cmp (c.bind B (c.arr B).length z) (s.alloc .tok) w := by
  have hn := hr.n
  have hle := c.le_bind B (c.arr B).length z
  refine ⟨by simp [hn], fun b hb => ?_, fun a b ha hb hne hda hdb => ?_, hr.arr⟩
  · rw [AState.get_alloc]
    by_cases e1 : b = s.n
    · rw [if_pos e1, e1, hn]
      exact ⟨vs, e, by rw [Cx.bind_mu]; exact hB, by simp, by simpa using hz⟩
    · rw [if_neg e1]
      have hb' : b < s.n := by simp at hb; omega
      exact (hr.obj b hb').kept (hn ▸ hb') hle rfl rfl
  · rw [AState.get_alloc] at hda hdb
    simp only [AState.n_alloc] at ha hb
    have key : ∀ x, x < s.n → s.get x ≠ .dead → (c.bind B (c.arr B).length z).mu x ≠ B := by
      intro x hx hdx h
      rw [hle.mu x (hn ▸ hx)] at h
      exact hno ⟨x, hx, hdx, h⟩
    by_cases ea : a = s.n
    · have hb' : b < s.n := by omega
      rw [if_neg (by omega)] at hdb
      rw [ea, hn, Cx.bind_mu]; exact (key b hb' hdb).symm
    · have ha' : a < s.n := by omega
      rw [if_neg ea] at hda
      by_cases eb : b = s.n
      · rw [eb, hn, Cx.bind_mu]; exact key a ha' hda
      · have hb' : b < s.n := by omega
        rw [if_neg eb] at hdb
        rw [hle.mu a (hn ▸ ha'), hle.mu b (hn ▸ hb')]
        exact hr.inj a b ha' hb' hne hda hdb

theorem Own.alloc {c : Cx} {s : AState} {o : AObj} {B e z B' : Nat} (hn : s.n = c.n) (h : Own (c.bind B e z) (s.alloc o) B') : B' = B ∨ Own c s B' := by
  obtain ⟨b, hb, hd, rfl⟩ := h
  rw [AState.get_alloc] at hd
  simp only [AState.n_alloc] at hb
  by_cases e1 : b = s.n
  · left; rw [e1, hn, Cx.bind_mu]
  · rw [if_neg e1] at hd
    have hb' : b < s.n := by omega
    exact .inr ⟨b, hb', hd, ((c.le_bind B e z).mu b (hn ▸ hb')).symm⟩

/-- a new row is laid for what grows -/
theorem Rel.grow {c : Cx} {s : AState} {w : World} (hr : Rel cmp c s w) (cells : Array Value) (e : TypeId) (us : List Value) (hus : us <+: cells.toList) {xs : List AV} {k : Nat} (h1 : ∀ x ∈ xs, x.cells.length = k) (hR : RL c (rowCells xs) us)
    (ncap : Nat) (hn : xs.length ≤ ncap) (hsz : cells.size = ncap * k) :
    ∃ c', Ext c s w c' (s.alloc .tok) (w.drew.alloc (.cells cells e)) ∧ Rel cmp c' (s.alloc .tok) (w.drew.alloc (.cells cells e)) ∧ R c' (.sl xs (.own s.n)) (.slice (some ⟨w.heap.size, 0, none⟩) xs.length ncap) := by
  obtain ⟨hr0, he0⟩ := hr.heap_eq (w' := w.drew) rfl (Same.drew w)
  obtain ⟨hr1, he1⟩ := hr0.lay cells e (0, 0) us hus
  have hsize : w.drew.heap.size = w.heap.size := rfl
  rw [hsize] at hr1 he1
  have hno : ¬ Own (c.lay w.heap.size us) s w.heap.size := by
    rintro ⟨b, hb, hd, he⟩
    have := hr.lt hb hd
    simp only [Cx.lay_mu] at he
    omega
  have hr2 := hr1.bindTok (B := w.heap.size) (z := ncap * k) (heap_push_new w.drew _) (by omega) hno
  have hle : c.le ((c.lay w.heap.size us).bind w.heap.size ((c.lay w.heap.size us).arr w.heap.size).length (ncap * k)) := (he0.trans he1).le.trans (Cx.le_bind _ _ _ _)
  refine ⟨_, ⟨hle, rfl, rfl, rfl, by simp, fun B hB => ?_, fun B hB _ => heap_push_old (w := w.drew) _ hB⟩, hr2, ?_⟩
  · rcases Own.alloc (by exact hr.n) hB with rfl | h
    · exact .inl (Nat.le_refl _)
    · exact .inr h
  · have hl := rowCells_length h1
    refine R.sl_of h1 (hR.mono hle) (fun j v hj => ?_) hn ?_
    · simp only [Cx.bind_arr, Cx.lay_same, Nat.zero_add]; exact hj
    · refine ⟨by simp [hr.n], by rw [hr.n]; exact Cx.bind_mu _ _ _ _, ?_, ?_⟩
      · rw [hr.n]
        show (Cx.bind _ _ _ _).tend (c.lay w.heap.size us).n = _
        rw [Cx.bind_tend, Cx.lay_same, hR.1, hl, Nat.zero_add]
      · rw [hr.n]
        show _ ≤ (Cx.bind _ _ _ _).csz (c.lay w.heap.size us).n
        rw [Cx.bind_csz, Nat.zero_add]; exact Nat.le_refl _

theorem AState.set_alloc (s : AState) {b : Nat} (hb : b < s.n) (o o' : AObj) : (s.set b o).alloc o' = (s.alloc o').set b o := by
  unfold AState.set AState.alloc
  simp only [AState.mk.injEq, true_and]
  funext x
  by_cases h1 : x = s.n
  · have : x ≠ b := by omega
    simp [h1, this, Nat.ne_of_gt hb]
  · simp [h1]

theorem Own.kill {c : Cx} {s : AState} {b B : Nat} (h : Own c (s.set b .dead) B) : Own c s B := by
  obtain ⟨x, hx, hd, he⟩ := h
  refine ⟨x, hx, fun h => hd ?_, he⟩
  rw [AState.get_set]
  split
  · rfl
  · exact h

theorem Ext.kill {c c' : Cx} {s s' : AState} {w w' : World} (h : Ext c s w c' s' w') (b : Nat) : Ext c s w c' (s'.set b .dead) w' :=
  ⟨h.le, h.os, h.tape, h.output, h.size, fun B hB => h.fresh B hB.kill, h.kept⟩

/-- 'append(x, y)' where a new row is laid -/
theorem append_grow {c : Cx} {s : AState} {w : World} (hr : Rel cmp c s w) {xs ys : List AV} {k : Nat} {i : TypeInfo} {z : Value} {e : TypeId} (hk : i.size = k) (hzs : z.cells.size = i.size) (hx : ∀ x ∈ xs, x.cells.length = k) (hy : ∀ x ∈ ys, x.cells.length = k)
    {olds news : List Value} (hRx : RL c (rowCells xs) olds) (hRy : RL c (rowCells ys) news) (old : Nat) :
    ∃ c', Ext c s w c' (s.alloc .tok) (w.drew.alloc (.cells (olds.toArray ++ news.toArray ++ Builtin.zeroCells z.cells (grownCap w (xs.length + ys.length) old e - (xs.length + ys.length))) e)) ∧
      Rel cmp c' (s.alloc .tok) (w.drew.alloc (.cells (olds.toArray ++ news.toArray ++ Builtin.zeroCells z.cells (grownCap w (xs.length + ys.length) old e - (xs.length + ys.length))) e)) ∧
      R c' (.sl (xs ++ ys.map AV.strip) (.own s.n)) (.slice (some ⟨w.heap.size, 0, none⟩) (xs.length + ys.length) (grownCap w (xs.length + ys.length) old e)) := by
  have hge := grownCap_ge w (xs.length + ys.length) old e
  have hrows : rowCells (xs ++ ys.map AV.strip) = rowCells xs ++ (rowCells ys).map AV.strip1 := by
    rw [← rowCells_strip]; simp [rowCells]
  have h1 : ∀ x ∈ xs ++ ys.map AV.strip, x.cells.length = k := by
    intro x hx'
    rcases List.mem_append.1 hx' with h | h
    · exact hx x h
    · obtain ⟨y, hy', rfl⟩ := List.mem_map.1 h
      rw [strip_cells, List.length_map]; exact hy y hy'
  have hlx := rowCells_length hx
  have hly := rowCells_length hy
  have := hr.grow (olds.toArray ++ news.toArray ++ Builtin.zeroCells z.cells (grownCap w (xs.length + ys.length) old e - (xs.length + ys.length))) e (olds ++ news)
    (by simp only [Array.toList_append]; exact List.prefix_append _ _) h1 (by rw [hrows]; exact hRx.append hRy.strip1) (grownCap w (xs.length + ys.length) old e) (by simpa using hge)
    (by
      simp only [Array.size_append, List.size_toArray, size_zeroCells, hzs, hk, hRx.1, hRy.1, hlx, hly, ← Nat.add_mul]
      congr 1
      omega)
  simpa using this

/-- 'append(x, y)' where there is room behind: the row that token tk leads to goes on -/
theorem append_room {c : Cx} {s : AState} {w : World} (hr : Rel cmp c s w) {tk : Nat} (htk : s.get tk = .tok) {xs ys : List AV} {k B q cap : Nat} {us news : List Value} (hx : ∀ x ∈ xs, x.cells.length = k) (hy : ∀ x ∈ ys, x.cells.length = k)
    (hRx : RL c (rowCells xs) us) (hua : ∀ j v, us[j]? = some v → (c.arr B)[q + j]? = some v) (hRy : RL c (rowCells ys) news) (hcap : xs.length + ys.length ≤ cap) (htok : TokOk c (.own tk) B (q + xs.length * k) (q + cap * k) xs.length cap) :
    ∃ cur e, w.heap[B]? = some (.cells cur e (0, 0)) ∧ q + xs.length * k + news.length ≤ cur.size ∧
    ∃ c', Ext c s w c' ((s.set tk .dead).alloc .tok) (w.setRow B (cur.toList.take (q + xs.length * k) ++ news ++ cur.toList.drop (q + xs.length * k + news.length)).toArray) ∧
      Rel cmp c' ((s.set tk .dead).alloc .tok) (w.setRow B (cur.toList.take (q + xs.length * k) ++ news ++ cur.toList.drop (q + xs.length * k + news.length)).toArray) ∧
      R c' (.sl (xs ++ ys.map AV.strip) (.own s.n)) (.slice (some ⟨B, q, none⟩) (xs.length + ys.length) cap) := by
  obtain ⟨ht1, ht2, ht3, ht4⟩ := htok
  have hb : tk < s.n := hr.n ▸ ht1
  have hob := hr.obj tk hb
  rw [htk] at hob
  obtain ⟨cur, e, k1, k2, k3⟩ := hob
  rw [ht2] at k1 k2
  rw [ht3] at k2
  have hlx := rowCells_length hx
  have hly := rowCells_length hy
  have hnl : news.length = ys.length * k := by rw [hRy.1, hly]
  have hfit : q + xs.length * k + news.length ≤ cur.size := by
    rw [hnl]
    have : (xs.length + ys.length) * k ≤ cap * k := Nat.mul_le_mul_right _ hcap
    rw [Nat.add_mul] at this
    omega
  refine ⟨cur, e, k1, hfit, ?_⟩
  -- the prefix that stays
  have hpre : c.arr B = cur.toList.take (q + xs.length * k) := by
    by_cases h0 : c.arr B = []
    · rw [h0] at k2 ⊢
      simp at k2
      rw [show q + xs.length * k = 0 by omega]; simp
    · obtain ⟨vs, e2, fz, m1, m2⟩ := hr.arr B h0
      rw [k1] at m1
      cases m1
      rw [← k2]
      exact List.prefix_iff_eq_take.1 m2
  generalize hw : w.setRow B (cur.toList.take (q + xs.length * k) ++ news ++ cur.toList.drop (q + xs.length * k + news.length)).toArray = w'
  have hwB : w'.heap[B]? = some (.cells (cur.toList.take (q + xs.length * k) ++ news ++ cur.toList.drop (q + xs.length * k + news.length)).toArray e (0, 0)) := by rw [← hw]; exact setRow_heap w B cur _ e _ k1
  have hwo : ∀ B', B' ≠ B → w'.heap[B']? = w.heap[B']? := fun B' h => by rw [← hw]; exact setRow_other w B B' _ h
  have hws : w'.heap.size = w.heap.size := by rw [← hw]; simp
  have hwS : Same w w' := by rw [← hw]; exact ⟨rfl, rfl, rfl⟩
  -- first: without the token, the row longer
  have hkill := hr.kill tk
  have hkd : ∀ x, (s.set tk .dead).get x ≠ .dead → s.get x ≠ .dead ∧ x ≠ tk := by
    intro x hx'
    by_cases e1 : x = tk
    · subst e1; rw [AState.get_set_same _ _ hb] at hx'; exact absurd rfl hx'
    · rw [AState.get_set_ne _ _ e1] at hx'; exact ⟨hx', e1⟩
  have hle1 : c.le (c.lay B (c.arr B ++ news)) := c.le_lay _ _ (List.prefix_append _ _)
  have hnoB : ∀ x, x < s.n → (s.set tk .dead).get x ≠ .dead → c.mu x ≠ B := fun x hx' hd he => by
    obtain ⟨h1, h2⟩ := hkd x hd
    exact hr.inj x tk hx' hb h2 h1 (by rw [htk]; simp) (he.trans ht2.symm)
  have hr1 : Rel cmp (c.lay B (c.arr B ++ news)) (s.set tk .dead) w' := by
    refine ⟨hr.n, fun x hx' => ?_, hkill.inj, fun B' hB' => ?_⟩
    · by_cases hd : (s.set tk .dead).get x = .dead
      · rw [hd]; trivial
      · have hne := hnoB x hx' hd
        exact (hkill.obj x hx').kept (hr.n ▸ hx') hle1 (hwo _ hne) (c.lay_ne _ hne)
    · by_cases e1 : B' = B
      · subst e1
        refine ⟨_, e, _, hwB, ?_⟩
        rw [Cx.lay_same, hpre]
        exact List.prefix_append _ _
      · rw [c.lay_ne _ e1] at hB' ⊢
        obtain ⟨vs, e2, fz, m1, m2⟩ := hr.arr B' hB'
        exact ⟨vs, e2, fz, by rw [hwo _ e1]; exact m1, m2⟩
  have hno1 : ¬ Own (c.lay B (c.arr B ++ news)) (s.set tk .dead) B := by
    rintro ⟨x, hx', hd, he⟩
    exact hnoB x hx' hd he
  have hr2 := hr1.bindTok (B := B) (z := c.csz tk) hwB (by simp only [List.size_toArray, List.length_append, List.length_take, List.length_drop, Array.length_toList]; omega) hno1
  have hle : c.le ((c.lay B (c.arr B ++ news)).bind B ((c.lay B (c.arr B ++ news)).arr B).length (c.csz tk)) := hle1.trans (Cx.le_bind _ _ _ _)
  have hownB : Own c s B := ⟨tk, hb, by rw [htk]; simp, ht2⟩
  refine ⟨_, ⟨hle, hwS.os, hwS.tape, hwS.output, by omega, fun B' hB' => ?_, fun B' _ hn => hwo _ (fun e1 => hn (e1 ▸ hownB))⟩, hr2, ?_⟩
  · rcases Own.alloc (by exact hr.n) hB' with rfl | ⟨x, hx', hd, he⟩
    · exact .inr hownB
    · exact .inr ⟨x, hx', (hkd x hd).1, he⟩
  · have hrows : rowCells (xs ++ ys.map AV.strip) = rowCells xs ++ (rowCells ys).map AV.strip1 := by
      rw [← rowCells_strip]; simp [rowCells]
    have h1 : ∀ x ∈ xs ++ ys.map AV.strip, x.cells.length = k := by
      intro x hx'
      rcases List.mem_append.1 hx' with h | h
      · exact hx x h
      · obtain ⟨y, hy', rfl⟩ := List.mem_map.1 h
        rw [strip_cells, List.length_map]; exact hy y hy'
    have hus : us.length = xs.length * k := by rw [hRx.1, hlx]
    have := R.sl_of (c := (c.lay B (c.arr B ++ news)).bind B ((c.lay B (c.arr B ++ news)).arr B).length (c.csz tk)) (xs := xs ++ ys.map AV.strip) (k := k) (us := us ++ news) (B := B) (o := q) (cap := cap) (t := .own s.n) h1
      (by rw [hrows]; exact (hRx.mono hle).append (hRy.mono hle).strip1)
      (fun j v hj => by
        simp only [Cx.bind_arr, Cx.lay_same]
        by_cases hj' : j < us.length
        · rw [List.getElem?_append_left hj'] at hj
          have := hua j v hj
          rw [List.getElem?_append_left (List.getElem?_eq_some_iff.1 this).1]; exact this
        · rw [List.getElem?_append_right (by omega)] at hj
          rw [List.getElem?_append_right (by omega), k2, show q + j - (q + xs.length * k) = j - us.length by omega]; exact hj)
      (by simpa using hcap)
      (by
        refine ⟨by simp [hr.n], by rw [hr.n]; exact Cx.bind_mu _ _ _ _, ?_, ?_⟩
        · rw [hr.n]
          show (Cx.bind _ _ _ _).tend (c.lay B (c.arr B ++ news)).n = _
          rw [Cx.bind_tend, Cx.lay_same]
          simp only [List.length_append, k2, hnl, List.length_map, Nat.add_mul]; omega
        · rw [hr.n]
          show _ ≤ (Cx.bind _ _ _ _).csz (c.lay B (c.arr B ++ news)).n
          rw [Cx.bind_csz]; exact ht4)
    simpa using this

section
variable {o : Oper} {t : List AV} {s : AState}

theorem ok_append {cl : Call} {ty e : TypeId} {x y : Operand} {x' y' : Arg} {i : TypeInfo} {z : Value} (ho : o.op = .call cl) (hc : cl.callee = .builtin .append) (hxs : cl.args = #[x, y]) (hts : cl.argTypes = #[ty, ty])
    (h1 : cArg x = some x') (h2 : cArg y = some y') (hu : P.underlying ty = some (.slice e)) (hi : P.info? e = some i) (hz : i.zero = some z) (hzs : z.cells.size = i.size)
    {xs ys : List AV} {tx ty' : Tok} (hx : x'.ev t = .sl xs tx) (hy : y'.ev t = .sl ys ty') (hne : ys ≠ []) (hh : headK i.size xs = true) (hok : ys.all (okRow i.size) = true)
    (hb : (xs.length + ys.length) * i.bytes ≤ 140737488355328) (h63 : xs.length + ys.length ≤ 4611686018427387904) {s' : AState} (hs' : (tx = .zero ∧ s' = s.alloc .tok) ∨ ∃ tk, tx = .own tk ∧ s.get tk = .tok ∧ xs ≠ [] ∧ s' = (s.set tk .dead).alloc .tok) :
    OpOk cmp P o t s (.sl (xs ++ ys.map AV.strip) (.own s.n)) s' := by
  intro c w ρ hr ht
  have e1 := ht _ _ h1
  have e2 := ht _ _ h2
  rw [hx] at e1
  rw [hy] at e2
  have hyl : 0 < ys.length := List.length_pos_iff.2 hne
  rcases e2.sl_cells with ⟨rfl, _⟩ | ⟨k2, B2, q2, cap2, news, hy2, r1, r2, r3, r4, r5, _⟩
  · exact absurd rfl hne
  obtain ⟨hyk, hone⟩ := new_rows hok r1 r2
  have hnl : news.length = ys.length * i.size := by rw [r2.1, rowCells_length hyk]
  have hread := hr.sl_read r4
  have key : ∀ v w', (Builtin.append_ #[ty, ty] o.type #[ρ x, ρ y]).run P w = .ok v w' → (execOp ρ o).run P w = .ok (.value v) w' := by
    intro v w' h
    simp [execOp, ho, resolve, hc, hxs, hts, invoke, builtin, h]
  rcases e1.sl_cells with ⟨rfl, p0, hx2, htn⟩ | ⟨k1, B1, q1, cap1, olds, hx2, p1, p2, p3, p4, p5, p6⟩
  · -- nil: a new row
    rcases hs' with ⟨rfl, rfl⟩ | ⟨tk, rfl, _, h, _⟩
    · have hrun : (Builtin.append_ #[ty, ty] o.type #[.slice p0 0 0, .slice (some ⟨B2, q2, none⟩) ys.length cap2]).run P w =
          .ok (.slice (some ⟨w.heap.size, 0, none⟩) ys.length (grownCap w ys.length 0 e)) (w.drew.alloc (.cells (news.toArray ++ Builtin.zeroCells z.cells (grownCap w ys.length 0 e - ys.length)) e)) := by
        cases p0 with
        | none => exact run_append_nil (P := P) w ty o.type e i z hu hi hz ⟨B2, q2, none⟩ ys.length cap2 news hnl hread hyl (by simp at h63; omega) (by simp only [List.length_nil, Nat.zero_add] at hb; omega)
        | some a =>
          have := run_append_grow (P := P) w ty o.type e i z hu hi hz a 0 0 [] (by simp) (fun j v hj => by simp at hj) ⟨B2, q2, none⟩ ys.length cap2 news hnl hread (by omega) (by simp at h63; omega) (growslice_fits (by omega) (by simp only [List.length_nil, Nat.zero_add] at hb; simpa using hb))
          simpa using this
      obtain ⟨c', g1, g2, g3⟩ := append_grow (cmp := cmp) (e := e) hr (xs := []) (ys := ys) (i := i) (z := z) rfl hzs (fun x hx => by simp at hx) hyk (RL.nil c) r2 0
      simp only [List.length_nil, Nat.zero_add, List.nil_append, Array.empty_append] at g1 g2 g3
      exact ⟨_, _, c', .inl (key _ _ (by rw [hx2, hy2]; exact hrun)), g1, g2, g3⟩
    · exact absurd rfl h
  · have hxk := headK_spec hh p1
    have hol : olds.length = xs.length * i.size := by rw [p2.1, rowCells_length hxk]
    by_cases hroom : xs.length + ys.length ≤ cap1
    · -- there is room
      rcases hs' with ⟨rfl, rfl⟩ | ⟨tk, rfl, htk, hx0, rfl⟩
      · have : cap1 = xs.length := p6
        omega
      · have p6' : TokOk c (.own tk) B1 (q1 + xs.length * i.size) (q1 + cap1 * i.size) xs.length cap1 := by
          obtain ⟨x0, hx0⟩ := List.exists_mem_of_ne_nil xs hx0
          rw [← p1 x0 hx0, hxk x0 hx0] at p6
          exact p6
        obtain ⟨cur, e', g0, g1, c', g2, g3, g4⟩ := append_room hr htk hxk hyk p2 p4 r2 hroom p6'
        have hrun := run_append_in (P := P) ty o.type e i hu hi B1 q1 xs.length cap1 cur e' g0 ⟨B2, q2, none⟩ ys.length cap2 news hnl hread hone hroom (by rw [hnl] at g1 ⊢; exact g1)
        exact ⟨_, _, c', .inl (key _ _ (by rw [hx2, hy2]; exact hrun)), g2, g3, g4⟩
    · -- a new row
      have hrun := run_append_grow (P := P) w ty o.type e i z hu hi hz ⟨B1, q1, none⟩ xs.length cap1 olds hol (hr.sl_read p4) ⟨B2, q2, none⟩ ys.length cap2 news hnl hread (by omega) (by omega) (growslice_fits (by omega) hb)
      obtain ⟨c', g1, g2, g3⟩ := append_grow (cmp := cmp) (e := e) hr (xs := xs) (ys := ys) (i := i) (z := z) rfl hzs hxk hyk p2 r2 cap1
      have hrun' := key _ _ (by rw [hx2, hy2]; exact hrun)
      rcases hs' with ⟨rfl, rfl⟩ | ⟨tk, rfl, htk, hx0, rfl⟩
      · exact ⟨_, _, c', .inl hrun', g1, g2, g3⟩
      · have hb : tk < s.n := AState.lt_of_get htk (by simp)
        rw [AState.set_alloc s hb]
        exact ⟨_, _, c', .inl hrun', g1.kill tk, g2.kill tk, g3⟩

theorem ok_append_none {cl : Call} {ty e : TypeId} {x y : Operand} {x' y' : Arg} {i : TypeInfo} (ho : o.op = .call cl) (hc : cl.callee = .builtin .append) (hxs : cl.args = #[x, y]) (hts : cl.argTypes = #[ty, ty])
    (h1 : cArg x = some x') (h2 : cArg y = some y') (hu : P.underlying ty = some (.slice e)) (hi : P.info? e = some i)
    {xs : List AV} {tx ty' : Tok} (hx : x'.ev t = .sl xs tx) (hy : y'.ev t = .sl [] ty') : OpOk cmp P o t s (.sl xs tx) s :=
  .pure fun c w ρ hr ht => by
    have e1 := ht _ _ h1
    have e2 := ht _ _ h2
    rw [hx] at e1
    rw [hy] at e2
    refine ⟨ρ x, ?_, e1⟩
    have hyy : ∃ cp, (∃ a, ρ y = .slice (some a) 0 cp) ∨ ρ y = .slice none 0 0 := by
      rcases e2.sl_inv with ⟨_, p0, h, _⟩ | ⟨k, B, q, cap, g, h, _⟩
      · cases p0 with
        | none => exact ⟨0, .inr h⟩
        | some a => exact ⟨0, .inl ⟨a, h⟩⟩
      · exact ⟨cap, .inl ⟨_, h⟩⟩
    obtain ⟨cp, hyy⟩ := hyy
    have : (Builtin.append_ #[ty, ty] o.type #[ρ x, ρ y]).run P w = .ok (ρ x) w := by
      rcases e1.sl_inv with ⟨rfl, p0, h, _⟩ | ⟨k, B, q, cap, g, h, q1, q2, q3, q4, _⟩ <;> rw [h]
      · exact run_append_none ty o.type e i hu hi p0 0 0 _ cp (Nat.le_refl _) hyy
      · exact run_append_none ty o.type e i hu hi _ _ _ _ cp q4 hyy
    simp [execOp, ho, resolve, hc, hxs, hts, invoke, builtin, this]

end
end
end Go.Ab
