/- Going on. -/
import Derived.Laws.MakeOwn
import Derived.Test.YtmfhchaoijiodaaKCL6
section
namespace Go.Ab
open Go.RowKit
set_option linter.unusedVariables false
set_option linter.unusedSimpArgs false
variable {cmp : Code → Option ACode} {P : Program}
theorem Rel.arr_cell {c : Cx} {s : AState} {w : World} (hr : Rel cmp c s w) {B i : Nat} {v : Value} (h : (c.arr B)[i]? = some v) : w.cell? ⟨B, i, none⟩ = some v := by
  have hne : c.arr B ≠ [] := by intro e; rw [e] at h; simp at h
  obtain ⟨vs, e, fz, k1, k2⟩ := hr.arr B hne
  obtain ⟨t, ht⟩ := k2
  rw [cell_of_row w _ _ vs e _ k1, ← Array.getElem?_toList, ← ht, List.getElem?_append_left (List.getElem?_eq_some_iff.1 h).1]
  exact h
theorem rowCells_one {xs : List AV} (h : ∀ x ∈ xs, x.cells = [x]) : rowCells xs = xs := by
  induction xs with
  | nil => rfl
  | cons x xs ih =>
    have := ih fun y hy => h y (by simp [hy])
    simp only [rowCells, List.flatMap_cons, h x (by simp)] at this ⊢
    rw [this]; rfl
theorem numsOf_ok {c : Cx} : ∀ {xs : List AV} {us : List Value} {ns : List Int}, RL c xs us → numsOf xs = some ns → us = ns.map (Value.int .u8) ∧ ns.length = xs.length := by
  intro xs
  induction xs with
  | nil => intro us ns h hn; simp [numsOf] at hn; subst hn; exact ⟨h.nil_inv, rfl⟩
  | cons x xs ih =>
    intro us ns h hn
    obtain ⟨u, us', rfl, h1, h2⟩ := h.cons_inv
    cases x with
    | v y =>
      cases y with
      | int k n =>
        cases k <;> simp only [numsOf] at hn <;> try (cases hn; done)
        simp only [Option.map_eq_some_iff] at hn
        obtain ⟨ns', hn', rfl⟩ := hn
        obtain ⟨e1, e2⟩ := ih h2 hn'
        exact ⟨by rw [h1.v_inv, e1]; rfl, by simp [e2]⟩
      | _ => simp [numsOf] at hn
    | _ => simp [numsOf] at hn
theorem numsOf_one : ∀ {xs : List AV} {ns : List Int}, numsOf xs = some ns → ∀ x ∈ xs, x.cells = [x] := by
  intro xs
  induction xs with
  | nil => intro ns _ x hx; simp at hx
  | cons y xs ih =>
    intro ns hn x hx
    cases y with
    | v y =>
      cases y with
      | int k n =>
        cases k <;> simp only [numsOf] at hn <;> try (cases hn; done)
        simp only [Option.map_eq_some_iff] at hn
        obtain ⟨ns', hn', rfl⟩ := hn
        rcases List.mem_cons.1 hx with rfl | hx
        · rfl
        · exact ih hn' x hx
      | _ => simp [numsOf] at hn
    | _ => simp [numsOf] at hn
section
variable {o : Oper} {t : List AV} {s : AState}
theorem ok_s2b {src dst e : TypeId} {x : Operand} {x' : Arg} (ho : o.op = .convert src dst x) (h1 : cArg x = some x') (hs : P.underlying src = some .string) (hd : P.underlying dst = some (.slice e)) (he : P.underlying e = some (.int .u8))
    {b : ByteArray} (hx : x'.ev t = .v (.string b)) : OpOk cmp P o t s (.sl (bytesOf b) .no) s := by
  intro c w ρ hr ht
  have e1 := ht _ _ h1
  rw [hx] at e1
  have e1 := e1.v_inv
  have hrun := Lib.run_convert_string_bytes (P := P) w src dst e b hs hd he
  have hlay := hr.lay' (w' := Lib.bytesWorld w e b) ⟨by simp [Lib.bytesWorld, World.freeze, World.drew, World.alloc, -World.alloc_eq, -World.drew_eq], by simp [Lib.bytesWorld, World.freeze, World.drew, World.alloc, -World.alloc_eq, -World.drew_eq],
      by simp [Lib.bytesWorld, World.freeze, World.drew, World.alloc, -World.alloc_eq, -World.drew_eq]⟩ (by rw [Lib.bytesWorld_size]; omega)
    (fun B hB => Lib.bytesWorld_at_old w e b B hB) (Lib.bytesCells w e b) e _ (Lib.bytesWorld_at_new w e b) (b.data.toList.map fun c => Value.int .u8 c.toNat)
    ⟨_, by simp only [Lib.bytesCells, Array.toList_append, Array.toList_map]; rfl⟩
  refine ⟨.slice (some ⟨w.heap.size, 0, none⟩) b.size (grownCap w b.size 0 e), _, _, .inl ?_, hlay.2, hlay.1, ?_⟩
  · simp only [execOp, ho, e1, Sem.run_bind, hrun, Result.andThen_ok, Sem.run_pure]
  · have hsz : (bytesOf b).length = b.size := by simp [bytesOf]
    have := R.sl_of (c := c.lay w.heap.size (b.data.toList.map fun c => Value.int .u8 c.toNat)) (xs := bytesOf b) (k := 1) (us := b.data.toList.map fun c => Value.int .u8 c.toNat) (B := w.heap.size) (o := 0) (cap := grownCap w b.size 0 e) (t := .no)
      (fun x hx => by obtain ⟨y, _, rfl⟩ := List.mem_map.1 hx; rfl)
      (by
        rw [rowCells_one (fun x hx => by obtain ⟨y, _, rfl⟩ := List.mem_map.1 hx; rfl)]
        refine ⟨by simp [bytesOf], fun j hj => ?_⟩
        have hj' : j < b.data.toList.length := by simpa [bytesOf] using hj
        rw [List.getD_eq_getElem?_getD, List.getElem?_map, List.getElem?_eq_getElem hj']
        simp only [bytesOf, List.getElem_map]
        exact .v _)
      (fun j v hj => by simpa using hj) (by rw [hsz]; exact grownCap_ge _ _ _ _) trivial
    rwa [hsz] at this
theorem ok_b2s_sl {src dst e : TypeId} {x : Operand} {x' : Arg} (ho : o.op = .convert src dst x) (h1 : cArg x = some x') (hs : P.underlying src = some (.slice e)) (hd : P.underlying dst = some .string) (he : P.underlying e = some (.int .u8))
    {xs : List AV} {tk : Tok} (hx : x'.ev t = .sl xs tk) {ns : List Int} (hn : numsOf xs = some ns) : OpOk cmp P o t s (.v (.string (strOfNums ns))) s :=
  .pure fun c w ρ hr ht => by
    have e1 := ht _ _ h1
    rw [hx] at e1
    refine ⟨.string (strOfNums ns), ?_, .v _⟩
    rcases e1.sl_cells with ⟨rfl, p0, hy, _⟩ | ⟨k, B, q, cap, us, hy, q1, q2, q3, q4, q5, _⟩
    · simp [numsOf] at hn
      subst hn
      cases p0 with
      | none =>
        simp only [execOp, ho, hy, Sem.run_bind, run_convert_bytes_nil w src e hs he 0 0 dst hd, Result.andThen_ok, Sem.run_pure]
        rfl
      | some a =>
        have hl : (loadCells a 0).run P w = .ok (([] : List Int).map (Value.int .u8)).toArray w := by simpa using run_loadCells_list (P := P) w a [] (fun j v hj => by simp at hj)
        have h2 := run_convert_bytes_string (P := P) w src dst e (some a) 0 0 hs he hd
        rw [run_bytesToString w _ 0 0 [] hl] at h2
        simp only [execOp, ho, hy, Sem.run_bind, h2, Result.andThen_ok, Sem.run_pure]
        rfl
    · rw [rowCells_one (numsOf_one hn)] at q2
      obtain ⟨hus, hl⟩ := numsOf_ok q2 hn
      subst hus
      have := run_convert_bytes_arg (P := P) w src e hs he B q xs.length cap ns hl (fun i hi => by
        refine hr.arr_cell (q4 i _ ?_)
        have hi' : i < ns.length := by omega
        rw [List.getElem?_map, List.getElem?_eq_getElem hi', List.getD_eq_getElem?_getD, List.getElem?_eq_getElem hi']; rfl) dst hd
      simp only [execOp, ho, hy, Sem.run_bind, this, Result.andThen_ok, Sem.run_pure]
theorem ok_b2s_ms {src dst e : TypeId} {x : Operand} {x' : Arg} (ho : o.op = .convert src dst x) (h1 : cArg x = some x') (hs : P.underlying src = some (.slice e)) (hd : P.underlying dst = some .string) (he : P.underlying e = some (.int .u8))
    {b off ln : Nat} (hx : x'.ev t = .ms b off ln) {cs : List AV} (hg : s.get b = .cells cs) (hl : off + ln ≤ cs.length) {ns : List Int} (hn : numsOf ((cs.drop off).take ln) = some ns) : OpOk cmp P o t s (.v (.string (strOfNums ns))) s :=
  .pure fun c w ρ hr ht => by
    have e1 := ht _ _ h1
    rw [hx] at e1
    obtain ⟨cap, hy, hb, _⟩ := e1.ms_inv
    refine ⟨.string (strOfNums ns), ?_, .v _⟩
    have hob := hr.obj b (hr.n ▸ hb)
    rw [hg] at hob
    obtain ⟨vs, e', k1, k2, k3⟩ := hob
    obtain ⟨hus, hlen⟩ := numsOf_ok ((k2.drop off).take ln) hn
    have hlen' : ns.length = ln := by rw [hlen, List.length_take, List.length_drop]; omega
    have := run_convert_bytes_arg (P := P) w src e hs he (c.mu b) off ln cap ns hlen' (fun i hi => by
      rw [cell_of_row w _ _ vs e' _ k1]
      have hi' : i < ns.length := by omega
      have : ((vs.toList.drop off).take ln)[i]? = some (Value.int .u8 (ns.getD i 0)) := by
        rw [hus, List.getElem?_map, List.getElem?_eq_getElem hi', List.getD_eq_getElem?_getD, List.getElem?_eq_getElem hi']; rfl
      rw [List.getElem?_take, if_pos hi, List.getElem?_drop] at this
      simpa using this) dst hd
    simp only [execOp, ho, hy, Sem.run_bind, this, Result.andThen_ok, Sem.run_pure]
theorem RL_made {c : Cx} (z : Value) {k : Nat} (hk : z.cells.size = k) (n : Nat) : RL c (List.replicate n (z.cells.toList.map ofCell)).flatten (madeCells z.cells (n * k)).toList := by
  have hlen : ∀ n : Nat, (List.replicate n (z.cells.toList.map ofCell)).flatten.length = n * k := by
    intro n
    induction n with
    | zero => simp
    | succ n ih => rw [List.replicate_succ, List.flatten_cons, List.length_append, ih, Nat.add_mul]; simp [hk]; omega
  have hget : ∀ (n j : Nat), j < n * k → (List.replicate n (z.cells.toList.map ofCell)).flatten[j]? = some (ofCell z.cells[j % k]!) := by
    intro n
    induction n with
    | zero => intro j hj; omega
    | succ n ih =>
      intro j hj
      rw [List.replicate_succ, List.flatten_cons]
      have hl : (z.cells.toList.map ofCell).length = k := by simp [hk]
      by_cases h : j < k
      · rw [List.getElem?_append_left (by rw [hl]; exact h), List.getElem?_map, Nat.mod_eq_of_lt h]
        have h' : j < z.cells.size := by rw [hk]; exact h
        simp [h']
      · rw [List.getElem?_append_right (by rw [hl]; omega), hl, ih (j - k) (by rw [Nat.add_mul] at hj; omega)]
        rw [← Nat.mod_eq_sub_mod (by omega)]
  refine ⟨by rw [hlen, Array.length_toList, size_madeCells], fun j hj => ?_⟩
  rw [hlen] at hj
  have h1 := hget n j hj
  rw [(List.getElem?_eq_some_iff.1 h1).2]
  have h2 : (madeCells z.cells (n * k)).toList.getD j undef = z.cells[j % k]! := by
    simp [madeCells, hk, hj, List.getD_eq_getElem?_getD]
  rw [h2]
  exact R_ofCell c _
theorem ok_mksl {ty e : TypeId} {l l2 : Operand} {l' : Arg} {i : TypeInfo} {z : Value} (ho : o.op = .makeSlice ty l l2) (h1 : cArg l = some l') (hll : l2 = l) (hu : P.underlying ty = some (.slice e)) (hi : P.info? e = some i) (hz : i.zero = some z)
    (hzs : z.cells.size = i.size) {k : IntKind} {n : Int} (hx : l'.ev t = .v (.int k n)) (h0 : 0 ≤ n) (hb : n * i.bytes ≤ 140737488355328) (h63 : n ≤ 4611686018427387904) :
    OpOk cmp P o t s (.ms s.n 0 n.toNat) (s.alloc (.cells (List.replicate n.toNat (z.cells.toList.map ofCell)).flatten)) := by
  intro c w ρ hr ht
  have e1 := ht _ _ h1
  rw [hx] at e1
  have e1 := e1.v_inv
  have e2 : ρ l2 = .int k n := by rw [hll]; exact e1
  have hrun := run_make (P := P) w ty e i z hu hi hz k k n n h0 (Int.le_refl _) (by rw [Int.mul_comm]; omega) (by omega)
  have := hr.alloc (.cells (madeCells z.cells (n.toNat * i.size)) e (0, 0)) (.cells (List.replicate n.toNat (z.cells.toList.map ofCell)).flatten) 0 0
    ⟨_, e, by rw [Cx.bind_mu]; exact heap_push_new w _, RL_made z hzs n.toNat, by rw [Cx.bind_mu, Cx.bind_arr]; exact hr.arr_new⟩ (by simp)
  refine ⟨.slice (some ⟨w.heap.size, 0, none⟩) n.toNat n.toNat, _, _, .inl ?_, this.2, this.1, ?_⟩
  · simp only [execOp, ho, e1, e2, Sem.run_bind, hrun, Result.andThen_ok, Sem.run_pure]
  · have := R.ms (c := c.bind w.heap.size 0 0) c.n 0 n.toNat n.toNat (by simp) (Nat.le_refl _)
    rwa [Cx.bind_mu, ← hr.n] at this
theorem run_append_in {w : World} (t ty e : TypeId) (i : TypeInfo) (ht : P.underlying t = some (.slice e)) (hi : P.info? e = some i)
    (g q sLen sCap : Nat) (cur : Array Value) (e' : TypeId) (hg : w.heap[g]? = some (.cells cur e' (0, 0)))
    (a : Addr) (m c : Nat) (news : List Value) (hl : news.length = m * i.size) (hnews : ∀ j u, news[j]? = some u → w.cell? (a.add j) = some u) (h1 : ∀ u ∈ news, u.oneCell' = true)
    (hroom : sLen + m ≤ sCap) (hfit : q + sLen * i.size + news.length ≤ cur.size) :
    (Builtin.append_ #[t, t] ty #[.slice (some ⟨g, q, none⟩) sLen sCap, .slice (some a) m c]).run P w =
      .ok (.slice (some ⟨g, q, none⟩) (sLen + m) sCap) (w.setRow g (cur.toList.take (q + sLen * i.size) ++ news ++ cur.toList.drop (q + sLen * i.size + news.length)).toArray) := by
  have hf := run_firstCells_some (P := P) w i.size m a m c news hl hnews
  have hst := run_storeCells_at P g (q + sLen * i.size) e' news 0 cur w hg (by simpa using hfit) h1
  simp only [Nat.add_zero] at hst
  simp [Builtin.append_, run_underlying ht, sizeOf, typeInfo, hi, Builtin.lenOf, hroom, hf, Addr.add_lit, hst]
theorem run_append_none {w : World} (t ty e : TypeId) (i : TypeInfo) (ht : P.underlying t = some (.slice e)) (hi : P.info? e = some i) (base : Option Addr) (sLen sCap : Nat) (x : Value) (c : Nat) (hlc : sLen ≤ sCap)
    (hx : (∃ a, x = .slice (some a) 0 c) ∨ x = .slice none 0 0) : (Builtin.append_ #[t, t] ty #[.slice base sLen sCap, x]).run P w = .ok (.slice base sLen sCap) w := by
  have hst : (storeCells ⟨0, 0, none⟩ [] : Sem Unit) = pure () := rfl
  rcases hx with ⟨a, rfl⟩ | rfl <;> cases base <;> simp [Builtin.append_, run_underlying ht, sizeOf, typeInfo, hi, Builtin.lenOf, hlc, Builtin.firstCells, loadCells, loadCellsFrom, storeCells]
theorem Rel.sl_read {c : Cx} {s : AState} {w : World} (hr : Rel cmp c s w) {B o : Nat} {us : List Value} (h : ∀ j v, us[j]? = some v → (c.arr B)[o + j]? = some v) :
    ∀ j u, us[j]? = some u → w.cell? ((⟨B, o, none⟩ : Addr).add j) = some u := fun j u hj => by rw [Addr.add_lit]; exact hr.arr_cell (h j u hj)
theorem headK_spec {k : Nat} {xs : List AV} (h : headK k xs = true) {k' : Nat} (h' : ∀ x ∈ xs, x.cells.length = k') : ∀ x ∈ xs, x.cells.length = k := by
  cases xs with
  | nil => intro x hx; simp at hx
  | cons y ys =>
    simp only [headK, beq_iff_eq] at h
    have := h' y (by simp)
    intro x hx
    rw [h' x hx, ← this, h]
theorem new_rows {c : Cx} {ys : List AV} {k k' : Nat} {us : List Value} (hok : ys.all (okRow k) = true) (h1 : ∀ x ∈ ys, x.cells.length = k') (hR : RL c (rowCells ys) us) :
    (∀ x ∈ ys, x.cells.length = k) ∧ (∀ u ∈ us, u.oneCell' = true) := by
  have hk : ∀ x ∈ ys, x.cells.length = k := fun x hx => (okRow_spec (List.all_eq_true.1 hok x hx)).1
  refine ⟨hk, fun u hu => ?_⟩
  obtain ⟨j, hj, rfl⟩ := List.mem_iff_getElem.1 hu
  have hj' : j < (rowCells ys).length := by rw [← hR.1]; exact hj
  have := hR.2 j hj'
  rw [List.getD_eq_getElem?_getD, List.getElem?_eq_getElem hj] at this
  refine (one_ok this ?_).1
  obtain ⟨x, hx, hm⟩ := List.mem_flatMap.1 (List.getElem_mem hj')
  exact (okRow_spec (List.all_eq_true.1 hok x hx)).2.2 _ hm
theorem Rel.bindTok {c : Cx} {s : AState} {w : World} (hr : Rel cmp c s w) {B z : Nat} {vs : Array Value} {e : TypeId} (hB : w.heap[B]? = some (.cells vs e (0, 0))) (hz : z ≤ vs.size) (hno : ¬ Own c s B) :
    Rel cmp (c.bind B (c.arr B).length z) (s.alloc .tok) w := by
  have hn := hr.n
  have hle := c.le_bind B (c.arr B).length z
  refine ⟨by simp [hn], fun b hb => ?_, fun a b ha hb hne hda hdb => ?_, hr.arr⟩
  · rw [AState.get_alloc]
    by_cases e1 : b = s.n
    · rw [if_pos e1, e1, hn]
      exact ⟨vs, e, by rw [Cx.bind_mu]; exact hB, by simp, by simpa using hz⟩
    · rw [if_neg e1]
      have hb' : b < s.n := by simp at hb; omega
      exact (hr.obj b hb').kept (hn ▸ hb') hle rfl rfl
  · rw [AState.get_alloc] at hda hdb
    simp only [AState.n_alloc] at ha hb
    have key : ∀ x, x < s.n → s.get x ≠ .dead → (c.bind B (c.arr B).length z).mu x ≠ B := by
      intro x hx hdx h
      rw [hle.mu x (hn ▸ hx)] at h
      exact hno ⟨x, hx, hdx, h⟩
    by_cases ea : a = s.n
    · have hb' : b < s.n := by omega
      rw [if_neg (by omega)] at hdb
      rw [ea, hn, Cx.bind_mu]; exact (key b hb' hdb).symm
    · have ha' : a < s.n := by omega
      rw [if_neg ea] at hda
      by_cases eb : b = s.n
      · rw [eb, hn, Cx.bind_mu]; exact key a ha' hda
      · have hb' : b < s.n := by omega
        rw [if_neg eb] at hdb
        rw [hle.mu a (hn ▸ ha'), hle.mu b (hn ▸ hb')]
        exact hr.inj a b ha' hb' hne hda hdb
theorem Own.alloc {c : Cx} {s : AState} {o : AObj} {B e z B' : Nat} (hn : s.n = c.n) (h : Own (c.bind B e z) (s.alloc o) B') : B' = B ∨ Own c s B' := by
  obtain ⟨b, hb, hd, rfl⟩ := h
  rw [AState.get_alloc] at hd
  simp only [AState.n_alloc] at hb
  by_cases e1 : b = s.n
  · left; rw [e1, hn, Cx.bind_mu]
  · rw [if_neg e1] at hd
    have hb' : b < s.n := by omega
    exact .inr ⟨b, hb', hd, ((c.le_bind B e z).mu b (hn ▸ hb')).symm⟩
theorem Rel.grow {c : Cx} {s : AState} {w : World} (hr : Rel cmp c s w) (cells : Array Value) (e : TypeId) (us : List Value) (hus : us <+: cells.toList) {xs : List AV} {k : Nat} (h1 : ∀ x ∈ xs, x.cells.length = k) (hR : RL c (rowCells xs) us)
    (ncap : Nat) (hn : xs.length ≤ ncap) (hsz : cells.size = ncap * k) :
    ∃ c', Ext c s w c' (s.alloc .tok) (w.drew.alloc (.cells cells e)) ∧ Rel cmp c' (s.alloc .tok) (w.drew.alloc (.cells cells e)) ∧ R c' (.sl xs (.own s.n)) (.slice (some ⟨w.heap.size, 0, none⟩) xs.length ncap) := by
  obtain ⟨hr0, he0⟩ := hr.heap_eq (w' := w.drew) rfl (Same.drew w)
  obtain ⟨hr1, he1⟩ := hr0.lay cells e (0, 0) us hus
  have hsize : w.drew.heap.size = w.heap.size := rfl
  rw [hsize] at hr1 he1
  have hno : ¬ Own (c.lay w.heap.size us) s w.heap.size := by
    rintro ⟨b, hb, hd, he⟩
    have := hr.lt hb hd
    simp only [Cx.lay_mu] at he
    omega
  have hr2 := hr1.bindTok (B := w.heap.size) (z := ncap * k) (heap_push_new w.drew _) (by omega) hno
  have hle : c.le ((c.lay w.heap.size us).bind w.heap.size ((c.lay w.heap.size us).arr w.heap.size).length (ncap * k)) := (he0.trans he1).le.trans (Cx.le_bind _ _ _ _)
  refine ⟨_, ⟨hle, rfl, rfl, rfl, by simp, fun B hB => ?_, fun B hB _ => heap_push_old (w := w.drew) _ hB⟩, hr2, ?_⟩
  · rcases Own.alloc (by exact hr.n) hB with rfl | h
    · exact .inl (Nat.le_refl _)
    · exact .inr h
  · have hl := rowCells_length h1
    refine R.sl_of h1 (hR.mono hle) (fun j v hj => ?_) hn ?_
    · simp only [Cx.bind_arr, Cx.lay_same, Nat.zero_add]; exact hj
    · refine ⟨by simp [hr.n], by rw [hr.n]; exact Cx.bind_mu _ _ _ _, ?_, ?_⟩
      · rw [hr.n]
        show (Cx.bind _ _ _ _).tend (c.lay w.heap.size us).n = _
        rw [Cx.bind_tend, Cx.lay_same, hR.1, hl, Nat.zero_add]
      · rw [hr.n]
        show _ ≤ (Cx.bind _ _ _ _).csz (c.lay w.heap.size us).n
        rw [Cx.bind_csz, Nat.zero_add]; exact Nat.le_refl _
theorem AState.set_alloc (s : AState) {b : Nat} (hb : b < s.n) (o o' : AObj) : (s.set b o).alloc o' = (s.alloc o').set b o := by
  unfold AState.set AState.alloc
  simp only [AState.mk.injEq, true_and]
  funext x
  by_cases h1 : x = s.n
  · have : x ≠ b := by omega
    simp [h1, this, Nat.ne_of_gt hb]
  · simp [h1]
theorem Own.kill {c : Cx} {s : AState} {b B : Nat} (h : Own c (s.set b .dead) B) : Own c s B := by
  obtain ⟨x, hx, hd, he⟩ := h
  refine ⟨x, hx, fun h => hd ?_, he⟩
  rw [AState.get_set]
  split
  · rfl
  · exact h
theorem Ext.kill {c c' : Cx} {s s' : AState} {w w' : World} (h : Ext c s w c' s' w') (b : Nat) : Ext c s w c' (s'.set b .dead) w' :=
  ⟨h.le, h.os, h.tape, h.output, h.size, fun B hB => h.fresh B hB.kill, h.kept⟩
theorem append_grow {c : Cx} {s : AState} {w : World} (hr : Rel cmp c s w) {xs ys : List AV} {k : Nat} {i : TypeInfo} {z : Value} {e : TypeId} (hk : i.size = k) (hzs : z.cells.size = i.size) (hx : ∀ x ∈ xs, x.cells.length = k) (hy : ∀ x ∈ ys, x.cells.length = k)
    {olds news : List Value} (hRx : RL c (rowCells xs) olds) (hRy : RL c (rowCells ys) news) (old : Nat) :
    ∃ c', Ext c s w c' (s.alloc .tok) (w.drew.alloc (.cells (olds.toArray ++ news.toArray ++ Builtin.zeroCells z.cells (grownCap w (xs.length + ys.length) old e - (xs.length + ys.length))) e)) ∧
      Rel cmp c' (s.alloc .tok) (w.drew.alloc (.cells (olds.toArray ++ news.toArray ++ Builtin.zeroCells z.cells (grownCap w (xs.length + ys.length) old e - (xs.length + ys.length))) e)) ∧
      R c' (.sl (xs ++ ys.map AV.strip) (.own s.n)) (.slice (some ⟨w.heap.size, 0, none⟩) (xs.length + ys.length) (grownCap w (xs.length + ys.length) old e)) := by
  have hge := grownCap_ge w (xs.length + ys.length) old e
  have hrows : rowCells (xs ++ ys.map AV.strip) = rowCells xs ++ (rowCells ys).map AV.strip1 := by
    rw [← rowCells_strip]; simp [rowCells]
  have h1 : ∀ x ∈ xs ++ ys.map AV.strip, x.cells.length = k := by
    intro x hx'
    rcases List.mem_append.1 hx' with h | h
    · exact hx x h
    · obtain ⟨y, hy', rfl⟩ := List.mem_map.1 h
      rw [strip_cells, List.length_map]; exact hy y hy'
  have hlx := rowCells_length hx
  have hly := rowCells_length hy
  have := hr.grow (olds.toArray ++ news.toArray ++ Builtin.zeroCells z.cells (grownCap w (xs.length + ys.length) old e - (xs.length + ys.length))) e (olds ++ news)
    (by simp only [Array.toList_append]; exact List.prefix_append _ _) h1 (by rw [hrows]; exact hRx.append hRy.strip1) (grownCap w (xs.length + ys.length) old e) (by simpa using hge)
    (by
      simp only [Array.size_append, List.size_toArray, size_zeroCells, hzs, hk, hRx.1, hRy.1, hlx, hly, ← Nat.add_mul]
      congr 1
      omega)
  simpa using this
theorem append_room {c : Cx} {s : AState} {w : World} (hr : Rel cmp c s w) {tk : Nat} (htk : s.get tk = .tok) {xs ys : List AV} {k B q cap : Nat} {us news : List Value} (hx : ∀ x ∈ xs, x.cells.length = k) (hy : ∀ x ∈ ys, x.cells.length = k)
    (hRx : RL c (rowCells xs) us) (hua : ∀ j v, us[j]? = some v → (c.arr B)[q + j]? = some v) (hRy : RL c (rowCells ys) news) (hcap : xs.length + ys.length ≤ cap) (htok : TokOk c (.own tk) B (q + xs.length * k) (q + cap * k) xs.length cap) :
    ∃ cur e, w.heap[B]? = some (.cells cur e (0, 0)) ∧ q + xs.length * k + news.length ≤ cur.size ∧
    ∃ c', Ext c s w c' ((s.set tk .dead).alloc .tok) (w.setRow B (cur.toList.take (q + xs.length * k) ++ news ++ cur.toList.drop (q + xs.length * k + news.length)).toArray) ∧
      Rel cmp c' ((s.set tk .dead).alloc .tok) (w.setRow B (cur.toList.take (q + xs.length * k) ++ news ++ cur.toList.drop (q + xs.length * k + news.length)).toArray) ∧
      R c' (.sl (xs ++ ys.map AV.strip) (.own s.n)) (.slice (some ⟨B, q, none⟩) (xs.length + ys.length) cap) := by
  obtain ⟨ht1, ht2, ht3, ht4⟩ := htok
  have hb : tk < s.n := hr.n ▸ ht1
  have hob := hr.obj tk hb
  rw [htk] at hob
  obtain ⟨cur, e, k1, k2, k3⟩ := hob
  rw [ht2] at k1 k2
  rw [ht3] at k2
  have hlx := rowCells_length hx
  have hly := rowCells_length hy
  have hnl : news.length = ys.length * k := by rw [hRy.1, hly]
  have hfit : q + xs.length * k + news.length ≤ cur.size := by
    rw [hnl]
    have : (xs.length + ys.length) * k ≤ cap * k := Nat.mul_le_mul_right _ hcap
    rw [Nat.add_mul] at this
    omega
  refine ⟨cur, e, k1, hfit, ?_⟩
  have hpre : c.arr B = cur.toList.take (q + xs.length * k) := by
    by_cases h0 : c.arr B = []
    · rw [h0] at k2 ⊢
      simp at k2
      rw [show q + xs.length * k = 0 by omega]; simp
    · obtain ⟨vs, e2, fz, m1, m2⟩ := hr.arr B h0
      rw [k1] at m1
      cases m1
      rw [← k2]
      exact List.prefix_iff_eq_take.1 m2
  generalize hw : w.setRow B (cur.toList.take (q + xs.length * k) ++ news ++ cur.toList.drop (q + xs.length * k + news.length)).toArray = w'
  have hwB : w'.heap[B]? = some (.cells (cur.toList.take (q + xs.length * k) ++ news ++ cur.toList.drop (q + xs.length * k + news.length)).toArray e (0, 0)) := by rw [← hw]; exact setRow_heap w B cur _ e _ k1
  have hwo : ∀ B', B' ≠ B → w'.heap[B']? = w.heap[B']? := fun B' h => by rw [← hw]; exact setRow_other w B B' _ h
  have hws : w'.heap.size = w.heap.size := by rw [← hw]; simp
  have hwS : Same w w' := by rw [← hw]; exact ⟨rfl, rfl, rfl⟩
  have hkill := hr.kill tk
  have hkd : ∀ x, (s.set tk .dead).get x ≠ .dead → s.get x ≠ .dead ∧ x ≠ tk := by
    intro x hx'
    by_cases e1 : x = tk
    · subst e1; rw [AState.get_set_same _ _ hb] at hx'; exact absurd rfl hx'
    · rw [AState.get_set_ne _ _ e1] at hx'; exact ⟨hx', e1⟩
  have hle1 : c.le (c.lay B (c.arr B ++ news)) := c.le_lay _ _ (List.prefix_append _ _)
  have hnoB : ∀ x, x < s.n → (s.set tk .dead).get x ≠ .dead → c.mu x ≠ B := fun x hx' hd he => by
    obtain ⟨h1, h2⟩ := hkd x hd
    exact hr.inj x tk hx' hb h2 h1 (by rw [htk]; simp) (he.trans ht2.symm)
  have hr1 : Rel cmp (c.lay B (c.arr B ++ news)) (s.set tk .dead) w' := by
    refine ⟨hr.n, fun x hx' => ?_, hkill.inj, fun B' hB' => ?_⟩
    · by_cases hd : (s.set tk .dead).get x = .dead
      · rw [hd]; trivial
      · have hne := hnoB x hx' hd
        exact (hkill.obj x hx').kept (hr.n ▸ hx') hle1 (hwo _ hne) (c.lay_ne _ hne)
    · by_cases e1 : B' = B
      · subst e1
        refine ⟨_, e, _, hwB, ?_⟩
        rw [Cx.lay_same, hpre]
        exact List.prefix_append _ _
      · rw [c.lay_ne _ e1] at hB' ⊢
        obtain ⟨vs, e2, fz, m1, m2⟩ := hr.arr B' hB'
        exact ⟨vs, e2, fz, by rw [hwo _ e1]; exact m1, m2⟩
  have hno1 : ¬ Own (c.lay B (c.arr B ++ news)) (s.set tk .dead) B := by
    rintro ⟨x, hx', hd, he⟩
    exact hnoB x hx' hd he
  have hr2 := hr1.bindTok (B := B) (z := c.csz tk) hwB (by simp only [List.size_toArray, List.length_append, List.length_take, List.length_drop, Array.length_toList]; omega) hno1
  have hle : c.le ((c.lay B (c.arr B ++ news)).bind B ((c.lay B (c.arr B ++ news)).arr B).length (c.csz tk)) := hle1.trans (Cx.le_bind _ _ _ _)
  have hownB : Own c s B := ⟨tk, hb, by rw [htk]; simp, ht2⟩
  refine ⟨_, ⟨hle, hwS.os, hwS.tape, hwS.output, by omega, fun B' hB' => ?_, fun B' _ hn => hwo _ (fun e1 => hn (e1 ▸ hownB))⟩, hr2, ?_⟩
  · rcases Own.alloc (by exact hr.n) hB' with rfl | ⟨x, hx', hd, he⟩
    · exact .inr hownB
    · exact .inr ⟨x, hx', (hkd x hd).1, he⟩
  · have hrows : rowCells (xs ++ ys.map AV.strip) = rowCells xs ++ (rowCells ys).map AV.strip1 := by
      rw [← rowCells_strip]; simp [rowCells]
    have h1 : ∀ x ∈ xs ++ ys.map AV.strip, x.cells.length = k := by
      intro x hx'
      rcases List.mem_append.1 hx' with h | h
      · exact hx x h
      · obtain ⟨y, hy', rfl⟩ := List.mem_map.1 h
        rw [strip_cells, List.length_map]; exact hy y hy'
    have hus : us.length = xs.length * k := by rw [hRx.1, hlx]
    have := R.sl_of (c := (c.lay B (c.arr B ++ news)).bind B ((c.lay B (c.arr B ++ news)).arr B).length (c.csz tk)) (xs := xs ++ ys.map AV.strip) (k := k) (us := us ++ news) (B := B) (o := q) (cap := cap) (t := .own s.n) h1
      (by rw [hrows]; exact (hRx.mono hle).append (hRy.mono hle).strip1)
      (fun j v hj => by
        simp only [Cx.bind_arr, Cx.lay_same]
        by_cases hj' : j < us.length
        · rw [List.getElem?_append_left hj'] at hj
          have := hua j v hj
          rw [List.getElem?_append_left (List.getElem?_eq_some_iff.1 this).1]; exact this
        · rw [List.getElem?_append_right (by omega)] at hj
          rw [List.getElem?_append_right (by omega), k2, show q + j - (q + xs.length * k) = j - us.length by omega]; exact hj)
      (by simpa using hcap)
      (by
        refine ⟨by simp [hr.n], by rw [hr.n]; exact Cx.bind_mu _ _ _ _, ?_, ?_⟩
        · rw [hr.n]
          show (Cx.bind _ _ _ _).tend (c.lay B (c.arr B ++ news)).n = _
          rw [Cx.bind_tend, Cx.lay_same]
          simp only [List.length_append, k2, hnl, List.length_map, Nat.add_mul]; omega
        · rw [hr.n]
          show _ ≤ (Cx.bind _ _ _ _).csz (c.lay B (c.arr B ++ news)).n
          rw [Cx.bind_csz]; exact ht4)
    simpa using this
section
variable {o : Oper} {t : List AV} {s : AState}
theorem ok_append {cl : Call} {ty e : TypeId} {x y : Operand} {x' y' : Arg} {i : TypeInfo} {z : Value} (ho : o.op = .call cl) (hc : cl.callee = .builtin .append) (hxs : cl.args = #[x, y]) (hts : cl.argTypes = #[ty, ty])
    (h1 : cArg x = some x') (h2 : cArg y = some y') (hu : P.underlying ty = some (.slice e)) (hi : P.info? e = some i) (hz : i.zero = some z) (hzs : z.cells.size = i.size)
    {xs ys : List AV} {tx ty' : Tok} (hx : x'.ev t = .sl xs tx) (hy : y'.ev t = .sl ys ty') (hne : ys ≠ []) (hh : headK i.size xs = true) (hok : ys.all (okRow i.size) = true)
    (hb : (xs.length + ys.length) * i.bytes ≤ 140737488355328) (h63 : xs.length + ys.length ≤ 4611686018427387904) {s' : AState} (hs' : (tx = .zero ∧ s' = s.alloc .tok) ∨ ∃ tk, tx = .own tk ∧ s.get tk = .tok ∧ xs ≠ [] ∧ s' = (s.set tk .dead).alloc .tok) :
    OpOk cmp P o t s (.sl (xs ++ ys.map AV.strip) (.own s.n)) s' := by
  intro c w ρ hr ht
  have e1 := ht _ _ h1
  have e2 := ht _ _ h2
  rw [hx] at e1
  rw [hy] at e2
  have hyl : 0 < ys.length := List.length_pos_iff.2 hne
  rcases e2.sl_cells with ⟨rfl, _⟩ | ⟨k2, B2, q2, cap2, news, hy2, r1, r2, r3, r4, r5, _⟩
  · exact absurd rfl hne
  obtain ⟨hyk, hone⟩ := new_rows hok r1 r2
  have hnl : news.length = ys.length * i.size := by rw [r2.1, rowCells_length hyk]
  have hread := hr.sl_read r4
  have key : ∀ v w', (Builtin.append_ #[ty, ty] o.type #[ρ x, ρ y]).run P w = .ok v w' → (execOp ρ o).run P w = .ok (.value v) w' := by
    intro v w' h
    simp [execOp, ho, resolve, hc, hxs, hts, invoke, builtin, h]
  rcases e1.sl_cells with ⟨rfl, p0, hx2, htn⟩ | ⟨k1, B1, q1, cap1, olds, hx2, p1, p2, p3, p4, p5, p6⟩
  ·
    rcases hs' with ⟨rfl, rfl⟩ | ⟨tk, rfl, _, h, _⟩
    · have hrun : (Builtin.append_ #[ty, ty] o.type #[.slice p0 0 0, .slice (some ⟨B2, q2, none⟩) ys.length cap2]).run P w =
          .ok (.slice (some ⟨w.heap.size, 0, none⟩) ys.length (grownCap w ys.length 0 e)) (w.drew.alloc (.cells (news.toArray ++ Builtin.zeroCells z.cells (grownCap w ys.length 0 e - ys.length)) e)) := by
        cases p0 with
        | none => exact run_append_nil (P := P) w ty o.type e i z hu hi hz ⟨B2, q2, none⟩ ys.length cap2 news hnl hread hyl (by simp at h63; omega) (by simp only [List.length_nil, Nat.zero_add] at hb; omega)
        | some a =>
          have := run_append_grow (P := P) w ty o.type e i z hu hi hz a 0 0 [] (by simp) (fun j v hj => by simp at hj) ⟨B2, q2, none⟩ ys.length cap2 news hnl hread (by omega) (by simp at h63; omega) (growslice_fits (by omega) (by simp only [List.length_nil, Nat.zero_add] at hb; simpa using hb))
          simpa using this
      obtain ⟨c', g1, g2, g3⟩ := append_grow (cmp := cmp) (e := e) hr (xs := []) (ys := ys) (i := i) (z := z) rfl hzs (fun x hx => by simp at hx) hyk (RL.nil c) r2 0
      simp only [List.length_nil, Nat.zero_add, List.nil_append, Array.empty_append] at g1 g2 g3
      exact ⟨_, _, c', .inl (key _ _ (by rw [hx2, hy2]; exact hrun)), g1, g2, g3⟩
    · exact absurd rfl h
  · have hxk := headK_spec hh p1
    have hol : olds.length = xs.length * i.size := by rw [p2.1, rowCells_length hxk]
    by_cases hroom : xs.length + ys.length ≤ cap1
    ·
      rcases hs' with ⟨rfl, rfl⟩ | ⟨tk, rfl, htk, hx0, rfl⟩
      · have : cap1 = xs.length := p6
        omega
      · have p6' : TokOk c (.own tk) B1 (q1 + xs.length * i.size) (q1 + cap1 * i.size) xs.length cap1 := by
          obtain ⟨x0, hx0⟩ := List.exists_mem_of_ne_nil xs hx0
          rw [← p1 x0 hx0, hxk x0 hx0] at p6
          exact p6
        obtain ⟨cur, e', g0, g1, c', g2, g3, g4⟩ := append_room hr htk hxk hyk p2 p4 r2 hroom p6'
        have hrun := run_append_in (P := P) ty o.type e i hu hi B1 q1 xs.length cap1 cur e' g0 ⟨B2, q2, none⟩ ys.length cap2 news hnl hread hone hroom (by rw [hnl] at g1 ⊢; exact g1)
        exact ⟨_, _, c', .inl (key _ _ (by rw [hx2, hy2]; exact hrun)), g2, g3, g4⟩
    ·
      have hrun := run_append_grow (P := P) w ty o.type e i z hu hi hz ⟨B1, q1, none⟩ xs.length cap1 olds hol (hr.sl_read p4) ⟨B2, q2, none⟩ ys.length cap2 news hnl hread (by omega) (by omega) (growslice_fits (by omega) hb)
      obtain ⟨c', g1, g2, g3⟩ := append_grow (cmp := cmp) (e := e) hr (xs := xs) (ys := ys) (i := i) (z := z) rfl hzs hxk hyk p2 r2 cap1
      have hrun' := key _ _ (by rw [hx2, hy2]; exact hrun)
      rcases hs' with ⟨rfl, rfl⟩ | ⟨tk, rfl, htk, hx0, rfl⟩
      · exact ⟨_, _, c', .inl hrun', g1, g2, g3⟩
      · have hb : tk < s.n := AState.lt_of_get htk (by simp)
        rw [AState.set_alloc s hb]
        exact ⟨_, _, c', .inl hrun', g1.kill tk, g2.kill tk, g3⟩
theorem ok_append_none {cl : Call} {ty e : TypeId} {x y : Operand} {x' y' : Arg} {i : TypeInfo} (ho : o.op = .call cl) (hc : cl.callee = .builtin .append) (hxs : cl.args = #[x, y]) (hts : cl.argTypes = #[ty, ty])
    (h1 : cArg x = some x') (h2 : cArg y = some y') (hu : P.underlying ty = some (.slice e)) (hi : P.info? e = some i)
    {xs : List AV} {tx ty' : Tok} (hx : x'.ev t = .sl xs tx) (hy : y'.ev t = .sl [] ty') : OpOk cmp P o t s (.sl xs tx) s :=
  .pure fun c w ρ hr ht => by
    have e1 := ht _ _ h1
    have e2 := ht _ _ h2
    rw [hx] at e1
    rw [hy] at e2
    refine ⟨ρ x, ?_, e1⟩
    have hyy : ∃ cp, (∃ a, ρ y = .slice (some a) 0 cp) ∨ ρ y = .slice none 0 0 := by
      rcases e2.sl_inv with ⟨_, p0, h, _⟩ | ⟨k, B, q, cap, g, h, _⟩
      · cases p0 with
        | none => exact ⟨0, .inr h⟩
        | some a => exact ⟨0, .inl ⟨a, h⟩⟩
      · exact ⟨cap, .inl ⟨_, h⟩⟩
    obtain ⟨cp, hyy⟩ := hyy
    have : (Builtin.append_ #[ty, ty] o.type #[ρ x, ρ y]).run P w = .ok (ρ x) w := by
      rcases e1.sl_inv with ⟨rfl, p0, h, _⟩ | ⟨k, B, q, cap, g, h, q1, q2, q3, q4, _⟩ <;> rw [h]
      · exact run_append_none ty o.type e i hu hi p0 0 0 _ cp (Nat.le_refl _) hyy
      · exact run_append_none ty o.type e i hu hi _ _ _ _ cp q4 hyy
    simp [execOp, ho, resolve, hc, hxs, hts, invoke, builtin, this]
end
end
end Go.Ab
end
section
namespace Go.Ab
open Go.RowKit
set_option linter.unusedVariables false
set_option linter.unusedSimpArgs false
variable {cmp : Code → Option ACode} {P : Program}
inductive KeyVal : KK → AV → Value → Prop
  | int (k : IntKind) (a : Int) : KeyVal .int (.v (.int k a)) (.int k a)
  | str (a : ByteArray) : KeyVal .str (.v (.string a)) (.string a)
  | agg2 (k l : IntKind) (a b : Int) : KeyVal .agg2 (.agg [.v (.int k a), .v (.int l b)]) (.agg #[.int k a, .int l b])
theorem keyOk_cases {kk : KK} {x : AV} (hk : keyOk kk x = true) : (∃ k a, kk = .int ∧ x = .v (.int k a)) ∨ (∃ a, kk = .str ∧ x = .v (.string a)) ∨ ∃ k l a b, kk = .agg2 ∧ x = .agg [.v (.int k a), .v (.int l b)] := by
  unfold keyOk at hk
  split at hk
  · exact .inl ⟨_, _, rfl, rfl⟩
  · exact .inr (.inl ⟨_, rfl, rfl⟩)
  · exact .inr (.inr ⟨_, _, _, _, rfl, rfl⟩)
  · cases hk
theorem keyVal_of {c : Cx} {kk : KK} {x : AV} {y : Value} (h : R c x y) (hk : keyOk kk x = true) : KeyVal kk x y := by
  rcases keyOk_cases hk with ⟨k, a, rfl, rfl⟩ | ⟨a, rfl, rfl⟩ | ⟨k, l, a, b, rfl, rfl⟩
  · rw [h.v_inv]; exact .int _ _
  · rw [h.v_inv]; exact .str _
  · obtain ⟨vs, rfl, h'⟩ := h.agg_inv
    obtain ⟨u, us, rfl, h1, h'⟩ := h'.cons_inv
    obtain ⟨v, us, rfl, h2, h'⟩ := h'.cons_inv
    obtain rfl := h'.nil_inv
    rw [h1.v_inv, h2.v_inv]
    exact .agg2 _ _ _ _
theorem kind_int {t : TypeId} (h : keyKind P t = some .int) : ∃ k, P.underlying t = some (.int k) := by
  unfold keyKind at h
  split at h
  · exact ⟨_, ‹_›⟩
  · cases h
  · split at h <;> cases h
  · cases h
theorem kind_str {t : TypeId} (h : keyKind P t = some .str) : P.underlying t = some .string := by
  unfold keyKind at h
  split at h
  · cases h
  · assumption
  · split at h <;> cases h
  · cases h
theorem kind_agg2 {t : TypeId} (h : keyKind P t = some .agg2) : ∃ e k, P.underlying t = some (.array 2 e) ∧ P.underlying e = some (.int k) ∧ kOf P e = some 1 := by
  unfold keyKind at h
  split at h
  · cases h
  · cases h
  · split at h
    · exact ⟨_, _, ‹_›, ‹_›, ‹_›⟩
    · cases h
  · cases h
theorem run_part1 {t : TypeId} {k : IntKind} (hu : P.underlying t = some (.int k)) {cs : Array Value} {off : Nat} {v : Value} (h : cs[off]? = some v) (w : World) : (part t cs off).run P w = .ok v w := by
  simp [part, isAgg, run_underlying hu, h]
theorem run_checkKey' {kk : KK} {t : TypeId} (hk : keyKind P t = some kk) {x : AV} {y : Value} (hv : KeyVal kk x y) (b : Bool) (n : Nat) (w : World) : (Instr.checkKey b (n + 2) t y).run P w = .ok () w := by
  cases hv with
  | int k a => obtain ⟨k', hu⟩ := kind_int hk; simp [Instr.checkKey, run_underlying hu]
  | str a => have hu := kind_str hk; simp [Instr.checkKey, run_underlying hu]
  | agg2 k l a b' =>
    obtain ⟨e, k', hu, he, hs⟩ := kind_agg2 hk
    have h0 := fun w => run_part1 (P := P) he (cs := #[.int k a, .int l b']) (off := 0) (v := .int k a) rfl w
    have h1 := fun w => run_part1 (P := P) he (cs := #[.int k a, .int l b']) (off := 1) (v := .int l b') rfl w
    simp [Instr.checkKey, run_underlying hu, run_sizeOf hs, run_underlying he, Std.Legacy.Range.forIn_eq_forIn_range', Std.Legacy.Range.size, List.range', h0, h1]
theorem run_checkKey {kk : KK} {t : TypeId} (hk : keyKind P t = some kk) {x : AV} {y : Value} (hv : KeyVal kk x y) (b : Bool) (w : World) : (Instr.checkKey b 10000 t y).run P w = .ok () w :=
  run_checkKey' hk hv b 9998 w
theorem run_equalIn2 {t e : TypeId} {k0 : IntKind} (hu : P.underlying t = some (.array 2 e)) (he : P.underlying e = some (.int k0)) (hs : kOf P e = some 1) (k l : IntKind) (a b a' b' : Int) (n : Nat) (w : World) :
    (Op.equalIn (n + 2) t (.agg #[.int k a, .int l b]) (.agg #[.int k a', .int l b'])).run P w = .ok (a == a' && b == b') w := by
  have h0 := fun w => run_part1 (P := P) he (cs := #[.int k a, .int l b]) (off := 0) (v := .int k a) rfl w
  have h1 := fun w => run_part1 (P := P) he (cs := #[.int k a, .int l b]) (off := 1) (v := .int l b) rfl w
  have h2 := fun w => run_part1 (P := P) he (cs := #[.int k a', .int l b']) (off := 0) (v := .int k a') rfl w
  have h3 := fun w => run_part1 (P := P) he (cs := #[.int k a', .int l b']) (off := 1) (v := .int l b') rfl w
  simp [Op.equalIn, run_underlying hu, run_sizeOf hs, run_underlying he, Std.Legacy.Range.forIn_eq_forIn_range', Std.Legacy.Range.size, List.range', h0, h1, h2, h3]
  by_cases e1 : a = a' <;> by_cases e2 : b = b' <;> simp [e1, e2, Result.andThen]
theorem keyEq_cases {kk : KK} {x k' : AV} {b : Bool} (h : keyEq kk x k' = some b) :
    (∃ k a a', kk = .int ∧ x = .v (.int k a) ∧ k' = .v (.int k a') ∧ b = (a == a')) ∨ (∃ a a', kk = .str ∧ x = .v (.string a) ∧ k' = .v (.string a') ∧ b = strEq a a') ∨
      ∃ k l a c a' c', kk = .agg2 ∧ x = .agg [.v (.int k a), .v (.int l c)] ∧ k' = .agg [.v (.int k a'), .v (.int l c')] ∧ b = (a == a' && c == c') := by
  unfold keyEq at h
  split at h
  · split at h
    · rename_i e
      injection h with h
      subst e
      exact .inl ⟨_, _, _, rfl, rfl, rfl, h.symm⟩
    · cases h
  · injection h with h
    exact .inr (.inl ⟨_, _, rfl, rfl, rfl, h.symm⟩)
  · split at h
    · rename_i e
      injection h with h
      obtain ⟨e1, e2⟩ := e
      subst e1 e2
      exact .inr (.inr ⟨_, _, _, _, _, _, rfl, rfl, rfl, h.symm⟩)
    · cases h
  · cases h
theorem keyEq_val {c : Cx} {kk : KK} {x k' : AV} {y z : Value} (hv : KeyVal kk x y) (hz : R c k' z) {b : Bool} (h : keyEq kk x k' = some b) : KeyVal kk k' z ∧ (b = true ↔ z = y) := by
  rcases keyEq_cases h with ⟨k, a, a', rfl, rfl, rfl, rfl⟩ | ⟨a, a', rfl, rfl, rfl, rfl⟩ | ⟨k, l, a, e, a', e', rfl, rfl, rfl, rfl⟩
  · cases hv
    rw [hz.v_inv]
    exact ⟨.int _ _, by simp only [beq_iff_eq, Value.int.injEq, true_and]; exact eq_comm⟩
  · cases hv
    rw [hz.v_inv]
    exact ⟨.str _, by simp only [strEq_iff, Value.string.injEq]; exact eq_comm⟩
  · cases hv
    obtain ⟨vs, rfl, h'⟩ := hz.agg_inv
    obtain ⟨u, us, rfl, h1, h'⟩ := h'.cons_inv
    obtain ⟨v, us, rfl, h2, h'⟩ := h'.cons_inv
    obtain rfl := h'.nil_inv
    rw [h1.v_inv, h2.v_inv]
    refine ⟨.agg2 _ _ _ _, ?_⟩
    constructor
    · intro h
      simp only [Bool.and_eq_true, beq_iff_eq] at h
      rw [h.1, h.2]
    · intro h
      simp only [Value.agg.injEq, List.toArray_eq_toArray_eq, List.cons.injEq, Value.int.injEq, true_and, and_true] at h
      simp [h.1, h.2]
theorem keyEq_kinds {c : Cx} {kk : KK} {x k' : AV} {y z : Value} (hv : KeyVal kk x y) (hz : R c k' z) {b : Bool} (h : keyEq kk x k' = some b) {t : TypeId} (hk : keyKind P t = some kk) :
    (kk ≠ .agg2 → ∃ d, P.underlying t = some d ∧ Instr.sameNow d y z = some b) ∧ (kk = .agg2 → ∀ w : World, (Op.equal t y z).run P w = .ok b w) := by
  rcases keyEq_cases h with ⟨k, a, a', rfl, rfl, rfl, rfl⟩ | ⟨a, a', rfl, rfl, rfl, rfl⟩ | ⟨k, l, a, e, a', e', rfl, rfl, rfl, rfl⟩
  · refine ⟨fun _ => ?_, fun h => by cases h⟩
    obtain ⟨k0, hu⟩ := kind_int hk
    refine ⟨_, hu, ?_⟩
    cases hv
    rw [hz.v_inv]
    simp [Instr.sameNow]
  · refine ⟨fun _ => ?_, fun h => by cases h⟩
    refine ⟨_, kind_str hk, ?_⟩
    cases hv
    rw [hz.v_inv]
    simp only [Instr.sameNow, Option.some.injEq]
    rw [beq_toListBytes, ByteArray.toList_eq, ByteArray.toList_eq]; rfl
  · refine ⟨fun h => absurd rfl h, fun _ w => ?_⟩
    obtain ⟨t2, k0, hu, he, hs⟩ := kind_agg2 hk
    cases hv
    obtain ⟨vs, rfl, h'⟩ := hz.agg_inv
    obtain ⟨u, us, rfl, h1, h'⟩ := h'.cons_inv
    obtain ⟨v, us, rfl, h2, h'⟩ := h'.cons_inv
    obtain rfl := h'.nil_inv
    rw [h1.v_inv, h2.v_inv]
    exact run_equalIn2 hu he hs _ _ _ _ _ _ 9998 w
theorem findK_step {kk : KK} {x : AV} {e : AV × AV} {es : List (AV × AV)} {i : Nat} {r : Option Nat} (h : findK kk x (e :: es) i = some r) :
    (keyEq kk x e.1 = some true ∧ r = some i) ∨ (keyEq kk x e.1 = some false ∧ findK kk x es (i + 1) = some r) := by
  simp only [findK] at h
  split at h
  · injection h with h; exact .inl ⟨‹_›, h.symm⟩
  · exact .inr ⟨‹_›, h⟩
  · cases h
def FoundAt (ms : List MapEntry) (y : Value) (i : Nat) (r : Option Nat) (v : Option (Nat × Value)) : Prop :=
  v.map (·.1) = r ∧ ∀ j z, v = some (j, z) → i ≤ j ∧ ∃ h : j - i < ms.length, z = ms[j - i].val ∧ ms[j - i].key = y
theorem FoundAt.cons {m : MapEntry} {ms : List MapEntry} {y : Value} {i : Nat} {r : Option Nat} {v : Option (Nat × Value)} (h : FoundAt ms y (i + 1) r v) : FoundAt (m :: ms) y i r v := by
  refine ⟨h.1, fun j z hz => ?_⟩
  obtain ⟨h1, h2, h3, h4⟩ := h.2 j z hz
  refine ⟨by omega, by simp; omega, ?_⟩
  have e : j - i = (j - (i + 1)) + 1 := by omega
  simp only [e, List.getElem_cons_succ]
  exact ⟨h3, h4⟩
theorem findNow_ok {c : Cx} {kk : KK} {t : TypeId} (hk : keyKind P t = some kk) (hka : kk ≠ .agg2) {x : AV} {y : Value} (hv : KeyVal kk x y) {d : TypeDesc} (hd : P.underlying t = some d) :
    ∀ (ms : List MapEntry) (es : List (AV × AV)) (i : Nat) (r : Option Nat), ms.length = es.length → (∀ i (h : i < es.length) (h' : i < ms.length), R c es[i].1 ms[i].key) → findK kk x es i = some r →
      ∃ v, Instr.findNow d y ms i = some v ∧ FoundAt ms y i r v := by
  intro ms
  induction ms with
  | nil =>
    intro es i r hl _ hf
    have : es = [] := List.eq_nil_of_length_eq_zero hl.symm
    subst this
    simp only [findK, Option.some.injEq] at hf
    exact ⟨none, rfl, by simpa using hf, fun j z h => by cases h⟩
  | cons m ms ih =>
    intro es i r hl hr hf
    cases es with
    | nil => simp at hl
    | cons e es =>
      have hz := hr 0 (by simp) (by simp)
      simp only [List.getElem_cons_zero] at hz
      rcases findK_step hf with ⟨h1, rfl⟩ | ⟨h1, h2⟩
      · obtain ⟨d', hd', hs⟩ := (keyEq_kinds (P := P) hv hz h1 hk).1 hka
        rw [hd] at hd'; cases hd'
        refine ⟨some (i, m.val), by simp [Instr.findNow, hs], rfl, fun j z h => ?_⟩
        cases h
        refine ⟨Nat.le_refl _, by simp, ?_⟩
        simp only [Nat.sub_self, List.getElem_cons_zero, true_and]
        exact (keyEq_val hv hz h1).2.1 rfl
      · obtain ⟨d', hd', hs⟩ := (keyEq_kinds (P := P) hv hz h1 hk).1 hka
        rw [hd] at hd'; cases hd'
        obtain ⟨v, g1, g2⟩ := ih es (i + 1) r (by simpa using hl) (fun j h h' => hr (j + 1) (by simpa using h) (by simpa using h')) h2
        exact ⟨v, by simp [Instr.findNow, hs, g1], g2.cons⟩
theorem findAsking_ok {c : Cx} {t : TypeId} (hk : keyKind P t = some .agg2) {x : AV} {y : Value} (hv : KeyVal .agg2 x y) (w : World) :
    ∀ (ms : List MapEntry) (es : List (AV × AV)) (i : Nat) (r : Option Nat), ms.length = es.length → (∀ i (h : i < es.length) (h' : i < ms.length), R c es[i].1 ms[i].key) → findK .agg2 x es i = some r →
      ∃ v, (Instr.findAsking t y ms i).run P w = .ok v w ∧ FoundAt ms y i r v := by
  intro ms
  induction ms with
  | nil =>
    intro es i r hl _ hf
    have : es = [] := List.eq_nil_of_length_eq_zero hl.symm
    subst this
    simp only [findK, Option.some.injEq] at hf
    exact ⟨none, rfl, by simpa using hf, fun j z h => by cases h⟩
  | cons m ms ih =>
    intro es i r hl hr hf
    cases es with
    | nil => simp at hl
    | cons e es =>
      have hz := hr 0 (by simp) (by simp)
      simp only [List.getElem_cons_zero] at hz
      rcases findK_step hf with ⟨h1, rfl⟩ | ⟨h1, h2⟩
      · have hs := (keyEq_kinds (P := P) hv hz h1 hk).2 rfl w
        refine ⟨some (i, m.val), by simp [Instr.findAsking, hs], rfl, fun j z h => ?_⟩
        cases h
        refine ⟨Nat.le_refl _, by simp, ?_⟩
        simp only [Nat.sub_self, List.getElem_cons_zero, true_and]
        exact (keyEq_val hv hz h1).2.1 rfl
      · have hs := (keyEq_kinds (P := P) hv hz h1 hk).2 rfl w
        obtain ⟨v, g1, g2⟩ := ih es (i + 1) r (by simpa using hl) (fun j h h' => hr (j + 1) (by simpa using h) (by simpa using h')) h2
        exact ⟨v, by simp [Instr.findAsking, hs, g1], g2.cons⟩
theorem run_findKey {c : Cx} {kk : KK} {t : TypeId} (hk : keyKind P t = some kk) {x : AV} {y : Value} (hv : KeyVal kk x y) {es : List (AV × AV)} {ms : List MapEntry}
    (hl : ms.length = es.length) (hr : ∀ i (h : i < es.length) (h' : i < ms.length), R c es[i].1 ms[i].key) {r : Option Nat} (hf : findK kk x es 0 = some r) (w : World) :
    ∃ v, (Instr.findKey t y ms).run P w = .ok v w ∧ FoundAt ms y 0 r v := by
  by_cases hka : kk = .agg2
  · subst hka
    obtain ⟨e, k0, hu, _⟩ := kind_agg2 hk
    cases ms with
    | nil =>
      have : es = [] := List.eq_nil_of_length_eq_zero hl.symm
      subst this
      simp only [findK, Option.some.injEq] at hf
      exact ⟨none, by simp [Instr.findKey, run_underlying hu, Instr.findNow], by simpa using hf, fun j z h => by cases h⟩
    | cons m ms =>
      obtain ⟨v, h1, h2⟩ := findAsking_ok hk hv w (m :: ms) es 0 r hl hr hf
      refine ⟨v, ?_, h2⟩
      have : Instr.findNow (.array 2 e) y (m :: ms) 0 = none := by simp [Instr.findNow, Instr.sameNow]
      simp [Instr.findKey, run_underlying hu, this, h1]
  · obtain ⟨d, hd⟩ : ∃ d, P.underlying t = some d := by
      cases kk with
      | int => obtain ⟨k, h⟩ := kind_int hk; exact ⟨_, h⟩
      | str => exact ⟨_, kind_str hk⟩
      | agg2 => exact absurd rfl hka
    obtain ⟨v, h1, h2⟩ := findNow_ok hk hka hv hd ms es 0 r hl hr hf
    exact ⟨v, by simp [Instr.findKey, run_underlying hd, h1], h2⟩
theorem sameBits_key {kk : KK} {x : AV} {y : Value} (hv : KeyVal kk x y) : Instr.sameBits 10000 y y = true := by
  have : ∀ n, Instr.sameBits (n + 2) y y = true := by
    intro n
    cases hv <;> simp [Instr.sameBits, beq_toListBytes]
  exact this 9998
section
variable {o : Oper} {t : List AV} {s : AState}
theorem R.m_inv {c : Cx} {b : Nat} {y : Value} (h : R c (.m b) y) : y = .map (some (c.mu b)) ∧ b < c.n := by cases h; exact ⟨rfl, ‹_›⟩
theorem run_getObj_map {w : World} {r : Nat} {ms : Array MapEntry} {clk : Nat} (h : w.heap[r]? = some (.map ms clk)) : (getObj r).run P w = .ok (.map ms clk) w := by simp [getObj, Sem.run, h]
theorem run_setObj_map {w : World} {r : Nat} {ms : Array MapEntry} {clk : Nat} (o : Obj) (h : w.heap[r]? = some (.map ms clk)) : (setObj r o).run P w = .ok () (w.putObj r o) := by simp [setObj, Sem.run, h, World.putObj]
theorem found_get {es : List (AV × AV)} {ms : List MapEntry} {y : Value} {r : Option Nat} {v : Option (Nat × Value)} (h : FoundAt ms y 0 r v) : (r = none ∧ v = none) ∨ ∃ i, ∃ h : i < ms.length, r = some i ∧ v = some (i, ms[i].val) ∧ ms[i].key = y := by
  cases v with
  | none => exact .inl ⟨by simpa using h.1.symm, rfl⟩
  | some p =>
    obtain ⟨i, z⟩ := p
    obtain ⟨_, h2, h3, h4⟩ := h.2 i z rfl
    simp only [Nat.sub_zero] at h2 h3 h4
    exact .inr ⟨i, h2, by simpa using h.1.symm, by rw [h3], h4⟩
theorem ok_lookup {ty key e : TypeId} {m k : Operand} {m' k' : Arg} {ok : Bool} {kk : KK} {z : Value} (ho : o.op = .lookup ty m k ok) (h1 : cArg m = some m') (h2 : cArg k = some k') (hu : P.underlying ty = some (.map key e)) (hk : keyKind P key = some kk) (hz : zeroOf P e = some z)
    {b : Nat} (hm : m'.ev t = .m b) {es : List (AV × AV)} (hg : s.get b = .map es) (hko : keyOk kk (k'.ev t) = true) {r : Option Nat} (hf : findK kk (k'.ev t) es 0 = some r) :
    OpOk cmp P o t s (match r with | some i => (if ok then .tup [(es.getD i (.any, .any)).2, .v (.bool true)] else (es.getD i (.any, .any)).2) | none => if ok then .tup [ofConst z, .v (.bool false)] else ofConst z) s :=
  .pure fun c w ρ hr ht => by
    have e1 := ht _ _ h1
    rw [hm] at e1
    obtain ⟨hy, hb⟩ := e1.m_inv
    have hob := hr.obj b (hr.n ▸ hb)
    rw [hg] at hob
    obtain ⟨ms, clk, k1, k2⟩ := hob
    have hv := keyVal_of (ht _ _ h2) hko
    obtain ⟨v, g1, g2⟩ := run_findKey hk hv k2.1 (fun i h h' => (k2.2.1 i h h').1) hf w
    have hrun : (Instr.lookup ty (ρ m) (ρ k) ok).run P w = .ok (if ok then .tuple #[((v.map (·.2)).getD z), .bool v.isSome] else (v.map (·.2)).getD z) w := by
      cases v with
      | none => simp [Instr.lookup, run_underlying hu, hy, run_getObj_map k1, run_checkKey hk hv, g1, run_zeroValue hz]
      | some p => simp [Instr.lookup, run_underlying hu, hy, run_getObj_map k1, run_checkKey hk hv, g1]
    refine ⟨_, by simp only [execOp, ho, Sem.run_bind, hrun, Result.andThen_ok, Sem.run_pure]; rfl, ?_⟩
    rcases found_get (es := es) g2 with ⟨rfl, rfl⟩ | ⟨i, hi, rfl, rfl, _⟩
    · cases ok
      · exact R_ofConst c z
      · exact R.tup' (RL.cons (R_ofConst c z) (RL.cons (.v _) (RL.nil c)))
    · have hi' : i < es.length := by rw [← k2.1]; exact hi
      have hR := (k2.2.1 i hi' hi).2
      have hge : es.getD i (AV.any, AV.any) = es[i] := by rw [List.getD_eq_getElem?_getD, List.getElem?_eq_getElem hi']; rfl
      cases ok
      · simp only [Bool.false_eq_true, if_false, hge]; exact hR
      · simp only [if_true, hge]; exact R.tup' (RL.cons hR (RL.cons (.v _) (RL.nil c)))
theorem Rel.updMap {c : Cx} {w : World} (hr : Rel cmp c s w) {b : Nat} {es es' : List (AV × AV)} (hg : s.get b = .map es) {ms ms' : Array MapEntry} {clk clk' : Nat} (k1 : w.heap[c.mu b]? = some (.map ms clk)) (h : EntryOk c ms'.toList es' clk') :
    Ext c s w c (s.set b (.map es')) (w.putObj (c.mu b) (.map ms' clk')) ∧ Rel cmp c (s.set b (.map es')) (w.putObj (c.mu b) (.map ms' clk')) := by
  have hb : b < s.n := AState.lt_of_get hg (by simp)
  have harr : c.arr (c.mu b) = [] := by
    by_cases h0 : c.arr (c.mu b) = []
    · exact h0
    · obtain ⟨vs, e, fz, m1, _⟩ := hr.arr _ h0
      rw [k1] at m1; cases m1
  have := hr.upd (w' := w.putObj (c.mu b) (.map ms' clk')) hb (by rw [hg]; simp) ⟨rfl, rfl, rfl⟩ (by simp) (fun B hB => World.putObj_heap_other hB) (.map es') ⟨ms', clk', World.putObj_heap_same (lt_of_heap k1), h⟩ harr
  exact ⟨this.2, this.1⟩
theorem EntryOk.nodup_modify {ms : List MapEntry} {i : Nat} {f : MapEntry → MapEntry} (hf : ∀ m, (f m).born = m.born) : (ms.modify i f).map (·.born) = ms.map (·.born) := by
  apply List.ext_getElem
  · simp
  · intro j h1 h2
    simp only [List.getElem_map, List.getElem_modify]
    split
    · rw [hf]
    · rfl
theorem ok_mapset {ty key e : TypeId} {m k x : Operand} {m' k' x' : Arg} {kk : KK} (ho : o.op = .mapUpdate ty m k x ∨ o.op = .insert ty m k x) (h1 : cArg m = some m') (h2 : cArg k = some k') (h3 : cArg x = some x') (hu : P.underlying ty = some (.map key e)) (hk : keyKind P key = some kk)
    {b : Nat} (hm : m'.ev t = .m b) {es : List (AV × AV)} (hg : s.get b = .map es) (hko : keyOk kk (k'.ev t) = true) {r : Option Nat} (hf : findK kk (k'.ev t) es 0 = some r) :
    OpOk cmp P o t s .any (s.set b (.map (match r with | some i => es.set i (k'.ev t, x'.ev t) | none => es ++ [(k'.ev t, x'.ev t)]))) := by
  intro c w ρ hr ht
  have e1 := ht _ _ h1
  rw [hm] at e1
  obtain ⟨hy, hb⟩ := e1.m_inv
  have hob := hr.obj b (hr.n ▸ hb)
  rw [hg] at hob
  obtain ⟨ms, clk, k1, k2⟩ := hob
  have hv := keyVal_of (ht _ _ h2) hko
  have hRk := ht _ _ h2
  have hRx := ht _ _ h3
  obtain ⟨v, g1, g2⟩ := run_findKey hk hv k2.1 (fun i h h' => (k2.2.1 i h h').1) hf w
  have key' : ∀ ms' clk', (Instr.mapUpdate ty (ρ m) (ρ k) (ρ x)).run P w = .ok () (w.putObj (c.mu b) (.map ms' clk')) → (execOp ρ o).run P w = .ok .skip (w.putObj (c.mu b) (.map ms' clk')) := by
    intro ms' clk' h
    rcases ho with ho | ho <;> simp only [execOp, ho, Sem.run_bind, h, Result.andThen_ok, Sem.run_pure]
  rcases found_get (es := es) g2 with ⟨rfl, rfl⟩ | ⟨i, hi, rfl, rfl, hkey⟩
  · have hE : EntryOk c (ms.push { key := ρ k, val := ρ x, born := clk }).toList (es ++ [(k'.ev t, x'.ev t)]) (clk + 1) := by
      obtain ⟨q1, q2, q3, q4⟩ := k2
      refine ⟨by simp at q1 ⊢; omega, fun j hj hj' => ?_, fun m hm => ?_, ?_⟩
      · simp only [Array.toList_push] at hj' ⊢
        by_cases h : j < es.length
        · rw [List.getElem_append_left h, List.getElem_append_left (by omega)]; exact q2 j h (by omega)
        · have : j = es.length := by simp at hj; omega
          subst this
          rw [List.getElem_append_right (by omega), List.getElem_append_right (by omega)]
          simp only [q1, Nat.sub_self, List.getElem_cons_zero]
          exact ⟨hRk, hRx⟩
      · simp only [Array.toList_push, List.mem_append, List.mem_singleton] at hm
        rcases hm with hm | rfl
        · exact Nat.lt_succ_of_lt (q3 m hm)
        · exact Nat.lt_succ_self _
      · simp only [Array.toList_push, List.map_append, List.map_cons, List.map_nil]
        rw [List.nodup_append]
        refine ⟨q4, by simp, fun a ha b hb => ?_⟩
        obtain ⟨m, hm, rfl⟩ := List.mem_map.1 ha
        simp only [List.mem_singleton] at hb
        subst hb
        exact Nat.ne_of_lt (q3 m hm)
    obtain ⟨g3, g4⟩ := hr.updMap hg k1 hE
    refine ⟨undef, _, c, .inr ⟨key' _ _ ?_, rfl⟩, g3, g4, .any _⟩
    simp [Instr.mapUpdate, run_underlying hu, hy, run_getObj_map k1, run_checkKey hk hv, g1, run_setObj_map _ k1]
  · have hi' : i < ms.size := by rw [← Array.length_toList]; exact hi
    have hE : EntryOk c (ms.modify i fun e => { e with key := ρ k, val := ρ x }).toList (es.set i (k'.ev t, x'.ev t)) clk := by
      obtain ⟨q1, q2, q3, q4⟩ := k2
      rw [Array.toList_modify]
      refine ⟨by simpa using q1, fun j hj hj' => ?_, fun m hm => ?_, ?_⟩
      · simp only [List.length_modify, List.length_set] at hj hj'
        rw [List.getElem_set, List.getElem_modify]
        by_cases h : i = j
        · simp only [h, if_true]; exact ⟨hRk, hRx⟩
        · simp only [h, if_false]; exact q2 j hj hj'
      · obtain ⟨j, hj, rfl⟩ := List.mem_iff_getElem.1 hm
        rw [List.getElem_modify]
        simp only [List.length_modify] at hj
        split
        · exact q3 ms.toList[j] (List.getElem_mem hj)
        · exact q3 ms.toList[j] (List.getElem_mem hj)
      · rw [EntryOk.nodup_modify (f := fun e => { e with key := ρ k, val := ρ x }) (fun _ => rfl)]; exact q4
    obtain ⟨g3, g4⟩ := hr.updMap hg k1 hE
    refine ⟨undef, _, c, .inr ⟨key' _ _ ?_, rfl⟩, g3, g4, .any _⟩
    have hkey' : (ms[i]'hi').key = ρ k := by simpa using hkey
    simp [Instr.mapUpdate, run_underlying hu, hy, run_getObj_map k1, run_checkKey hk hv, g1, hi', hkey', Instr.keyThatStays, sameBits_key hv, run_setObj_map _ k1]
theorem ok_mapdel {cl : Call} {ty t2 key e : TypeId} {m k : Operand} {m' k' : Arg} {kk : KK} (ho : o.op = .call cl) (hc : cl.callee = .builtin .delete) (hxs : cl.args = #[m, k]) (hts : cl.argTypes = #[ty, t2]) (h1 : cArg m = some m') (h2 : cArg k = some k')
    (hu : P.underlying ty = some (.map key e)) (hk : keyKind P key = some kk) {b : Nat} (hm : m'.ev t = .m b) {es : List (AV × AV)} (hg : s.get b = .map es) (hko : keyOk kk (k'.ev t) = true) {r : Option Nat} (hf : findK kk (k'.ev t) es 0 = some r) :
    OpOk cmp P o t s (.tup []) (match r with | some i => s.set b (.map (es.eraseIdx i)) | none => s) := by
  intro c w ρ hr ht
  have e1 := ht _ _ h1
  rw [hm] at e1
  obtain ⟨hy, hb⟩ := e1.m_inv
  have hob := hr.obj b (hr.n ▸ hb)
  rw [hg] at hob
  obtain ⟨ms, clk, k1, k2⟩ := hob
  have hv := keyVal_of (ht _ _ h2) hko
  obtain ⟨v, g1, g2⟩ := run_findKey hk hv k2.1 (fun i h h' => (k2.2.1 i h h').1) hf w
  have key' : ∀ w', (Builtin.delete_ #[ty, t2] o.type #[ρ m, ρ k]).run P w = .ok (.tuple #[]) w' → (execOp ρ o).run P w = .ok (.value (.tuple #[])) w' := by
    intro w' h
    simp [execOp, ho, resolve, hc, hxs, hts, invoke, builtin, h]
  rcases found_get (es := es) g2 with ⟨rfl, rfl⟩ | ⟨i, hi, rfl, rfl, hkey⟩
  · have hE : EntryOk c ms.toList es clk := k2
    have hsame : (w.putObj (c.mu b) (.map ms clk)).heap = w.heap := by
      apply Array.ext_getElem?
      intro j
      by_cases h : j = c.mu b
      · subst h; rw [World.putObj_heap_same (lt_of_heap k1), k1]
      · rw [World.putObj_heap_other h]
    obtain ⟨g3, g4⟩ := hr.heap_eq hsame ⟨rfl, rfl, rfl⟩
    refine ⟨.tuple #[], _, c, .inl (key' _ ?_), g4, g3, R.tup' (RL.nil c)⟩
    simp [Builtin.delete_, run_underlying hu, hy, run_getObj_map k1, run_checkKey hk hv, g1, run_setObj_map _ k1]
  · have hE : EntryOk c (ms.eraseIdxIfInBounds i).toList (es.eraseIdx i) clk := by
      obtain ⟨q1, q2, q3, q4⟩ := k2
      have e0 : (ms.eraseIdxIfInBounds i).toList = ms.toList.eraseIdx i := by
        have hi' : i < ms.size := by rw [← Array.length_toList]; exact hi
        simp [Array.eraseIdxIfInBounds, hi']
      rw [e0]
      refine ⟨by rw [List.length_eraseIdx, List.length_eraseIdx, q1], fun j hj hj' => ?_, fun m hm => q3 m (List.mem_of_mem_eraseIdx hm), ?_⟩
      · rw [List.getElem_eraseIdx, List.getElem_eraseIdx]
        have hl1 : es.length ≤ (es.eraseIdx i).length + 1 := by rw [List.length_eraseIdx]; split <;> omega
        rw [List.length_eraseIdx] at hj hj'
        split
        · exact q2 j (by split at hj <;> omega) (by split at hj' <;> omega)
        · exact q2 (j + 1) (by split at hj <;> omega) (by split at hj' <;> omega)
      · exact q4.sublist ((List.eraseIdx_sublist _ _).map _)
    obtain ⟨g3, g4⟩ := hr.updMap hg k1 hE
    refine ⟨.tuple #[], _, c, .inl (key' _ ?_), g3, g4, R.tup' (RL.nil c)⟩
    simp [Builtin.delete_, run_underlying hu, hy, run_getObj_map k1, run_checkKey hk hv, g1, run_setObj_map _ k1]
theorem ok_mkmap {ty : TypeId} (ho : o.op = .makeMap ty none) : OpOk cmp P o t s (.m s.n) (s.alloc (.map [])) := by
  intro c w ρ hr ht
  have := hr.alloc (.map #[] 0) (.map []) 0 0 ⟨#[], 0, by rw [Cx.bind_mu]; exact heap_push_new w _, rfl, fun i h => by simp at h, fun m hm => by simp at hm, by simp⟩ (by simp)
  refine ⟨.map (some w.heap.size), _, _, .inl ?_, this.2, this.1, ?_⟩
  · simp [execOp, ho, Instr.makeMap]
  · have := R.m (c := c.bind w.heap.size 0 0) c.n (by simp)
    rwa [Cx.bind_mu, ← hr.n] at this
end
end Go.Ab
end
section
namespace Go.Ab
open Go.RowKit
set_option linter.unusedVariables false
set_option linter.unusedSimpArgs false
variable {cmp : Code → Option ACode} {P : Program}
def valsEq : List SKd → List Value → List Value → Option Bool
  | [], [], [] => some true
  | k :: ks, a :: xs, b :: ys => match litEq k a b, valsEq ks xs ys with
    | some r, some r' => some (r && r')
    | _, _ => none
  | _, _, _ => none
theorem cellsEq_vals {c : Cx} : ∀ {ks : List SKd} {xs ys : List AV} {us vs : List Value} {r : Bool}, RL c xs us → RL c ys vs → cellsEq ks xs ys = some r → valsEq ks us vs = some r := by
  intro ks
  induction ks with
  | nil =>
    intro xs ys us vs r h1 h2 h
    cases xs <;> cases ys <;> try (simp [cellsEq] at h; done)
    obtain rfl := h1.nil_inv; obtain rfl := h2.nil_inv; simpa [cellsEq, valsEq] using h
  | cons k ks ih =>
    intro xs ys us vs r h1 h2 h
    cases xs with
    | nil => simp [cellsEq] at h
    | cons x xs =>
      cases ys with
      | nil => cases x <;> simp [cellsEq] at h
      | cons y ys =>
        obtain ⟨u, us, rfl, h1, h1'⟩ := h1.cons_inv
        obtain ⟨v, vs, rfl, h2, h2'⟩ := h2.cons_inv
        cases x <;> try (simp [cellsEq] at h; done)
        cases y <;> try (simp [cellsEq] at h; done)
        simp only [cellsEq] at h
        split at h
        · rename_i e1 e2
          injection h with h
          rw [h1.v_inv, h2.v_inv, valsEq, e1, ih h1' h2' e2, ← h]
        · cases h
theorem valsEq_len : ∀ {ks : List SKd} {xs ys : List Value} {r : Bool}, valsEq ks xs ys = some r → xs.length = ks.length ∧ ys.length = ks.length := by
  intro ks
  induction ks with
  | nil => intro xs ys r h; cases xs <;> cases ys <;> simp [valsEq] at h ⊢
  | cons k ks ih =>
    intro xs ys r h
    cases xs <;> cases ys <;> try (simp [valsEq] at h; done)
    simp only [valsEq] at h
    split at h
    · rename_i e1 e2
      have := ih e2
      simp [this]
    · cases h
theorem valsEq_append : ∀ (ks ks' : List SKd) (xs ys : List Value) (r : Bool), valsEq (ks ++ ks') xs ys = some r →
    ∃ r1 r2, valsEq ks (xs.take ks.length) (ys.take ks.length) = some r1 ∧ valsEq ks' (xs.drop ks.length) (ys.drop ks.length) = some r2 ∧ r = (r1 && r2) := by
  intro ks
  induction ks with
  | nil => intro ks' xs ys r h; exact ⟨true, r, by simp [valsEq], by simpa using h, by simp⟩
  | cons k ks ih =>
    intro ks' xs ys r h
    cases xs <;> cases ys <;> try (simp [valsEq] at h; done)
    simp only [List.cons_append, valsEq] at h
    split at h
    · rename_i r1 r2 e1 e2
      injection h with h
      obtain ⟨s1, s2, g1, g2, g3⟩ := ih ks' _ _ r2 e2
      refine ⟨r1 && s1, s2, ?_, by simpa using g2, by rw [← h, g3, Bool.and_assoc]⟩
      simp [valsEq, e1, g1]
    · cases h
def asT (ag : Bool) (xs : List Value) : Value := if ag then .agg xs.toArray else xs.getD 0 undef
theorem eqFlat_agg {d : Nat} {t : TypeId} {ks : List SKd} (h : eqFlat P d t = some ks) : ∃ ag, aggOf P t = some ag ∧ (ag = true ∨ ks.length = 1) := by
  cases d with
  | zero => simp [eqFlat] at h
  | succ d =>
    simp only [eqFlat] at h
    split at h
    · rename_i hu
      split at h
      · injection h with h; subst h; exact ⟨false, by simp [aggOf, hu], .inr rfl⟩
      · cases h
    · rename_i hu
      split at h
      · injection h with h; subst h; exact ⟨false, by simp [aggOf, hu], .inr rfl⟩
      · cases h
    · rename_i hu
      split at h
      · injection h with h; subst h; exact ⟨false, by simp [aggOf, hu], .inr rfl⟩
      · cases h
    · rename_i hu
      exact ⟨true, by simp [aggOf, hu], .inl rfl⟩
    · cases h
theorem eqFlat_ok : ∀ (d : Nat) (t : TypeId) (ks : List SKd), eqFlat P d t = some ks → ∀ (n : Nat) (w : World) (xs ys : List Value) (r : Bool) (ag : Bool), aggOf P t = some ag → valsEq ks xs ys = some r →
    (Op.equalIn (d + n) t (asT ag xs) (asT ag ys)).run P w = .ok r w := by
  intro d
  induction d with
  | zero => intro t ks h; simp [eqFlat] at h
  | succ d ih =>
    intro t ks h n w xs ys r ag hag hv
    have hd : d + 1 + n = (d + n) + 1 := by omega
    rw [hd]
    simp only [eqFlat] at h
    split at h
    · rename_i k0 hu
      split at h
      · injection h with h; subst h
        have : ag = false := by simp [aggOf, hu] at hag; exact hag
        subst this
        obtain ⟨l1, l2⟩ := valsEq_len hv
        match xs, ys, l1, l2 with
        | [a], [b], _, _ =>
          simp only [valsEq] at hv
          cases a <;> try (simp [litEq] at hv; done)
          cases b <;> try (simp [litEq] at hv; done)
          simp only [litEq] at hv
          split at hv
          · rename_i r1 r2 e1 e2
            split at e1
            · rename_i e3
              injection e1 with e1; injection e2 with e2; injection hv with hv
              subst e1 e2 hv e3
              simp only [asT, Bool.false_eq_true, if_false, Bool.and_true]
              exact run_equalIn_int w _ t _ _ _ _ hu
            · cases e1
          · cases hv
      · cases h
    · rename_i hu
      split at h
      · injection h with h; subst h
        have : ag = false := by simp [aggOf, hu] at hag; exact hag
        subst this
        obtain ⟨l1, l2⟩ := valsEq_len hv
        match xs, ys, l1, l2 with
        | [a], [b], _, _ =>
          simp only [valsEq] at hv
          cases a <;> try (simp [litEq] at hv; done)
          cases b <;> try (simp [litEq] at hv; done)
          simp only [litEq, Option.some.injEq, Bool.and_true] at hv
          subst hv
          exact run_equalIn_bool w _ t _ _ hu
      · cases h
    · rename_i hu
      split at h
      · injection h with h; subst h
        have : ag = false := by simp [aggOf, hu] at hag; exact hag
        subst this
        obtain ⟨l1, l2⟩ := valsEq_len hv
        match xs, ys, l1, l2 with
        | [a], [b], _, _ =>
          simp only [valsEq] at hv
          cases a <;> try (simp [litEq] at hv; done)
          cases b <;> try (simp [litEq] at hv; done)
          simp only [litEq, Option.some.injEq, Bool.and_true] at hv
          subst hv
          simp only [asT, Bool.false_eq_true, if_false, List.getD_cons_zero, strEq]
          rw [run_equalIn_string w (d + n) t _ _ hu, ByteArray.toList_eq, ByteArray.toList_eq]
      · cases h
    · rename_i fs hu
      split at h
      · cases h
      · rename_i hst
        have : ag = true := by simp [aggOf, hu] at hag; exact hag
        subst this
        have hf : P.fieldsOf t = fs := by simp [Program.fieldsOf, hu]
        simp only [asT, if_true]
        rw [run_equalIn_struct w _ t _ _ (by rw [hf]; exact hu) (by simpa using hst), hf]
        have key : ∀ (l : List Field) (acc ks : List SKd), l.foldlM (fun (acc : List SKd) (f : Field) => match eqFlat P d f.type with
            | some ks => if f.name ≠ "_" ∧ f.offset = acc.length ∧ kOf P f.type = some ks.length then some (acc ++ ks) else none
            | none => none) acc = some ks → ∃ ks', ks = acc ++ ks' ∧ ∀ (r : Bool), valsEq ks' (xs.drop acc.length) (ys.drop acc.length) = some r → acc.length ≤ xs.length → acc.length ≤ ys.length →
              (Op.eqFields (d + n) xs.toArray ys.toArray l).run P w = .ok r w := by
          intro l
          induction l with
          | nil =>
            intro acc ks h
            simp at h
            subst h
            refine ⟨[], by simp, fun r hr _ _ => ?_⟩
            obtain ⟨l1, l2⟩ := valsEq_len hr
            rw [List.eq_nil_of_length_eq_zero l1, List.eq_nil_of_length_eq_zero l2] at hr
            simp only [valsEq, Option.some.injEq] at hr
            subst hr
            simp [Op.eqFields]
          | cons f l ihl =>
            intro acc ks h
            simp only [List.foldlM_cons, bind, Option.bind_eq_some_iff] at h
            obtain ⟨acc', h1, h2⟩ := h
            split at h1
            · rename_i kf hkf
              split at h1
              · rename_i hc
                obtain ⟨hname, hoff, hsz⟩ := hc
                injection h1 with h1
                subst h1
                obtain ⟨ks'', rfl, hks⟩ := ihl _ _ h2
                refine ⟨kf ++ ks'', by simp, fun r hr hl1 hl2 => ?_⟩
                obtain ⟨r1, r2, g1, g2, rfl⟩ := valsEq_append kf ks'' _ _ r hr
                obtain ⟨agf, ha, hak⟩ := eqFlat_agg hkf
                obtain ⟨m1, m2⟩ := valsEq_len hr
                simp only [List.length_drop, List.length_append] at m1 m2
                have p1 := run_part (P := P) ha hsz hak (us := xs) (off := f.offset) (by omega) w
                have p2 := run_part (P := P) ha hsz hak (us := ys) (off := f.offset) (by omega) w
                have hv1 : ∀ zs : List Value, (if agf = true then Value.agg ((zs.drop f.offset).take kf.length).toArray else zs.getD f.offset undef) = asT agf ((zs.drop acc.length).take kf.length) := by
                  intro zs
                  rw [hoff]
                  cases agf with
                  | true => simp [asT]
                  | false =>
                    have : kf.length = 1 := by simpa using hak
                    simp only [Bool.false_eq_true, if_false, asT, this]
                    simp [List.getD_eq_getElem?_getD, List.getElem?_take]
                have heq := ih f.type kf hkf n w _ _ r1 agf ha g1
                have hrest := hks r2 (by simpa [Nat.add_comm, List.drop_drop] using g2) (by simp; omega) (by simp; omega)
                simp only [Op.eqFields]
                rw [if_pos hname]
                simp only [Sem.run_bind, p1, p2, Result.andThen_ok, hv1, heq]
                cases r1
                · simp
                · simpa using hrest
              · cases h1
            · cases h1
        obtain ⟨ks', e, hk⟩ := key fs.toList [] ks h
        simp only [List.nil_append] at e
        subst e
        exact hk r (by simpa using hv) (by simp) (by simp)
    · cases h
section
variable {o : Oper} {t : List AV} {s : AState}
theorem eqGuard_flat {ty : TypeId} {op : BinOp} {x y : Operand} {a b : Array Value} (h : P.eqGuardType P.depth ty = false) (w : World) : (eqGuard op ty x y (.agg a) (.agg b)).run P w = .ok () w := by
  unfold eqGuard
  split <;> simp [h]
theorem ok_eqa_agg {neg : Bool} {ty ty2 : TypeId} {x y : Operand} {x' y' : Arg} {ks : List SKd} (ho : o.op = .binOp (if neg then .neq else .eql) ty x y ty2) (h1 : cArg x = some x') (h2 : cArg y = some y') {fs : Array Field} (hu : P.underlying ty = some (.struct fs))
    (hf : eqFlat P 10 ty = some ks) (hg : P.eqGuardType P.depth ty = false) {xs ys : List AV} (hx : x'.ev t = .agg xs) (hy : y'.ev t = .agg ys) {r : Bool} (hr : cellsEq ks xs ys = some r) :
    OpOk cmp P o t s (.v (.bool (if neg then !r else r))) s :=
  .pure fun c w ρ _ ht => by
    have e1 := ht _ _ h1
    have e2 := ht _ _ h2
    rw [hx] at e1
    rw [hy] at e2
    obtain ⟨us, hus, g1⟩ := e1.agg_inv
    obtain ⟨vs, hvs, g2⟩ := e2.agg_inv
    have hv := cellsEq_vals g1 g2 hr
    have hag : aggOf P ty = some true := by simp [aggOf, hu]
    have heq := eqFlat_ok (P := P) 10 ty ks hf 9990 w us vs r true hag hv
    simp only [asT, if_true] at heq
    have heq' : (Op.equal ty (.agg us.toArray) (.agg vs.toArray)).run P w = .ok r w := heq
    refine ⟨.bool (if neg then !r else r), ?_, .v _⟩
    cases neg
    · simp only [Bool.false_eq_true, if_false] at ho ⊢
      simp only [execOp, ho, hus, hvs, Sem.run_bind, eqGuard_flat hg, Result.andThen_ok, binOp, heq', Sem.run_pure]
    · simp only [if_true] at ho ⊢
      simp only [execOp, ho, hus, hvs, Sem.run_bind, eqGuard_flat hg, Result.andThen_ok, binOp, heq', Sem.run_pure]
theorem ok_eqa_bool {neg : Bool} {ty ty2 : TypeId} {x y : Operand} {x' y' : Arg} (ho : o.op = .binOp (if neg then .neq else .eql) ty x y ty2) (h1 : cArg x = some x') (h2 : cArg y = some y') (hu : P.underlying ty = some .bool)
    {a b : Bool} (hx : x'.ev t = .v (.bool a)) (hy : y'.ev t = .v (.bool b)) : OpOk cmp P o t s (.v (.bool (if neg then !(a == b) else (a == b)))) s :=
  .pure fun c w ρ _ ht => by
    have e1 := ht _ _ h1
    have e2 := ht _ _ h2
    rw [hx] at e1
    rw [hy] at e2
    have e1 := e1.v_inv
    have e2 := e2.v_inv
    refine ⟨.bool (if neg then !(a == b) else (a == b)), ?_, .v _⟩
    cases neg
    · simp only [Bool.false_eq_true, if_false] at ho ⊢
      simp only [execOp, ho, e1, e2, Sem.run_bind, eqGuard_scalar (a := .bool a) (b := .bool b) (.inl (by simp)) (.inl (fun cs => by simp)), Result.andThen_ok, run_eql_bool w ty _ _ hu, Sem.run_pure]
    · simp only [if_true] at ho ⊢
      simp only [execOp, ho, e1, e2, Sem.run_bind, eqGuard_scalar (a := .bool a) (b := .bool b) (.inl (by simp)) (.inl (fun cs => by simp)), Result.andThen_ok, run_neq_bool w ty _ _ hu, Sem.run_pure]
theorem ok_eqa_ptr {neg : Bool} {ty ty2 e : TypeId} {x y : Operand} {x' y' : Arg} (ho : o.op = .binOp (if neg then .neq else .eql) ty x y ty2) (h1 : cArg x = some x') (h2 : cArg y = some y') (hu : P.underlying ty = some (.pointer e))
    {r : Bool} (hr : eqAV .ptr (x'.ev t) (y'.ev t) = some r) : OpOk cmp P o t s (.v (.bool (if neg then !r else r))) s :=
  .pure fun c w ρ _ ht => by
    have e1 := ht _ _ h1
    have e2 := ht _ _ h2
    have hcase : ∃ a b : Option Addr, ρ x = .pointer a ∧ ρ y = .pointer b ∧ ((a = none ∧ r = b.isNone) ∨ ((∃ a', a = some a') ∧ b = none ∧ r = false)) := by
      generalize x'.ev t = u at e1 hr
      generalize y'.ev t = v at e2 hr
      unfold eqAV at hr
      split at hr
      · contradiction
      · contradiction
      · injection hr with hr
        exact ⟨none, none, e1.v_inv, e2.v_inv, .inl ⟨rfl, by simp [← hr]⟩⟩
      · injection hr with hr
        exact ⟨none, _, e1.v_inv, e2.p_inv.1, .inl ⟨rfl, by simp [← hr]⟩⟩
      · injection hr with hr
        exact ⟨_, none, e1.p_inv.1, e2.v_inv, .inr ⟨⟨_, rfl⟩, rfl, hr.symm⟩⟩
      · cases hr
    obtain ⟨a, b, g1, g2, g3⟩ := hcase
    have heq : (Op.equal ty (.pointer a) (.pointer b)).run P w = .ok r w := by
      have : ∀ n, (Op.equalIn (n + 1) ty (.pointer a) (.pointer b)).run P w = .ok r w := by
        intro n
        rcases g3 with ⟨rfl, rfl⟩ | ⟨⟨a', rfl⟩, rfl, rfl⟩
        · simp [Op.equalIn, run_underlying hu]
        · simp [Op.equalIn, run_underlying hu]
      exact this 9999
    refine ⟨.bool (if neg then !r else r), ?_, .v _⟩
    have hgd := fun op => eqGuard_scalar (P := P) (op := op) (ty := ty) (x := x) (y := y) (a := .pointer a) (b := .pointer b) (.inl (by simp)) (.inl (fun cs => by simp)) w
    cases neg
    · simp only [Bool.false_eq_true, if_false] at ho ⊢
      simp only [execOp, ho, g1, g2, Sem.run_bind, hgd, Result.andThen_ok, binOp, heq, Sem.run_pure]
    · simp only [if_true] at ho ⊢
      simp only [execOp, ho, g1, g2, Sem.run_bind, hgd, Result.andThen_ok, binOp, heq, Sem.run_pure]
end
end Go.Ab
end
