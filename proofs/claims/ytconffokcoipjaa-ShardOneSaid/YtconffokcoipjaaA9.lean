/- The model does what 'exec' says: elements, structs by value, slices, strings. -/
import Derived.Test.YtconffokcoipjaaA8
namespace Go.Ab
open Go.RowKit
set_option linter.unusedVariables false
set_option linter.unusedSimpArgs false

variable {cmp : Code → Option ACode} {P : Program}

theorem elem_slice {t e : TypeId} (h : P.underlying t = some (.slice e)) : P.elem t = e := by simp [Program.elem, h]
theorem und_slice {t e : TypeId} (h : P.underlying t = some (.slice e)) : P.underlying t = some (.slice (P.elem t)) := by rw [elem_slice h, h]

theorem R.sl_inv {c : Cx} {xs : List AV} {t : Tok} {y : Value} (h : R c (.sl xs t) y) :
    (xs = [] ∧ ∃ p, y = .slice p 0 0 ∧ ∀ k, t ≠ .own k) ∨ ∃ (k B o cap : Nat) (g : Nat → Value), y = .slice (some ⟨B, o, none⟩) xs.length cap ∧ (∀ i (h : i < xs.length), (xs[i]).cells.length = k) ∧
      (∀ j, j < xs.length * k → (c.arr B)[o + j]? = some (g j)) ∧ (∀ i (h : i < xs.length) j (h' : j < (xs[i]).cells.length), R c (xs[i]).cells[j] (g (i * k + j))) ∧ xs.length ≤ cap ∧
      TokOk c t B (o + xs.length * k) (o + cap * k) xs.length cap := by
  cases h with
  | sl _ _ k B o cap g h1 h2 h3 h4 h5 => exact .inr ⟨k, B, o, cap, g, rfl, h1, h2, h3, h4, h5⟩
  | sl0 _ p ht => exact .inl ⟨rfl, p, rfl, ht⟩

theorem R.ms_inv {c : Cx} {b off ln : Nat} {y : Value} (h : R c (.ms b off ln) y) : ∃ cap, y = .slice (some ⟨c.mu b, off, none⟩) ln cap ∧ b < c.n ∧ ln ≤ cap := by
  cases h with | ms _ _ _ cap hb h1 => exact ⟨cap, rfl, hb, h1⟩
theorem R.p_inv {c : Cx} {b off : Nat} {y : Value} (h : R c (.p b off) y) : y = .pointer (some ⟨c.mu b, off, none⟩) ∧ b < c.n := by cases h; exact ⟨rfl, ‹_›⟩
theorem R.q_inv {c : Cx} {cs : List AV} {off : Nat} {y : Value} (h : R c (.q cs off) y) : ∃ (B q : Nat) (g : Nat → Value), y = .pointer (some ⟨B, q + off, none⟩) ∧ (∀ j, j < cs.length → (c.arr B)[q + j]? = some (g j)) ∧ ∀ j (h : j < cs.length), R c cs[j] (g j) := by
  cases h; exact ⟨_, _, _, rfl, ‹_›, ‹_›⟩

section
variable {o : Oper} {t : List AV} {s : AState}

theorem ok_idxp_sl {ty e : TypeId} {x i : Operand} {x' i' : Arg} {k : Nat} (ho : o.op = .indexAddr ty x i) (h1 : cArg x = some x') (h2 : cArg i = some i') (hu : P.underlying ty = some (.slice e)) (hk : kOf P e = some k)
    {xs : List AV} {tk : Tok} (hx : x'.ev t = .sl xs tk) {n : Int} (hi : (i'.ev t).int? = some n) (h : 0 ≤ n ∧ n.toNat < xs.length) (hl : (xs[n.toNat]'h.2).cells.length = k) :
    OpOk cmp P o t s (.q (xs[n.toNat]'h.2).cells 0) s :=
  .pure fun c w ρ hr ht => by
    have e1 := ht _ _ h1
    rw [hx] at e1
    obtain ⟨kk, e2⟩ := int?_inv (ht _ _ h2) hi
    rcases e1.sl_inv with ⟨rfl, _⟩ | ⟨k', B, q, cap, g, hy, q1, q2, q3, q4, q5⟩
    · simp at h
    · have hk' : k' = k := by rw [← q1 _ h.2]; exact hl
      subst hk'
      refine ⟨.pointer (some ⟨B, q + n.toNat * k', none⟩), ?_, ?_⟩
      · have hin : 0 ≤ n ∧ n < (xs.length : Int) := ⟨h.1, by omega⟩
        simp [execOp, ho, hy, e2, run_indexAt_slice w ty _ _ _ _ _ (und_slice hu), hin, elem_slice hu, run_sizeOf hk, Addr.add_lit]
      · have hlt : ∀ j, j < k' → n.toNat * k' + j < xs.length * k' := fun j hj => by
          calc n.toNat * k' + j < n.toNat * k' + k' := by omega
            _ = (n.toNat + 1) * k' := by rw [Nat.add_mul, Nat.one_mul]
            _ ≤ xs.length * k' := Nat.mul_le_mul_right _ h.2
        have := R.q (c := c) (xs[n.toNat]'h.2).cells 0 B (q + n.toNat * k') (fun j => g (n.toNat * k' + j))
          (fun j hj => by rw [Nat.add_assoc]; exact q2 _ (hlt j (by rw [hl] at hj; exact hj)))
          (fun j hj => q3 _ h.2 j hj)
        simpa using this

theorem ok_idxp_ms {ty e : TypeId} {x i : Operand} {x' i' : Arg} {k : Nat} (ho : o.op = .indexAddr ty x i) (h1 : cArg x = some x') (h2 : cArg i = some i') (hu : P.underlying ty = some (.slice e)) (hk : kOf P e = some k)
    {b off ln : Nat} (hx : x'.ev t = .ms b off ln) {n : Int} (hi : (i'.ev t).int? = some n) (h : 0 ≤ n ∧ n.toNat < ln) :
    OpOk cmp P o t s (.p b (off + n.toNat * k)) s :=
  .pure fun c w ρ hr ht => by
    have e1 := ht _ _ h1
    rw [hx] at e1
    obtain ⟨kk, e2⟩ := int?_inv (ht _ _ h2) hi
    obtain ⟨cap, hy, hb, _⟩ := e1.ms_inv
    refine ⟨.pointer (some ⟨c.mu b, off + n.toNat * k, none⟩), ?_, .p _ _ hb⟩
    have hin : 0 ≤ n ∧ n < (ln : Int) := ⟨h.1, by omega⟩
    simp [execOp, ho, hy, e2, run_indexAt_slice w ty _ _ _ _ _ (und_slice hu), hin, elem_slice hu, run_sizeOf hk, Addr.add_lit]

theorem ok_idxa {ty e : TypeId} {len k : Nat} {x i : Operand} {x' i' : Arg} (ho : o.op = .indexAddr ty x i) (h1 : cArg x = some x') (h2 : cArg i = some i') (hu : P.underlying ty = some (.array len e)) (hk : kOf P e = some k)
    {n : Int} (hi : (i'.ev t).int? = some n) (h : 0 ≤ n ∧ n < len) {y : AV} (hy : (∃ b off, x'.ev t = .p b off ∧ y = .p b (off + n.toNat * k)) ∨ (∃ cs off, x'.ev t = .q cs off ∧ y = .q cs (off + n.toNat * k))) :
    OpOk cmp P o t s y s :=
  .pure fun c w ρ hr ht => by
    have e1 := ht _ _ h1
    obtain ⟨kk, e2⟩ := int?_inv (ht _ _ h2) hi
    have run : ∀ a : Addr, ρ x = .pointer (some a) → (execOp ρ o).run P w = .ok (.value (.pointer (some (a.add (n.toNat * k))))) w := by
      intro a ha
      simp [execOp, ho, ha, e2, Instr.indexAt, asIntOf, run_underlying hu, Instr.sureAddr, h, run_sizeOf hk]
    rcases hy with ⟨b, off, hx, rfl⟩ | ⟨cs, off, hx, rfl⟩
    · rw [hx] at e1
      obtain ⟨hp, hb⟩ := e1.p_inv
      exact ⟨_, run _ hp, by rw [Addr.add_lit]; exact .p _ _ hb⟩
    · rw [hx] at e1
      obtain ⟨B, q, g, hp, q1, q2⟩ := e1.q_inv
      exact ⟨_, run _ hp, by rw [Addr.add_lit, Nat.add_assoc]; exact .q cs _ B q g q1 q2⟩

theorem ok_idxs {ty : TypeId} {x i : Operand} {x' i' : Arg} (ho : o.op = .index ty x i) (h1 : cArg x = some x') (h2 : cArg i = some i') (hu : P.underlying ty = some .string)
    {b : ByteArray} (hx : x'.ev t = .v (.string b)) {n : Int} (hi : (i'.ev t).int? = some n) (h : 0 ≤ n ∧ n < b.size) : OpOk cmp P o t s (.v (.int .u8 (b.data.toList.getD n.toNat 0).toNat)) s :=
  .pure fun c w ρ hr ht => by
    have e1 := ht _ _ h1
    rw [hx] at e1
    obtain ⟨kk, e2⟩ := int?_inv (ht _ _ h2) hi
    refine ⟨_, ?_, .v _⟩
    have hlt : n.toNat < b.size := by omega
    have hg : (b.data.toList.getD n.toNat 0) = b[n.toNat] := by
      rw [List.getD_eq_getElem?_getD, List.getElem?_eq_getElem (by simpa using hlt)]; rfl
    simp only [execOp, ho, e1.v_inv, e2, Sem.run_bind, run_index_string w ty _ _ _ hu, dif_pos h, Result.andThen_ok, hg, Sem.run_pure]

theorem run_part {ty : TypeId} {ag : Bool} {k off : Nat} {us : List Value} (ha : aggOf P ty = some ag) (hk : kOf P ty = some k) (hak : ag = true ∨ k = 1) (hl : off + k ≤ us.length) (w : World) :
    (part ty us.toArray off).run P w = .ok (if ag then .agg ((us.drop off).take k).toArray else us.getD off undef) w := by
  cases ag with
  | true =>
    have : us.toArray.extract off (off + k) = ((us.drop off).take k).toArray := by
      apply Array.ext'
      simp [List.take_drop, Nat.add_comm]
    simp [part, run_isAgg ha, run_sizeOf hk, this]
  | false =>
    have hk1 : k = 1 := by simpa using hak
    have hlt : off < us.length := by omega
    simp [part, run_isAgg ha, hlt, List.getD_eq_getElem?_getD]

theorem ok_field {ty : TypeId} {x : Operand} {x' : Arg} {i : Nat} {fs : Array Field} {f : Field} {ag : Bool} {k : Nat} (ho : o.op = .field ty x i) (h1 : cArg x = some x') (hu : P.underlying ty = some (.struct fs)) (hf : fs[i]? = some f)
    (ha : aggOf P f.type = some ag) (hk : kOf P f.type = some k) (hak : ag = true ∨ k = 1) {cs : List AV} (hx : x'.ev t = .agg cs) (hl : f.offset + k ≤ cs.length) :
    OpOk cmp P o t s (if ag then .agg ((cs.drop f.offset).take k) else cs.getD f.offset .any) s :=
  .pure fun c w ρ hr ht => by
    have e1 := ht _ _ h1
    rw [hx] at e1
    obtain ⟨us, hus, hR⟩ := e1.agg_inv
    refine ⟨if ag then .agg ((us.drop f.offset).take k).toArray else us.getD f.offset undef, by simp [execOp, ho, hus, Instr.field, run_underlying hu, hf, asAgg, run_part ha hk hak (by rw [hR.1]; exact hl)], ?_⟩
    cases ag with
    | true => simpa using R.agg' ((hR.drop _).take _)
    | false => simpa using hR.get _

theorem ok_idxv {ty e : TypeId} {len : Nat} {x i : Operand} {x' i' : Arg} {ag : Bool} {k : Nat} (ho : o.op = .index ty x i) (h1 : cArg x = some x') (h2 : cArg i = some i') (hu : P.underlying ty = some (.array len e))
    (ha : aggOf P e = some ag) (hk : kOf P e = some k) (hak : ag = true ∨ k = 1) {cs : List AV} (hx : x'.ev t = .agg cs) {n : Int} (hi : (i'.ev t).int? = some n) (h : 0 ≤ n ∧ n < len) (hl : (n.toNat + 1) * k ≤ cs.length) :
    OpOk cmp P o t s (if ag then .agg ((cs.drop (n.toNat * k)).take k) else cs.getD (n.toNat * k) .any) s :=
  .pure fun c w ρ hr ht => by
    have e1 := ht _ _ h1
    rw [hx] at e1
    obtain ⟨us, hus, hR⟩ := e1.agg_inv
    obtain ⟨kk, e2⟩ := int?_inv (ht _ _ h2) hi
    refine ⟨if ag then .agg ((us.drop (n.toNat * k)).take k).toArray else us.getD (n.toNat * k) undef, by simp [execOp, ho, hus, e2, Instr.index, asIntOf, run_underlying hu, h, run_sizeOf hk, run_part ha hk hak (by rw [hR.1]; rw [Nat.add_mul, Nat.one_mul] at hl; exact hl)], ?_⟩
    cases ag with
    | true => simpa using R.agg' ((hR.drop _).take _)
    | false => simpa using hR.get _

theorem ok_len {cl : Call} {x : Operand} {x' : Arg} {ty : TypeId} (ho : o.op = .call cl) (hc : cl.callee = .builtin .len) (hxs : cl.args = #[x]) (hts : cl.argTypes = #[ty]) (h1 : cArg x = some x')
    (hu : P.underlying ty = some .string ∨ (∃ e, P.underlying ty = some (.slice e)) ∨ ∃ k e, P.underlying ty = some (.map k e)) {n : Nat}
    (hx : (∃ b, x'.ev t = .v (.string b) ∧ P.underlying ty = some .string ∧ n = b.size) ∨ (∃ e xs tk, x'.ev t = .sl xs tk ∧ P.underlying ty = some (.slice e) ∧ n = xs.length) ∨ (∃ e b off, x'.ev t = .ms b off n ∧ P.underlying ty = some (.slice e)) ∨
      (∃ b es k e, x'.ev t = .m b ∧ s.get b = .map es ∧ P.underlying ty = some (.map k e) ∧ n = es.length)) : OpOk cmp P o t s (.v (.int .i64 n)) s :=
  .pure fun c w ρ hr ht => by
    have e1 := ht _ _ h1
    refine ⟨.int .i64 n, ?_, .v _⟩
    have key : (Builtin.len_ #[ty] o.type #[ρ x]).run P w = .ok (.int .i64 n) w → (execOp ρ o).run P w = .ok (.value (.int .i64 n)) w := by
      intro h
      simp [execOp, ho, resolve, hc, hxs, hts, invoke, builtin, h]
    apply key
    rcases hx with ⟨b, hx, hty, rfl⟩ | ⟨e, xs, tk, hx, hty, rfl⟩ | ⟨e, b, off, hx, hty⟩ | ⟨b, es, k, e, hx, hg, hty, rfl⟩
    · rw [hx] at e1
      rw [e1.v_inv]
      simp [Builtin.len_, run_underlying hty, goInt]
    · rw [hx] at e1
      rcases e1.sl_inv with ⟨rfl, p0, hy, _⟩ | ⟨k', B, q, cap, g, hy, _⟩ <;> rw [hy] <;> simp [Builtin.len_, run_underlying hty, goInt]
    · rw [hx] at e1
      obtain ⟨cap, hy, _⟩ := e1.ms_inv
      rw [hy]
      simp [Builtin.len_, run_underlying hty, goInt]
    · rw [hx] at e1
      have hb : ρ x = .map (some (c.mu b)) ∧ b < c.n := by generalize ρ x = v at e1; cases e1; exact ⟨rfl, ‹_›⟩
      have hob := hr.obj b (hr.n ▸ hb.2)
      rw [hg] at hob
      obtain ⟨ms, clk, h1, h2⟩ := hob
      rw [hb.1]
      have hsz : ms.size = es.length := by rw [← Array.length_toList]; exact h2.1
      simp [Builtin.len_, run_underlying hty, goInt, getObj, Sem.run, h1, hsz]

/-! ### strings, slices of them -/

theorem optInt_ok {c : Cx} {ρ : Operand → Value} (ht : Ev c t ρ) {x : Option Operand} {x' : Option Arg} (h : cOpt x = some x') {l : Option Int} (hl : optInt t x' = some l) :
    (x.map ρ = none ∧ l = none) ∨ ∃ k n, x.map ρ = some (.int k n) ∧ l = some n := by
  cases x with
  | none => simp [cOpt] at h; subst h; simp [optInt] at hl; exact .inl ⟨rfl, hl.symm⟩
  | some x =>
    simp only [cOpt, Option.map_eq_some_iff] at h
    obtain ⟨y, hy, rfl⟩ := h
    have := ht _ _ hy
    simp only [optInt] at hl
    split at hl
    · rename_i k n hn
      rw [hn] at this
      injection hl with hl
      exact .inr ⟨k, n, by simp [this.v_inv], hl.symm⟩
    · cases hl

theorem ok_slice_str {ty : TypeId} {x : Operand} {x' : Arg} {lo hi mx : Option Operand} {lo' hi' mx' : Option Arg} (ho : o.op = .slice ty x lo hi mx) (h1 : cArg x = some x') (h2 : cOpt lo = some lo') (h3 : cOpt hi = some hi') (h4 : cOpt mx = some mx')
    (hu : P.underlying ty = some .string) {b : ByteArray} (hx : x'.ev t = .v (.string b)) {l h : Option Int} (hl : optInt t lo' = some l) (hh : optInt t hi' = some h) (hm : optInt t mx' = some none)
    (hb : 0 ≤ l.getD 0 ∧ l.getD 0 ≤ h.getD b.size ∧ h.getD b.size ≤ b.size) : OpOk cmp P o t s (.v (.string (b.extract (l.getD 0).toNat (h.getD b.size).toNat))) s :=
  .pure fun c w ρ hr ht => by
    have e1 := ht _ _ h1
    rw [hx] at e1
    refine ⟨_, ?_, .v _⟩
    have hm' : mx.map ρ = none := by
      rcases optInt_ok ht h4 hm with ⟨h, _⟩ | ⟨_, _, _, h⟩
      · exact h
      · cases h
    have hsl : (Instr.sliceBounds false b.size b.size (lo.map ρ) (hi.map ρ) none).run P w = .ok ((l.getD 0).toNat, (h.getD b.size).toNat, b.size) w := by
      rcases optInt_ok ht h2 hl with ⟨e2, rfl⟩ | ⟨kl, nl, e2, rfl⟩ <;> rcases optInt_ok ht h3 hh with ⟨e3, rfl⟩ | ⟨kh, nh, e3, rfl⟩ <;>
        simp only [Option.getD_some, Option.getD_none] at hb ⊢ <;> rw [e2, e3]
      · simp [Instr.sliceBounds]
      · have : (nh.toNat : Int) = nh := by omega
        simp [Instr.sliceBounds, Instr.sliceBound, asIntOf, hb]
      · simp [Instr.sliceBounds, Instr.sliceBound, asIntOf, hb]
      · have e : (nh.toNat : Int) = nh := by omega
        have h0 : 0 ≤ nh := by omega
        simp [Instr.sliceBounds, Instr.sliceBound, asIntOf, hb, e, h0]
    simp [execOp, ho, e1.v_inv, hm', Instr.sliceAt, run_underlying hu, Instr.slice, hsl]

end
end Go.Ab
