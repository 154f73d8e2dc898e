/- Going on. -/
import Derived.Maps.RangeRun
import Derived.Test.YtmfhchaoijiodaaKCL7
section
namespace Go.Ab
open Go.RowKit
set_option linter.unusedVariables false
set_option linter.unusedSimpArgs false
variable {cmp : Code → Option ACode} {P : Program}
theorem bind_some {α β : Type} {x : Option α} {f : α → Option β} {b : β} (h : (x >>= f) = some b) : ∃ a, x = some a ∧ f a = some b := by
  cases x with
  | none => cases h
  | some a => exact ⟨a, rfl, h⟩
theorem ok_mentry {o : Oper} {t : List AV} {s s' : AState} {x : AV} {y : Operand} {y' : Arg} (ho : o.op = .entry y) (h1 : cArg y = some y') (he : (AOp.mentry y').exec t s = some (x, s')) : OpOk cmp P o t s x s' := by
  simp only [AOp.exec] at he
  split at he
  case h_2 => cases he
  rename_i it hx
  split at he
  case h_2 => cases he
  rename_i m bs clk dn hit
  split at he
  case h_2 => cases he
  rename_i es bs' clk' hm
  split at he
  case isFalse => cases he
  rename_i hbc
  obtain ⟨rfl, rfl⟩ := hbc
  split at he
  case h_2 => cases he
  rename_i i hi
  split at he
  case isFalse => cases he
  rename_i hie
  cases he
  refine .pure fun c w ρ hr ht => ?_
  have e1 := ht _ _ h1
  rw [hx] at e1
  obtain ⟨hy, hitn⟩ : ρ y = .pointer (some ⟨c.mu it, 0, none⟩) ∧ it < c.n := by
    generalize ρ y = v at e1
    cases e1 with
    | p _ _ hb => exact ⟨rfl, hb⟩
  have ho1 := hr.obj it (hr.n ▸ hitn)
  rw [hit] at ho1
  obtain ⟨q1, q2, q3⟩ := ho1
  have ho2 := hr.obj m (hr.n ▸ q2)
  rw [hm] at ho2
  obtain ⟨ms, k1, k2, k3⟩ := ho2
  obtain ⟨pre, hpre⟩ := List.getLast?_eq_some_iff.1 hi
  have hsz : ms.size = es.length := by have := k2.1; simpa using this
  have him : i < ms.toList.length := by simp; omega
  have hborn : bs'.getD i 0 = (ms.toList[i]).born := by
    rw [List.getD_eq_getElem?_getD, ← k3, List.getElem?_map, List.getElem?_eq_getElem him]; rfl
  have hsn : (dn.map fun i => bs'.getD i 0).toArray = (pre.map fun i => bs'.getD i 0).toArray.push (ms.toList[i]).born := by
    rw [hpre, List.map_append, ← hborn]; simp
  rw [hsn] at q1
  have hrun := run_entry_at (P := P) w (c.mu it) (c.mu m) clk' _ ms clk' _ q1 k1 (List.getElem_mem him) k2.2.2.2
  refine ⟨.tuple #[(ms.toList[i]).key, (ms.toList[i]).val], by simp [execOp, ho, hy, hrun], ?_⟩
  have hR := k2.2.1 i hie him
  have hge : es.getD i (AV.any, AV.any) = es[i] := by rw [List.getD_eq_getElem?_getD, List.getElem?_eq_getElem hie]; rfl
  rw [hge]
  exact R.tup' (RL.cons hR.1 (RL.cons hR.2 (RL.nil c)))
set_option maxHeartbeats 1000000 in
theorem exec_ok {o : Oper} {t : List AV} {s s' : AState} {ao : AOp} {x : AV} (hc : compOp P o = some ao) (he : ao.exec t s = some (x, s')) : OpOk cmp P o t s x s' := by
  unfold compOp at hc
  split at hc
  case h_1 y ho =>
    obtain ⟨y', h1, hc⟩ := bind_some hc
    cases hc; cases he
    exact ok_mov (.inl ho) h1
  case h_2 y ho =>
    obtain ⟨y', h1, hc⟩ := bind_some hc
    cases hc; cases he
    exact ok_mov (.inr ho) h1
  case h_3 c y z ho =>
    obtain ⟨c', h1, hc⟩ := bind_some hc
    obtain ⟨y', h2, hc⟩ := bind_some hc
    obtain ⟨z', h3, hc⟩ := bind_some hc
    cases hc
    simp only [AOp.exec] at he
    split at he
    · rename_i b hb
      cases he
      exact ok_pick ho h1 h2 h3 hb
    · cases he
  case h_4 ty ho =>
    obtain ⟨z, h1, hc⟩ := bind_some hc
    cases hc; cases he
    exact ok_alloc ho h1
  case h_5 ty y ho =>
    obtain ⟨y', h1, hc⟩ := bind_some hc
    cases hc
    simp only [AOp.exec] at he
    split at he
    · rename_i hs; cases he; exact ok_box ho h1 hs
    · cases he
  case h_6 ty parts ho =>
    obtain ⟨z, hz, hc⟩ := bind_some hc
    obtain ⟨d, hu, hc⟩ := bind_some hc
    split at hc
    · obtain ⟨ps, hps, hc⟩ := bind_some hc
      split at hc
      · rename_i hall
        cases hc
        simp only [AOp.exec, Option.map_eq_some_iff] at he
        obtain ⟨cs, hf, he⟩ := he
        cases he
        exact ok_build_struct ho hz hu hall hps hf
      · cases hc
    · obtain ⟨k, hk, hc⟩ := bind_some hc
      obtain ⟨ps, hps, hc⟩ := bind_some hc
      cases hc
      simp only [AOp.exec, Option.map_eq_some_iff] at he
      obtain ⟨cs, hf, he⟩ := he
      cases he
      exact ok_build_array ho hz hu hk hps hf
    · cases hc
  case h_7 ty len parts ho =>
    obtain ⟨d, hu, hc⟩ := bind_some hc
    split at hc
    · obtain ⟨k, hk, hc⟩ := bind_some hc
      obtain ⟨z, hz, hc⟩ := bind_some hc
      split at hc
      · rename_i hcond
        obtain ⟨ps, hps, hc⟩ := bind_some hc
        cases hc
        simp only [AOp.exec] at he
        split at he
        · rename_i hok
          cases he
          exact ok_bsl ho hu hk hz hcond.1 hcond.2.1 hps hok
        · cases he
      · cases hc
    · cases hc
  case h_8 ty y ho =>
    obtain ⟨ag, ha, hc⟩ := bind_some hc
    obtain ⟨k, hk, hc⟩ := bind_some hc
    split at hc
    · rename_i hak
      obtain ⟨y', h1, hc⟩ := bind_some hc
      cases hc
      simp only [AOp.exec] at he
      split at he
      · rename_i cs hcs
        split at he
        · rename_i hl; cases he; exact ok_load ho h1 ha hk hak hcs hl
        · cases he
      · cases he
    · cases hc
  case h_9 ty y z ho =>
    obtain ⟨k, hk, hc⟩ := bind_some hc
    obtain ⟨y', h1, hc⟩ := bind_some hc
    obtain ⟨z', h2, hc⟩ := bind_some hc
    cases hc
    simp only [AOp.exec] at he
    split at he
    · rename_i b off hx
      split at he
      · rename_i cs hg
        split at he
        · rename_i hcond; cases he; exact ok_store ho h1 h2 hk hx hg hcond.1 hcond.2
        · cases he
      · cases he
    · cases he
  case h_10 y ho =>
    obtain ⟨y', h1, hc⟩ := bind_some hc
    cases hc
    simp only [AOp.exec] at he
    split at he <;> first | (cases he; done) | skip
    · rename_i b o hx; cases he; rw [← hx]; exact ok_nilck ho h1 (.inl ⟨_, _, hx⟩)
    · rename_i b o hx; cases he; rw [← hx]; exact ok_nilck ho h1 (.inr (.inl ⟨_, _, hx⟩))
    · rename_i b hx; cases he; rw [← hx]; exact ok_nilck ho h1 (.inr (.inr (.inl ⟨_, hx⟩)))
    · rename_i g fs caps hx; cases he; rw [← hx]; exact ok_nilck ho h1 (.inr (.inr (.inr ⟨_, _, _, hx⟩)))
  case h_11 op ty y z ty2 ho =>
    obtain ⟨y', h1, hc⟩ := bind_some hc
    obtain ⟨z', h2, hc⟩ := bind_some hc
    obtain ⟨d, hu, hc⟩ := bind_some hc
    have hbin : ∀ {ao}, some (AOp.bin op y' z') = some ao → ao.exec t s = some (x, s') → OpOk cmp P o t s x s' := by
      intro ao h he
      cases h
      simp only [AOp.exec] at he
      split at he
      · rename_i u v hu' hv'
        simp only [Option.map_eq_some_iff] at he
        obtain ⟨r, hr, he⟩ := he
        cases he
        exact ok_bin ho h1 h2 hu' hv' hr
      · cases he
    split at hc
    · exact hbin hc he
    · exact hbin hc he
    · split at hc
      · cases hc
        simp only [AOp.exec, Option.map_eq_some_iff] at he
        obtain ⟨r, hr, he⟩ := he
        cases he
        unfold eqAV at hr
        split at hr <;> try contradiction
        rename_i a b hx hy
        cases hr
        exact ok_eqa_bool (neg := false) ho h1 h2 hu hx hy
      · cases hc
        simp only [AOp.exec, Option.map_eq_some_iff] at he
        obtain ⟨r, hr, he⟩ := he
        cases he
        unfold eqAV at hr
        split at hr <;> try contradiction
        rename_i a b hx hy
        cases hr
        exact ok_eqa_bool (neg := true) ho h1 h2 hu hx hy
      · cases hc
    · split at hc
      · cases hc
        simp only [AOp.exec, Option.map_eq_some_iff] at he
        obtain ⟨r, hr, he⟩ := he
        cases he
        exact ok_eqa_ptr (neg := false) ho h1 h2 hu hr
      · cases hc
        simp only [AOp.exec, Option.map_eq_some_iff] at he
        obtain ⟨r, hr, he⟩ := he
        cases he
        exact ok_eqa_ptr (neg := true) ho h1 h2 hu hr
      · cases hc
    · obtain ⟨ks, hks, hc⟩ := bind_some hc
      split at hc
      · rename_i hg
        split at hc
        · cases hc
          simp only [AOp.exec, Option.map_eq_some_iff] at he
          obtain ⟨r, hr, he⟩ := he
          cases he
          unfold eqAV at hr
          split at hr <;> try contradiction
          rename_i ks' xs ys e hx hy
          cases e
          exact ok_eqa_agg (neg := false) ho h1 h2 hu hks (by simpa using hg) hx hy hr
        · cases hc
          simp only [AOp.exec, Option.map_eq_some_iff] at he
          obtain ⟨r, hr, he⟩ := he
          cases he
          unfold eqAV at hr
          split at hr <;> try contradiction
          rename_i ks' xs ys e hx hy
          cases e
          exact ok_eqa_agg (neg := true) ho h1 h2 hu hks (by simpa using hg) hx hy hr
        · cases hc
      · cases hc
    · split at hc
      · cases hc; cases he
      · cases hc; cases he
      · cases hc
    · cases hc
  case h_12 op ty y ho =>
    obtain ⟨y', h1, hc⟩ := bind_some hc
    cases hc
    simp only [AOp.exec] at he
    split at he
    · rename_i u hu
      simp only [Option.map_eq_some_iff] at he
      obtain ⟨r, hr, he⟩ := he
      cases he
      exact ok_un ho h1 hu hr
    · cases he
  case h_13 src dst y ho =>
    obtain ⟨y', h1, hc⟩ := bind_some hc
    obtain ⟨d1, hs, hc⟩ := bind_some hc
    obtain ⟨d2, hd, hc⟩ := bind_some hc
    split at hc
    · cases hc
      simp only [AOp.exec] at he
      split at he
      · rename_i hu; cases he; exact ok_conv ho h1 hs hd hu
      · cases he
    · split at hc
      · rename_i hcond
        cases hc
        have hu8 : ∀ {e}, isU8 P e = true → P.underlying e = some (.int .u8) := by
          intro e h
          unfold isU8 at h
          split at h
          · assumption
          · cases h
        simp only [AOp.exec] at he
        split at he
        · rename_i b hb; cases he; exact ok_s2b ho h1 hs hd (hu8 hcond.1) hb
        · cases he
      · cases hc
    · split at hc
      · rename_i hcond
        cases hc
        have hu8 : ∀ {e}, isU8 P e = true → P.underlying e = some (.int .u8) := by
          intro e h
          unfold isU8 at h
          split at h
          · assumption
          · cases h
        simp only [AOp.exec] at he
        split at he
        · rename_i xs tk hx
          simp only [Option.map_eq_some_iff] at he
          obtain ⟨ns, hn, he⟩ := he
          cases he
          exact ok_b2s_sl ho h1 hs hd (hu8 hcond) hx hn
        · rename_i b off ln hx
          split at he
          · rename_i cs hg
            split at he
            · rename_i hl
              simp only [Option.map_eq_some_iff] at he
              obtain ⟨ns, hn, he⟩ := he
              cases he
              exact ok_b2s_ms ho h1 hs hd (hu8 hcond) hx hg hl hn
            · cases he
          · cases he
        · cases he
      · cases hc
    · cases hc
  case h_14 ty y ho =>
    split at hc
    · rename_i hcn
      obtain ⟨y', h1, hc⟩ := bind_some hc
      cases hc
      simp only [AOp.exec] at he
      split at he
      · rename_i u hu; cases he; exact ok_mki ho h1 hcn hu
      · cases he
    · cases hc
  case h_15 fn fs caps ho =>
    obtain ⟨fs', h1, hc⟩ := bind_some hc
    obtain ⟨caps', h2, hc⟩ := bind_some hc
    cases hc; cases he
    exact ok_mkf ho h1 h2
  case h_16 ty ho =>
    cases hc; cases he
    exact ok_mkmap ho
  case h_17 ty l l2 ho =>
    obtain ⟨d, hu, hc⟩ := bind_some hc
    split at hc
    · obtain ⟨i, hi, hc⟩ := bind_some hc
      obtain ⟨z, hz, hc⟩ := bind_some hc
      split at hc
      · split at hc
        · rename_i hcond
          obtain ⟨e, hzs⟩ := hcond
          injection hc with hc
          subst hc
          simp only [AOp.exec] at he
          split at he
          · rename_i k n hx
            split at he
            · rename_i hcnd; cases he; exact ok_mksl ho (l' := .t _) rfl (by rw [e]) hu hi hz hzs hx hcnd.1 hcnd.2.1 hcnd.2.2
            · cases he
          · cases he
        · cases hc
      · split at hc
        · rename_i hcond
          obtain ⟨e, e', hzs⟩ := hcond
          injection hc with hc
          subst hc
          simp only [AOp.exec] at he
          split at he
          · rename_i k n hx
            split at he
            · rename_i hcnd; cases he; exact ok_mksl ho (l' := .c (.v _)) rfl (by rw [e, e']) hu hi hz hzs hx hcnd.1 hcnd.2.1 hcnd.2.2
            · cases he
          · cases he
        · cases hc
      · cases hc
    · cases hc
  case h_18 ty y lo hi mx ho =>
    obtain ⟨y', h1, hc⟩ := bind_some hc
    obtain ⟨lo', h2, hc⟩ := bind_some hc
    obtain ⟨hi', h3, hc⟩ := bind_some hc
    obtain ⟨mx', h4, hc⟩ := bind_some hc
    obtain ⟨d, hu, hc⟩ := bind_some hc
    split at hc
    · cases hc
      simp only [AOp.exec] at he
      split at he <;> try contradiction
      rename_i b l h e1 hx hl hh hm
      split at he
      · rename_i hb; cases he; exact ok_slice_str ho h1 h2 h3 h4 hu hx hl hh hm hb
      · cases he
    · obtain ⟨k, hk, hc⟩ := bind_some hc
      cases hc
      simp only [AOp.exec] at he
      split at he <;> try contradiction
      · rename_i k' xs tk l h m e1 hx hl hh hm
        cases e1
        split at he
        · rename_i hb
          split at he
          · cases he
            exact ok_slice_sl ho h1 h2 h3 h4 hu hk hx hl hh hm ⟨hb.1, hb.2.1, hb.2.2.1⟩ hb.2.2.2 (fun n h => by cases h)
          · rename_i m
            split at he
            · rename_i hm2
              cases he
              exact ok_slice_sl ho h1 h2 h3 h4 hu hk hx hl hh hm ⟨hb.1, hb.2.1, hb.2.2.1⟩ hb.2.2.2 (fun n h => by cases h; exact hm2)
            · cases he
        · cases he
      · rename_i k' b off ln l h e1 hx hl hh hm
        cases e1
        split at he
        · rename_i hb
          cases he
          have := ok_slice_ms (cmp := cmp) (s := s) ho h1 h2 h3 h4 hu hk hx hl hh hm ⟨hb.1, by omega, hb.2.2⟩
          rwa [if_pos hb.2.1] at this
        · split at he
          · rename_i hn hb
            cases he
            have := ok_slice_ms (cmp := cmp) (s := s) ho h1 h2 h3 h4 hu hk hx hl hh hm ⟨hb.1, by omega, hb.2.2⟩
            rwa [if_neg (by omega)] at this
          · cases he
    · obtain ⟨k, hk, hc⟩ := bind_some hc
      cases hc
      simp only [AOp.exec] at he
      split at he <;> try contradiction
      rename_i n' k' b off l h e1 hx hl hh hm
      cases e1
      split at he
      · rename_i hb; cases he; exact ok_slice_arr ho h1 h2 h3 h4 hu hk hx hl hh hm hb
      · cases he
    · cases hc
  case h_19 ty y i ho =>
    obtain ⟨d, hu, hc⟩ := bind_some hc
    split at hc
    · obtain ⟨f, hf, hc⟩ := bind_some hc
      obtain ⟨k, hk, hc⟩ := bind_some hc
      split at hc
      · cases hc
      · rename_i h0
        obtain ⟨y', h1, hc⟩ := bind_some hc
        cases hc
        simp only [AOp.exec] at he
        split at he
        · rename_i b off hx; cases he; exact ok_fld ho h1 hu hf hk h0 (.inl ⟨_, _, hx, rfl⟩)
        · rename_i cs off hx; cases he; exact ok_fld ho h1 hu hf hk h0 (.inr ⟨_, _, hx, rfl⟩)
        · cases he
    · cases hc
  case h_20 ty y i ho =>
    obtain ⟨d, hu, hc⟩ := bind_some hc
    split at hc
    · obtain ⟨f, hf, hc⟩ := bind_some hc
      obtain ⟨ag, ha, hc⟩ := bind_some hc
      obtain ⟨k, hk, hc⟩ := bind_some hc
      split at hc
      · rename_i hak
        obtain ⟨y', h1, hc⟩ := bind_some hc
        cases hc
        simp only [AOp.exec] at he
        split at he
        · rename_i cs hx
          split at he
          · rename_i hl; cases he; exact ok_field ho h1 hu hf ha hk hak hx hl
          · cases he
        · cases he
      · cases hc
    · cases hc
  case h_21 ty y i ho =>
    obtain ⟨d, hu, hc⟩ := bind_some hc
    split at hc
    · obtain ⟨k, hk, hc⟩ := bind_some hc
      obtain ⟨y', h1, hc⟩ := bind_some hc
      obtain ⟨i', h2, hc⟩ := bind_some hc
      cases hc
      simp only [AOp.exec] at he
      split at he
      · rename_i xs tk n hx hi
        split at he
        · rename_i h
          split at he
          · rename_i hl; cases he; exact ok_idxp_sl ho h1 h2 hu hk hx hi h hl
          · cases he
        · cases he
      · rename_i b off ln n hx hi
        split at he
        · rename_i h; cases he; exact ok_idxp_ms ho h1 h2 hu hk hx hi h
        · cases he
      · cases he
    · obtain ⟨k, hk, hc⟩ := bind_some hc
      obtain ⟨y', h1, hc⟩ := bind_some hc
      obtain ⟨i', h2, hc⟩ := bind_some hc
      cases hc
      simp only [AOp.exec] at he
      split at he
      · rename_i b off n hx hi
        split at he
        · rename_i h; cases he; exact ok_idxa ho h1 h2 hu hk hi h (.inl ⟨_, _, hx, rfl⟩)
        · cases he
      · rename_i cs off n hx hi
        split at he
        · rename_i h; cases he; exact ok_idxa ho h1 h2 hu hk hi h (.inr ⟨_, _, hx, rfl⟩)
        · cases he
      · cases he
    · cases hc
  case h_22 ty y i ho =>
    obtain ⟨d, hu, hc⟩ := bind_some hc
    split at hc
    · obtain ⟨y', h1, hc⟩ := bind_some hc
      obtain ⟨i', h2, hc⟩ := bind_some hc
      cases hc
      simp only [AOp.exec] at he
      split at he
      · rename_i b n hx hi
        split at he
        · rename_i h; cases he; exact ok_idxs ho h1 h2 hu hx hi h
        · cases he
      · cases he
    · obtain ⟨ag, ha, hc⟩ := bind_some hc
      obtain ⟨k, hk, hc⟩ := bind_some hc
      split at hc
      · rename_i hak
        obtain ⟨y', h1, hc⟩ := bind_some hc
        obtain ⟨i', h2, hc⟩ := bind_some hc
        cases hc
        simp only [AOp.exec] at he
        split at he
        · rename_i cs n hx hi
          split at he
          · rename_i h; cases he; exact ok_idxv ho h1 h2 hu ha hk hak hx hi ⟨h.1, h.2.1⟩ h.2.2
          · cases he
        · cases he
      · cases hc
    · cases hc
  case h_23 ty m k ok ho =>
    obtain ⟨d, hu, hc⟩ := bind_some hc
    split at hc
    · obtain ⟨kk, hk, hc⟩ := bind_some hc
      obtain ⟨z, hz, hc⟩ := bind_some hc
      obtain ⟨m', h1, hc⟩ := bind_some hc
      obtain ⟨k', h2, hc⟩ := bind_some hc
      cases hc
      simp only [AOp.exec] at he
      split at he
      · rename_i b hm
        split at he
        · rename_i es hg
          split at he
          · rename_i hko
            split at he
            · rename_i i hf; cases he; exact ok_lookup ho h1 h2 hu hk hz hm hg hko hf
            · rename_i hf; cases he; exact ok_lookup ho h1 h2 hu hk hz hm hg hko hf
            · cases he
          · cases he
        · cases he
      · cases he
    · cases hc
  case h_24 ty m k y ho =>
    obtain ⟨d, hu, hc⟩ := bind_some hc
    split at hc
    · obtain ⟨kk, hk, hc⟩ := bind_some hc
      obtain ⟨m', h1, hc⟩ := bind_some hc
      obtain ⟨k', h2, hc⟩ := bind_some hc
      obtain ⟨y', h3, hc⟩ := bind_some hc
      cases hc
      simp only [AOp.exec] at he
      split at he
      · rename_i b hm
        split at he
        · rename_i es hg
          split at he
          · rename_i hko
            split at he
            · rename_i i hf; cases he; exact ok_mapset (.inl ho) h1 h2 h3 hu hk hm hg hko hf
            · rename_i hf; cases he; exact ok_mapset (.inl ho) h1 h2 h3 hu hk hm hg hko hf
            · cases he
          · cases he
        · cases he
      · cases he
    · cases hc
  case h_25 ty m k y ho =>
    obtain ⟨d, hu, hc⟩ := bind_some hc
    split at hc
    · obtain ⟨kk, hk, hc⟩ := bind_some hc
      obtain ⟨m', h1, hc⟩ := bind_some hc
      obtain ⟨k', h2, hc⟩ := bind_some hc
      obtain ⟨y', h3, hc⟩ := bind_some hc
      cases hc
      simp only [AOp.exec] at he
      split at he
      · rename_i b hm
        split at he
        · rename_i es hg
          split at he
          · rename_i hko
            split at he
            · rename_i i hf; cases he; exact ok_mapset (.inr ho) h1 h2 h3 hu hk hm hg hko hf
            · rename_i hf; cases he; exact ok_mapset (.inr ho) h1 h2 h3 hu hk hm hg hko hf
            · cases he
          · cases he
        · cases he
      · cases he
    · cases hc
  case h_26 y i ho =>
    obtain ⟨y', h1, hc⟩ := bind_some hc
    cases hc
    simp only [AOp.exec] at he
    split at he
    · rename_i vs hx
      split at he
      · rename_i hi; cases he; exact ok_extract ho h1 hx hi
      · cases he
    · cases he
  case h_27 cl ho =>
    split at hc
    · rename_i f hcal
      obtain ⟨f', h1, hc⟩ := bind_some hc
      obtain ⟨args', h2, hc⟩ := bind_some hc
      cases hc; cases he
    · rename_i hcal
      split at hc
      · rename_i y ty hargs htys
        obtain ⟨d, hu, hc⟩ := bind_some hc
        have ha : cl.args = #[y] := by apply Array.ext'; simpa using hargs
        have ht' : cl.argTypes = #[ty] := by apply Array.ext'; simpa using htys
        split at hc
        · obtain ⟨y', h1, hc⟩ := bind_some hc
          cases hc
          simp only [AOp.exec] at he
          split at he <;> try contradiction
          rename_i b e1 hx; cases he; exact ok_len ho hcal ha ht' h1 (.inl hu) (.inl ⟨b, hx, hu, rfl⟩)
        · obtain ⟨y', h1, hc⟩ := bind_some hc
          cases hc
          simp only [AOp.exec] at he
          split at he <;> try contradiction
          · rename_i xs tk e1 hx; cases he; exact ok_len ho hcal ha ht' h1 (.inr (.inl ⟨_, hu⟩)) (.inr (.inl ⟨_, xs, tk, hx, hu, rfl⟩))
          · rename_i b off ln e1 hx; cases he; exact ok_len ho hcal ha ht' h1 (.inr (.inl ⟨_, hu⟩)) (.inr (.inr (.inl ⟨_, b, off, hx, hu⟩)))
        · obtain ⟨y', h1, hc⟩ := bind_some hc
          cases hc
          simp only [AOp.exec] at he
          split at he <;> try contradiction
          rename_i b e1 hx
          split at he
          · rename_i es hg; cases he; exact ok_len ho hcal ha ht' h1 (.inr (.inr ⟨_, _, hu⟩)) (.inr (.inr (.inr ⟨b, es, _, _, hx, hg, hu, rfl⟩)))
          · cases he
        · cases hc
      · cases hc
    · rename_i hcal
      split at hc
      · rename_i y z ty ty2 hargs htys
        obtain ⟨d, hu, hc⟩ := bind_some hc
        have ha : cl.args = #[y, z] := by apply Array.ext'; simpa using hargs
        have ht' : cl.argTypes = #[ty, ty2] := by apply Array.ext'; simpa using htys
        split at hc
        · obtain ⟨d2, hu2, hc⟩ := bind_some hc
          split at hc
          · obtain ⟨i, hi, hc⟩ := bind_some hc
            obtain ⟨zz, hz, hc⟩ := bind_some hc
            split at hc
            · rename_i hcond
              obtain ⟨y', h1, hc⟩ := bind_some hc
              obtain ⟨z', h2, hc⟩ := bind_some hc
              cases hc
              obtain ⟨hzs, _, _, e1⟩ := hcond
              subst e1
              simp only [AOp.exec] at he
              split at he
              · rename_i xs tx ys ty' hx hy
                split at he
                · rename_i hemp
                  cases he
                  have : ys = [] := by simpa using hemp
                  subst this
                  exact ok_append_none ho hcal ha ht' h1 h2 hu hi hx hy
                · rename_i hemp
                  have hne : ys ≠ [] := by simpa using hemp
                  split at he
                  · rename_i hcd
                    obtain ⟨c1, c2, c3, c4⟩ := hcd
                    split at he
                    · cases he
                    · cases he
                      exact ok_append ho hcal ha ht' h1 h2 hu hi hz hzs hx hy hne c1 c2 c3 c4 (.inl ⟨rfl, rfl⟩)
                    · split at he
                      · rename_i hg
                        split at he
                        · cases he
                        · rename_i hxe
                          cases he
                          exact ok_append ho hcal ha ht' h1 h2 hu hi hz hzs hx hy hne c1 c2 c3 c4 (.inr ⟨_, rfl, hg, by simpa using hxe, rfl⟩)
                      · cases he
                  · cases he
              · cases he
            · cases hc
          · cases hc
        · cases hc
      · cases hc
    · rename_i hcal
      obtain ⟨args', h1, hc⟩ := bind_some hc
      cases hc
      simp only [AOp.exec] at he
      split at he
      · rename_i k n rest hx
        simp only [Option.map_eq_some_iff] at he
        obtain ⟨r, hr, he⟩ := he
        cases he
        exact ok_mm (mx := true) ho hcal h1 hx hr
      · cases he
    · rename_i hcal
      obtain ⟨args', h1, hc⟩ := bind_some hc
      cases hc
      simp only [AOp.exec] at he
      split at he
      · rename_i k n rest hx
        simp only [Option.map_eq_some_iff] at he
        obtain ⟨r, hr, he⟩ := he
        cases he
        exact ok_mm (mx := false) ho hcal h1 hx hr
      · cases he
    · rename_i hcal
      split at hc
      · rename_i m k ty ty2 hargs htys
        obtain ⟨d, hu, hc⟩ := bind_some hc
        have ha : cl.args = #[m, k] := by apply Array.ext'; simpa using hargs
        have ht' : cl.argTypes = #[ty, ty2] := by apply Array.ext'; simpa using htys
        split at hc
        · obtain ⟨kk, hk, hc⟩ := bind_some hc
          obtain ⟨m', h1, hc⟩ := bind_some hc
          obtain ⟨k', h2, hc⟩ := bind_some hc
          cases hc
          simp only [AOp.exec] at he
          split at he
          · rename_i b hm
            split at he
            · rename_i es hg
              split at he
              · rename_i hko
                split at he
                · rename_i i hf; cases he; exact ok_mapdel ho hcal ha ht' h1 h2 hu hk hm hg hko hf
                · rename_i hf; cases he; exact ok_mapdel ho hcal ha ht' h1 h2 hu hk hm hg hko hf
                · cases he
              · cases he
            · cases he
          · cases he
        · cases hc
      · cases hc
    · cases hc
  case h_28 ty y ho =>
    obtain ⟨u, hu, hc⟩ := bind_some hc
    split at hc
    · obtain ⟨y', h1, hc⟩ := bind_some hc
      cases hc
      simp only [AOp.exec] at he
      cases he
    · cases hc
  case h_29 y b ho =>
    split at hc
    · cases hc
    · obtain ⟨y', h1, hc⟩ := bind_some hc
      cases hc
      simp only [AOp.exec] at he
      cases he
  case h_30 y ho =>
    obtain ⟨y', h1, hc⟩ := bind_some hc
    cases hc
    exact ok_mentry ho h1 he
  case h_31 => cases hc
end Go.Ab
end
