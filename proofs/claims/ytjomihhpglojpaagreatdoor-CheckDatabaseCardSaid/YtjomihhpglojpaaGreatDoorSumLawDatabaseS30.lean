/- Laid together by a program of mine: RDbB RDbM. -/
import Derived.Test.YtjomihhpglojpaaGreatDoorSumLawDatabaseS27
import Derived.Test.YtjomihhpglojpaaGreatDoorSumLawDatabaseS29
import Derived.Test.YtjomihhpglojpaaGreatDoorSumLawDatabaseS28
set_option linter.unusedSimpArgs false
set_option linter.unusedVariables false
section
/- The reference's Of and message, walked. -/
namespace Go.Proofs.YtjomihhpglojpaaGreatDoor
open Go.RowKit
set_option linter.unusedSimpArgs false
set_option linter.unusedVariables false
attribute [local irreducible] wpList wpQuiet wpStill Code.wp Exit.then Exit.inBlock bodyPost Calls Does Does0
set_option maxRecDepth 100000
theorem TgAt.c0 {B : Nat} {t : Tab} {w : World} (h : TgAt B t w) (o : Nat) (x : Value) (hx : (Tab.cells t)[o]? = some x) : w.cell? ⟨B, o, none⟩ = some x := cell_at h (by simpa using hx)
set_option maxHeartbeats 8000000 in
theorem rof_ok (w : World) (d : Db) (t : Tab) (ss : List ByteArray) (ms : List MsgT) (ts : List TabT) (hin : DbIn w d ss ms ts) :
    Ret Tryz.prog 67 [.agg (Db.cells d).toArray, .agg (Tab.cells t).toArray].toArray w (fun v w' => (∃ sv ok, v = .tuple #[.agg (Sig.cells sv).toArray, .bool ok] ∧ ((ok = true ∧ ofB ms t.id t.wide t.sig sv) ∨ (ok = false ∧ ¬ ∃ s, ofB ms t.id t.wide t.sig s))) ∧ Below w.heap.size w w') := by
  have hml := hin.msgs.len
  have hmby := hin.msgs.bytes
  refine enter2 Tryz.func67 rfl 53 rfl 55 rfl (fun a hF => ?_)
  repeat (first | refine c_seq ?_ | refine c_region _ ?_)
  refine st_box hF (cs := (Db.cells d).toArray) rfl (k := fun a w1 hg1 hgr1 hsz1 hF => ?_)
  refine st_box hF (cs := (Tab.cells t).toArray) rfl (k := fun a w2 hg2 hgr2 hsz2 hF => ?_)
  refine st_alloc hF inf62 (k := fun a w3 hg3 hgr3 hsz3 hF => ?_)
  have hb3 : Below w.heap.size w w3 := (((Below.refl _ w).grown hgr1 (Nat.le_refl _) (fun k hk => by cases hk)).grown hgr2 (by omega) (fun k hk => by cases hk)).grown hgr3 (by omega) (fun k hk => by cases hk)
  have hd3 : DgAt w.heap.size d w3 := blk_kept (blk_kept hg1 hgr2 (by simp)) hgr3 (by simp)
  have ht3 : TgAt w1.heap.size t w3 := blk_kept hg2 hgr3 (by simp)
  have hs3 : SgAt w2.heap.size sigZ w3 := hg3
  clear hg1 hg2 hg3 hgr1 hgr2 hgr3
  repeat (first | refine c_seq ?_ | refine c_block ?_ | refine c_region _ ?_ | refine wpList_nil ?_ | refine c_then ?_ | ((apply st hF); (exact d_assign); clear hF; clear a; intro a hF))
  refine c_loop (fun q a wr => ∃ i : Nat, i ≤ ms.length ∧ q = ms.length - i ∧ (∀ j, j < i → ∀ k, k < (mp_ ms j).length → ¬ (sameId (ms_ ms j) t.id t.wide ∧ (sg (mp_ ms j) k).name = t.sig)) ∧
    Fr 55 [(2, .pointer (some ⟨w.heap.size, 0, none⟩)), (3, .pointer (some ⟨w1.heap.size, 0, none⟩)), (4, .pointer (some ⟨w2.heap.size, 0, none⟩)), (5, .bool false), (6, .int .i64 (i : Nat))] a ∧ DgAt w.heap.size d wr ∧ TgAt w1.heap.size t wr ∧ SgAt w2.heap.size sigZ wr ∧ Below w.heap.size w wr) ms.length
    ⟨0, Nat.zero_le _, rfl, fun j hj => absurd hj (Nat.not_lt_zero _), hF.keep' ⟨rfl, rfl, rfl, rfl, rfl, trivial⟩, hd3, ht3, hs3, hb3⟩ ?_
  clear hF a hd3 ht3 hs3 hb3
  rintro q a wr ⟨i, hi, rfl, hno, hF, hd, ht, hs, hbel⟩
  have hz := hbel.size
  have hld := lt_at hd
  have hlt' := lt_at ht
  have hls := lt_at hs
  have c7 := hd.c 7 _ rfl
  by_cases hlt : i < ms.length
  case neg =>
    obtain rfl : i = ms.length := by omega
    repeat (first | refine c_seq ?_ | refine c_region _ ?_ | refine wpList_nil ?_ | refine c_then ?_ | refine c_then_exit ?_ | refine c_in_hit ?_ | refine wp_exit ?_ | ((apply st hF); (first | exact d_move | exact d_cmpF | exact d_len (und _ _ rfl) | exact d_fieldAddr (fld _ _ _ _ rfl) (isz _ _ rfl) | exact d_build (vs := []) (cells := (Sig.cells sigZ).toArray) (by kernel_rfl) trivial | exact d_load (und _ _ rfl) c7); clear hF; clear a; intro a hF) | (apply c_cond_f hF; exact rfl; first | exact rfl | assumption))
    refine st_storeAgg hF (cs := (Sig.cells sigZ).toArray) (isz _ _ rfl) rfl rfl hs (sig_cells _) (k := fun a w4 hg4 hgr4 hsz4 hF => ?_)
    repeat (first | refine wpList_nil ?_ | refine c_then ?_ | refine wp_ret ?_ | ((apply st hF); (exact d_assign); clear hF; clear a; intro a hF))
    refine ret_ct hF rfl (agg _ rfl) (isz _ _ rfl) hg4 rfl rfl ⟨⟨sigZ, false, rfl, .inr ⟨rfl, ?_⟩⟩, hbel.grown hgr4 hz (fun k hk => by cases hk; omega)⟩
    rintro ⟨s, j, k, hj, hk, h1, h2, rfl⟩
    exact hno j hj k hk ⟨h1, h2⟩
  obtain ⟨b, o, hao, hc⟩ := msg_cells_at hin.msgs hbel hlt
  have hmi := hin.msgs.each _ (List.getElem_mem hlt)
  rw [← ms_lt hlt, ← mp_lt hlt] at hmi
  have hnext : (∀ k, k < (mp_ ms i).length → ¬ (sameId (ms_ ms i) t.id t.wide ∧ (sg (mp_ ms i) k).name = t.sig)) → ∀ j, j < i + 1 → ∀ k, k < (mp_ ms j).length → ¬ (sameId (ms_ ms j) t.id t.wide ∧ (sg (mp_ ms j) k).name = t.sig) := fun h j hj => by
    by_cases e : j = i
    · subst e; exact h
    · exact hno j (by omega)
  have hfound : ∀ k, k < (mp_ ms i).length → sameId (ms_ ms i) t.id t.wide → (sg (mp_ ms i) k).name = t.sig → ofB ms t.id t.wide t.sig (sg (mp_ ms i) k) := fun k hk h1 h2 => ⟨i, k, hlt, hk, h1, h2, rfl⟩
  have hsid : sameId (ms_ ms i) t.id t.wide ↔ ((ms_ ms i).id = t.id ∧ (ms_ ms i).wide = t.wide) := Iff.rfl
  obtain ⟨m, hm⟩ : ∃ x, x = ms_ ms i := ⟨_, rfl⟩
  obtain ⟨ps, hps⟩ : ∃ x, x = mp_ ms i := ⟨_, rfl⟩
  rw [← hm] at hc hmi hnext hfound hsid
  rw [← hps] at hmi hnext hfound
  have hplen := hmi.len
  have hpby := hmi.bytes
  rw [hao] at c7
  repeat (first | refine c_seq ?_ | refine c_block ?_ | refine c_region _ ?_ | refine wpList_nil ?_ | refine c_then ?_ | refine wp_skip ?_ | ((apply st hF); (first | exact d_move | exact d_cmpT | exact d_len (und _ _ rfl) | exact d_fieldAddr (fld _ _ _ _ rfl) (isz _ _ rfl) | exact d_indexAddrS (und _ _ rfl) (isz _ _ rfl) (j := i) | exact d_loadAgg (agg _ rfl) (isz _ _ rfl) rfl (arr_cells hc) | exact d_load (und _ _ rfl) c7); clear hF; clear a; intro a hF) | (apply c_cond_t hF; exact rfl; first | exact rfl | assumption))
  refine st_alloc hF inf27 (k := fun a r1 hg1 hgr1 hsz1 hF => ?_)
  refine st_storeAgg hF (cs := (Msg.cells m).toArray) (isz _ _ rfl) rfl rfl hg1 (msg_cells _) (k := fun a r2 hx2 hgr2 hsz2 hF => ?_)
  have hb2 : Below wr.heap.size wr r2 := ((Below.refl _ wr).grown hgr1 (Nat.le_refl _) (fun k hk => by cases hk)).grown hgr2 (by omega) (fun k hk => by cases hk; exact Nat.le_refl _)
  have hx2 : MgAt wr.heap.size m r2 := hx2
  clear hg1 hgr1 hgr2
  have hd2 := hd.below hb2
  have ht2 := ht.below hb2
  have hs2 := hs.below hb2
  have hB2 : Below w.heap.size w r2 := hbel.trans (hb2.mono hz)
  have x1 := hx2.c 2 _ rfl
  have x2 := hx2.c 3 _ rfl
  have y1 := ht2.c 2 _ rfl
  have y2 := ht2.c 3 _ rfl
  have hend : ∀ {a : Act}, True := fun {_} => trivial
  clear hend
  by_cases hidm : m.id = t.id
  case neg =>
    repeat (first | refine c_seq ?_ | refine c_region _ ?_ | refine wpList_nil ?_ | refine c_then ?_ | refine c_then_exit ?_ | refine c_in_hit ?_ | refine wp_exit ?_ | ((apply st hF); (first | exact d_move | exact d_assign | exact d_pickT | exact d_add | exact d_cmpT | exact d_fieldAddr (fld _ _ _ _ rfl) (isz _ _ rfl) | exact d_load (und _ _ rfl) x1 | exact d_load (und _ _ rfl) y1); clear hF; clear a; intro a hF) | ((apply stm hF); clear hF; clear a; intro a hF) | (apply c_cond_t hF; exact rfl; first | exact rfl | assumption))
    exact ⟨ms.length - (i + 1), by omega, i + 1, by omega, rfl, hnext (fun k hk h => hidm (hsid.1 h.1).1), hF.keep' ⟨rfl, rfl, rfl, rfl, rfl, trivial⟩, hd2, ht2, hs2, hB2⟩
  by_cases hwd : m.wide = t.wide
  case neg =>
    have hbt : (m.wide != t.wide) = true := by simpa using hwd
    repeat (first | refine c_seq ?_ | refine c_region _ ?_ | refine wpList_nil ?_ | refine c_then ?_ | refine c_then_exit ?_ | refine c_in_hit ?_ | refine wp_exit ?_ | ((first | apply st hF | apply stg hF); (first | exact d_move | exact d_assign | exact d_pickF | exact d_add | exact d_cmpF | exact d_eqbT (und _ _ rfl) | exact d_fieldAddr (fld _ _ _ _ rfl) (isz _ _ rfl) | exact d_load (und _ _ rfl) x1 | exact d_load (und _ _ rfl) y1 | exact d_load (und _ _ rfl) x2 | exact d_load (und _ _ rfl) y2); clear hF; clear a; intro a hF) | (apply c_cond_t hF; exact rfl; first | exact rfl | assumption))
    exact ⟨ms.length - (i + 1), by omega, i + 1, by omega, rfl, hnext (fun k hk h => hwd (hsid.1 h.1).2), hF.keep' ⟨rfl, rfl, rfl, rfl, rfl, trivial⟩, hd2, ht2, hs2, hB2⟩
  have hbf : (m.wide != t.wide) = false := by simp [hwd]
  repeat (first | refine c_seq ?_ | refine c_block ?_ | refine c_region _ ?_ | refine wpList_nil ?_ | refine c_then ?_ | refine wp_skip ?_ | ((first | apply st hF | apply stg hF); (first | exact d_move | exact d_assign | exact d_pickF | exact d_cmpF | exact d_eqbF (und _ _ rfl) | exact d_fieldAddr (fld _ _ _ _ rfl) (isz _ _ rfl) | exact d_load (und _ _ rfl) x1 | exact d_load (und _ _ rfl) y1 | exact d_load (und _ _ rfl) x2 | exact d_load (und _ _ rfl) y2); clear hF; clear a; intro a hF) | (apply c_cond_f hF; exact rfl; first | exact rfl | assumption))
  refine c_loop (fun q a wq => ∃ k : Nat, k ≤ ps.length ∧ q = ps.length - k ∧ (∀ j, j < k → (sg ps j).name ≠ t.sig) ∧
    Fr 55 [(2, .pointer (some ⟨w.heap.size, 0, none⟩)), (3, .pointer (some ⟨w1.heap.size, 0, none⟩)), (4, .pointer (some ⟨w2.heap.size, 0, none⟩)), (5, .bool false), (6, .int .i64 (i : Nat)), (7, .pointer (some ⟨wr.heap.size, 0, none⟩)), (8, .int .i64 (k : Nat))] a ∧ Below r2.heap.size r2 wq) ps.length
    ⟨0, Nat.zero_le _, rfl, fun j hj => absurd hj (Nat.not_lt_zero _), hF.keep' ⟨rfl, rfl, rfl, rfl, rfl, rfl, rfl, trivial⟩, Below.refl _ _⟩ ?_
  clear hF a
  rintro q a wq ⟨k, hk, rfl, hnk, hF, hbq⟩
  have hBq : Below w.heap.size w wq := hB2.trans (hbq.mono hB2.size)
  have hxq := hx2.below hbq
  have htq := ht2.below hbq
  have hsq := hs2.below hbq
  have c6 := hxq.c 7 _ rfl
  by_cases hkl : k < ps.length
  case neg =>
    obtain rfl : k = ps.length := by omega
    repeat (first | refine c_seq ?_ | refine c_region _ ?_ | refine wpList_nil ?_ | refine c_then ?_ | refine c_then_exit ?_ | refine c_in ?_ | refine c_in_hit ?_ | refine wp_exit ?_ | ((apply st hF); (first | exact d_move | exact d_assign | exact d_add | exact d_cmpF | exact d_len (und _ _ rfl) | exact d_fieldAddr (fld _ _ _ _ rfl) (isz _ _ rfl) | exact d_load (und _ _ rfl) c6); clear hF; clear a; intro a hF) | (apply c_cond_f hF; exact rfl; first | exact rfl | assumption))
    exact ⟨ms.length - (i + 1), by omega, i + 1, by omega, rfl, hnext (fun j hj h => hnk j hj h.2), hF.keep' ⟨rfl, rfl, rfl, rfl, rfl, trivial⟩, hd2.below hbq, htq, hsq, hBq⟩
  obtain ⟨b', o', hao', hck⟩ := sig_cells_at hmi hBq hkl
  have n2 := hck 2 _ rfl
  have t4 := htq.c 4 _ rfl
  rw [hao'] at c6
  have hzq := hBq.size
  have hlsq := lt_at hsq
  by_cases hnm : (sg ps k).name = t.sig
  · have hd : decide ((sg ps k).name = t.sig) = true := decide_eq_true hnm
    repeat (first | refine c_seq ?_ | refine c_block ?_ | refine c_region _ ?_ | refine wpList_nil ?_ | refine c_then ?_ | refine wp_skip ?_ | (refine q_nil ?_; rintro _ ⟨ndr, rfl⟩) | refine c_region_draw _ mixed (by kernel_rfl) ?_ | ((apply st hF); (first | exact d_move | exact d_cmpT | exact d_len (und _ _ rfl) | exact d_fieldAddr (fld _ _ _ _ rfl) (isz _ _ rfl) | exact d_indexAddrS (und _ _ rfl) (isz _ _ rfl) (j := k) | exact d_loadAgg (agg _ rfl) (isz _ _ rfl) rfl (arr_cells hck) | exact d_load (und _ _ rfl) c6); clear hF; clear a; intro a hF) | ((apply q_step hF); intro wq hwq; (first | exact d_move | exact d_eqST | exact d_fieldAddr (fld _ _ _ _ rfl) (isz _ _ rfl) | exact d_indexAddrS (und _ _ rfl) (isz _ _ rfl) (j := k) | exact q_load (und _ _ rfl) hwq (by exact c6) | exact q_load (und _ _ rfl) hwq (by exact n2) | exact q_load (und _ _ rfl) hwq (by exact t4)); clear hF; clear a; intro a hF) | (apply c_cond_t hF; exact rfl; first | exact rfl | assumption))
    refine st_storeAgg hF (cs := (Sig.cells (sg ps k)).toArray) (isz _ _ rfl) rfl rfl (hsq.below (below_more (Below.refl _ wq) _)) (sig_cells _) (k := fun a w4 hg4 hgr4 hsz4 hF => ?_)
    repeat (first | refine wpList_nil ?_ | refine c_then ?_ | refine c_then_ret ?_ | refine c_in_ret ?_ | refine wp_ret ?_ | ((apply st hF); (exact d_assign); clear hF; clear a; intro a hF))
    exact ret_ct hF rfl (agg _ rfl) (isz _ _ rfl) hg4 rfl rfl ⟨⟨_, true, rfl, .inl ⟨rfl, hfound k hkl (hsid.2 ⟨hidm, hwd⟩) hnm⟩⟩, (below_more hBq _).grown hgr4 hzq (fun k hk => by cases hk; omega)⟩
  · have hd : decide ((sg ps k).name = t.sig) = false := decide_eq_false hnm
    repeat (first | refine c_seq ?_ | refine c_block ?_ | refine c_region _ ?_ | refine wpList_nil ?_ | refine c_then ?_ | refine c_in ?_ | refine wp_skip ?_ | (refine q_nil ?_; rintro _ ⟨ndr, rfl⟩) | refine c_region_draw _ mixed (by kernel_rfl) ?_ | ((apply st hF); (first | exact d_move | exact d_assign | exact d_add | exact d_cmpT | exact d_len (und _ _ rfl) | exact d_fieldAddr (fld _ _ _ _ rfl) (isz _ _ rfl) | exact d_load (und _ _ rfl) c6); clear hF; clear a; intro a hF) | ((apply q_step hF); intro wq hwq; (first | exact d_move | exact d_eqSF | exact d_fieldAddr (fld _ _ _ _ rfl) (isz _ _ rfl) | exact d_indexAddrS (und _ _ rfl) (isz _ _ rfl) (j := k) | exact q_load (und _ _ rfl) hwq (by exact c6) | exact q_load (und _ _ rfl) hwq (by exact n2) | exact q_load (und _ _ rfl) hwq (by exact t4)); clear hF; clear a; intro a hF) | (apply c_cond_t hF; exact rfl; first | exact rfl | assumption) | (apply c_cond_f hF; exact rfl; first | exact rfl | assumption))
    exact ⟨ps.length - (k + 1), by omega, k + 1, by omega, rfl, fun j hj => by
      by_cases e : j = k
      · subst e; exact hnm
      · exact hnk j (by omega), hF.keep' ⟨rfl, rfl, rfl, rfl, rfl, rfl, rfl, trivial⟩, below_more hbq _⟩
end Go.Proofs.YtjomihhpglojpaaGreatDoor
end
section
/- The reference's message of a database, walked. -/
namespace Go.Proofs.YtjomihhpglojpaaGreatDoor
open Go.RowKit
set_option linter.unusedSimpArgs false
set_option linter.unusedVariables false
attribute [local irreducible] wpList wpQuiet wpStill Code.wp Exit.then Exit.inBlock bodyPost Calls Does Does0
set_option maxRecDepth 100000
theorem ratV_0 (n x y : Int) : (ratV n x y)[0]? = some (.int .i64 n) := by
  unfold ratV
  by_cases h : n = 0
  · rw [if_pos h, h]; rfl
  · rw [if_neg h]; rfl
theorem DgAt.st {B : Nat} {d : Db} {w : World} (h : DgAt B d w) : ∀ j v, (#[.int .i64 d.sline, .int .i64 d.scol, .slice d.sn d.snN d.snC] : Array Value)[j]? = some v → w.cell? ⟨B, 0 + 4 + j, none⟩ = some v := fun j v hj => by
  rcases (show j = 0 ∨ j = 1 ∨ j = 2 ∨ 3 ≤ j by omega) with rfl | rfl | rfl | hj3
  · simp at hj; subst hj; exact h.c 4 _ rfl
  · simp at hj; subst hj; exact h.c 5 _ rfl
  · simp at hj; subst hj; exact h.c 6 _ rfl
  · rw [Array.getElem?_eq_none (by simpa using hj3)] at hj; cases hj
set_option maxHeartbeats 16000000 in
theorem rdmsg_ok (w : World) (d : Db) (ss : List ByteArray) (ms : List MsgT) (ts : List TabT) (hin : DbIn w d ss ms ts) (i : Nat) (hi : i < ms.length) :
    Ret Tryz.prog 39 [.agg (Db.cells d).toArray, .int .i64 (i : Nat)].toArray w (fun v w' => v = .agg (ratV (dmE ss ms i).1 (dmE ss ms i).2.1 (dmE ss ms i).2.2) ∧ Below w.heap.size w w') := by
  have hml := hin.msgs.len
  have hmby := hin.msgs.bytes
  have hsl := hin.slen
  have hsby := hin.sbytes
  have hmi := hin.msgs.each _ (List.getElem_mem hi)
  have hmB := (hin.msgs.bnd _ (List.getElem_mem hi)).1
  rw [← ms_lt hi, ← mp_lt hi] at hmi
  rw [← mp_lt hi] at hmB
  have hE : dmE ss ms i = dmE ss ms i := rfl
  conv at hE => rhs; unfold dmE
  obtain ⟨E, hEe⟩ : ∃ x, x = dmE ss ms i := ⟨_, rfl⟩
  rw [← hEe] at hE ⊢
  clear hEe
  obtain ⟨m, hm⟩ : ∃ x, x = ms_ ms i := ⟨_, rfl⟩
  obtain ⟨ps, hps⟩ : ∃ x, x = mp_ ms i := ⟨_, rfl⟩
  obtain ⟨b0, o0, hao, hcm0⟩ := msg_cells_at hin.msgs (Below.refl _ w) hi
  rw [← hm] at hmi hE hcm0
  rw [← hps] at hmi hE hmB
  have hplen := hmi.len
  have hpby := hmi.bytes
  refine enter2 Tryz.func39 rfl 94 rfl 96 rfl (fun a hF => ?_)
  repeat (first | refine c_seq ?_ | refine c_region _ ?_)
  refine st_box hF (cs := (Db.cells d).toArray) rfl (k := fun a w1 hg1 hgr1 hsz1 hF => ?_)
  refine st_alloc hF inf34 (k := fun a w2 hf2 hgr2 hsz2 hF => ?_)
  have hb2 : Below w.heap.size w w2 := ((Below.refl _ w).grown hgr1 (Nat.le_refl _) (fun k hk => by cases hk)).grown hgr2 (by omega) (fun k hk => by cases hk)
  have hd2 : DgAt w.heap.size d w2 := blk_kept hg1 hgr2 (by simp)
  replace hf2 : w2.heap[w1.heap.size]? = some (.cells (ratV 0 0 0) 34 (0, 0)) := hf2
  have hz1 : w1.heap.size = w.heap.size + 1 := by omega
  clear hg1 hgr1 hgr2
  have c7 := hd2.c 7 _ rfl
  rw [hao] at c7
  have hc2 : ∀ q v, (Msg.cells m)[q]? = some v → w2.cell? ⟨b0, o0 + i * 8 + q, none⟩ = some v := fun q v hq => keep_c (hcm0 q v hq) hb2
  repeat (first | refine c_seq ?_ | refine c_region _ ?_ | refine wpList_nil ?_ | refine c_then ?_ | ((apply st hF); (first | exact d_move | exact d_fieldAddr (fld _ _ _ _ rfl) (isz _ _ rfl) | exact d_indexAddrS (und _ _ rfl) (isz _ _ rfl) (j := i) | exact d_loadAgg (agg _ rfl) (isz _ _ rfl) rfl (arr_cells hc2) | exact d_load (und _ _ rfl) c7); clear hF; clear a; intro a hF))
  refine st_alloc hF inf27 (k := fun a w3 hg3 hgr3 hsz3 hF => ?_)
  refine st_storeAgg hF (cs := (Msg.cells m).toArray) (isz _ _ rfl) rfl rfl hg3 (msg_cells _) (k := fun a w4 hg4 hgr4 hsz4 hF => ?_)
  have hb24 : Below w2.heap.size w2 w4 := ((Below.refl _ w2).grown hgr3 (Nat.le_refl _) (fun k hk => by cases hk)).grown hgr4 (by omega) (fun k hk => by cases hk; exact Nat.le_refl _)
  have hm4 : MgAt w2.heap.size m w4 := hg4
  have hd4 := hd2.below hb24
  have hf4 := (hb24.block _ (lt_at hf2)).trans hf2
  have hb4 : Below w.heap.size w w4 := hb2.trans (hb24.mono hb2.size)
  have hz2 : w2.heap.size = w.heap.size + 2 := by omega
  clear hg3 hg4 hgr3 hgr4 hd2 hf2 hc2 c7
  repeat (first | refine c_seq ?_ | refine c_region _ ?_ | refine wpList_nil ?_ | refine c_then ?_ | ((apply st hF); (exact d_loadAgg (agg _ rfl) (isz _ _ rfl) rfl (cells_at hm4)); clear hF; clear a; intro a hF))
  refine stc hF (rmsg_ok w4 m ps (SigsIn.below hmi hb4) hmB) cal8 ⟨rfl, trivial⟩ (k := fun a v w5 hR hF => ?_)
  obtain ⟨rfl, hb5⟩ := hR
  have hm5 := hm4.below hb5
  have hd5 := hd4.below hb5
  have hf5 := (hb5.block _ (lt_at hf4)).trans hf4
  have hz5 := hb5.size
  replace hb5 := hb4.trans (hb5.mono hb4.size)
  obtain ⟨e0, he0⟩ : ∃ x, x = (msgE m ps).1 := ⟨_, rfl⟩
  obtain ⟨x0, hx0⟩ : ∃ x, x = placeL m ps (msgE m ps).2 := ⟨_, rfl⟩
  obtain ⟨y0, hy0⟩ : ∃ x, x = placeC m ps (msgE m ps).2 := ⟨_, rfl⟩
  rw [← he0, ← hx0, ← hy0] at hF hE
  clear he0 hx0 hy0
  refine st_alloc hF inf34 (k := fun a w6 hg6 hgr6 hsz6 hF => ?_)
  replace hg6 : w6.heap[w5.heap.size]? = some (.cells (ratV 0 0 0) 34 (0, 0)) := hg6
  refine st_storeAgg hF (cs := ratV e0 x0 y0) (isz _ _ rfl) (ratV_size _ _ _) (ratV_size _ _ _) hg6 (ratV_one _ _ _) (k := fun a w7 hg7 hgr7 hsz7 hF => ?_)
  have hb57 : Below w5.heap.size w5 w7 := ((Below.refl _ w5).grown hgr6 (Nat.le_refl _) (fun k hk => by cases hk)).grown hgr7 (by omega) (fun k hk => by cases hk; exact Nat.le_refl _)
  have hm7 := hm5.below hb57
  have hd7 := hd5.below hb57
  have hf7 := (hb57.block _ (lt_at hf5)).trans hf5
  have hb7 : Below w.heap.size w w7 := hb5.trans (hb57.mono hb5.size)
  clear hg6 hgr6 hgr7 hm4 hm5 hd4 hd5 hf4 hf5
  have r0 : w7.cell? ⟨w5.heap.size, 0 + 0, none⟩ = some (.int .i64 e0) := cell_at hg7 (ratV_0 _ _ _)
  by_cases h0 : e0 = 0
  case neg =>
    rw [if_pos h0] at hE
    repeat (first | refine c_seq ?_ | refine c_region _ ?_ | refine wpList_nil ?_ | refine c_then ?_ | ((apply st hF); (first | exact d_cmpT | exact d_fieldAddr (fld _ _ _ _ rfl) (isz _ _ rfl) | exact d_loadAgg (agg _ rfl) (isz _ _ rfl) (by rw [ratV_size]) (cells_at hg7) | exact d_load (und _ _ rfl) r0); clear hF; clear a; intro a hF) | (apply c_cond_t hF; exact rfl; first | exact rfl | assumption))
    refine st_storeAgg hF (cs := ratV e0 x0 y0) (isz _ _ rfl) (ratV_size _ _ _) (ratV_size _ _ _) hf7 (ratV_one _ _ _) (k := fun a w8 hf8 hgr8 hsz8 hF => ?_)
    repeat (first | refine wpList_nil ?_ | refine c_then ?_ | refine c_then_ret ?_ | refine wp_ret ?_)
    refine ret_c hF rfl (agg _ rfl) (by rw [ratV_size]; exact isz _ _ rfl) hf8 rfl ⟨?_, hb7.grown hgr8 hb7.size (fun k hk => by cases hk; omega)⟩
    rw [hE]
  rw [if_neg (fun h => h h0)] at hE
  repeat (first | refine c_seq ?_ | refine c_block ?_ | refine c_region _ ?_ | refine wpList_nil ?_ | refine c_then ?_ | refine wp_skip ?_ | ((apply st hF); (first | exact d_assign | exact d_cmpF | exact d_fieldAddr (fld _ _ _ _ rfl) (isz _ _ rfl) | exact d_load (und _ _ rfl) r0); clear hF; clear a; intro a hF) | (apply c_cond_f hF; exact rfl; first | exact rfl | assumption))
  clear r0 hg7
  refine c_loop (fun q a wr => ∃ k : Nat, k ≤ i ∧ q = i - k ∧ (∀ j, j < k → ¬ ((ms_ ms j).name = m.name ∨ sameId (ms_ ms j) m.id m.wide)) ∧
    Fr 96 [(1, .int .i64 (i : Nat)), (2, .pointer (some ⟨w.heap.size, 0, none⟩)), (4, .pointer (some ⟨w1.heap.size, 0, none⟩)), (5, .pointer (some ⟨w2.heap.size, 0, none⟩)), (7, .int .i64 (k : Nat))] a ∧
    DgAt w.heap.size d wr ∧ MgAt w2.heap.size m wr ∧ wr.heap[w1.heap.size]? = some (.cells (ratV 0 0 0) 34 (0, 0)) ∧ Below w.heap.size w wr) i
    ⟨0, Nat.zero_le _, rfl, fun j hj => absurd hj (Nat.not_lt_zero _), hF.keep' ⟨rfl, rfl, rfl, rfl, rfl, trivial⟩, hd7, hm7, hf7, hb7⟩ ?_
  clear hF a hd7 hm7 hf7 hb7 hb57 hb5 hb4 hb24
  rintro q a wr ⟨k, hk, rfl, hno, hF, hd, hmw, hf, hbel⟩
  have hz := hbel.size
  have hlf := lt_at hf
  by_cases hlt : k < i
  case pos =>
    have hkl : k < ms.length := by omega
    obtain ⟨b, o, hao', hck⟩ := msg_cells_at hin.msgs hbel hkl
    have c7 := hd.c 7 _ rfl
    rw [hao'] at c7
    have hstep : ¬ ((ms_ ms k).name = m.name ∨ sameId (ms_ ms k) m.id m.wide) → ∀ j, j < k + 1 → ¬ ((ms_ ms j).name = m.name ∨ sameId (ms_ ms j) m.id m.wide) := fun h j hj => by
      by_cases e : j = k
      · subst e; exact h
      · exact hno j (by omega)
    have hdup : ((ms_ ms k).name = m.name ∨ sameId (ms_ ms k) m.id m.wide) → E = (12, m.line, m.col) := fun h => by rw [hE, if_pos ⟨k, hlt, h⟩]
    have hsid : sameId (ms_ ms k) m.id m.wide ↔ ((ms_ ms k).id = m.id ∧ (ms_ ms k).wide = m.wide) := Iff.rfl
    obtain ⟨n, hn⟩ : ∃ x, x = ms_ ms k := ⟨_, rfl⟩
    rw [← hn] at hck hstep hdup hsid
    repeat (first | refine c_seq ?_ | refine c_block ?_ | refine c_region _ ?_ | refine wpList_nil ?_ | refine c_then ?_ | refine wp_skip ?_ | ((apply st hF); (first | exact d_move | exact d_cmpT | exact d_fieldAddr (fld _ _ _ _ rfl) (isz _ _ rfl) | exact d_indexAddrS (und _ _ rfl) (isz _ _ rfl) (j := k) | exact d_loadAgg (agg _ rfl) (isz _ _ rfl) rfl (arr_cells hck) | exact d_load (und _ _ rfl) c7); clear hF; clear a; intro a hF) | (apply c_cond_t hF; exact rfl; first | exact rfl | assumption))
    refine st_alloc hF inf27 (k := fun a r1 hg1 hgr1 hsz1 hF => ?_)
    refine st_storeAgg hF (cs := (Msg.cells n).toArray) (isz _ _ rfl) rfl rfl hg1 (msg_cells _) (k := fun a r2 hx2 hgr2 hsz2 hF => ?_)
    have hb2 : Below wr.heap.size wr r2 := ((Below.refl _ wr).grown hgr1 (Nat.le_refl _) (fun k hk => by cases hk)).grown hgr2 (by omega) (fun k hk => by cases hk; exact Nat.le_refl _)
    have hx2 : MgAt wr.heap.size n r2 := hx2
    clear hg1 hgr1 hgr2
    have hd2 := hd.below hb2
    have hm2 := hmw.below hb2
    have hf2 := (hb2.block _ hlf).trans hf
    have hB2 : Below w.heap.size w r2 := hbel.trans (hb2.mono hz)
    have n4 := hx2.c 4 _ rfl
    have n2 := hx2.c 2 _ rfl
    have n3 := hx2.c 3 _ rfl
    have m4 := hm2.c 4 _ rfl
    have m2 := hm2.c 2 _ rfl
    have m3 := hm2.c 3 _ rfl
    have bad : ∀ {a : Act}, E = (12, m.line, m.col) → True := fun _ => trivial
    clear bad
    by_cases hnm : n.name = m.name
    · have hEE := hdup (.inl hnm)
      have hd' : decide (n.name = m.name) = true := decide_eq_true hnm
      repeat (first | refine c_seq ?_ | refine c_region _ ?_ | refine wpList_nil ?_ | refine c_then ?_ | ((apply st hF); (first | exact d_move | exact d_pickT | exact d_eqST | exact d_fieldAddr (fld _ _ _ _ rfl) (isz _ _ rfl) | exact d_loadAgg (agg _ rfl) (isz _ _ rfl) rfl hm2.pl | exact d_load (und _ _ rfl) n4 | exact d_load (und _ _ rfl) m4); clear hF; clear a; intro a hF) | ((first | apply stm hF | apply stu hF); clear hF; clear a; intro a hF) | (apply c_cond_t hF; exact rfl; first | exact rfl | assumption))
      refine stc hF (rat9_ok r2 12 m.line m.col) cal22 ⟨rfl, rfl, trivial⟩ (k := fun a v w4 hR hF => ?_)
      obtain ⟨rfl, hb4⟩ := hR
      have hf4 := (hb4.block _ (lt_at hf2)).trans hf2
      replace hb4 := hB2.trans (hb4.mono hB2.size)
      refine st_storeAgg hF (cs := ratV 12 m.line m.col) (isz _ _ rfl) (ratV_size _ _ _) (ratV_size _ _ _) hf4 (ratV_one _ _ _) (k := fun a w5 hf5 hgr5 hsz5 hF => ?_)
      repeat (first | refine wpList_nil ?_ | refine c_then ?_ | refine c_then_ret ?_ | refine c_in_ret ?_ | refine wp_ret ?_)
      exact ret_c hF rfl (agg _ rfl) (by rw [ratV_size]; exact isz _ _ rfl) hf5 rfl ⟨by rw [hEE], hb4.grown hgr5 hb4.size (fun k hk => by cases hk; omega)⟩
    have hd' : decide (n.name = m.name) = false := decide_eq_false hnm
    by_cases hidm : n.id = m.id
    case neg =>
      repeat (first | refine c_seq ?_ | refine c_region _ ?_ | refine wpList_nil ?_ | refine c_then ?_ | refine c_in ?_ | refine wp_skip ?_ | ((first | apply st hF | apply stg hF); (first | exact d_move | exact d_assign | exact d_pickF | exact d_add | exact d_cmpF | exact d_eqSF | exact d_fieldAddr (fld _ _ _ _ rfl) (isz _ _ rfl) | exact d_load (und _ _ rfl) n4 | exact d_load (und _ _ rfl) m4 | exact d_load (und _ _ rfl) n2 | exact d_load (und _ _ rfl) m2); clear hF; clear a; intro a hF) | ((apply stm hF); clear hF; clear a; intro a hF) | (apply c_cond_f hF; exact rfl; first | exact rfl | assumption))
      exact ⟨i - (k + 1), by omega, k + 1, by omega, rfl, hstep (fun h => h.elim hnm (fun h => hidm (hsid.1 h).1)), hF.keep' ⟨rfl, rfl, rfl, rfl, rfl, trivial⟩, hd2, hm2, hf2, hB2⟩
    by_cases hwd : n.wide = m.wide
    case neg =>
      have hbt : (n.wide == m.wide) = false := by simpa using hwd
      repeat (first | refine c_seq ?_ | refine c_region _ ?_ | refine wpList_nil ?_ | refine c_then ?_ | refine c_in ?_ | refine wp_skip ?_ | ((first | apply st hF | apply stg hF); (first | exact d_move | exact d_assign | exact d_pickT | exact d_pickF | exact d_add | exact d_cmpT | exact d_eqbF (und _ _ rfl) | exact d_eqSF | exact d_fieldAddr (fld _ _ _ _ rfl) (isz _ _ rfl) | exact d_load (und _ _ rfl) n4 | exact d_load (und _ _ rfl) m4 | exact d_load (und _ _ rfl) n2 | exact d_load (und _ _ rfl) m2 | exact d_load (und _ _ rfl) n3 | exact d_load (und _ _ rfl) m3); clear hF; clear a; intro a hF) | (apply c_cond_f hF; exact rfl; first | exact rfl | assumption))
      exact ⟨i - (k + 1), by omega, k + 1, by omega, rfl, hstep (fun h => h.elim hnm (fun h => hwd (hsid.1 h).2)), hF.keep' ⟨rfl, rfl, rfl, rfl, rfl, trivial⟩, hd2, hm2, hf2, hB2⟩
    have hEE := hdup (.inr (hsid.2 ⟨hidm, hwd⟩))
    have hbt : (n.wide == m.wide) = true := by simp [hwd]
    repeat (first | refine c_seq ?_ | refine c_region _ ?_ | refine wpList_nil ?_ | refine c_then ?_ | ((first | apply st hF | apply stg hF); (first | exact d_move | exact d_pickT | exact d_pickF | exact d_cmpT | exact d_eqbT (und _ _ rfl) | exact d_eqSF | exact d_fieldAddr (fld _ _ _ _ rfl) (isz _ _ rfl) | exact d_loadAgg (agg _ rfl) (isz _ _ rfl) rfl hm2.pl | exact d_load (und _ _ rfl) n4 | exact d_load (und _ _ rfl) m4 | exact d_load (und _ _ rfl) n2 | exact d_load (und _ _ rfl) m2 | exact d_load (und _ _ rfl) n3 | exact d_load (und _ _ rfl) m3); clear hF; clear a; intro a hF) | (apply c_cond_t hF; exact rfl; first | exact rfl | assumption))
    refine stc hF (rat9_ok r2 12 m.line m.col) cal22 ⟨rfl, rfl, trivial⟩ (k := fun a v w4 hR hF => ?_)
    obtain ⟨rfl, hb4⟩ := hR
    have hf4 := (hb4.block _ (lt_at hf2)).trans hf2
    replace hb4 := hB2.trans (hb4.mono hB2.size)
    refine st_storeAgg hF (cs := ratV 12 m.line m.col) (isz _ _ rfl) (ratV_size _ _ _) (ratV_size _ _ _) hf4 (ratV_one _ _ _) (k := fun a w5 hf5 hgr5 hsz5 hF => ?_)
    repeat (first | refine wpList_nil ?_ | refine c_then ?_ | refine c_then_ret ?_ | refine c_in_ret ?_ | refine wp_ret ?_)
    exact ret_c hF rfl (agg _ rfl) (by rw [ratV_size]; exact isz _ _ rfl) hf5 rfl ⟨by rw [hEE], hb4.grown hgr5 hb4.size (fun k hk => by cases hk; omega)⟩
  obtain rfl : k = i := by omega
  rw [if_neg (fun ⟨j, hj, h⟩ => hno j hj h)] at hE
  have m6 := hmw.c 6 _ rfl
  repeat (first | refine c_seq ?_ | refine c_region _ ?_ | refine wpList_nil ?_ | refine c_then ?_ | refine c_then_exit ?_ | refine c_in_hit ?_ | refine wp_exit ?_ | ((apply st hF); (first | exact d_move | exact d_cmpF | exact d_fieldAddr (fld _ _ _ _ rfl) (isz _ _ rfl) | exact d_loadAgg (agg _ rfl) (isz _ _ rfl) rfl hd.st | exact d_load (und _ _ rfl) m6); clear hF; clear a; intro a hF) | (apply c_cond_f hF; exact rfl; first | exact rfl | assumption))
  refine stc hF (rknown_ok wr d.sline d.scol d.sn d.snN d.snC ss m.sender hsl (hin.srd.below hbel) hsby) cal66 ⟨rfl, rfl, trivial⟩ (k := fun a v r1 hR hF => ?_)
  obtain ⟨⟨kb, rfl, hkb⟩, hb1⟩ := hR
  have hd1 := hd.below hb1
  have hm1 := hmw.below hb1
  have hf1 := (hb1.block _ hlf).trans hf
  have hB1 : Below w.heap.size w r1 := hbel.trans (hb1.mono hz)
  cases kb with
  | false =>
    rw [if_pos (fun h => by have := hkb.2 h; cases this)] at hE
    repeat (first | refine c_seq ?_ | refine c_region _ ?_ | refine wpList_nil ?_ | refine c_then ?_ | ((apply st hF); (first | exact d_not | exact d_fieldAddr (fld _ _ _ _ rfl) (isz _ _ rfl) | exact d_loadAgg (agg _ rfl) (isz _ _ rfl) rfl hm1.pl); clear hF; clear a; intro a hF) | (apply c_cond_t hF; exact rfl; first | exact rfl | assumption))
    refine stc hF (rat9_ok r1 13 m.line m.col) cal22 ⟨rfl, rfl, trivial⟩ (k := fun a v w4 hR hF => ?_)
    obtain ⟨rfl, hb4⟩ := hR
    have hf4 := (hb4.block _ (lt_at hf1)).trans hf1
    replace hb4 := hB1.trans (hb4.mono hB1.size)
    refine st_storeAgg hF (cs := ratV 13 m.line m.col) (isz _ _ rfl) (ratV_size _ _ _) (ratV_size _ _ _) hf4 (ratV_one _ _ _) (k := fun a w5 hf5 hgr5 hsz5 hF => ?_)
    repeat (first | refine wpList_nil ?_ | refine c_then ?_ | refine c_then_ret ?_ | refine wp_ret ?_)
    exact ret_c hF rfl (agg _ rfl) (by rw [ratV_size]; exact isz _ _ rfl) hf5 rfl ⟨by rw [hE], hb4.grown hgr5 hb4.size (fun k hk => by cases hk; omega)⟩
  | true =>
  rw [if_neg (fun h => h (hkb.1 rfl))] at hE
  repeat (first | refine c_seq ?_ | refine c_block ?_ | refine c_region _ ?_ | refine wpList_nil ?_ | refine c_then ?_ | refine wp_skip ?_ | ((apply st hF); (first | exact d_assign | exact d_not); clear hF; clear a; intro a hF) | (apply c_cond_f hF; exact rfl; first | exact rfl | assumption))
  refine c_loop (fun q a wr => ∃ k : Nat, k ≤ m.sgN ∧ q = m.sgN - k ∧ (∀ j, j < k → ¬ toB ss ps j) ∧
    Fr 96 [(2, .pointer (some ⟨w.heap.size, 0, none⟩)), (4, .pointer (some ⟨w1.heap.size, 0, none⟩)), (5, .pointer (some ⟨w2.heap.size, 0, none⟩)), (9, .int .i64 (k : Nat))] a ∧
    DgAt w.heap.size d wr ∧ MgAt w2.heap.size m wr ∧ wr.heap[w1.heap.size]? = some (.cells (ratV 0 0 0) 34 (0, 0)) ∧ Below w.heap.size w wr) m.sgN
    ⟨0, Nat.zero_le _, rfl, fun j hj => absurd hj (Nat.not_lt_zero _), hF.keep' ⟨rfl, rfl, rfl, rfl, trivial⟩, hd1, hm1, hf1, hB1⟩ ?_
  clear hF a hd1 hm1 hf1 hB1 hb1 hd hmw hf hbel hz hlf m6 hlt hk hno
  rintro q a wr ⟨n, hn, rfl, hno, hF, hd, hmw, hf, hbel⟩
  have hz := hbel.size
  have hlf := lt_at hf
  have c7 := hmw.c 7 _ rfl
  by_cases hlt : n < m.sgN
  case neg =>
    obtain rfl : n = m.sgN := by omega
    rw [firstAt_none (fun j hj => hno j (by omega))] at hE
    repeat (first | refine c_seq ?_ | refine c_region _ ?_ | refine wpList_nil ?_ | refine c_then ?_ | refine c_then_exit ?_ | refine c_in_hit ?_ | refine wp_exit ?_ | ((apply st hF); (first | exact d_move | exact d_cmpF | exact d_len (und _ _ rfl) | exact d_fieldAddr (fld _ _ _ _ rfl) (isz _ _ rfl) | exact d_build (vs := []) (cells := ratV 0 0 0) (by kernel_rfl) trivial | exact d_load (und _ _ rfl) c7); clear hF; clear a; intro a hF) | (apply c_cond_f hF; exact rfl; first | exact rfl | assumption))
    refine st_storeAgg hF (cs := ratV 0 0 0) (isz _ _ rfl) rfl rfl hf (ratV_one _ _ _) (k := fun a w5 hf5 hgr5 hsz5 hF => ?_)
    repeat (first | refine wpList_nil ?_ | refine c_then ?_ | refine wp_ret ?_)
    exact ret_c hF rfl (agg _ rfl) (isz _ _ rfl) hf5 rfl ⟨by rw [hE]; rfl, hbel.grown hgr5 hz (fun k hk => by cases hk; omega)⟩
  have hnl : n < ps.length := by omega
  obtain ⟨b, o, hao', hcn⟩ := sig_cells_at hmi hbel hnl
  have htx := tx_in hmi hnl
  have hbad : toB ss ps n → E = (13, (sg ps n).line, (sg ps n).col) := fun h => by
    rw [hE, firstAt_some hnl h hno]; rfl
  have htoB : toB ss ps n ↔ ∃ s, s ∈ tx ps n ∧ ¬ knownB ss s := Iff.rfl
  obtain ⟨s, hs⟩ : ∃ x, x = sg ps n := ⟨_, rfl⟩
  obtain ⟨xs, hxs⟩ : ∃ x, x = tx ps n := ⟨_, rfl⟩
  rw [← hs] at hcn htx hbad
  rw [← hxs] at htx htoB
  have hxl := htx.len
  have hxb := htx.bytes
  have hxc := htx.cap
  rw [hao'] at c7
  repeat (first | refine c_seq ?_ | refine c_block ?_ | refine c_region _ ?_ | refine wpList_nil ?_ | refine c_then ?_ | refine wp_skip ?_ | ((apply st hF); (first | exact d_move | exact d_cmpT | exact d_len (und _ _ rfl) | exact d_fieldAddr (fld _ _ _ _ rfl) (isz _ _ rfl) | exact d_indexAddrS (und _ _ rfl) (isz _ _ rfl) (j := n) | exact d_loadAgg (agg _ rfl) (isz _ _ rfl) rfl (arr_cells hcn) | exact d_load (und _ _ rfl) c7); clear hF; clear a; intro a hF) | (apply c_cond_t hF; exact rfl; first | exact rfl | assumption))
  refine st_alloc hF inf62 (k := fun a r1 hg1 hgr1 hsz1 hF => ?_)
  refine st_storeAgg hF (cs := (Sig.cells s).toArray) (isz _ _ rfl) rfl rfl hg1 (sig_cells _) (k := fun a r2 hx2 hgr2 hsz2 hF => ?_)
  have hb2 : Below wr.heap.size wr r2 := ((Below.refl _ wr).grown hgr1 (Nat.le_refl _) (fun k hk => by cases hk)).grown hgr2 (by omega) (fun k hk => by cases hk; exact Nat.le_refl _)
  have hx2 : SgAt wr.heap.size s r2 := hx2
  clear hg1 hgr1 hgr2
  have hd2 := hd.below hb2
  have hm2 := hmw.below hb2
  have hf2 := (hb2.block _ hlf).trans hf
  have hB2 : Below w.heap.size w r2 := hbel.trans (hb2.mono hz)
  repeat (first | refine c_seq ?_ | refine c_block ?_ | refine c_region _ ?_ | refine wpList_nil ?_ | refine c_then ?_ | ((apply st hF); (exact d_assign); clear hF; clear a; intro a hF))
  refine c_loop (fun q a wq => ∃ j : Nat, j ≤ xs.length ∧ q = xs.length - j ∧ (∀ i (h : i < xs.length), i < j → knownB ss xs[i]) ∧
    Fr 96 [(2, .pointer (some ⟨w.heap.size, 0, none⟩)), (4, .pointer (some ⟨w1.heap.size, 0, none⟩)), (5, .pointer (some ⟨w2.heap.size, 0, none⟩)), (9, .int .i64 (n : Nat)), (10, .pointer (some ⟨wr.heap.size, 0, none⟩)), (11, .int .i64 (j : Nat))] a ∧ Below r2.heap.size r2 wq) xs.length
    ⟨0, Nat.zero_le _, rfl, fun i _ h => absurd h (Nat.not_lt_zero _), hF.keep' ⟨rfl, rfl, rfl, rfl, rfl, rfl, trivial⟩, Below.refl _ _⟩ ?_
  clear hF a
  rintro q a wq ⟨j, hj, rfl, hkn, hF, hbq⟩
  have hBq : Below w.heap.size w wq := hB2.trans (hbq.mono hB2.size)
  have hxq := hx2.below hbq
  have hdq := hd2.below hbq
  have hmq := hm2.below hbq
  have hfq := (hbq.block _ (lt_at hf2)).trans hf2
  have c18 := hxq.c' 18 _ rfl
  rw [← hxl] at c18
  by_cases hjl : j < xs.length
  case neg =>
    obtain rfl : j = xs.length := by omega
    repeat (first | refine c_seq ?_ | refine c_region _ ?_ | refine wpList_nil ?_ | refine c_then ?_ | refine c_then_exit ?_ | refine c_in ?_ | refine c_in_hit ?_ | refine wp_exit ?_ | ((apply st hF); (first | exact d_move | exact d_assign | exact d_add | exact d_cmpF | exact d_len (und _ _ rfl) | exact d_fieldAddr (fld _ _ _ _ rfl) (isz _ _ rfl) | exact d_load (und _ _ rfl) c18); clear hF; clear a; intro a hF) | (apply c_cond_f hF; exact rfl; first | exact rfl | assumption))
    refine ⟨m.sgN - (n + 1), by omega, n + 1, by omega, rfl, fun i hi => ?_, hF.keep' ⟨rfl, rfl, rfl, rfl, trivial⟩, hdq, hmq, hfq, hBq⟩
    by_cases e : i = n
    · subst e
      intro h
      obtain ⟨x, hx, hnk⟩ := htoB.1 h
      obtain ⟨i', hi', rfl⟩ := List.getElem_of_mem hx
      exact hnk (hkn i' hi' hi')
    · exact hno i (by omega)
  obtain ⟨b1, o1, hao1, hc1⟩ := txt_at htx.rd hBq hjl
  rw [hao1] at c18
  have c18' := hxq.c' 18 _ rfl
  rw [← hxl, hao1] at c18'
  obtain ⟨x, hx⟩ : ∃ y, y = xs[j] := ⟨_, rfl⟩
  have hxm : x ∈ xs := by rw [hx]; exact List.getElem_mem hjl
  rw [← hx] at hc1
  repeat (first | (refine c_region_mix (fun wx => Below wq.heap.size wq wx) [(0, true), (1, true), (2, true), (3, true), (4, true), (5, true), (6, true), (7, false), (8, true)] 20 mixed (by kernel_rfl) (below_more (Below.refl _ wq) 1) ?_; simp only [pickX, List.filterMap_cons, List.getElem?_cons_zero, List.getElem?_cons_succ, List.filterMap_nil, Option.map_some]) | refine c_seq ?_ | refine c_block ?_ | refine c_region _ ?_ | refine wpList_nil ?_ | refine c_then ?_ | refine wp_skip ?_ | ((apply st hF); (first | exact d_move | exact d_cmpT | exact d_len (und _ _ rfl) | exact d_fieldAddr (fld _ _ _ _ rfl) (isz _ _ rfl) | exact d_load (und _ _ rfl) c18); clear hF; clear a; intro a hF) | (apply c_cond_t hF; exact rfl; first | exact rfl | assumption))
  have hdb : Below wq.heap.size wq (wq.drewN 1) := below_more (Below.refl _ wq) 1
  generalize wq.drewN 1 = r3 at *
  have hB3 : Below w.heap.size w r3 := hBq.trans (hdb.mono hBq.size)
  repeat (((apply x_step hF); intro wq hwq; (first | exact d_move | exact d_indexAddr1 (und _ _ rfl) (isz _ _ rfl) | exact d_fieldAddr (fld _ _ _ _ rfl) (isz _ _ rfl) | exact d_loadAgg (agg _ rfl) (isz _ _ rfl) rfl (hdq.below hwq).st | exact d_load (und _ _ rfl) ((keep_c c18 hwq)) | exact d_load (und _ _ rfl) ((keep_c hc1 hwq))); clear hF; clear a; intro a hF))
  refine x_one ?_
  refine stc hF (rknown_ok r3 d.sline d.scol d.sn d.snN d.snC ss x hsl (hin.srd.below hB3) hsby) cal66 ⟨rfl, rfl, trivial⟩ (k := fun a v r4 hR hF => ?_)
  obtain ⟨⟨kb, rfl, hkb⟩, hb4⟩ := hR
  replace hb4 := hdb.trans (hb4.mono hdb.size)
  refine wpList_nil ⟨rfl, hb4, ?_⟩
  have hB4 : Below w.heap.size w r4 := hBq.trans (hb4.mono hBq.size)
  have hf4 := (hb4.block _ (lt_at hfq)).trans hfq
  have hx4 := hxq.below hb4
  cases kb with
  | false =>
    have hEE := hbad (htoB.2 ⟨x, hxm, fun h => by have := hkb.2 h; cases this⟩)
    repeat (((apply x_step hF); intro wq hwq; (exact d_not); clear hF; clear a; intro a hF))
    refine x_nil ?_
    repeat (first | refine c_seq ?_ | refine c_region _ ?_ | refine c_then ?_ | ((apply st hF); (first | exact d_fieldAddr (fld _ _ _ _ rfl) (isz _ _ rfl) | exact d_loadAgg (agg _ rfl) (isz _ _ rfl) rfl hx4.pl); clear hF; clear a; intro a hF) | (apply c_cond_t hF; exact rfl; first | exact rfl | assumption))
    refine stc hF (rat9_ok r4 13 s.line s.col) cal22 ⟨rfl, rfl, trivial⟩ (k := fun a v w4 hR hF => ?_)
    obtain ⟨rfl, hb5⟩ := hR
    have hf5 := (hb5.block _ (lt_at hf4)).trans hf4
    replace hb5 := hB4.trans (hb5.mono hB4.size)
    refine st_storeAgg hF (cs := ratV 13 s.line s.col) (isz _ _ rfl) (ratV_size _ _ _) (ratV_size _ _ _) hf5 (ratV_one _ _ _) (k := fun a w5 hf6 hgr5 hsz5 hF => ?_)
    repeat (first | refine wpList_nil ?_ | refine c_then ?_ | refine c_then_ret ?_ | refine c_in_ret ?_ | refine wp_ret ?_)
    exact ret_c hF rfl (agg _ rfl) (by rw [ratV_size]; exact isz _ _ rfl) hf6 rfl ⟨by rw [hEE], hb5.grown hgr5 hb5.size (fun k hk => by cases hk; omega)⟩
  | true =>
    have hkx := hkb.1 rfl
    repeat (((apply x_step hF); intro wq hwq; (exact d_not); clear hF; clear a; intro a hF))
    refine x_nil ?_
    repeat (first | refine c_region _ ?_ | refine wpList_nil ?_ | refine c_then ?_ | refine c_in ?_ | refine wp_skip ?_ | ((apply st hF); (first | exact d_move | exact d_assign | exact d_add); clear hF; clear a; intro a hF) | (apply c_cond_f hF; exact rfl; first | exact rfl | assumption))
    exact ⟨xs.length - (j + 1), by omega, j + 1, by omega, rfl, fun i hi h => by
      by_cases e : i = j
      · subst e; rw [← hx]; exact hkx
      · exact hkn i hi (by omega), hF.keep' ⟨rfl, rfl, rfl, rfl, rfl, rfl, trivial⟩, hbq.trans (hb4.mono hbq.size)⟩
end Go.Proofs.YtjomihhpglojpaaGreatDoor
end
