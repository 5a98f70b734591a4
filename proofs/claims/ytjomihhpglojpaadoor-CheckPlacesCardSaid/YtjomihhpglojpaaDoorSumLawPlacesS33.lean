/- Laid together by a program of mine: PlacesW. -/
import Derived.Test.YtjomihhpglojpaaDoorSumLawPlacesS31
import Derived.Test.YtjomihhpglojpaaDoorSumLawPlacesS32
set_option linter.unusedSimpArgs false
set_option linter.unusedVariables false
section
/- CheckPlaces, walked. -/
namespace Go.Proofs.YtjomihhpglojpaaDoor
open Go.RowKit
set_option linter.unusedSimpArgs false
set_option linter.unusedVariables false
attribute [local irreducible] wpList wpQuiet wpStill Code.wp Exit.then Exit.inBlock bodyPost Calls Does Does0
set_option maxRecDepth 100000
theorem msgE_idx {m : Msg} {ps : List SigT} {i : Nat} (h : (msgE m ps).2 = some i) : i < ps.length := by
  unfold msgE at h
  split at h
  · cases h
  · unfold thenF at h
    split at h
    · rename_i k hk
      cases h
      exact (of_some hk).1
    · split at h
      · rename_i k hk
        cases h
        exact (of_some hk).1
      · split at h
        · rename_i k hk
          cases h
          exact (of_some hk).1
        · cases h
/-- The signals with their texts, zipped. -/
def zipP (ls : List Sig) (ps : List SigT) : List SigT := ls.zip (ps.map (·.2))
theorem zipP_len {ls : List Sig} {ps : List SigT} (h : ls.length = ps.length) : (zipP ls ps).length = ps.length := by simp [zipP, h]
theorem zipP_sg {ls : List Sig} {ps : List SigT} (h : ls.length = ps.length) {i : Nat} (hi : i < ps.length) : sg (zipP ls ps) i = ls.getD i sigM := by
  rw [sg_lt (by rw [zipP_len h]; exact hi)]
  simp [zipP, List.getD, h, hi]
theorem zipP_tx {ls : List Sig} {ps : List SigT} (h : ls.length = ps.length) {i : Nat} (hi : i < ps.length) : tx (zipP ls ps) i = tx ps i := by
  rw [tx_lt (by rw [zipP_len h]; exact hi), tx_lt hi]
  simp [zipP]
theorem zipP_map {ls : List Sig} {ps : List SigT} (h : ls.length = ps.length) : (zipP ls ps).map (·.1) = ls := by
  unfold zipP
  exact List.map_fst_zip (by simp [h])
/-- A row of signals of the call's own, each with its texts, is a list of signals. -/
theorem sigs_in {w : World} {base : Nat} {ao : Option Addr} {cap : Nat} {ls : List Sig} {ps : List SigT} (hl : ls.length = ps.length) (hown : w.ownsRow base 38 19 (.slice ao ps.length cap) ps.length (ls.flatMap Sig.cells))
    (ht : ∀ i, i < ps.length → SigIn w (ls.getD i sigM) (tx ps i)) (hby : ps.length * 176 ≤ 140737488351232) : SigsIn w ao ps.length cap (zipP ls ps) := by
  refine ⟨zipP_len hl, ?_, fun p hp => ?_, (own_cap' hown).1, hby⟩
  · rw [zipP_map hl]
    rcases Nat.eq_zero_or_pos ps.length with h0 | h0
    · intro i hi; omega
    · obtain ⟨g, rfl, _⟩ := own_some hown h0
      exact own_rdS sigc_len hown hl
  · obtain ⟨i, hi, rfl⟩ := List.getElem_of_mem hp
    have hi' : i < ps.length := by rw [zipP_len hl] at hi; exact hi
    have h1 := zipP_sg hl hi'
    have h2 := zipP_tx hl hi'
    rw [sg_lt hi] at h1
    rw [tx_lt hi] at h2
    rw [h1, h2]
    exact ht i hi'
/-- A copied signal. -/
theorem copy_sig {base : Nat} {w : World} {ps : List SigT} {ls : List Sig} {i : Nat} (hi : i < ps.length) (h : CopyOk base w ps ls i) (hs : SigIn w (sg ps i) (tx ps i)) : ∃ ao c, ls.getD i sigM = (sg ps i).cp ao c ∧ CopyT base w ao (sg ps i).toN c (tx ps i) ∧ SigIn w ((sg ps i).cp ao c) (tx ps i) := by
  obtain ⟨p, ao, c, h1, h2, h3⟩ := h
  have e : ps[i] = p := by rw [List.getElem?_eq_getElem hi] at h1; exact Option.some.inj h1
  rw [sg_lt hi, tx_lt hi] at *
  subst e
  have e2 := own_rd h3
  exact ⟨ao, c, by simp [List.getD, h2], h3, ⟨hs.len, e2.2, (own_cap' h3).1, hs.bytes⟩⟩
theorem sigB_cp {s : Sig} (h : SigB s) (ao : Option Addr) (c : Nat) : SigB (s.cp ao c) := ⟨h.sn, h.sd, h.fn, h.fd, h.mn, h.md, h.xn, h.xd, h.br⟩
theorem sigB_pl {s : Sig} (h : SigB s) (x y : Int) : SigB (s.pl x y) := ⟨h.sn, h.sd, h.fn, h.fd, h.mn, h.md, h.xn, h.xd, h.br⟩
theorem sigIn_pl {w : World} {s : Sig} {ss : List ByteArray} (h : SigIn w s ss) (x y : Int) : SigIn w (s.pl x y) ss := ⟨h.len, h.rd, h.cap, h.bytes⟩
theorem same_cp (s : Sig) (ao : Option Addr) (c : Nat) : SameSig (s.cp ao c) s := ⟨rfl, rfl, rfl, rfl, rfl, rfl, rfl, ⟨rfl, rfl, rfl, rfl, rfl, rfl, rfl, rfl⟩, rfl⟩
theorem same_pl (s : Sig) (ao : Option Addr) (c : Nat) (x y : Int) : SameSig ((s.cp ao c).pl x y) s := ⟨rfl, rfl, rfl, rfl, rfl, rfl, rfl, ⟨rfl, rfl, rfl, rfl, rfl, rfl, rfl, rfl⟩, rfl⟩
set_option maxHeartbeats 16000000 in
theorem checkplaces_ok (w : World) (m : Msg) (ps : List SigT) (line : Int) (hin : MsgIn w m ps) (hB : ∀ p ∈ ps, SigB p.1) (hg : Handle w) (hT : Tabs w) :
    Ret Tryd.prog 7 #[.agg (Msg.cells m).toArray, .int .i64 line] w (fun v w' => v = .bool true ∧ Below w.heap.size w w') := by
  have hlen := hin.len
  have hby := hin.bytes
  refine enter2 Tryd.func7 rfl 133 rfl 135 rfl (fun a hF => ?_)
  repeat (first | refine c_seq ?_ | refine c_block ?_ | refine c_region _ ?_ | refine wpList_nil ?_ | refine c_then ?_ | refine c_then_exit ?_ | refine c_then_ret ?_ | refine c_in ?_ | refine c_in_ret ?_ | refine c_in_hit ?_ | refine wp_skip ?_ | refine wp_exit ?_ | refine wp_ret ?_ | refine c_in_miss rfl ?_ | ((first | apply st hF | apply stg hF | apply s_step hF | apply s_stg hF); (first | exact d_move | exact d_assign | exact d_not | exact d_pickT | exact d_pickF | exact d_add | exact d_sub | exact d_cmpT | exact d_cmpF | exact d_cmp | exact d_eqbT (und _ _ rfl) | exact d_eqbF (und _ _ rfl) | exact d_eqb (und _ _ rfl) | exact d_eqST | exact d_eqSF | exact d_eqS | exact d_len (und _ _ rfl) | exact d_lens (und _ _ rfl) | exact d_indexAddr1 (und _ _ rfl) (isz _ _ rfl) | exact d_fieldAddr (fld _ _ _ _ rfl) (isz _ _ rfl) | exact d_eqN (ifc _ rfl) | exact d_neN (ifc _ rfl) | exact d_extract); clear hF; clear a; intro a hF) | ((first | apply stm hF | apply stu hF); clear hF; clear a; intro a hF) | (apply c_cond_t hF; exact rfl; first | exact rfl | assumption) | (apply c_cond_f hF; exact rfl; first | exact rfl | assumption) | refine s_nil ?_)
  refine st_box hF (cs := (Msg.cells m).toArray) rfl (k := fun a w1 hg1 hgr1 hsz1 hF => ?_)
  have hb1 : Below w.heap.size w w1 := (Below.refl _ w).grown hgr1 (Nat.le_refl _) (fun k hk => by cases hk)
  have hm1 : MgAt w.heap.size m w1 := hg1
  clear hg1 hgr1
  repeat (first | refine c_seq ?_ | refine c_block ?_ | refine c_region _ ?_ | refine wpList_nil ?_ | refine c_then ?_ | refine c_then_exit ?_ | refine c_then_ret ?_ | refine c_in ?_ | refine c_in_ret ?_ | refine c_in_hit ?_ | refine wp_skip ?_ | refine wp_exit ?_ | refine wp_ret ?_ | refine c_in_miss rfl ?_ | ((first | apply st hF | apply stg hF | apply s_step hF | apply s_stg hF); (first | exact d_move | exact d_assign | exact d_not | exact d_pickT | exact d_pickF | exact d_add | exact d_sub | exact d_cmpT | exact d_cmpF | exact d_cmp | exact d_eqbT (und _ _ rfl) | exact d_eqbF (und _ _ rfl) | exact d_eqb (und _ _ rfl) | exact d_eqST | exact d_eqSF | exact d_eqS | exact d_len (und _ _ rfl) | exact d_lens (und _ _ rfl) | exact d_indexAddr1 (und _ _ rfl) (isz _ _ rfl) | exact d_fieldAddr (fld _ _ _ _ rfl) (isz _ _ rfl) | exact d_eqN (ifc _ rfl) | exact d_neN (ifc _ rfl) | exact d_extract); clear hF; clear a; intro a hF) | ((first | apply stm hF | apply stu hF); clear hF; clear a; intro a hF) | (apply c_cond_t hF; exact rfl; first | exact rfl | assumption) | (apply c_cond_f hF; exact rfl; first | exact rfl | assumption) | refine s_nil ?_)
  refine stc hF (works_ok w1 (hT.below hb1)) cal9 trivial (k := fun a v w2 hR hF => ?_)
  obtain ⟨rfl, hb2⟩ := hR
  have hm2 := hm1.below hb2
  replace hb2 := hb1.trans (hb2.mono hb1.size)
  by_cases hbig : (m.sgN : Int) > 1000
  · repeat (first | refine c_seq ?_ | refine c_block ?_ | refine c_region _ ?_ | refine wpList_nil ?_ | refine c_then ?_ | refine c_then_exit ?_ | refine c_then_ret ?_ | refine c_in ?_ | refine c_in_ret ?_ | refine c_in_hit ?_ | refine wp_skip ?_ | refine wp_exit ?_ | refine wp_ret ?_ | refine c_in_miss rfl ?_ | ((first | apply st hF | apply stg hF | apply s_step hF | apply s_stg hF); (first | exact d_move | exact d_assign | exact d_not | exact d_pickT | exact d_pickF | exact d_add | exact d_sub | exact d_cmpT | exact d_cmpF | exact d_cmp | exact d_eqbT (und _ _ rfl) | exact d_eqbF (und _ _ rfl) | exact d_eqb (und _ _ rfl) | exact d_eqST | exact d_eqSF | exact d_eqS | exact d_len (und _ _ rfl) | exact d_lens (und _ _ rfl) | exact d_indexAddr1 (und _ _ rfl) (isz _ _ rfl) | exact d_fieldAddr (fld _ _ _ _ rfl) (isz _ _ rfl) | exact d_eqN (ifc _ rfl) | exact d_neN (ifc _ rfl) | exact d_extract | exact d_load (und _ _ rfl) (hm2.c 7 _ rfl)); clear hF; clear a; intro a hF) | ((first | apply stm hF | apply stu hF); clear hF; clear a; intro a hF) | (apply c_cond_t hF; exact rfl; first | exact rfl | assumption) | (apply c_cond_f hF; exact rfl; first | exact rfl | assumption) | refine s_nil ?_)
    exact ret1 hF rfl rfl ⟨rfl, hb2⟩
  have hN : m.sgN ≤ 1000 := by omega
  repeat (first | refine c_seq ?_ | refine c_block ?_ | refine c_region _ ?_ | refine wpList_nil ?_ | refine c_then ?_ | refine c_then_exit ?_ | refine c_then_ret ?_ | refine c_in ?_ | refine c_in_ret ?_ | refine c_in_hit ?_ | refine wp_skip ?_ | refine wp_exit ?_ | refine wp_ret ?_ | refine c_in_miss rfl ?_ | ((first | apply st hF | apply stg hF | apply s_step hF | apply s_stg hF); (first | exact d_move | exact d_assign | exact d_not | exact d_pickT | exact d_pickF | exact d_add | exact d_sub | exact d_cmpT | exact d_cmpF | exact d_cmp | exact d_eqbT (und _ _ rfl) | exact d_eqbF (und _ _ rfl) | exact d_eqb (und _ _ rfl) | exact d_eqST | exact d_eqSF | exact d_eqS | exact d_len (und _ _ rfl) | exact d_lens (und _ _ rfl) | exact d_indexAddr1 (und _ _ rfl) (isz _ _ rfl) | exact d_fieldAddr (fld _ _ _ _ rfl) (isz _ _ rfl) | exact d_eqN (ifc _ rfl) | exact d_neN (ifc _ rfl) | exact d_extract | exact d_loadAgg (agg _ rfl) (isz _ _ rfl) rfl (cells_at hm2) | exact d_load (und _ _ rfl) (hm2.c 7 _ rfl)); clear hF; clear a; intro a hF) | ((first | apply stm hF | apply stu hF); clear hF; clear a; intro a hF) | (apply c_cond_t hF; exact rfl; first | exact rfl | assumption) | (apply c_cond_f hF; exact rfl; first | exact rfl | assumption) | refine s_nil ?_)
  refine stc hF (copy_message w2 m ps (SigsIn.below hin hb2)) cal12 ⟨rfl, trivial⟩ (k := fun a v w3 hR hF => ?_)
  obtain ⟨ao, cap, ls, rfl, hcs, hb3⟩ := hR
  have hm3 := hm2.below hb3
  replace hb3 := hb2.trans (hb3.mono hb2.size)
  have hz2 := hb2.size
  have hz3 := hb3.size
  have hlm3 := lt_at hm3
  have hlm2 := lt_at hm2
  refine st_alloc hF inf27 (k := fun a w4 hg4 hgr4 hsz4 hF => ?_)
  refine st_storeAgg hF (cs := (Msg.cells (m.cp ao cap)).toArray) (isz _ _ rfl) rfl rfl hg4 (msg_cells _) (k := fun a w5 hg5 hgr5 hsz5 hF => ?_)
  repeat (first | refine c_seq ?_ | refine c_block ?_ | refine c_region _ ?_ | refine wpList_nil ?_ | refine c_then ?_ | refine c_then_exit ?_ | refine c_then_ret ?_ | refine c_in ?_ | refine c_in_ret ?_ | refine c_in_hit ?_ | refine wp_skip ?_ | refine wp_exit ?_ | refine wp_ret ?_ | refine c_in_miss rfl ?_ | ((first | apply st hF | apply stg hF | apply s_step hF | apply s_stg hF); (first | exact d_move | exact d_assign | exact d_not | exact d_pickT | exact d_pickF | exact d_add | exact d_sub | exact d_cmpT | exact d_cmpF | exact d_cmp | exact d_eqbT (und _ _ rfl) | exact d_eqbF (und _ _ rfl) | exact d_eqb (und _ _ rfl) | exact d_eqST | exact d_eqSF | exact d_eqS | exact d_len (und _ _ rfl) | exact d_lens (und _ _ rfl) | exact d_indexAddr1 (und _ _ rfl) (isz _ _ rfl) | exact d_fieldAddr (fld _ _ _ _ rfl) (isz _ _ rfl) | exact d_eqN (ifc _ rfl) | exact d_neN (ifc _ rfl) | exact d_extract | exact d_build (vs := [(0, .int .i64 line), (1, .int .i64 0)]) (cells := #[.int .i64 line, .int .i64 0]) (by kernel_rfl) ⟨rfl, rfl, rfl, rfl, trivial⟩); clear hF; clear a; intro a hF) | ((first | apply stm hF | apply stu hF); clear hF; clear a; intro a hF) | (apply c_cond_t hF; exact rfl; first | exact rfl | assumption) | (apply c_cond_f hF; exact rfl; first | exact rfl | assumption) | refine s_nil ?_)
  refine st_storePart hF (cs := #[.int .i64 line, .int .i64 0]) (o := 0 + 0) (isz _ _ rfl) rfl (by show 2 ≤ 8; decide) hg5 (by simp [Value.oneCell']) (k := fun a w6 hg6 hgr6 hsz6 hF => ?_)
  obtain ⟨mx, hmx⟩ : ∃ x : Msg, x = { m.cp ao cap with line := line, col := 0 } := ⟨_, rfl⟩
  have hx6 : MgAt w3.heap.size mx w6 := by rw [hmx]; exact hg6
  have hb36 : Below w3.heap.size w3 w6 := ((Below.refl _ w3).grown hgr4 (Nat.le_refl _) (fun k hk => by cases hk)).grown hgr5 (by omega) (fun k hk => by cases hk; exact Nat.le_refl _) |>.grown hgr6 (by omega) (fun k hk => by cases hk; exact Nat.le_refl _)
  have hcs6 := hcs.below hb36
  have hm6 := hm3.below hb36
  have hb6 : Below w.heap.size w w6 := hb3.trans (hb36.mono hb3.size)
  have hz6 := hb36.size
  have hmxs : mx.sg = ao ∧ mx.sgN = m.sgN ∧ mx.sgC = cap := by rw [hmx]; exact ⟨rfl, rfl, rfl⟩
  clear hg4 hg5 hg6 hgr4 hgr5 hgr6 hm1 hb1 hm2 hb2 hm3 hcs hb36
  have hxc : ∀ wq, MgAt w3.heap.size mx wq → wq.cell? ⟨w3.heap.size, 0 + 7, none⟩ = some (.slice ao m.sgN cap) := fun wq h => by
    have := h.c 7 _ rfl
    rw [hmxs.1, hmxs.2.1, hmxs.2.2] at this
    exact this
  have hspec : ∀ i, i < ps.length → SigIn w (sg ps i) (tx ps i) := fun i hi => tx_in hin hi
  repeat (first | refine c_seq ?_ | refine c_block ?_ | refine c_region _ ?_ | refine wpList_nil ?_ | refine c_then ?_ | refine c_then_exit ?_ | refine c_then_ret ?_ | refine c_in ?_ | refine c_in_ret ?_ | refine c_in_hit ?_ | refine wp_skip ?_ | refine wp_exit ?_ | refine wp_ret ?_ | refine c_in_miss rfl ?_ | ((first | apply st hF | apply stg hF | apply s_step hF | apply s_stg hF); (first | exact d_move | exact d_assign | exact d_not | exact d_pickT | exact d_pickF | exact d_add | exact d_sub | exact d_cmpT | exact d_cmpF | exact d_cmp | exact d_eqbT (und _ _ rfl) | exact d_eqbF (und _ _ rfl) | exact d_eqb (und _ _ rfl) | exact d_eqST | exact d_eqSF | exact d_eqS | exact d_len (und _ _ rfl) | exact d_lens (und _ _ rfl) | exact d_indexAddr1 (und _ _ rfl) (isz _ _ rfl) | exact d_fieldAddr (fld _ _ _ _ rfl) (isz _ _ rfl) | exact d_eqN (ifc _ rfl) | exact d_neN (ifc _ rfl) | exact d_extract); clear hF; clear a; intro a hF) | ((first | apply stm hF | apply stu hF); clear hF; clear a; intro a hF) | (apply c_cond_t hF; exact rfl; first | exact rfl | assumption) | (apply c_cond_f hF; exact rfl; first | exact rfl | assumption) | refine s_nil ?_)
  refine c_loop (fun q a wr => ∃ k lx, k ≤ m.sgN ∧ q = m.sgN - k ∧ lx.length = ps.length ∧ (∀ i, i < ps.length → lx.getD i sigM = if i < k then (ls.getD i sigM).pl line ((i : Int) + 1) else ls.getD i sigM) ∧
    Fr 135 [(1, .int .i64 line), (2, .pointer (some ⟨w.heap.size, 0, none⟩)), (5, .pointer (some ⟨w3.heap.size, 0, none⟩)), (6, .int .i64 (k : Nat))] a ∧
    MgAt w.heap.size m wr ∧ MgAt w3.heap.size mx wr ∧ wr.ownsRow w2.heap.size 38 19 (.slice ao ps.length cap) ps.length (lx.flatMap Sig.cells) ∧ (∀ i, i < ps.length → CopyOk w2.heap.size wr ps ls i) ∧ Below w.heap.size w wr) m.sgN
    ⟨0, ls, Nat.zero_le _, rfl, hcs6.len, fun i hi => (if_neg (Nat.not_lt_zero _)).symm, hF.keep' ⟨rfl, rfl, rfl, rfl, trivial⟩, hm6, hx6, hcs6.own, hcs6.ok, hb6⟩ ?_
  clear hF a hm6 hx6 hcs6 hb6
  rintro q a wr ⟨k, lx, hk, rfl, hll, hlx, hF, hm, hx, hown, hok, hbel⟩
  have hz := hbel.size
  by_cases hlt : k < m.sgN
  · have hkl : k < ps.length := by omega
    obtain ⟨g, hgo, _⟩ := own_some hown (by omega)
    have hxk := hxc wr hx
    rw [← hlen, hgo] at hxk
    rw [hgo] at hown
    have hlmw := lt_at hm
    have hlxw := lt_at hx
    have hne : some w.heap.size ≠ (some g : Option Nat) := fun e => by
      have := (own_geC hown (b := g) rfl).1
      cases e; omega
    repeat (first | refine c_seq ?_ | refine c_block ?_ | refine c_region _ ?_ | refine wpList_nil ?_ | refine c_then ?_ | refine c_then_exit ?_ | refine c_then_ret ?_ | refine c_in ?_ | refine c_in_ret ?_ | refine c_in_hit ?_ | refine wp_skip ?_ | refine wp_exit ?_ | refine wp_ret ?_ | refine c_in_miss rfl ?_ | ((first | apply st hF | apply stg hF | apply s_step hF | apply s_stg hF); (first | exact d_move | exact d_assign | exact d_not | exact d_pickT | exact d_pickF | exact d_add | exact d_sub | exact d_cmpT | exact d_cmpF | exact d_cmp | exact d_eqbT (und _ _ rfl) | exact d_eqbF (und _ _ rfl) | exact d_eqb (und _ _ rfl) | exact d_eqST | exact d_eqSF | exact d_eqS | exact d_len (und _ _ rfl) | exact d_lens (und _ _ rfl) | exact d_indexAddr1 (und _ _ rfl) (isz _ _ rfl) | exact d_fieldAddr (fld _ _ _ _ rfl) (isz _ _ rfl) | exact d_eqN (ifc _ rfl) | exact d_neN (ifc _ rfl) | exact d_extract | exact d_indexAddrS (und _ _ rfl) (isz _ _ rfl) (j := k) | exact d_build (vs := [(0, .int .i64 line), (1, .int .i64 ((k : Int) + 1))]) (cells := #[.int .i64 line, .int .i64 ((k : Int) + 1)]) (by kernel_rfl) ⟨rfl, rfl, rfl, rfl, trivial⟩ | exact d_load (und _ _ rfl) hxk); clear hF; clear a; intro a hF) | ((first | apply stm hF | apply stu hF); clear hF; clear a; intro a hF) | (apply c_cond_t hF; exact rfl; first | exact rfl | assumption) | (apply c_cond_f hF; exact rfl; first | exact rfl | assumption) | refine s_nil ?_)
    refine st_storeRowPart hF (cs := #[.int .i64 line, .int .i64 ((k : Int) + 1)]) (o := 0 + k * 19 + 0) (isz _ _ rfl) rfl (by omega) hown (by simp [Value.oneCell']) (k := fun a r2 hown2 hgr2 hsz2 hF => ?_)
    have hkx : k < lx.length := by omega
    obtain ⟨y, hy⟩ : ∃ y, lx[k] = y := ⟨_, rfl⟩
    have hfl := flat_part (sz := 19) (enc := Sig.cells) sigc_len (cs := [.int .i64 line, .int .i64 ((k : Int) + 1)]) (p := 0) (q := 2) lx k hkx (y.pl line ((k : Int) + 1)) (by decide) (by decide) (by rw [hy]; exact pl_cells _ _ _)
    have hown3 : r2.ownsRow w2.heap.size 38 19 (.slice (some ⟨g, 0, none⟩) ps.length cap) ps.length ((lx.set k (y.pl line ((k : Int) + 1))).flatMap Sig.cells) := by
      rw [← hfl]
      have e0 : 0 + k * 19 + 0 = k * 19 + 0 := by omega
      have e1 : 0 + k * 19 + 0 + 2 = k * 19 + 2 := by omega
      rw [e1, e0] at hown2
      exact hown2
    have hgx : w3.heap.size ≠ g := fun e => by
      obtain ⟨g0, cap0, cur0, h0, _, h2, _⟩ : ∃ g0 cap0 cur0, (Value.slice (some ⟨g, 0, none⟩) ps.length cap) = .slice (some ⟨g0, 0, none⟩) ps.length cap0 ∧ True ∧ wr.heap[g0]? = some (.cells cur0 38 (0, 0)) ∧ True := by
        rcases hown.2 with ⟨h0, _⟩ | ⟨g', cap', cur, h0, hb, hg', _⟩
        · cases h0
        · exact ⟨g', cap', cur, h0, trivial, hg', trivial⟩
      cases h0
      rw [← e] at h2
      have := hx.symm.trans h2
      cases this
    repeat (first | refine c_seq ?_ | refine c_block ?_ | refine c_region _ ?_ | refine wpList_nil ?_ | refine c_then ?_ | refine c_then_exit ?_ | refine c_then_ret ?_ | refine c_in ?_ | refine c_in_ret ?_ | refine c_in_hit ?_ | refine wp_skip ?_ | refine wp_exit ?_ | refine wp_ret ?_ | refine c_in_miss rfl ?_ | ((first | apply st hF | apply stg hF | apply s_step hF | apply s_stg hF); (first | exact d_move | exact d_assign | exact d_not | exact d_pickT | exact d_pickF | exact d_add | exact d_sub | exact d_cmpT | exact d_cmpF | exact d_cmp | exact d_eqbT (und _ _ rfl) | exact d_eqbF (und _ _ rfl) | exact d_eqb (und _ _ rfl) | exact d_eqST | exact d_eqSF | exact d_eqS | exact d_len (und _ _ rfl) | exact d_lens (und _ _ rfl) | exact d_indexAddr1 (und _ _ rfl) (isz _ _ rfl) | exact d_fieldAddr (fld _ _ _ _ rfl) (isz _ _ rfl) | exact d_eqN (ifc _ rfl) | exact d_neN (ifc _ rfl) | exact d_extract); clear hF; clear a; intro a hF) | ((first | apply stm hF | apply stu hF); clear hF; clear a; intro a hF) | (apply c_cond_t hF; exact rfl; first | exact rfl | assumption) | (apply c_cond_f hF; exact rfl; first | exact rfl | assumption) | refine s_nil ?_)
    refine ⟨m.sgN - (k + 1), by omega, k + 1, lx.set k (y.pl line ((k : Int) + 1)), by omega, rfl, by rw [List.length_set]; exact hll, fun i hi => ?_, hF.keep' ⟨rfl, rfl, rfl, rfl, trivial⟩, blk_kept hm hgr2 hne, blk_kept hx hgr2 (by simp; omega), by rw [hgo]; exact hown3, fun i hi => (hok i hi).keptO hown (by decide) hgr2, hbel.grown hgr2 hz (fun j hj => by cases hj; have := (own_geC hown (b := g) rfl).1; omega)⟩
    have h1 := hlx i hi
    by_cases e : i = k
    · subst e
      rw [if_neg (by omega)] at h1
      rw [if_pos (by omega), ← h1]
      simp [List.getD, hll, hkl, ← hy]
    · rw [show (lx.set k (y.pl line ((k : Int) + 1))).getD i sigM = lx.getD i sigM by rw [List.getD_eq_getElem?_getD, List.getElem?_set_ne (Ne.symm e), ← List.getD_eq_getElem?_getD], h1]
      by_cases e2 : i < k
      · rw [if_pos e2, if_pos (by omega)]
      · rw [if_neg e2, if_neg (by omega)]
  obtain rfl : k = m.sgN := by omega
  have hlx' : ∀ i, i < ps.length → ∃ ac cc, lx.getD i sigM = ((sg ps i).cp ac cc).pl line ((i : Int) + 1) ∧ SigIn wr ((sg ps i).cp ac cc) (tx ps i) := by
    intro i hi
    obtain ⟨ac, cc, h1, h2, h3⟩ := copy_sig hi (hok i hi) ((hspec i hi).below hbel)
    exact ⟨ac, cc, by rw [hlx i hi, if_pos (by omega), h1], h3⟩
  have hinx : MsgIn wr mx (zipP lx ps) := by
    unfold MsgIn
    rw [hmxs.1, hmxs.2.1, hmxs.2.2, ← hlen]
    refine sigs_in hll hown (fun i hi => ?_) (by omega)
    obtain ⟨ac, cc, h1, h2⟩ := hlx' i hi
    rw [h1]
    exact sigIn_pl h2 _ _
  have hBx : ∀ p ∈ zipP lx ps, SigB p.1 := by
    intro p hp
    obtain ⟨i, hi, rfl⟩ := List.getElem_of_mem hp
    have hi' : i < ps.length := by rw [zipP_len hll] at hi; exact hi
    have h1 := zipP_sg hll hi'
    rw [sg_lt hi] at h1
    obtain ⟨ac, cc, h2, _⟩ := hlx' i hi'
    rw [h1, h2]
    exact sigB_pl (sigB_cp (by rw [sg_lt hi']; exact hB _ (List.getElem_mem hi')) _ _) _ _
  have hsame : msgE mx (zipP lx ps) = msgE m ps := by
    refine msgE_same (zipP_len hll) (by rw [hmx]; rfl) (by rw [hmx]; rfl) fun i hi => ?_
    rw [zipP_sg hll hi, zipP_tx hll hi]
    obtain ⟨ac, cc, h1, _⟩ := hlx' i hi
    rw [h1]
    exact ⟨same_pl _ _ _ _ _, rfl⟩
  have hpc : ∀ o, (∀ i, o = some i → i < ps.length) → placeL mx (zipP lx ps) o = line ∧ placeC mx (zipP lx ps) o = (match o with | none => 0 | some i => (i : Int) + 1) := by
    intro o ho
    cases o with
    | none => rw [hmx]; exact ⟨rfl, rfl⟩
    | some i =>
      have hi := ho i rfl
      obtain ⟨ac, cc, h1, _⟩ := hlx' i hi
      show (sg (zipP lx ps) i).line = line ∧ (sg (zipP lx ps) i).col = _
      rw [zipP_sg hll hi, h1]
      exact ⟨rfl, rfl⟩
  have hidx : ∀ i, (msgE m ps).2 = some i → i < ps.length := fun i h => msgE_idx h
  have hpl := hpc (msgE m ps).2 hidx
  repeat (first | refine c_seq ?_ | refine c_block ?_ | refine c_region _ ?_ | refine wpList_nil ?_ | refine c_then ?_ | refine c_then_exit ?_ | refine c_then_ret ?_ | refine c_in ?_ | refine c_in_ret ?_ | refine c_in_hit ?_ | refine wp_skip ?_ | refine wp_exit ?_ | refine wp_ret ?_ | refine c_in_miss rfl ?_ | ((first | apply st hF | apply stg hF | apply s_step hF | apply s_stg hF); (first | exact d_move | exact d_assign | exact d_not | exact d_pickT | exact d_pickF | exact d_add | exact d_sub | exact d_cmpT | exact d_cmpF | exact d_cmp | exact d_eqbT (und _ _ rfl) | exact d_eqbF (und _ _ rfl) | exact d_eqb (und _ _ rfl) | exact d_eqST | exact d_eqSF | exact d_eqS | exact d_len (und _ _ rfl) | exact d_lens (und _ _ rfl) | exact d_indexAddr1 (und _ _ rfl) (isz _ _ rfl) | exact d_fieldAddr (fld _ _ _ _ rfl) (isz _ _ rfl) | exact d_eqN (ifc _ rfl) | exact d_neN (ifc _ rfl) | exact d_extract | exact d_loadAgg (agg _ rfl) (isz _ _ rfl) rfl (cells_at hm) | exact d_load (und _ _ rfl) (hxc wr hx)); clear hF; clear a; intro a hF) | ((first | apply stm hF | apply stu hF); clear hF; clear a; intro a hF) | (apply c_cond_t hF; exact rfl; first | exact rfl | assumption) | (apply c_cond_f hF; exact rfl; first | exact rfl | assumption) | refine s_nil ?_)
  refine stc hF (cmsg_ok wr m ps (SigsIn.below hin hbel) hB (hT.below hbel)) cal10 ⟨rfl, trivial⟩ (k := fun a v r1 hR hF => ?_)
  obtain ⟨rfl, hb1⟩ := hR
  have hm1 := hm.below hb1
  have hx1 := hx.below hb1
  have hinx1 : MsgIn r1 mx (zipP lx ps) := SigsIn.below hinx hb1
  replace hb1 := hbel.trans (hb1.mono hz)
  repeat (first | refine c_seq ?_ | refine c_block ?_ | refine c_region _ ?_ | refine wpList_nil ?_ | refine c_then ?_ | refine c_then_exit ?_ | refine c_then_ret ?_ | refine c_in ?_ | refine c_in_ret ?_ | refine c_in_hit ?_ | refine wp_skip ?_ | refine wp_exit ?_ | refine wp_ret ?_ | refine c_in_miss rfl ?_ | ((first | apply st hF | apply stg hF | apply s_step hF | apply s_stg hF); (first | exact d_move | exact d_assign | exact d_not | exact d_pickT | exact d_pickF | exact d_add | exact d_sub | exact d_cmpT | exact d_cmpF | exact d_cmp | exact d_eqbT (und _ _ rfl) | exact d_eqbF (und _ _ rfl) | exact d_eqb (und _ _ rfl) | exact d_eqST | exact d_eqSF | exact d_eqS | exact d_len (und _ _ rfl) | exact d_lens (und _ _ rfl) | exact d_indexAddr1 (und _ _ rfl) (isz _ _ rfl) | exact d_fieldAddr (fld _ _ _ _ rfl) (isz _ _ rfl) | exact d_eqN (ifc _ rfl) | exact d_neN (ifc _ rfl) | exact d_extract | exact d_loadAgg (agg _ rfl) (isz _ _ rfl) rfl (cells_at hx1)); clear hF; clear a; intro a hF) | ((first | apply stm hF | apply stu hF); clear hF; clear a; intro a hF) | (apply c_cond_t hF; exact rfl; first | exact rfl | assumption) | (apply c_cond_f hF; exact rfl; first | exact rfl | assumption) | refine s_nil ?_)
  refine stc hF (cmsg_ok r1 mx _ hinx1 hBx (hT.below hb1)) cal10 ⟨rfl, trivial⟩ (k := fun a v r2 hR hF => ?_)
  obtain ⟨rfl, hb2⟩ := hR
  have hm2 := hm1.below hb2
  replace hb2 := hb1.trans (hb2.mono hb1.size)
  rw [hsame, hpl.1, hpl.2] at hF
  have hbnd := msgE_bnd m ps
  clear hsame hpc hpl hBx hinx hinx1 hlx' hlx hok hown hx1 hx hm1 hxc
  obtain ⟨no, hno⟩ : ∃ x, x = (msgE m ps).1 := ⟨_, rfl⟩
  obtain ⟨pi, hpi⟩ : ∃ x, x = (msgE m ps).2 := ⟨_, rfl⟩
  rw [← hno, ← hpi] at hF
  rw [← hno] at hbnd
  rw [← hpi] at hidx
  by_cases h0 : no = 0
  · rw [show ∀ x y, atV no x y = .nilIface from fun x y => if_pos h0] at hF
    rw [show ∀ x y, atV no x y = .nilIface from fun x y => if_pos h0] at hF
    repeat (first | refine c_seq ?_ | refine c_block ?_ | refine c_region _ ?_ | refine wpList_nil ?_ | refine c_then ?_ | refine c_then_exit ?_ | refine c_then_ret ?_ | refine c_in ?_ | refine c_in_ret ?_ | refine c_in_hit ?_ | refine wp_skip ?_ | refine wp_exit ?_ | refine wp_ret ?_ | refine c_in_miss rfl ?_ | ((first | apply st hF | apply stg hF | apply s_step hF | apply s_stg hF); (first | exact d_move | exact d_assign | exact d_not | exact d_pickT | exact d_pickF | exact d_add | exact d_sub | exact d_cmpT | exact d_cmpF | exact d_cmp | exact d_eqbT (und _ _ rfl) | exact d_eqbF (und _ _ rfl) | exact d_eqb (und _ _ rfl) | exact d_eqST | exact d_eqSF | exact d_eqS | exact d_len (und _ _ rfl) | exact d_lens (und _ _ rfl) | exact d_indexAddr1 (und _ _ rfl) (isz _ _ rfl) | exact d_fieldAddr (fld _ _ _ _ rfl) (isz _ _ rfl) | exact d_eqN (ifc _ rfl) | exact d_neN (ifc _ rfl) | exact d_extract); clear hF; clear a; intro a hF) | ((first | apply stm hF | apply stu hF); clear hF; clear a; intro a hF) | (apply c_cond_t hF; exact rfl; first | exact rfl | assumption) | (apply c_cond_f hF; exact rfl; first | exact rfl | assumption) | refine s_nil ?_)
    exact ret1 hF rfl rfl ⟨rfl, hb2⟩
  have ha : ∀ x y, atV no x y = fltV no x y := fun x y => if_neg h0
  rw [ha, ha] at hF
  have hn1 : 1 ≤ no := by omega
  have hn2 := hbnd.2
  cases pi with
  | none =>
    replace hF := hF.keep' (l' := [(45, fltV no line 0), (7, fltV no m.line m.col), (1, .int .i64 line), (2, .pointer (some ⟨w.heap.size, 0, none⟩))]) ⟨rfl, rfl, rfl, rfl, trivial⟩
    repeat (first | refine c_seq ?_ | refine c_block ?_ | refine c_region _ ?_ | refine wpList_nil ?_ | refine c_then ?_ | refine c_then_exit ?_ | refine c_then_ret ?_ | refine c_in ?_ | refine c_in_ret ?_ | refine c_in_hit ?_ | refine wp_skip ?_ | refine wp_exit ?_ | refine wp_ret ?_ | refine c_in_miss rfl ?_ | ((first | apply st hF | apply stg hF | apply s_step hF | apply s_stg hF); (first | exact d_move | exact d_assign | exact d_not | exact d_pickT | exact d_pickF | exact d_add | exact d_sub | exact d_cmpT | exact d_cmpF | exact d_cmp | exact d_eqbT (und _ _ rfl) | exact d_eqbF (und _ _ rfl) | exact d_eqb (und _ _ rfl) | exact d_eqST | exact d_eqSF | exact d_eqS | exact d_len (und _ _ rfl) | exact d_lens (und _ _ rfl) | exact d_indexAddr1 (und _ _ rfl) (isz _ _ rfl) | exact d_fieldAddr (fld _ _ _ _ rfl) (isz _ _ rfl) | exact d_eqN (ifc _ rfl) | exact d_neN (ifc _ rfl) | exact d_extract); clear hF; clear a; intro a hF) | ((first | apply stm hF | apply stu hF); clear hF; clear a; intro a hF) | (apply c_cond_t hF; exact rfl; first | exact rfl | assumption) | (apply c_cond_f hF; exact rfl; first | exact rfl | assumption) | refine s_nil ?_)
    refine stc hF (place_f r2 no m.line m.col (hg.below hb2) hn1 hn2) cal23 ⟨rfl, trivial⟩ (k := fun a v r3 hR hF => ?_)
    obtain ⟨rfl, hb3⟩ := hR
    have hm3 := hm2.below hb3
    replace hb3 := hb2.trans (hb3.mono hb2.size)
    repeat (first | refine c_seq ?_ | refine c_block ?_ | refine c_region _ ?_ | refine wpList_nil ?_ | refine c_then ?_ | refine c_then_exit ?_ | refine c_then_ret ?_ | refine c_in ?_ | refine c_in_ret ?_ | refine c_in_hit ?_ | refine wp_skip ?_ | refine wp_exit ?_ | refine wp_ret ?_ | refine c_in_miss rfl ?_ | ((first | apply st hF | apply stg hF | apply s_step hF | apply s_stg hF); (first | exact d_move | exact d_assign | exact d_not | exact d_pickT | exact d_pickF | exact d_add | exact d_sub | exact d_cmpT | exact d_cmpF | exact d_cmp | exact d_eqbT (und _ _ rfl) | exact d_eqbF (und _ _ rfl) | exact d_eqb (und _ _ rfl) | exact d_eqST | exact d_eqSF | exact d_eqS | exact d_len (und _ _ rfl) | exact d_lens (und _ _ rfl) | exact d_indexAddr1 (und _ _ rfl) (isz _ _ rfl) | exact d_fieldAddr (fld _ _ _ _ rfl) (isz _ _ rfl) | exact d_eqN (ifc _ rfl) | exact d_neN (ifc _ rfl) | exact d_extract); clear hF; clear a; intro a hF) | ((first | apply stm hF | apply stu hF); clear hF; clear a; intro a hF) | (apply c_cond_t hF; exact rfl; first | exact rfl | assumption) | (apply c_cond_f hF; exact rfl; first | exact rfl | assumption) | refine s_nil ?_)
    refine stc hF (place_f r3 no line 0 (hg.below hb3) hn1 hn2) cal23 ⟨rfl, trivial⟩ (k := fun a v r4 hR hF => ?_)
    obtain ⟨rfl, hb4⟩ := hR
    have hm4 := hm3.below hb4
    replace hb4 := hb3.trans (hb4.mono hb3.size)
    repeat (first | refine c_seq ?_ | refine c_block ?_ | refine c_region _ ?_ | refine wpList_nil ?_ | refine c_then ?_ | refine c_then_exit ?_ | refine c_then_ret ?_ | refine c_in ?_ | refine c_in_ret ?_ | refine c_in_hit ?_ | refine wp_skip ?_ | refine wp_exit ?_ | refine wp_ret ?_ | refine c_in_miss rfl ?_ | ((first | apply st hF | apply stg hF | apply s_step hF | apply s_stg hF); (first | exact d_move | exact d_assign | exact d_not | exact d_pickT | exact d_pickF | exact d_add | exact d_sub | exact d_cmpT | exact d_cmpF | exact d_cmp | exact d_eqbT (und _ _ rfl) | exact d_eqbF (und _ _ rfl) | exact d_eqb (und _ _ rfl) | exact d_eqST | exact d_eqSF | exact d_eqS | exact d_len (und _ _ rfl) | exact d_lens (und _ _ rfl) | exact d_indexAddr1 (und _ _ rfl) (isz _ _ rfl) | exact d_fieldAddr (fld _ _ _ _ rfl) (isz _ _ rfl) | exact d_eqN (ifc _ rfl) | exact d_neN (ifc _ rfl) | exact d_extract); clear hF; clear a; intro a hF) | ((first | apply stm hF | apply stu hF); clear hF; clear a; intro a hF) | (apply c_cond_t hF; exact rfl; first | exact rfl | assumption) | (apply c_cond_f hF; exact rfl; first | exact rfl | assumption) | refine s_nil ?_)
    refine stcg hF (num_f r4 no m.line m.col hn1 hn2) cal13 ⟨rfl, trivial⟩ (k := fun a v r5 hR hF => ?_)
    obtain ⟨rfl, hb5⟩ := hR
    have hm5 := hm4.below hb5
    replace hb5 := hb4.trans (hb5.mono hb4.size)
    repeat (first | refine c_seq ?_ | refine c_block ?_ | refine c_region _ ?_ | refine wpList_nil ?_ | refine c_then ?_ | refine c_then_exit ?_ | refine c_then_ret ?_ | refine c_in ?_ | refine c_in_ret ?_ | refine c_in_hit ?_ | refine wp_skip ?_ | refine wp_exit ?_ | refine wp_ret ?_ | refine c_in_miss rfl ?_ | ((first | apply st hF | apply stg hF | apply s_step hF | apply s_stg hF); (first | exact d_move | exact d_assign | exact d_not | exact d_pickT | exact d_pickF | exact d_add | exact d_sub | exact d_cmpT | exact d_cmpF | exact d_cmp | exact d_eqbT (und _ _ rfl) | exact d_eqbF (und _ _ rfl) | exact d_eqb (und _ _ rfl) | exact d_eqST | exact d_eqSF | exact d_eqS | exact d_len (und _ _ rfl) | exact d_lens (und _ _ rfl) | exact d_indexAddr1 (und _ _ rfl) (isz _ _ rfl) | exact d_fieldAddr (fld _ _ _ _ rfl) (isz _ _ rfl) | exact d_eqN (ifc _ rfl) | exact d_neN (ifc _ rfl) | exact d_extract); clear hF; clear a; intro a hF) | ((first | apply stm hF | apply stu hF); clear hF; clear a; intro a hF) | (apply c_cond_t hF; exact rfl; first | exact rfl | assumption) | (apply c_cond_f hF; exact rfl; first | exact rfl | assumption) | refine s_nil ?_)
    refine stcg hF (num_f r5 no line 0 hn1 hn2) cal13 ⟨rfl, trivial⟩ (k := fun a v r6 hR hF => ?_)
    obtain ⟨rfl, hb6⟩ := hR
    have hm6 := hm5.below hb6
    replace hb6 := hb5.trans (hb6.mono hb5.size)
    repeat (first | refine c_seq ?_ | refine c_block ?_ | refine c_region _ ?_ | refine wpList_nil ?_ | refine c_then ?_ | refine c_then_exit ?_ | refine c_then_ret ?_ | refine c_in ?_ | refine c_in_ret ?_ | refine c_in_hit ?_ | refine wp_skip ?_ | refine wp_exit ?_ | refine wp_ret ?_ | refine c_in_miss rfl ?_ | ((first | apply st hF | apply stg hF | apply s_step hF | apply s_stg hF); (first | exact d_move | exact d_assign | exact d_not | exact d_pickT | exact d_pickF | exact d_add | exact d_sub | exact d_cmpT | exact d_cmpF | exact d_cmp | exact d_eqbT (und _ _ rfl) | exact d_eqbF (und _ _ rfl) | exact d_eqb (und _ _ rfl) | exact d_eqST | exact d_eqSF | exact d_eqS | exact d_len (und _ _ rfl) | exact d_lens (und _ _ rfl) | exact d_indexAddr1 (und _ _ rfl) (isz _ _ rfl) | exact d_fieldAddr (fld _ _ _ _ rfl) (isz _ _ rfl) | exact d_eqN (ifc _ rfl) | exact d_neN (ifc _ rfl) | exact d_extract | exact d_load (und _ _ rfl) (hm6.c 7 _ rfl) | exact d_load (und _ _ rfl) (hm6.pl 0 _ rfl) | exact d_load (und _ _ rfl) (hm6.pl 1 _ rfl)); clear hF; clear a; intro a hF) | ((first | apply stm hF | apply stu hF); clear hF; clear a; intro a hF) | (apply c_cond_t hF; exact rfl; first | exact rfl | assumption) | (apply c_cond_f hF; exact rfl; first | exact rfl | assumption) | refine s_nil ?_)
    exact ret1 hF rfl rfl ⟨rfl, hb6⟩
  | some i =>
    have hil := hidx i rfl
    replace hF := hF.keep' (l' := [(45, fltV no line ((i : Int) + 1)), (7, fltV no (sg ps i).line (sg ps i).col), (1, .int .i64 line), (2, .pointer (some ⟨w.heap.size, 0, none⟩))]) ⟨rfl, rfl, rfl, rfl, trivial⟩
    repeat (first | refine c_seq ?_ | refine c_block ?_ | refine c_region _ ?_ | refine wpList_nil ?_ | refine c_then ?_ | refine c_then_exit ?_ | refine c_then_ret ?_ | refine c_in ?_ | refine c_in_ret ?_ | refine c_in_hit ?_ | refine wp_skip ?_ | refine wp_exit ?_ | refine wp_ret ?_ | refine c_in_miss rfl ?_ | ((first | apply st hF | apply stg hF | apply s_step hF | apply s_stg hF); (first | exact d_move | exact d_assign | exact d_not | exact d_pickT | exact d_pickF | exact d_add | exact d_sub | exact d_cmpT | exact d_cmpF | exact d_cmp | exact d_eqbT (und _ _ rfl) | exact d_eqbF (und _ _ rfl) | exact d_eqb (und _ _ rfl) | exact d_eqST | exact d_eqSF | exact d_eqS | exact d_len (und _ _ rfl) | exact d_lens (und _ _ rfl) | exact d_indexAddr1 (und _ _ rfl) (isz _ _ rfl) | exact d_fieldAddr (fld _ _ _ _ rfl) (isz _ _ rfl) | exact d_eqN (ifc _ rfl) | exact d_neN (ifc _ rfl) | exact d_extract); clear hF; clear a; intro a hF) | ((first | apply stm hF | apply stu hF); clear hF; clear a; intro a hF) | (apply c_cond_t hF; exact rfl; first | exact rfl | assumption) | (apply c_cond_f hF; exact rfl; first | exact rfl | assumption) | refine s_nil ?_)
    refine stc hF (place_f r2 no (sg ps i).line (sg ps i).col (hg.below hb2) hn1 hn2) cal23 ⟨rfl, trivial⟩ (k := fun a v r3 hR hF => ?_)
    obtain ⟨rfl, hb3⟩ := hR
    have hm3 := hm2.below hb3
    replace hb3 := hb2.trans (hb3.mono hb2.size)
    repeat (first | refine c_seq ?_ | refine c_block ?_ | refine c_region _ ?_ | refine wpList_nil ?_ | refine c_then ?_ | refine c_then_exit ?_ | refine c_then_ret ?_ | refine c_in ?_ | refine c_in_ret ?_ | refine c_in_hit ?_ | refine wp_skip ?_ | refine wp_exit ?_ | refine wp_ret ?_ | refine c_in_miss rfl ?_ | ((first | apply st hF | apply stg hF | apply s_step hF | apply s_stg hF); (first | exact d_move | exact d_assign | exact d_not | exact d_pickT | exact d_pickF | exact d_add | exact d_sub | exact d_cmpT | exact d_cmpF | exact d_cmp | exact d_eqbT (und _ _ rfl) | exact d_eqbF (und _ _ rfl) | exact d_eqb (und _ _ rfl) | exact d_eqST | exact d_eqSF | exact d_eqS | exact d_len (und _ _ rfl) | exact d_lens (und _ _ rfl) | exact d_indexAddr1 (und _ _ rfl) (isz _ _ rfl) | exact d_fieldAddr (fld _ _ _ _ rfl) (isz _ _ rfl) | exact d_eqN (ifc _ rfl) | exact d_neN (ifc _ rfl) | exact d_extract); clear hF; clear a; intro a hF) | ((first | apply stm hF | apply stu hF); clear hF; clear a; intro a hF) | (apply c_cond_t hF; exact rfl; first | exact rfl | assumption) | (apply c_cond_f hF; exact rfl; first | exact rfl | assumption) | refine s_nil ?_)
    refine stc hF (place_f r3 no line ((i : Int) + 1) (hg.below hb3) hn1 hn2) cal23 ⟨rfl, trivial⟩ (k := fun a v r4 hR hF => ?_)
    obtain ⟨rfl, hb4⟩ := hR
    have hm4 := hm3.below hb4
    replace hb4 := hb3.trans (hb4.mono hb3.size)
    repeat (first | refine c_seq ?_ | refine c_block ?_ | refine c_region _ ?_ | refine wpList_nil ?_ | refine c_then ?_ | refine c_then_exit ?_ | refine c_then_ret ?_ | refine c_in ?_ | refine c_in_ret ?_ | refine c_in_hit ?_ | refine wp_skip ?_ | refine wp_exit ?_ | refine wp_ret ?_ | refine c_in_miss rfl ?_ | ((first | apply st hF | apply stg hF | apply s_step hF | apply s_stg hF); (first | exact d_move | exact d_assign | exact d_not | exact d_pickT | exact d_pickF | exact d_add | exact d_sub | exact d_cmpT | exact d_cmpF | exact d_cmp | exact d_eqbT (und _ _ rfl) | exact d_eqbF (und _ _ rfl) | exact d_eqb (und _ _ rfl) | exact d_eqST | exact d_eqSF | exact d_eqS | exact d_len (und _ _ rfl) | exact d_lens (und _ _ rfl) | exact d_indexAddr1 (und _ _ rfl) (isz _ _ rfl) | exact d_fieldAddr (fld _ _ _ _ rfl) (isz _ _ rfl) | exact d_eqN (ifc _ rfl) | exact d_neN (ifc _ rfl) | exact d_extract); clear hF; clear a; intro a hF) | ((first | apply stm hF | apply stu hF); clear hF; clear a; intro a hF) | (apply c_cond_t hF; exact rfl; first | exact rfl | assumption) | (apply c_cond_f hF; exact rfl; first | exact rfl | assumption) | refine s_nil ?_)
    refine stcg hF (num_f r4 no (sg ps i).line (sg ps i).col hn1 hn2) cal13 ⟨rfl, trivial⟩ (k := fun a v r5 hR hF => ?_)
    obtain ⟨rfl, hb5⟩ := hR
    have hm5 := hm4.below hb5
    replace hb5 := hb4.trans (hb5.mono hb4.size)
    repeat (first | refine c_seq ?_ | refine c_block ?_ | refine c_region _ ?_ | refine wpList_nil ?_ | refine c_then ?_ | refine c_then_exit ?_ | refine c_then_ret ?_ | refine c_in ?_ | refine c_in_ret ?_ | refine c_in_hit ?_ | refine wp_skip ?_ | refine wp_exit ?_ | refine wp_ret ?_ | refine c_in_miss rfl ?_ | ((first | apply st hF | apply stg hF | apply s_step hF | apply s_stg hF); (first | exact d_move | exact d_assign | exact d_not | exact d_pickT | exact d_pickF | exact d_add | exact d_sub | exact d_cmpT | exact d_cmpF | exact d_cmp | exact d_eqbT (und _ _ rfl) | exact d_eqbF (und _ _ rfl) | exact d_eqb (und _ _ rfl) | exact d_eqST | exact d_eqSF | exact d_eqS | exact d_len (und _ _ rfl) | exact d_lens (und _ _ rfl) | exact d_indexAddr1 (und _ _ rfl) (isz _ _ rfl) | exact d_fieldAddr (fld _ _ _ _ rfl) (isz _ _ rfl) | exact d_eqN (ifc _ rfl) | exact d_neN (ifc _ rfl) | exact d_extract); clear hF; clear a; intro a hF) | ((first | apply stm hF | apply stu hF); clear hF; clear a; intro a hF) | (apply c_cond_t hF; exact rfl; first | exact rfl | assumption) | (apply c_cond_f hF; exact rfl; first | exact rfl | assumption) | refine s_nil ?_)
    refine stcg hF (num_f r5 no line ((i : Int) + 1) hn1 hn2) cal13 ⟨rfl, trivial⟩ (k := fun a v r6 hR hF => ?_)
    obtain ⟨rfl, hb6⟩ := hR
    have hm6 := hm5.below hb6
    replace hb6 := hb5.trans (hb6.mono hb5.size)
    obtain ⟨b, o, hao, hc⟩ := sig_cells_at hin hb6 hil
    have c7 := hm6.c 7 _ rfl
    rw [hao] at c7
    have x0 : r6.cell? ⟨b, o + i * 19 + 0 + 0, none⟩ = some (.int .i64 (sg ps i).line) := hc 0 _ rfl
    have x1 : r6.cell? ⟨b, o + i * 19 + 0 + 1, none⟩ = some (.int .i64 (sg ps i).col) := hc 1 _ rfl
    repeat (first | refine c_seq ?_ | refine c_block ?_ | refine c_region _ ?_ | refine wpList_nil ?_ | refine c_then ?_ | refine c_then_exit ?_ | refine c_then_ret ?_ | refine c_in ?_ | refine c_in_ret ?_ | refine c_in_hit ?_ | refine wp_skip ?_ | refine wp_exit ?_ | refine wp_ret ?_ | refine c_in_miss rfl ?_ | ((first | apply st hF | apply stg hF | apply s_step hF | apply s_stg hF); (first | exact d_move | exact d_assign | exact d_not | exact d_pickT | exact d_pickF | exact d_add | exact d_sub | exact d_cmpT | exact d_cmpF | exact d_cmp | exact d_eqbT (und _ _ rfl) | exact d_eqbF (und _ _ rfl) | exact d_eqb (und _ _ rfl) | exact d_eqST | exact d_eqSF | exact d_eqS | exact d_len (und _ _ rfl) | exact d_lens (und _ _ rfl) | exact d_indexAddr1 (und _ _ rfl) (isz _ _ rfl) | exact d_fieldAddr (fld _ _ _ _ rfl) (isz _ _ rfl) | exact d_eqN (ifc _ rfl) | exact d_neN (ifc _ rfl) | exact d_extract | exact d_indexAddrS (und _ _ rfl) (isz _ _ rfl) (j := i) (hq := by omega) | exact d_load (und _ _ rfl) c7 | exact d_load (und _ _ rfl) x0 | exact d_load (und _ _ rfl) x1); clear hF; clear a; intro a hF) | ((first | apply stm hF | apply stu hF); clear hF; clear a; intro a hF) | (apply c_cond_t hF; exact rfl; first | exact rfl | assumption) | (apply c_cond_f hF; exact rfl; first | exact rfl | assumption) | refine s_nil ?_)
    exact ret1 hF rfl rfl ⟨rfl, hb6⟩
end Go.Proofs.YtjomihhpglojpaaDoor
end
