/- Laid together by a program of mine: SetsW. -/
import Derived.Test.YtjomihhpglojpaaDoorSumBOneW26
import Derived.Test.YtjomihhpglojpaaDoorSumLawSetsS1
import Derived.Test.YtjomihhpglojpaaDoorSumBOneW29
set_option linter.unusedSimpArgs false
set_option linter.unusedVariables false
section
/- The law's sets and meets, walked. -/
namespace Go.Proofs.YtjomihhpglojpaaDoor
open Go.RowKit
set_option linter.unusedSimpArgs false
set_option linter.unusedVariables false
attribute [local irreducible] wpList wpQuiet wpStill Code.wp Exit.then Exit.inBlock bodyPost Calls Does Does0
set_option maxRecDepth 100000
def encS (s : List Bool) : List Value := (List.range 64).map fun i => Value.bool (s.getD i false)
theorem encS_len (s : List Bool) : (encS s).length = 64 := by simp [encS]
theorem encS_set {s : List Bool} (h : s.length = 64) : (setC s).toList = encS s := by
  apply List.ext_getElem?
  intro i
  by_cases hi : i < 64
  · simp [encS, setC, hi, List.getD, h]
  · rw [List.getElem?_eq_none (by simp [setC]; omega), List.getElem?_eq_none (by simp [encS]; omega)]
theorem encS_arr {s : List Bool} (h : s.length = 64) : setC s = (encS s).toArray := by rw [← encS_set h]
theorem wh_cap {s : Sig} {n : Int} {l : List Int} (h0 : Pl.whereE s.start s.size s.mot n = 0) (hl : Pl.bitsOfSig s.start s.size s.mot = .ok l) (hn : 0 ≤ n ∧ n ≤ 8) : ∀ x ∈ l, x < 8 * n := by
  unfold Pl.whereE at h0
  rw [hl] at h0
  dsimp only at h0
  split at h0
  · rename_i hc
    intro x hx
    have := hc x hx
    have e : Pl.capN n = 8 * n := by unfold Pl.capN; split <;> split <;> omega
    omega
  · cases h0
theorem wh_ok {s : Sig} {n : Int} (h0 : Pl.whereE s.start s.size s.mot n = 0) : ∃ l, Pl.bitsOfSig s.start s.size s.mot = .ok l := by
  unfold Pl.whereE at h0
  cases h : Pl.bitsOfSig s.start s.size s.mot with
  | ok l => exact ⟨l, rfl⟩
  | error e => rw [h] at h0; have := Pl.err_15 h; dsimp only at h0; omega
theorem keep_c' {r wq : World} {p : Addr} {v : Value} (h : r.cell? p = some v) (hb : Below r.heap.size r wq) : wq.cell? p = some v := (hb.cell (World.block_lt_of_cell? r _ h)).trans h
set_option maxHeartbeats 8000000 in
theorem lsets_ok (w : World) (m : Msg) (ps : List SigT) (hin : MsgIn w m ps) (hn : 0 ≤ m.size ∧ m.size ≤ 8) (hw : ∀ i, i < ps.length → Pl.whereE (sg ps i).start (sg ps i).size (sg ps i).mot m.size = 0) :
    Ret Tryd.prog 14 [.agg (Msg.cells m).toArray].toArray w (fun v w' => ∃ (ao : Option Addr) (cap : Nat) (ts : List (List Bool)), v = .tuple #[.slice ao m.sgN cap, .bool true] ∧ ts.length = m.sgN ∧ (∀ i, i < m.sgN → SetIs (sg ps i) (ts.getD i [])) ∧
      w'.ownsRow w.heap.size 85 64 (.slice ao m.sgN cap) m.sgN (ts.flatMap encS) ∧ Below w.heap.size w w') := by
  have hlen := hin.len
  have hby := hin.bytes
  refine enter1 Tryd.func14 rfl 67 rfl 68 rfl (fun a hF => ?_)
  repeat (first | refine c_seq ?_ | refine c_block ?_ | refine c_region _ ?_ | refine wpList_nil ?_ | refine c_then ?_ | refine c_then_exit ?_ | refine c_then_ret ?_ | refine c_in ?_ | refine c_in_ret ?_ | refine c_in_hit ?_ | refine wp_skip ?_ | refine wp_exit ?_ | refine wp_ret ?_ | refine c_in_miss rfl ?_ | ((first | apply st hF | apply stg hF | apply s_step hF | apply s_stg hF); (first | exact d_move | exact d_assign | exact d_pickT | exact d_pickF | exact d_add | exact d_cmpT | exact d_cmpF | exact d_cmp | exact d_eqbT (und _ _ rfl) | exact d_eqbF (und _ _ rfl) | exact d_eqb (und _ _ rfl) | exact d_eqST | exact d_eqSF | exact d_eqS | exact d_len (und _ _ rfl) | exact d_lens (und _ _ rfl) | exact d_indexAddr1 (und _ _ rfl) (isz _ _ rfl) | exact d_fieldAddr (fld _ _ _ _ rfl) (isz _ _ rfl) | exact d_eqN (ifc _ rfl) | exact d_neN (ifc _ rfl) | exact d_extract); clear hF; clear a; intro a hF) | ((first | apply stm hF | apply stu hF); clear hF; clear a; intro a hF) | (apply c_cond_t hF; exact rfl; first | exact rfl | assumption) | (apply c_cond_f hF; exact rfl; first | exact rfl | assumption) | refine s_nil ?_)
  refine st_box hF (cs := (Msg.cells m).toArray) rfl (k := fun a w1 hg1 hgr1 hsz1 hF => ?_)
  have hb1 : Below w.heap.size w w1 := (Below.refl _ w).grown hgr1 (Nat.le_refl _) (fun k hk => by cases hk)
  have hm1 : MgAt w.heap.size m w1 := hg1
  clear hg1 hgr1
  repeat (first | refine c_seq ?_ | refine c_block ?_ | refine c_region _ ?_ | refine wpList_nil ?_ | refine c_then ?_ | refine c_then_exit ?_ | refine c_then_ret ?_ | refine c_in ?_ | refine c_in_ret ?_ | refine c_in_hit ?_ | refine wp_skip ?_ | refine wp_exit ?_ | refine wp_ret ?_ | refine c_in_miss rfl ?_ | ((first | apply st hF | apply stg hF | apply s_step hF | apply s_stg hF); (first | exact d_move | exact d_assign | exact d_pickT | exact d_pickF | exact d_add | exact d_cmpT | exact d_cmpF | exact d_cmp | exact d_eqbT (und _ _ rfl) | exact d_eqbF (und _ _ rfl) | exact d_eqb (und _ _ rfl) | exact d_eqST | exact d_eqSF | exact d_eqS | exact d_len (und _ _ rfl) | exact d_lens (und _ _ rfl) | exact d_indexAddr1 (und _ _ rfl) (isz _ _ rfl) | exact d_fieldAddr (fld _ _ _ _ rfl) (isz _ _ rfl) | exact d_eqN (ifc _ rfl) | exact d_neN (ifc _ rfl) | exact d_extract); clear hF; clear a; intro a hF) | ((first | apply stm hF | apply stu hF); clear hF; clear a; intro a hF) | (apply c_cond_t hF; exact rfl; first | exact rfl | assumption) | (apply c_cond_f hF; exact rfl; first | exact rfl | assumption) | refine s_nil ?_)
  refine c_loop (fun q a wr => ∃ (k : Nat) (ao : Option Addr) (cap : Nat) (ts : List (List Bool)), k ≤ m.sgN ∧ q = m.sgN - k ∧ ts.length = k ∧ (∀ i, i < k → SetIs (sg ps i) (ts.getD i [])) ∧ Fr 68 [(1, .pointer (some ⟨w.heap.size, 0, none⟩)), (4, .slice ao k cap), (5, .int .i64 (k : Nat))] a ∧
    MgAt w.heap.size m wr ∧ wr.ownsRow w1.heap.size 85 64 (.slice ao k cap) k (ts.flatMap encS) ∧ Below w.heap.size w wr) m.sgN
    ⟨0, none, 0, [], Nat.zero_le _, rfl, rfl, fun i hi => absurd hi (Nat.not_lt_zero _), hF.keep' ⟨rfl, rfl, rfl, trivial⟩, hm1, by simpa using World.ownsRow_nil _ _ _ _, hb1⟩ ?_
  clear hF a
  rintro q a wr ⟨k, ao, cap, ts, hk, rfl, htl, hts, hF, hm, hown, hbel⟩
  have hz := hbel.size
  by_cases hlt : k < m.sgN
  case neg =>
    obtain rfl : k = m.sgN := by omega
    repeat (first | refine c_seq ?_ | refine c_block ?_ | refine c_region _ ?_ | refine wpList_nil ?_ | refine c_then ?_ | refine c_then_exit ?_ | refine c_then_ret ?_ | refine c_in ?_ | refine c_in_ret ?_ | refine c_in_hit ?_ | refine wp_skip ?_ | refine wp_exit ?_ | refine wp_ret ?_ | refine c_in_miss rfl ?_ | ((first | apply st hF | apply stg hF | apply s_step hF | apply s_stg hF); (first | exact d_move | exact d_assign | exact d_pickT | exact d_pickF | exact d_add | exact d_cmpT | exact d_cmpF | exact d_cmp | exact d_eqbT (und _ _ rfl) | exact d_eqbF (und _ _ rfl) | exact d_eqb (und _ _ rfl) | exact d_eqST | exact d_eqSF | exact d_eqS | exact d_len (und _ _ rfl) | exact d_lens (und _ _ rfl) | exact d_indexAddr1 (und _ _ rfl) (isz _ _ rfl) | exact d_fieldAddr (fld _ _ _ _ rfl) (isz _ _ rfl) | exact d_eqN (ifc _ rfl) | exact d_neN (ifc _ rfl) | exact d_extract | exact d_load (und _ _ rfl) (hm.c 7 _ rfl)); clear hF; clear a; intro a hF) | ((first | apply stm hF | apply stu hF); clear hF; clear a; intro a hF) | (apply c_cond_t hF; exact rfl; first | exact rfl | assumption) | (apply c_cond_f hF; exact rfl; first | exact rfl | assumption) | refine s_nil ?_)
    exact ret2 hF rfl rfl rfl ⟨ao, cap, ts, rfl, htl, hts, own_rebase hown fun j hj => (by have := (own_geA hown hj).1; omega), hbel⟩
  have hkl : k < ps.length := by omega
  obtain ⟨b, o, hao, hc⟩ := sig_cells_at hin hbel hkl
  have hw0 := hw k hkl
  obtain ⟨l, hl⟩ := wh_ok hw0
  obtain ⟨hl64, hl63, t, hset, htlen, htg⟩ := Pl.row_set' hl
  have hSI : SetIs (sg ps k) t := set_is hl hset
  have hcap := wh_cap hw0 hl hn
  have hsz : (l.length : Int) = (sg ps k).size := (Pl.bits_ok hl).2.2.2.2.1
  have c7 := hm.c 7 _ rfl
  rw [hao] at c7
  generalize hs : sg ps k = s at *
  repeat (first | refine c_seq ?_ | refine c_block ?_ | refine c_region _ ?_ | refine wpList_nil ?_ | refine c_then ?_ | refine c_then_exit ?_ | refine c_then_ret ?_ | refine c_in ?_ | refine c_in_ret ?_ | refine c_in_hit ?_ | refine wp_skip ?_ | refine wp_exit ?_ | refine wp_ret ?_ | refine c_in_miss rfl ?_ | ((first | apply st hF | apply stg hF | apply s_step hF | apply s_stg hF); (first | exact d_move | exact d_assign | exact d_pickT | exact d_pickF | exact d_add | exact d_cmpT | exact d_cmpF | exact d_cmp | exact d_eqbT (und _ _ rfl) | exact d_eqbF (und _ _ rfl) | exact d_eqb (und _ _ rfl) | exact d_eqST | exact d_eqSF | exact d_eqS | exact d_len (und _ _ rfl) | exact d_lens (und _ _ rfl) | exact d_indexAddr1 (und _ _ rfl) (isz _ _ rfl) | exact d_fieldAddr (fld _ _ _ _ rfl) (isz _ _ rfl) | exact d_eqN (ifc _ rfl) | exact d_neN (ifc _ rfl) | exact d_extract | exact d_indexAddrS (und _ _ rfl) (isz _ _ rfl) (j := k) | exact d_loadAgg (agg _ rfl) (isz _ _ rfl) rfl (arr_cells hc) | exact d_load (und _ _ rfl) c7); clear hF; clear a; intro a hF) | ((first | apply stm hF | apply stu hF); clear hF; clear a; intro a hF) | (apply c_cond_t hF; exact rfl; first | exact rfl | assumption) | (apply c_cond_f hF; exact rfl; first | exact rfl | assumption) | refine s_nil ?_)
  refine stc hF (bits_of wr (Sig.cells s).toArray s.start s.size s.mot ⟨rfl, rfl, rfl, rfl⟩) cal38 ⟨rfl, trivial⟩ (k := fun a v r1 hR hF => ?_)
  obtain ⟨hBR, hb1'⟩ := hR
  rw [hl] at hBR
  obtain ⟨gb, cb, rfl, hgb, hbo⟩ := hBR
  have hrdl := own_rd hbo
  have hm1' := hm.below hb1'
  have hown1 := own_below hown hb1'
  have hcc : ∀ q v, (Sig.cells s)[q]? = some v → r1.cell? ⟨b, o + k * 19 + q, none⟩ = some v := fun q v hq => keep_c' (hc q v hq) hb1'
  replace hb1' : Below w.heap.size w r1 := hbel.trans (hb1'.mono hz)
  repeat (first | refine c_seq ?_ | refine c_block ?_ | refine c_region _ ?_ | refine wpList_nil ?_ | refine c_then ?_ | refine c_then_exit ?_ | refine c_then_ret ?_ | refine c_in ?_ | refine c_in_ret ?_ | refine c_in_hit ?_ | refine wp_skip ?_ | refine wp_exit ?_ | refine wp_ret ?_ | refine c_in_miss rfl ?_ | ((first | apply st hF | apply stg hF | apply s_step hF | apply s_stg hF); (first | exact d_move | exact d_assign | exact d_pickT | exact d_pickF | exact d_add | exact d_cmpT | exact d_cmpF | exact d_cmp | exact d_eqbT (und _ _ rfl) | exact d_eqbF (und _ _ rfl) | exact d_eqb (und _ _ rfl) | exact d_eqST | exact d_eqSF | exact d_eqS | exact d_len (und _ _ rfl) | exact d_lens (und _ _ rfl) | exact d_indexAddr1 (und _ _ rfl) (isz _ _ rfl) | exact d_fieldAddr (fld _ _ _ _ rfl) (isz _ _ rfl) | exact d_eqN (ifc _ rfl) | exact d_neN (ifc _ rfl) | exact d_extract); clear hF; clear a; intro a hF) | ((first | apply stm hF | apply stu hF); clear hF; clear a; intro a hF) | (apply c_cond_t hF; exact rfl; first | exact rfl | assumption) | (apply c_cond_f hF; exact rfl; first | exact rfl | assumption) | refine s_nil ?_)
  refine stc hF (setOf_of r1 l (some ⟨gb, 0, none⟩) l.length cb rfl hrdl.2 (by omega)) cal39 ⟨rfl, trivial⟩ (k := fun a v r2 hR hF => ?_)
  obtain ⟨hSR, hb2⟩ := hR
  rw [hset] at hSR
  replace hSR : v = .tuple #[.agg (setC t), .nilIface] := hSR
  subst hSR
  have hm2 := hm1'.below hb2
  have hown2 := own_below hown1 hb2
  have hcc2 : ∀ q v, (Sig.cells s)[q]? = some v → r2.cell? ⟨b, o + k * 19 + q, none⟩ = some v := fun q v hq => keep_c' (hcc q v hq) hb2
  replace hb2 : Below w.heap.size w r2 := hb1'.trans (hb2.mono hb1'.size)
  clear hm1' hown1 hcc hbo hrdl
  repeat (first | refine c_seq ?_ | refine c_block ?_ | refine c_region _ ?_ | refine wpList_nil ?_ | refine c_then ?_ | refine c_then_exit ?_ | refine c_then_ret ?_ | refine c_in ?_ | refine c_in_ret ?_ | refine c_in_hit ?_ | refine wp_skip ?_ | refine wp_exit ?_ | refine wp_ret ?_ | refine c_in_miss rfl ?_ | ((first | apply st hF | apply stg hF | apply s_step hF | apply s_stg hF); (first | exact d_move | exact d_assign | exact d_pickT | exact d_pickF | exact d_add | exact d_cmpT | exact d_cmpF | exact d_cmp | exact d_eqbT (und _ _ rfl) | exact d_eqbF (und _ _ rfl) | exact d_eqb (und _ _ rfl) | exact d_eqST | exact d_eqSF | exact d_eqS | exact d_len (und _ _ rfl) | exact d_lens (und _ _ rfl) | exact d_indexAddr1 (und _ _ rfl) (isz _ _ rfl) | exact d_fieldAddr (fld _ _ _ _ rfl) (isz _ _ rfl) | exact d_eqN (ifc _ rfl) | exact d_neN (ifc _ rfl) | exact d_extract); clear hF; clear a; intro a hF) | ((first | apply stm hF | apply stu hF); clear hF; clear a; intro a hF) | (apply c_cond_t hF; exact rfl; first | exact rfl | assumption) | (apply c_cond_f hF; exact rfl; first | exact rfl | assumption) | refine s_nil ?_)
  refine st_alloc hF inf85 (k := fun a r3 hg3 hgr3 hsz3 hF => ?_)
  refine st_storeAgg hF (cs := setC t) (isz _ _ rfl) (by rw [setC_size, htlen]) rfl hg3 (setC_cells _) (k := fun a r4 ht4 hgr4 hsz4 hF => ?_)
  have hb24 : Below r2.heap.size r2 r4 := ((Below.refl _ r2).grown hgr3 (Nat.le_refl _) (fun k hk => by cases hk)).grown hgr4 (by omega) (fun k hk => by cases hk; exact Nat.le_refl _)
  have ht4 : SetIn r4 r2.heap.size t := ht4
  have hm4 := hm2.below hb24
  have hown4 := own_below hown2 hb24
  have x6 := keep_c' (hcc2 6 _ rfl) hb24
  have hb4 : Below w.heap.size w r4 := hb2.trans (hb24.mono hb2.size)
  have c74 := hm4.c 7 _ rfl
  rw [hao] at c74
  clear hg3 hgr3 hgr4 hb24 hm2 hown2 hcc2
  repeat (first | refine c_seq ?_ | refine c_block ?_ | refine c_region _ ?_ | refine wpList_nil ?_ | refine c_then ?_ | refine c_then_exit ?_ | refine c_then_ret ?_ | refine c_in ?_ | refine c_in_ret ?_ | refine c_in_hit ?_ | refine wp_skip ?_ | refine wp_exit ?_ | refine wp_ret ?_ | refine c_in_miss rfl ?_ | ((first | apply st hF | apply stg hF | apply s_step hF | apply s_stg hF); (first | exact d_move | exact d_assign | exact d_pickT | exact d_pickF | exact d_add | exact d_cmpT | exact d_cmpF | exact d_cmp | exact d_eqbT (und _ _ rfl) | exact d_eqbF (und _ _ rfl) | exact d_eqb (und _ _ rfl) | exact d_eqST | exact d_eqSF | exact d_eqS | exact d_len (und _ _ rfl) | exact d_lens (und _ _ rfl) | exact d_indexAddr1 (und _ _ rfl) (isz _ _ rfl) | exact d_fieldAddr (fld _ _ _ _ rfl) (isz _ _ rfl) | exact d_eqN (ifc _ rfl) | exact d_neN (ifc _ rfl) | exact d_extract | exact d_indexAddrS (und _ _ rfl) (isz _ _ rfl) (j := k) | exact d_load (und _ _ rfl) c74 | exact d_load (und _ _ rfl) x6); clear hF; clear a; intro a hF) | ((first | apply stm hF | apply stu hF); clear hF; clear a; intro a hF) | (apply c_cond_t hF; exact rfl; first | exact rfl | assumption) | (apply c_cond_f hF; exact rfl; first | exact rfl | assumption) | refine s_nil ?_)
  refine c_loop (fun q a wr => ∃ j, j ≤ 64 ∧ q = 64 - j ∧ Fr 68 [(1, .pointer (some ⟨w.heap.size, 0, none⟩)), (4, .slice ao k cap), (5, .int .i64 (k : Nat)), (8, .pointer (some ⟨r2.heap.size, 0, none⟩)), (10, .int .i64 (j : Nat))] a ∧ wr = r4) 64
    ⟨0, Nat.zero_le _, rfl, hF.keep' ⟨rfl, rfl, rfl, rfl, rfl, trivial⟩, rfl⟩ ?_
  clear hF a
  rintro q a wr' ⟨j, hj, rfl, hF, hwr⟩
  subst hwr
  by_cases hj64 : j < 64
  · have hjt : j < t.length := by omega
    have cj : wr'.cell? ⟨r2.heap.size, 0 + j, none⟩ = some (.bool t[j]) := cells_at ht4 _ _ (setC_get hjt)
    cases htj : t[j] with
    | false =>
      rw [htj] at cj
      repeat (first | refine c_seq ?_ | refine c_block ?_ | refine c_region _ ?_ | refine wpList_nil ?_ | refine c_then ?_ | refine c_then_exit ?_ | refine c_then_ret ?_ | refine c_in ?_ | refine c_in_ret ?_ | refine c_in_hit ?_ | refine wp_skip ?_ | refine wp_exit ?_ | refine wp_ret ?_ | refine c_in_miss rfl ?_ | ((first | apply st hF | apply stg hF | apply s_step hF | apply s_stg hF); (first | exact d_move | exact d_assign | exact d_pickT | exact d_pickF | exact d_add | exact d_cmpT | exact d_cmpF | exact d_cmp | exact d_eqbT (und _ _ rfl) | exact d_eqbF (und _ _ rfl) | exact d_eqb (und _ _ rfl) | exact d_eqST | exact d_eqSF | exact d_eqS | exact d_len (und _ _ rfl) | exact d_lens (und _ _ rfl) | exact d_indexAddr1 (und _ _ rfl) (isz _ _ rfl) | exact d_fieldAddr (fld _ _ _ _ rfl) (isz _ _ rfl) | exact d_eqN (ifc _ rfl) | exact d_neN (ifc _ rfl) | exact d_extract | exact d_indexAddrA (und _ _ rfl) (isz _ _ rfl) | exact d_load (und _ _ rfl) cj); clear hF; clear a; intro a hF) | ((first | apply stm hF | apply stu hF); clear hF; clear a; intro a hF) | (apply c_cond_t hF; exact rfl; first | exact rfl | assumption) | (apply c_cond_f hF; exact rfl; first | exact rfl | assumption) | refine s_nil ?_)
      exact ⟨64 - (j + 1), by omega, j + 1, by omega, rfl, hF.keep' ⟨rfl, rfl, rfl, rfl, rfl, trivial⟩, rfl⟩
    | true =>
      have hin' : inB s j := (hSI.at_ j hj64).1 (by rw [List.getD_eq_getElem?_getD, List.getElem?_eq_getElem hjt, htj]; rfl)
      obtain ⟨l', hl', hmem⟩ := hin'
      rw [hl] at hl'
      cases hl'
      have hlt8 := hcap _ hmem
      rw [htj] at cj
      repeat (first | refine c_seq ?_ | refine c_block ?_ | refine c_region _ ?_ | refine wpList_nil ?_ | refine c_then ?_ | refine c_then_exit ?_ | refine c_then_ret ?_ | refine c_in ?_ | refine c_in_ret ?_ | refine c_in_hit ?_ | refine wp_skip ?_ | refine wp_exit ?_ | refine wp_ret ?_ | refine c_in_miss rfl ?_ | ((first | apply st hF | apply stg hF | apply s_step hF | apply s_stg hF); (first | exact d_move | exact d_assign | exact d_pickT | exact d_pickF | exact d_add | exact d_cmpT | exact d_cmpF | exact d_cmp | exact d_eqbT (und _ _ rfl) | exact d_eqbF (und _ _ rfl) | exact d_eqb (und _ _ rfl) | exact d_eqST | exact d_eqSF | exact d_eqS | exact d_len (und _ _ rfl) | exact d_lens (und _ _ rfl) | exact d_indexAddr1 (und _ _ rfl) (isz _ _ rfl) | exact d_fieldAddr (fld _ _ _ _ rfl) (isz _ _ rfl) | exact d_eqN (ifc _ rfl) | exact d_neN (ifc _ rfl) | exact d_extract | exact d_indexAddrA (und _ _ rfl) (isz _ _ rfl) | exact d_mul (h := by omega) | exact d_load (und _ _ rfl) cj | exact d_load (und _ _ rfl) (hm4.c 5 _ rfl)); clear hF; clear a; intro a hF) | ((first | apply stm hF | apply stu hF); clear hF; clear a; intro a hF) | (apply c_cond_t hF; exact rfl; first | exact rfl | assumption) | (apply c_cond_f hF; exact rfl; first | exact rfl | assumption) | refine s_nil ?_)
      exact ⟨64 - (j + 1), by omega, j + 1, by omega, rfl, hF.keep' ⟨rfl, rfl, rfl, rfl, rfl, trivial⟩, rfl⟩
  · repeat (first | refine c_seq ?_ | refine c_block ?_ | refine c_region _ ?_ | refine wpList_nil ?_ | refine c_then ?_ | refine c_then_exit ?_ | refine c_then_ret ?_ | refine c_in ?_ | refine c_in_ret ?_ | refine c_in_hit ?_ | refine wp_skip ?_ | refine wp_exit ?_ | refine wp_ret ?_ | refine c_in_miss rfl ?_ | ((first | apply st hF | apply stg hF | apply s_step hF | apply s_stg hF); (first | exact d_move | exact d_assign | exact d_pickT | exact d_pickF | exact d_add | exact d_cmpT | exact d_cmpF | exact d_cmp | exact d_eqbT (und _ _ rfl) | exact d_eqbF (und _ _ rfl) | exact d_eqb (und _ _ rfl) | exact d_eqST | exact d_eqSF | exact d_eqS | exact d_len (und _ _ rfl) | exact d_lens (und _ _ rfl) | exact d_indexAddr1 (und _ _ rfl) (isz _ _ rfl) | exact d_fieldAddr (fld _ _ _ _ rfl) (isz _ _ rfl) | exact d_eqN (ifc _ rfl) | exact d_neN (ifc _ rfl) | exact d_extract | exact d_loadAgg (agg _ rfl) (isz _ _ rfl) (by rw [setC_size, htlen]) (cells_at ht4)); clear hF; clear a; intro a hF) | ((first | apply stm hF | apply stu hF); clear hF; clear a; intro a hF) | (apply c_cond_t hF; exact rfl; first | exact rfl | assumption) | (apply c_cond_f hF; exact rfl; first | exact rfl | assumption) | refine s_nil ?_)
    refine st_pushS hF (us := setC t) (und _ _ rfl) inf85 rfl (by decide) (by decide) (by rw [setC_size, htlen]) (setC_cells _) hown4 (by omega) (by unfold maxLen; omega) (by have := lt_at hm4; omega) (k := fun a ao2 cap2 w5 hown5 hgr5 hat hF => ?_)
    repeat (first | refine c_seq ?_ | refine c_block ?_ | refine c_region _ ?_ | refine wpList_nil ?_ | refine c_then ?_ | refine c_then_exit ?_ | refine c_then_ret ?_ | refine c_in ?_ | refine c_in_ret ?_ | refine c_in_hit ?_ | refine wp_skip ?_ | refine wp_exit ?_ | refine wp_ret ?_ | refine c_in_miss rfl ?_ | ((first | apply st hF | apply stg hF | apply s_step hF | apply s_stg hF); (first | exact d_move | exact d_assign | exact d_pickT | exact d_pickF | exact d_add | exact d_cmpT | exact d_cmpF | exact d_cmp | exact d_eqbT (und _ _ rfl) | exact d_eqbF (und _ _ rfl) | exact d_eqb (und _ _ rfl) | exact d_eqST | exact d_eqSF | exact d_eqS | exact d_len (und _ _ rfl) | exact d_lens (und _ _ rfl) | exact d_indexAddr1 (und _ _ rfl) (isz _ _ rfl) | exact d_fieldAddr (fld _ _ _ _ rfl) (isz _ _ rfl) | exact d_eqN (ifc _ rfl) | exact d_neN (ifc _ rfl) | exact d_extract); clear hF; clear a; intro a hF) | ((first | apply stm hF | apply stu hF); clear hF; clear a; intro a hF) | (apply c_cond_t hF; exact rfl; first | exact rfl | assumption) | (apply c_cond_f hF; exact rfl; first | exact rfl | assumption) | refine s_nil ?_)
    refine ⟨m.sgN - (k + 1), by omega, k + 1, ao2, cap2, ts ++ [t], by omega, rfl, by simp [htl], fun i hi => ?_, hF.keep' ⟨rfl, rfl, rfl, trivial⟩, ?_, by rw [encS_set htlen] at hown5; simpa using hown5, hb4.grown hgr5 hb4.size (fun j hj => by have := (own_geA hown4 hj).1; have := hb1.size; omega)⟩
    · by_cases e : i = k
      · subst e
        rw [hs]
        have : (ts ++ [t]).getD i [] = t := by rw [List.getD_eq_getElem?_getD, List.getElem?_append_right (by omega), htl]; simp
        rw [this]; exact hSI
      · have : (ts ++ [t]).getD i [] = ts.getD i [] := by rw [List.getD_eq_getElem?_getD, List.getElem?_append_left (by omega), ← List.getD_eq_getElem?_getD]
        rw [this]; exact hts i (by omega)
    · exact blk_kept hm4 hgr5 (own_ne hown4 hm4 (by decide))
/-- The signals that are there at a value: their numbers, in order. -/
theorem act_get {ss : List Sig} {v : Int} {i : Nat} (hi : i < (act ss v).length) : ∃ j : Nat, (act ss v)[i] = (j : Int) ∧ j < ss.length ∧ tst (ss.getD j sigM) v = true := by
  have hm := List.getElem_mem hi
  generalize (act ss v)[i] = x at *
  unfold act actK at hm
  obtain ⟨j, hj, rfl⟩ := List.mem_map.1 hm
  rw [List.mem_filter, List.mem_range] at hj
  refine ⟨j, rfl, hj.1, ?_⟩
  have := hj.2
  rw [List.getElem?_eq_getElem hj.1] at this
  rw [List.getD_eq_getElem?_getD, List.getElem?_eq_getElem hj.1]
  exact this
theorem act_mem {ss : List Sig} {v : Int} {j : Nat} (hj : j < ss.length) (ht : tst (ss.getD j sigM) v = true) : ∃ i, ∃ hi : i < (act ss v).length, (act ss v)[i] = (j : Int) := by
  have : (j : Int) ∈ act ss v := by
    unfold act actK
    refine List.mem_map.2 ⟨j, ?_, rfl⟩
    rw [List.mem_filter, List.mem_range]
    refine ⟨hj, ?_⟩
    rw [List.getElem?_eq_getElem hj]
    rw [List.getD_eq_getElem?_getD, List.getElem?_eq_getElem hj] at ht
    exact ht
  obtain ⟨i, hi, e⟩ := List.getElem_of_mem this
  exact ⟨i, hi, e⟩
theorem act_sorted (ss : List Sig) (v : Int) : (act ss v).Pairwise (· < ·) := by
  unfold act actK
  rw [List.pairwise_map]
  refine List.Pairwise.imp (fun {a b} h => ?_) ((List.pairwise_lt_range).filter _)
  omega
theorem tst_at (s : Sig) (v : Int) : tst s v = true ↔ atB s v := by
  unfold tst atB
  simp
theorem sg_map (ps : List SigT) (j : Nat) (hj : j < ps.length) : (ps.map (·.1)).getD j sigM = sg ps j := by
  rw [sg_lt hj]
  simp [List.getD, hj]
theorem keep_g {r wq : World} {p : Addr} {v : Value} {g : Nat} (h : r.cell? p = some v) (hgr : r.grownBy wq (some g)) (hne : p.block ≠ g) : wq.cell? p = some v := by
  have hlt := World.block_lt_of_cell? r _ h
  have := hgr.block p.block hlt (by simpa using hne)
  unfold World.cell? at h ⊢
  rw [this]
  exact h
set_option maxHeartbeats 8000000 in
theorem lmeets_ok (w : World) (m : Msg) (ps : List SigT) (v : Int) (hin : MsgIn w m ps) (lo : Option Addr) (lc : Nat) (ts : List (List Bool)) (htl : ts.length = m.sgN) (hts : ∀ i, i < m.sgN → SetIs (sg ps i) (ts.getD i [])) (hR : RdS w lo 64 encS ts) :
    Ret Tryd.prog 15 [.agg (Msg.cells m).toArray, .slice lo m.sgN lc, .int .u64 v].toArray w (fun r w' => ∃ b, r = .bool b ∧ (b = true ↔ meetsAt ps v) ∧ Below w.heap.size w w') := by
  have hlen := hin.len
  have hby := hin.bytes
  refine enter3 Tryd.func15 rfl 36 rfl 39 rfl (fun a hF => ?_)
  repeat (first | refine c_seq ?_ | refine c_block ?_ | refine c_region _ ?_ | refine wpList_nil ?_ | refine c_then ?_ | refine c_then_exit ?_ | refine c_then_ret ?_ | refine c_in ?_ | refine c_in_ret ?_ | refine c_in_hit ?_ | refine wp_skip ?_ | refine wp_exit ?_ | refine wp_ret ?_ | refine c_in_miss rfl ?_ | (refine q_nil ?_; rintro _ ⟨ndr, rfl⟩) | refine c_region_draw _ mixed (by kernel_rfl) ?_ | ((first | apply st hF | apply stg hF | apply s_step hF | apply s_stg hF); (first | exact d_move | exact d_assign | exact d_add | exact d_cmpT | exact d_cmpF | exact d_cmp | exact d_eqbT (und _ _ rfl) | exact d_eqbF (und _ _ rfl) | exact d_eqb (und _ _ rfl) | exact d_eqST | exact d_eqSF | exact d_eqS | exact d_len (und _ _ rfl) | exact d_lens (und _ _ rfl) | exact d_indexAddr1 (und _ _ rfl) (isz _ _ rfl) | exact d_eqN (ifc _ rfl) | exact d_neN (ifc _ rfl)); clear hF; clear a; intro a hF) | ((first | apply q_step hF | apply q_stg hF); intro wq hwq; (first | exact d_move | exact d_assign | exact d_add | exact d_cmpT | exact d_cmpF | exact d_cmp | exact d_eqbT (und _ _ rfl) | exact d_eqbF (und _ _ rfl) | exact d_eqb (und _ _ rfl) | exact d_eqST | exact d_eqSF | exact d_eqS | exact d_len (und _ _ rfl) | exact d_lens (und _ _ rfl) | exact d_indexAddr1 (und _ _ rfl) (isz _ _ rfl) | exact d_eqN (ifc _ rfl) | exact d_neN (ifc _ rfl)); clear hF; clear a; intro a hF) | ((first | apply stm hF | apply stu hF | apply q_stm hF | apply q_stu hF); clear hF; clear a; intro a hF) | (apply c_cond_t hF; exact rfl; first | exact rfl | assumption) | (apply c_cond_f hF; exact rfl; first | exact rfl | assumption) | refine s_nil ?_)
  refine st_box hF (cs := (Msg.cells m).toArray) rfl (k := fun a w1 hg1 hgr1 hsz1 hF => ?_)
  have hb1 : Below w.heap.size w w1 := (Below.refl _ w).grown hgr1 (Nat.le_refl _) (fun k hk => by cases hk)
  have hm1 : MgAt w.heap.size m w1 := hg1
  clear hg1 hgr1
  repeat (first | refine c_seq ?_ | refine c_block ?_ | refine c_region _ ?_ | refine wpList_nil ?_ | refine c_then ?_ | refine c_then_exit ?_ | refine c_then_ret ?_ | refine c_in ?_ | refine c_in_ret ?_ | refine c_in_hit ?_ | refine wp_skip ?_ | refine wp_exit ?_ | refine wp_ret ?_ | refine c_in_miss rfl ?_ | (refine q_nil ?_; rintro _ ⟨ndr, rfl⟩) | refine c_region_draw _ mixed (by kernel_rfl) ?_ | ((first | apply st hF | apply stg hF | apply s_step hF | apply s_stg hF); (first | exact d_move | exact d_assign | exact d_add | exact d_cmpT | exact d_cmpF | exact d_cmp | exact d_eqbT (und _ _ rfl) | exact d_eqbF (und _ _ rfl) | exact d_eqb (und _ _ rfl) | exact d_eqST | exact d_eqSF | exact d_eqS | exact d_len (und _ _ rfl) | exact d_lens (und _ _ rfl) | exact d_indexAddr1 (und _ _ rfl) (isz _ _ rfl) | exact d_eqN (ifc _ rfl) | exact d_neN (ifc _ rfl) | exact d_loadAgg (agg _ rfl) (isz _ _ rfl) rfl (cells_at hm1)); clear hF; clear a; intro a hF) | ((first | apply q_step hF | apply q_stg hF); intro wq hwq; (first | exact d_move | exact d_assign | exact d_add | exact d_cmpT | exact d_cmpF | exact d_cmp | exact d_eqbT (und _ _ rfl) | exact d_eqbF (und _ _ rfl) | exact d_eqb (und _ _ rfl) | exact d_eqST | exact d_eqSF | exact d_eqS | exact d_len (und _ _ rfl) | exact d_lens (und _ _ rfl) | exact d_indexAddr1 (und _ _ rfl) (isz _ _ rfl) | exact d_eqN (ifc _ rfl) | exact d_neN (ifc _ rfl) | exact d_loadAgg (agg _ rfl) (isz _ _ rfl) rfl (cells_at hm1)); clear hF; clear a; intro a hF) | ((first | apply stm hF | apply stu hF | apply q_stm hF | apply q_stu hF); clear hF; clear a; intro a hF) | (apply c_cond_t hF; exact rfl; first | exact rfl | assumption) | (apply c_cond_f hF; exact rfl; first | exact rfl | assumption) | refine s_nil ?_)
  refine stc hF (prog_active w1 m (ps.map (·.1)) v (by simpa using hlen) (hin.rd.below hb1) (by omega)) cal40 ⟨rfl, rfl, trivial⟩ (k := fun a r w2 hR hF => ?_)
  obtain ⟨aa, ac, rfl, hact, hb2⟩ := hR
  replace hb2 := hb1.trans (hb2.mono hb1.size)
  have hra := own_rd hact
  clear hact hm1
  have hsort := act_sorted (ps.map (·.1)) v
  have hget := fun {i} (hi : i < (act (ps.map (·.1)) v).length) => act_get hi
  have hmem := fun {j} (hj : j < (ps.map (·.1)).length) ht => act_mem (v := v) hj ht
  have hal : (act (ps.map (·.1)) v).length ≤ m.sgN := by have := actK_len (ps.map (·.1)) v (ps.map (·.1)).length; unfold act; simp at this ⊢; omega
  generalize act (ps.map (·.1)) v = al at *
  repeat (first | refine c_seq ?_ | refine c_block ?_ | refine c_region _ ?_ | refine wpList_nil ?_ | refine c_then ?_ | refine c_then_exit ?_ | refine c_then_ret ?_ | refine c_in ?_ | refine c_in_ret ?_ | refine c_in_hit ?_ | refine wp_skip ?_ | refine wp_exit ?_ | refine wp_ret ?_ | refine c_in_miss rfl ?_ | (refine q_nil ?_; rintro _ ⟨ndr, rfl⟩) | refine c_region_draw _ mixed (by kernel_rfl) ?_ | ((first | apply st hF | apply stg hF | apply s_step hF | apply s_stg hF); (first | exact d_move | exact d_assign | exact d_add | exact d_cmpT | exact d_cmpF | exact d_cmp | exact d_eqbT (und _ _ rfl) | exact d_eqbF (und _ _ rfl) | exact d_eqb (und _ _ rfl) | exact d_eqST | exact d_eqSF | exact d_eqS | exact d_len (und _ _ rfl) | exact d_lens (und _ _ rfl) | exact d_indexAddr1 (und _ _ rfl) (isz _ _ rfl) | exact d_eqN (ifc _ rfl) | exact d_neN (ifc _ rfl)); clear hF; clear a; intro a hF) | ((first | apply q_step hF | apply q_stg hF); intro wq hwq; (first | exact d_move | exact d_assign | exact d_add | exact d_cmpT | exact d_cmpF | exact d_cmp | exact d_eqbT (und _ _ rfl) | exact d_eqbF (und _ _ rfl) | exact d_eqb (und _ _ rfl) | exact d_eqST | exact d_eqSF | exact d_eqS | exact d_len (und _ _ rfl) | exact d_lens (und _ _ rfl) | exact d_indexAddr1 (und _ _ rfl) (isz _ _ rfl) | exact d_eqN (ifc _ rfl) | exact d_neN (ifc _ rfl)); clear hF; clear a; intro a hF) | ((first | apply stm hF | apply stu hF | apply q_stm hF | apply q_stu hF); clear hF; clear a; intro a hF) | (apply c_cond_t hF; exact rfl; first | exact rfl | assumption) | (apply c_cond_f hF; exact rfl; first | exact rfl | assumption) | refine s_nil ?_)
  refine st_alloc hF inf85 (k := fun a w3 hg3 hgr3 hsz3 hF => ?_)
  have hs3 : SetIn w3 w2.heap.size Pl.emptyS := hg3
  have hb3 : Below w2.heap.size w2 w3 := (Below.refl _ w2).grown hgr3 (Nat.le_refl _) (fun k hk => by cases hk)
  have hz2 := hb2.size
  clear hg3 hgr3
  repeat (first | refine c_seq ?_ | refine c_block ?_ | refine c_region _ ?_ | refine wpList_nil ?_ | refine c_then ?_ | refine c_then_exit ?_ | refine c_then_ret ?_ | refine c_in ?_ | refine c_in_ret ?_ | refine c_in_hit ?_ | refine wp_skip ?_ | refine wp_exit ?_ | refine wp_ret ?_ | refine c_in_miss rfl ?_ | (refine q_nil ?_; rintro _ ⟨ndr, rfl⟩) | refine c_region_draw _ mixed (by kernel_rfl) ?_ | ((first | apply st hF | apply stg hF | apply s_step hF | apply s_stg hF); (first | exact d_move | exact d_assign | exact d_add | exact d_cmpT | exact d_cmpF | exact d_cmp | exact d_eqbT (und _ _ rfl) | exact d_eqbF (und _ _ rfl) | exact d_eqb (und _ _ rfl) | exact d_eqST | exact d_eqSF | exact d_eqS | exact d_len (und _ _ rfl) | exact d_lens (und _ _ rfl) | exact d_indexAddr1 (und _ _ rfl) (isz _ _ rfl) | exact d_eqN (ifc _ rfl) | exact d_neN (ifc _ rfl)); clear hF; clear a; intro a hF) | ((first | apply q_step hF | apply q_stg hF); intro wq hwq; (first | exact d_move | exact d_assign | exact d_add | exact d_cmpT | exact d_cmpF | exact d_cmp | exact d_eqbT (und _ _ rfl) | exact d_eqbF (und _ _ rfl) | exact d_eqb (und _ _ rfl) | exact d_eqST | exact d_eqSF | exact d_eqS | exact d_len (und _ _ rfl) | exact d_lens (und _ _ rfl) | exact d_indexAddr1 (und _ _ rfl) (isz _ _ rfl) | exact d_eqN (ifc _ rfl) | exact d_neN (ifc _ rfl)); clear hF; clear a; intro a hF) | ((first | apply stm hF | apply stu hF | apply q_stm hF | apply q_stu hF); clear hF; clear a; intro a hF) | (apply c_cond_t hF; exact rfl; first | exact rfl | assumption) | (apply c_cond_f hF; exact rfl; first | exact rfl | assumption) | refine s_nil ?_)
  refine c_loop (fun q a wr => ∃ (i : Nat) (s : List Bool), i ≤ al.length ∧ q = al.length - i ∧ s.length = 64 ∧ (∀ x, x < 64 → (s.getD x false = true ↔ ∃ i', i' < i ∧ ∃ j : Nat, al[i']? = some (j : Int) ∧ inB (sg ps j) x)) ∧
    (∀ i1 i2, i1 < i → i2 < i1 → ∀ j1 j2 : Nat, al[i1]? = some (j1 : Int) → al[i2]? = some (j2 : Int) → ¬ shareB (sg ps j2) (sg ps j1)) ∧
    Fr 39 [(1, .slice lo m.sgN lc), (7, .slice aa al.length ac), (8, .pointer (some ⟨w2.heap.size, 0, none⟩)), (9, .int .i64 (i : Nat))] a ∧ SetIn wr w2.heap.size s ∧ Below w2.heap.size w2 wr) al.length
    ⟨0, _, Nat.zero_le _, rfl, emptyS_len, fun x hx => ⟨fun h => (by rw [Pl.emptyS_get] at h; cases h), fun ⟨i', hi', _⟩ => absurd hi' (Nat.not_lt_zero _)⟩, fun i1 i2 h => absurd h (Nat.not_lt_zero _), hF.keep' ⟨rfl, rfl, rfl, rfl, trivial⟩, hs3, hb3⟩ ?_
  clear hF a hs3 hb3
  rintro q a wr ⟨i, s, hi, rfl, hsl, hsx, hno, hF, hs, hbel⟩
  have hz := hbel.size
  have hB : Below w.heap.size w wr := hb2.trans (hbel.mono hz2)
  by_cases hlt : i < al.length
  case neg =>
    obtain rfl : i = al.length := by omega
    repeat (first | refine c_seq ?_ | refine c_block ?_ | refine c_region _ ?_ | refine wpList_nil ?_ | refine c_then ?_ | refine c_then_exit ?_ | refine c_then_ret ?_ | refine c_in ?_ | refine c_in_ret ?_ | refine c_in_hit ?_ | refine wp_skip ?_ | refine wp_exit ?_ | refine wp_ret ?_ | refine c_in_miss rfl ?_ | (refine q_nil ?_; rintro _ ⟨ndr, rfl⟩) | refine c_region_draw _ mixed (by kernel_rfl) ?_ | ((first | apply st hF | apply stg hF | apply s_step hF | apply s_stg hF); (first | exact d_move | exact d_assign | exact d_add | exact d_cmpT | exact d_cmpF | exact d_cmp | exact d_eqbT (und _ _ rfl) | exact d_eqbF (und _ _ rfl) | exact d_eqb (und _ _ rfl) | exact d_eqST | exact d_eqSF | exact d_eqS | exact d_len (und _ _ rfl) | exact d_lens (und _ _ rfl) | exact d_indexAddr1 (und _ _ rfl) (isz _ _ rfl) | exact d_eqN (ifc _ rfl) | exact d_neN (ifc _ rfl)); clear hF; clear a; intro a hF) | ((first | apply q_step hF | apply q_stg hF); intro wq hwq; (first | exact d_move | exact d_assign | exact d_add | exact d_cmpT | exact d_cmpF | exact d_cmp | exact d_eqbT (und _ _ rfl) | exact d_eqbF (und _ _ rfl) | exact d_eqb (und _ _ rfl) | exact d_eqST | exact d_eqSF | exact d_eqS | exact d_len (und _ _ rfl) | exact d_lens (und _ _ rfl) | exact d_indexAddr1 (und _ _ rfl) (isz _ _ rfl) | exact d_eqN (ifc _ rfl) | exact d_neN (ifc _ rfl)); clear hF; clear a; intro a hF) | ((first | apply stm hF | apply stu hF | apply q_stm hF | apply q_stu hF); clear hF; clear a; intro a hF) | (apply c_cond_t hF; exact rfl; first | exact rfl | assumption) | (apply c_cond_f hF; exact rfl; first | exact rfl | assumption) | refine s_nil ?_)
    refine ret1 hF rfl rfl ⟨false, rfl, ⟨fun h => Bool.noConfusion h, ?_⟩, hB⟩
    rintro ⟨p, k, hp, hk, h1, h2, hsh⟩
    exfalso
    have hp' : p < (ps.map (·.1)).length := by simpa using hp
    have hk' : k < (ps.map (·.1)).length := by simp; omega
    obtain ⟨ip, hip, ep⟩ := hmem hp' (by rw [sg_map ps p hp]; exact (tst_at _ _).2 h2)
    obtain ⟨ik, hik, ek⟩ := hmem hk' (by rw [sg_map ps k (by omega)]; exact (tst_at _ _).2 h1)
    rw [List.pairwise_iff_getElem] at hsort
    rcases Nat.lt_trichotomy ik ip with h | h | h
    · exact hno ip ik hip h p k (by rw [List.getElem?_eq_getElem hip, ep]) (by rw [List.getElem?_eq_getElem hik, ek]) hsh
    · subst h; rw [ep] at ek; omega
    · have := hsort ip ik hip hik h
      rw [ep, ek] at this; omega
  obtain ⟨j, hj, hjl, hjt⟩ := hget hlt
  have hjp : j < ps.length := by simpa using hjl
  rw [sg_map ps j hjp] at hjt
  have hja := (tst_at _ _).1 hjt
  have hai : al[i]? = some (j : Int) := by rw [List.getElem?_eq_getElem hlt, hj]
  obtain ⟨ab, ao, haa, hac⟩ := hra.2.below hbel i hlt
  rw [hj] at hac
  have hjs : j < m.sgN := by omega
  obtain ⟨lb, loo, hlo, hlcc⟩ := hR.below hB j (by omega)
  have ht := hts j hjs
  have etj : ts[j]'(by omega) = ts.getD j [] := by rw [List.getD_eq_getElem?_getD, List.getElem?_eq_getElem (by omega)]; rfl
  rw [etj] at hlcc
  generalize ts.getD j [] = t at *
  have hlt2 := lt_at hs
  rw [haa, hlo] at hF
  have hS0 : ∀ wq, Below wr.heap.size wr wq → wq.cell? ⟨ab, ao + i, none⟩ = some (.int .i64 (j : Int)) ∧ ∀ q v, (encS t)[q]? = some v → wq.cell? ⟨lb, loo + j * 64 + q, none⟩ = some v := fun wq hq => ⟨keep_c' hac hq, fun q v h => keep_c' (hlcc q v h) hq⟩
  have hab : ab < w2.heap.size := by
    obtain ⟨b', o', e', hc'⟩ := hra.2 i hlt
    rw [haa] at e'; cases e'
    exact World.block_lt_of_cell? w2 _ hc'
  have hlb : lb < w2.heap.size := by
    obtain ⟨b', o', e', hc'⟩ := hR j (by omega)
    rw [hlo] at e'; cases e'
    have := World.block_lt_of_cell? w _ (hc' 0 _ (by rw [List.getElem?_eq_getElem (by rw [encS_len]; decide)]))
    exact Nat.lt_of_lt_of_le this hz2
  repeat (first | (refine c_region_mix (fun wq => Below wr.heap.size wr wq) [(0, true), (1, true), (2, true), (3, true), (4, true), (5, true), (6, true), (7, true), (9, true), (8, false), (10, true)] 6 mixed (by kernel_rfl) (below_more (Below.refl _ wr) 1) ?_; simp only [pickX, List.filterMap_cons, List.getElem?_cons_zero, List.getElem?_cons_succ, List.filterMap_nil, Option.map_some]) | refine c_seq ?_ | refine c_block ?_ | refine c_region _ ?_ | refine wpList_nil ?_ | refine c_then ?_ | refine c_then_exit ?_ | refine c_then_ret ?_ | refine c_in ?_ | refine c_in_ret ?_ | refine c_in_hit ?_ | refine wp_skip ?_ | refine wp_exit ?_ | refine wp_ret ?_ | refine c_in_miss rfl ?_ | (refine q_nil ?_; rintro _ ⟨ndr, rfl⟩) | refine c_region_draw _ mixed (by kernel_rfl) ?_ | ((first | apply st hF | apply stg hF | apply s_step hF | apply s_stg hF); (first | exact d_move | exact d_assign | exact d_add | exact d_cmpT | exact d_cmpF | exact d_cmp | exact d_eqbT (und _ _ rfl) | exact d_eqbF (und _ _ rfl) | exact d_eqb (und _ _ rfl) | exact d_eqST | exact d_eqSF | exact d_eqS | exact d_len (und _ _ rfl) | exact d_lens (und _ _ rfl) | exact d_indexAddr1 (und _ _ rfl) (isz _ _ rfl) | exact d_eqN (ifc _ rfl) | exact d_neN (ifc _ rfl)); clear hF; clear a; intro a hF) | ((first | apply q_step hF | apply q_stg hF); intro wq hwq; (first | exact d_move | exact d_assign | exact d_add | exact d_cmpT | exact d_cmpF | exact d_cmp | exact d_eqbT (und _ _ rfl) | exact d_eqbF (und _ _ rfl) | exact d_eqb (und _ _ rfl) | exact d_eqST | exact d_eqSF | exact d_eqS | exact d_len (und _ _ rfl) | exact d_lens (und _ _ rfl) | exact d_indexAddr1 (und _ _ rfl) (isz _ _ rfl) | exact d_eqN (ifc _ rfl) | exact d_neN (ifc _ rfl)); clear hF; clear a; intro a hF) | ((first | apply stm hF | apply stu hF | apply q_stm hF | apply q_stu hF); clear hF; clear a; intro a hF) | (apply c_cond_t hF; exact rfl; first | exact rfl | assumption) | (apply c_cond_f hF; exact rfl; first | exact rfl | assumption) | refine s_nil ?_)
  have hdb : Below wr.heap.size wr (wr.drewN 1) := below_more (Below.refl _ wr) 1
  generalize wr.drewN 1 = r1 at *
  repeat (first | ((first | apply x_step hF | apply x_stg hF); intro wq hwq; (first | exact d_move | exact d_assign | exact d_add | exact d_cmpT | exact d_cmpF | exact d_cmp | exact d_eqbT (und _ _ rfl) | exact d_eqbF (und _ _ rfl) | exact d_eqb (und _ _ rfl) | exact d_eqST | exact d_eqSF | exact d_eqS | exact d_len (und _ _ rfl) | exact d_lens (und _ _ rfl) | exact d_indexAddr1 (und _ _ rfl) (isz _ _ rfl) | exact d_eqN (ifc _ rfl) | exact d_neN (ifc _ rfl) | exact d_loadAgg (agg _ rfl) (isz _ _ rfl) (by rw [setC_size, hsl]) (cells_at (hs.below hwq)) | exact d_loadAgg (agg _ rfl) (isz _ _ rfl) (encS_len t) (arr_cells (hS0 _ hwq).2) | exact d_indexAddr1 (und _ _ rfl) (isz _ _ rfl) (j := i) | exact d_indexAddrS (und _ _ rfl) (isz _ _ rfl) (j := j) | exact d_build (vs := []) (cells := setC Pl.emptyS) (by kernel_rfl) trivial | exact d_load (und _ _ rfl) ((hS0 _ hwq).1)); clear hF; clear a; intro a hF) | ((first | apply x_stm hF | apply x_stu hF); clear hF; clear a; intro a hF))
  refine x_one ?_
  refine stc hF (meet_of r1 s t hsl ht.len) cal41 ⟨rfl, by rw [encS_arr ht.len]; exact rfl, trivial⟩ (k := fun a v r2 hR hF => ?_)
  obtain ⟨rfl, hb2'⟩ := hR
  have hb2 : Below wr.heap.size wr r2 := hdb.trans (hb2'.mono hdb.size)
  refine wpList_nil ⟨rfl, hb2, ?_⟩
  have hs2 := hs.below hb2
  by_cases hmt : Pl.zipS (· && ·) s t = Pl.emptyS
  case neg =>
    repeat (first | ((first | apply x_step hF | apply x_stg hF); intro wq hwq; (first | exact d_move | exact d_assign | exact d_add | exact d_cmpT | exact d_cmpF | exact d_cmp | exact d_eqbT (und _ _ rfl) | exact d_eqbF (und _ _ rfl) | exact d_eqb (und _ _ rfl) | exact d_eqST | exact d_eqSF | exact d_eqS | exact d_len (und _ _ rfl) | exact d_lens (und _ _ rfl) | exact d_indexAddr1 (und _ _ rfl) (isz _ _ rfl) | exact d_eqN (ifc _ rfl) | exact d_neN (ifc _ rfl) | exact d_to (b := true) (eqSet (Pl.zipS_len _ _ _) emptyS_len) (by rw [decide_eq_false hmt]; rfl)); clear hF; clear a; intro a hF) | ((first | apply x_stm hF | apply x_stu hF); clear hF; clear a; intro a hF))
    refine x_nil ?_
    repeat (first | refine c_seq ?_ | refine c_block ?_ | refine c_region _ ?_ | refine wpList_nil ?_ | refine c_then ?_ | refine c_then_exit ?_ | refine c_then_ret ?_ | refine c_in ?_ | refine c_in_ret ?_ | refine c_in_hit ?_ | refine wp_skip ?_ | refine wp_exit ?_ | refine wp_ret ?_ | refine c_in_miss rfl ?_ | (refine q_nil ?_; rintro _ ⟨ndr, rfl⟩) | refine c_region_draw _ mixed (by kernel_rfl) ?_ | ((first | apply st hF | apply stg hF | apply s_step hF | apply s_stg hF); (first | exact d_move | exact d_assign | exact d_add | exact d_cmpT | exact d_cmpF | exact d_cmp | exact d_eqbT (und _ _ rfl) | exact d_eqbF (und _ _ rfl) | exact d_eqb (und _ _ rfl) | exact d_eqST | exact d_eqSF | exact d_eqS | exact d_len (und _ _ rfl) | exact d_lens (und _ _ rfl) | exact d_indexAddr1 (und _ _ rfl) (isz _ _ rfl) | exact d_eqN (ifc _ rfl) | exact d_neN (ifc _ rfl)); clear hF; clear a; intro a hF) | ((first | apply q_step hF | apply q_stg hF); intro wq hwq; (first | exact d_move | exact d_assign | exact d_add | exact d_cmpT | exact d_cmpF | exact d_cmp | exact d_eqbT (und _ _ rfl) | exact d_eqbF (und _ _ rfl) | exact d_eqb (und _ _ rfl) | exact d_eqST | exact d_eqSF | exact d_eqS | exact d_len (und _ _ rfl) | exact d_lens (und _ _ rfl) | exact d_indexAddr1 (und _ _ rfl) (isz _ _ rfl) | exact d_eqN (ifc _ rfl) | exact d_neN (ifc _ rfl)); clear hF; clear a; intro a hF) | ((first | apply stm hF | apply stu hF | apply q_stm hF | apply q_stu hF); clear hF; clear a; intro a hF) | (apply c_cond_t hF; exact rfl; first | exact rfl | assumption) | (apply c_cond_f hF; exact rfl; first | exact rfl | assumption) | refine s_nil ?_)
    refine ret1 hF rfl rfl ⟨true, rfl, ⟨fun _ => ?_, fun _ => rfl⟩, hB.trans (hb2.mono hB.size)⟩
    have hex : ∃ x, x < 64 ∧ s.getD x false = true ∧ t.getD x false = true := Classical.byContradiction fun h => hmt (and_empty.2 fun x hx h2 => h ⟨x, hx, h2⟩)
    obtain ⟨x, hx, h1, h2⟩ := hex
    obtain ⟨i', hi', j', hj', hin'⟩ := (hsx x hx).1 h1
    have hi'l : i' < al.length := by omega
    obtain ⟨j'', hj'', hj''l, hj''t⟩ := hget hi'l
    have ej : j'' = j' := by
      rw [List.getElem?_eq_getElem hi'l, hj''] at hj'
      have := Option.some.inj hj'; omega
    subst ej
    have hj''p : j'' < ps.length := by simpa using hj''l
    rw [sg_map ps j'' hj''p] at hj''t
    rw [List.pairwise_iff_getElem] at hsort
    have hlt' := hsort i' i hi'l hlt hi'
    rw [hj'', hj] at hlt'
    exact ⟨j, j'', hjp, by omega, (tst_at _ _).1 hj''t, hja, share_in.2 ⟨x, hin', (ht.at_ x hx).1 h2⟩⟩
  repeat (first | ((first | apply x_step hF | apply x_stg hF); intro wq hwq; (first | exact d_move | exact d_assign | exact d_add | exact d_cmpT | exact d_cmpF | exact d_cmp | exact d_eqbT (und _ _ rfl) | exact d_eqbF (und _ _ rfl) | exact d_eqb (und _ _ rfl) | exact d_eqST | exact d_eqSF | exact d_eqS | exact d_len (und _ _ rfl) | exact d_lens (und _ _ rfl) | exact d_indexAddr1 (und _ _ rfl) (isz _ _ rfl) | exact d_eqN (ifc _ rfl) | exact d_neN (ifc _ rfl) | exact d_to (b := false) (eqSet (Pl.zipS_len _ _ _) emptyS_len) (by rw [decide_eq_true hmt]; rfl)); clear hF; clear a; intro a hF) | ((first | apply x_stm hF | apply x_stu hF); clear hF; clear a; intro a hF))
  refine x_nil ?_
  have hnosh : ∀ i2, i2 < i → ∀ j2 : Nat, al[i2]? = some (j2 : Int) → ¬ shareB (sg ps j2) (sg ps j) := by
    intro i2 h2 j2 e2 hsh
    obtain ⟨x, h3, h4⟩ := share_in.1 hsh
    exact and_empty.1 hmt x (inB_lt h3) ⟨(hsx x (inB_lt h3)).2 ⟨i2, h2, j2, e2, h3⟩, (ht.at_ x (inB_lt h3)).2 h4⟩
  have hS2 := hS0 r2 hb2
  repeat (first | (refine c_region_mix (fun wq => wq.cell? ⟨ab, ao + i, none⟩ = some (.int .i64 (j : Int)) ∧ ∀ q v, (encS t)[q]? = some v → wq.cell? ⟨lb, loo + j * 64 + q, none⟩ = some v) [(1, true), (2, true), (3, true), (4, true), (5, true), (6, true), (7, true), (0, false), (8, false), (9, false)] 8 mixed (by kernel_rfl) hS2 ?_; simp only [pickX, List.filterMap_cons, List.getElem?_cons_zero, List.getElem?_cons_succ, List.filterMap_nil, Option.map_some]) | refine c_seq ?_ | refine c_block ?_ | refine c_region _ ?_ | refine wpList_nil ?_ | refine c_then ?_ | refine c_then_exit ?_ | refine c_then_ret ?_ | refine c_in ?_ | refine c_in_ret ?_ | refine c_in_hit ?_ | refine wp_skip ?_ | refine wp_exit ?_ | refine wp_ret ?_ | refine c_in_miss rfl ?_ | (refine q_nil ?_; rintro _ ⟨ndr, rfl⟩) | refine c_region_draw _ mixed (by kernel_rfl) ?_ | ((first | apply st hF | apply stg hF | apply s_step hF | apply s_stg hF); (first | exact d_move | exact d_assign | exact d_add | exact d_cmpT | exact d_cmpF | exact d_cmp | exact d_eqbT (und _ _ rfl) | exact d_eqbF (und _ _ rfl) | exact d_eqb (und _ _ rfl) | exact d_eqST | exact d_eqSF | exact d_eqS | exact d_len (und _ _ rfl) | exact d_lens (und _ _ rfl) | exact d_indexAddr1 (und _ _ rfl) (isz _ _ rfl) | exact d_eqN (ifc _ rfl) | exact d_neN (ifc _ rfl)); clear hF; clear a; intro a hF) | ((first | apply q_step hF | apply q_stg hF); intro wq hwq; (first | exact d_move | exact d_assign | exact d_add | exact d_cmpT | exact d_cmpF | exact d_cmp | exact d_eqbT (und _ _ rfl) | exact d_eqbF (und _ _ rfl) | exact d_eqb (und _ _ rfl) | exact d_eqST | exact d_eqSF | exact d_eqS | exact d_len (und _ _ rfl) | exact d_lens (und _ _ rfl) | exact d_indexAddr1 (und _ _ rfl) (isz _ _ rfl) | exact d_eqN (ifc _ rfl) | exact d_neN (ifc _ rfl)); clear hF; clear a; intro a hF) | ((first | apply stm hF | apply stu hF | apply q_stm hF | apply q_stu hF); clear hF; clear a; intro a hF) | (apply c_cond_t hF; exact rfl; first | exact rfl | assumption) | (apply c_cond_f hF; exact rfl; first | exact rfl | assumption) | refine s_nil ?_)
  have hdb2 : Below r2.heap.size r2 (r2.drewN 1) := below_more (Below.refl _ r2) 1
  generalize r2.drewN 1 = r3 at *
  have hb3 : Below wr.heap.size wr r3 := hb2.trans (hdb2.mono hb2.size)
  have hs3 := hs.below hb3
  repeat (first | ((first | apply x_step hF | apply x_stg hF); intro wq hwq; (first | exact d_move | exact d_assign | exact d_add | exact d_cmpT | exact d_cmpF | exact d_cmp | exact d_eqbT (und _ _ rfl) | exact d_eqbF (und _ _ rfl) | exact d_eqb (und _ _ rfl) | exact d_eqST | exact d_eqSF | exact d_eqS | exact d_len (und _ _ rfl) | exact d_lens (und _ _ rfl) | exact d_indexAddr1 (und _ _ rfl) (isz _ _ rfl) | exact d_eqN (ifc _ rfl) | exact d_neN (ifc _ rfl) | exact d_loadAgg (agg _ rfl) (isz _ _ rfl) (encS_len t) (arr_cells hwq.2) | exact d_indexAddr1 (und _ _ rfl) (isz _ _ rfl) (j := i) | exact d_indexAddrS (und _ _ rfl) (isz _ _ rfl) (j := j) | exact d_load (und _ _ rfl) (hwq.1)); clear hF; clear a; intro a hF) | ((first | apply x_stm hF | apply x_stu hF); clear hF; clear a; intro a hF))
  refine x_one ?_
  refine st hF (d_loadAgg (agg _ rfl) (isz _ _ rfl) (by rw [setC_size, hsl]) (cells_at hs3)) rfl (fun a hF => wpList_nil ⟨rfl, hS0 r3 hb3, x_one ?_⟩)
  refine stc hF (union_of r3 s t hsl ht.len) cal42 ⟨rfl, by rw [encS_arr ht.len]; exact rfl, trivial⟩ (k := fun a v r4 hR hF => ?_)
  obtain ⟨rfl, hb4⟩ := hR
  have hs4 := hs3.below hb4
  replace hb4 : Below wr.heap.size wr r4 := hb3.trans (hb4.mono hb3.size)
  refine wpList_nil ⟨rfl, hS0 r4 hb4, x_one ?_⟩
  refine st_storeAgg hF (cs := setC (Pl.zipS (· || ·) s t)) (isz _ _ rfl) (by rw [setC_size, union_len]) (by rw [setC_size, hsl]) hs4 (setC_cells _) (k := fun a r5 hs5 hgr5 hsz5 hF => ?_)
  refine wpList_nil ⟨rfl, ⟨keep_g (hS0 r4 hb4).1 hgr5 (Nat.ne_of_lt hab), fun q v h => keep_g ((hS0 r4 hb4).2 q v h) hgr5 (Nat.ne_of_lt hlb)⟩, x_nil ?_⟩
  repeat (first | refine c_seq ?_ | refine c_block ?_ | refine c_region _ ?_ | refine wpList_nil ?_ | refine c_then ?_ | refine c_then_exit ?_ | refine c_then_ret ?_ | refine c_in ?_ | refine c_in_ret ?_ | refine c_in_hit ?_ | refine wp_skip ?_ | refine wp_exit ?_ | refine wp_ret ?_ | refine c_in_miss rfl ?_ | (refine q_nil ?_; rintro _ ⟨ndr, rfl⟩) | refine c_region_draw _ mixed (by kernel_rfl) ?_ | ((first | apply st hF | apply stg hF | apply s_step hF | apply s_stg hF); (first | exact d_move | exact d_assign | exact d_add | exact d_cmpT | exact d_cmpF | exact d_cmp | exact d_eqbT (und _ _ rfl) | exact d_eqbF (und _ _ rfl) | exact d_eqb (und _ _ rfl) | exact d_eqST | exact d_eqSF | exact d_eqS | exact d_len (und _ _ rfl) | exact d_lens (und _ _ rfl) | exact d_indexAddr1 (und _ _ rfl) (isz _ _ rfl) | exact d_eqN (ifc _ rfl) | exact d_neN (ifc _ rfl)); clear hF; clear a; intro a hF) | ((first | apply q_step hF | apply q_stg hF); intro wq hwq; (first | exact d_move | exact d_assign | exact d_add | exact d_cmpT | exact d_cmpF | exact d_cmp | exact d_eqbT (und _ _ rfl) | exact d_eqbF (und _ _ rfl) | exact d_eqb (und _ _ rfl) | exact d_eqST | exact d_eqSF | exact d_eqS | exact d_len (und _ _ rfl) | exact d_lens (und _ _ rfl) | exact d_indexAddr1 (und _ _ rfl) (isz _ _ rfl) | exact d_eqN (ifc _ rfl) | exact d_neN (ifc _ rfl)); clear hF; clear a; intro a hF) | ((first | apply stm hF | apply stu hF | apply q_stm hF | apply q_stu hF); clear hF; clear a; intro a hF) | (apply c_cond_t hF; exact rfl; first | exact rfl | assumption) | (apply c_cond_f hF; exact rfl; first | exact rfl | assumption) | refine s_nil ?_)
  refine ⟨al.length - (i + 1), by omega, i + 1, _, by omega, rfl, union_len, fun x hx => ?_, fun i1 i2 h1 h2 j1 j2 e1 e2 => ?_, by rw [haa, hlo]; exact hF.keep' ⟨rfl, rfl, rfl, rfl, trivial⟩, hs5, (hbel.trans (hb4.mono hz)).grown hgr5 (by have := hb4.size; omega) (fun k hk => by cases hk; exact Nat.le_refl _)⟩
  · rw [or_get hx, hsx x hx, ht.at_ x hx, ex_succ]
    refine or_congr Iff.rfl ⟨fun h => ⟨j, hai, h⟩, fun ⟨j', e, h⟩ => ?_⟩
    rw [hai] at e
    have : j = j' := by have := Option.some.inj e; omega
    rw [this]; exact h
  · by_cases e : i1 = i
    · subst e
      rw [hai] at e1
      have : j = j1 := by have := Option.some.inj e1; omega
      rw [← this]
      exact hnosh i2 h2 j2 e2
    · exact hno i1 i2 (by omega) h2 j1 j2 e1 e2
end Go.Proofs.YtjomihhpglojpaaDoor
end
