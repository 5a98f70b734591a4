/- Laid together by a program of mine: MessW BuildSS OneW DbC. -/
import Derived.Test.YtjomihhpglojpaaDoorSumLawKnownCS11
import Derived.Test.YtjomihhpglojpaaDoorSumLawKnownCS9
import Derived.Test.YtjomihhpglojpaaDoorSumLawKnownCS6
import Derived.Great.FillDense
import Derived.Great.BuildSlice
import Derived.Test.YtjomihhpglojpaaDoorSumLawKnownCS5
import Derived.Test.YtjomihhpglojpaaDoorSumLawKnownCS8
set_option linter.unusedSimpArgs false
set_option linter.unusedVariables false
section
/- check.Message, walked. -/
namespace Go.Proofs.YtjomihhpglojpaaDoor
open Go.RowKit
set_option linter.unusedSimpArgs false
set_option linter.unusedVariables false
attribute [local irreducible] wpList wpQuiet wpStill Code.wp Exit.then Exit.inBlock bodyPost Calls Does Does0
set_option maxRecDepth 100000
/-- The multiplexor among the first k. -/
def MuxI (ps : List SigT) (k : Nat) (mx : Int) : Prop := (mx = -1 ∧ ∀ j, j < k → (sg ps j).role ≠ 1) ∨ ∃ i : Nat, mx = (i : Int) ∧ i < k ∧ (sg ps i).role = 1 ∧ ∀ j, j < i → (sg ps j).role ≠ 1
theorem MuxI.neg {ps : List SigT} {k : Nat} {mx : Int} (h : MuxI ps k mx) (hm : mx < 0) : ∀ j, j < k → (sg ps j).role ≠ 1 := by
  rcases h with ⟨_, h⟩ | ⟨i, rfl, _⟩
  · exact h
  · omega
theorem MuxI.pos {ps : List SigT} {k : Nat} {mx : Int} (h : MuxI ps k mx) (hm : 0 ≤ mx) : ∃ i : Nat, mx = (i : Int) ∧ i < k ∧ (sg ps i).role = 1 ∧ ∀ j, j < i → (sg ps j).role ≠ 1 := by
  rcases h with ⟨rfl, _⟩ | h
  · omega
  · exact h
theorem MuxI.other {ps : List SigT} {k : Nat} {mx : Int} (h : MuxI ps k mx) (hr : (sg ps k).role ≠ 1) : MuxI ps (k + 1) mx := by
  rcases h with ⟨rfl, h⟩ | ⟨i, rfl, h1, h2, h3⟩
  · refine .inl ⟨rfl, fun j hj => ?_⟩
    by_cases e : j = k
    · subst e; exact hr
    · exact h j (by omega)
  · exact .inr ⟨i, rfl, by omega, h2, h3⟩
theorem MuxI.new {ps : List SigT} {k : Nat} {mx : Int} (h : MuxI ps k mx) (hm : mx < 0) (hr : (sg ps k).role = 1) : MuxI ps (k + 1) (k : Int) := .inr ⟨k, rfl, by omega, hr, h.neg hm⟩
theorem MuxI.bnd {ps : List SigT} {k : Nat} {mx : Int} (h : MuxI ps k mx) : -1 ≤ mx ∧ mx < k := by
  rcases h with ⟨rfl, h⟩ | ⟨i, rfl, h1, h2, h3⟩ <;> omega
def namesK (ps : List SigT) : Nat → List ByteArray
  | 0 => []
  | k + 1 => (sg ps k).name :: namesK ps k
theorem namesK_len (ps : List SigT) : ∀ k, (namesK ps k).length = k
  | 0 => rfl
  | k + 1 => by simp [namesK, namesK_len ps k]
theorem namesK_any (ps : List SigT) (s : ByteArray) : ∀ k, ((namesK ps k).any fun x => decide (s = x)) = true ↔ ∃ j, j < k ∧ (sg ps j).name = s
  | 0 => by simp [namesK]
  | k + 1 => by
    unfold namesK
    rw [List.any_cons, Bool.or_eq_true, namesK_any ps s k, ex_succ, decide_eq_true_eq]
    exact ⟨fun h => h.elim (fun e => .inr e.symm) .inl, fun h => h.elim .inr (fun e => .inl e.symm)⟩
theorem MgAt.pl {B : Nat} {m : Msg} {w : World} (h : MgAt B m w) : ∀ j v, (#[.int .i64 m.line, .int .i64 m.col] : Array Value)[j]? = some v → w.cell? ⟨B, 0 + 0 + j, none⟩ = some v := by
  intro j v hj
  rcases j with _ | _ | j
  · simp at hj; subst hj; exact cell_at h rfl
  · simp at hj; subst hj; exact cell_at h rfl
  · simp at hj
theorem keep_c {r wq : World} {p : Addr} {v : Value} (h : r.cell? p = some v) (hb : Below r.heap.size r wq) : wq.cell? p = some v := (hb.cell (World.block_lt_of_cell? r _ h)).trans h
theorem tx_in {w : World} {m : Msg} {ps : List SigT} (hin : MsgIn w m ps) {k : Nat} (hk : k < ps.length) : SigIn w (sg ps k) (tx ps k) := by
  rw [sg_lt hk, tx_lt hk]
  exact hin.each _ (List.getElem_mem hk)
set_option maxHeartbeats 16000000 in
theorem cmsg_ok (w : World) (m : Msg) (ps : List SigT) (hin : MsgIn w m ps) (hB : ∀ p ∈ ps, SigB p.1) (hT : Tabs w) :
    Ret Tryd.prog 10 [.agg (Msg.cells m).toArray].toArray w (fun v w' => v = atV (msgE m ps).1 (placeL m ps (msgE m ps).2) (placeC m ps (msgE m ps).2) ∧ Below w.heap.size w w') := by
  have hlen := hin.len
  have hcap := hin.cap
  have hby := hin.bytes
  refine enter1 Tryd.func10 rfl 99 rfl 100 rfl (fun a hF => ?_)
  repeat (first | refine c_seq ?_ | refine c_region _ ?_)
  refine st_box hF (cs := (Msg.cells m).toArray) rfl (k := fun a w1 hg1 hgr1 hsz1 hF => ?_)
  have hb1 : Below w.heap.size w w1 := (Below.refl _ w).grown hgr1 (Nat.le_refl _) (fun k hk => by cases hk)
  have hm1 : MgAt w.heap.size m w1 := hg1
  repeat (first | refine c_seq ?_ | refine c_region _ ?_ | refine wpList_nil ?_ | refine c_then ?_ | ((apply st hF); (first | exact d_assign | exact d_loadAgg (agg _ rfl) (isz _ _ rfl) rfl (cells_at hg1)); clear hF; clear a; intro a hF))
  refine stc hF (head_ok w1 m) cal31 ⟨rfl, trivial⟩ (k := fun a v w2 hR hF => ?_)
  obtain ⟨rfl, hb2⟩ := hR
  have hm2 := hm1.below hb2
  replace hb2 := hb1.trans (hb2.mono hb1.size)
  clear hg1 hgr1 hm1 hb1
  obtain ⟨he, hhe⟩ : ∃ x, x = headE m := ⟨_, rfl⟩
  rw [← hhe] at hF
  by_cases h0 : he = 0
  case neg =>
    repeat (first | refine c_seq ?_ | refine c_region _ ?_ | refine wpList_nil ?_ | refine c_then ?_ | ((apply st hF); (first | exact d_move | exact d_assign | exact d_cmpT | exact d_fieldAddr (fld _ _ _ _ rfl) (isz _ _ rfl) | exact d_loadAgg (agg _ rfl) (isz _ _ rfl) rfl hm2.pl); clear hF; clear a; intro a hF) | (apply c_cond_t hF; exact rfl; first | exact rfl | assumption))
    refine stc hF (cat_ok w2 he m.line m.col) cal32 ⟨rfl, rfl, trivial⟩ (k := fun a v w3 hR hF => ?_)
    obtain ⟨rfl, hb3⟩ := hR
    repeat (first | refine wpList_nil ?_ | refine c_then ?_ | refine c_then_ret ?_ | refine wp_ret ?_ | ((apply st hF); (exact d_assign); clear hF; clear a; intro a hF))
    refine ret1 hF rfl rfl ⟨?_, hb2.trans (hb3.mono hb2.size)⟩
    rw [msgE_head (hhe ▸ h0), hhe]
    rfl
  have hh0 : headE m = 0 := by omega
  repeat (first | refine c_seq ?_ | refine c_region _ ?_ | refine wpList_nil ?_ | refine c_then ?_ | refine wp_skip ?_ | ((apply st hF); (first | exact d_move | exact d_assign | exact d_cmpF); clear hF; clear a; intro a hF) | (apply c_cond_f hF; exact rfl; first | exact rfl | assumption))
  refine st hF (d_makeMap Tryd.underlying76) rfl (fun a hF => ?_)
  have hM3 : SetM Tryd.prog 9 4 (w2.alloc (.map #[] 0)) w2.heap.size [] := SetM.new w2
  have hgr3 : w2.grownBy (w2.alloc (.map #[] 0)) none := World.grownBy_alloc w2 _ none
  generalize w2.alloc (.map #[] 0) = w3 at *
  have hb3 : Below w.heap.size w w3 := hb2.grown hgr3 hb2.size (fun k hk => by cases hk)
  have hm3 : MgAt w.heap.size m w3 := blk_kept hm2 hgr3 (by simp)
  have hz2 := hb2.size
  have hlt2 := lt_at hm2
  clear hgr3 hm2
  repeat (first | refine c_seq ?_ | refine c_block ?_ | refine c_region _ ?_ | refine wpList_nil ?_ | refine c_then ?_ | ((apply st hF); (first | exact d_move | exact d_assign | exact d_len (und _ _ rfl) | exact d_fieldAddr (fld _ _ _ _ rfl) (isz _ _ rfl) | exact d_load (und _ _ rfl) (hm3.c 7 _ rfl)); clear hF; clear a; intro a hF))
  refine c_loop (fun q a wr => ∃ k mx, k ≤ m.sgN ∧ q = m.sgN - k ∧ (∀ j, j < k → oneE ps m.size j = 0) ∧ MuxI ps k mx ∧ Fr 100 [(1, .pointer (some ⟨w.heap.size, 0, none⟩)), (4, .int .i64 mx), (5, .map (some w2.heap.size)), (21, .slice m.sg m.sgN m.sgC), (22, .int .i64 m.sgN), (23, .int .i64 (k : Nat))] a ∧
    MgAt w.heap.size m wr ∧ SetM Tryd.prog 9 4 wr w2.heap.size (namesK ps k) ∧ Below w.heap.size w wr) m.sgN
    ⟨0, -1, Nat.zero_le _, rfl, fun j hj => absurd hj (Nat.not_lt_zero _), .inl ⟨rfl, fun j hj => absurd hj (Nat.not_lt_zero _)⟩, hF.keep' ⟨rfl, rfl, rfl, rfl, rfl, rfl, trivial⟩, hm3, hM3, hb3⟩ ?_
  clear hF a hm3 hM3 hb3 hb2
  rintro q a wr ⟨k, mx, hk, rfl, hone, hmx, hF, hm, hM, hbel⟩
  have hz := hbel.size
  have hmxb := hmx.bnd
  by_cases hlt : k < m.sgN
  case pos =>
    have hkl : k < ps.length := by omega
    obtain ⟨b, o, hao, hc⟩ := sig_cells_at hin hbel hkl
    have hbr : SigB (sg ps k) := by rw [sg_lt hkl]; exact hB _ (List.getElem_mem hkl)
    have htx := tx_in hin hkl
    have hlm := hM.lt
    rw [hao] at hF
    have hoE : ∀ e, oneE ps m.size k = e → e ≠ 0 → msgE m ps = (e, some k) := fun e he h1 => by
      rw [msgE_one hh0 hkl (by rw [he]; exact h1) hone, he]
    have hname := namesK_any ps (sg ps k).name k
    have hEq : oneE ps m.size k = oneE ps m.size k := rfl
    conv at hEq => rhs; unfold oneE
    obtain ⟨s, hs⟩ : ∃ x, x = sg ps k := ⟨_, rfl⟩
    obtain ⟨ss, hss⟩ : ∃ x, x = tx ps k := ⟨_, rfl⟩
    have hpl : placeL m ps (some k) = s.line ∧ placeC m ps (some k) = s.col := by rw [hs]; exact ⟨rfl, rfl⟩
    rw [← hs] at hc hbr htx hname hEq
    rw [← hss] at htx hEq
    repeat (first | refine c_seq ?_ | refine c_block ?_ | refine c_region _ ?_ | refine wpList_nil ?_ | refine c_then ?_ | refine wp_skip ?_ | ((apply st hF); (first | exact d_move | exact d_cmpT | exact d_indexAddrS (und _ _ rfl) (isz _ _ rfl) (j := k) | exact d_loadAgg (agg _ rfl) (isz _ _ rfl) rfl (arr_cells hc)); clear hF; clear a; intro a hF) | (apply c_cond_t hF; exact rfl; first | exact rfl | assumption))
    refine st_alloc hF inf38 (k := fun a r1 hg1 hgr1 hsz1 hF => ?_)
    repeat (((apply st hF); (exact d_assign); clear hF; clear a; intro a hF))
    refine st_storeAgg hF (cs := (Sig.cells s).toArray) (isz _ _ rfl) rfl rfl hg1 (sig_cells _) (k := fun a r2 hs2 hgr2 hsz2 hF => ?_)
    have hb2 : Below wr.heap.size wr r2 := ((Below.refl _ wr).grown hgr1 (Nat.le_refl _) (fun k hk => by cases hk)).grown hgr2 (by omega) (fun k hk => by cases hk; exact Nat.le_refl _)
    have hs2 : SgAt wr.heap.size s r2 := hs2
    clear hg1 hgr1 hgr2
    repeat (first | refine c_seq ?_ | refine c_region _ ?_ | refine wpList_nil ?_ | refine c_then ?_ | ((apply st hF); (first | exact d_fieldAddr (fld _ _ _ _ rfl) (isz _ _ rfl) | exact d_loadAgg (agg _ rfl) (isz _ _ rfl) rfl (cells_at hs2) | exact d_load (und _ _ rfl) ((hm.below hb2).c 5 _ rfl)); clear hF; clear a; intro a hF))
    have hB2 : Below w.heap.size w r2 := hbel.trans (hb2.mono hz)
    have htx2 := htx.below hB2
    refine stc hF (alone_ok r2 s ss m.size htx2.len htx2.rd hbr (hT.below hB2)) cal33 ⟨rfl, rfl, trivial⟩ (k := fun a v r3 hR hF => ?_)
    obtain ⟨rfl, hb3⟩ := hR
    have hs3 := hs2.below hb3
    replace hb3 : Below wr.heap.size wr r3 := hb2.trans (hb3.mono hb2.size)
    have hal : aloneE s ss m.size = 0 → wordB s.name = true := name_of_alone
    clear hs2 hb2 htx2 hB2
    obtain ⟨ae, hae⟩ : ∃ x, x = aloneE s ss m.size := ⟨_, rfl⟩
    rw [← hae] at hF hEq hal
    by_cases ha0 : ae = 0
    case neg =>
      rw [if_pos ha0] at hEq
      repeat (first | refine c_seq ?_ | refine c_block ?_ | refine c_region _ ?_ | refine wpList_nil ?_ | refine c_then ?_ | refine c_in ?_ | refine wp_skip ?_ | ((apply st hF); (first | exact d_move | exact d_assign | exact d_cmpT | exact d_fieldAddr (fld _ _ _ _ rfl) (isz _ _ rfl) | exact d_loadAgg (agg _ rfl) (isz _ _ rfl) rfl hs3.pl); clear hF; clear a; intro a hF) | (apply c_cond_t hF; exact rfl; first | exact rfl | assumption))
      refine stc hF (cat_ok r3 ae s.line s.col) cal32 ⟨rfl, rfl, trivial⟩ (k := fun a v r4 hR hF => ?_)
      obtain ⟨rfl, hb4⟩ := hR
      repeat (first | refine wpList_nil ?_ | refine c_then ?_ | refine c_then_ret ?_ | refine c_in_ret ?_ | refine wp_ret ?_ | ((apply st hF); (exact d_assign); clear hF; clear a; intro a hF))
      refine ret1 hF rfl rfl ⟨?_, hbel.trans ((hb3.trans (hb4.mono hb3.size)).mono hz)⟩
      rw [hoE ae hEq ha0, hpl.1, hpl.2]
    rw [if_neg (fun h => h ha0)] at hEq
    have hs64 := wordB_size (hal ha0)
    have hl := (hM.below hb3).look Tryd.underlying76 Tryd.underlying9 Tryd.underlying4 (Tryd.zeroValue4 r3) s.name (by unfold maxLen; omega)
    cases hany : (namesK ps k).any (fun x => decide (s.name = x)) with
    | true =>
      rw [hany] at hl hname
      rw [if_pos (hname.1 rfl)] at hEq
      repeat (first | refine c_seq ?_ | refine c_block ?_ | refine c_region _ ?_ | refine wpList_nil ?_ | refine c_then ?_ | refine c_in ?_ | ((apply st hF); (first | exact d_move | exact d_assign | exact d_cmpT | exact d_cmpF | exact d_fieldAddr (fld _ _ _ _ rfl) (isz _ _ rfl) | exact d_lookup hl | exact d_loadAgg (agg _ rfl) (isz _ _ rfl) rfl hs3.pl | exact d_load (und _ _ rfl) (hs3.c 2 _ rfl)); clear hF; clear a; intro a hF) | (apply c_cond_t hF; exact rfl; first | exact rfl | assumption) | (apply c_cond_f hF; exact rfl; first | exact rfl | assumption))
      refine stc hF (cat_ok r3 12 s.line s.col) cal32 ⟨rfl, rfl, trivial⟩ (k := fun a v r4 hR hF => ?_)
      obtain ⟨rfl, hb4⟩ := hR
      repeat (first | refine wpList_nil ?_ | refine c_then ?_ | refine c_then_ret ?_ | refine c_in_ret ?_ | refine wp_ret ?_ | ((apply st hF); (exact d_assign); clear hF; clear a; intro a hF))
      refine ret1 hF rfl rfl ⟨?_, hbel.trans ((hb3.trans (hb4.mono hb3.size)).mono hz)⟩
      rw [hoE 12 hEq (by decide), hpl.1, hpl.2]
    | false =>
    rw [hany] at hl hname
    rw [if_neg (fun h => Bool.noConfusion (hname.2 h))] at hEq
    obtain ⟨r5, hr5, hM5, hgr5, hsz5⟩ := (hM.below hb3).put Tryd.underlying76 Tryd.underlying9 Tryd.underlying4 s.name (by unfold maxLen; omega) (by rw [namesK_len]; unfold maxLen; omega)
    have hlms := lt_at hs3
    have hlmm := lt_at hm
    have hs5 : SgAt wr.heap.size s r5 := blk_kept hs3 hgr5 (by simp; omega)
    have hm5 : MgAt w.heap.size m r5 := blk_kept (hm.below hb3) hgr5 (by simp; omega)
    have hbel5 : Below w.heap.size w r5 := (hbel.trans (hb3.mono hz)).grown hgr5 (by have := hb3.size; omega) (fun k hk => by cases hk; omega)
    have hM5' : SetM Tryd.prog 9 4 r5 w2.heap.size (namesK ps (k + 1)) := by
      unfold namesK
      rw [← hs]
      exact hM5
    clear hgr5 hM5
    by_cases hr1 : s.role = 1
    · by_cases hmx0 : mx ≥ 0
      · obtain ⟨i, rfl, h1, h2, h3⟩ := hmx.pos hmx0
        rw [if_pos ⟨hr1, i, h1, h2⟩] at hEq
        repeat (first | refine c_seq ?_ | refine c_block ?_ | refine c_region _ ?_ | refine wpList_nil ?_ | refine c_then ?_ | refine c_in ?_ | ((first | apply st hF | apply stg hF); (first | exact d_move | exact d_assign | exact d_pickT | exact d_cmpT | exact d_cmpF | exact d_fieldAddr (fld _ _ _ _ rfl) (isz _ _ rfl) | exact d_lookup hl | exact d_loadAgg (agg _ rfl) (isz _ _ rfl) rfl hs3.pl | exact d_load (und _ _ rfl) (hs3.c 2 _ rfl) | exact d_load (und _ _ rfl) (hs3.c 3 _ rfl)); clear hF; clear a; intro a hF) | (apply c_cond_t hF; exact rfl; first | exact rfl | assumption) | (apply c_cond_f hF; exact rfl; first | exact rfl | assumption))
        refine stc hF (cat_ok r3 14 s.line s.col) cal32 ⟨rfl, rfl, trivial⟩ (k := fun a v r4 hR hF => ?_)
        obtain ⟨rfl, hb4⟩ := hR
        repeat (first | refine wpList_nil ?_ | refine c_then ?_ | refine c_then_ret ?_ | refine c_in_ret ?_ | refine wp_ret ?_ | ((apply st hF); (exact d_assign); clear hF; clear a; intro a hF))
        refine ret1 hF rfl rfl ⟨?_, hbel.trans ((hb3.trans (hb4.mono hb3.size)).mono hz)⟩
        rw [hoE 14 hEq (by decide), hpl.1, hpl.2]
      · have hneg := hmx.neg (by omega)
        rw [if_neg (fun ⟨_, j, hj, e⟩ => hneg j hj e)] at hEq
        repeat (first | refine c_seq ?_ | refine c_block ?_ | refine c_region _ ?_ | refine wpList_nil ?_ | refine c_then ?_ | refine c_in ?_ | refine wp_skip ?_ | ((first | apply st hF | apply stg hF); (first | exact d_move | exact d_assign | exact d_pickT | exact d_cmpT | exact d_cmpF | exact d_fieldAddr (fld _ _ _ _ rfl) (isz _ _ rfl) | exact d_lookup hl | exact d_load (und _ _ rfl) (hs3.c 2 _ rfl) | exact d_load (und _ _ rfl) (hs3.c 3 _ rfl)); clear hF; clear a; intro a hF) | (apply c_cond_f hF; exact rfl; first | exact rfl | assumption))
        refine st0 hF (d_mapUpdate hr5) rfl (fun a hF => ?_)
        repeat (first | refine c_seq ?_ | refine c_region _ ?_ | refine wpList_nil ?_ | refine c_then ?_ | refine c_in ?_ | ((apply st hF); (first | exact d_move | exact d_assign | exact d_add | exact d_cmpT | exact d_fieldAddr (fld _ _ _ _ rfl) (isz _ _ rfl) | exact d_load (und _ _ rfl) (hs5.c 3 _ rfl)); clear hF; clear a; intro a hF) | (apply c_cond_t hF; exact rfl; first | exact rfl | assumption))
        exact ⟨m.sgN - (k + 1), by omega, k + 1, (k : Int), by omega, rfl, fun j hj => by
          by_cases e : j = k
          · subst e; exact hEq
          · exact hone j (by omega), hmx.new (by omega) (hs ▸ hr1), hao.symm ▸ hF.keep' ⟨rfl, rfl, rfl, rfl, rfl, rfl, trivial⟩, hm5, hM5', hbel5⟩
    · rw [if_neg (fun h => hr1 h.1)] at hEq
      repeat (first | refine c_seq ?_ | refine c_block ?_ | refine c_region _ ?_ | refine wpList_nil ?_ | refine c_then ?_ | refine c_in ?_ | refine wp_skip ?_ | ((apply st hF); (first | exact d_move | exact d_assign | exact d_pickF | exact d_cmpF | exact d_fieldAddr (fld _ _ _ _ rfl) (isz _ _ rfl) | exact d_lookup hl | exact d_load (und _ _ rfl) (hs3.c 2 _ rfl) | exact d_load (und _ _ rfl) (hs3.c 3 _ rfl)); clear hF; clear a; intro a hF) | ((apply stm hF); clear hF; clear a; intro a hF) | (apply c_cond_f hF; exact rfl; first | exact rfl | assumption))
      refine st0 hF (d_mapUpdate hr5) rfl (fun a hF => ?_)
      repeat (first | refine c_seq ?_ | refine c_region _ ?_ | refine wpList_nil ?_ | refine c_then ?_ | refine c_in ?_ | refine wp_skip ?_ | ((apply st hF); (first | exact d_move | exact d_add | exact d_cmpF | exact d_fieldAddr (fld _ _ _ _ rfl) (isz _ _ rfl) | exact d_load (und _ _ rfl) (hs5.c 3 _ rfl)); clear hF; clear a; intro a hF) | (apply c_cond_f hF; exact rfl; first | exact rfl | assumption))
      exact ⟨m.sgN - (k + 1), by omega, k + 1, mx, by omega, rfl, fun j hj => by
        by_cases e : j = k
        · subst e; exact hEq
        · exact hone j (by omega), hmx.other (hs ▸ hr1), hao.symm ▸ hF.keep' ⟨rfl, rfl, rfl, rfl, rfl, rfl, trivial⟩, hm5, hM5', hbel5⟩
  -- the branches
  obtain rfl : k = m.sgN := by omega
  clear hM
  have hone' : ∀ j, j < ps.length → oneE ps m.size j = 0 := fun j hj => hone j (by omega)
  have hfm : (mx = -1 ∧ firstAt (isMux ps) ps.length = none) ∨ ∃ i : Nat, mx = (i : Int) ∧ i < ps.length ∧ firstAt (isMux ps) ps.length = some i := by
    rcases hmx with ⟨rfl, h⟩ | ⟨i, rfl, h1, h2, h3⟩
    · exact .inl ⟨rfl, firstAt_none fun j hj => h j (by omega)⟩
    · exact .inr ⟨i, rfl, by omega, firstAt_some (by omega) h2 h3⟩
  repeat (first | refine c_seq ?_ | refine c_block ?_ | refine c_region _ ?_ | refine wpList_nil ?_ | refine c_then ?_ | refine c_then_exit ?_ | refine c_in_hit ?_ | refine wp_exit ?_ | ((apply st hF); (first | exact d_move | exact d_cmpF | exact d_len (und _ _ rfl) | exact d_fieldAddr (fld _ _ _ _ rfl) (isz _ _ rfl) | exact d_load (und _ _ rfl) (hm.c 7 _ rfl)); clear hF; clear a; intro a hF) | (apply c_cond_f hF; exact rfl; first | exact rfl | assumption))
  refine c_loop (fun q a wr => ∃ k, k ≤ m.sgN ∧ q = m.sgN - k ∧ (∀ j, j < k → ¬ twoB ps j) ∧ Fr 100 [(1, .pointer (some ⟨w.heap.size, 0, none⟩)), (4, .int .i64 mx), (63, .slice m.sg m.sgN m.sgC), (64, .int .i64 m.sgN), (65, .int .i64 (k : Nat))] a ∧
    MgAt w.heap.size m wr ∧ Below w.heap.size w wr) m.sgN
    ⟨0, Nat.zero_le _, rfl, fun j hj => absurd hj (Nat.not_lt_zero _), hF.keep' ⟨rfl, rfl, rfl, rfl, rfl, trivial⟩, hm, hbel⟩ ?_
  clear hF a hm hbel hz wr hlt hk hone
  rintro q a wr ⟨k, hk, rfl, htwo, hF, hm, hbel⟩
  have hz := hbel.size
  by_cases hlt : k < m.sgN
  case neg =>
    obtain rfl : k = m.sgN := by omega
    have htwo' : ∀ j, j < ps.length → ¬ twoB ps j := fun j hj => htwo j (by omega)
    repeat (first | refine c_seq ?_ | refine c_region _ ?_ | refine wpList_nil ?_ | refine c_then ?_ | refine c_then_exit ?_ | refine c_in_hit ?_ | refine wp_exit ?_ | ((apply st hF); (first | exact d_cmpF | exact d_loadAgg (agg _ rfl) (isz _ _ rfl) rfl (cells_at hm)); clear hF; clear a; intro a hF) | (apply c_cond_f hF; exact rfl; first | exact rfl | assumption))
    refine stc hF (apart_ok wr m ps (SigsIn.below hin hbel) hB hone') cal35 ⟨rfl, trivial⟩ (k := fun a v r1 hR hF => ?_)
    obtain ⟨rfl, hb1⟩ := hR
    repeat (first | refine wpList_nil ?_ | refine c_then ?_ | refine wp_ret ?_ | ((apply st hF); (exact d_assign); clear hF; clear a; intro a hF))
    refine ret1 hF rfl rfl ⟨?_, hbel.trans (hb1.mono hz)⟩
    have e : msgE m ps = meetE ps := by
      unfold msgE meetE
      rw [if_neg (fun h => h hh0), firstAt_none (fun j hj e => e (hone' j hj)), firstAt_none htwo']
      rfl
    rw [e]
  have hkl : k < ps.length := by omega
  obtain ⟨b, o, hao, hc⟩ := sig_cells_at hin hbel hkl
  have hbr : SigB (sg ps k) := by rw [sg_lt hkl]; exact hB _ (List.getElem_mem hkl)
  rw [hao] at hF
  have hbad : twoB ps k → msgE m ps = (14, some k) := fun h => msgE_two hh0 hone' hkl h htwo
  have hgood : ¬ twoB ps k → ∀ j, j < k + 1 → ¬ twoB ps j := fun h j hj => by
    by_cases e : j = k
    · subst e; exact h
    · exact htwo j (by omega)
  have htw : twoB ps k ↔ ((sg ps k).role = 2 ∧ ∀ i, firstAt (isMux ps) ps.length = some i → fitsB (sg ps k).branch (sg ps i).size (sg ps i).sgn = false) := Iff.rfl
  obtain ⟨s, hs⟩ : ∃ x, x = sg ps k := ⟨_, rfl⟩
  have hpl : placeL m ps (some k) = s.line ∧ placeC m ps (some k) = s.col := by rw [hs]; exact ⟨rfl, rfl⟩
  rw [← hs] at hc hbr htw
  repeat (first | refine c_seq ?_ | refine c_block ?_ | refine c_region _ ?_ | refine wpList_nil ?_ | refine c_then ?_ | refine wp_skip ?_ | ((apply st hF); (first | exact d_cmpT | exact d_indexAddrS (und _ _ rfl) (isz _ _ rfl) (j := k) | exact d_loadAgg (agg _ rfl) (isz _ _ rfl) rfl (arr_cells hc)); clear hF; clear a; intro a hF) | (apply c_cond_t hF; exact rfl; first | exact rfl | assumption))
  refine st_alloc hF inf38 (k := fun a r1 hg1 hgr1 hsz1 hF => ?_)
  refine st_storeAgg hF (cs := (Sig.cells s).toArray) (isz _ _ rfl) rfl rfl hg1 (sig_cells _) (k := fun a r2 hs2 hgr2 hsz2 hF => ?_)
  have hb2 : Below wr.heap.size wr r2 := ((Below.refl _ wr).grown hgr1 (Nat.le_refl _) (fun k hk => by cases hk)).grown hgr2 (by omega) (fun k hk => by cases hk; exact Nat.le_refl _)
  have hs2 : SgAt wr.heap.size s r2 := hs2
  have hm2 := hm.below hb2
  have hB2 : Below w.heap.size w r2 := hbel.trans (hb2.mono hz)
  clear hg1 hgr1 hgr2 hm hb2
  repeat (first | (refine c_region_mix (fun wq => Below r2.heap.size r2 wq) [(0, true), (1, true), (2, true), (3, true), (4, true), (5, true), (6, true), (7, true), (8, true), (9, true), (10, true), (11, true), (12, true), (13, true), (14, true), (15, true), (16, true), (17, true), (18, true), (19, true), (20, true), (21, false), (22, true), (23, true), (24, true)] 24 mixed (by kernel_rfl) (below_more (Below.refl _ r2) 1) ?_; simp only [pickX, List.filterMap_cons, List.getElem?_cons_zero, List.getElem?_cons_succ, List.filterMap_nil, Option.map_some]) | refine c_seq ?_ | refine wpList_nil ?_ | refine c_then ?_)
  have hdb : Below r2.heap.size r2 (r2.drewN 1) := below_more (Below.refl _ r2) 1
  generalize r2.drewN 1 = r3 at *
  have hB3 : Below w.heap.size w r3 := hB2.trans (hdb.mono hB2.size)
  have hs3 := hs2.below hdb
  have hm3 := hm2.below hdb
  by_cases hr2 : s.role = 2
  case neg =>
    repeat (first | ((apply x_step hF); intro wq hwq; (first | exact d_move | exact d_cmpF | exact d_fieldAddr (fld _ _ _ _ rfl) (isz _ _ rfl) | exact d_load (und _ _ rfl) (((hs2.below hwq).c 3 _ rfl))); clear hF; clear a; intro a hF) | ((first | apply x_stm hF | apply x_stu hF); clear hF; clear a; intro a hF))
    refine x_one (stu hF rfl rfl rfl (k := fun a hF => wpList_nil ⟨rfl, hdb, ?_⟩))
    repeat (first | ((apply x_step hF); intro wq hwq; (exact d_pickF); clear hF; clear a; intro a hF) | ((first | apply x_stm hF | apply x_stu hF); clear hF; clear a; intro a hF))
    refine x_nil ?_
    repeat (first | refine c_region _ ?_ | refine wpList_nil ?_ | refine c_then ?_ | refine c_in ?_ | refine wp_skip ?_ | ((apply st hF); (first | exact d_move | exact d_add); clear hF; clear a; intro a hF) | (apply c_cond_f hF; exact rfl; first | exact rfl | assumption))
    exact ⟨m.sgN - (k + 1), by omega, k + 1, by omega, rfl, hgood (fun h => hr2 (htw.1 h).1), hao.symm ▸ hF.keep' ⟨rfl, rfl, rfl, rfl, rfl, trivial⟩, hm3, hB3⟩
  rcases hfm with ⟨rfl, hfn⟩ | ⟨i, rfl, hil, hfs⟩
  · repeat (first | ((first | apply x_step hF | apply x_stg hF); intro wq hwq; (first | exact d_move | exact d_cmpT | exact d_fieldAddr (fld _ _ _ _ rfl) (isz _ _ rfl) | exact d_load (und _ _ rfl) (((hs2.below hwq).c 3 _ rfl))); clear hF; clear a; intro a hF) | ((apply x_stm hF); clear hF; clear a; intro a hF))
    refine x_one (stm hF rfl rfl rfl rfl (k := fun a hF => wpList_nil ⟨rfl, hdb, ?_⟩))
    repeat (first | ((first | apply x_step hF | apply x_stg hF); intro wq hwq; (exact d_pickT); clear hF; clear a; intro a hF) | ((apply x_stm hF); clear hF; clear a; intro a hF))
    refine x_nil ?_
    repeat (first | refine c_seq ?_ | refine c_region _ ?_ | refine c_then ?_ | ((apply st hF); (first | exact d_fieldAddr (fld _ _ _ _ rfl) (isz _ _ rfl) | exact d_loadAgg (agg _ rfl) (isz _ _ rfl) rfl hs3.pl); clear hF; clear a; intro a hF) | (apply c_cond_t hF; exact rfl; first | exact rfl | assumption))
    refine stc hF (cat_ok r3 14 s.line s.col) cal32 ⟨rfl, rfl, trivial⟩ (k := fun a v r4 hR hF => ?_)
    obtain ⟨rfl, hb4⟩ := hR
    repeat (first | refine wpList_nil ?_ | refine c_then ?_ | refine c_then_ret ?_ | refine c_in_ret ?_ | refine wp_ret ?_ | ((apply st hF); (exact d_assign); clear hF; clear a; intro a hF))
    refine ret1 hF rfl rfl ⟨?_, hB3.trans (hb4.mono hB3.size)⟩
    rw [hbad (htw.2 ⟨hr2, fun i hi => by rw [hfn] at hi; cases hi⟩), hpl.1, hpl.2]
  · obtain ⟨b', o', hao', hci⟩ := sig_cells_at hin hB2 hil
    have e := hao.symm.trans hao'
    cases e
    have x6 := hci 6 _ rfl
    have x8 := hci 8 _ rfl
    have c7 := hm2.c 7 _ rfl
    rw [hao] at c7
    repeat (((first | apply x_step hF | apply x_stg hF); intro wq hwq; (first | exact d_move | exact d_cmpT | exact d_cmpF | exact d_fieldAddr (fld _ _ _ _ rfl) (isz _ _ rfl) | exact d_indexAddrS (und _ _ rfl) (isz _ _ rfl) (j := i) | exact d_load (und _ _ rfl) (((hs2.below hwq).c 3 _ rfl)) | exact d_load (und _ _ rfl) (((hs2.below hwq).c 4 _ rfl)) | exact d_load (und _ _ rfl) ((keep_c c7 hwq)) | exact d_load (und _ _ rfl) ((keep_c x6 hwq)) | exact d_load (und _ _ rfl) ((keep_c x8 hwq))); clear hF; clear a; intro a hF))
    refine x_one ?_
    refine stcg hF (fits_ok r3 s.branch (sg ps i).size (sg ps i).sgn hbr.br) cal34 ⟨rfl, rfl, rfl, trivial⟩ (k := fun a v r4 hR hF => wpList_nil ?_)
    obtain ⟨rfl, rfl⟩ := hR
    refine ⟨rfl, hdb, ?_⟩
    cases hft : fitsB s.branch (sg ps i).size (sg ps i).sgn with
    | true =>
      rw [hft] at hF
      repeat (((first | apply x_step hF | apply x_stg hF); intro wq hwq; (first | exact d_not | exact d_pickT | exact d_pickF); clear hF; clear a; intro a hF))
      refine x_nil ?_
      repeat (first | refine c_region _ ?_ | refine wpList_nil ?_ | refine c_then ?_ | refine c_in ?_ | refine wp_skip ?_ | ((apply st hF); (first | exact d_move | exact d_add); clear hF; clear a; intro a hF) | (apply c_cond_f hF; exact rfl; first | exact rfl | assumption))
      exact ⟨m.sgN - (k + 1), by omega, k + 1, by omega, rfl, hgood (fun h => by have := (htw.1 h).2 i hfs; rw [hft] at this; cases this), hao.symm ▸ hF.keep' ⟨rfl, rfl, rfl, rfl, rfl, trivial⟩, hm3, hB3⟩
    | false =>
      rw [hft] at hF
      repeat (((first | apply x_step hF | apply x_stg hF); intro wq hwq; (first | exact d_not | exact d_pickT | exact d_pickF); clear hF; clear a; intro a hF))
      refine x_nil ?_
      repeat (first | refine c_seq ?_ | refine c_region _ ?_ | refine c_then ?_ | ((apply st hF); (first | exact d_fieldAddr (fld _ _ _ _ rfl) (isz _ _ rfl) | exact d_loadAgg (agg _ rfl) (isz _ _ rfl) rfl hs3.pl); clear hF; clear a; intro a hF) | (apply c_cond_t hF; exact rfl; first | exact rfl | assumption))
      refine stc hF (cat_ok _ 14 s.line s.col) cal32 ⟨rfl, rfl, trivial⟩ (k := fun a v r5 hR hF => ?_)
      obtain ⟨rfl, hb4⟩ := hR
      repeat (first | refine wpList_nil ?_ | refine c_then ?_ | refine c_then_ret ?_ | refine c_in_ret ?_ | refine wp_ret ?_ | ((apply st hF); (exact d_assign); clear hF; clear a; intro a hF))
      refine ret1 hF rfl rfl ⟨?_, hB3.trans (hb4.mono hB3.size)⟩
      rw [hbad (htw.2 ⟨hr2, fun j hj => by rw [hfs] at hj; cases hj; exact hft⟩), hpl.1, hpl.2]
end Go.Proofs.YtjomihhpglojpaaDoor
end
section
/- A slice of given structs, made anew. Plain lemmas over any program. -/
namespace Go.Proofs.YtjomihhpglojpaaDoor
open Go.RowKit
section
variable {P : Program} {ops : Array Oper} {Q : Exit → Act → World → Prop} {a : Act} {w w' : World} {rest : List Oper} {N : Nat} {l : List (Nat × Value)}
theorem d_buildSS {t e ty : TypeId} {n sz : Nat} {ps : List (Nat × Operand)} (us : List (Array Value)) {z : Value} {by_ : Nat} (hU : P.underlying t = some (.slice e)) (hi : (P.info? e).map (fun i => (i.zero, i.size, i.bytes)) = some (some z, sz, by_))
    (h0 : 0 < sz) (h1 : n * sz ≤ 16777216) (hn0 : 0 < n) (hn : us.length = n) (hus : ∀ u ∈ us, u.size = sz) (hv : EvP l ps (((us.map Value.agg).zipIdx 0).map fun x => (x.2, x.1))) :
    Does P l w (.buildSlice t n ps.toArray) ty (.slice (some ⟨w.heap.size, 0, none⟩) n n) (w.alloc (.cells (us.flatMap fun u => u.toList).toArray e)) := by
  intro ρ hρ d pos af g
  obtain ⟨i, g1, g2, g3, g4⟩ := info_parts hi
  subst g3
  have e1 := EvP.map hρ hv
  have hf := Great.fill_whole (s := i.size) h0 (us.map Value.agg) ((Array.range (n * i.size)).map (z.cells[· % z.cells.size]!)) (by intro v hv; obtain ⟨u, hu, rfl⟩ := List.mem_map.1 hv; exact hus u hu) (by simp [hn])
  have e2 : ((us.map Value.agg).flatMap fun v => v.cells.toList) = us.flatMap fun u => u.toList := by
    rw [List.flatMap_map]
    rfl
  rw [e2] at hf
  have h3 : n * i.size ≠ 0 := Nat.mul_ne_zero (by omega) (by omega)
  have hr := run_buildSlice (P := P) w t e n (((us.map Value.agg).zipIdx 0).map fun x => (x.2, x.1)).toArray _ i z hU g1 g2 (by omega) h3 (by simpa using hf)
  simp only [execOp, List.map_toArray, Sem.run_bind]
  rw [e1, hr]
  rfl
theorem rdS_alloc {α : Type} (w : World) (sz : Nat) (enc : α → List Value) (he : ∀ x, (enc x).length = sz) (xs : List α) (e : TypeId) (cs : Array Value) (hc : cs = (xs.flatMap enc).toArray) : RdS (w.alloc (.cells cs e)) (some ⟨w.heap.size, 0, none⟩) sz enc xs := by
  subst hc
  intro i hi
  refine ⟨_, _, rfl, fun q v hq => cell_at (heap_alloc_new w _) ?_⟩
  have hlt : q < sz := by
    have := (List.getElem?_eq_some_iff.1 hq).1
    rw [he] at this; exact this
  have := flat_get he xs i hi q hlt
  rw [List.getElem?_toArray, Nat.zero_add, this]
  exact hq
end
end Go.Proofs.YtjomihhpglojpaaDoor
end
section
/- one, two and works, walked: the laws' own example. -/
namespace Go.Proofs.YtjomihhpglojpaaDoor
open Go.RowKit
set_option linter.unusedSimpArgs false
set_option linter.unusedVariables false
attribute [local irreducible] wpList wpQuiet wpStill Code.wp Exit.then Exit.inBlock bodyPost Calls Does Does0
set_option maxRecDepth 100000
def oneS (name : ByteArray) (start size : Int) (g : Nat) : Sig := ⟨0, 0, name, 0, 0, start, size, false, false, 1, 1, 0, 1, 0, 1, 0, 1, ⟨#[]⟩, some ⟨g, 0, none⟩, 1, 1⟩
def txA : List ByteArray := [⟨#[65]⟩]
def twoM (ao : Option Addr) (n c : Nat) : Msg := ⟨0, 0, 5, false, ⟨#[77]⟩, 2, ⟨#[65]⟩, ao, n, c⟩
theorem one_in {w : World} {name : ByteArray} {start size : Int} {g : Nat} (h : Rd w (some ⟨g, 0, none⟩) .string txA) : SigIn w (oneS name start size g) txA := ⟨rfl, h, Nat.le_refl 1, (by show 1 * 16 ≤ 140737488351232; decide)⟩
theorem one_bnd (name : ByteArray) (start size : Int) (g : Nat) : SigB (oneS name start size g) := by
  constructor <;> (unfold oneS; dsimp only; omega)
theorem textE_empty : textE ⟨#[]⟩ = 0 := by
  unfold textE
  rw [if_neg (by decide), if_pos (show AllOk ⟨#[]⟩ from fun k hk => absurd hk (Nat.not_lt_zero _))]
theorem one_alone {name : ByteArray} {start size n : Int} (g : Nat) (h1 : wordB name = true) (h2 : Pl.whereE start size false n = 0) : aloneE (oneS name start size g) txA n = 0 := by
  unfold aloneE
  have e1 : rangedE (oneS name start size g) = 0 := by
    have : rangedE (oneS name start size g) = rangedE (oneS ⟨#[]⟩ 0 0 0) := rfl
    rw [this]; decide +kernel
  have e2 : ¬ roleB (oneS name start size g) := by unfold roleB oneS; dsimp only; omega
  have e3 : namesE txA = 0 := by decide +kernel
  have e4 : textE (oneS name start size g).unit = 0 := textE_empty
  rw [if_neg (by show ¬ wordB name = false; rw [h1]; decide), if_neg e2, if_neg (fun h => h h2), if_neg (fun h => h e1), if_neg (fun h => h e4), e3]
/-- Have two rows a bit in common? -/
def shareN (start size : Int) (mot : Bool) (start' size' : Int) (mot' : Bool) : Bool :=
  match Pl.bitsOfSig start size mot, Pl.bitsOfSig start' size' mot' with
  | .ok l, .ok m => l.any fun x => m.any fun y => decide (x = y)
  | _, _ => false
theorem share_dec (s t : Sig) : shareB s t ↔ shareN s.start s.size s.mot t.start t.size t.mot = true := by
  unfold shareB shareN
  constructor
  · rintro ⟨l, m, x, h1, h2, h3, h4⟩
    rw [h1, h2]
    exact List.any_eq_true.2 ⟨x, h3, List.any_eq_true.2 ⟨x, h4, decide_eq_true rfl⟩⟩
  · intro h
    split at h
    · rename_i l m h1 h2
      obtain ⟨x, hx, h⟩ := List.any_eq_true.1 h
      obtain ⟨y, hy, h⟩ := List.any_eq_true.1 h
      obtain rfl := of_decide_eq_true h
      exact ⟨l, m, x, h1, h2, hx, hy⟩
    · cases h
set_option maxHeartbeats 4000000 in
theorem one_ok (w : World) (name : ByteArray) (start size : Int) : Ret Tryd.prog 30 [.string name, .int .i64 start, .int .i64 size].toArray w (fun v w' => (∃ g, v = .agg (Sig.cells (oneS name start size g)).toArray ∧ Rd w' (some ⟨g, 0, none⟩) .string txA) ∧ Below w.heap.size w w') := by
  refine enter3 Tryd.func30 rfl 17 rfl 20 rfl (fun a hF => ?_)
  repeat (first | refine c_seq ?_ | refine c_region _ ?_)
  refine st_alloc hF inf38 (k := fun a w1 hg1 hgr1 hsz1 hF => ?_)
  repeat (first | refine c_seq ?_ | refine c_region _ ?_ | refine wpList_nil ?_ | refine c_then ?_ | ((apply st hF); (exact d_build (vs := [(0, .int .i64 1), (1, .int .i64 1)]) (cells := #[.int .i64 1, .int .i64 1]) (by kernel_rfl) ⟨rfl, rfl, rfl, rfl, trivial⟩); clear hF; clear a; intro a hF))
  refine st_alloc hF inf35 (k := fun a w2 hg2 hgr2 hsz2 hF => ?_)
  refine st_storeAgg hF (cs := #[.int .i64 1, .int .i64 1]) (isz _ _ rfl) rfl rfl hg2 (by simp [Value.oneCell']) (k := fun a w3 hg3 hgr3 hsz3 hF => ?_)
  repeat (first | refine c_seq ?_ | refine c_region _ ?_ | refine wpList_nil ?_ | refine c_then ?_ | ((apply st hF); (exact d_build (vs := [(1, .int .i64 1)]) (cells := #[.int .i64 0, .int .i64 1]) (by kernel_rfl) ⟨rfl, rfl, trivial⟩); clear hF; clear a; intro a hF))
  refine st_alloc hF inf35 (k := fun a w4 hg4 hgr4 hsz4 hF => ?_)
  refine st_storeAgg hF (cs := #[.int .i64 0, .int .i64 1]) (isz _ _ rfl) rfl rfl hg4 (by simp [Value.oneCell']) (k := fun a w5 hg5 hgr5 hsz5 hF => ?_)
  have h1 : w5.heap[w.heap.size]? = some (.cells _ 38 (0, 0)) := blk_kept (blk_kept (blk_kept (blk_kept hg1 hgr2 (by simp)) hgr3 (by simp; omega)) hgr4 (by simp)) hgr5 (by simp; omega)
  have h3 : w5.heap[w1.heap.size]? = some (.cells _ 35 (0, 0)) := blk_kept (blk_kept hg3 hgr4 (by simp)) hgr5 (by simp; omega)
  have hb5 : Below w.heap.size w w5 := ((((Below.refl _ w).grown hgr1 (Nat.le_refl _) (fun k hk => by cases hk)).grown hgr2 (by omega) (fun k hk => by cases hk)).grown hgr3 (by omega) (fun k hk => by cases hk; omega)).grown hgr4 (by omega) (fun k hk => by cases hk) |>.grown hgr5 (by omega) (fun k hk => by cases hk; omega)
  repeat (first | refine c_seq ?_ | refine c_region _ ?_ | refine wpList_nil ?_ | refine c_then ?_ | ((apply st hF); (first | exact d_move | exact d_loadAgg (agg _ rfl) (isz _ _ rfl) rfl (cells_at h3) | exact d_loadAgg (agg _ rfl) (isz _ _ rfl) rfl (cells_at hg5)); clear hF; clear a; intro a hF))
  refine st_buildR hF Value.string txA [(0, .string ⟨#[65]⟩)] (und _ _ rfl) inf9 rfl (by kernel_rfl) ⟨rfl, rfl, trivial⟩ (k := fun a w6 hgr6 hb6 hR hF => ?_)
  have h6 := blk_kept h1 hgr6 (by simp)
  have hlt := lt_at h1
  repeat (((apply st hF); (exact d_build (vs := [(1, .string name), (4, .int .i64 start), (5, .int .i64 size), (8, .agg #[.int .i64 1, .int .i64 1]), (9, .agg #[.int .i64 0, .int .i64 1]), (10, .agg #[.int .i64 0, .int .i64 1]), (11, .agg #[.int .i64 0, .int .i64 1]), (13, .slice (some ⟨w5.heap.size, 0, none⟩) 1 1)]) (cells := (Sig.cells (oneS name start size w5.heap.size)).toArray) (by kernel_rfl) ⟨rfl, rfl, rfl, rfl, rfl, rfl, rfl, rfl, rfl, rfl, rfl, rfl, rfl, rfl, rfl, rfl, trivial⟩); clear hF; clear a; intro a hF))
  refine st_storeAgg hF (cs := (Sig.cells (oneS name start size w5.heap.size)).toArray) (isz _ _ rfl) rfl rfl h6 (sig_cells _) (k := fun a w7 hg7 hgr7 hsz7 hF => ?_)
  have hB7 : Below w.heap.size w w7 := (hb5.trans (hb6.mono hb5.size)).grown hgr7 (by have := hb6.size; omega) (fun k hk => by cases hk; omega)
  repeat (first | refine wpList_nil ?_ | refine c_then ?_ | refine wp_ret ?_)
  refine ret_c hF rfl (agg _ rfl) (isz _ _ rfl) hg7 rfl ⟨⟨_, rfl, fun i hi => ?_⟩, hB7⟩
  obtain ⟨b, o, e, hc⟩ := hR i hi
  cases e
  refine ⟨_, _, rfl, ?_⟩
  rw [← hc]
  unfold World.cell?
  dsimp only
  rw [hgr7.block _ (lt_at (o := w6.heap[w5.heap.size]'(World.block_lt_of_cell? w6 _ hc)) (by simp)) (by simp; omega)]
set_option maxHeartbeats 4000000 in
theorem two_ok (w : World) (ao : Option Addr) (n c : Nat) : Ret Tryd.prog 29 [.slice ao n c].toArray w (fun v w' => v = .agg (Msg.cells (twoM ao n c)).toArray ∧ Below w.heap.size w w') := by
  refine enter1 Tryd.func29 rfl 4 rfl 5 rfl (fun a hF => ?_)
  repeat (first | refine c_seq ?_ | refine c_region _ ?_)
  refine st_alloc hF inf27 (k := fun a w1 hg1 hgr1 hsz1 hF => ?_)
  repeat (first | refine c_seq ?_ | refine c_region _ ?_ | refine wpList_nil ?_ | refine c_then ?_ | ((apply st hF); (first | exact d_move | exact d_build (vs := [(3, .string ⟨#[77]⟩), (1, .int .u32 5), (4, .int .i64 2), (5, .string ⟨#[65]⟩), (6, .slice ao n c)]) (cells := (Msg.cells (twoM ao n c)).toArray) (by kernel_rfl) ⟨rfl, rfl, rfl, rfl, rfl, rfl, rfl, rfl, rfl, rfl, trivial⟩); clear hF; clear a; intro a hF))
  refine st_storeAgg hF (cs := (Msg.cells (twoM ao n c)).toArray) (isz _ _ rfl) rfl rfl hg1 (msg_cells _) (k := fun a w2 hg2 hgr2 hsz2 hF => ?_)
  have hb2 : Below w.heap.size w w2 := ((Below.refl _ w).grown hgr1 (Nat.le_refl _) (fun k hk => by cases hk)).grown hgr2 (by omega) (fun k hk => by cases hk; omega)
  repeat (first | refine wpList_nil ?_ | refine c_then ?_ | refine wp_ret ?_)
  exact ret_c hF rfl (agg _ rfl) (isz _ _ rfl) hg2 rfl ⟨rfl, hb2⟩
end Go.Proofs.YtjomihhpglojpaaDoor
end
section
/- A database: its cells, and what it is to be there. -/
namespace Go.Proofs.YtjomihhpglojpaaDoor
open Go.RowKit
set_option linter.unusedSimpArgs false
set_option linter.unusedVariables false
attribute [local irreducible] wpList wpQuiet wpStill Code.wp Exit.then Exit.inBlock bodyPost Calls Does Does0
structure RowV where
  value : Int
  text : ByteArray
def RowV.cells (r : RowV) : List Value := [.int .i64 r.value, .string r.text]
theorem rowc_len (r : RowV) : (RowV.cells r).length = 2 := rfl
theorem row_cells (r : RowV) : ∀ v ∈ (RowV.cells r).toArray, v.oneCell' = true := by
  intro v hv; simp [RowV.cells] at hv; rcases hv with rfl | rfl <;> rfl
structure Tab where
  line : Int
  col : Int
  id : Int
  wide : Bool
  sig : ByteArray
  rw : Option Addr
  rwN : Nat
  rwC : Nat
def Tab.cells (t : Tab) : List Value := [.int .i64 t.line, .int .i64 t.col, .int .u32 t.id, .bool t.wide, .string t.sig, .slice t.rw t.rwN t.rwC]
theorem tabc_len (t : Tab) : (Tab.cells t).length = 6 := rfl
theorem tab_cells (t : Tab) : ∀ v ∈ (Tab.cells t).toArray, v.oneCell' = true := by
  intro v hv; simp [Tab.cells] at hv; rcases hv with rfl | rfl | rfl | rfl | rfl | rfl <;> rfl
structure Db where
  hasV : Bool
  vline : Int
  vcol : Int
  vtext : ByteArray
  sline : Int
  scol : Int
  sn : Option Addr
  snN : Nat
  snC : Nat
  mg : Option Addr
  mgN : Nat
  mgC : Nat
  tb : Option Addr
  tbN : Nat
  tbC : Nat
def Db.cells (d : Db) : List Value := [.bool d.hasV, .int .i64 d.vline, .int .i64 d.vcol, .string d.vtext, .int .i64 d.sline, .int .i64 d.scol, .slice d.sn d.snN d.snC, .slice d.mg d.mgN d.mgC, .slice d.tb d.tbN d.tbC]
theorem db_cells (d : Db) : ∀ v ∈ (Db.cells d).toArray, v.oneCell' = true := by
  intro v hv; simp [Db.cells] at hv; rcases hv with rfl | rfl | rfl | rfl | rfl | rfl | rfl | rfl | rfl <;> rfl
theorem msgc_len (m : Msg) : (Msg.cells m).length = 8 := rfl
abbrev MsgT := Msg × List SigT
abbrev TabT := Tab × List RowV
structure RowsIn (w : World) (t : Tab) (rs : List RowV) : Prop where
  len : rs.length = t.rwN
  rd : RdS w t.rw 2 RowV.cells rs
  cap : t.rwN ≤ t.rwC
  bytes : t.rwN * 24 ≤ 140737488351232
  val : ∀ r ∈ rs, -9223372036854775808 ≤ r.value ∧ r.value ≤ 9223372036854775807
theorem RowsIn.below {w w' : World} {t : Tab} {rs : List RowV} (h : RowsIn w t rs) (hb : Below w.heap.size w w') : RowsIn w' t rs := ⟨h.len, h.rd.below hb, h.cap, h.bytes, h.val⟩
structure MsgsIn (w : World) (ao : Option Addr) (n c : Nat) (ms : List MsgT) : Prop where
  len : ms.length = n
  rd : RdS w ao 8 Msg.cells (ms.map (·.1))
  each : ∀ p ∈ ms, MsgIn w p.1 p.2
  bnd : ∀ p ∈ ms, (∀ q ∈ p.2, SigB q.1) ∧ 0 ≤ p.1.id ∧ p.1.id < 4294967296
  cap : n ≤ c
  bytes : n * 88 ≤ 140737488351232
theorem MsgsIn.below {w w' : World} {ao : Option Addr} {n c : Nat} {ms : List MsgT} (h : MsgsIn w ao n c ms) (hb : Below w.heap.size w w') : MsgsIn w' ao n c ms :=
  ⟨h.len, h.rd.below hb, fun p hp => SigsIn.below (h.each p hp) hb, h.bnd, h.cap, h.bytes⟩
structure TabsIn (w : World) (ao : Option Addr) (n c : Nat) (ts : List TabT) : Prop where
  len : ts.length = n
  rd : RdS w ao 6 Tab.cells (ts.map (·.1))
  each : ∀ p ∈ ts, RowsIn w p.1 p.2
  bnd : ∀ p ∈ ts, (0 ≤ p.1.id ∧ p.1.id < 4294967296) ∧ p.1.sig.size ≤ maxLen
  cap : n ≤ c
  bytes : n * 64 ≤ 140737488351232
theorem TabsIn.below {w w' : World} {ao : Option Addr} {n c : Nat} {ts : List TabT} (h : TabsIn w ao n c ts) (hb : Below w.heap.size w w') : TabsIn w' ao n c ts :=
  ⟨h.len, h.rd.below hb, fun p hp => (h.each p hp).below hb, h.bnd, h.cap, h.bytes⟩
structure DbIn (w : World) (d : Db) (ss : List ByteArray) (ms : List MsgT) (ts : List TabT) : Prop where
  slen : ss.length = d.snN
  srd : Rd w d.sn .string ss
  scap : d.snN ≤ d.snC
  sbytes : d.snN * 16 ≤ 140737488351232
  msgs : MsgsIn w d.mg d.mgN d.mgC ms
  tabs : TabsIn w d.tb d.tbN d.tbC ts
theorem DbIn.below {w w' : World} {d : Db} {ss : List ByteArray} {ms : List MsgT} {ts : List TabT} (h : DbIn w d ss ms ts) (hb : Below w.heap.size w w') : DbIn w' d ss ms ts :=
  ⟨h.slen, h.srd.below hb, h.scap, h.sbytes, h.msgs.below hb, h.tabs.below hb⟩
end Go.Proofs.YtjomihhpglojpaaDoor
end
