/- Laid together by a program of mine: MessW. -/
import Derived.Test.YtjomihhpglojpaaGreatDoorSumLawDatabaseS23
import Derived.Test.YtjomihhpglojpaaGreatDoorSumLawDatabaseS17
set_option linter.unusedSimpArgs false
set_option linter.unusedVariables false
section
/- check.Message, walked. -/
namespace Go.Proofs.YtjomihhpglojpaaGreatDoor
open Go.RowKit
set_option linter.unusedSimpArgs false
set_option linter.unusedVariables false
attribute [local irreducible] wpList wpQuiet wpStill Code.wp Exit.then Exit.inBlock bodyPost Calls Does Does0
set_option maxRecDepth 100000
/-- The multiplexor among the first k. -/
def MuxI (ps : List SigT) (k : Nat) (mx : Int) : Prop := (mx = -1 ∧ ∀ j, j < k → (sg ps j).role ≠ 1) ∨ ∃ i : Nat, mx = (i : Int) ∧ i < k ∧ (sg ps i).role = 1 ∧ ∀ j, j < i → (sg ps j).role ≠ 1
theorem MuxI.neg {ps : List SigT} {k : Nat} {mx : Int} (h : MuxI ps k mx) (hm : mx < 0) : ∀ j, j < k → (sg ps j).role ≠ 1 := by
  rcases h with ⟨_, h⟩ | ⟨i, rfl, _⟩
  · exact h
  · omega
theorem MuxI.pos {ps : List SigT} {k : Nat} {mx : Int} (h : MuxI ps k mx) (hm : 0 ≤ mx) : ∃ i : Nat, mx = (i : Int) ∧ i < k ∧ (sg ps i).role = 1 ∧ ∀ j, j < i → (sg ps j).role ≠ 1 := by
  rcases h with ⟨rfl, _⟩ | h
  · omega
  · exact h
theorem MuxI.other {ps : List SigT} {k : Nat} {mx : Int} (h : MuxI ps k mx) (hr : (sg ps k).role ≠ 1) : MuxI ps (k + 1) mx := by
  rcases h with ⟨rfl, h⟩ | ⟨i, rfl, h1, h2, h3⟩
  · refine .inl ⟨rfl, fun j hj => ?_⟩
    by_cases e : j = k
    · subst e; exact hr
    · exact h j (by omega)
  · exact .inr ⟨i, rfl, by omega, h2, h3⟩
theorem MuxI.new {ps : List SigT} {k : Nat} {mx : Int} (h : MuxI ps k mx) (hm : mx < 0) (hr : (sg ps k).role = 1) : MuxI ps (k + 1) (k : Int) := .inr ⟨k, rfl, by omega, hr, h.neg hm⟩
theorem MuxI.bnd {ps : List SigT} {k : Nat} {mx : Int} (h : MuxI ps k mx) : -1 ≤ mx ∧ mx < k := by
  rcases h with ⟨rfl, h⟩ | ⟨i, rfl, h1, h2, h3⟩ <;> omega
def namesK (ps : List SigT) : Nat → List ByteArray
  | 0 => []
  | k + 1 => (sg ps k).name :: namesK ps k
theorem namesK_len (ps : List SigT) : ∀ k, (namesK ps k).length = k
  | 0 => rfl
  | k + 1 => by simp [namesK, namesK_len ps k]
theorem namesK_any (ps : List SigT) (s : ByteArray) : ∀ k, ((namesK ps k).any fun x => decide (s = x)) = true ↔ ∃ j, j < k ∧ (sg ps j).name = s
  | 0 => by simp [namesK]
  | k + 1 => by
    unfold namesK
    rw [List.any_cons, Bool.or_eq_true, namesK_any ps s k, ex_succ, decide_eq_true_eq]
    exact ⟨fun h => h.elim (fun e => .inr e.symm) .inl, fun h => h.elim .inr (fun e => .inl e.symm)⟩
theorem MgAt.pl {B : Nat} {m : Msg} {w : World} (h : MgAt B m w) : ∀ j v, (#[.int .i64 m.line, .int .i64 m.col] : Array Value)[j]? = some v → w.cell? ⟨B, 0 + 0 + j, none⟩ = some v := by
  intro j v hj
  rcases j with _ | _ | j
  · simp at hj; subst hj; exact cell_at h rfl
  · simp at hj; subst hj; exact cell_at h rfl
  · simp at hj
theorem keep_c {r wq : World} {p : Addr} {v : Value} (h : r.cell? p = some v) (hb : Below r.heap.size r wq) : wq.cell? p = some v := (hb.cell (World.block_lt_of_cell? r _ h)).trans h
theorem tx_in {w : World} {m : Msg} {ps : List SigT} (hin : MsgIn w m ps) {k : Nat} (hk : k < ps.length) : SigIn w (sg ps k) (tx ps k) := by
  rw [sg_lt hk, tx_lt hk]
  exact hin.each _ (List.getElem_mem hk)
set_option maxHeartbeats 16000000 in
theorem cmsg_ok (w : World) (m : Msg) (ps : List SigT) (hin : MsgIn w m ps) (hB : ∀ p ∈ ps, SigB p.1) (hT : Tabs w) :
    Ret Tryz.prog 7 [.agg (Msg.cells m).toArray].toArray w (fun v w' => v = atV (msgE m ps).1 (placeL m ps (msgE m ps).2) (placeC m ps (msgE m ps).2) ∧ Below w.heap.size w w') := by
  have hlen := hin.len
  have hcap := hin.cap
  have hby := hin.bytes
  refine enter1 Tryz.func7 rfl 99 rfl 100 rfl (fun a hF => ?_)
  repeat (first | refine c_seq ?_ | refine c_region _ ?_)
  refine st_box hF (cs := (Msg.cells m).toArray) rfl (k := fun a w1 hg1 hgr1 hsz1 hF => ?_)
  have hb1 : Below w.heap.size w w1 := (Below.refl _ w).grown hgr1 (Nat.le_refl _) (fun k hk => by cases hk)
  have hm1 : MgAt w.heap.size m w1 := hg1
  repeat (first | refine c_seq ?_ | refine c_region _ ?_ | refine wpList_nil ?_ | refine c_then ?_ | ((apply st hF); (first | exact d_assign | exact d_loadAgg (agg _ rfl) (isz _ _ rfl) rfl (cells_at hg1)); clear hF; clear a; intro a hF))
  refine stc hF (head_ok w1 m) cal16 ⟨rfl, trivial⟩ (k := fun a v w2 hR hF => ?_)
  obtain ⟨rfl, hb2⟩ := hR
  have hm2 := hm1.below hb2
  replace hb2 := hb1.trans (hb2.mono hb1.size)
  clear hg1 hgr1 hm1 hb1
  obtain ⟨he, hhe⟩ : ∃ x, x = headE m := ⟨_, rfl⟩
  rw [← hhe] at hF
  by_cases h0 : he = 0
  case neg =>
    repeat (first | refine c_seq ?_ | refine c_region _ ?_ | refine wpList_nil ?_ | refine c_then ?_ | ((apply st hF); (first | exact d_move | exact d_assign | exact d_cmpT | exact d_fieldAddr (fld _ _ _ _ rfl) (isz _ _ rfl) | exact d_loadAgg (agg _ rfl) (isz _ _ rfl) rfl hm2.pl); clear hF; clear a; intro a hF) | (apply c_cond_t hF; exact rfl; first | exact rfl | assumption))
    refine stc hF (cat_ok w2 he m.line m.col) cal17 ⟨rfl, rfl, trivial⟩ (k := fun a v w3 hR hF => ?_)
    obtain ⟨rfl, hb3⟩ := hR
    repeat (first | refine wpList_nil ?_ | refine c_then ?_ | refine c_then_ret ?_ | refine wp_ret ?_ | ((apply st hF); (exact d_assign); clear hF; clear a; intro a hF))
    refine ret1 hF rfl rfl ⟨?_, hb2.trans (hb3.mono hb2.size)⟩
    rw [msgE_head (hhe ▸ h0), hhe]
    rfl
  have hh0 : headE m = 0 := by omega
  repeat (first | refine c_seq ?_ | refine c_region _ ?_ | refine wpList_nil ?_ | refine c_then ?_ | refine wp_skip ?_ | ((apply st hF); (first | exact d_move | exact d_assign | exact d_cmpF); clear hF; clear a; intro a hF) | (apply c_cond_f hF; exact rfl; first | exact rfl | assumption))
  refine st hF (d_makeMap Tryz.underlying57) rfl (fun a hF => ?_)
  have hM3 : SetM Tryz.prog 9 4 (w2.alloc (.map #[] 0)) w2.heap.size [] := SetM.new w2
  have hgr3 : w2.grownBy (w2.alloc (.map #[] 0)) none := World.grownBy_alloc w2 _ none
  generalize w2.alloc (.map #[] 0) = w3 at *
  have hb3 : Below w.heap.size w w3 := hb2.grown hgr3 hb2.size (fun k hk => by cases hk)
  have hm3 : MgAt w.heap.size m w3 := blk_kept hm2 hgr3 (by simp)
  have hz2 := hb2.size
  have hlt2 := lt_at hm2
  clear hgr3 hm2
  repeat (first | refine c_seq ?_ | refine c_block ?_ | refine c_region _ ?_ | refine wpList_nil ?_ | refine c_then ?_ | ((apply st hF); (first | exact d_move | exact d_assign | exact d_len (und _ _ rfl) | exact d_fieldAddr (fld _ _ _ _ rfl) (isz _ _ rfl) | exact d_load (und _ _ rfl) (hm3.c 7 _ rfl)); clear hF; clear a; intro a hF))
  refine c_loop (fun q a wr => ∃ k mx, k ≤ m.sgN ∧ q = m.sgN - k ∧ (∀ j, j < k → oneE ps m.size j = 0) ∧ MuxI ps k mx ∧ Fr 100 [(1, .pointer (some ⟨w.heap.size, 0, none⟩)), (4, .int .i64 mx), (5, .map (some w2.heap.size)), (21, .slice m.sg m.sgN m.sgC), (22, .int .i64 m.sgN), (23, .int .i64 (k : Nat))] a ∧
    MgAt w.heap.size m wr ∧ SetM Tryz.prog 9 4 wr w2.heap.size (namesK ps k) ∧ Below w.heap.size w wr) m.sgN
    ⟨0, -1, Nat.zero_le _, rfl, fun j hj => absurd hj (Nat.not_lt_zero _), .inl ⟨rfl, fun j hj => absurd hj (Nat.not_lt_zero _)⟩, hF.keep' ⟨rfl, rfl, rfl, rfl, rfl, rfl, trivial⟩, hm3, hM3, hb3⟩ ?_
  clear hF a hm3 hM3 hb3 hb2
  rintro q a wr ⟨k, mx, hk, rfl, hone, hmx, hF, hm, hM, hbel⟩
  have hz := hbel.size
  have hmxb := hmx.bnd
  by_cases hlt : k < m.sgN
  case pos =>
    have hkl : k < ps.length := by omega
    obtain ⟨b, o, hao, hc⟩ := sig_cells_at hin hbel hkl
    have hbr : SigB (sg ps k) := by rw [sg_lt hkl]; exact hB _ (List.getElem_mem hkl)
    have htx := tx_in hin hkl
    have hlm := hM.lt
    rw [hao] at hF
    have hoE : ∀ e, oneE ps m.size k = e → e ≠ 0 → msgE m ps = (e, some k) := fun e he h1 => by
      rw [msgE_one hh0 hkl (by rw [he]; exact h1) hone, he]
    have hname := namesK_any ps (sg ps k).name k
    have hEq : oneE ps m.size k = oneE ps m.size k := rfl
    conv at hEq => rhs; unfold oneE
    obtain ⟨s, hs⟩ : ∃ x, x = sg ps k := ⟨_, rfl⟩
    obtain ⟨ss, hss⟩ : ∃ x, x = tx ps k := ⟨_, rfl⟩
    have hpl : placeL m ps (some k) = s.line ∧ placeC m ps (some k) = s.col := by rw [hs]; exact ⟨rfl, rfl⟩
    rw [← hs] at hc hbr htx hname hEq
    rw [← hss] at htx hEq
    repeat (first | refine c_seq ?_ | refine c_block ?_ | refine c_region _ ?_ | refine wpList_nil ?_ | refine c_then ?_ | refine wp_skip ?_ | ((apply st hF); (first | exact d_move | exact d_cmpT | exact d_indexAddrS (und _ _ rfl) (isz _ _ rfl) (j := k) | exact d_loadAgg (agg _ rfl) (isz _ _ rfl) rfl (arr_cells hc)); clear hF; clear a; intro a hF) | (apply c_cond_t hF; exact rfl; first | exact rfl | assumption))
    refine st_alloc hF inf62 (k := fun a r1 hg1 hgr1 hsz1 hF => ?_)
    repeat (((apply st hF); (exact d_assign); clear hF; clear a; intro a hF))
    refine st_storeAgg hF (cs := (Sig.cells s).toArray) (isz _ _ rfl) rfl rfl hg1 (sig_cells _) (k := fun a r2 hs2 hgr2 hsz2 hF => ?_)
    have hb2 : Below wr.heap.size wr r2 := ((Below.refl _ wr).grown hgr1 (Nat.le_refl _) (fun k hk => by cases hk)).grown hgr2 (by omega) (fun k hk => by cases hk; exact Nat.le_refl _)
    have hs2 : SgAt wr.heap.size s r2 := hs2
    clear hg1 hgr1 hgr2
    repeat (first | refine c_seq ?_ | refine c_region _ ?_ | refine wpList_nil ?_ | refine c_then ?_ | ((apply st hF); (first | exact d_fieldAddr (fld _ _ _ _ rfl) (isz _ _ rfl) | exact d_loadAgg (agg _ rfl) (isz _ _ rfl) rfl (cells_at hs2) | exact d_load (und _ _ rfl) ((hm.below hb2).c 5 _ rfl)); clear hF; clear a; intro a hF))
    have hB2 : Below w.heap.size w r2 := hbel.trans (hb2.mono hz)
    have htx2 := htx.below hB2
    refine stc hF (alone_ok r2 s ss m.size htx2.len htx2.rd hbr (hT.below hB2)) cal18 ⟨rfl, rfl, trivial⟩ (k := fun a v r3 hR hF => ?_)
    obtain ⟨rfl, hb3⟩ := hR
    have hs3 := hs2.below hb3
    replace hb3 : Below wr.heap.size wr r3 := hb2.trans (hb3.mono hb2.size)
    have hal : aloneE s ss m.size = 0 → wordB s.name = true := name_of_alone
    clear hs2 hb2 htx2 hB2
    obtain ⟨ae, hae⟩ : ∃ x, x = aloneE s ss m.size := ⟨_, rfl⟩
    rw [← hae] at hF hEq hal
    by_cases ha0 : ae = 0
    case neg =>
      rw [if_pos ha0] at hEq
      repeat (first | refine c_seq ?_ | refine c_block ?_ | refine c_region _ ?_ | refine wpList_nil ?_ | refine c_then ?_ | refine c_in ?_ | refine wp_skip ?_ | ((apply st hF); (first | exact d_move | exact d_assign | exact d_cmpT | exact d_fieldAddr (fld _ _ _ _ rfl) (isz _ _ rfl) | exact d_loadAgg (agg _ rfl) (isz _ _ rfl) rfl hs3.pl); clear hF; clear a; intro a hF) | (apply c_cond_t hF; exact rfl; first | exact rfl | assumption))
      refine stc hF (cat_ok r3 ae s.line s.col) cal17 ⟨rfl, rfl, trivial⟩ (k := fun a v r4 hR hF => ?_)
      obtain ⟨rfl, hb4⟩ := hR
      repeat (first | refine wpList_nil ?_ | refine c_then ?_ | refine c_then_ret ?_ | refine c_in_ret ?_ | refine wp_ret ?_ | ((apply st hF); (exact d_assign); clear hF; clear a; intro a hF))
      refine ret1 hF rfl rfl ⟨?_, hbel.trans ((hb3.trans (hb4.mono hb3.size)).mono hz)⟩
      rw [hoE ae hEq ha0, hpl.1, hpl.2]
    rw [if_neg (fun h => h ha0)] at hEq
    have hs64 := wordB_size (hal ha0)
    have hl := (hM.below hb3).look Tryz.underlying57 Tryz.underlying9 Tryz.underlying4 (Tryz.zeroValue4 r3) s.name (by unfold maxLen; omega)
    cases hany : (namesK ps k).any (fun x => decide (s.name = x)) with
    | true =>
      rw [hany] at hl hname
      rw [if_pos (hname.1 rfl)] at hEq
      repeat (first | refine c_seq ?_ | refine c_block ?_ | refine c_region _ ?_ | refine wpList_nil ?_ | refine c_then ?_ | refine c_in ?_ | ((apply st hF); (first | exact d_move | exact d_assign | exact d_cmpT | exact d_cmpF | exact d_fieldAddr (fld _ _ _ _ rfl) (isz _ _ rfl) | exact d_lookup hl | exact d_loadAgg (agg _ rfl) (isz _ _ rfl) rfl hs3.pl | exact d_load (und _ _ rfl) (hs3.c 2 _ rfl)); clear hF; clear a; intro a hF) | (apply c_cond_t hF; exact rfl; first | exact rfl | assumption) | (apply c_cond_f hF; exact rfl; first | exact rfl | assumption))
      refine stc hF (cat_ok r3 12 s.line s.col) cal17 ⟨rfl, rfl, trivial⟩ (k := fun a v r4 hR hF => ?_)
      obtain ⟨rfl, hb4⟩ := hR
      repeat (first | refine wpList_nil ?_ | refine c_then ?_ | refine c_then_ret ?_ | refine c_in_ret ?_ | refine wp_ret ?_ | ((apply st hF); (exact d_assign); clear hF; clear a; intro a hF))
      refine ret1 hF rfl rfl ⟨?_, hbel.trans ((hb3.trans (hb4.mono hb3.size)).mono hz)⟩
      rw [hoE 12 hEq (by decide), hpl.1, hpl.2]
    | false =>
    rw [hany] at hl hname
    rw [if_neg (fun h => Bool.noConfusion (hname.2 h))] at hEq
    obtain ⟨r5, hr5, hM5, hgr5, hsz5⟩ := (hM.below hb3).put Tryz.underlying57 Tryz.underlying9 Tryz.underlying4 s.name (by unfold maxLen; omega) (by rw [namesK_len]; unfold maxLen; omega)
    have hlms := lt_at hs3
    have hlmm := lt_at hm
    have hs5 : SgAt wr.heap.size s r5 := blk_kept hs3 hgr5 (by simp; omega)
    have hm5 : MgAt w.heap.size m r5 := blk_kept (hm.below hb3) hgr5 (by simp; omega)
    have hbel5 : Below w.heap.size w r5 := (hbel.trans (hb3.mono hz)).grown hgr5 (by have := hb3.size; omega) (fun k hk => by cases hk; omega)
    have hM5' : SetM Tryz.prog 9 4 r5 w2.heap.size (namesK ps (k + 1)) := by
      unfold namesK
      rw [← hs]
      exact hM5
    clear hgr5 hM5
    by_cases hr1 : s.role = 1
    · by_cases hmx0 : mx ≥ 0
      · obtain ⟨i, rfl, h1, h2, h3⟩ := hmx.pos hmx0
        rw [if_pos ⟨hr1, i, h1, h2⟩] at hEq
        repeat (first | refine c_seq ?_ | refine c_block ?_ | refine c_region _ ?_ | refine wpList_nil ?_ | refine c_then ?_ | refine c_in ?_ | ((first | apply st hF | apply stg hF); (first | exact d_move | exact d_assign | exact d_pickT | exact d_cmpT | exact d_cmpF | exact d_fieldAddr (fld _ _ _ _ rfl) (isz _ _ rfl) | exact d_lookup hl | exact d_loadAgg (agg _ rfl) (isz _ _ rfl) rfl hs3.pl | exact d_load (und _ _ rfl) (hs3.c 2 _ rfl) | exact d_load (und _ _ rfl) (hs3.c 3 _ rfl)); clear hF; clear a; intro a hF) | (apply c_cond_t hF; exact rfl; first | exact rfl | assumption) | (apply c_cond_f hF; exact rfl; first | exact rfl | assumption))
        refine stc hF (cat_ok r3 14 s.line s.col) cal17 ⟨rfl, rfl, trivial⟩ (k := fun a v r4 hR hF => ?_)
        obtain ⟨rfl, hb4⟩ := hR
        repeat (first | refine wpList_nil ?_ | refine c_then ?_ | refine c_then_ret ?_ | refine c_in_ret ?_ | refine wp_ret ?_ | ((apply st hF); (exact d_assign); clear hF; clear a; intro a hF))
        refine ret1 hF rfl rfl ⟨?_, hbel.trans ((hb3.trans (hb4.mono hb3.size)).mono hz)⟩
        rw [hoE 14 hEq (by decide), hpl.1, hpl.2]
      · have hneg := hmx.neg (by omega)
        rw [if_neg (fun ⟨_, j, hj, e⟩ => hneg j hj e)] at hEq
        repeat (first | refine c_seq ?_ | refine c_block ?_ | refine c_region _ ?_ | refine wpList_nil ?_ | refine c_then ?_ | refine c_in ?_ | refine wp_skip ?_ | ((first | apply st hF | apply stg hF); (first | exact d_move | exact d_assign | exact d_pickT | exact d_cmpT | exact d_cmpF | exact d_fieldAddr (fld _ _ _ _ rfl) (isz _ _ rfl) | exact d_lookup hl | exact d_load (und _ _ rfl) (hs3.c 2 _ rfl) | exact d_load (und _ _ rfl) (hs3.c 3 _ rfl)); clear hF; clear a; intro a hF) | (apply c_cond_f hF; exact rfl; first | exact rfl | assumption))
        refine st0 hF (d_mapUpdate hr5) rfl (fun a hF => ?_)
        repeat (first | refine c_seq ?_ | refine c_region _ ?_ | refine wpList_nil ?_ | refine c_then ?_ | refine c_in ?_ | ((apply st hF); (first | exact d_move | exact d_assign | exact d_add | exact d_cmpT | exact d_fieldAddr (fld _ _ _ _ rfl) (isz _ _ rfl) | exact d_load (und _ _ rfl) (hs5.c 3 _ rfl)); clear hF; clear a; intro a hF) | (apply c_cond_t hF; exact rfl; first | exact rfl | assumption))
        exact ⟨m.sgN - (k + 1), by omega, k + 1, (k : Int), by omega, rfl, fun j hj => by
          by_cases e : j = k
          · subst e; exact hEq
          · exact hone j (by omega), hmx.new (by omega) (hs ▸ hr1), hao.symm ▸ hF.keep' ⟨rfl, rfl, rfl, rfl, rfl, rfl, trivial⟩, hm5, hM5', hbel5⟩
    · rw [if_neg (fun h => hr1 h.1)] at hEq
      repeat (first | refine c_seq ?_ | refine c_block ?_ | refine c_region _ ?_ | refine wpList_nil ?_ | refine c_then ?_ | refine c_in ?_ | refine wp_skip ?_ | ((apply st hF); (first | exact d_move | exact d_assign | exact d_pickF | exact d_cmpF | exact d_fieldAddr (fld _ _ _ _ rfl) (isz _ _ rfl) | exact d_lookup hl | exact d_load (und _ _ rfl) (hs3.c 2 _ rfl) | exact d_load (und _ _ rfl) (hs3.c 3 _ rfl)); clear hF; clear a; intro a hF) | ((apply stm hF); clear hF; clear a; intro a hF) | (apply c_cond_f hF; exact rfl; first | exact rfl | assumption))
      refine st0 hF (d_mapUpdate hr5) rfl (fun a hF => ?_)
      repeat (first | refine c_seq ?_ | refine c_region _ ?_ | refine wpList_nil ?_ | refine c_then ?_ | refine c_in ?_ | refine wp_skip ?_ | ((apply st hF); (first | exact d_move | exact d_add | exact d_cmpF | exact d_fieldAddr (fld _ _ _ _ rfl) (isz _ _ rfl) | exact d_load (und _ _ rfl) (hs5.c 3 _ rfl)); clear hF; clear a; intro a hF) | (apply c_cond_f hF; exact rfl; first | exact rfl | assumption))
      exact ⟨m.sgN - (k + 1), by omega, k + 1, mx, by omega, rfl, fun j hj => by
        by_cases e : j = k
        · subst e; exact hEq
        · exact hone j (by omega), hmx.other (hs ▸ hr1), hao.symm ▸ hF.keep' ⟨rfl, rfl, rfl, rfl, rfl, rfl, trivial⟩, hm5, hM5', hbel5⟩
  -- the branches
  obtain rfl : k = m.sgN := by omega
  clear hM
  have hone' : ∀ j, j < ps.length → oneE ps m.size j = 0 := fun j hj => hone j (by omega)
  have hfm : (mx = -1 ∧ firstAt (isMux ps) ps.length = none) ∨ ∃ i : Nat, mx = (i : Int) ∧ i < ps.length ∧ firstAt (isMux ps) ps.length = some i := by
    rcases hmx with ⟨rfl, h⟩ | ⟨i, rfl, h1, h2, h3⟩
    · exact .inl ⟨rfl, firstAt_none fun j hj => h j (by omega)⟩
    · exact .inr ⟨i, rfl, by omega, firstAt_some (by omega) h2 h3⟩
  repeat (first | refine c_seq ?_ | refine c_block ?_ | refine c_region _ ?_ | refine wpList_nil ?_ | refine c_then ?_ | refine c_then_exit ?_ | refine c_in_hit ?_ | refine wp_exit ?_ | ((apply st hF); (first | exact d_move | exact d_cmpF | exact d_len (und _ _ rfl) | exact d_fieldAddr (fld _ _ _ _ rfl) (isz _ _ rfl) | exact d_load (und _ _ rfl) (hm.c 7 _ rfl)); clear hF; clear a; intro a hF) | (apply c_cond_f hF; exact rfl; first | exact rfl | assumption))
  refine c_loop (fun q a wr => ∃ k, k ≤ m.sgN ∧ q = m.sgN - k ∧ (∀ j, j < k → ¬ twoB ps j) ∧ Fr 100 [(1, .pointer (some ⟨w.heap.size, 0, none⟩)), (4, .int .i64 mx), (63, .slice m.sg m.sgN m.sgC), (64, .int .i64 m.sgN), (65, .int .i64 (k : Nat))] a ∧
    MgAt w.heap.size m wr ∧ Below w.heap.size w wr) m.sgN
    ⟨0, Nat.zero_le _, rfl, fun j hj => absurd hj (Nat.not_lt_zero _), hF.keep' ⟨rfl, rfl, rfl, rfl, rfl, trivial⟩, hm, hbel⟩ ?_
  clear hF a hm hbel hz wr hlt hk hone
  rintro q a wr ⟨k, hk, rfl, htwo, hF, hm, hbel⟩
  have hz := hbel.size
  by_cases hlt : k < m.sgN
  case neg =>
    obtain rfl : k = m.sgN := by omega
    have htwo' : ∀ j, j < ps.length → ¬ twoB ps j := fun j hj => htwo j (by omega)
    repeat (first | refine c_seq ?_ | refine c_region _ ?_ | refine wpList_nil ?_ | refine c_then ?_ | refine c_then_exit ?_ | refine c_in_hit ?_ | refine wp_exit ?_ | ((apply st hF); (first | exact d_cmpF | exact d_loadAgg (agg _ rfl) (isz _ _ rfl) rfl (cells_at hm)); clear hF; clear a; intro a hF) | (apply c_cond_f hF; exact rfl; first | exact rfl | assumption))
    refine stc hF (apart_ok wr m ps (SigsIn.below hin hbel) hB hone') cal20 ⟨rfl, trivial⟩ (k := fun a v r1 hR hF => ?_)
    obtain ⟨rfl, hb1⟩ := hR
    repeat (first | refine wpList_nil ?_ | refine c_then ?_ | refine wp_ret ?_ | ((apply st hF); (exact d_assign); clear hF; clear a; intro a hF))
    refine ret1 hF rfl rfl ⟨?_, hbel.trans (hb1.mono hz)⟩
    have e : msgE m ps = meetE ps := by
      unfold msgE meetE
      rw [if_neg (fun h => h hh0), firstAt_none (fun j hj e => e (hone' j hj)), firstAt_none htwo']
      rfl
    rw [e]
  have hkl : k < ps.length := by omega
  obtain ⟨b, o, hao, hc⟩ := sig_cells_at hin hbel hkl
  have hbr : SigB (sg ps k) := by rw [sg_lt hkl]; exact hB _ (List.getElem_mem hkl)
  rw [hao] at hF
  have hbad : twoB ps k → msgE m ps = (14, some k) := fun h => msgE_two hh0 hone' hkl h htwo
  have hgood : ¬ twoB ps k → ∀ j, j < k + 1 → ¬ twoB ps j := fun h j hj => by
    by_cases e : j = k
    · subst e; exact h
    · exact htwo j (by omega)
  have htw : twoB ps k ↔ ((sg ps k).role = 2 ∧ ∀ i, firstAt (isMux ps) ps.length = some i → fitsB (sg ps k).branch (sg ps i).size (sg ps i).sgn = false) := Iff.rfl
  obtain ⟨s, hs⟩ : ∃ x, x = sg ps k := ⟨_, rfl⟩
  have hpl : placeL m ps (some k) = s.line ∧ placeC m ps (some k) = s.col := by rw [hs]; exact ⟨rfl, rfl⟩
  rw [← hs] at hc hbr htw
  repeat (first | refine c_seq ?_ | refine c_block ?_ | refine c_region _ ?_ | refine wpList_nil ?_ | refine c_then ?_ | refine wp_skip ?_ | ((apply st hF); (first | exact d_cmpT | exact d_indexAddrS (und _ _ rfl) (isz _ _ rfl) (j := k) | exact d_loadAgg (agg _ rfl) (isz _ _ rfl) rfl (arr_cells hc)); clear hF; clear a; intro a hF) | (apply c_cond_t hF; exact rfl; first | exact rfl | assumption))
  refine st_alloc hF inf62 (k := fun a r1 hg1 hgr1 hsz1 hF => ?_)
  refine st_storeAgg hF (cs := (Sig.cells s).toArray) (isz _ _ rfl) rfl rfl hg1 (sig_cells _) (k := fun a r2 hs2 hgr2 hsz2 hF => ?_)
  have hb2 : Below wr.heap.size wr r2 := ((Below.refl _ wr).grown hgr1 (Nat.le_refl _) (fun k hk => by cases hk)).grown hgr2 (by omega) (fun k hk => by cases hk; exact Nat.le_refl _)
  have hs2 : SgAt wr.heap.size s r2 := hs2
  have hm2 := hm.below hb2
  have hB2 : Below w.heap.size w r2 := hbel.trans (hb2.mono hz)
  clear hg1 hgr1 hgr2 hm hb2
  repeat (first | (refine c_region_mix (fun wq => Below r2.heap.size r2 wq) [(0, true), (1, true), (2, true), (3, true), (4, true), (5, true), (6, true), (7, true), (8, true), (9, true), (10, true), (11, true), (12, true), (13, true), (14, true), (15, true), (16, true), (17, true), (18, true), (19, true), (20, true), (21, false), (22, true), (23, true), (24, true)] 24 mixed (by kernel_rfl) (below_more (Below.refl _ r2) 1) ?_; simp only [pickX, List.filterMap_cons, List.getElem?_cons_zero, List.getElem?_cons_succ, List.filterMap_nil, Option.map_some]) | refine c_seq ?_ | refine wpList_nil ?_ | refine c_then ?_)
  have hdb : Below r2.heap.size r2 (r2.drewN 1) := below_more (Below.refl _ r2) 1
  generalize r2.drewN 1 = r3 at *
  have hB3 : Below w.heap.size w r3 := hB2.trans (hdb.mono hB2.size)
  have hs3 := hs2.below hdb
  have hm3 := hm2.below hdb
  by_cases hr2 : s.role = 2
  case neg =>
    repeat (first | ((apply x_step hF); intro wq hwq; (first | exact d_move | exact d_cmpF | exact d_fieldAddr (fld _ _ _ _ rfl) (isz _ _ rfl) | exact d_load (und _ _ rfl) (((hs2.below hwq).c 3 _ rfl))); clear hF; clear a; intro a hF) | ((first | apply x_stm hF | apply x_stu hF); clear hF; clear a; intro a hF))
    refine x_one (stu hF rfl rfl rfl (k := fun a hF => wpList_nil ⟨rfl, hdb, ?_⟩))
    repeat (first | ((apply x_step hF); intro wq hwq; (exact d_pickF); clear hF; clear a; intro a hF) | ((first | apply x_stm hF | apply x_stu hF); clear hF; clear a; intro a hF))
    refine x_nil ?_
    repeat (first | refine c_region _ ?_ | refine wpList_nil ?_ | refine c_then ?_ | refine c_in ?_ | refine wp_skip ?_ | ((apply st hF); (first | exact d_move | exact d_add); clear hF; clear a; intro a hF) | (apply c_cond_f hF; exact rfl; first | exact rfl | assumption))
    exact ⟨m.sgN - (k + 1), by omega, k + 1, by omega, rfl, hgood (fun h => hr2 (htw.1 h).1), hao.symm ▸ hF.keep' ⟨rfl, rfl, rfl, rfl, rfl, trivial⟩, hm3, hB3⟩
  rcases hfm with ⟨rfl, hfn⟩ | ⟨i, rfl, hil, hfs⟩
  · repeat (first | ((first | apply x_step hF | apply x_stg hF); intro wq hwq; (first | exact d_move | exact d_cmpT | exact d_fieldAddr (fld _ _ _ _ rfl) (isz _ _ rfl) | exact d_load (und _ _ rfl) (((hs2.below hwq).c 3 _ rfl))); clear hF; clear a; intro a hF) | ((apply x_stm hF); clear hF; clear a; intro a hF))
    refine x_one (stm hF rfl rfl rfl rfl (k := fun a hF => wpList_nil ⟨rfl, hdb, ?_⟩))
    repeat (first | ((first | apply x_step hF | apply x_stg hF); intro wq hwq; (exact d_pickT); clear hF; clear a; intro a hF) | ((apply x_stm hF); clear hF; clear a; intro a hF))
    refine x_nil ?_
    repeat (first | refine c_seq ?_ | refine c_region _ ?_ | refine c_then ?_ | ((apply st hF); (first | exact d_fieldAddr (fld _ _ _ _ rfl) (isz _ _ rfl) | exact d_loadAgg (agg _ rfl) (isz _ _ rfl) rfl hs3.pl); clear hF; clear a; intro a hF) | (apply c_cond_t hF; exact rfl; first | exact rfl | assumption))
    refine stc hF (cat_ok r3 14 s.line s.col) cal17 ⟨rfl, rfl, trivial⟩ (k := fun a v r4 hR hF => ?_)
    obtain ⟨rfl, hb4⟩ := hR
    repeat (first | refine wpList_nil ?_ | refine c_then ?_ | refine c_then_ret ?_ | refine c_in_ret ?_ | refine wp_ret ?_ | ((apply st hF); (exact d_assign); clear hF; clear a; intro a hF))
    refine ret1 hF rfl rfl ⟨?_, hB3.trans (hb4.mono hB3.size)⟩
    rw [hbad (htw.2 ⟨hr2, fun i hi => by rw [hfn] at hi; cases hi⟩), hpl.1, hpl.2]
  · obtain ⟨b', o', hao', hci⟩ := sig_cells_at hin hB2 hil
    have e := hao.symm.trans hao'
    cases e
    have x6 := hci 6 _ rfl
    have x8 := hci 8 _ rfl
    have c7 := hm2.c 7 _ rfl
    rw [hao] at c7
    repeat (((first | apply x_step hF | apply x_stg hF); intro wq hwq; (first | exact d_move | exact d_cmpT | exact d_cmpF | exact d_fieldAddr (fld _ _ _ _ rfl) (isz _ _ rfl) | exact d_indexAddrS (und _ _ rfl) (isz _ _ rfl) (j := i) | exact d_load (und _ _ rfl) (((hs2.below hwq).c 3 _ rfl)) | exact d_load (und _ _ rfl) (((hs2.below hwq).c 4 _ rfl)) | exact d_load (und _ _ rfl) ((keep_c c7 hwq)) | exact d_load (und _ _ rfl) ((keep_c x6 hwq)) | exact d_load (und _ _ rfl) ((keep_c x8 hwq))); clear hF; clear a; intro a hF))
    refine x_one ?_
    refine stcg hF (fits_ok r3 s.branch (sg ps i).size (sg ps i).sgn hbr.br) cal19 ⟨rfl, rfl, rfl, trivial⟩ (k := fun a v r4 hR hF => wpList_nil ?_)
    obtain ⟨rfl, rfl⟩ := hR
    refine ⟨rfl, hdb, ?_⟩
    cases hft : fitsB s.branch (sg ps i).size (sg ps i).sgn with
    | true =>
      rw [hft] at hF
      repeat (((first | apply x_step hF | apply x_stg hF); intro wq hwq; (first | exact d_not | exact d_pickT | exact d_pickF); clear hF; clear a; intro a hF))
      refine x_nil ?_
      repeat (first | refine c_region _ ?_ | refine wpList_nil ?_ | refine c_then ?_ | refine c_in ?_ | refine wp_skip ?_ | ((apply st hF); (first | exact d_move | exact d_add); clear hF; clear a; intro a hF) | (apply c_cond_f hF; exact rfl; first | exact rfl | assumption))
      exact ⟨m.sgN - (k + 1), by omega, k + 1, by omega, rfl, hgood (fun h => by have := (htw.1 h).2 i hfs; rw [hft] at this; cases this), hao.symm ▸ hF.keep' ⟨rfl, rfl, rfl, rfl, rfl, trivial⟩, hm3, hB3⟩
    | false =>
      rw [hft] at hF
      repeat (((first | apply x_step hF | apply x_stg hF); intro wq hwq; (first | exact d_not | exact d_pickT | exact d_pickF); clear hF; clear a; intro a hF))
      refine x_nil ?_
      repeat (first | refine c_seq ?_ | refine c_region _ ?_ | refine c_then ?_ | ((apply st hF); (first | exact d_fieldAddr (fld _ _ _ _ rfl) (isz _ _ rfl) | exact d_loadAgg (agg _ rfl) (isz _ _ rfl) rfl hs3.pl); clear hF; clear a; intro a hF) | (apply c_cond_t hF; exact rfl; first | exact rfl | assumption))
      refine stc hF (cat_ok _ 14 s.line s.col) cal17 ⟨rfl, rfl, trivial⟩ (k := fun a v r5 hR hF => ?_)
      obtain ⟨rfl, hb4⟩ := hR
      repeat (first | refine wpList_nil ?_ | refine c_then ?_ | refine c_then_ret ?_ | refine c_in_ret ?_ | refine wp_ret ?_ | ((apply st hF); (exact d_assign); clear hF; clear a; intro a hF))
      refine ret1 hF rfl rfl ⟨?_, hB3.trans (hb4.mono hB3.size)⟩
      rw [hbad (htw.2 ⟨hr2, fun j hj => by rw [hfs] at hj; cases hj; exact hft⟩), hpl.1, hpl.2]
end Go.Proofs.YtjomihhpglojpaaGreatDoor
end
