/- Laid together by a program of mine: AloneS MsgC HeadW FitsW SigsS MsgS MsgE MapU. -/
import Derived.Test.YtjomihhpglojpaaDoorSumLawKnownCS5
import Derived.Test.YtjomihhpglojpaaDoorSumLawKnownCS6
import Derived.Test.YtjomihhpglojpaaDoorSumLawKnownCS7
import Derived.Test.YtjomihhpglojpaaDoorSumLawKnownCS8
import Derived.Test.YtjomihhpglojpaaDoorSumLawKnownCS3
import Derived.Test.YtjomihhpglojpaaDoorSumLawKnownCS2
set_option linter.unusedSimpArgs false
set_option linter.unusedVariables false
section
/- check.alone, walked: what is wrong with a signal by itself. -/
namespace Go.Proofs.YtjomihhpglojpaaDoor
open Go.RowKit
set_option linter.unusedSimpArgs false
set_option linter.unusedVariables false
attribute [local irreducible] wpList wpQuiet wpStill Code.wp Exit.then Exit.inBlock bodyPost Calls Does Does0
set_option maxRecDepth 100000
open Classical in
noncomputable def textE (s : ByteArray) : Int := if 1024 < s.size then 5 else if AllOk s then 0 else 6
theorem text_is {s : ByteArray} {n : Int} (h : MayR s n) : n = textE s := by
  refine may_one h ?_
  unfold MayR textE
  by_cases hb : 1024 < s.size
  · exact .inl ⟨hb, if_pos hb⟩
  · refine .inr ⟨by omega, ?_⟩
    rw [if_neg hb]
    by_cases ha : AllOk s
    · exact .inl ⟨ha, if_pos ha⟩
    · exact .inr ⟨ha, if_neg ha⟩
def roleB (s : Sig) : Prop := s.role < 0 ∨ 2 < s.role ∨ (s.branch ≠ 0 ∧ s.role ≠ 2)
instance (s : Sig) : Decidable (roleB s) := by unfold roleB; infer_instance
/-- What is wrong with a signal by itself. -/
noncomputable def aloneE (s : Sig) (ss : List ByteArray) (n : Int) : Int :=
  if wordB s.name = false then 11 else if roleB s then 14
  else if Pl.whereE s.start s.size s.mot n ≠ 0 then Pl.whereE s.start s.size s.mot n
  else if rangedE s ≠ 0 then rangedE s
  else if textE s.unit ≠ 0 then textE s.unit
  else namesE ss
set_option maxHeartbeats 8000000 in
theorem alone_ok (w : World) (s : Sig) (ss : List ByteArray) (n : Int) (hlen : ss.length = s.toN) (hrd : Rd w s.toA .string ss) (hB : SigB s) (hT : Tabs w) :
    Ret Tryd.prog 33 [.agg (Sig.cells s).toArray, .int .i64 n].toArray w (fun v w' => v = .int .i64 (aloneE s ss n) ∧ Below w.heap.size w w') := by
  refine enter2 Tryd.func33 rfl 58 rfl 60 rfl (fun a hF => ?_)
  unfold aloneE
  repeat (first | refine c_seq ?_ | refine c_region _ ?_)
  refine st_box hF (cs := (Sig.cells s).toArray) rfl (k := fun a w1 hg1 hgr1 hsz1 hF => ?_)
  have hb1 : Below w.heap.size w w1 := (Below.refl _ w).grown hgr1 (Nat.le_refl _) (fun k hk => by cases hk)
  have sc : ∀ (wq : World) (o : Nat) (x : Value), wq.heap[w.heap.size]? = some (.cells (Sig.cells s).toArray 38 (0, 0)) → (Sig.cells s)[o]? = some x → wq.cell? ⟨w.heap.size, 0 + o, none⟩ = some x := fun wq o x hg h => cell_at hg (by simpa using h)
  repeat (first | refine c_seq ?_ | refine c_block ?_ | refine c_region _ ?_ | refine wpList_nil ?_ | refine c_then ?_ | ((apply st hF); (first | exact d_assign | exact d_fieldAddr (fld _ _ _ _ rfl) (isz _ _ rfl) | exact d_load (und _ _ rfl) (sc w1 2 _ hg1 rfl)); clear hF; clear a; intro a hF))
  refine stc hF (word_ok' w1 s.name) cal50 ⟨rfl, trivial⟩ (k := fun a v w2 hR hF => ?_)
  obtain ⟨rfl, hb2⟩ := hR
  have hB2 := hb1.trans (hb2.mono hb1.size)
  have hg2 := (hb2.block _ (lt_at hg1)).trans hg1
  cases hw : wordB s.name with
  | false =>
    rw [hw] at hF
    repeat (first | refine c_seq ?_ | refine c_region _ ?_ | refine wpList_nil ?_ | refine c_then ?_ | refine c_then_ret ?_ | refine c_in_ret ?_ | refine wp_ret ?_ | ((apply st hF); (first | exact d_assign | exact d_not); clear hF; clear a; intro a hF) | (apply c_cond_t hF; exact rfl; first | exact rfl | assumption))
    exact ret1 hF rfl rfl ⟨by rw [if_pos rfl], hB2⟩
  | true =>
  rw [hw] at hF
  rw [if_neg (by decide)]
  -- the role
  have go : roleB s ∨ ¬ roleB s := Classical.em _
  have r0 := sc w2 3 _ hg2 rfl
  have r1 := sc w2 4 _ hg2 rfl
  rcases go with hr | hr
  · rw [if_pos hr]
    by_cases c1 : s.role < 0
    · repeat (first | refine c_seq ?_ | refine c_region _ ?_ | refine wpList_nil ?_ | refine c_then ?_ | refine c_then_ret ?_ | refine c_in_ret ?_ | refine wp_ret ?_ | ((apply st hF); (first | exact d_move | exact d_assign | exact d_not | exact d_pickT | exact d_cmpT | exact d_fieldAddr (fld _ _ _ _ rfl) (isz _ _ rfl) | exact d_load (und _ _ rfl) r0); clear hF; clear a; intro a hF) | ((first | apply stm hF | apply stu hF); clear hF; clear a; intro a hF) | (apply c_cond_t hF; exact rfl; first | exact rfl | assumption) | (apply c_cond_f hF; exact rfl; first | exact rfl | assumption))
      exact ret1 hF rfl rfl ⟨rfl, hB2⟩
    by_cases c2 : s.role > 2
    · repeat (first | refine c_seq ?_ | refine c_region _ ?_ | refine wpList_nil ?_ | refine c_then ?_ | refine c_then_ret ?_ | refine c_in_ret ?_ | refine wp_ret ?_ | ((first | apply st hF | apply stg hF); (first | exact d_move | exact d_assign | exact d_not | exact d_pickT | exact d_pickF | exact d_cmpT | exact d_cmpF | exact d_fieldAddr (fld _ _ _ _ rfl) (isz _ _ rfl) | exact d_load (und _ _ rfl) r0); clear hF; clear a; intro a hF) | ((first | apply stm hF | apply stu hF); clear hF; clear a; intro a hF) | (apply c_cond_t hF; exact rfl; first | exact rfl | assumption) | (apply c_cond_f hF; exact rfl; first | exact rfl | assumption))
      exact ret1 hF rfl rfl ⟨rfl, hB2⟩
    obtain ⟨c3, c4⟩ : s.branch ≠ 0 ∧ s.role ≠ 2 := by
      rcases hr with h | h | h
      · exact absurd h c1
      · exact absurd h c2
      · exact h
    repeat (first | refine c_seq ?_ | refine c_region _ ?_ | refine wpList_nil ?_ | refine c_then ?_ | refine c_then_ret ?_ | refine c_in_ret ?_ | refine wp_ret ?_ | ((first | apply st hF | apply stg hF); (first | exact d_move | exact d_assign | exact d_not | exact d_pickT | exact d_pickF | exact d_cmpT | exact d_cmpF | exact d_fieldAddr (fld _ _ _ _ rfl) (isz _ _ rfl) | exact d_load (und _ _ rfl) r0 | exact d_load (und _ _ rfl) r1); clear hF; clear a; intro a hF) | (apply c_cond_t hF; exact rfl; first | exact rfl | assumption) | (apply c_cond_f hF; exact rfl; first | exact rfl | assumption))
    exact ret1 hF rfl rfl ⟨rfl, hB2⟩
  rw [if_neg hr]
  have c1 : ¬ s.role < 0 := fun h => hr (.inl h)
  have c2 : ¬ s.role > 2 := fun h => hr (.inr (.inl h))
  have c3 : s.branch = 0 ∨ s.role = 2 := by
    by_cases h : s.branch = 0
    · exact .inl h
    · exact .inr (Classical.byContradiction fun h2 => hr (.inr (.inr ⟨h, h2⟩)))
  clear hr r0 r1
  -- the other checks
  rcases Classical.em (s.branch = 0) with c4 | c4
  all_goals
    repeat (first | refine c_seq ?_ | refine c_region _ ?_ | refine wpList_nil ?_ | refine c_then ?_ | refine c_in ?_ | refine wp_skip ?_ | ((first | apply st hF | apply stg hF); (first | exact d_move | exact d_assign | exact d_not | exact d_pickT | exact d_pickF | exact d_cmpT | exact d_cmpF | exact d_fieldAddr (fld _ _ _ _ rfl) (isz _ _ rfl) | exact d_loadAgg (agg _ rfl) (isz _ _ rfl) rfl (cells_at hg2) | exact d_load (und _ _ rfl) (sc w2 3 _ hg2 rfl) | exact d_load (und _ _ rfl) (sc w2 4 _ hg2 rfl)); clear hF; clear a; intro a hF) | ((apply stm hF); clear hF; clear a; intro a hF) | (apply c_cond_f hF; exact rfl; first | exact rfl | assumption))
    refine stc hF (where_ok w2 (Sig.cells s).toArray s.start s.size n s.mot ⟨rfl, rfl, rfl, rfl⟩ (sig_cells s)) cal60 ⟨rfl, rfl, trivial⟩ (k := fun a v w3 hR hF => ?_)
    obtain ⟨⟨se, hse, rfl, -⟩, hb3⟩ := hR
    have hB3 := hB2.trans (hb3.mono hB2.size)
    have hg3 := (hb3.block _ (lt_at hg2)).trans hg2
    repeat (((apply st hF); (first | exact d_move | exact d_extract); clear hF; clear a; intro a hF))
    refine st_alloc hF inf85 (k := fun a w4 hs4 hgr4 hsz4 hF => ?_)
    refine st_storeAgg hF (cs := setC se) (isz _ _ rfl) (by rw [setC_size, hse]) rfl hs4 (setC_cells _) (k := fun a w5 hs5 hgr5 hsz5 hF => ?_)
    have hz3 := hB3.size
    have hB5 : Below w.heap.size w w5 := (hB3.grown hgr4 hz3 (fun k hk => by cases hk)).grown hgr5 (by omega) (fun k hk => by cases hk; exact hz3)
    have hlt3 := lt_at hg3
    have hg5 := blk_kept (blk_kept hg3 hgr4 (by simp)) hgr5 (by simp; omega)
    generalize Pl.whereE s.start s.size s.mot n = we at hF ⊢
    by_cases hwe : we = 0
    · rw [if_neg (fun h => h hwe)]
      clear hgr4 hgr5 hs4 hs5 hb3 hb2 hb1 hg1 hg2 hg3 hgr1
      repeat (first | refine c_seq ?_ | refine c_region _ ?_ | refine wpList_nil ?_ | refine c_then ?_ | refine wp_skip ?_ | ((apply st hF); (first | exact d_move | exact d_assign | exact d_cmpF | exact d_loadAgg (agg _ rfl) (isz _ _ rfl) rfl (cells_at hg5)); clear hF; clear a; intro a hF) | (apply c_cond_f hF; exact rfl; first | exact rfl | assumption))
      refine stc hF (ranged_ok w5 s hB) cal61 ⟨rfl, trivial⟩ (k := fun a v w6 hR hF => ?_)
      obtain ⟨rfl, hb6⟩ := hR
      have hB6 := hB5.trans (hb6.mono hB5.size)
      have hg6 := (hb6.block _ (lt_at hg5)).trans hg5
      generalize rangedE s = re at hF ⊢
      by_cases hre : re = 0
      · rw [if_neg (fun h => h hre)]
        repeat (first | refine c_seq ?_ | refine c_region _ ?_ | refine wpList_nil ?_ | refine c_then ?_ | refine wp_skip ?_ | ((apply st hF); (first | exact d_move | exact d_assign | exact d_cmpF | exact d_fieldAddr (fld _ _ _ _ rfl) (isz _ _ rfl) | exact d_load (und _ _ rfl) (sc w6 17 _ hg6 rfl)); clear hF; clear a; intro a hF) | (apply c_cond_f hF; exact rfl; first | exact rfl | assumption))
        refine stc hF (text_ok w6 s.unit (hT.below hB6)) cal48 ⟨rfl, trivial⟩ (k := fun a v w7 hR hF => ?_)
        obtain ⟨⟨m, hm, rfl⟩, hb7⟩ := hR
        rw [text_is hm] at hF
        have hB7 := hB6.trans (hb7.mono hB6.size)
        have hg7 := (hb7.block _ (lt_at hg6)).trans hg6
        generalize textE s.unit = te at hF ⊢
        by_cases hte : te = 0
        · rw [if_neg (fun h => h hte)]
          unfold namesE
          by_cases hn0 : ss.length = 0
          · rw [if_pos hn0]
            repeat (first | refine c_seq ?_ | refine c_region _ ?_ | refine wpList_nil ?_ | refine c_then ?_ | refine c_then_ret ?_ | refine wp_skip ?_ | refine wp_ret ?_ | ((apply st hF); (first | exact d_move | exact d_assign | exact d_cmpT | exact d_cmpF | exact d_len (und _ _ rfl) | exact d_fieldAddr (fld _ _ _ _ rfl) (isz _ _ rfl) | exact d_load (und _ _ rfl) (sc w7 18 _ hg7 rfl)); clear hF; clear a; intro a hF) | (apply c_cond_t hF; exact rfl; first | exact rfl | assumption) | (apply c_cond_f hF; exact rfl; first | exact rfl | assumption))
            exact ret1 hF rfl rfl ⟨rfl, hB7⟩
          · rw [if_neg hn0]
            repeat (first | refine c_seq ?_ | refine c_region _ ?_ | refine wpList_nil ?_ | refine c_then ?_ | refine wp_skip ?_ | ((apply st hF); (first | exact d_move | exact d_assign | exact d_cmpF | exact d_len (und _ _ rfl) | exact d_fieldAddr (fld _ _ _ _ rfl) (isz _ _ rfl) | exact d_load (und _ _ rfl) (sc w7 18 _ hg7 rfl)); clear hF; clear a; intro a hF) | (apply c_cond_f hF; exact rfl; first | exact rfl | assumption))
            refine stc hF (list_ok w7 ss s.toA s.toN s.toC 64 hlen (hrd.below hB7) (by decide)) cal49 ⟨rfl, rfl, trivial⟩ (k := fun a v w8 hR hF => ?_)
            obtain ⟨rfl, hb8⟩ := hR
            have hB8 := hB7.trans (hb8.mono hB7.size)
            repeat (first | refine wpList_nil ?_ | refine c_then ?_ | refine wp_ret ?_ | ((apply st hF); (exact d_assign); clear hF; clear a; intro a hF))
            refine ret1 hF rfl rfl ⟨?_, hB8⟩
            rw [hlen]
            by_cases h64 : 64 < s.toN
            · rw [if_pos (by omega), if_pos h64]
            · rw [if_neg (by omega), if_neg h64]
        · rw [if_pos hte]
          repeat (first | refine c_seq ?_ | refine c_region _ ?_ | refine wpList_nil ?_ | refine c_then ?_ | refine c_then_ret ?_ | refine wp_ret ?_ | ((apply st hF); (first | exact d_move | exact d_assign | exact d_cmpT); clear hF; clear a; intro a hF) | (apply c_cond_t hF; exact rfl; first | exact rfl | assumption))
          exact ret1 hF rfl rfl ⟨rfl, hB7⟩
      · rw [if_pos hre]
        repeat (first | refine c_seq ?_ | refine c_region _ ?_ | refine wpList_nil ?_ | refine c_then ?_ | refine c_then_ret ?_ | refine wp_ret ?_ | ((apply st hF); (first | exact d_move | exact d_assign | exact d_cmpT); clear hF; clear a; intro a hF) | (apply c_cond_t hF; exact rfl; first | exact rfl | assumption))
        exact ret1 hF rfl rfl ⟨rfl, hB6⟩
    · rw [if_pos hwe]
      repeat (first | refine c_seq ?_ | refine c_region _ ?_ | refine wpList_nil ?_ | refine c_then ?_ | refine c_then_ret ?_ | refine wp_ret ?_ | ((apply st hF); (first | exact d_move | exact d_assign | exact d_cmpT); clear hF; clear a; intro a hF) | (apply c_cond_t hF; exact rfl; first | exact rfl | assumption))
      exact ret1 hF rfl rfl ⟨rfl, hB5⟩
end Go.Proofs.YtjomihhpglojpaaDoor
end
section
/- Messages: their cells. -/
namespace Go.Proofs.YtjomihhpglojpaaDoor
open Go.RowKit
set_option linter.unusedSimpArgs false
set_option linter.unusedVariables false
attribute [local irreducible] wpList wpQuiet wpStill Code.wp Exit.then Exit.inBlock bodyPost Calls Does Does0

/-- A message's fields. -/
structure Msg where
  line : Int
  col : Int
  id : Int
  wide : Bool
  name : ByteArray
  size : Int
  sender : ByteArray
  sg : Option Addr
  sgN : Nat
  sgC : Nat
def Msg.cells (m : Msg) : List Value := [.int .i64 m.line, .int .i64 m.col, .int .u32 m.id, .bool m.wide, .string m.name, .int .i64 m.size, .string m.sender, .slice m.sg m.sgN m.sgC]
def Msg.at (m : Msg) (g c : Nat) : Msg := { m with sg := some ⟨g, 0, none⟩, sgC := c }
theorem msg_cells (m : Msg) : ∀ v ∈ (Msg.cells m).toArray, v.oneCell' = true := by
  intro v hv
  simp [Msg.cells] at hv
  rcases hv with rfl | rfl | rfl | rfl | rfl | rfl | rfl | rfl <;> rfl
end Go.Proofs.YtjomihhpglojpaaDoor
end
section
/- check.head, walked: what is wrong with a message's head. -/
namespace Go.Proofs.YtjomihhpglojpaaDoor
open Go.RowKit
set_option linter.unusedSimpArgs false
set_option linter.unusedVariables false
attribute [local irreducible] wpList wpQuiet wpStill Code.wp Exit.then Exit.inBlock bodyPost Calls Does Does0
set_option maxRecDepth 100000
def mostE (m : Msg) : Int := if m.wide = true then 536870911 else 2047
/-- What is wrong with a message's head. -/
def headE (m : Msg) : Int :=
  if wordB m.name = false then 11 else if mostE m < m.id then 26 else if m.size < 0 ∨ 8 < m.size then 15
  else if wordB m.sender = false then 11 else if 64 < m.sgN then 5 else 0
set_option maxHeartbeats 4000000 in
theorem head_ok (w : World) (m : Msg) : Ret Tryd.prog 31 [.agg (Msg.cells m).toArray].toArray w (fun v w' => v = .int .i64 (headE m) ∧ Below w.heap.size w w') := by
  refine enter1 Tryd.func31 rfl 34 rfl 35 rfl (fun a hF => ?_)
  unfold headE
  repeat (first | refine c_seq ?_ | refine c_region _ ?_)
  refine st_box hF (cs := (Msg.cells m).toArray) rfl (k := fun a w1 hg1 hgr1 hsz1 hF => ?_)
  have hb1 : Below w.heap.size w w1 := (Below.refl _ w).grown hgr1 (Nat.le_refl _) (fun k hk => by cases hk)
  have sc : ∀ (wq : World) (o : Nat) (x : Value), wq.heap[w.heap.size]? = some (.cells (Msg.cells m).toArray 27 (0, 0)) → (Msg.cells m)[o]? = some x → wq.cell? ⟨w.heap.size, 0 + o, none⟩ = some x := fun wq o x hg h => cell_at hg (by simpa using h)
  obtain ⟨me, hme⟩ : ∃ x, x = mostE m := ⟨_, rfl⟩
  rw [← hme]
  cases hwd : m.wide
  all_goals
    have hc0 : w1.cell? ⟨w.heap.size, 0 + 3, none⟩ = some (.bool m.wide) := sc w1 3 _ hg1 rfl
    rw [hwd] at hc0
    unfold mostE at hme
    rw [hwd] at hme
    first | rw [if_pos rfl] at hme | rw [if_neg (by decide)] at hme
    repeat (first | refine c_seq ?_ | refine c_block ?_ | refine c_region _ ?_ | refine wpList_nil ?_ | refine c_then ?_ | refine wp_skip ?_ | ((apply st hF); (first | exact d_assign | exact d_fieldAddr (fld _ _ _ _ rfl) (isz _ _ rfl) | exact d_load (und _ _ rfl) hc0 | exact d_load (und _ _ rfl) (sc w1 4 _ hg1 rfl)); clear hF; clear a; intro a hF) | (apply c_cond_t hF; exact rfl; first | exact rfl | assumption) | (apply c_cond_f hF; exact rfl; first | exact rfl | assumption))
    refine stc hF (word_ok' w1 m.name) cal50 ⟨rfl, trivial⟩ (k := fun a v w2 hR hF => ?_)
    obtain ⟨rfl, hb2⟩ := hR
    have hB2 := hb1.trans (hb2.mono hb1.size)
    have hg2 := (hb2.block _ (lt_at hg1)).trans hg1
    cases hw : wordB m.name with
    | false =>
      rw [hw] at hF
      repeat (first | refine c_seq ?_ | refine c_region _ ?_ | refine wpList_nil ?_ | refine c_then ?_ | refine c_then_ret ?_ | refine c_in_ret ?_ | refine wp_ret ?_ | ((apply st hF); (first | exact d_assign | exact d_not); clear hF; clear a; intro a hF) | (apply c_cond_t hF; exact rfl; first | exact rfl | assumption))
      exact ret1 hF rfl rfl ⟨by rw [if_pos rfl], hB2⟩
    | true =>
    rw [hw] at hF
    rw [if_neg (by decide)]
    by_cases hi : me < m.id
    · rw [if_pos hi]
      repeat (first | refine c_seq ?_ | refine c_region _ ?_ | refine wpList_nil ?_ | refine c_then ?_ | refine c_then_ret ?_ | refine c_in_ret ?_ | refine wp_ret ?_ | ((apply st hF); (first | exact d_move | exact d_assign | exact d_not | exact d_cmpT | exact d_fieldAddr (fld _ _ _ _ rfl) (isz _ _ rfl) | exact d_load (und _ _ rfl) (sc w2 2 _ hg2 rfl)); clear hF; clear a; intro a hF) | (apply c_cond_t hF; exact rfl; first | exact rfl | assumption) | (apply c_cond_f hF; exact rfl; first | exact rfl | assumption))
      exact ret1 hF rfl rfl ⟨rfl, hB2⟩
    rw [if_neg hi]
    by_cases s1 : m.size < 0
    · rw [if_pos (.inl s1)]
      repeat (first | refine c_seq ?_ | refine c_region _ ?_ | refine wpList_nil ?_ | refine c_then ?_ | refine c_then_ret ?_ | refine c_in_ret ?_ | refine wp_ret ?_ | ((apply st hF); (first | exact d_move | exact d_assign | exact d_not | exact d_pickT | exact d_cmpT | exact d_cmpF | exact d_fieldAddr (fld _ _ _ _ rfl) (isz _ _ rfl) | exact d_load (und _ _ rfl) (sc w2 2 _ hg2 rfl) | exact d_load (und _ _ rfl) (sc w2 5 _ hg2 rfl)); clear hF; clear a; intro a hF) | ((apply stm hF); clear hF; clear a; intro a hF) | (apply c_cond_t hF; exact rfl; first | exact rfl | assumption) | (apply c_cond_f hF; exact rfl; first | exact rfl | assumption))
      exact ret1 hF rfl rfl ⟨rfl, hB2⟩
    by_cases s2 : m.size > 8
    · rw [if_pos (.inr s2)]
      repeat (first | refine c_seq ?_ | refine c_region _ ?_ | refine wpList_nil ?_ | refine c_then ?_ | refine c_then_ret ?_ | refine c_in_ret ?_ | refine wp_ret ?_ | ((first | apply st hF | apply stg hF); (first | exact d_move | exact d_assign | exact d_not | exact d_pickF | exact d_cmpT | exact d_cmpF | exact d_fieldAddr (fld _ _ _ _ rfl) (isz _ _ rfl) | exact d_load (und _ _ rfl) (sc w2 2 _ hg2 rfl) | exact d_load (und _ _ rfl) (sc w2 5 _ hg2 rfl)); clear hF; clear a; intro a hF) | (apply c_cond_t hF; exact rfl; first | exact rfl | assumption) | (apply c_cond_f hF; exact rfl; first | exact rfl | assumption))
      exact ret1 hF rfl rfl ⟨rfl, hB2⟩
    rw [if_neg (fun h => h.elim s1 s2)]
    repeat (first | refine c_seq ?_ | refine c_region _ ?_ | refine wpList_nil ?_ | refine c_then ?_ | ((first | apply st hF | apply stg hF); (first | exact d_move | exact d_assign | exact d_not | exact d_pickF | exact d_cmpF | exact d_fieldAddr (fld _ _ _ _ rfl) (isz _ _ rfl) | exact d_load (und _ _ rfl) (sc w2 2 _ hg2 rfl) | exact d_load (und _ _ rfl) (sc w2 5 _ hg2 rfl) | exact d_load (und _ _ rfl) (sc w2 6 _ hg2 rfl)); clear hF; clear a; intro a hF) | (apply c_cond_f hF; exact rfl; first | exact rfl | assumption))
    refine stc hF (word_ok' w2 m.sender) cal50 ⟨rfl, trivial⟩ (k := fun a v w3 hR hF => ?_)
    obtain ⟨rfl, hb3⟩ := hR
    have hB3 := hB2.trans (hb3.mono hB2.size)
    have hg3 := (hb3.block _ (lt_at hg2)).trans hg2
    cases hw2 : wordB m.sender with
    | false =>
      rw [hw2] at hF
      repeat (first | refine c_seq ?_ | refine c_region _ ?_ | refine wpList_nil ?_ | refine c_then ?_ | refine c_then_ret ?_ | refine c_in_ret ?_ | refine wp_ret ?_ | ((apply st hF); (first | exact d_assign | exact d_not); clear hF; clear a; intro a hF) | (apply c_cond_t hF; exact rfl; first | exact rfl | assumption))
      exact ret1 hF rfl rfl ⟨by rw [if_pos rfl], hB3⟩
    | true =>
    rw [hw2] at hF
    rw [if_neg (by decide)]
    by_cases hn : 64 < m.sgN
    · rw [if_pos hn]
      repeat (first | refine c_seq ?_ | refine c_region _ ?_ | refine wpList_nil ?_ | refine c_then ?_ | refine c_then_ret ?_ | refine c_in_ret ?_ | refine wp_ret ?_ | ((apply st hF); (first | exact d_assign | exact d_not | exact d_cmpT | exact d_len (und _ _ rfl) | exact d_fieldAddr (fld _ _ _ _ rfl) (isz _ _ rfl) | exact d_load (und _ _ rfl) (sc w3 7 _ hg3 rfl)); clear hF; clear a; intro a hF) | (apply c_cond_t hF; exact rfl; first | exact rfl | assumption) | (apply c_cond_f hF; exact rfl; first | exact rfl | assumption))
      exact ret1 hF rfl rfl ⟨rfl, hB3⟩
    · rw [if_neg hn]
      repeat (first | refine c_seq ?_ | refine c_region _ ?_ | refine wpList_nil ?_ | refine c_then ?_ | refine c_in ?_ | refine wp_skip ?_ | refine wp_ret ?_ | ((apply st hF); (first | exact d_assign | exact d_not | exact d_cmpF | exact d_len (und _ _ rfl) | exact d_fieldAddr (fld _ _ _ _ rfl) (isz _ _ rfl) | exact d_load (und _ _ rfl) (sc w3 7 _ hg3 rfl)); clear hF; clear a; intro a hF) | (apply c_cond_f hF; exact rfl; first | exact rfl | assumption))
      exact ret1 hF rfl rfl ⟨rfl, hB3⟩
end Go.Proofs.YtjomihhpglojpaaDoor
end
section
/- check.fits, walked: does a value fit so many bits. -/
namespace Go.Proofs.YtjomihhpglojpaaDoor
open Go.RowKit
set_option linter.unusedSimpArgs false
set_option linter.unusedVariables false
attribute [local irreducible] wpList wpQuiet wpStill Code.wp Exit.then Exit.inBlock bodyPost Calls Does Does0
set_option maxRecDepth 100000
/-- Sixty-four bits, read with a sign. -/
def sgn64 (v : Int) : Int := if v < 9223372036854775808 then v else v - 18446744073709551616
theorem wrap_s64 {v : Int} (h : 0 ≤ v ∧ v < 18446744073709551616) : IntKind.i64.wrap v = sgn64 v := by
  unfold sgn64
  simp only [IntKind.wrap, IntKind.signed, IntKind.bits]
  simp
  split <;> split <;> omega
/-- Does it fit? -/
def fitsB (v size : Int) (sg : Bool) : Bool :=
  if size < 1 ∨ 64 < size then false
  else if sg = true then decide (sgn64 v / 2 ^ (size - 1).toNat = 0 ∨ sgn64 v / 2 ^ (size - 1).toNat = -1)
  else decide (v / 2 ^ (size - 1).toNat ≤ 1)
theorem fits_ok (w : World) (v size : Int) (sg : Bool) (hv : 0 ≤ v ∧ v < 18446744073709551616) :
    Ret Tryd.prog 34 [.int .u64 v, .int .i64 size, .bool sg].toArray w (fun r w' => r = .bool (fitsB v size sg) ∧ w' = w) := by
  refine enter3 Tryd.func34 rfl 30 rfl 33 rfl (fun a hF => ?_)
  unfold fitsB
  by_cases s1 : size < 1
  · rw [if_pos (.inl s1)]
    repeat (first | refine c_seq ?_ | refine c_block ?_ | refine c_region _ ?_ | refine wpList_nil ?_ | refine c_then ?_ | refine c_then_ret ?_ | refine c_in_ret ?_ | refine wp_ret ?_ | ((apply st hF); (first | exact d_move | exact d_assign | exact d_pickT | exact d_cmpT); clear hF; clear a; intro a hF) | ((apply stm hF); clear hF; clear a; intro a hF) | (apply c_cond_t hF; exact rfl; first | exact rfl | assumption))
    exact ret1 hF rfl rfl ⟨rfl, rfl⟩
  by_cases s2 : size > 64
  · rw [if_pos (.inr s2)]
    repeat (first | refine c_seq ?_ | refine c_block ?_ | refine c_region _ ?_ | refine wpList_nil ?_ | refine c_then ?_ | refine c_then_ret ?_ | refine c_in_ret ?_ | refine wp_ret ?_ | ((first | apply st hF | apply stg hF); (first | exact d_move | exact d_assign | exact d_pickF | exact d_cmpT | exact d_cmpF); clear hF; clear a; intro a hF) | (apply c_cond_t hF; exact rfl; first | exact rfl | assumption))
    exact ret1 hF rfl rfl ⟨rfl, rfl⟩
  rw [if_neg (fun h => h.elim s1 s2)]
  obtain ⟨b, hb⟩ : ∃ b : Nat, size - 1 = (b : Int) := ⟨(size - 1).toNat, by omega⟩
  have hb64 : b ≤ 64 := by omega
  have et : (size - 1).toNat = b := by omega
  rw [et]
  cases sg with
  | true =>
    rw [if_pos rfl]
    have hw := wrap_s64 hv
    obtain ⟨hi, hhi⟩ : ∃ hi, hi = sgn64 v / 2 ^ b := ⟨_, rfl⟩
    rw [← hhi]
    have hsh : ∀ (l : List (Nat × Value)) (x y : Operand) (t t' ty : TypeId), Ev l x (.int .i64 (sgn64 v)) → Ev l y (.int .i64 (size - 1)) → Does Tryd.prog l w (.binOp .shr t x y t') ty (.int .i64 hi) w := fun l x y t t' ty hx hy => by
      rw [hhi]; exact d_shrI hx hy hb hb64
    by_cases h0 : hi = 0
    · rw [decide_eq_true (.inl h0)]
      repeat (first | refine c_seq ?_ | refine c_block ?_ | refine c_region _ ?_ | refine wpList_nil ?_ | refine c_then ?_ | refine c_then_ret ?_ | refine c_in_ret ?_ | refine wp_ret ?_ | ((first | apply st hF | apply stg hF); (first | exact d_move | exact d_assign | exact d_pickT | exact d_pickF | exact d_sub | exact d_cmpT | exact d_cmpF | exact d_convI (und _ _ rfl) (und _ _ rfl) (hm := hw) | exact hsh _ _ _ _ _ _ rfl rfl); clear hF; clear a; intro a hF) | ((apply stm hF); clear hF; clear a; intro a hF) | (apply c_cond_t hF; exact rfl; first | exact rfl | assumption) | (apply c_cond_f hF; exact rfl; first | exact rfl | assumption))
      exact ret1 hF rfl rfl ⟨rfl, rfl⟩
    · by_cases h1 : hi = -1
      · rw [decide_eq_true (.inr h1)]
        repeat (first | refine c_seq ?_ | refine c_block ?_ | refine c_region _ ?_ | refine wpList_nil ?_ | refine c_then ?_ | refine c_then_ret ?_ | refine c_in_ret ?_ | refine wp_ret ?_ | ((first | apply st hF | apply stg hF); (first | exact d_move | exact d_assign | exact d_pickF | exact d_sub | exact d_cmpT | exact d_cmpF | exact d_convI (und _ _ rfl) (und _ _ rfl) (hm := hw) | exact hsh _ _ _ _ _ _ rfl rfl); clear hF; clear a; intro a hF) | (apply c_cond_t hF; exact rfl; first | exact rfl | assumption) | (apply c_cond_f hF; exact rfl; first | exact rfl | assumption))
        exact ret1 hF rfl rfl ⟨rfl, rfl⟩
      · rw [decide_eq_false (fun h => h.elim h0 h1)]
        repeat (first | refine c_seq ?_ | refine c_block ?_ | refine c_region _ ?_ | refine wpList_nil ?_ | refine c_then ?_ | refine c_then_ret ?_ | refine c_in_ret ?_ | refine wp_ret ?_ | ((first | apply st hF | apply stg hF); (first | exact d_move | exact d_assign | exact d_pickF | exact d_sub | exact d_cmpF | exact d_convI (und _ _ rfl) (und _ _ rfl) (hm := hw) | exact hsh _ _ _ _ _ _ rfl rfl); clear hF; clear a; intro a hF) | (apply c_cond_t hF; exact rfl; first | exact rfl | assumption) | (apply c_cond_f hF; exact rfl; first | exact rfl | assumption))
        exact ret1 hF rfl rfl ⟨rfl, rfl⟩
  | false =>
    rw [if_neg (by decide)]
    obtain ⟨hi, hhi⟩ : ∃ hi, hi = v / 2 ^ b := ⟨_, rfl⟩
    rw [← hhi]
    have hsh : ∀ (l : List (Nat × Value)) (x y : Operand) (t t' ty : TypeId), Ev l x (.int .u64 v) → Ev l y (.int .i64 (size - 1)) → Does Tryd.prog l w (.binOp .shr t x y t') ty (.int .u64 hi) w := fun l x y t t' ty hx hy => by
      rw [hhi]; exact d_shrI hx hy hb hb64
    by_cases h0 : hi ≤ 1
    · rw [decide_eq_true h0]
      repeat (first | refine c_seq ?_ | refine c_block ?_ | refine c_region _ ?_ | refine wpList_nil ?_ | refine c_then ?_ | refine c_in ?_ | refine wp_skip ?_ | refine wp_ret ?_ | ((first | apply st hF | apply stg hF); (first | exact d_move | exact d_assign | exact d_pickF | exact d_sub | exact d_cmpT | exact d_cmpF | exact hsh _ _ _ _ _ _ rfl rfl); clear hF; clear a; intro a hF) | (apply c_cond_f hF; exact rfl; first | exact rfl | assumption))
      exact ret1 hF rfl rfl ⟨rfl, rfl⟩
    · rw [decide_eq_false h0]
      repeat (first | refine c_seq ?_ | refine c_block ?_ | refine c_region _ ?_ | refine wpList_nil ?_ | refine c_then ?_ | refine c_in ?_ | refine wp_skip ?_ | refine wp_ret ?_ | ((first | apply st hF | apply stg hF); (first | exact d_move | exact d_assign | exact d_pickF | exact d_sub | exact d_cmpF | exact hsh _ _ _ _ _ _ rfl rfl); clear hF; clear a; intro a hF) | (apply c_cond_f hF; exact rfl; first | exact rfl | assumption))
      exact ret1 hF rfl rfl ⟨rfl, rfl⟩
end Go.Proofs.YtjomihhpglojpaaDoor
end
section
/- Lists of signals: what they are. -/
namespace Go.Proofs.YtjomihhpglojpaaDoor
open Go.RowKit
set_option linter.unusedSimpArgs false
set_option linter.unusedVariables false
attribute [local irreducible] wpList wpQuiet wpStill Code.wp Exit.then Exit.inBlock bodyPost Calls Does Does0

theorem sigc_len (s : Sig) : (Sig.cells s).length = 19 := rfl
/-- A signal with its texts. -/
abbrev SigT := Sig × List ByteArray
/-- A signal whose list of texts lies elsewhere. -/
def Sig.at (s : Sig) (g c : Nat) : Sig := { s with toA := some ⟨g, 0, none⟩, toC := c }
/-- The mark in the spare room. -/
def sigM : Sig := ⟨0, 0, ⟨#[]⟩, 0, 0, -7, 0, false, false, 0, 0, 0, 0, 0, 0, 0, 0, ⟨#[]⟩, none, 0, 0⟩
/-- A list of signals that is there. -/
structure SigsIn (w : World) (ao : Option Addr) (n c : Nat) (ps : List SigT) : Prop where
  len : ps.length = n
  rd : RdS w ao 19 Sig.cells (ps.map (·.1))
  each : ∀ p ∈ ps, SigIn w p.1 p.2
  cap : n ≤ c
  bytes : n * 176 ≤ 140737488351232
theorem SigsIn.below {w w' : World} {ao : Option Addr} {n c : Nat} {ps : List SigT} (h : SigsIn w ao n c ps) (hb : Below w.heap.size w w') : SigsIn w' ao n c ps :=
  ⟨h.len, h.rd.below hb, fun p hp => (h.each p hp).below hb, h.cap, h.bytes⟩
theorem arr_cells {w : World} {b o : Nat} {cs : List Value} (h : ∀ q v, cs[q]? = some v → w.cell? ⟨b, o + q, none⟩ = some v) : ∀ j v, cs.toArray[j]? = some v → w.cell? ⟨b, o + j, none⟩ = some v := fun j v hj => h j v (by simpa using hj)
theorem at_map {ps : List SigT} {i : Nat} (h : i < ps.length) : (ps.map (·.1))[i]'(by simpa using h) = ps[i].1 := by simp
end Go.Proofs.YtjomihhpglojpaaDoor
end
section
/- Messages: what they are. -/
namespace Go.Proofs.YtjomihhpglojpaaDoor
open Go.RowKit
set_option linter.unusedSimpArgs false
set_option linter.unusedVariables false
attribute [local irreducible] wpList wpQuiet wpStill Code.wp Exit.then Exit.inBlock bodyPost Calls Does Does0

/-- A message that is there. -/
def MsgIn (w : World) (m : Msg) (ps : List SigT) : Prop := SigsIn w m.sg m.sgN m.sgC ps
end Go.Proofs.YtjomihhpglojpaaDoor
end
section
/- What is wrong with a message: plain. -/
namespace Go.Proofs.YtjomihhpglojpaaDoor
open Go.RowKit
set_option linter.unusedSimpArgs false
set_option linter.unusedVariables false
attribute [local irreducible] wpList wpQuiet wpStill Code.wp Exit.then Exit.inBlock bodyPost Calls Does Does0
open Classical in
/-- The first so many numbers: the first bad one. -/
noncomputable def firstAt (bad : Nat → Prop) : Nat → Option Nat
  | 0 => none
  | n + 1 => match firstAt bad n with
    | some i => some i
    | none => if bad n then some n else none
theorem firstAt_spec (bad : Nat → Prop) : ∀ n, (firstAt bad n = none ∧ ∀ i, i < n → ¬ bad i) ∨ ∃ i, firstAt bad n = some i ∧ i < n ∧ bad i ∧ ∀ j, j < i → ¬ bad j
  | 0 => .inl ⟨rfl, fun i hi => absurd hi (Nat.not_lt_zero _)⟩
  | n + 1 => by
    unfold firstAt
    rcases firstAt_spec bad n with ⟨h1, h2⟩ | ⟨i, h1, h2, h3, h4⟩
    · rw [h1]
      by_cases hb : bad n
      · exact .inr ⟨n, if_pos hb, by omega, hb, h2⟩
      · refine .inl ⟨if_neg hb, fun i hi => ?_⟩
        by_cases e : i = n
        · subst e; exact hb
        · exact h2 i (by omega)
    · rw [h1]
      exact .inr ⟨i, rfl, by omega, h3, h4⟩
theorem firstAt_none {bad : Nat → Prop} {n : Nat} (h : ∀ i, i < n → ¬ bad i) : firstAt bad n = none := by
  rcases firstAt_spec bad n with ⟨h1, _⟩ | ⟨i, h1, h2, h3, h4⟩
  · exact h1
  · exact absurd h3 (h i h2)
theorem firstAt_some {bad : Nat → Prop} {n i : Nat} (h : i < n) (hb : bad i) (hn : ∀ j, j < i → ¬ bad j) : firstAt bad n = some i := by
  rcases firstAt_spec bad n with ⟨h1, h2⟩ | ⟨k, h1, h2, h3, h4⟩
  · exact absurd hb (h2 i h)
  · by_cases e : k < i
    · exact absurd h3 (hn k e)
    · by_cases e2 : i < k
      · exact absurd hb (h4 i e2)
      · rw [h1, show k = i by omega]
theorem not_of_none {bad : Nat → Prop} {n i : Nat} (h : firstAt bad n = none) (hi : i < n) : ¬ bad i := by
  rcases firstAt_spec bad n with ⟨_, h2⟩ | ⟨k, h1, _⟩
  · exact h2 i hi
  · rw [h] at h1; cases h1
theorem of_some {bad : Nat → Prop} {n i : Nat} (h : firstAt bad n = some i) : i < n ∧ bad i ∧ ∀ j, j < i → ¬ bad j := by
  rcases firstAt_spec bad n with ⟨h1, _⟩ | ⟨k, h1, h2⟩
  · rw [h] at h1; cases h1
  · rw [h] at h1; cases h1; exact h2
theorem firstAt_congr {bad bad' : Nat → Prop} {n : Nat} (h : ∀ i, i < n → (bad i ↔ bad' i)) : firstAt bad n = firstAt bad' n := by
  rcases firstAt_spec bad n with ⟨h1, h2⟩ | ⟨k, h1, h2, h3, h4⟩
  · rw [h1, firstAt_none fun i hi hb => h2 i hi ((h i hi).2 hb)]
  · rw [h1, firstAt_some h2 ((h k h2).1 h3) fun j hj hb => h4 j hj ((h j (by omega)).2 hb)]

/-- Signal number i and its texts. -/
def sg (ps : List SigT) (i : Nat) : Sig := (ps.getD i (sigM, [])).1
def tx (ps : List SigT) (i : Nat) : List ByteArray := (ps.getD i (sigM, [])).2
theorem sg_lt {ps : List SigT} {i : Nat} (h : i < ps.length) : sg ps i = ps[i].1 := by simp [sg, List.getD, h]
theorem tx_lt {ps : List SigT} {i : Nat} (h : i < ps.length) : tx ps i = ps[i].2 := by simp [tx, List.getD, h]
/-- May both be there at once? -/
def togB (s t : Sig) : Bool := decide (s.role ≠ 2 ∨ t.role ≠ 2 ∨ s.branch = t.branch)
/-- Have two signals a bit in common? -/
def shareB (s t : Sig) : Prop := ∃ l m x, Pl.bitsOfSig s.start s.size s.mot = .ok l ∧ Pl.bitsOfSig t.start t.size t.mot = .ok m ∧ x ∈ l ∧ x ∈ m
open Classical in
/-- What is wrong with signal number i, by itself and beside those ahead of it. -/
noncomputable def oneE (ps : List SigT) (n : Int) (i : Nat) : Int :=
  if aloneE (sg ps i) (tx ps i) n ≠ 0 then aloneE (sg ps i) (tx ps i) n
  else if ∃ k, k < i ∧ (sg ps k).name = (sg ps i).name then 12
  else if (sg ps i).role = 1 ∧ ∃ k, k < i ∧ (sg ps k).role = 1 then 14 else 0
def isMux (ps : List SigT) (i : Nat) : Prop := (sg ps i).role = 1
/-- A branch without a multiplexor, or with a value that does not fit it. -/
def twoB (ps : List SigT) (i : Nat) : Prop := (sg ps i).role = 2 ∧ ∀ k, firstAt (isMux ps) ps.length = some k → fitsB (sg ps i).branch (sg ps k).size (sg ps k).sgn = false
/-- It meets one ahead of it. -/
def meetB (ps : List SigT) (i : Nat) : Prop := ∃ k, k < i ∧ togB (sg ps k) (sg ps i) = true ∧ shareB (sg ps k) (sg ps i)
def thenF (r : Option Nat) (e : Nat → Int) (k : Int × Option Nat) : Int × Option Nat := match r with | some i => (e i, some i) | none => k
/-- What is wrong with a message, and with which of its signals. -/
noncomputable def msgE (m : Msg) (ps : List SigT) : Int × Option Nat :=
  if headE m ≠ 0 then (headE m, none)
  else thenF (firstAt (fun i => oneE ps m.size i ≠ 0) ps.length) (oneE ps m.size)
    (thenF (firstAt (twoB ps) ps.length) (fun _ => 14)
      (thenF (firstAt (meetB ps) ps.length) (fun _ => 17) (0, none)))
/-- The place of the message, or of a signal. -/
def placeL (m : Msg) (ps : List SigT) : Option Nat → Int
  | none => m.line
  | some i => (sg ps i).line
def placeC (m : Msg) (ps : List SigT) : Option Nat → Int
  | none => m.col
  | some i => (sg ps i).col
/-- What the three loops find. -/
theorem msgE_head {m : Msg} {ps : List SigT} (h : headE m ≠ 0) : msgE m ps = (headE m, none) := if_pos h
theorem msgE_one {m : Msg} {ps : List SigT} {i : Nat} (h : headE m = 0) (hi : i < ps.length) (hb : oneE ps m.size i ≠ 0) (hn : ∀ j, j < i → oneE ps m.size j = 0) : msgE m ps = (oneE ps m.size i, some i) := by
  unfold msgE
  rw [if_neg (fun e => e h), firstAt_some hi hb (fun j hj e => e (hn j hj))]
  rfl
theorem msgE_two {m : Msg} {ps : List SigT} {i : Nat} (h : headE m = 0) (h1 : ∀ j, j < ps.length → oneE ps m.size j = 0) (hi : i < ps.length) (hb : twoB ps i) (hn : ∀ j, j < i → ¬ twoB ps j) : msgE m ps = (14, some i) := by
  unfold msgE
  rw [if_neg (fun e => e h), firstAt_none (fun j hj e => e (h1 j hj)), firstAt_some hi hb hn]
  rfl
theorem msgE_meet {m : Msg} {ps : List SigT} {i : Nat} (h : headE m = 0) (h1 : ∀ j, j < ps.length → oneE ps m.size j = 0) (h2 : ∀ j, j < ps.length → ¬ twoB ps j) (hi : i < ps.length) (hb : meetB ps i) (hn : ∀ j, j < i → ¬ meetB ps j) : msgE m ps = (17, some i) := by
  unfold msgE
  rw [if_neg (fun e => e h), firstAt_none (fun j hj e => e (h1 j hj)), firstAt_none h2, firstAt_some hi hb hn]
  rfl
theorem msgE_ok {m : Msg} {ps : List SigT} (h : headE m = 0) (h1 : ∀ j, j < ps.length → oneE ps m.size j = 0) (h2 : ∀ j, j < ps.length → ¬ twoB ps j) (h3 : ∀ j, j < ps.length → ¬ meetB ps j) : msgE m ps = (0, none) := by
  unfold msgE
  rw [if_neg (fun e => e h), firstAt_none (fun j hj e => e (h1 j hj)), firstAt_none h2, firstAt_none h3]
  rfl
/-- Nothing is wrong. -/
structure MsgGood (m : Msg) (ps : List SigT) : Prop where
  head : headE m = 0
  one : ∀ j, j < ps.length → oneE ps m.size j = 0
  two : ∀ j, j < ps.length → ¬ twoB ps j
  meet : ∀ j, j < ps.length → ¬ meetB ps j
theorem msgE_zero {m : Msg} {ps : List SigT} : (msgE m ps).1 = 0 ↔ MsgGood m ps := by
  constructor
  · intro h
    by_cases h0 : headE m = 0
    · rcases firstAt_spec (fun i => oneE ps m.size i ≠ 0) ps.length with ⟨e1, n1⟩ | ⟨i, _, a1, a2, a3⟩
      · have k1 : ∀ j, j < ps.length → oneE ps m.size j = 0 := fun j hj => Classical.byContradiction fun e => n1 j hj e
        rcases firstAt_spec (twoB ps) ps.length with ⟨e2, n2⟩ | ⟨i, _, a1, a2, a3⟩
        · rcases firstAt_spec (meetB ps) ps.length with ⟨e3, n3⟩ | ⟨i, _, a1, a2, a3⟩
          · exact ⟨h0, k1, n2, n3⟩
          · rw [msgE_meet h0 k1 n2 a1 a2 a3] at h; simp at h
        · rw [msgE_two h0 k1 a1 a2 a3] at h; simp at h
      · rw [msgE_one h0 a1 a2 (fun j hj => Classical.byContradiction fun e => a3 j hj e)] at h
        exact absurd h a2
    · rw [msgE_head h0] at h
      exact absurd h h0
  · intro h
    rw [msgE_ok h.head h.one h.two h.meet]
theorem alone_of_one {ps : List SigT} {n : Int} {i : Nat} (h : oneE ps n i = 0) : aloneE (sg ps i) (tx ps i) n = 0 := by
  unfold oneE at h
  split at h
  · exact h
  · rename_i e; exact Classical.byContradiction e
theorem names_of_one {ps : List SigT} {n : Int} {i : Nat} (h : oneE ps n i = 0) : ∀ k, k < i → (sg ps k).name ≠ (sg ps i).name := by
  intro k hk e
  unfold oneE at h
  rw [if_neg (fun x => x (alone_of_one (by unfold oneE; exact h))), if_pos ⟨k, hk, e⟩] at h
  cases h
theorem one_of {ps : List SigT} {n : Int} {i : Nat} (h0 : aloneE (sg ps i) (tx ps i) n = 0) (h1 : ∀ k, k < i → (sg ps k).name ≠ (sg ps i).name) (h2 : (sg ps i).role = 1 → ∀ k, k < i → (sg ps k).role ≠ 1) : oneE ps n i = 0 := by
  unfold oneE
  rw [if_neg (fun x => x h0), if_neg (fun ⟨k, hk, e⟩ => h1 k hk e), if_neg (fun ⟨hr, k, hk, e⟩ => h2 hr k hk e)]
theorem where_of_alone {s : Sig} {ss : List ByteArray} {n : Int} (h : aloneE s ss n = 0) : Pl.whereE s.start s.size s.mot n = 0 := by
  unfold aloneE at h
  split at h
  · cases h
  · split at h
    · cases h
    · split at h
      · exact h
      · rename_i e; exact Classical.byContradiction e
theorem name_of_alone {s : Sig} {ss : List ByteArray} {n : Int} (h : aloneE s ss n = 0) : wordB s.name = true := by
  unfold aloneE at h
  split at h
  · cases h
  · rename_i e; simpa using e
end Go.Proofs.YtjomihhpglojpaaDoor
end
section
/- Maps of the call's own from numbers to sets of bits. -/
namespace Go.Proofs.YtjomihhpglojpaaDoor
open Go.RowKit
open Go.Maps (Keyed IsMap)
section
variable {P : Program} {w w' : World}
def encB (s : List Bool) : List UInt8 := s.map fun b => if b then 1 else 0
theorem encB_inj : ∀ {s t : List Bool}, encB s = encB t → s = t
  | [], [], _ => rfl
  | [], _ :: _, h => by simp [encB] at h
  | _ :: _, [], h => by simp [encB] at h
  | a :: s, b :: t, h => by
    unfold encB at h
    rw [List.map_cons, List.map_cons, List.cons.injEq] at h
    have h2 := encB_inj (s := s) (t := t) h.2
    subst h2
    cases a <;> cases b <;> simp at h <;> rfl
theorem setC_one {s t : List Bool} (h : setC s = setC t) : s = t := by
  have e : s.map Value.bool = t.map Value.bool := by
    have := congrArg Array.toList h
    simpa [setC] using this
  exact (List.map_inj_right (fun a b hab => Value.bool.inj hab)).1 e
open Classical in
noncomputable def setElem (v : Value) : Option (DataW Unit × List MemPlace) :=
  if h : ∃ s : List Bool, v = .agg (setC s) then some (.lit (.string (encB (Classical.choose h))), []) else none
theorem setElem_set (s : List Bool) : setElem (.agg (setC s)) = some (.lit (.string (encB s)), []) := by
  unfold setElem
  have h : ∃ t : List Bool, Value.agg (setC s) = .agg (setC t) := ⟨s, rfl⟩
  rw [dif_pos h]
  have hc := Classical.choose_spec h
  have e : Classical.choose h = s := (setC_one (Value.agg.inj hc)).symm
  rw [e]
theorem setElem_inv {v : Value} {s : List Bool} {ps : List MemPlace} (h : setElem v = some (.lit (.string (encB s)), ps)) : v = .agg (setC s) := by
  unfold setElem at h
  split at h
  · rename_i hx
    have hc := Classical.choose_spec hx
    injection h with h
    injection h with h1 h2
    injection h1 with h1
    injection h1 with h1
    rw [← encB_inj h1]; exact hc
  · cases h
def keyU (k : Int) : Lit := .int .u64 k
/-- What the map holds, the latest first. -/
def kvD : List (Int × List Bool) → DataW Unit
  | [] => .map []
  | p :: r => (kvD r).put (keyU p.1) (.lit (.string (encB p.2)))
def kvAt (k : Int) : List (Int × List Bool) → List Bool
  | [] => Pl.emptyS
  | p :: r => if k = p.1 then p.2 else kvAt k r
theorem kvD_map : ∀ ks, IsMap (kvD ks)
  | [] => ⟨_, rfl⟩
  | p :: r => by
    obtain ⟨es, h⟩ := kvD_map r
    unfold kvD
    rw [h]
    exact ⟨_, rfl⟩
theorem kvD_at (t : Int) : ∀ ks, (kvD ks).atKey (keyU t) (.lit (.string (encB Pl.emptyS))) = .lit (.string (encB (kvAt t ks)))
  | [] => rfl
  | p :: r => by
    unfold kvD kvAt
    by_cases e : t = p.1
    · rw [if_pos e, e, Maps.atKey_put_same (kvD_map r) (by trivial)]
    · rw [if_neg e, Maps.atKey_put_other (fun h => e (by injection h)), kvD_at t r]
/-- Block b is a map of the call's own: it holds ks. -/
def SetU (P : Program) (k : TypeId) (w : World) (b : Nat) (ks : List (Int × List Bool)) : Prop := w.ownsMap P k setElem b ks.length (kvD ks)
theorem SetU.new {k : TypeId} (w : World) : SetU P k (w.alloc (.map #[] 0)) w.heap.size [] := World.ownsMap_made w P k _
theorem SetU.kept {k : TypeId} {b : Nat} {ks : List (Int × List Bool)} {row : Option Nat} (h : SetU P k w b ks) (hg : w.grownBy w' row) (hne : some b ≠ row) : SetU P k w' b ks := World.ownsMap.kept h hg hne
theorem SetU.lt {k : TypeId} {b : Nat} {ks : List (Int × List Bool)} (h : SetU P k w b ks) : b < w.heap.size := World.ownsMap.lt h
theorem SetU.below {k : TypeId} {b : Nat} {ks : List (Int × List Bool)} (h : SetU P k w b ks) (hb : Below w.heap.size w w') : SetU P k w' b ks := by
  have hlt := h.lt
  obtain ⟨es, clock, h1, h2⟩ := h
  exact ⟨es, clock, (hb.block b hlt).trans h1, h2⟩
theorem key_u64 {k : TypeId} (hk : P.underlying k = some (.int .u64)) {v : Int} (hw : (Lit.int .u64 v).wf = true) : keyOf P k (.int .u64 v) = some (keyU v) := Go.Maps.keyOf_int_mk hk hw
theorem SetU.look {t k e : TypeId} {b : Nat} {ks : List (Int × List Bool)} (h : SetU P k w b ks) (ht : P.underlying t = some (.map k e)) (hk : P.underlying k = some (.int .u64)) (hz : (zeroValue e).run P w = .ok (.agg (setC Pl.emptyS)) w) (v : Int) (hw : (Lit.int .u64 v).wf = true) :
    (Instr.lookup t (.map (some b)) (.int .u64 v) false).run P w = .ok (.agg (setC (kvAt v ks))) w := by
  obtain ⟨x, ps, hr, hv⟩ := World.ownsMap.lookup h (Maps.int_keyed hk) ht hz (setElem_set _) (key_u64 hk hw)
  rw [kvD_at] at hv
  rw [hr, setElem_inv hv]
theorem SetU.put {t k e : TypeId} {b : Nat} {ks : List (Int × List Bool)} (h : SetU P k w b ks) (ht : P.underlying t = some (.map k e)) (hk : P.underlying k = some (.int .u64)) (v : Int) (hw : (Lit.int .u64 v).wf = true) (s : List Bool) (hn : ks.length < maxLen) :
    ∃ w', (Instr.mapUpdate t (.map (some b)) (.int .u64 v) (.agg (setC s))).run P w = .ok () w' ∧ SetU P k w' b ((v, s) :: ks) ∧ w.grownBy w' (some b) ∧ w'.heap.size = w.heap.size := by
  obtain ⟨w', hr, ho, ht2⟩ := World.ownsMap.store (P := P) (w := w) (b := b) (k := k) (R := setElem) h (Maps.int_keyed hk) ht hn (key_u64 hk hw) (setElem_set s)
  refine ⟨w', hr, ho, ht2.grown, ?_⟩
  obtain ⟨_, _, _, _, _, rfl⟩ := ht2
  simp [Go.ChangeMaps.setBlock]
end
end Go.Proofs.YtjomihhpglojpaaDoor
end
