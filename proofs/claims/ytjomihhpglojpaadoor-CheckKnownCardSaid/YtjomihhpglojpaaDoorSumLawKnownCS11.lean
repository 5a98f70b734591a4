/- Laid together by a program of mine: AtF AtW ApartW. -/
import Derived.Test.YtjomihhpglojpaaDoorSumLawKnownCS10
import Derived.Test.YtjomihhpglojpaaDoorSumLawKnownCS6
import Derived.Test.YtjomihhpglojpaaDoorSumLawKnownCS8
import Derived.Test.YtjomihhpglojpaaDoorSumLawKnownCS7
set_option linter.unusedSimpArgs false
set_option linter.unusedVariables false
section
/- busbarkit.Num, Place and At of a fault. -/
namespace Go.Proofs.YtjomihhpglojpaaDoor
open Go.RowKit
set_option linter.unusedSimpArgs false
set_option linter.unusedVariables false
attribute [local irreducible] wpList wpQuiet wpStill Code.wp Exit.then Exit.inBlock bodyPost Calls Does Does0

theorem num_f (w : World) (k x y : Int) (h1 : 1 ≤ k) (h2 : k ≤ 26) : Ret Tryd.prog 13 #[fltV k x y] w (fun v w' => v = .int .i64 k ∧ Below w.heap.size w w') := by
  refine enter1 Tryd.func13 rfl 25 rfl 26 rfl (fun a hF => ?_)
  repeat (first | refine c_seq ?_ | refine c_block ?_ | refine c_region _ ?_ | refine wpList_nil ?_ | refine c_then ?_ | refine wp_skip ?_ | ((apply st hF); (first | exact d_move | exact d_assign | exact d_eqN (ifc _ rfl)); clear hF; clear a; intro a hF) | (apply c_cond_f hF; exact rfl; first | exact rfl | assumption))
  refine c_loop (fun q a w' => ∃ n : Nat, 1 ≤ n ∧ n ≤ 27 ∧ q = 27 - n ∧ Fr 26 [(0, fltV k x y), (3, .int .i64 (if k < n then k else 0)), (4, .int .i64 (n : Nat))] a ∧ Below w.heap.size w w') 26
    ⟨1, by omega, by omega, rfl, (by rw [if_neg (by omega)]; exact hF.keep' ⟨rfl, rfl, rfl, trivial⟩), Below.refl _ w⟩ ?_
  clear hF a
  rintro q a w' ⟨n, hn1, hn, rfl, hF, hB⟩
  by_cases hlt : n ≤ 26
  · repeat (first | refine c_seq ?_ | refine c_block ?_ | refine c_region _ ?_ | refine wpList_nil ?_ | refine c_then ?_ | refine wp_skip ?_ | ((apply st hF); (first | exact d_move | exact d_cmpT | exact d_makeI (con _ rfl)); clear hF; clear a; intro a hF) | (apply c_cond_t hF; exact rfl; first | exact rfl | assumption))
    refine stc hF (isF_ok w' k x y n) cal37 ⟨rfl, rfl, trivial⟩ (k := fun a v w2 hR hF => ?_)
    obtain ⟨rfl, hb2⟩ := hR
    have hB2 : Below w.heap.size w w2 := hB.trans (hb2.mono hB.size)
    by_cases hk : k = (n : Int)
    · rw [if_neg (by omega)] at hF
      rw [show (k == (n : Int)) = true from beq_iff_eq.2 hk] at hF
      repeat (first | refine c_seq ?_ | refine c_region _ ?_ | refine wpList_nil ?_ | refine c_then ?_ | refine c_in ?_ | refine wp_skip ?_ | ((apply st hF); (first | exact d_move | exact d_assign | exact d_add | exact d_cmpF); clear hF; clear a; intro a hF) | (apply c_cond_t hF; exact rfl; first | exact rfl | assumption) | (apply c_cond_f hF; exact rfl; first | exact rfl | assumption))
      refine ⟨27 - (n + 1), by omega, n + 1, by omega, by omega, rfl, ?_, hB2⟩
      rw [if_pos (by omega), hk]
      rw [hk] at hF
      exact hF.keep' ⟨rfl, rfl, rfl, trivial⟩
    · rw [show (k == (n : Int)) = false from beq_eq_false_iff_ne.2 hk] at hF
      repeat (first | refine c_region _ ?_ | refine wpList_nil ?_ | refine c_then ?_ | refine c_in ?_ | refine wp_skip ?_ | ((apply st hF); (first | exact d_move | exact d_assign | exact d_add); clear hF; clear a; intro a hF) | (apply c_cond_f hF; exact rfl; first | exact rfl | assumption))
      refine ⟨27 - (n + 1), by omega, n + 1, by omega, by omega, rfl, ?_, hB2⟩
      by_cases hkl : k < n
      · rw [if_pos (by omega)]
        rw [if_pos hkl] at hF
        exact hF.keep' ⟨rfl, rfl, rfl, trivial⟩
      · rw [if_neg (by omega)]
        rw [if_neg hkl] at hF
        exact hF.keep' ⟨rfl, rfl, rfl, trivial⟩
  · rw [if_pos (by omega)] at hF
    repeat (first | refine c_seq ?_ | refine c_region _ ?_ | refine wpList_nil ?_ | refine c_then ?_ | refine c_then_exit ?_ | refine c_in_hit ?_ | refine wp_exit ?_ | ((first | apply st hF | apply stg hF); (first | exact d_move | exact d_cmpF | exact d_makeI (con _ rfl)); clear hF; clear a; intro a hF) | (apply c_cond_f hF; exact rfl; first | exact rfl | assumption))
    refine stcg hF (isF_ok w' k x y 0) cal37 ⟨rfl, rfl, trivial⟩ (k := fun a v w2 hR hF => ?_)
    obtain ⟨rfl, hb2⟩ := hR
    rw [show (k == 0) = false from beq_eq_false_iff_ne.2 (by omega)] at hF
    repeat (first | refine c_seq ?_ | refine c_region _ ?_ | refine wpList_nil ?_ | refine c_then ?_ | refine wp_skip ?_ | refine wp_ret ?_ | ((apply st hF); (first | exact d_move | exact d_assign | exact d_pickF); clear hF; clear a; intro a hF) | (apply c_cond_f hF; exact rfl; first | exact rfl | assumption))
    exact ret1 hF rfl rfl ⟨rfl, hB.trans (hb2.mono hB.size)⟩

theorem place_f (w : World) (k x y : Int) (hg : Handle w) (h1 : 1 ≤ k) (h2 : k ≤ 26) : Ret Tryd.prog 23 #[fltV k x y] w (fun v w' => v = .tuple #[.int .i64 x, .int .i64 y, .bool true] ∧ Below w.heap.size w w') := by
  refine enter1 Tryd.func23 rfl 22 rfl 23 rfl (fun a hF => ?_)
  repeat (first | refine c_seq ?_ | refine c_region _ ?_ | refine wpList_nil ?_ | refine c_then ?_ | ((apply st hF); (exact d_assign); clear hF; clear a; intro a hF))
  refine st_alloc hF inf111 (k := fun a w1 hg1 hgr1 hsz1 hF => ?_)
  have hb1 : Below w.heap.size w w1 := (Below.refl _ w).grown hgr1 (Nat.le_refl _) (fun k hk => by cases hk)
  repeat (first | refine c_seq ?_ | refine c_region _ ?_ | refine wpList_nil ?_ | refine c_then ?_ | ((first | apply st hF | apply stg hF); (first | exact d_move | exact d_eqN (ifc _ rfl) | exact d_makeI (con _ rfl)); clear hF; clear a; intro a hF))
  refine stcg hF (as_hit w1 k x y w.heap.size _ (hg.below hb1) rfl hg1) cal56 ⟨rfl, rfl, trivial⟩ (k := fun a v w2 hR hF => ?_)
  obtain ⟨rfl, hg2, hgr2⟩ := hR
  have hb2 : Below w.heap.size w w2 := hb1.grown hgr2 (by omega) (fun k hk => by cases hk; exact Nat.le_refl _)
  have hc : ∀ w', Below w2.heap.size w2 w' → w'.heap[w.heap.size]? = some (.cells #[.int .i64 k, .int .i64 x, .int .i64 y] 111 (0, 0)) := fun w' h => (h.block _ (lt_at hg2)).trans hg2
  repeat (first | (refine c_region_drawC (fun w' => Below w2.heap.size w2 w') _ mixed (by kernel_rfl) (Dr.below ⟨1, rfl⟩ _) ?_) | refine c_seq ?_ | refine wpList_nil ?_ | refine c_then ?_ | refine wp_skip ?_ | ((first | apply st hF | apply stg hF); (first | exact d_not | exact d_pickF); clear hF; clear a; intro a hF) | ((apply q_step hF); intro wq hwq; (exact d_fieldAddr (fld _ _ _ _ rfl) (isz _ _ rfl)); clear hF; clear a; intro a hF) | (apply c_cond_f hF; exact rfl; first | exact rfl | assumption))
  repeat (((apply q_step hF); intro wq hwq; (first | exact d_move | exact d_fieldAddr (fld _ _ _ _ rfl) (isz _ _ rfl) | exact d_load (und _ _ rfl) (cell_at (i := 1) (hc wq hwq) rfl) | exact d_load (und _ _ rfl) (cell_at (i := 2) (hc wq hwq) rfl) | exact d_load (und _ _ rfl) (cell_at (i := 0) (hc wq hwq) rfl)); clear hF; clear a; intro a hF))
  refine q_stc hF (fun w' hw' => (num_f w' k x y h1 h2).mono (fun v w'' h => ⟨h.1, hw'.trans (h.2.mono hw'.size)⟩)) cal13 ⟨rfl, trivial⟩ (k := fun a hF => ?_)
  have hq : (k == k) = true := beq_self_eq_true _
  repeat (((apply q_step hF); intro wq hwq; (first | exact d_assign | exact d_cmpT); clear hF; clear a; intro a hF))
  refine q_nil ?_
  intro w3 hb3
  repeat (first | refine c_then ?_ | refine wp_ret ?_)
  exact ret3 hF rfl rfl rfl rfl ⟨rfl, hb2.trans (hb3.mono hb2.size)⟩

theorem at_nil (w : World) (x y : Int) : Ret Tryd.prog 44 #[.nilIface, .int .i64 0, .int .i64 x, .int .i64 y] w (fun v w' => v = .bool true ∧ Below w.heap.size w w') := by
  refine enter4 Tryd.func44 rfl 35 rfl 39 rfl (fun a hF => ?_)
  repeat (first | refine c_seq ?_ | refine c_region _ ?_ | refine wpList_nil ?_ | refine c_then ?_ | refine c_then_ret ?_ | refine wp_ret ?_ | ((apply st hF); (first | exact d_move | exact d_assign | exact d_cmpT | exact d_eqN (ifc _ rfl)); clear hF; clear a; intro a hF) | (apply c_cond_t hF; exact rfl; first | exact rfl | assumption))
  exact ret1 hF rfl rfl ⟨rfl, Below.refl _ w⟩
theorem at_f (w : World) (k x y : Int) (hg : Handle w) (h1 : 1 ≤ k) (h2 : k ≤ 26) : Ret Tryd.prog 44 #[fltV k x y, .int .i64 k, .int .i64 x, .int .i64 y] w (fun v w' => v = .bool true ∧ Below w.heap.size w w') := by
  refine enter4 Tryd.func44 rfl 35 rfl 39 rfl (fun a hF => ?_)
  repeat (first | refine c_seq ?_ | refine c_region _ ?_ | refine wpList_nil ?_ | refine c_then ?_ | refine wp_skip ?_ | ((apply st hF); (first | exact d_move | exact d_assign | exact d_cmpF); clear hF; clear a; intro a hF) | (apply c_cond_f hF; exact rfl; first | exact rfl | assumption))
  refine stc hF (place_f w k x y hg h1 h2) cal23 ⟨rfl, trivial⟩ (k := fun a v w1 hR hF => ?_)
  obtain ⟨rfl, hb1⟩ := hR
  repeat (first | refine c_seq ?_ | refine c_region _ ?_ | refine wpList_nil ?_ | refine c_then ?_ | ((apply st hF); (first | exact d_move | exact d_assign | exact d_extract); clear hF; clear a; intro a hF))
  refine stc hF (num_f w1 k x y h1 h2) cal13 ⟨rfl, trivial⟩ (k := fun a v w2 hR hF => ?_)
  obtain ⟨rfl, hb2⟩ := hR
  have e1 : (k == k) = true := beq_self_eq_true _
  have e2 : (x == x) = true := beq_self_eq_true _
  have e3 : (y == y) = true := beq_self_eq_true _
  repeat (first | refine wpList_nil ?_ | refine c_then ?_ | refine wp_ret ?_ | ((first | apply st hF | apply stg hF); (first | exact d_move | exact d_assign | exact d_pickT | exact d_cmpT); clear hF; clear a; intro a hF))
  exact ret1 hF rfl rfl ⟨rfl, hb1.trans (hb2.mono hb1.size)⟩
/-- An error that tells its place, as the reference tells it. -/
theorem at_any (w : World) (ve : Value) (n x y : Int) (hg : Handle w) (h : (n = 0 ∧ ve = .nilIface) ∨ (1 ≤ n ∧ n ≤ 26 ∧ ve = fltV n x y)) : Ret Tryd.prog 44 #[ve, .int .i64 n, .int .i64 x, .int .i64 y] w (fun v w' => v = .bool true ∧ Below w.heap.size w w') := by
  rcases h with ⟨rfl, rfl⟩ | ⟨h1, h2, rfl⟩
  · exact at_nil w x y
  · exact at_f w n x y hg h1 h2
end Go.Proofs.YtjomihhpglojpaaDoor
end
section
/- check.at, walked. -/
namespace Go.Proofs.YtjomihhpglojpaaDoor
open Go.RowKit
set_option linter.unusedSimpArgs false
set_option linter.unusedVariables false
attribute [local irreducible] wpList wpQuiet wpStill Code.wp Exit.then Exit.inBlock bodyPost Calls Does Does0
set_option maxRecDepth 100000
/-- What at returns. -/
def atV (n x y : Int) : Value := if n = 0 then .nilIface else fltV n x y
theorem cat_ok (w : World) (n x y : Int) : Ret Tryd.prog 32 [.int .i64 n, .agg #[.int .i64 x, .int .i64 y]].toArray w (fun v w' => v = atV n x y ∧ Below w.heap.size w w') := by
  refine enter2 Tryd.func32 rfl 12 rfl 14 rfl (fun a hF => ?_)
  repeat (first | refine c_seq ?_ | refine c_region _ ?_)
  refine st_box hF (cs := #[.int .i64 x, .int .i64 y]) rfl (k := fun a w1 hg1 hgr1 hsz1 hF => ?_)
  have hb1 : Below w.heap.size w w1 := (Below.refl _ w).grown hgr1 (Nat.le_refl _) (fun k hk => by cases hk)
  have c0 : w1.cell? ⟨w.heap.size, 0 + 0, none⟩ = some (.int .i64 x) := cell_at hg1 rfl
  have c1 : w1.cell? ⟨w.heap.size, 0 + 1, none⟩ = some (.int .i64 y) := cell_at hg1 rfl
  unfold atV
  by_cases h : n = 0
  · rw [if_pos h]
    repeat (first | refine c_seq ?_ | refine c_region _ ?_ | refine wpList_nil ?_ | refine c_then ?_ | refine c_then_ret ?_ | refine wp_ret ?_ | ((apply st hF); (first | exact d_move | exact d_assign | exact d_cmpT); clear hF; clear a; intro a hF) | (apply c_cond_t hF; exact rfl; first | exact rfl | assumption))
    exact ret1 hF rfl rfl ⟨rfl, hb1⟩
  · rw [if_neg h]
    repeat (first | refine c_seq ?_ | refine c_region _ ?_ | refine wpList_nil ?_ | refine c_then ?_ | refine wp_skip ?_ | refine wp_ret ?_ | ((apply st hF); (first | exact d_move | exact d_assign | exact d_cmpF | exact d_fieldAddr (fld _ _ _ _ rfl) (isz _ _ rfl) | exact d_makeI (con _ rfl) | exact d_build (vs := [(0, .int .i64 n), (1, .int .i64 x), (2, .int .i64 y)]) (cells := #[.int .i64 n, .int .i64 x, .int .i64 y]) (by kernel_rfl) ⟨rfl, rfl, rfl, rfl, rfl, rfl, trivial⟩ | exact d_load (und _ _ rfl) c0 | exact d_load (und _ _ rfl) c1); clear hF; clear a; intro a hF) | (apply c_cond_f hF; exact rfl; first | exact rfl | assumption))
    exact ret1 hF rfl rfl ⟨rfl, hb1⟩
def SgAt (B : Nat) (s : Sig) (w : World) : Prop := w.heap[B]? = some (.cells (Sig.cells s).toArray 38 (0, 0))
theorem SgAt.below {B : Nat} {s : Sig} {w w' : World} (h : SgAt B s w) (hb : Below w.heap.size w w') : SgAt B s w' := (hb.block _ (lt_at h)).trans h
theorem SgAt.pl {B : Nat} {s : Sig} {w : World} (h : SgAt B s w) : ∀ j v, (#[.int .i64 s.line, .int .i64 s.col] : Array Value)[j]? = some v → w.cell? ⟨B, 0 + 0 + j, none⟩ = some v := by
  intro j v hj
  rcases j with _ | _ | j
  · simp at hj; subst hj; exact cell_at h rfl
  · simp at hj; subst hj; exact cell_at h rfl
  · simp at hj
end Go.Proofs.YtjomihhpglojpaaDoor
end
section
/- check.apart, walked. -/
namespace Go.Proofs.YtjomihhpglojpaaDoor
open Go.RowKit
set_option linter.unusedSimpArgs false
set_option linter.unusedVariables false
attribute [local irreducible] wpList wpQuiet wpStill Code.wp Exit.then Exit.inBlock bodyPost Calls Does Does0
set_option maxRecDepth 100000
noncomputable def meetE (ps : List SigT) : Int × Option Nat := thenF (firstAt (meetB ps) ps.length) (fun _ => 17) (0, none)
theorem meetE_some {ps : List SigT} {i : Nat} (h : i < ps.length) (hb : meetB ps i) (hn : ∀ j, j < i → ¬ meetB ps j) : meetE ps = (17, some i) := by
  unfold meetE
  rw [firstAt_some h hb hn]
  rfl
theorem meetE_none {ps : List SigT} (hn : ∀ j, j < ps.length → ¬ meetB ps j) : meetE ps = (0, none) := by
  unfold meetE
  rw [firstAt_none hn]
  rfl
theorem wf_mk64 {x : Int} (h : 0 ≤ x ∧ x < 18446744073709551616) : (Lit.int .u64 x).wf = true := by
  have e1 : IntKind.u64.min = 0 := by decide
  have e2 : IntKind.u64.max = 18446744073709551615 := by decide
  simp only [Lit.wf, e1, e2, decide_eq_true_eq, Bool.and_eq_true]
  omega
theorem union_len {s t : List Bool} : (Pl.zipS (· || ·) s t).length = 64 := Pl.zipS_len _ _ _
def MgAt (B : Nat) (m : Msg) (w : World) : Prop := w.heap[B]? = some (.cells (Msg.cells m).toArray 27 (0, 0))
theorem MgAt.below {B : Nat} {m : Msg} {w w' : World} (h : MgAt B m w) (hb : Below w.heap.size w w') : MgAt B m w' := (hb.block _ (lt_at h)).trans h
theorem MgAt.c {B : Nat} {m : Msg} {w : World} (h : MgAt B m w) (o : Nat) (x : Value) (hx : (Msg.cells m)[o]? = some x) : w.cell? ⟨B, 0 + o, none⟩ = some x := cell_at h (by simpa using hx)
theorem SgAt.c {B : Nat} {s : Sig} {w : World} (h : SgAt B s w) (o : Nat) (x : Value) (hx : (Sig.cells s)[o]? = some x) : w.cell? ⟨B, 0 + o, none⟩ = some x := cell_at h (by simpa using hx)
theorem SetIn.below {B : Nat} {s : List Bool} {w w' : World} (h : SetIn w B s) (hb : Below w.heap.size w w') : SetIn w' B s := (hb.block _ (lt_at h)).trans h
/-- Signal number k, as the slice holds it, in a later world. -/
theorem sig_cells_at {w wr : World} {m : Msg} {ps : List SigT} (hin : MsgIn w m ps) (hb : Below w.heap.size w wr) {k : Nat} (hk : k < ps.length) :
    ∃ b o, m.sg = some ⟨b, o, none⟩ ∧ ∀ q v, (Sig.cells (sg ps k))[q]? = some v → wr.cell? ⟨b, o + k * 19 + q, none⟩ = some v := by
  obtain ⟨b, o, hao, hc⟩ := hin.rd k (by simpa using hk)
  rw [at_map hk] at hc
  rw [sg_lt hk]
  exact ⟨b, o, hao, fun q v hq => (hb.cell (p := ⟨b, o + k * 19 + q, none⟩) (World.block_lt_of_cell? w _ (hc q v hq))).trans (hc q v hq)⟩
set_option maxHeartbeats 16000000 in
theorem apart_ok (w : World) (m : Msg) (ps : List SigT) (hin : MsgIn w m ps) (hB : ∀ p ∈ ps, SigB p.1) (hone : ∀ j, j < ps.length → oneE ps m.size j = 0) :
    Ret Tryd.prog 35 [.agg (Msg.cells m).toArray].toArray w (fun v w' => v = atV (meetE ps).1 (placeL m ps (meetE ps).2) (placeC m ps (meetE ps).2) ∧ Below w.heap.size w w') := by
  have hlen := hin.len
  have hcap := hin.cap
  have hby := hin.bytes
  refine enter1 Tryd.func35 rfl 64 rfl 65 rfl (fun a hF => ?_)
  repeat (first | refine c_seq ?_ | refine c_region _ ?_)
  refine st_box hF (cs := (Msg.cells m).toArray) rfl (k := fun a w1 hg1 hgr1 hsz1 hF => ?_)
  repeat (first | refine c_seq ?_ | refine c_region _ ?_ | refine wpList_nil ?_ | refine c_then ?_ | ((apply st hF); (exact d_assign); clear hF; clear a; intro a hF))
  refine st_alloc hF inf85 (k := fun a w2 hg2 hgr2 hsz2 hF => ?_)
  refine st_alloc hF inf85 (k := fun a w3 hg3 hgr3 hsz3 hF => ?_)
  repeat (first | refine c_seq ?_ | refine c_region _ ?_ | refine wpList_nil ?_ | refine c_then ?_)
  refine st hF (d_makeMap Tryd.underlying122) rfl (fun a hF => ?_)
  have hM4 : SetU Tryd.prog 33 (w3.alloc (.map #[] 0)) w3.heap.size [] := SetU.new w3
  have hgr4 : w3.grownBy (w3.alloc (.map #[] 0)) none := World.grownBy_alloc w3 _ none
  generalize w3.alloc (.map #[] 0) = w4 at *
  have hb4 : Below w.heap.size w w4 := (((Below.refl _ w).grown hgr1 (Nat.le_refl _) (fun k hk => by cases hk)).grown hgr2 (by omega) (fun k hk => by cases hk)).grown hgr3 (by omega) (fun k hk => by cases hk) |>.grown hgr4 (by omega) (fun k hk => by cases hk)
  have hm4 : MgAt w.heap.size m w4 := blk_kept (blk_kept (blk_kept hg1 hgr2 (by simp)) hgr3 (by simp)) hgr4 (by simp)
  have ha4 : SetIn w4 w1.heap.size Pl.emptyS := blk_kept (blk_kept hg2 hgr3 (by simp)) hgr4 (by simp)
  have hn4 : SetIn w4 w2.heap.size Pl.emptyS := blk_kept hg3 hgr4 (by simp)
  repeat (first | refine c_seq ?_ | refine c_block ?_ | refine c_region _ ?_ | refine wpList_nil ?_ | refine c_then ?_ | ((apply st hF); (first | exact d_move | exact d_assign | exact d_len (und _ _ rfl) | exact d_fieldAddr (fld _ _ _ _ rfl) (isz _ _ rfl) | exact d_load (und _ _ rfl) (hm4.c 7 _ rfl)); clear hF; clear a; intro a hF))
  refine c_loop (fun q a wr => ∃ k sa sn kv, k ≤ m.sgN ∧ q = m.sgN - k ∧ ApI ps k sa sn kv ∧ Fr 65 [(1, .pointer (some ⟨w.heap.size, 0, none⟩)), (3, .pointer (some ⟨w1.heap.size, 0, none⟩)), (4, .pointer (some ⟨w2.heap.size, 0, none⟩)), (5, .map (some w3.heap.size)), (13, .slice m.sg m.sgN m.sgC), (14, .int .i64 m.sgN), (15, .int .i64 (k : Nat))] a ∧
    MgAt w.heap.size m wr ∧ SetIn wr w1.heap.size sa ∧ SetIn wr w2.heap.size sn ∧ SetU Tryd.prog 33 wr w3.heap.size kv ∧ Below w.heap.size w wr) m.sgN
    ⟨0, _, _, _, Nat.zero_le _, rfl, ApI.zero ps, hF.keep' ⟨rfl, rfl, rfl, rfl, rfl, rfl, rfl, trivial⟩, hm4, ha4, hn4, hM4, hb4⟩ ?_
  clear hF a hm4 ha4 hn4 hM4 hb4 hgr4 hg1 hg2 hg3 hgr1 hgr2 hgr3
  rintro q a wr ⟨k, sa, sn, kv, hk, rfl, hI, hF, hm, ha, hn, hM, hbel⟩
  have hz := hbel.size
  by_cases hlt : k < m.sgN
  case neg =>
    obtain rfl : k = m.sgN := by omega
    repeat (first | refine c_seq ?_ | refine c_region _ ?_ | refine wpList_nil ?_ | refine c_then ?_ | refine c_then_exit ?_ | refine c_in_hit ?_ | refine wp_exit ?_ | refine wp_ret ?_ | ((apply st hF); (first | exact d_assign | exact d_cmpF); clear hF; clear a; intro a hF) | (apply c_cond_f hF; exact rfl; first | exact rfl | assumption))
    refine ret1 hF rfl rfl ⟨?_, hbel⟩
    rw [meetE_none (fun j hj => hI.no j (by omega))]
    rfl
  have hkl : k < ps.length := by omega
  obtain ⟨b, o, hao, hc⟩ := sig_cells_at hin hbel hkl
  have h0 := hone k hkl
  have hal := alone_of_one h0
  have hwh := where_of_alone hal
  have hbr : SigB (sg ps k) := by rw [sg_lt hkl]; exact hB _ (List.getElem_mem hkl)
  have hla := lt_at ha
  have hln := lt_at hn
  have hlm := hM.lt
  rw [hao] at hF
  generalize hs : sg ps k = s at *
  repeat (first | refine c_seq ?_ | refine c_block ?_ | refine c_region _ ?_ | refine wpList_nil ?_ | refine c_then ?_ | refine wp_skip ?_ | ((apply st hF); (first | exact d_cmpT | exact d_indexAddrS (und _ _ rfl) (isz _ _ rfl) (j := k) | exact d_loadAgg (agg _ rfl) (isz _ _ rfl) rfl (arr_cells hc)); clear hF; clear a; intro a hF) | (apply c_cond_t hF; exact rfl; first | exact rfl | assumption))
  refine st_alloc hF inf38 (k := fun a r1 hg1 hgr1 hsz1 hF => ?_)
  refine st_storeAgg hF (cs := (Sig.cells s).toArray) (isz _ _ rfl) rfl rfl hg1 (sig_cells _) (k := fun a r2 hs2 hgr2 hsz2 hF => ?_)
  have hb2 : Below wr.heap.size wr r2 := ((Below.refl _ wr).grown hgr1 (Nat.le_refl _) (fun k hk => by cases hk)).grown hgr2 (by omega) (fun k hk => by cases hk; exact Nat.le_refl _)
  have hs2 : SgAt wr.heap.size s r2 := hs2
  clear hg1 hgr1 hgr2
  repeat (first | refine c_seq ?_ | refine c_region _ ?_ | refine wpList_nil ?_ | refine c_then ?_ | ((apply st hF); (first | exact d_fieldAddr (fld _ _ _ _ rfl) (isz _ _ rfl) | exact d_loadAgg (agg _ rfl) (isz _ _ rfl) rfl (cells_at hs2) | exact d_load (und _ _ rfl) ((hm.below hb2).c 5 _ rfl)); clear hF; clear a; intro a hF))
  refine stc hF (where_ok r2 (Sig.cells s).toArray s.start s.size m.size s.mot ⟨rfl, rfl, rfl, rfl⟩ (sig_cells s)) cal60 ⟨rfl, rfl, trivial⟩ (k := fun a v r3 hR hF => ?_)
  obtain ⟨⟨se, hse, rfl, hset⟩, hb3⟩ := hR
  obtain ⟨bl, hbl1, hbl2⟩ := hset hwh
  have hSI : SetIs s se := set_is hbl1 hbl2
  have hb3 : Below wr.heap.size wr r3 := hb2.trans (hb3.mono hb2.size)
  have hs3 := hs2.below (by assumption)
  repeat (((apply st hF); (first | exact d_move | exact d_extract); clear hF; clear a; intro a hF))
  refine st_alloc hF inf85 (k := fun a r4 hg4 hgr4 hsz4 hF => ?_)
  refine st_storeAgg hF (cs := setC se) (isz _ _ rfl) (by rw [setC_size, hse]) rfl hg4 (setC_cells _) (k := fun a r5 ht5 hgr5 hsz5 hF => ?_)
  have hz3 := hb3.size
  have hb5 : Below wr.heap.size wr r5 := (hb3.grown hgr4 hz3 (fun k hk => by cases hk)).grown hgr5 (by omega) (fun k hk => by cases hk; omega)
  have hlt3 := lt_at hs3
  have hs5 : SgAt wr.heap.size s r5 := blk_kept (blk_kept hs3 hgr4 (by simp)) hgr5 (by simp; omega)
  have ht5 : SetIn r5 r3.heap.size se := ht5
  clear hg4 hgr4 hgr5 hb3 hb2 hs2 hs3
  -- the union of the two
  repeat (first | refine c_seq ?_ | refine c_region _ ?_ | refine wpList_nil ?_ | refine c_then ?_ | ((apply st hF); (first | exact d_assign | exact d_loadAgg (agg _ rfl) (isz _ _ rfl) (by rw [setC_size, hI.la]) (cells_at (ha.below hb5)) | exact d_loadAgg (agg _ rfl) (isz _ _ rfl) (by rw [setC_size, hI.ln]) (cells_at (hn.below hb5))); clear hF; clear a; intro a hF))
  refine stc hF (union_of r5 sa sn hI.la hI.ln) cal42 ⟨rfl, rfl, trivial⟩ (k := fun a v r6 hR hF => ?_)
  obtain ⟨rfl, hb6⟩ := hR
  have hs6 := hs5.below hb6
  have ht6 := ht5.below hb6
  replace hb6 : Below wr.heap.size wr r6 := hb5.trans (hb6.mono hb5.size)
  have hz6 := hb6.size
  have hlt6 := lt_at ht6
  skip
  refine st_alloc hF inf85 (k := fun a r7 hg7 hgr7 hsz7 hF => ?_)
  refine st_storeAgg hF (cs := setC (Pl.zipS (· || ·) sa sn)) (isz _ _ rfl) (by rw [setC_size, union_len]) rfl hg7 (setC_cells _) (k := fun a r8 hu8 hgr8 hsz8 hF => ?_)
  have hb8 : Below wr.heap.size wr r8 := (hb6.grown hgr7 hz6 (fun k hk => by cases hk)).grown hgr8 (by omega) (fun k hk => by cases hk; omega)
  have hlt6s := lt_at hs6
  have hs8 : SgAt wr.heap.size s r8 := blk_kept (blk_kept hs6 hgr7 (by simp)) hgr8 (by simp; omega)
  have ht8 : SetIn r8 r3.heap.size se := blk_kept (blk_kept ht6 hgr7 (by simp)) hgr8 (by simp; omega)
  have hu8 : SetIn r8 r6.heap.size (Pl.zipS (· || ·) sa sn) := hu8
  clear hg7 hgr7 hgr8 hb6 hs6 ht6 hs5 ht5 hb5
  have hSI' : SetIs (sg ps k) se := by rw [hs]; exact hSI
  have hbrw : (Lit.int .u64 s.branch).wf = true := wf_mk64 hbr.br
  have hklen : kv.length < maxLen := by have := hI.kl; unfold maxLen; omega
  by_cases hr : s.role = 2
  · -- a branch
    repeat (first | refine c_seq ?_ | refine c_region _ ?_ | refine wpList_nil ?_ | refine c_then ?_ | ((apply st hF); (first | exact d_move | exact d_cmpT | exact d_fieldAddr (fld _ _ _ _ rfl) (isz _ _ rfl) | exact d_loadAgg (agg _ rfl) (isz _ _ rfl) (by rw [setC_size, hI.la]) (cells_at (ha.below hb8)) | exact d_lookup ((hM.below hb8).look Tryd.underlying122 Tryd.underlying33 (Tryd.zeroValue85 r8) s.branch hbrw) | exact d_load (und _ _ rfl) (hs8.c 3 _ rfl) | exact d_load (und _ _ rfl) (hs8.c 4 _ rfl)); clear hF; clear a; intro a hF) | (apply c_cond_t hF; exact rfl; first | exact rfl | assumption))
    refine stc hF (union_of r8 sa (kvAt s.branch kv) hI.la (hI.lk _)) cal42 ⟨rfl, rfl, trivial⟩ (k := fun a v r9 hR hF => ?_)
    obtain ⟨rfl, hb9⟩ := hR
    have hs9 := hs8.below hb9
    have ht9 := ht8.below hb9
    have hu9 := hu8.below hb9
    replace hb9 : Below wr.heap.size wr r9 := hb8.trans (hb9.mono hb8.size)
    refine st_storeAgg hF (cs := setC (Pl.zipS (· || ·) sa (kvAt s.branch kv))) (isz _ _ rfl) (by rw [setC_size, union_len]) (by rw [setC_size, union_len]) hu9 (setC_cells _) (k := fun a r10 hu10 hgr10 hsz10 hF => ?_)
    have hlt9s := lt_at hs9
    have hb10 : Below wr.heap.size wr r10 := hb9.grown hgr10 hb9.size (fun k hk => by cases hk; omega)
    have hs10 : SgAt wr.heap.size s r10 := blk_kept hs9 hgr10 (by simp; omega)
    have ht10 : SetIn r10 r3.heap.size se := blk_kept ht9 hgr10 (by simp; omega)
    have ews : withS ps k sa sn kv = Pl.zipS (· || ·) sa (kvAt s.branch kv) := by unfold withS; rw [hs, if_pos hr]
    have hu10 : SetIn r10 r6.heap.size (withS ps k sa sn kv) := by rw [ews]; exact hu10
    clear hs8 ht8 hu8 hb8 hs9 ht9 hu9 hb9 hgr10 ews
    repeat (first | refine c_seq ?_ | refine c_region _ ?_ | refine wpList_nil ?_ | refine c_then ?_ | ((apply st hF); (first | exact d_loadAgg (agg _ rfl) (isz _ _ rfl) (by rw [setC_size, hse]) (cells_at ht10) | exact d_loadAgg (agg _ rfl) (isz _ _ rfl) (by rw [setC_size, withS_len]) (cells_at hu10)); clear hF; clear a; intro a hF))
    refine stc hF (meet_of r10 se (withS ps k sa sn kv) hse withS_len) cal41 ⟨rfl, rfl, trivial⟩ (k := fun a v r11 hR hF => ?_)
    obtain ⟨rfl, hb11⟩ := hR
    have hs11 := hs10.below hb11
    have ht11 := ht10.below hb11
    replace hb11 : Below wr.heap.size wr r11 := hb10.trans (hb11.mono hb10.size)
    clear hs10 ht10 hu10 hb10
    by_cases hmt : Pl.zipS (· && ·) se (withS ps k sa sn kv) = Pl.emptyS
    case neg =>
      repeat (first | refine c_seq ?_ | refine c_region _ ?_ | refine wpList_nil ?_ | refine c_then ?_ | ((apply st hF); (first | exact d_fieldAddr (fld _ _ _ _ rfl) (isz _ _ rfl) | exact d_build (vs := []) (cells := setC Pl.emptyS) (by kernel_rfl) trivial | exact d_to (b := true) (eqSet (Pl.zipS_len _ _ _) emptyS_len) (by rw [decide_eq_false hmt]; rfl) | exact d_loadAgg (agg _ rfl) (isz _ _ rfl) rfl hs11.pl); clear hF; clear a; intro a hF) | (apply c_cond_t hF; exact rfl; first | exact rfl | assumption))
      refine stc hF (cat_ok r11 17 s.line s.col) cal32 ⟨rfl, rfl, trivial⟩ (k := fun a v r12 hR hF => ?_)
      obtain ⟨rfl, hb12⟩ := hR
      have hmb : meetB ps k := Classical.byContradiction fun h => hmt ((hI.meet hSI').2 h)
      repeat (first | refine wpList_nil ?_ | refine c_then ?_ | refine c_then_ret ?_ | refine c_in_ret ?_ | refine wp_ret ?_ | ((apply st hF); (exact d_assign); clear hF; clear a; intro a hF))
      refine ret1 hF rfl rfl ⟨?_, hbel.trans ((hb11.trans (hb12.mono hb11.size)).mono hz)⟩
      rw [meetE_some hkl hmb hI.no]
      show atV 17 s.line s.col = atV 17 (sg ps k).line (sg ps k).col
      rw [hs]
    have hnm : ¬ meetB ps k := (hI.meet hSI').1 hmt
    repeat (first | refine c_seq ?_ | refine c_region _ ?_ | refine wpList_nil ?_ | refine c_then ?_ | refine wp_skip ?_ | ((apply st hF); (first | exact d_fieldAddr (fld _ _ _ _ rfl) (isz _ _ rfl) | exact d_build (vs := []) (cells := setC Pl.emptyS) (by kernel_rfl) trivial | exact d_to (b := false) (eqSet (Pl.zipS_len _ _ _) emptyS_len) (by rw [decide_eq_true hmt]; rfl)); clear hF; clear a; intro a hF) | (apply c_cond_f hF; exact rfl; first | exact rfl | assumption))
    have hs12 := hs11
    have ht12 := ht11
    repeat (first | (refine c_region_mix (fun wq => SgAt wr.heap.size s wq ∧ SetIn wq r3.heap.size se) [(0, true), (1, true), (2, true), (3, true), (4, true), (5, true), (7, true), (6, false), (8, false), (9, false)] 13 mixed (by kernel_rfl) ⟨hs11, ht11⟩ ?_; simp only [pickX, List.filterMap_cons, List.getElem?_cons_zero, List.getElem?_cons_succ, List.filterMap_nil, Option.map_some]) | refine c_seq ?_ | refine wpList_nil ?_ | refine c_then ?_ | ((apply st hF); (first | exact d_cmpT | exact d_load (und _ _ rfl) (hs11.c 3 _ rfl)); clear hF; clear a; intro a hF) | (apply c_cond_t hF; exact rfl; first | exact rfl | assumption))
    have hdb : Below r11.heap.size r11 (r11.drewN 1) := below_more (Below.refl _ r11) 1
    generalize r11.drewN 1 = r12 at *
    replace hs12 := hs11.below hdb
    replace ht12 := ht11.below hdb
    have hb12 : Below wr.heap.size wr r12 := hb11.trans (hdb.mono hb11.size)
    clear hdb hs11 ht11 hb11
    repeat (((apply x_step hF); intro wq hwq; (first | exact d_move | exact d_fieldAddr (fld _ _ _ _ rfl) (isz _ _ rfl) | exact d_loadAgg (agg _ rfl) (isz _ _ rfl) (by rw [setC_size, hse]) (cells_at hwq.2) | exact d_load (und _ _ rfl) ((hwq.1.c 4 _ rfl))); clear hF; clear a; intro a hF))
    refine x_one ?_
    refine st hF (d_lookup ((hM.below hb12).look Tryd.underlying122 Tryd.underlying33 (Tryd.zeroValue85 r12) s.branch hbrw)) rfl (fun a hF => ?_)
    refine wpList_nil ⟨rfl, ⟨hs12, ht12⟩, x_one ?_⟩
    refine stc hF (union_of r12 (kvAt s.branch kv) se (hI.lk _) hse) cal42 ⟨rfl, rfl, trivial⟩ (k := fun a v r13 hR hF => ?_)
    obtain ⟨rfl, hb13⟩ := hR
    have hs13 := hs12.below hb13
    have ht13 := ht12.below hb13
    replace hb13 : Below wr.heap.size wr r13 := hb12.trans (hb13.mono hb12.size)
    have hz13 := hb13.size
    have hlt13 := lt_at hs13
    have hlt13t := lt_at ht13
    refine wpList_nil ⟨rfl, ⟨hs13, ht13⟩, x_one ?_⟩
    obtain ⟨r14, hr14, hM14, hgr14, hsz14⟩ := (hM.below hb13).put Tryd.underlying122 Tryd.underlying33 s.branch hbrw (Pl.zipS (· || ·) (kvAt s.branch kv) se) hklen
    refine st0 hF (d_mapUpdate hr14) rfl (fun a hF => ?_)
    have hs14 : SgAt wr.heap.size s r14 := blk_kept hs13 hgr14 (by simp; omega)
    have ht14 : SetIn r14 r3.heap.size se := blk_kept ht13 hgr14 (by simp; omega)
    have ha14 : SetIn r14 w1.heap.size sa := blk_kept (ha.below hb13) hgr14 (by simp; omega)
    have hn14 : SetIn r14 w2.heap.size sn := blk_kept (hn.below hb13) hgr14 (by simp; omega)
    have hlmm := lt_at hm
    have hm14 : MgAt w.heap.size m r14 := blk_kept (hm.below hb13) hgr14 (by simp; omega)
    have hbel14 : Below w.heap.size w r14 := (hbel.trans (hb13.mono hz)).grown hgr14 (by omega) (fun k hk => by cases hk; omega)
    refine wpList_nil ⟨rfl, ⟨hs14, ht14⟩, x_nil ?_⟩
    repeat (first | refine c_region _ ?_ | refine c_then ?_ | ((apply st hF); (first | exact d_loadAgg (agg _ rfl) (isz _ _ rfl) (by rw [setC_size, hI.ln]) (cells_at hn14) | exact d_loadAgg (agg _ rfl) (isz _ _ rfl) (by rw [setC_size, hse]) (cells_at ht14)); clear hF; clear a; intro a hF))
    refine stc hF (union_of r14 sn se hI.ln hse) cal42 ⟨rfl, rfl, trivial⟩ (k := fun a v r15 hR hF => ?_)
    obtain ⟨rfl, hb15⟩ := hR
    have hn15 := hn14.below hb15
    have ha15 := ha14.below hb15
    have hm15 := hm14.below hb15
    have hM15 := hM14.below hb15
    have hz15 := hb15.size
    have hbel15 : Below w.heap.size w r15 := hbel14.trans (hb15.mono hbel14.size)
    refine st_storeAgg hF (cs := setC (Pl.zipS (· || ·) sn se)) (isz _ _ rfl) (by rw [setC_size, union_len]) (by rw [setC_size, hI.ln]) hn15 (setC_cells _) (k := fun a r16 hn16 hgr16 hsz16 hF => ?_)
    repeat (first | refine c_region _ ?_ | refine wpList_nil ?_ | refine c_then ?_ | refine c_in ?_ | ((apply st hF); (first | exact d_move | exact d_add); clear hF; clear a; intro a hF))
    have hI' := hI.branch hSI' (by rw [hs]; exact hr) hnm
    rw [hs] at hI'
    exact ⟨m.sgN - (k + 1), by omega, k + 1, sa, _, _, by omega, rfl, hI', hao.symm ▸ hF.keep' ⟨rfl, rfl, rfl, rfl, rfl, rfl, rfl, trivial⟩, blk_kept hm15 hgr16 (by simp; omega), blk_kept ha15 hgr16 (by simp; omega), hn16, hM15.kept hgr16 (by simp; omega), hbel15.grown hgr16 (by omega) (fun k hk => by cases hk; omega)⟩
  · -- no branch
    repeat (first | refine c_seq ?_ | refine c_region _ ?_ | refine wpList_nil ?_ | refine c_then ?_ | refine wp_skip ?_ | ((apply st hF); (first | exact d_cmpF | exact d_fieldAddr (fld _ _ _ _ rfl) (isz _ _ rfl) | exact d_load (und _ _ rfl) (hs8.c 3 _ rfl)); clear hF; clear a; intro a hF) | (apply c_cond_f hF; exact rfl; first | exact rfl | assumption))
    have ews : withS ps k sa sn kv = Pl.zipS (· || ·) sa sn := by unfold withS; rw [hs, if_neg hr]
    have hu10 : SetIn r8 r6.heap.size (withS ps k sa sn kv) := by rw [ews]; exact hu8
    have hs10 := hs8
    have ht10 := ht8
    have hb10 := hb8
    clear hs8 ht8 hb8 hu8 ews
    repeat (((apply st hF); (first | exact d_loadAgg (agg _ rfl) (isz _ _ rfl) (by rw [setC_size, hse]) (cells_at ht10) | exact d_loadAgg (agg _ rfl) (isz _ _ rfl) (by rw [setC_size, withS_len]) (cells_at hu10)); clear hF; clear a; intro a hF))
    refine stc hF (meet_of r8 se (withS ps k sa sn kv) hse withS_len) cal41 ⟨rfl, rfl, trivial⟩ (k := fun a v r11 hR hF => ?_)
    obtain ⟨rfl, hb11⟩ := hR
    have hs11 := hs10.below hb11
    have ht11 := ht10.below hb11
    replace hb11 : Below wr.heap.size wr r11 := hb10.trans (hb11.mono hb10.size)
    clear hs10 ht10 hu10 hb10
    by_cases hmt : Pl.zipS (· && ·) se (withS ps k sa sn kv) = Pl.emptyS
    case neg =>
      repeat (first | refine c_seq ?_ | refine c_region _ ?_ | refine wpList_nil ?_ | refine c_then ?_ | ((apply st hF); (first | exact d_fieldAddr (fld _ _ _ _ rfl) (isz _ _ rfl) | exact d_build (vs := []) (cells := setC Pl.emptyS) (by kernel_rfl) trivial | exact d_to (b := true) (eqSet (Pl.zipS_len _ _ _) emptyS_len) (by rw [decide_eq_false hmt]; rfl) | exact d_loadAgg (agg _ rfl) (isz _ _ rfl) rfl hs11.pl); clear hF; clear a; intro a hF) | (apply c_cond_t hF; exact rfl; first | exact rfl | assumption))
      refine stc hF (cat_ok r11 17 s.line s.col) cal32 ⟨rfl, rfl, trivial⟩ (k := fun a v r12 hR hF => ?_)
      obtain ⟨rfl, hb12⟩ := hR
      have hmb : meetB ps k := Classical.byContradiction fun h => hmt ((hI.meet hSI').2 h)
      repeat (first | refine wpList_nil ?_ | refine c_then ?_ | refine c_then_ret ?_ | refine c_in_ret ?_ | refine wp_ret ?_ | ((apply st hF); (exact d_assign); clear hF; clear a; intro a hF))
      refine ret1 hF rfl rfl ⟨?_, hbel.trans ((hb11.trans (hb12.mono hb11.size)).mono hz)⟩
      rw [meetE_some hkl hmb hI.no]
      show atV 17 s.line s.col = atV 17 (sg ps k).line (sg ps k).col
      rw [hs]
    have hnm : ¬ meetB ps k := (hI.meet hSI').1 hmt
    repeat (first | refine c_seq ?_ | refine c_region _ ?_ | refine wpList_nil ?_ | refine c_then ?_ | refine wp_skip ?_ | ((apply st hF); (first | exact d_fieldAddr (fld _ _ _ _ rfl) (isz _ _ rfl) | exact d_build (vs := []) (cells := setC Pl.emptyS) (by kernel_rfl) trivial | exact d_to (b := false) (eqSet (Pl.zipS_len _ _ _) emptyS_len) (by rw [decide_eq_true hmt]; rfl)); clear hF; clear a; intro a hF) | (apply c_cond_f hF; exact rfl; first | exact rfl | assumption))
    repeat (first | refine c_region _ ?_ | refine wpList_nil ?_ | refine c_then ?_ | ((apply st hF); (first | exact d_cmpF | exact d_loadAgg (agg _ rfl) (isz _ _ rfl) (by rw [setC_size, hI.la]) (cells_at (ha.below hb11)) | exact d_loadAgg (agg _ rfl) (isz _ _ rfl) (by rw [setC_size, hse]) (cells_at ht11) | exact d_load (und _ _ rfl) (hs11.c 3 _ rfl)); clear hF; clear a; intro a hF) | (apply c_cond_f hF; exact rfl; first | exact rfl | assumption))
    refine stc hF (union_of r11 sa se hI.la hse) cal42 ⟨rfl, rfl, trivial⟩ (k := fun a v r15 hR hF => ?_)
    obtain ⟨rfl, hb15⟩ := hR
    replace hb15 : Below wr.heap.size wr r15 := hb11.trans (hb15.mono hb11.size)
    have hz15 := hb15.size
    have hlmm := lt_at hm
    have hbel15 : Below w.heap.size w r15 := hbel.trans (hb15.mono hz)
    refine st_storeAgg hF (cs := setC (Pl.zipS (· || ·) sa se)) (isz _ _ rfl) (by rw [setC_size, union_len]) (by rw [setC_size, hI.la]) (ha.below hb15) (setC_cells _) (k := fun a r16 ha16 hgr16 hsz16 hF => ?_)
    repeat (first | refine c_region _ ?_ | refine wpList_nil ?_ | refine c_then ?_ | refine c_in ?_ | ((apply st hF); (first | exact d_move | exact d_add); clear hF; clear a; intro a hF))
    exact ⟨m.sgN - (k + 1), by omega, k + 1, _, sn, kv, by omega, rfl, hI.always hSI' (by rw [hs]; exact hr) hnm, hao.symm ▸ hF.keep' ⟨rfl, rfl, rfl, rfl, rfl, rfl, rfl, trivial⟩, blk_kept (hm.below hb15) hgr16 (by simp; omega), ha16, blk_kept (hn.below hb15) hgr16 (by simp; omega), (hM.below hb15).kept hgr16 (by simp; omega), hbel15.grown hgr16 (by omega) (fun k hk => by cases hk; omega)⟩
end Go.Proofs.YtjomihhpglojpaaDoor
end
