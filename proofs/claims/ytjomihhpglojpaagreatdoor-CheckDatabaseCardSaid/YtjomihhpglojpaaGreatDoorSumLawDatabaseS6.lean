/- Laid together by a program of mine: Txt Arr SigW PushS. -/
import Derived.Test.YtjomihhpglojpaaGreatDoorSumLawDatabaseS5
import Derived.Test.YtjomihhpglojpaaGreatDoorSumLawDatabaseS3
import Derived.ChangeKeysEq
import Derived.Laws.StructEq
import Derived.Laws.ResultCell
import Derived.Great.BuildSlice
set_option linter.unusedSimpArgs false
set_option linter.unusedVariables false
section
/- Lent texts and signals. -/
namespace Go.Proofs.YtjomihhpglojpaaGreatDoor
open Go.RowKit
set_option linter.unusedSimpArgs false
set_option linter.unusedVariables false
attribute [local irreducible] wpList wpQuiet wpStill Code.wp Exit.then Exit.inBlock bodyPost Calls Does Does0

/-- A mark's bytes. -/
def markB (k i : Int) : List Int := [35, IntKind.u8.wrap k, IntKind.u8.wrap (k / 2 ^ 8), IntKind.u8.wrap i, IntKind.u8.wrap (i / 2 ^ 8)]
def markT (k i : Int) : ByteArray := strOfNums (markB k i)
def marksT : List ByteArray := (List.range 16).map fun i : Nat => markT 90 (i : Int)
theorem marksT_len : marksT.length = 16 := rfl
theorem marksT_get (k : Nat) (h : k < 16) : marksT[k]'(by rw [marksT_len]; exact h) = markT 90 (k : Int) := by
  simp only [marksT, List.getElem_map, List.getElem_range]

set_option maxHeartbeats 2000000 in
theorem mark_ok (w : World) (k i : Int) : Ret Tryz.prog 121 #[.int .i64 k, .int .i64 i] w (fun v w' => v = .string (markT k i) ∧ Below w.heap.size w w') := by
  refine enter2 Tryz.func121 rfl 15 rfl 17 rfl (fun a hF => ?_)
  repeat (first | refine c_seq ?_ | refine c_region _ ?_ | refine wpList_nil ?_ | refine c_then ?_ | ((apply st hF); (first | exact d_move | exact d_assign | exact d_convI (und _ _ rfl) (und _ _ rfl) | exact d_shrI (b := 8)); clear hF; clear a; intro a hF))
  refine st hF (d_buildS (z := .int .u8 0) (by_ := 1) (und _ _ rfl) inf5 rfl (by omega) (by omega) (vs := [(0, .int .u8 35), (1, .int .u8 (IntKind.u8.wrap k)), (2, .int .u8 (IntKind.u8.wrap (k / 2 ^ 8))), (3, .int .u8 (IntKind.u8.wrap i)), (4, .int .u8 (IntKind.u8.wrap (i / 2 ^ 8)))]) (cells := ((markB k i).map (Value.int .u8)).toArray) (by rfl) ⟨rfl, rfl, rfl, rfl, rfl, rfl, rfl, rfl, rfl, rfl, trivial⟩) (k := fun a hF => ?_)
  have hg1 : (w.alloc (.cells ((markB k i).map (Value.int .u8)).toArray 5)).heap[w.heap.size]? = some (.cells ((markB k i).map (Value.int .u8)).toArray 5 (0, 0)) := heap_alloc_new w _
  have hgr1 : w.grownBy (w.alloc (.cells ((markB k i).map (Value.int .u8)).toArray 5)) none := World.grownBy_alloc _ _ _
  generalize w.alloc (.cells ((markB k i).map (Value.int .u8)).toArray 5) = w1 at *
  have hb1 : Below w.heap.size w w1 := (Below.refl _ w).grown hgr1 (Nat.le_refl _) (fun k hk => by cases hk)
  have hcell : ∀ j, j < 5 → w1.cell? ⟨w.heap.size, 0 + j, none⟩ = some (.int .u8 ((markB k i).getD j 0)) := by
    intro j hj
    refine cell_at hg1 ?_
    rw [Nat.zero_add]
    rcases (show j = 0 ∨ j = 1 ∨ j = 2 ∨ j = 3 ∨ j = 4 by omega) with rfl | rfl | rfl | rfl | rfl <;> rfl
  repeat (first | refine wpList_nil ?_ | refine c_then ?_ | refine wp_ret ?_ | ((apply st hF); (first | exact d_assign | exact d_convBS (markB k i) (und _ _ rfl) (und _ _ rfl) (und _ _ rfl) rfl hcell); clear hF; clear a; intro a hF))
  exact ret1 hF rfl rfl ⟨rfl, hb1⟩
theorem marks_ok (w : World) (k i : Int) : Ret Tryz.prog 110 #[.int .i64 k, .int .i64 i] w (fun v w' => v = .string (markT k i) ∧ Below w.heap.size w w') := by
  refine enter2 Tryz.func110 rfl 6 rfl 8 rfl (fun a hF => ?_)
  repeat (first | refine c_seq ?_ | refine c_region _ ?_ | refine wpList_nil ?_ | refine c_then ?_ | ((apply st hF); (first | exact d_move | exact d_assign); clear hF; clear a; intro a hF))
  refine stc hF (mark_ok w k i) cal121 ⟨rfl, rfl, trivial⟩ (k := fun a v w1 hR hF => ?_)
  obtain ⟨rfl, hb1⟩ := hR
  repeat (first | refine wpList_nil ?_ | refine c_then ?_ | refine wp_ret ?_ | ((apply st hF); (exact d_assign); clear hF; clear a; intro a hF))
  exact ret1 hF rfl rfl ⟨rfl, hb1⟩

/-- A lent list of texts: so many, the marks behind. -/
def LentT (base : Nat) (w : World) (v : Value) (xs : List ByteArray) : Prop :=
  ∃ g cap, v = .slice (some ⟨g, 0, none⟩) xs.length cap ∧ w.ownsRow base 9 1 (.slice (some ⟨g, 0, none⟩) (xs.length + 16) cap) (xs.length + 16) ((xs ++ marksT).map .string)

set_option maxHeartbeats 2000000 in
theorem full_texts (w : World) (xs : List ByteArray) (ao : Option Addr) (n c : Nat) (hn : xs.length = n) (h : Rd w ao .string xs) (hb : n * 16 ≤ 140737488351232) :
    Ret Tryz.prog 86 #[.slice ao n c] w (fun v w' => (∃ g cap, v = .slice (some ⟨g, 0, none⟩) (n + 16) cap ∧ w'.ownsRow w.heap.size 9 1 (.slice (some ⟨g, 0, none⟩) (n + 16) cap) (n + 16) ((xs ++ marksT).map .string)) ∧ Below w.heap.size w w') := by
  subst hn
  refine enter1 Tryz.func86 rfl 28 rfl 29 rfl (fun a hF => ?_)
  repeat (first | refine c_seq ?_ | refine c_block ?_ | refine c_region _ ?_ | refine wpList_nil ?_ | refine c_then ?_ | ((apply st hF); (exact d_assign); clear hF; clear a; intro a hF))
  refine c_loop (fun n a wr => ∃ k ao' cap', k ≤ xs.length ∧ n = xs.length - k ∧ Fr 29 [(0, .slice ao xs.length c), (3, .slice ao' k cap'), (4, .int .i64 (k : Nat))] a ∧
    wr.ownsRow w.heap.size 9 1 (.slice ao' k cap') k ((xs.take k).map .string) ∧ Below w.heap.size w wr) xs.length
    ⟨0, none, 0, by omega, rfl, hF.keep' ⟨rfl, rfl, rfl, trivial⟩, by simpa using World.ownsRow_nil _ _ _ _, Below.refl _ _⟩ ?_
  clear hF a
  rintro n a wr ⟨k, ao', cap', hk, rfl, hF, hown, hbel⟩
  have hsz := hbel.size
  by_cases hlt : k < xs.length
  · obtain ⟨b, o, rfl, hc⟩ := h k hlt
    have hc' : wr.cell? ⟨b, o + k, none⟩ = some (.string xs[k]) := (hbel.cell (p := ⟨b, o + k, none⟩) (World.block_lt_of_cell? w _ hc)).trans hc
    repeat (first | refine c_seq ?_ | refine c_block ?_ | refine c_region _ ?_ | refine wpList_nil ?_ | refine c_then ?_ | refine wp_skip ?_ | ((apply st hF); (first | exact d_move | exact d_cmpT | exact d_len (und _ _ rfl) | exact d_indexAddr1 (und _ _ rfl) (isz _ _ rfl) | exact d_load (und _ _ rfl) hc'); clear hF; clear a; intro a hF) | (apply c_cond_t hF; exact rfl; first | exact rfl | assumption))
    refine st_push hF (und _ _ rfl) inf9 rfl hown (by omega) (by unfold maxLen; omega) hsz (k := fun a ao2 cap2 w2 hown2 hgr hF => ?_)
    rw [map_take_snoc _ _ _ hlt] at hown2
    repeat (first | refine c_region _ ?_ | refine wpList_nil ?_ | refine c_then ?_ | refine c_in ?_ | ((apply st hF); (first | exact d_move | exact d_assign | exact d_add); clear hF; clear a; intro a hF))
    exact ⟨xs.length - (k + 1), by omega, k + 1, ao2, cap2, by omega, rfl, hF.keep' ⟨rfl, rfl, rfl, trivial⟩, hown2, below_own hbel hsz hown hgr⟩
  · obtain rfl : k = xs.length := by omega
    rw [List.take_length] at hown
    repeat (first | refine c_seq ?_ | refine c_block ?_ | refine c_region _ ?_ | refine wpList_nil ?_ | refine c_then ?_ | refine c_then_exit ?_ | refine c_in_hit ?_ | refine wp_exit ?_ | ((apply st hF); (first | exact d_move | exact d_assign | exact d_cmpF | exact d_len (und _ _ rfl)); clear hF; clear a; intro a hF) | (apply c_cond_f hF; exact rfl; first | exact rfl | assumption))
    refine c_loop (fun n a wr => ∃ k ao' cap', k ≤ 16 ∧ n = 16 - k ∧ Fr 29 [(0, .slice ao xs.length c), (3, .slice ao' (xs.length + k) cap'), (5, .int .i64 (k : Nat))] a ∧
      wr.ownsRow w.heap.size 9 1 (.slice ao' (xs.length + k) cap') (xs.length + k) ((xs ++ marksT.take k).map .string) ∧ Below w.heap.size w wr) 16
      ⟨0, ao', cap', by omega, rfl, hF.keep' ⟨rfl, rfl, rfl, trivial⟩, by simpa using hown, hbel⟩ ?_
    clear hF a hown hbel hsz wr
    rintro n a wr ⟨k, ao', cap', hk, rfl, hF, hown, hbel⟩
    have hsz := hbel.size
    by_cases hlt2 : k < 16
    · repeat (first | refine c_seq ?_ | refine c_block ?_ | refine c_region _ ?_ | refine wpList_nil ?_ | refine c_then ?_ | refine wp_skip ?_ | ((apply st hF); (first | exact d_move | exact d_cmpT); clear hF; clear a; intro a hF) | (apply c_cond_t hF; exact rfl; first | exact rfl | assumption))
      refine stc hF (marks_ok wr 90 k) cal110 ⟨rfl, rfl, trivial⟩ (k := fun a v w1 hR hF => ?_)
      obtain ⟨rfl, hb1⟩ := hR
      replace hown := own_below hown hb1
      replace hbel := hbel.trans (hb1.mono hsz)
      replace hsz := hbel.size
      skip
      refine st_push hF (und _ _ rfl) inf9 rfl hown (by omega) (by unfold maxLen; omega) hsz (k := fun a ao2 cap2 w2 hown2 hgr hF => ?_)
      have e1 : ((xs ++ marksT.take k).map Value.string) ++ [.string (markT 90 (k : Int))] = (xs ++ marksT.take (k + 1)).map .string := by
        rw [List.take_succ_eq_append_getElem (by rw [marksT_len]; exact hlt2), marksT_get k hlt2]; simp
      rw [e1] at hown2
      repeat (first | refine c_region _ ?_ | refine wpList_nil ?_ | refine c_then ?_ | refine c_in ?_ | ((apply st hF); (first | exact d_move | exact d_assign | exact d_add); clear hF; clear a; intro a hF))
      exact ⟨16 - (k + 1), by omega, k + 1, ao2, cap2, by omega, rfl, hF.keep' ⟨rfl, rfl, rfl, trivial⟩, hown2, below_own hbel hsz hown hgr⟩
    · obtain rfl : k = 16 := by omega
      have e1 : marksT.take 16 = marksT := rfl
      rw [e1] at hown
      obtain ⟨g, rfl, hg⟩ := own_some hown (by omega)
      have hcap := own_cap hown
      repeat (first | refine c_seq ?_ | refine c_region _ ?_ | refine wpList_nil ?_ | refine c_then ?_ | refine c_then_exit ?_ | refine c_in_hit ?_ | refine wp_exit ?_ | refine wp_ret ?_ | ((apply st hF); (first | exact d_move | exact d_assign | exact d_cmpF); clear hF; clear a; intro a hF) | (apply c_cond_f hF; exact rfl; first | exact rfl | assumption))
      exact ret1 hF rfl rfl ⟨⟨g, cap', rfl, hown⟩, hbel⟩

theorem lent_texts (w : World) (xs : List ByteArray) (ao : Option Addr) (n c : Nat) (hn : xs.length = n) (h : Rd w ao .string xs) (hb : n * 16 ≤ 140737488351232) :
    Ret Tryz.prog 59 #[.slice ao n c] w (fun v w' => LentT w.heap.size w' v xs ∧ Below w.heap.size w w') := by
  subst hn
  refine enter1 Tryz.func59 rfl 9 rfl 10 rfl (fun a hF => ?_)
  repeat (first | refine c_seq ?_ | refine c_region _ ?_ | refine wpList_nil ?_ | refine c_then ?_ | ((apply st hF); (first | exact d_move | exact d_assign); clear hF; clear a; intro a hF))
  refine stc hF (full_texts w xs ao _ c rfl h hb) cal86 ⟨rfl, trivial⟩ (k := fun a v w1 hR hF => ?_)
  obtain ⟨⟨g, cap, rfl, hown⟩, hb1⟩ := hR
  have hcap := own_cap hown
  repeat (first | refine c_seq ?_ | refine c_region _ ?_ | refine wpList_nil ?_ | refine c_then ?_ | refine wp_ret ?_ | ((apply st hF); (first | exact d_move | exact d_assign | exact d_len (und _ _ rfl) | exact d_slice (und _ _ rfl) (isz _ _ rfl)); clear hF; clear a; intro a hF))
  exact ret1 hF rfl rfl ⟨⟨g, cap, rfl, hown⟩, hb1⟩

set_option maxHeartbeats 2000000 in
theorem keptfull_texts (w : World) (xs : List ByteArray) (g cap base : Nat) (ao : Option Addr) (n m c : Nat) (hn : xs.length = n) (hm : m = n + 16) (h : Rd w ao .string xs) (hown : w.ownsRow base 9 1 (.slice (some ⟨g, 0, none⟩) (n + 16) cap) (n + 16) ((xs ++ marksT).map .string)) (hb : n * 16 ≤ 140737488351232) :
    Ret Tryz.prog 92 #[.slice (some ⟨g, 0, none⟩) m cap, .slice ao n c] w (fun v w' => v = .bool true ∧ Below w.heap.size w w') := by
  subst hm; subst hn
  have hcap := own_cap hown
  refine enter2 Tryz.func92 rfl 36 rfl 38 rfl (fun a hF => ?_)
  repeat (first | refine c_seq ?_ | refine c_block ?_ | refine c_region _ ?_ | refine wpList_nil ?_ | refine c_then ?_ | refine wp_skip ?_ | ((apply st hF); (first | exact d_move | exact d_assign | exact d_add | exact d_cmpF | exact d_len (und _ _ rfl)); clear hF; clear a; intro a hF) | (apply c_cond_f hF; exact rfl; first | exact rfl | assumption))
  refine c_loop (fun q a w' => ∃ k, k ≤ xs.length + 16 ∧ q = xs.length + 16 - k ∧ Fr 38 [(0, .slice (some ⟨g, 0, none⟩) (xs.length + 16) cap), (1, .slice ao xs.length c), (5, .int .i64 (k : Nat))] a ∧ Below w.heap.size w w') (xs.length + 16)
    ⟨0, by omega, rfl, hF.keep' ⟨rfl, rfl, rfl, trivial⟩, Below.refl _ w⟩ ?_
  clear hF a
  rintro q a w' ⟨k, hk, rfl, hF, hbel⟩
  by_cases hlt : k < xs.length + 16
  · repeat (first | refine c_seq ?_ | refine c_block ?_ | refine c_region _ ?_ | refine wpList_nil ?_ | refine c_then ?_ | refine wp_skip ?_ | ((apply st hF); (first | exact d_move | exact d_sub | exact d_cmpT | exact d_len (und _ _ rfl)); clear hF; clear a; intro a hF) | (apply c_cond_t hF; exact rfl; first | exact rfl | assumption))
    refine stc hF (marks_ok w' 90 ((k : Int) - (xs.length : Int))) cal110 ⟨rfl, rfl, trivial⟩ (k := fun a v w1 hR hF => ?_)
    obtain ⟨rfl, hb1⟩ := hR
    have hbel1 := hbel.trans (hb1.mono hbel.size)
    have hlen : (xs ++ marksT).length = xs.length + 16 := by simp [marksT_len]
    have hc2 := own_cells (own_below hown hbel1) (i := k) (by simp [marksT_len]; omega)
    rw [List.getElem_map] at hc2
    by_cases hx : k < xs.length
    · obtain ⟨b, o, rfl, hc⟩ := h k hx
      have hc' : w1.cell? ⟨b, o + k, none⟩ = some (.string xs[k]) := (hbel1.cell (p := ⟨b, o + k, none⟩) (World.block_lt_of_cell? w _ hc)).trans hc
      rw [List.getElem_append_left hx] at hc2
      have hq : (!decide (xs[k] = xs[k])) = false := by simp
      repeat (first | refine c_seq ?_ | refine c_region _ ?_ | refine wpList_nil ?_ | refine c_then ?_ | refine c_in ?_ | refine wp_skip ?_ | ((apply st hF); (first | exact d_move | exact d_assign | exact d_add | exact d_cmpT | exact d_eqSF | exact d_len (und _ _ rfl) | exact d_indexAddr1 (und _ _ rfl) (isz _ _ rfl) | exact d_load (und _ _ rfl) hc' | exact d_load (und _ _ rfl) hc2); clear hF; clear a; intro a hF) | (apply c_cond_t hF; exact rfl; first | exact rfl | assumption) | (apply c_cond_f hF; exact rfl; first | exact rfl | assumption))
      exact ⟨xs.length + 16 - (k + 1), by omega, k + 1, by omega, rfl, hF.keep' ⟨rfl, rfl, rfl, trivial⟩, hbel1⟩
    · have e3 : (xs ++ marksT)[k]'(by rw [hlen]; omega) = markT 90 ((k : Int) - (xs.length : Int)) := by
        rw [List.getElem_append_right (by omega), marksT_get _ (by omega)]
        congr 1
        omega
      rw [e3] at hc2
      have hq : (!decide (markT 90 ((k : Int) - (xs.length : Int)) = markT 90 ((k : Int) - (xs.length : Int)))) = false := by simp
      repeat (first | refine c_seq ?_ | refine c_region _ ?_ | refine wpList_nil ?_ | refine c_then ?_ | refine c_in ?_ | refine wp_skip ?_ | ((apply st hF); (first | exact d_move | exact d_assign | exact d_add | exact d_cmpF | exact d_eqSF | exact d_len (und _ _ rfl) | exact d_indexAddr1 (und _ _ rfl) (isz _ _ rfl) | exact d_load (und _ _ rfl) hc2); clear hF; clear a; intro a hF) | (apply c_cond_f hF; exact rfl; first | exact rfl | assumption))
      exact ⟨xs.length + 16 - (k + 1), by omega, k + 1, by omega, rfl, hF.keep' ⟨rfl, rfl, rfl, trivial⟩, hbel1⟩
  · repeat (first | refine c_seq ?_ | refine c_region _ ?_ | refine wpList_nil ?_ | refine c_then ?_ | refine c_then_exit ?_ | refine c_in_hit ?_ | refine wp_exit ?_ | refine wp_ret ?_ | ((apply st hF); (first | exact d_move | exact d_assign | exact d_cmpF | exact d_len (und _ _ rfl)); clear hF; clear a; intro a hF) | (apply c_cond_f hF; exact rfl; first | exact rfl | assumption))
    exact ret1 hF rfl rfl ⟨rfl, hbel⟩

theorem kept_texts (w : World) (xs : List ByteArray) (v : Value) (base : Nat) (ao : Option Addr) (n c : Nat) (hn : xs.length = n) (h : Rd w ao .string xs) (hl : LentT base w v xs) (hb : n * 16 ≤ 140737488351232) :
    Ret Tryz.prog 70 #[v, .slice ao n c] w (fun v w' => v = .bool true ∧ Below w.heap.size w w') := by
  subst hn
  obtain ⟨g, cap, rfl, hown⟩ := hl
  have hcap := own_cap hown
  refine enter2 Tryz.func70 rfl 15 rfl 17 rfl (fun a hF => ?_)
  repeat (first | refine c_seq ?_ | refine c_region _ ?_ | refine wpList_nil ?_ | refine c_then ?_ | refine wp_skip ?_ | ((apply st hF); (first | exact d_move | exact d_assign | exact d_add | exact d_cmpF | exact d_len (und _ _ rfl) | exact d_slice (und _ _ rfl) (isz _ _ rfl) (j := xs.length + 16) (hq := by omega)); clear hF; clear a; intro a hF) | (apply c_cond_f hF; exact rfl; first | exact rfl | assumption))
  refine stc hF (keptfull_texts w xs g cap base ao _ _ c rfl rfl h hown hb) cal92 ⟨rfl, rfl, trivial⟩ (k := fun a v w1 hR hF => ?_)
  obtain ⟨rfl, hb1⟩ := hR
  repeat (first | refine wpList_nil ?_ | refine c_then ?_ | refine wp_ret ?_ | ((apply st hF); (exact d_assign); clear hF; clear a; intro a hF))
  exact ret1 hF rfl rfl ⟨rfl, hb1⟩
end Go.Proofs.YtjomihhpglojpaaGreatDoor
end
section
/- Arrays of bools: sets of bits. Plain lemmas over any program. -/
namespace Go.Proofs.YtjomihhpglojpaaGreatDoor
open Go.RowKit

/-- The cells of a set. -/
def setC (xs : List Bool) : Array Value := (xs.map Value.bool).toArray
theorem setC_size (xs : List Bool) : (setC xs).size = xs.length := by simp [setC]
theorem setC_get {xs : List Bool} {j : Nat} (h : j < xs.length) : (setC xs)[j]? = some (.bool xs[j]) := by simp [setC, h]
theorem setC_set (xs : List Bool) (j : Nat) (b : Bool) : (setC xs).setIfInBounds (0 + j) (.bool b) = setC (xs.set j b) := by
  rw [Nat.zero_add]
  apply Array.toList_inj.1
  simp [setC, List.map_set]
theorem setC_cells (xs : List Bool) : ∀ v ∈ setC xs, v.oneCell' = true := by
  intro v hv
  simp [setC] at hv
  rcases hv with ⟨_, rfl⟩ | ⟨_, rfl⟩ <;> rfl

section
variable {P : Program} {ops : Array Oper} {Q : Exit → Act → World → Prop} {a : Act} {w w' : World} {rest : List Oper} {N : Nat} {l : List (Nat × Value)}

theorem run_eqItems_bools (d : Nat) {e : TypeId} (he : P.underlying e = some .bool) (xs ys : List Bool) (hl : xs.length = ys.length) : ∀ is : List Nat, (∀ i ∈ is, i < xs.length) →
    (Op.eqItems (d + 1) e 1 (setC xs) (setC ys) is).run P w = .ok (is.all fun i => xs.getD i false == ys.getD i false) w
  | [], _ => by simp [Op.eqItems]
  | i :: is, h => by
    have hi := h i (by simp)
    have px : (part e (setC xs) (i * 1)).run P w = .ok (.bool (xs.getD i false)) w := by
      simp [part, isAgg, run_underlying he, setC, List.getD, hi]
    have py : (part e (setC ys) (i * 1)).run P w = .ok (.bool (ys.getD i false)) w := by
      simp [part, isAgg, run_underlying he, setC, List.getD, show i < ys.length by omega]
    have pe : (Op.equalIn (d + 1) e (.bool (xs.getD i false)) (.bool (ys.getD i false))).run P w = .ok (xs.getD i false == ys.getD i false) w := run_equalIn_bool d he _ _
    simp only [Op.eqItems, Sem.run_bind, px, py, pe, Result.andThen_ok, List.all_cons]
    cases hq : (xs.getD i false == ys.getD i false) with
    | false => simp
    | true => simpa using run_eqItems_bools d he xs ys hl is (fun j hj => h j (by simp [hj]))
theorem all_range (xs ys : List Bool) (h : xs.length = ys.length) : ((List.range xs.length).all fun i => xs.getD i false == ys.getD i false) = decide (xs = ys) := by
  rw [Bool.eq_iff_iff]
  simp only [List.all_eq_true, List.mem_range, beq_iff_eq, decide_eq_true_eq]
  constructor
  · intro hh
    apply List.ext_getElem h
    intro i h1 h2
    have := hh i h1
    simpa [List.getD, h1, h2] using this
  · rintro rfl i _; rfl
theorem run_equalIn_set (d : Nat) {t e : TypeId} {n : Nat} {i : TypeInfo} (hu : P.underlying t = some (.array n e)) (he : P.underlying e = some .bool) (hi : P.info? e = some i) (hc : P.cellsOf e = 1) (xs ys : List Bool) (hx : xs.length = n) (hy : ys.length = n) :
    (Op.equalIn (d + 2) t (.agg (setC xs)) (.agg (setC ys))).run P w = .ok (decide (xs = ys)) w := by
  rw [run_equalIn_array (P := P) w (d + 1) (setC xs) (setC ys) hu hi, hc, run_eqItems_bools d he xs ys (by omega) _ (by intro j hj; simp at hj; omega), ← hx, all_range xs ys (by omega)]
/-- Sets held against each other. -/
theorem d_eqSet {op : BinOp} {x y : Operand} {xs ys : List Bool} {r : Bool} {t t' ty e : TypeId} {n : Nat} (hu : P.underlying t = some (.array n e)) (he : P.underlying e = some .bool) (hi : (P.info? e).map (·.size) = some 1) (hc : P.cellsOf e = 1) (hm : P.eqGuardType P.depth t = false) (hxl : xs.length = n) (hyl : ys.length = n)
    (hx : Ev l x (.agg (setC xs)) := by exact rfl) (hy : Ev l y (.agg (setC ys)) := by exact rfl) (hr : (match op with | .eql => some (decide (xs = ys)) | .neq => some (!decide (xs = ys)) | _ => none) = some r := by exact rfl) : Does P l w (.binOp op t x y t') ty (.bool r) w := by
  obtain ⟨i, h1, h2⟩ := Option.map_eq_some_iff.1 hi
  intro ρ hρ d pos af g
  have key := run_equalIn_set (P := P) (w := w) 9998 hu he h1 hc xs ys hxl hyl
  cases op <;> simp only [Option.some.injEq, reduceCtorEq] at hr <;> subst hr
  · simp only [execOp, hρ _ _ hx, hρ _ _ hy, Sem.run_bind, run_eqGuard_agg w _ t x y _ _ hm, Result.andThen_ok, run_eql_struct, key]
    rfl
  · simp only [execOp, hρ _ _ hx, hρ _ _ hy, Sem.run_bind, run_eqGuard_agg w _ t x y _ _ hm, Result.andThen_ok, run_neq_struct, key]
    rfl

/-- An element's address in an array. -/
theorem d_indexAddrA {x i : Operand} {b o n : Nat} {k : IntKind} {j : Nat} {q : Int} {t e ty : TypeId} (hU : P.underlying t = some (.array n e)) (hs : (P.info? e).map (·.size) = some 1)
    (hx : Ev l x (.pointer (some ⟨b, o, none⟩)) := by exact rfl) (hi : Ev l i (.int k q) := by exact rfl) (hq : q = (j : Int) := by exact rfl) (hj : j < n := by omega) :
    Does P l w (.indexAddr t x i) ty (.pointer (some ⟨b, o + j, none⟩)) w := by
  intro ρ hρ d pos af g
  subst hq
  obtain ⟨ti, h1, h2⟩ := Option.map_eq_some_iff.1 hs
  have h3 : (0 : Int) ≤ (j : Int) ∧ (j : Int) < (n : Int) := by omega
  simp [execOp, Instr.indexAt, Instr.sureAddr, asIntOf, hρ _ _ hx, hρ _ _ hi, run_underlying hU, sizeOf, typeInfo, h1, h2, hj, addr_add]
/-- An element of an array that is no variable. -/
theorem d_indexA {x i : Operand} {cs : Array Value} {n : Nat} {v : Value} {k : IntKind} {j : Nat} {q : Int} {t e ty : TypeId} {dd : TypeDesc} (hU : P.underlying t = some (.array n e)) (hE : P.underlying e = some dd) (h1' : oneCellType dd = true) (hs : (P.info? e).map (·.size) = some 1) (hv : cs[j]? = some v)
    (hx : Ev l x (.agg cs) := by exact rfl) (hi : Ev l i (.int k q) := by exact rfl) (hq : q = (j : Int) := by exact rfl) (hj : j < n := by omega) :
    Does P l w (.index t x i) ty v w := by
  intro ρ hρ d pos af g
  subst hq
  obtain ⟨ti, h1, h2⟩ := Option.map_eq_some_iff.1 hs
  have h3 : (0 : Int) ≤ (j : Int) ∧ (j : Int) < (n : Int) := by omega
  cases dd <;> simp [oneCellType] at h1' <;> simp [execOp, Instr.index, asIntOf, hρ _ _ hx, hρ _ _ hi, run_underlying hU, sizeOf, typeInfo, h1, h2, hj, part, isAgg, run_underlying hE, hv]

/-! ### results in boxes -/
theorem run_loadVar_agg {t : TypeId} {g : Nat} {cs : Array Value} {e : TypeId} {fr : Nat × Nat} (hU : (P.underlying t).map aggB = some true) (hs : (P.info? t).map (·.size) = some cs.size) (hg : w.heap[g]? = some (.cells cs e fr)) : (loadVar t ⟨g, 0, none⟩).run P w = .ok (.agg cs) w := by
  obtain ⟨ti, h1, h2⟩ := Option.map_eq_some_iff.1 hs
  obtain ⟨dd, h3, h4⟩ := Option.map_eq_some_iff.1 hU
  have hr : (loadCells ⟨g, 0, none⟩ cs.size).run P w = .ok cs w := by
    have := run_loadCells_list (P := P) (w := w) ⟨g, 0, none⟩ cs.toList (fun j v hj => by rw [addr_add]; exact cells_at hg j v (by simpa using hj))
    simpa using this
  cases dd <;> simp [aggB] at h4 <;> simp [loadVar, isAgg, run_underlying h3, sizeOf, typeInfo, h1, h2, hr]
theorem ret_ct {fn : Func} {R : Value → World → Prop} (h : Fr N l a) {p u : Nat} {ty : TypeId} (hres : fn.results = #[.cell p ty, .tmp u]) {g : Nat} {cs : Array Value} {e : TypeId} {fr : Nat × Nat} {y : Value} (hU : (P.underlying ty).map aggB = some true) (hs : (P.info? ty).map (·.size) = some cs.size) (hg : w.heap[g]? = some (.cells cs e fr))
    (hv : look l p = some (.pointer (some ⟨g, 0, none⟩))) (hx : look l u = some y) (hR : R (.tuple #[.agg cs, y]) w) :
    bodyPost P fn (fun e w' => ∃ v, e = .returned v ∧ R v w') .ret a w := by
  refine bodyPost_ret (v := .tuple #[.agg cs, y]) ?_ h.defers ⟨_, rfl, hR⟩
  rw [results_cell_tmp hres, getD_at h hv, getD_at h hx]
  simp [asAddr, run_loadVar_agg hU hs hg]
theorem ret_c {fn : Func} {R : Value → World → Prop} (h : Fr N l a) {p : Nat} {ty : TypeId} (hres : fn.results = #[.cell p ty]) {g : Nat} {cs : Array Value} {e : TypeId} {fr : Nat × Nat} (hU : (P.underlying ty).map aggB = some true) (hs : (P.info? ty).map (·.size) = some cs.size) (hg : w.heap[g]? = some (.cells cs e fr))
    (hv : look l p = some (.pointer (some ⟨g, 0, none⟩))) (hR : R (.agg cs) w) :
    bodyPost P fn (fun e w' => ∃ v, e = .returned v ∧ R v w') .ret a w := by
  refine bodyPost_ret (v := .agg cs) ?_ h.defers ⟨_, rfl, hR⟩
  have e1 : a.tmps[p]? = some (.pointer (some ⟨g, 0, none⟩)) := h.at_ _ _ hv
  simp [results, hres, e1, asAddr, run_loadVar_agg hU hs hg]
end
end Go.Proofs.YtjomihhpglojpaaGreatDoor
end
section
/- Lent signals. -/
namespace Go.Proofs.YtjomihhpglojpaaGreatDoor
open Go.RowKit
set_option linter.unusedSimpArgs false
set_option linter.unusedVariables false
attribute [local irreducible] wpList wpQuiet wpStill Code.wp Exit.then Exit.inBlock bodyPost Calls Does Does0

theorem own_base' {w : World} {base : Nat} {e : TypeId} {s g n c : Nat} {xs : List Value} (h : w.ownsRow base e s (.slice (some ⟨g, 0, none⟩) n c) n xs) : base ≤ g := by
  rcases h.2 with ⟨h0, _⟩ | ⟨g', cap', cur, h0, h1, _⟩
  · cases h0
  · cases h0; exact h1
theorem pairPlace : PairT Tryz.prog 23 .i64 := pairT_of (by kernel_rfl)
theorem pairRat : PairT Tryz.prog 60 .i64 := pairT_of (by kernel_rfl)
theorem pair_at {w : World} {b o : Nat} {x y : Value} (h0 : w.cell? ⟨b, o, none⟩ = some x) (h1 : w.cell? ⟨b, o + 1, none⟩ = some y) : ∀ j v, (#[x, y] : Array Value)[j]? = some v → w.cell? ⟨b, o + j, none⟩ = some v := by
  intro j v h
  rcases (show j = 0 ∨ j = 1 ∨ 2 ≤ j by omega) with rfl | rfl | hj
  · simp at h; subst h; exact h0
  · simp at h; subst h; exact h1
  · rw [Array.getElem?_eq_none (by simpa using hj)] at h; cases h
theorem sig_cells (s : Sig) : ∀ v ∈ (Sig.cells s).toArray, v.oneCell' = true := by
  intro v hv
  simp [Sig.cells] at hv
  rcases hv with rfl | rfl | rfl | rfl | rfl | rfl | rfl | rfl | rfl | rfl | rfl | rfl | rfl | rfl | rfl | rfl | rfl | rfl | rfl <;> rfl

set_option maxHeartbeats 2000000 in
theorem lent_signal (w : World) (s : Sig) (ss : List ByteArray) (hs : SigIn w s ss) :
    Ret Tryz.prog 44 #[.agg (Sig.cells s).toArray] w (fun v w' => ∃ g cap, v = .agg (Sig.cells { s with toA := some ⟨g, 0, none⟩, toC := cap }).toArray ∧ LentT w.heap.size w' (.slice (some ⟨g, 0, none⟩) s.toN cap) ss ∧ Below w.heap.size w w') := by
  refine enter1 Tryz.func44 rfl 9 rfl 10 rfl (fun a hF => ?_)
  repeat (first | refine c_seq ?_ | refine c_region _ ?_)
  refine st_box hF (cs := (Sig.cells s).toArray) rfl (k := fun a w1 hg1 hgr1 hsz1 hF => ?_)
  refine st_alloc hF inf62 (k := fun a w2 hg2 hgr2 hsz2 hF => ?_)
  have hb2 : Below w.heap.size w w2 := ((Below.refl _ w).grown hgr1 (Nat.le_refl _) (fun k hk => by cases hk)).grown hgr2 (by omega) (fun k hk => by cases hk)
  have hg12 := blk_kept hg1 hgr2 (by simp)
  repeat (first | refine c_seq ?_ | refine c_region _ ?_ | refine wpList_nil ?_ | refine c_then ?_ | ((apply st hF); (exact d_loadAgg (agg _ rfl) (isz _ _ rfl) rfl (cells_at hg12)); clear hF; clear a; intro a hF))
  refine st_alloc hF inf62 (k := fun a w3 hg3 hgr3 hsz3 hF => ?_)
  have hb3 : Below w.heap.size w w3 := hb2.grown hgr3 (by omega) (fun k hk => by cases hk)
  have hg13 := blk_kept hg12 hgr3 (by simp)
  have hg23 := blk_kept hg2 hgr3 (by simp)
  refine st_storeAgg hF (cs := (Sig.cells s).toArray) (isz _ _ rfl) rfl rfl hg3 (sig_cells s) (k := fun a w4 hg4 hgr4 hsz4 hF => ?_)
  have hb4 : Below w.heap.size w w4 := hb3.grown hgr4 (by omega) (fun k hk => by cases hk; omega)
  have hg14 := blk_kept hg13 hgr4 (by simp; omega)
  have hg24 := blk_kept hg23 hgr4 (by simp; omega)
  have c18 := cell_at (i := 18) hg14 rfl
  repeat (first | refine c_seq ?_ | refine c_region _ ?_ | refine wpList_nil ?_ | refine c_then ?_ | ((apply st hF); (first | exact d_fieldAddr (fld _ _ _ _ rfl) (isz _ _ rfl) | exact d_load (und _ _ rfl) c18); clear hF; clear a; intro a hF))
  refine stc hF (lent_texts w4 ss s.toA _ s.toC hs.len (hs.rd.below hb4) (by have := hs.bytes; have := hs.cap; omega)) cal59 ⟨rfl, trivial⟩ (k := fun a v w5 hR hF => ?_)
  obtain ⟨⟨g, cap, rfl, hown⟩, hb5⟩ := hR
  have hb5' : Below w.heap.size w w5 := hb4.trans (hb5.mono (by omega))
  have hg15 : w5.heap[w.heap.size]? = _ := (hb5.block _ (lt_at hg14)).trans hg14
  have hg25 : w5.heap[w1.heap.size]? = _ := (hb5.block _ (lt_at hg24)).trans hg24
  have hg35 : w5.heap[w2.heap.size]? = _ := (hb5.block _ (lt_at hg4)).trans hg4
  have hz5 := hb5.size
  repeat (((apply st hF); (exact d_fieldAddr (fld _ _ _ _ rfl) (isz _ _ rfl)); clear hF; clear a; intro a hF))
  refine st_store hF (isz _ _ rfl) hg35 (i := 18) (by show 18 < 19; decide) rfl rfl rfl (k := fun a w6 hg6 hgr6 hsz6 hF => ?_)
  have hown6 := own_keptB hown hgr6 (fun k hk e => by simp only [Value.ownBlock, Option.some.injEq] at hk e; have := own_base' hown; omega)
  have hb6 : Below w.heap.size w w6 := hb5'.grown hgr6 (by omega) (fun k hk => by cases hk; omega)
  have hg26 := blk_kept hg25 hgr6 (by simp; omega)
  repeat (first | refine c_seq ?_ | refine c_region _ ?_ | refine wpList_nil ?_ | refine c_then ?_ | ((apply st hF); (exact d_loadAgg (agg _ rfl) (isz _ _ rfl) rfl (cells_at hg6)); clear hF; clear a; intro a hF))
  refine st_storeAgg hF (cs := (Sig.cells { s with toA := some ⟨g, 0, none⟩, toN := ss.length, toC := cap }).toArray) (isz _ _ rfl) rfl rfl hg26 (sig_cells _) (k := fun a w7 hg7 hgr7 hsz7 hF => ?_)
  have hown7 := own_keptB hown6 hgr7 (fun k hk e => by simp only [Value.ownBlock, Option.some.injEq] at hk e; have := own_base' hown; omega)
  have hb7 : Below w.heap.size w w7 := hb6.grown hgr7 (by omega) (fun k hk => by cases hk; omega)
  repeat (first | refine wpList_nil ?_ | refine c_then ?_ | refine wp_ret ?_)
  refine ret_c hF rfl (agg _ rfl) (isz _ _ rfl) hg7 rfl ⟨g, cap, ?_, ⟨g, cap, ?_, own_rebase hown7 fun k hk => ?_⟩, hb7⟩
  · rw [hs.len]
  · rw [hs.len]
  · simp only [Value.ownBlock, Option.some.injEq] at hk
    have := own_base' hown
    omega

set_option maxHeartbeats 4000000 in
theorem kept_signal (w : World) (s : Sig) (ss : List ByteArray) (g cap base : Nat) (hs : SigIn w s ss) (hl : LentT base w (.slice (some ⟨g, 0, none⟩) s.toN cap) ss) :
    Ret Tryz.prog 57 #[.agg (Sig.cells { s with toA := some ⟨g, 0, none⟩, toC := cap }).toArray, .agg (Sig.cells s).toArray] w (fun v w' => v = .bool true ∧ Below w.heap.size w w') := by
  refine enter2 Tryz.func57 rfl 99 rfl 101 rfl (fun a hF => ?_)
  repeat (first | refine c_seq ?_ | refine c_region _ ?_)
  refine st_box hF (cs := (Sig.cells { s with toA := some ⟨g, 0, none⟩, toC := cap }).toArray) rfl (k := fun a w1 hg1 hgr1 hsz1 hF => ?_)
  refine st_box hF (cs := (Sig.cells s).toArray) rfl (k := fun a w2 hg2 hgr2 hsz2 hF => ?_)
  have hb2 : Below w.heap.size w w2 := ((Below.refl _ w).grown hgr1 (Nat.le_refl _) (fun k hk => by cases hk)).grown hgr2 (by omega) (fun k hk => by cases hk)
  have hg12 := blk_kept hg1 hgr2 (by simp)
  have hl2 : LentT base w2 (.slice (some ⟨g, 0, none⟩) s.toN cap) ss := by
    obtain ⟨g', cap', e, hown⟩ := hl
    exact ⟨g', cap', e, own_below hown hb2⟩
  have x2 : w2.cell? ⟨w.heap.size, 2, none⟩ = some (.string s.name) := cell_at hg12 rfl
  have x3 : w2.cell? ⟨w.heap.size, 3, none⟩ = some (.int .i64 s.role) := cell_at hg12 rfl
  have x4 : w2.cell? ⟨w.heap.size, 4, none⟩ = some (.int .u64 s.branch) := cell_at hg12 rfl
  have x5 : w2.cell? ⟨w.heap.size, 5, none⟩ = some (.int .i64 s.start) := cell_at hg12 rfl
  have x6 : w2.cell? ⟨w.heap.size, 6, none⟩ = some (.int .i64 s.size) := cell_at hg12 rfl
  have x7 : w2.cell? ⟨w.heap.size, 7, none⟩ = some (.bool s.mot) := cell_at hg12 rfl
  have x8 : w2.cell? ⟨w.heap.size, 8, none⟩ = some (.bool s.sgn) := cell_at hg12 rfl
  have x17 : w2.cell? ⟨w.heap.size, 17, none⟩ = some (.string s.unit) := cell_at hg12 rfl
  have x18 : w2.cell? ⟨w.heap.size, 18, none⟩ = some (.slice (some ⟨g, 0, none⟩) s.toN cap) := cell_at hg12 rfl
  have xp0 : ∀ j v, (#[.int .i64 s.line, .int .i64 s.col] : Array Value)[j]? = some v → w2.cell? ⟨w.heap.size, 0 + j, none⟩ = some v := pair_at (cell_at (i := 0) hg12 rfl) (cell_at (i := 1) hg12 rfl)
  have xp9 : ∀ j v, (#[.int .i64 s.sn, .int .i64 s.sd] : Array Value)[j]? = some v → w2.cell? ⟨w.heap.size, 9 + j, none⟩ = some v := pair_at (cell_at (i := 9) hg12 rfl) (cell_at (i := 10) hg12 rfl)
  have xp11 : ∀ j v, (#[.int .i64 s.fn, .int .i64 s.fd] : Array Value)[j]? = some v → w2.cell? ⟨w.heap.size, 11 + j, none⟩ = some v := pair_at (cell_at (i := 11) hg12 rfl) (cell_at (i := 12) hg12 rfl)
  have xp13 : ∀ j v, (#[.int .i64 s.mn, .int .i64 s.md] : Array Value)[j]? = some v → w2.cell? ⟨w.heap.size, 13 + j, none⟩ = some v := pair_at (cell_at (i := 13) hg12 rfl) (cell_at (i := 14) hg12 rfl)
  have xp15 : ∀ j v, (#[.int .i64 s.xn, .int .i64 s.xd] : Array Value)[j]? = some v → w2.cell? ⟨w.heap.size, 15 + j, none⟩ = some v := pair_at (cell_at (i := 15) hg12 rfl) (cell_at (i := 16) hg12 rfl)
  have y2 : w2.cell? ⟨w1.heap.size, 2, none⟩ = some (.string s.name) := cell_at hg2 rfl
  have y3 : w2.cell? ⟨w1.heap.size, 3, none⟩ = some (.int .i64 s.role) := cell_at hg2 rfl
  have y4 : w2.cell? ⟨w1.heap.size, 4, none⟩ = some (.int .u64 s.branch) := cell_at hg2 rfl
  have y5 : w2.cell? ⟨w1.heap.size, 5, none⟩ = some (.int .i64 s.start) := cell_at hg2 rfl
  have y6 : w2.cell? ⟨w1.heap.size, 6, none⟩ = some (.int .i64 s.size) := cell_at hg2 rfl
  have y7 : w2.cell? ⟨w1.heap.size, 7, none⟩ = some (.bool s.mot) := cell_at hg2 rfl
  have y8 : w2.cell? ⟨w1.heap.size, 8, none⟩ = some (.bool s.sgn) := cell_at hg2 rfl
  have y17 : w2.cell? ⟨w1.heap.size, 17, none⟩ = some (.string s.unit) := cell_at hg2 rfl
  have y18 : w2.cell? ⟨w1.heap.size, 18, none⟩ = some (.slice s.toA s.toN s.toC) := cell_at hg2 rfl
  have yp0 : ∀ j v, (#[.int .i64 s.line, .int .i64 s.col] : Array Value)[j]? = some v → w2.cell? ⟨w1.heap.size, 0 + j, none⟩ = some v := pair_at (cell_at (i := 0) hg2 rfl) (cell_at (i := 1) hg2 rfl)
  have yp9 : ∀ j v, (#[.int .i64 s.sn, .int .i64 s.sd] : Array Value)[j]? = some v → w2.cell? ⟨w1.heap.size, 9 + j, none⟩ = some v := pair_at (cell_at (i := 9) hg2 rfl) (cell_at (i := 10) hg2 rfl)
  have yp11 : ∀ j v, (#[.int .i64 s.fn, .int .i64 s.fd] : Array Value)[j]? = some v → w2.cell? ⟨w1.heap.size, 11 + j, none⟩ = some v := pair_at (cell_at (i := 11) hg2 rfl) (cell_at (i := 12) hg2 rfl)
  have yp13 : ∀ j v, (#[.int .i64 s.mn, .int .i64 s.md] : Array Value)[j]? = some v → w2.cell? ⟨w1.heap.size, 13 + j, none⟩ = some v := pair_at (cell_at (i := 13) hg2 rfl) (cell_at (i := 14) hg2 rfl)
  have yp15 : ∀ j v, (#[.int .i64 s.xn, .int .i64 s.xd] : Array Value)[j]? = some v → w2.cell? ⟨w1.heap.size, 15 + j, none⟩ = some v := pair_at (cell_at (i := 15) hg2 rfl) (cell_at (i := 16) hg2 rfl)
  repeat (first | refine c_seq ?_ | refine c_region _ ?_ | refine wpList_nil ?_ | refine c_then ?_ | ((first | apply st hF | apply stg hF); (first | exact d_move | exact d_assign | exact d_pickT | exact d_cmpT | exact d_eqbT (und _ _ rfl) | exact d_eqST | exact d_fieldAddr (fld _ _ _ _ rfl) (isz _ _ rfl) | exact d_loadAgg (agg _ rfl) (isz _ _ rfl) rfl xp0 | exact d_loadAgg (agg _ rfl) (isz _ _ rfl) rfl xp9 | exact d_loadAgg (agg _ rfl) (isz _ _ rfl) rfl xp11 | exact d_loadAgg (agg _ rfl) (isz _ _ rfl) rfl xp13 | exact d_loadAgg (agg _ rfl) (isz _ _ rfl) rfl xp15 | exact d_loadAgg (agg _ rfl) (isz _ _ rfl) rfl yp0 | exact d_loadAgg (agg _ rfl) (isz _ _ rfl) rfl yp9 | exact d_loadAgg (agg _ rfl) (isz _ _ rfl) rfl yp11 | exact d_loadAgg (agg _ rfl) (isz _ _ rfl) rfl yp13 | exact d_loadAgg (agg _ rfl) (isz _ _ rfl) rfl yp15 | exact d_eqPs pairPlace | exact d_eqPs pairRat | exact d_load (und _ _ rfl) x2 | exact d_load (und _ _ rfl) x3 | exact d_load (und _ _ rfl) x4 | exact d_load (und _ _ rfl) x5 | exact d_load (und _ _ rfl) x6 | exact d_load (und _ _ rfl) x7 | exact d_load (und _ _ rfl) x8 | exact d_load (und _ _ rfl) x17 | exact d_load (und _ _ rfl) x18 | exact d_load (und _ _ rfl) y2 | exact d_load (und _ _ rfl) y3 | exact d_load (und _ _ rfl) y4 | exact d_load (und _ _ rfl) y5 | exact d_load (und _ _ rfl) y6 | exact d_load (und _ _ rfl) y7 | exact d_load (und _ _ rfl) y8 | exact d_load (und _ _ rfl) y17 | exact d_load (und _ _ rfl) y18); clear hF; clear a; intro a hF))
  refine stcg hF (kept_texts w2 ss _ base s.toA _ s.toC hs.len (hs.rd.below hb2) hl2 (by have := hs.bytes; have := hs.cap; omega)) cal70 ⟨rfl, rfl, trivial⟩ (k := fun a v w3 hR hF => ?_)
  obtain ⟨rfl, hb3⟩ := hR
  repeat (first | refine wpList_nil ?_ | refine c_then ?_ | refine wp_ret ?_ | ((apply st hF); (first | exact d_assign | exact d_pickT); clear hF; clear a; intro a hF))
  exact ret1 hF rfl rfl ⟨rfl, hb2.trans (hb3.mono hb2.size)⟩
end Go.Proofs.YtjomihhpglojpaaGreatDoor
end
section
/- An append of one struct to a row of structs of the call's own; what such a row holds. Plain lemmas over any program. -/
namespace Go.Proofs.YtjomihhpglojpaaGreatDoor
open Go.RowKit

section
variable {P : Program} {ops : Array Oper} {Q : Exit → Act → World → Prop} {a : Act} {w w' : World} {rest : List Oper} {N : Nat} {l : List (Nat × Value)}

theorem d_build1S {x : Operand} {us : Array Value} {z : Value} {sz : Nat} {t e ty : TypeId} {by_ : Nat} (hU : P.underlying t = some (.slice e)) (hi : (P.info? e).map (fun i => (i.zero, i.size, i.bytes)) = some (some z, sz, by_)) (h0 : 0 < sz) (h1 : sz ≤ 16777216) (hus : us.size = sz)
    (hx : Ev l x (.agg us) := by exact rfl) : Does P l w (.buildSlice t 1 [(0, x)].toArray) ty (.slice (some ⟨w.heap.size, 0, none⟩) 1 1) (w.alloc (.cells us e)) := by
  intro ρ hρ d pos af g
  obtain ⟨i, g1, g2, g3, g4⟩ := info_parts hi
  subst g3
  have hf := Great.fill_whole (s := i.size) h0 [.agg us] ((Array.range (1 * i.size)).map (z.cells[· % z.cells.size]!)) (by intro v hv; simp at hv; subst hv; exact hus) (by simp)
  have e1 : ([Value.agg us].flatMap fun v => v.cells.toList).toArray = us := by simp [Value.cells]
  rw [e1] at hf
  have hr := run_buildSlice (P := P) w t e 1 #[(0, .agg us)] us i z hU g1 g2 (by omega) (by omega) (by simpa using hf)
  simp [execOp, hρ _ _ hx, hr]

/-- A struct behind a row of structs: the one-element slice and the append, both at once. -/
theorem st_pushS (h : Fr N l a) {d d' : Nat} {x : Operand} {s : Operand} {us : Array Value} {z : Value} {sz : Nat} {t e ty ty' : TypeId} {pos pos' : String} {af af' : Array Edge} {bytes n base cap : Nat} {ao : Option Addr} {xs : List Value}
    (hU : P.underlying t = some (.slice e)) (hi : (P.info? e).map (fun i => (i.zero, i.size, i.bytes)) = some (some z, sz, bytes)) (hz : z.cells.size = sz) (h0 : 0 < sz) (h1 : sz ≤ 16777216) (hus : us.size = sz) (hu : ∀ v ∈ us, v.oneCell' = true)
    (hown : w.ownsRow base e sz (.slice ao n cap) n xs) (hbd : (n + 1) * bytes ≤ 140737488355328) (hm : n + 1 ≤ maxLen) (hbase : base ≤ w.heap.size)
    (hx : Ev l x (.agg us) := by exact rfl) (hs : Ev ((d, .slice (some ⟨w.heap.size, 0, none⟩) 1 1) :: l) s (.slice ao n cap) := by exact rfl) (hd : Nat.blt d N = true := by exact rfl) (hd' : Nat.blt d' N = true := by exact rfl)
    (k : ∀ a' ao' cap' w', w'.ownsRow base e sz (.slice ao' (n + 1) cap') (n + 1) (xs ++ us.toList) → w.grownBy w' (Value.slice ao n cap).ownBlock → ((Value.slice ao' (n + 1) cap').ownBlock = (Value.slice ao n cap).ownBlock ∨ (Value.slice ao' (n + 1) cap').ownBlock = some (w.heap.size + 1)) → Fr N ((d', .slice ao' (n + 1) cap') :: (d, .slice (some ⟨w.heap.size, 0, none⟩) 1 1) :: l) a' → wpList P ops Q rest a' w') :
    wpList P ops Q (⟨some d, .buildSlice t 1 [(0, x)].toArray, ty, pos, af, none⟩ :: ⟨some d', .call { callee := .builtin .append, args := [s, .tmp d].toArray, argTypes := [t, t].toArray }, ty', pos', af', none⟩ :: rest) a w := by
  refine st h (d_build1S hU hi h0 h1 hus hx) hd fun a1 h1' => ?_
  obtain ⟨i, g1, g2, g3, g4⟩ := info_parts hi
  have hev : a1.eval (.tmp d) = .slice (some ⟨w.heap.size, 0, none⟩) 1 1 := h1'.eval _ _ (by simp [Ev, look_cons])
  refine wpList_append_own_at _ rfl s (.tmp d) t rfl base e i z sz bytes hU g1 g2 g3 g4 hz h0 (.slice ao n cap) n xs (h1'.eval _ _ hs) (hown.alloc _)
    ⟨w.heap.size, 0, none⟩ 1 1 us.toList hev (by simp [hus]) ?_ ?_ hm hbd (by simp; omega) ?_
  · intro j v hj
    rw [addr_add, Nat.zero_add]
    exact cell_at (heap_alloc_new w _) (by simpa using hj)
  · intro v hv; exact hu v (by simpa using hv)
  · intro v' w' hown' hgr hnil hat
    obtain ⟨ao', cap', rfl, _, _⟩ := own_form hown'
    refine k _ ao' cap' w' hown' ?_ (by simpa using hat) (h1'.put hd' _)
    exact ⟨hgr.os, hgr.tape, hgr.output, by have := hgr.size; simp at this; omega, fun k hk hne => by rw [hgr.block k (by simp; omega) hne]; exact Below.heap_alloc _ _ _ hk⟩

/-- A slice of structs that reads as xs: each element's cells lie there. -/
def RdS {α : Type} (w : World) (a : Option Addr) (sz : Nat) (enc : α → List Value) (xs : List α) : Prop :=
  ∀ i (h : i < xs.length), ∃ b o, a = some ⟨b, o, none⟩ ∧ ∀ q v, (enc xs[i])[q]? = some v → w.cell? ⟨b, o + i * sz + q, none⟩ = some v
theorem RdS.below {α : Type} {w w' : World} {a : Option Addr} {sz : Nat} {enc : α → List Value} {xs : List α} (h : RdS w a sz enc xs) (hb : Below w.heap.size w w') : RdS w' a sz enc xs := by
  intro i hi
  obtain ⟨b, o, ha, hc⟩ := h i hi
  exact ⟨b, o, ha, fun q v hq => (hb.cell (p := ⟨b, o + i * sz + q, none⟩) (World.block_lt_of_cell? w _ (hc q v hq))).trans (hc q v hq)⟩

theorem flat_get {α : Type} {enc : α → List Value} {sz : Nat} (he : ∀ x, (enc x).length = sz) : ∀ (xs : List α) (i : Nat) (h : i < xs.length) (q : Nat), q < sz → (xs.flatMap enc)[i * sz + q]? = (enc xs[i])[q]?
  | x :: xs, 0, _, q, hq => by
    rw [List.flatMap_cons, Nat.zero_mul, Nat.zero_add, List.getElem?_append_left (by rw [he]; exact hq)]
    rfl
  | x :: xs, i + 1, h, q, hq => by
    have h' : i < xs.length := by simpa using h
    rw [List.flatMap_cons, List.getElem?_append_right (by rw [he, Nat.add_mul]; omega)]
    rw [he, show (i + 1) * sz + q - sz = i * sz + q by rw [Nat.add_mul]; omega]
    simpa using flat_get he xs i h' q hq
/-- What a row of structs of the call's own holds. -/
theorem own_rdS {α : Type} {w : World} {base : Nat} {e : TypeId} {g cap n sz : Nat} {enc : α → List Value} {xs : List α} (he : ∀ x, (enc x).length = sz) (h : w.ownsRow base e sz (.slice (some ⟨g, 0, none⟩) n cap) n (xs.flatMap enc)) (hn : xs.length = n) : RdS w (some ⟨g, 0, none⟩) sz enc xs := by
  subst hn
  intro i hi
  refine ⟨g, 0, rfl, fun q v hq => ?_⟩
  have hq' : q < sz := by
    have := (List.getElem?_eq_some_iff.1 hq).1
    rw [he] at this; exact this
  rcases h.2 with ⟨h0, _⟩ | ⟨g', cap', cur, h0, hb, hg, hle, hm, hsz, htk⟩
  · cases h0
  · cases h0
    rw [Nat.zero_add]
    refine cell_at hg ?_
    have h1 := flat_get he xs i hi q hq'
    rw [hq, ← htk] at h1
    have hlt : i * sz + q < xs.length * sz := by
      have : (i + 1) * sz ≤ xs.length * sz := Nat.mul_le_mul_right _ (by omega)
      rw [Nat.add_mul, Nat.one_mul] at this
      omega
    rw [List.getElem?_take_of_lt hlt] at h1
    simpa using h1

theorem own_cap' {w : World} {base : Nat} {e : TypeId} {s : Nat} {ao : Option Addr} {cap n : Nat} {xs : List Value} (h : w.ownsRow base e s (.slice ao n cap) n xs) : n ≤ cap ∧ cap ≤ maxLen := by
  obtain ⟨_, _, h1, h2, h3⟩ := own_form h
  cases h1; exact ⟨h2, h3⟩
/-- The address of an element of many cells. -/
theorem d_indexAddrS {x i : Operand} {b o n c : Nat} {k : IntKind} {j : Nat} {q : Int} {t e ty : TypeId} {s : Nat} (hU : P.underlying t = some (.slice e)) (hs : (P.info? e).map (·.size) = some s)
    (hx : Ev l x (.slice (some ⟨b, o, none⟩) n c) := by exact rfl) (hi : Ev l i (.int k q) := by exact rfl) (hq : q = (j : Int) := by exact rfl) (hj : j < n := by omega) :
    Does P l w (.indexAddr t x i) ty (.pointer (some ⟨b, o + j * s, none⟩)) w := d_indexAddr hU hs hx hi hq hj
end
end Go.Proofs.YtjomihhpglojpaaGreatDoor
end
