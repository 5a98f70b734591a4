/- Laid together by a program of mine: Pl Bits RefB. -/
import Derived.Test.YtjomihhpglojpaaGreatDoorSumLawDatabaseS4
import Derived.Test.YtjomihhpglojpaaGreatDoorSumLawDatabaseS11
import Derived.Ground.NamesProg
import Derived.Shelf.Lay
import Derived.Shelf.Slices.Reverse
import Derived.Sort.OwnSortedInts
set_option linter.unusedSimpArgs false
set_option linter.unusedVariables false
section
/- place: what the program computes. -/
namespace Go.Proofs.YtjomihhpglojpaaGreatDoor
open Go.RowKit
set_option linter.unusedSimpArgs false
set_option linter.unusedVariables false
attribute [local irreducible] wpList wpQuiet wpStill Code.wp Exit.then Exit.inBlock bodyPost Calls Does Does0

/-- A signal's cells, as far as its place goes. -/
structure SigAt (cs : Array Value) (start size : Int) (mot : Bool) : Prop where
  len : cs.size = 19
  st : cs[5]? = some (.int .i64 start)
  sz : cs[6]? = some (.int .i64 size)
  mo : cs[7]? = some (.bool mot)

end Go.Proofs.YtjomihhpglojpaaGreatDoor
namespace Go.Proofs
open Go.Shelf
def Tryz.laysRev_ren : Go.Shelf.Ren := ⟨fun | 112 => 100 | n => n, fun | 28 => 112 | 3 => 3 | 4 => 4 | 0 => 0 | n => n, fun | n => n⟩
theorem Tryz.laysRev : Go.Proofs.Lays.n112 Tryz.prog Tryz.laysRev_ren := {
  mixed := by kernel_rfl
  f112 := Tryz.func100.trans (congrArg some (by kernel_rfl))
  t0 := Tryz.underlying0
  a0 := Tryz.isAgg0
  z0 := Tryz.sizeOf0
  v0 := Tryz.zeroValue0
  t3 := Tryz.underlying3
  a3 := Tryz.isAgg3
  z3 := Tryz.sizeOf3
  v3 := Tryz.zeroValue3
  t4 := Tryz.underlying4
  a4 := Tryz.isAgg4
  z4 := Tryz.sizeOf4
  v4 := Tryz.zeroValue4
  t28 := Tryz.underlying112
  a28 := Tryz.isAgg112
  z28 := Tryz.sizeOf112
  v28 := Tryz.zeroValue112 }
end Go.Proofs
namespace Go.Proofs.YtjomihhpglojpaaGreatDoor
open Go.RowKit
set_option linter.unusedSimpArgs false
set_option linter.unusedVariables false
attribute [local irreducible] wpList wpQuiet wpStill Code.wp Exit.then Exit.inBlock bodyPost Calls Does Does0
open Go.Sort Go.Shelf
theorem reverse_ok (w : World) (xs : List Int) (base g n c : Nat) (hown : w.ownsRow base 3 1 (.slice (some ⟨g, 0, none⟩) n c) n (xs.map (.int .i64))) (hb : n ≤ 9223372036854775807) :
    Ret Tryz.prog 100 #[.slice (some ⟨g, 0, none⟩) n c] w (fun v w' => w'.ownsRow base 3 1 (.slice (some ⟨g, 0, none⟩) n c) n (xs.reverse.map (.int .i64)) ∧ w.grownBy w' (some g)) := by
  have hn : xs.length = n := by simpa using hown.1
  subst hn
  rcases hown.2 with ⟨h0, _⟩ | ⟨g', cap', cur, h0, hbg, hg, hle, hm, hsz, htk⟩
  · cases h0
  obtain ⟨rfl, rfl⟩ : g' = g ∧ cap' = c := by cases h0; exact ⟨rfl, rfl⟩
  rw [Nat.mul_one] at htk
  have h := Any.slices_Reverse_int Tryz.laysRev g' 0 cap' xs w (holds_of_blockI hg htk) (by omega)
  refine Calls.mono h ?_
  rintro e w' ⟨rfl, n, rfl⟩
  refine ⟨_, rfl, ?_, ?_⟩
  · have := ownsRow_sortedI (w := w) (n := n) (os := #[]) (ts := xs.reverse) (ss := xs) (by simp) hbg hg hle hm hsz
    rwa [grow_empty] at this
  · have := grownBy_sortedI (w := w) (g := g') (n := n) (os := #[]) xs.reverse.toArray
    rwa [grow_empty] at this
end Go.Proofs.YtjomihhpglojpaaGreatDoor
end
section
/- place.Bits and place.Within: what they compute. -/
namespace Go.Proofs.YtjomihhpglojpaaGreatDoor
open Go.RowKit
set_option linter.unusedSimpArgs false
set_option linter.unusedVariables false
attribute [local irreducible] wpList wpQuiet wpStill Code.wp Exit.then Exit.inBlock bodyPost Calls Does Does0

set_option maxHeartbeats 2000000 in
theorem next_ok (w : World) (nb sb : Nat) (cs : Array Value) (start size b : Int) (mot : Bool) (e : TypeId) (hs : SigAt cs start size mot) (hsb : w.heap[sb]? = some (.cells cs 62 (0, 0))) (hnb : w.heap[nb]? = some (.cells #[.int .i64 b] 3 (0, 0)))
    (h0 : 0 ≤ b) (h1 : b ≤ 100) :
    Ret Tryz.prog 115 #[.pointer (some ⟨nb, 0, none⟩), .pointer (some ⟨sb, 0, none⟩)] w (fun v w' => v = .int .i64 b ∧ w'.heap[nb]? = some (.cells #[.int .i64 (Pl.nextB mot b)] 3 (0, 0)) ∧ w.grownBy w' (some nb)) := by
  have c0 : w.cell? ⟨nb, 0, none⟩ = some (.int .i64 b) := cell_at hnb rfl
  have c7 : w.cell? ⟨sb, 7, none⟩ = some (.bool mot) := cell_at hsb hs.mo
  refine enter2 Tryz.func115 rfl 18 rfl 20 rfl (fun a hF => ?_)
  cases mot with
  | false =>
    have hx : Pl.nextB false b = b + 1 := rfl
    rw [hx]
    repeat (first | refine c_seq ?_ | refine c_block ?_ | refine c_region _ ?_ | refine wpList_nil ?_ | refine c_then ?_ | ((apply st hF); (first | exact d_assign | exact d_not | exact d_add | exact d_fieldAddr (fld _ _ _ _ rfl) (isz _ _ rfl) | exact d_load (und _ _ rfl) c0 | exact d_load (und _ _ rfl) c7); clear hF; clear a; intro a hF) | (apply c_cond_t hF; exact rfl; first | exact rfl | assumption))
    refine st_store hF (isz _ _ rfl) hnb (i := 0) (by simp) rfl rfl rfl fun a w' hg' hgr hsz hF => ?_
    repeat (first | refine c_seq ?_ | refine c_region _ ?_ | refine wpList_nil ?_ | refine c_then ?_ | refine c_in ?_ | refine wp_ret ?_ | ((apply st hF); (first | exact d_move | exact d_assign); clear hF; clear a; intro a hF))
    exact ret1 hF rfl rfl ⟨rfl, hg', hgr⟩
  | true =>
    by_cases h8 : b % 8 = 0
    · have hx : Pl.nextB true b = b + 15 := by simp [Pl.nextB, h8]
      rw [hx]
      repeat (first | refine c_seq ?_ | refine c_block ?_ | refine c_region _ ?_ | refine wpList_nil ?_ | refine c_then ?_ | ((apply st hF); (first | exact d_move | exact d_assign | exact d_not | exact d_add | exact d_rem | exact d_cmpT | exact d_fieldAddr (fld _ _ _ _ rfl) (isz _ _ rfl) | exact d_load (und _ _ rfl) c0 | exact d_load (und _ _ rfl) c7); clear hF; clear a; intro a hF) | (apply c_cond_t hF; exact rfl; first | exact rfl | assumption) | (apply c_cond_f hF; exact rfl; first | exact rfl | assumption))
      refine st_store hF (isz _ _ rfl) hnb (i := 0) (by simp) rfl rfl rfl fun a w' hg' hgr hsz hF => ?_
      repeat (first | refine c_seq ?_ | refine c_region _ ?_ | refine wpList_nil ?_ | refine c_then ?_ | refine c_in ?_ | refine wp_ret ?_ | ((apply st hF); (first | exact d_move | exact d_assign); clear hF; clear a; intro a hF))
      exact ret1 hF rfl rfl ⟨rfl, hg', hgr⟩
    · have hx : Pl.nextB true b = b - 1 := by simp [Pl.nextB, h8]
      rw [hx]
      repeat (first | refine c_seq ?_ | refine c_block ?_ | refine c_region _ ?_ | refine wpList_nil ?_ | refine c_then ?_ | ((apply st hF); (first | exact d_move | exact d_assign | exact d_not | exact d_sub | exact d_rem | exact d_cmpF | exact d_fieldAddr (fld _ _ _ _ rfl) (isz _ _ rfl) | exact d_load (und _ _ rfl) c0 | exact d_load (und _ _ rfl) c7); clear hF; clear a; intro a hF) | (apply c_cond_f hF; exact rfl; first | exact rfl | assumption))
      refine st_store hF (isz _ _ rfl) hnb (i := 0) (by simp) rfl rfl rfl fun a w' hg' hgr hsz hF => ?_
      repeat (first | refine c_seq ?_ | refine c_region _ ?_ | refine wpList_nil ?_ | refine c_then ?_ | refine c_in ?_ | refine wp_ret ?_ | ((apply st hF); (first | exact d_move | exact d_assign); clear hF; clear a; intro a hF))
      exact ret1 hF rfl rfl ⟨rfl, hg', hgr⟩

set_option maxHeartbeats 2000000 in
theorem counter_ok (w : World) (cs : Array Value) (start size : Int) (mot : Bool) (hs : SigAt cs start size mot) :
    Ret Tryz.prog 99 #[.agg cs] w (fun v w' => ∃ nb sb, w.heap.size ≤ nb ∧ w.heap.size ≤ sb ∧ nb ≠ sb ∧ v = .func (.func 115) #[] [.pointer (some ⟨nb, 0, none⟩), .pointer (some ⟨sb, 0, none⟩)].toArray ∧
      w'.heap[sb]? = some (.cells cs 62 (0, 0)) ∧ w'.heap[nb]? = some (.cells #[.int .i64 start] 3 (0, 0)) ∧ w.grownBy w' none) := by
  refine enter1 Tryz.func99 rfl 6 rfl 7 rfl (fun a hF => ?_)
  repeat (first | refine c_seq ?_ | refine c_region _ ?_)
  refine st_box hF (cs := cs) rfl (k := fun a w1 hsb hgr hsz hF => ?_)
  have c5 : w1.cell? ⟨w.heap.size, 5, none⟩ = some (.int .i64 start) := cell_at hsb hs.st
  repeat (first | refine c_seq ?_ | refine c_region _ ?_ | refine wpList_nil ?_ | refine c_then ?_ | ((apply st hF); (first | exact d_assign | exact d_fieldAddr (fld _ _ _ _ rfl) (isz _ _ rfl) | exact d_load (und _ _ rfl) c5); clear hF; clear a; intro a hF))
  refine st_alloc hF inf3 (k := fun a w2 hnb hgr2 hsz2 hF => ?_)
  have hnb : w2.heap[w1.heap.size]? = some (.cells #[.int .i64 0] 3 (0, 0)) := hnb
  have hsb2 := blk_kept hsb hgr2 (by simp)
  skip
  refine st_store hF (isz _ _ rfl) hnb (i := 0) (by simp) rfl rfl rfl fun a w3 hnb3 hgr3 hsz3 hF => ?_
  have hsb3 := blk_kept hsb2 hgr3 (by simp; omega)
  repeat (first | refine c_seq ?_ | refine c_region _ ?_ | refine wpList_nil ?_ | refine c_then ?_ | refine wp_ret ?_ | ((apply st hF); (first | exact d_assign | exact d_makeFunc (vs := [.pointer (some ⟨w1.heap.size, 0, none⟩), .pointer (some ⟨w.heap.size, 0, none⟩)]) ⟨rfl, rfl, trivial⟩); clear hF; clear a; intro a hF))
  refine ret1 hF rfl rfl ⟨w1.heap.size, w.heap.size, by omega, by omega, by omega, rfl, hsb3, hnb3, ?_⟩
  refine ⟨?_, ?_, ?_, ?_, ?_⟩
  · exact hgr3.os.trans (hgr2.os.trans hgr.os)
  · exact hgr3.tape.trans (hgr2.tape.trans hgr.tape)
  · exact hgr3.output.trans (hgr2.output.trans hgr.output)
  · omega
  · intro k hk hne
    rw [hgr3.block k (by omega) (by simp; omega), hgr2.block k (by omega) (by simp), hgr.block k hk (by simp)]

/-- The two results of place.Bits. -/
def BitsRes (base : Nat) (w : World) (v : Value) : Except Int (List Int) → Prop
  | .ok l => ∃ g cap, v = .tuple #[.slice (some ⟨g, 0, none⟩) l.length cap, .nilIface] ∧ base ≤ g ∧ w.ownsRow base 3 1 (.slice (some ⟨g, 0, none⟩) l.length cap) l.length (l.map (.int .i64))
  | .error e => v = .tuple #[.slice none 0 0, .iface 54 (.int .i64 e)]

set_option maxHeartbeats 4000000 in
theorem bits_of (w : World) (cs : Array Value) (start size : Int) (mot : Bool) (hs : SigAt cs start size mot) :
    Ret Tryz.prog 73 #[.agg cs] w (fun v w' => BitsRes w.heap.size w' v (Pl.bitsOfSig start size mot) ∧ Below w.heap.size w w') := by
  refine enter1 Tryz.func73 rfl 48 rfl 49 rfl (fun a hF => ?_)
  repeat (first | refine c_seq ?_ | refine c_region _ ?_)
  refine st_box hF (cs := cs) rfl (k := fun a w1 hsb hgr hsz1 hF => ?_)
  have c5 : w1.cell? ⟨w.heap.size, 5, none⟩ = some (.int .i64 start) := cell_at hsb hs.st
  have c6 : w1.cell? ⟨w.heap.size, 6, none⟩ = some (.int .i64 size) := cell_at hsb hs.sz
  have hb1 : Below w.heap.size w w1 := (Below.refl _ w).grown hgr (Nat.le_refl _) (fun k hk => by cases hk)
  by_cases h1 : size < 1 ∨ 64 < size
  · have hE : Pl.bitsOfSig start size mot = .error 15 := by unfold Pl.bitsOfSig; rw [if_pos h1]
    by_cases h2 : size < 1
    all_goals
      repeat (first | refine c_seq ?_ | refine c_region _ ?_ | refine wpList_nil ?_ | refine c_then ?_ | refine c_then_ret ?_ | refine wp_ret ?_ | ((first | apply st hF | apply stg hF); (first | exact d_move | exact d_assign | exact d_pickT | exact d_pickF | exact d_cmpT | exact d_cmpF | exact d_fieldAddr (fld _ _ _ _ rfl) (isz _ _ rfl) | exact d_makeI (con _ rfl) | exact d_load (und _ _ rfl) c6); clear hF; clear a; intro a hF) | ((apply stm hF); clear hF; clear a; intro a hF) | (apply c_cond_t hF; exact rfl; first | exact rfl | assumption))
      refine ret2 hF rfl rfl rfl ⟨?_, hb1⟩
      rw [hE]
      rfl
  by_cases h3 : start < 0 ∨ 63 < start
  · have hE : Pl.bitsOfSig start size mot = .error 16 := by unfold Pl.bitsOfSig; rw [if_neg h1, if_pos h3]
    by_cases h2 : start < 0
    all_goals
      repeat (first | refine c_seq ?_ | refine c_region _ ?_ | refine wpList_nil ?_ | refine c_then ?_ | refine c_then_ret ?_ | refine wp_skip ?_ | refine wp_ret ?_ | ((first | apply st hF | apply stg hF); (first | exact d_move | exact d_assign | exact d_pickT | exact d_pickF | exact d_cmpT | exact d_cmpF | exact d_fieldAddr (fld _ _ _ _ rfl) (isz _ _ rfl) | exact d_makeI (con _ rfl) | exact d_load (und _ _ rfl) c5 | exact d_load (und _ _ rfl) c6); clear hF; clear a; intro a hF) | ((apply stm hF); clear hF; clear a; intro a hF) | (apply c_cond_t hF; exact rfl; first | exact rfl | assumption) | (apply c_cond_f hF; exact rfl; first | exact rfl | assumption))
      refine ret2 hF rfl rfl rfl ⟨?_, hb1⟩
      rw [hE]
      rfl
  have hE : Pl.bitsOfSig start size mot = if (Pl.seqB mot start size.toNat).all (· ≤ 63) then .ok (if mot then (Pl.seqB mot start size.toNat).reverse else Pl.seqB mot start size.toNat) else .error 16 := by unfold Pl.bitsOfSig; rw [if_neg h1, if_neg h3]
  obtain ⟨S, hS⟩ : ∃ S : Nat, size = (S : Int) := ⟨size.toNat, by omega⟩
  subst hS
  rw [Int.toNat_natCast] at hE
  repeat (first | refine c_seq ?_ | refine c_region _ ?_ | refine wpList_nil ?_ | refine c_then ?_ | refine wp_skip ?_ | ((first | apply st hF | apply stg hF); (first | exact d_move | exact d_assign | exact d_pickF | exact d_cmpF | exact d_fieldAddr (fld _ _ _ _ rfl) (isz _ _ rfl) | exact d_load (und _ _ rfl) c5 | exact d_load (und _ _ rfl) c6); clear hF; clear a; intro a hF) | (apply c_cond_f hF; exact rfl; first | exact rfl | assumption))
  refine st_make0 hF (und _ _ rfl) inf3 (c := S) (base := w.heap.size) (by omega) (by unfold maxLen; omega) hb1.size rfl (k := fun a w2 hown2 hgr2 hF => ?_)
  have hsb2 := blk_kept hsb hgr2 (by simp)
  have hb2 : Below w.heap.size w w2 := hb1.grown hgr2 hb1.size (fun k hk => by cases hk)
  repeat (first | refine c_seq ?_ | refine c_region _ ?_ | refine wpList_nil ?_ | refine c_then ?_ | ((apply st hF); (first | exact d_assign | exact d_loadAgg (agg _ rfl) (isz _ _ rfl) hs.len (cells_at hsb2)); clear hF; clear a; intro a hF))
  refine stc hF (counter_ok w2 cs start S mot hs) cal99 ⟨rfl, trivial⟩ (k := fun a v w3 hR hF => ?_)
  obtain ⟨nb, sb, hnbsz, hsbsz, hne, rfl, hcb3, hnb3, hgr3⟩ := hR
  have hsb3 := blk_kept hsb2 hgr3 (by simp)
  have hown3 := own_grown hown2 hgr3
  have hb3 : Below w.heap.size w w3 := hb2.grown hgr3 hb2.size (fun k hk => by cases hk)
  have hz2 := hb2.size
  have hz1 := hgr2.size
  have hlt2 : w1.heap.size < w2.heap.size := (hown2.lt _ rfl).2
  clear hown2 hb2 hb1 hsb hsb2 c5 c6
  repeat (first | refine c_block ?_ | refine wpList_nil ?_ | refine c_then ?_ | ((apply st hF); (exact d_assign); clear hF; clear a; intro a hF))
  refine c_loop (fun n a wr => ∃ k ao' cap', k ≤ S ∧ n = S - k ∧ Fr 49 [(1, .pointer (some ⟨w.heap.size, 0, none⟩)), (4, .slice ao' k cap'), (5, .func (.func 115) #[] [.pointer (some ⟨nb, 0, none⟩), .pointer (some ⟨sb, 0, none⟩)].toArray)] a ∧
    (Pl.seqB mot start k).all (· ≤ 63) = true ∧ 0 ≤ Pl.nth mot start k ∧ Pl.nth mot start k ≤ 78 ∧
    wr.ownsRow w.heap.size 3 1 (.slice ao' k cap') k ((Pl.seqB mot start k).map (.int .i64)) ∧ wr.heap[w.heap.size]? = some (.cells cs 62 (0, 0)) ∧ wr.heap[sb]? = some (.cells cs 62 (0, 0)) ∧ wr.heap[nb]? = some (.cells #[.int .i64 (Pl.nth mot start k)] 3 (0, 0)) ∧
    (∀ q, (Value.slice ao' k cap').ownBlock = some q → q ≠ nb) ∧ nb < wr.heap.size ∧ Below w.heap.size w wr) S
    ⟨0, _, _, by omega, rfl, hF.keep' ⟨rfl, rfl, rfl, trivial⟩, rfl, by simp only [Pl.nth]; omega, by simp only [Pl.nth]; omega, hown3, hsb3, hcb3, hnb3, ?_, lt_at hnb3, hb3⟩ ?_
  · intro q hq
    simp only [Value.ownBlock, Option.some.injEq] at hq
    omega
  clear hF a hown3 hsb3 hcb3 hnb3 hb3 hgr3
  rintro n a wr ⟨k, ao', cap', hk, rfl, hF, hall, hn0, hn1, hown, hsb0, hsb3, hnb3, hnq, hnlt, hbel⟩
  have hz := hbel.size
  have c6 : wr.cell? ⟨w.heap.size, 6, none⟩ = some (.int .i64 (S : Int)) := cell_at hsb0 hs.sz
  have c7 : wr.cell? ⟨w.heap.size, 7, none⟩ = some (.bool mot) := cell_at hsb0 hs.mo
  by_cases hlt : k < S
  · repeat (first | refine c_seq ?_ | refine c_block ?_ | refine c_region _ ?_ | refine wpList_nil ?_ | refine c_then ?_ | refine wp_skip ?_ | ((apply st hF); (first | exact d_move | exact d_cmpT | exact d_len (und _ _ rfl) | exact d_fieldAddr (fld _ _ _ _ rfl) (isz _ _ rfl) | exact d_load (und _ _ rfl) c6); clear hF; clear a; intro a hF) | (apply c_cond_t hF; exact rfl; first | exact rfl | assumption))
    refine stcv hF (next_ok wr nb sb cs start S _ mot 3 hs hsb3 hnb3 hn0 (by omega)) cal115 (vs := []) (cs := [.pointer (some ⟨nb, 0, none⟩), .pointer (some ⟨sb, 0, none⟩)]) trivial (k := fun a v w4 hR hF => ?_)
    obtain ⟨rfl, hnb4, hgr4⟩ := hR
    have hown4 := own_kept hown hgr4 (fun e => hnq nb e rfl)
    have hb4 : Below w.heap.size w w4 := hbel.grown hgr4 hz (fun k hk => by cases hk; omega)
    have hsb04 := blk_kept hsb0 hgr4 (by simp; omega)
    have hsb4 := blk_kept hsb3 hgr4 (by simp; omega)
    by_cases hbig : 63 < Pl.nth mot start k
    · repeat (first | refine c_seq ?_ | refine c_region _ ?_ | refine wpList_nil ?_ | refine c_then ?_ | refine c_then_ret ?_ | refine c_in_ret ?_ | refine wp_ret ?_ | ((apply st hF); (first | exact d_move | exact d_assign | exact d_cmpT | exact d_makeI (con _ rfl)); clear hF; clear a; intro a hF) | (apply c_cond_t hF; exact rfl; first | exact rfl | assumption))
      refine ret2 hF rfl rfl rfl ⟨?_, hb4⟩
      rw [hE, Pl.all_take hlt hbig]
      rfl
    · have hbb := Pl.nextB_bounds (mot := mot) hn0 (by omega)
      repeat (first | refine c_seq ?_ | refine c_region _ ?_ | refine wpList_nil ?_ | refine c_then ?_ | refine wp_skip ?_ | ((apply st hF); (first | exact d_move | exact d_assign | exact d_cmpF); clear hF; clear a; intro a hF) | (apply c_cond_f hF; exact rfl; first | exact rfl | assumption))
      refine st_push' hF (und _ _ rfl) inf3 rfl hown4 (by omega) (by unfold maxLen; omega) hb4.size (k := fun a ao2 cap2 w5 hown5 hgr5 hbk hF => ?_)
      have hsn : (Pl.seqB mot start k).map (Value.int .i64) ++ [.int .i64 (Pl.nth mot start k)] = (Pl.seqB mot start (k + 1)).map (.int .i64) := by rw [Pl.seqB_snoc']; simp
      rw [hsn] at hown5
      have hb5 := below_own hb4 hb4.size hown4 hgr5
      have hq4 : some nb ≠ (Value.slice ao' k cap').ownBlock := fun e => hnq nb e.symm rfl
      repeat (first | refine wpList_nil ?_ | refine c_then ?_ | refine c_in ?_ | ((apply st hF); (exact d_assign); clear hF; clear a; intro a hF))
      refine ⟨S - (k + 1), by omega, k + 1, ao2, cap2, by omega, rfl, hF.keep' ⟨rfl, rfl, rfl, trivial⟩, ?_, hbb.1, hbb.2, hown5,
        blk_kept hsb04 hgr5 (own_ne hown4 hsb04 (by decide)), blk_kept hsb4 hgr5 (own_ne hown4 hsb4 (by decide)), blk_kept hnb4 hgr5 hq4, ?_, ?_, hb5⟩
      · rw [Pl.seqB_snoc', Pl.all_snoc, hall, decide_eq_true (by omega)]; rfl
      · intro q hq
        rcases hbk with e | e
        · rw [e] at hq; exact hnq q hq
        · rw [e] at hq
          have := hgr4.size
          simp only [Option.some.injEq] at hq
          omega
      · have := hgr4.size; have := hgr5.size; omega
  · obtain rfl : k = S := by omega
    have hg := hown.1
    rw [List.length_map, Pl.seqB_len] at hg
    obtain ⟨g, rfl, hbg⟩ := own_some hown (by omega)
    rw [hall] at hE
    simp only [if_true] at hE
    cases mot with
    | false =>
      repeat (first | refine c_seq ?_ | refine c_region _ ?_ | refine wpList_nil ?_ | refine c_then ?_ | refine c_then_exit ?_ | refine c_in_hit ?_ | refine wp_skip ?_ | refine wp_exit ?_ | refine wp_ret ?_ | ((apply st hF); (first | exact d_move | exact d_assign | exact d_cmpF | exact d_len (und _ _ rfl) | exact d_fieldAddr (fld _ _ _ _ rfl) (isz _ _ rfl) | exact d_load (und _ _ rfl) c6 | exact d_load (und _ _ rfl) c7); clear hF; clear a; intro a hF) | (apply c_cond_f hF; exact rfl; first | exact rfl | assumption))
      refine ret2 hF rfl rfl rfl ⟨?_, hbel⟩
      rw [hE]
      simp only [Bool.false_eq_true, if_false]
      refine ⟨g, cap', by rw [Pl.seqB_len], hbg, ?_⟩
      rw [Pl.seqB_len]; exact hown
    | true =>
      repeat (first | refine c_seq ?_ | refine c_region _ ?_ | refine wpList_nil ?_ | refine c_then ?_ | refine c_then_exit ?_ | refine c_in_hit ?_ | refine wp_exit ?_ | ((apply st hF); (first | exact d_move | exact d_cmpF | exact d_len (und _ _ rfl) | exact d_fieldAddr (fld _ _ _ _ rfl) (isz _ _ rfl) | exact d_load (und _ _ rfl) c6 | exact d_load (und _ _ rfl) c7); clear hF; clear a; intro a hF) | (apply c_cond_t hF; exact rfl; first | exact rfl | assumption) | (apply c_cond_f hF; exact rfl; first | exact rfl | assumption))
      refine stc hF (reverse_ok wr (Pl.seqB true start k) w.heap.size g k cap' hown (by omega)) cal100 ⟨rfl, trivial⟩ (k := fun a v w5 hR hF => ?_)
      obtain ⟨hown5, hgr5⟩ := hR
      repeat (first | refine c_seq ?_ | refine c_region _ ?_ | refine wpList_nil ?_ | refine c_then ?_ | refine wp_ret ?_ | ((apply st hF); (first | exact d_move | exact d_assign); clear hF; clear a; intro a hF))
      refine ret2 hF rfl rfl rfl ⟨?_, hbel.grown hgr5 hz (fun k hk => by cases hk; omega)⟩
      rw [hE]
      simp only [if_true]
      refine ⟨g, cap', by rw [List.length_reverse, Pl.seqB_len], hbg, ?_⟩
      rw [List.length_reverse, Pl.seqB_len]; exact hown5
end Go.Proofs.YtjomihhpglojpaaGreatDoor
end
section
/- The reference's Bits and Within: what they compute. -/
namespace Go.Proofs.YtjomihhpglojpaaGreatDoor
open Go.RowKit
set_option linter.unusedSimpArgs false
set_option linter.unusedVariables false
attribute [local irreducible] wpList wpQuiet wpStill Code.wp Exit.then Exit.inBlock bodyPost Calls Does Does0

theorem nextR_ok (w : World) (b : Int) (h0 : 0 ≤ b) (h1 : b ≤ 100) : Ret Tryz.prog 84 #[.int .i64 b] w (fun v w' => v = .int .i64 (Pl.nextB true b) ∧ w' = w) := by
  refine enter1 Tryz.func84 rfl 9 rfl 10 rfl (fun a hF => ?_)
  by_cases h8 : b % 8 = 0
  · have hx : Pl.nextB true b = b + 15 := by simp [Pl.nextB, h8]
    rw [hx]
    repeat (first | refine c_seq ?_ | refine c_region _ ?_ | refine wpList_nil ?_ | refine c_then ?_ | refine c_then_ret ?_ | refine wp_ret ?_ | ((apply st hF); (first | exact d_move | exact d_assign | exact d_add | exact d_rem | exact d_cmpT); clear hF; clear a; intro a hF) | (apply c_cond_t hF; exact rfl; first | exact rfl | assumption))
    exact ret1 hF rfl rfl ⟨rfl, rfl⟩
  · have hx : Pl.nextB true b = b - 1 := by simp [Pl.nextB, h8]
    rw [hx]
    repeat (first | refine c_seq ?_ | refine c_region _ ?_ | refine wpList_nil ?_ | refine c_then ?_ | refine wp_skip ?_ | refine wp_ret ?_ | ((apply st hF); (first | exact d_move | exact d_assign | exact d_sub | exact d_rem | exact d_cmpF); clear hF; clear a; intro a hF) | (apply c_cond_f hF; exact rfl; first | exact rfl | assumption))
    exact ret1 hF rfl rfl ⟨rfl, rfl⟩

/-- The row, as far as it has come. -/
def rowR (mot : Bool) (start : Int) (k : Nat) : List Int := if mot then (Pl.seqB mot start k).reverse else Pl.seqB mot start k
theorem rowR_len (mot : Bool) (start : Int) (k : Nat) : (rowR mot start k).length = k := by unfold rowR; split <;> simp [Pl.seqB_len]
/-- The two results of the reference's Bits. -/
def RefBRes (base : Nat) (w : World) (v : Value) : Except Int (List Int) → Prop
  | .ok l => ∃ ao cap, v = .tuple #[.slice ao l.length cap, .int .i64 0] ∧ w.ownsRow base 3 1 (.slice ao l.length cap) l.length (l.map (.int .i64))
  | .error e => v = .tuple #[.slice none 0 0, .int .i64 e]

set_option maxHeartbeats 4000000 in
theorem refbits_of (w : World) (cs : Array Value) (start size : Int) (mot : Bool) (hs : SigAt cs start size mot) :
    Ret Tryz.prog 56 #[.agg cs] w (fun v w' => RefBRes w.heap.size w' v (Pl.bitsOfSig start size mot) ∧ Below w.heap.size w w') := by
  refine enter1 Tryz.func56 rfl 47 rfl 48 rfl (fun a hF => ?_)
  repeat (first | refine c_seq ?_ | refine c_region _ ?_)
  refine st_box hF (cs := cs) rfl (k := fun a w1 hsb hgr hsz1 hF => ?_)
  have c5 : w1.cell? ⟨w.heap.size, 5, none⟩ = some (.int .i64 start) := cell_at hsb hs.st
  have c6 : w1.cell? ⟨w.heap.size, 6, none⟩ = some (.int .i64 size) := cell_at hsb hs.sz
  have hb1 : Below w.heap.size w w1 := (Below.refl _ w).grown hgr (Nat.le_refl _) (fun k hk => by cases hk)
  by_cases h1 : size < 1 ∨ 64 < size
  · have hE : Pl.bitsOfSig start size mot = .error 15 := by unfold Pl.bitsOfSig; rw [if_pos h1]
    by_cases h2 : size < 1
    all_goals
      repeat (first | refine c_seq ?_ | refine c_region _ ?_ | refine wpList_nil ?_ | refine c_then ?_ | refine c_then_ret ?_ | refine wp_ret ?_ | ((first | apply st hF | apply stg hF); (first | exact d_move | exact d_assign | exact d_pickT | exact d_pickF | exact d_cmpT | exact d_cmpF | exact d_fieldAddr (fld _ _ _ _ rfl) (isz _ _ rfl) | exact d_load (und _ _ rfl) c6); clear hF; clear a; intro a hF) | ((apply stm hF); clear hF; clear a; intro a hF) | (apply c_cond_t hF; exact rfl; first | exact rfl | assumption))
      refine ret2 hF rfl rfl rfl ⟨?_, hb1⟩
      rw [hE]
      rfl
  by_cases h3 : start < 0 ∨ 63 < start
  · have hE : Pl.bitsOfSig start size mot = .error 16 := by unfold Pl.bitsOfSig; rw [if_neg h1, if_pos h3]
    by_cases h2 : start < 0
    all_goals
      repeat (first | refine c_seq ?_ | refine c_region _ ?_ | refine wpList_nil ?_ | refine c_then ?_ | refine c_then_ret ?_ | refine wp_skip ?_ | refine wp_ret ?_ | ((first | apply st hF | apply stg hF); (first | exact d_move | exact d_assign | exact d_pickT | exact d_pickF | exact d_cmpT | exact d_cmpF | exact d_fieldAddr (fld _ _ _ _ rfl) (isz _ _ rfl) | exact d_load (und _ _ rfl) c5 | exact d_load (und _ _ rfl) c6); clear hF; clear a; intro a hF) | ((apply stm hF); clear hF; clear a; intro a hF) | (apply c_cond_t hF; exact rfl; first | exact rfl | assumption) | (apply c_cond_f hF; exact rfl; first | exact rfl | assumption))
      refine ret2 hF rfl rfl rfl ⟨?_, hb1⟩
      rw [hE]
      rfl
  have hE : Pl.bitsOfSig start size mot = if (Pl.seqB mot start size.toNat).all (· ≤ 63) then .ok (if mot then (Pl.seqB mot start size.toNat).reverse else Pl.seqB mot start size.toNat) else .error 16 := by unfold Pl.bitsOfSig; rw [if_neg h1, if_neg h3]
  obtain ⟨S, hS⟩ : ∃ S : Nat, size = (S : Int) := ⟨size.toNat, by omega⟩
  subst hS
  rw [Int.toNat_natCast] at hE
  repeat (first | refine c_seq ?_ | refine c_block ?_ | refine c_region _ ?_ | refine wpList_nil ?_ | refine c_then ?_ | refine wp_skip ?_ | ((first | apply st hF | apply stg hF); (first | exact d_move | exact d_assign | exact d_pickF | exact d_cmpF | exact d_fieldAddr (fld _ _ _ _ rfl) (isz _ _ rfl) | exact d_load (und _ _ rfl) c5 | exact d_load (und _ _ rfl) c6); clear hF; clear a; intro a hF) | (apply c_cond_f hF; exact rfl; first | exact rfl | assumption))
  refine c_loop (fun n a wr => ∃ k ao' cap', k ≤ S ∧ n = S - k ∧ Fr 48 [(1, .pointer (some ⟨w.heap.size, 0, none⟩)), (4, .slice ao' k cap'), (5, .int .i64 (Pl.nth mot start k)), (6, .int .i64 (k : Nat))] a ∧
    (Pl.seqB mot start k).all (· ≤ 63) = true ∧ 0 ≤ Pl.nth mot start k ∧ Pl.nth mot start k ≤ 78 ∧
    wr.ownsRow w.heap.size 3 1 (.slice ao' k cap') k ((rowR mot start k).map (.int .i64)) ∧ wr.heap[w.heap.size]? = some (.cells cs 62 (0, 0)) ∧ Below w.heap.size w wr) S
    ⟨0, none, 0, by omega, rfl, hF.keep' ⟨rfl, rfl, rfl, rfl, trivial⟩, rfl, by simp only [Pl.nth]; omega, by simp only [Pl.nth]; omega, (by have : rowR mot start 0 = [] := by unfold rowR; cases mot <;> rfl
                                                                                                                                             rw [this]; exact World.ownsRow_nil _ _ _ _), hsb, hb1⟩ ?_
  clear hF a c5 c6 hb1 hsb
  rintro n a wr ⟨k, ao', cap', hk, rfl, hF, hall, hn0, hn1, hown, hsb0, hbel⟩
  have hz := hbel.size
  have c6 : wr.cell? ⟨w.heap.size, 6, none⟩ = some (.int .i64 (S : Int)) := cell_at hsb0 hs.sz
  have c7 : wr.cell? ⟨w.heap.size, 7, none⟩ = some (.bool mot) := cell_at hsb0 hs.mo
  by_cases hlt : k < S
  · by_cases hbig : 63 < Pl.nth mot start k
    · repeat (first | refine c_seq ?_ | refine c_block ?_ | refine c_region _ ?_ | refine wpList_nil ?_ | refine c_then ?_ | refine c_then_ret ?_ | refine c_in_ret ?_ | refine wp_skip ?_ | refine wp_ret ?_ | ((apply st hF); (first | exact d_move | exact d_assign | exact d_cmpT | exact d_fieldAddr (fld _ _ _ _ rfl) (isz _ _ rfl) | exact d_load (und _ _ rfl) c6); clear hF; clear a; intro a hF) | (apply c_cond_t hF; exact rfl; first | exact rfl | assumption))
      refine ret2 hF rfl rfl rfl ⟨?_, hbel⟩
      rw [hE, Pl.all_take hlt hbig]
      rfl
    · have hbb := Pl.nextB_bounds (mot := mot) hn0 (by omega)
      have hall2 : (Pl.seqB mot start (k + 1)).all (· ≤ 63) = true := by
        rw [Pl.seqB_snoc', List.all_append, hall]
        simp; omega
      cases mot with
      | true =>
        repeat (first | refine c_seq ?_ | refine c_block ?_ | refine c_region _ ?_ | refine wpList_nil ?_ | refine c_then ?_ | refine wp_skip ?_ | ((apply st hF); (first | exact d_move | exact d_cmpT | exact d_cmpF | exact d_fieldAddr (fld _ _ _ _ rfl) (isz _ _ rfl) | exact d_load (und _ _ rfl) c6 | exact d_load (und _ _ rfl) c7); clear hF; clear a; intro a hF) | (apply c_cond_t hF; exact rfl; first | exact rfl | assumption) | (apply c_cond_f hF; exact rfl; first | exact rfl | assumption))
        refine st hF (d_build1 (by_ := 8) (und _ _ rfl) inf3 rfl) (k := fun a hF => ?_)
        have hg1 : (wr.alloc (.cells #[.int .i64 (Pl.nth true start k)] 3)).heap[wr.heap.size]? = some (.cells #[.int .i64 (Pl.nth true start k)] 3 (0, 0)) := heap_alloc_new wr _
        have hgr1 : wr.grownBy (wr.alloc (.cells #[.int .i64 (Pl.nth true start k)] 3)) none := World.grownBy_alloc _ _ _
        generalize wr.alloc (.cells #[.int .i64 (Pl.nth true start k)] 3) = w2 at *
        have hz2 := hgr1.size
        have hown1 : w2.ownsRow w.heap.size 3 1 (.slice (some ⟨wr.heap.size, 0, none⟩) 1 1) 1 [.int .i64 (Pl.nth true start k)] := ⟨rfl, .inr ⟨_, _, _, rfl, hz, hg1, Nat.le_refl _, by decide, rfl, rfl⟩⟩
        have hownl := own_grown hown hgr1
        obtain ⟨_, hR⟩ := own_rd hownl
        repeat (((apply st hF); (exact d_move); clear hF; clear a; intro a hF))
        refine st_append hF (und _ _ rfl) inf3 rfl hown1 (rowR_len true start k) hR (fun _ => rfl) (by omega) (by unfold maxLen; omega) (by omega) (k := fun a ao2 cap2 w3 hown2 hgr2 hF => ?_)
        have hb2 : Below w.heap.size w w2 := hbel.grown hgr1 hz (fun k hk => by cases hk)
        have hb3 : Below w.heap.size w w3 := hb2.grown hgr2 (by omega) (fun k hk => by simp only [Value.ownBlock, Option.some.injEq] at hk; omega)
        have hsb3 := blk_kept (blk_kept hsb0 hgr1 (by simp)) hgr2 (by have := lt_at hsb0; simp only [Value.ownBlock, ne_eq, Option.some.injEq]; omega)
        have hrow : [Value.int .i64 (Pl.nth true start k)] ++ (rowR true start k).map (.int .i64) = (rowR true start (k + 1)).map (.int .i64) := by
          simp [rowR, Pl.seqB_snoc']
        rw [hrow, Nat.add_comm 1 k] at hown2
        rw [Nat.add_comm 1 k] at hF
        repeat (first | refine c_region _ ?_ | refine wpList_nil ?_ | refine c_then ?_ | ((apply st hF); (first | exact d_move | exact d_assign); clear hF; clear a; intro a hF))
        refine stc hF (nextR_ok w3 _ hn0 (by omega)) cal84 ⟨rfl, trivial⟩ (k := fun a v w4 hR hF => ?_)
        obtain ⟨rfl, rfl⟩ := hR
        repeat (first | refine c_region _ ?_ | refine wpList_nil ?_ | refine c_then ?_ | refine c_in ?_ | ((apply st hF); (first | exact d_move | exact d_assign | exact d_add); clear hF; clear a; intro a hF))
        exact ⟨S - (k + 1), by omega, k + 1, ao2, cap2, by omega, rfl, hF.keep' ⟨rfl, rfl, rfl, rfl, trivial⟩, hall2, hbb.1, hbb.2, hown2, hsb3, hb3⟩
      | false =>
        repeat (first | refine c_seq ?_ | refine c_block ?_ | refine c_region _ ?_ | refine wpList_nil ?_ | refine c_then ?_ | refine wp_skip ?_ | ((apply st hF); (first | exact d_move | exact d_cmpT | exact d_cmpF | exact d_fieldAddr (fld _ _ _ _ rfl) (isz _ _ rfl) | exact d_load (und _ _ rfl) c6 | exact d_load (und _ _ rfl) c7); clear hF; clear a; intro a hF) | (apply c_cond_t hF; exact rfl; first | exact rfl | assumption) | (apply c_cond_f hF; exact rfl; first | exact rfl | assumption))
        refine st_push hF (und _ _ rfl) inf3 rfl hown (by omega) (by unfold maxLen; omega) hz (k := fun a ao2 cap2 w3 hown2 hgr2 hF => ?_)
        have hrow : (rowR false start k).map (.int .i64) ++ [Value.int .i64 (Pl.nth false start k)] = (rowR false start (k + 1)).map (.int .i64) := by
          simp [rowR, Pl.seqB_snoc']
        rw [hrow] at hown2
        have hb3 := below_own hbel hz hown hgr2
        have hne : some w.heap.size ≠ (Value.slice ao' k cap').ownBlock := own_ne hown hsb0 (by decide)
        have hsb3 := blk_kept hsb0 hgr2 hne
        have hnx : Pl.nth false start (k + 1) = Pl.nth false start k + 1 := rfl
        repeat (first | refine c_region _ ?_ | refine wpList_nil ?_ | refine c_then ?_ | refine c_in ?_ | ((apply st hF); (first | exact d_move | exact d_assign | exact d_add); clear hF; clear a; intro a hF))
        refine ⟨S - (k + 1), by omega, k + 1, ao2, cap2, by omega, rfl, ?_, hall2, hbb.1, hbb.2, hown2, hsb3, hb3⟩
        rw [hnx]
        exact hF.keep' ⟨rfl, rfl, rfl, rfl, trivial⟩
  · obtain rfl : k = S := by omega
    repeat (first | refine c_seq ?_ | refine c_region _ ?_ | refine wpList_nil ?_ | refine c_then ?_ | refine c_then_exit ?_ | refine c_in_hit ?_ | refine wp_exit ?_ | refine wp_ret ?_ | ((apply st hF); (first | exact d_move | exact d_assign | exact d_cmpF | exact d_fieldAddr (fld _ _ _ _ rfl) (isz _ _ rfl) | exact d_load (und _ _ rfl) c6); clear hF; clear a; intro a hF) | (apply c_cond_f hF; exact rfl; first | exact rfl | assumption))
    refine ret2 hF rfl rfl rfl ⟨?_, hbel⟩
    rw [hE, hall, if_pos rfl]
    refine ⟨ao', cap', ?_, ?_⟩
    · rw [show (if mot = true then (Pl.seqB mot start k).reverse else Pl.seqB mot start k) = rowR mot start k from rfl, rowR_len]
    · rw [show (if mot = true then (Pl.seqB mot start k).reverse else Pl.seqB mot start k) = rowR mot start k from rfl, rowR_len]
      exact hown

theorem bits_le {start size : Int} {mot : Bool} {l : List Int} (h : Pl.bitsOfSig start size mot = .ok l) : l.length ≤ 64 ∧ ∀ x ∈ l, 0 ≤ x ∧ x ≤ 63 := by
  unfold Pl.bitsOfSig at h
  split at h
  · cases h
  · split at h
    · cases h
    · split at h
      · rename_i h1 h2 h3
        simp only [Except.ok.injEq] at h
        have hm : ∀ x ∈ Pl.seqB mot start size.toNat, 0 ≤ x ∧ x ≤ 63 := by
          intro x hx
          have hx2 : x ≤ 63 := by simpa using List.all_eq_true.1 h3 x hx
          obtain ⟨i, hi, rfl⟩ := Pl.seqB_mem hx
          refine ⟨?_, hx2⟩
          have := (Pl.pos_ge mot start).2 (by omega)
          exact (Pl.pos_ge mot _).2 (by omega)
        subst h
        refine ⟨by split <;> simp [Pl.seqB_len] <;> omega, fun x hx => hm x ?_⟩
        split at hx
        · exact List.mem_reverse.1 hx
        · exact hx
      · cases h

end Go.Proofs.YtjomihhpglojpaaGreatDoor
end
