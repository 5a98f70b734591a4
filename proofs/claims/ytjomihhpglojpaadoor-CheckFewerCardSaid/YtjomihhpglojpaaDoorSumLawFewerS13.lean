/- Laid together by a program of mine: Bits RefB Bp. -/
import Derived.Test.YtjomihhpglojpaaDoorSumLawFewerS12
import Derived.Test.YtjomihhpglojpaaDoorSumLawFewerS8
set_option linter.unusedSimpArgs false
set_option linter.unusedVariables false
section
/- place.Bits and place.Within: what they compute. -/
namespace Go.Proofs.YtjomihhpglojpaaDoor
open Go.RowKit
set_option linter.unusedSimpArgs false
set_option linter.unusedVariables false
attribute [local irreducible] wpList wpQuiet wpStill Code.wp Exit.then Exit.inBlock bodyPost Calls Does Does0

set_option maxHeartbeats 2000000 in
theorem next_ok (w : World) (nb sb : Nat) (cs : Array Value) (start size b : Int) (mot : Bool) (e : TypeId) (hs : SigAt cs start size mot) (hsb : w.heap[sb]? = some (.cells cs 38 (0, 0))) (hnb : w.heap[nb]? = some (.cells #[.int .i64 b] 3 (0, 0)))
    (h0 : 0 ≤ b) (h1 : b ≤ 100) :
    Ret Tryd.prog 87 #[.pointer (some ⟨nb, 0, none⟩), .pointer (some ⟨sb, 0, none⟩)] w (fun v w' => v = .int .i64 b ∧ w'.heap[nb]? = some (.cells #[.int .i64 (Pl.nextB mot b)] 3 (0, 0)) ∧ w.grownBy w' (some nb)) := by
  have c0 : w.cell? ⟨nb, 0, none⟩ = some (.int .i64 b) := cell_at hnb rfl
  have c7 : w.cell? ⟨sb, 7, none⟩ = some (.bool mot) := cell_at hsb hs.mo
  refine enter2 Tryd.func87 rfl 18 rfl 20 rfl (fun a hF => ?_)
  cases mot with
  | false =>
    have hx : Pl.nextB false b = b + 1 := rfl
    rw [hx]
    repeat (first | refine c_seq ?_ | refine c_block ?_ | refine c_region _ ?_ | refine wpList_nil ?_ | refine c_then ?_ | ((apply st hF); (first | exact d_assign | exact d_not | exact d_add | exact d_fieldAddr (fld _ _ _ _ rfl) (isz _ _ rfl) | exact d_load (und _ _ rfl) c0 | exact d_load (und _ _ rfl) c7); clear hF; clear a; intro a hF) | (apply c_cond_t hF; exact rfl; first | exact rfl | assumption))
    refine st_store hF (isz _ _ rfl) hnb (i := 0) (by simp) rfl rfl rfl fun a w' hg' hgr hsz hF => ?_
    repeat (first | refine c_seq ?_ | refine c_region _ ?_ | refine wpList_nil ?_ | refine c_then ?_ | refine c_in ?_ | refine wp_ret ?_ | ((apply st hF); (first | exact d_move | exact d_assign); clear hF; clear a; intro a hF))
    exact ret1 hF rfl rfl ⟨rfl, hg', hgr⟩
  | true =>
    by_cases h8 : b % 8 = 0
    · have hx : Pl.nextB true b = b + 15 := by simp [Pl.nextB, h8]
      rw [hx]
      repeat (first | refine c_seq ?_ | refine c_block ?_ | refine c_region _ ?_ | refine wpList_nil ?_ | refine c_then ?_ | ((apply st hF); (first | exact d_move | exact d_assign | exact d_not | exact d_add | exact d_rem | exact d_cmpT | exact d_fieldAddr (fld _ _ _ _ rfl) (isz _ _ rfl) | exact d_load (und _ _ rfl) c0 | exact d_load (und _ _ rfl) c7); clear hF; clear a; intro a hF) | (apply c_cond_t hF; exact rfl; first | exact rfl | assumption) | (apply c_cond_f hF; exact rfl; first | exact rfl | assumption))
      refine st_store hF (isz _ _ rfl) hnb (i := 0) (by simp) rfl rfl rfl fun a w' hg' hgr hsz hF => ?_
      repeat (first | refine c_seq ?_ | refine c_region _ ?_ | refine wpList_nil ?_ | refine c_then ?_ | refine c_in ?_ | refine wp_ret ?_ | ((apply st hF); (first | exact d_move | exact d_assign); clear hF; clear a; intro a hF))
      exact ret1 hF rfl rfl ⟨rfl, hg', hgr⟩
    · have hx : Pl.nextB true b = b - 1 := by simp [Pl.nextB, h8]
      rw [hx]
      repeat (first | refine c_seq ?_ | refine c_block ?_ | refine c_region _ ?_ | refine wpList_nil ?_ | refine c_then ?_ | ((apply st hF); (first | exact d_move | exact d_assign | exact d_not | exact d_sub | exact d_rem | exact d_cmpF | exact d_fieldAddr (fld _ _ _ _ rfl) (isz _ _ rfl) | exact d_load (und _ _ rfl) c0 | exact d_load (und _ _ rfl) c7); clear hF; clear a; intro a hF) | (apply c_cond_f hF; exact rfl; first | exact rfl | assumption))
      refine st_store hF (isz _ _ rfl) hnb (i := 0) (by simp) rfl rfl rfl fun a w' hg' hgr hsz hF => ?_
      repeat (first | refine c_seq ?_ | refine c_region _ ?_ | refine wpList_nil ?_ | refine c_then ?_ | refine c_in ?_ | refine wp_ret ?_ | ((apply st hF); (first | exact d_move | exact d_assign); clear hF; clear a; intro a hF))
      exact ret1 hF rfl rfl ⟨rfl, hg', hgr⟩

set_option maxHeartbeats 2000000 in
theorem counter_ok (w : World) (cs : Array Value) (start size : Int) (mot : Bool) (hs : SigAt cs start size mot) :
    Ret Tryd.prog 65 #[.agg cs] w (fun v w' => ∃ nb sb, w.heap.size ≤ nb ∧ w.heap.size ≤ sb ∧ nb ≠ sb ∧ v = .func (.func 87) #[] [.pointer (some ⟨nb, 0, none⟩), .pointer (some ⟨sb, 0, none⟩)].toArray ∧
      w'.heap[sb]? = some (.cells cs 38 (0, 0)) ∧ w'.heap[nb]? = some (.cells #[.int .i64 start] 3 (0, 0)) ∧ w.grownBy w' none) := by
  refine enter1 Tryd.func65 rfl 6 rfl 7 rfl (fun a hF => ?_)
  repeat (first | refine c_seq ?_ | refine c_region _ ?_)
  refine st_box hF (cs := cs) rfl (k := fun a w1 hsb hgr hsz hF => ?_)
  have c5 : w1.cell? ⟨w.heap.size, 5, none⟩ = some (.int .i64 start) := cell_at hsb hs.st
  repeat (first | refine c_seq ?_ | refine c_region _ ?_ | refine wpList_nil ?_ | refine c_then ?_ | ((apply st hF); (first | exact d_assign | exact d_fieldAddr (fld _ _ _ _ rfl) (isz _ _ rfl) | exact d_load (und _ _ rfl) c5); clear hF; clear a; intro a hF))
  refine st_alloc hF inf3 (k := fun a w2 hnb hgr2 hsz2 hF => ?_)
  have hnb : w2.heap[w1.heap.size]? = some (.cells #[.int .i64 0] 3 (0, 0)) := hnb
  have hsb2 := blk_kept hsb hgr2 (by simp)
  skip
  refine st_store hF (isz _ _ rfl) hnb (i := 0) (by simp) rfl rfl rfl fun a w3 hnb3 hgr3 hsz3 hF => ?_
  have hsb3 := blk_kept hsb2 hgr3 (by simp; omega)
  repeat (first | refine c_seq ?_ | refine c_region _ ?_ | refine wpList_nil ?_ | refine c_then ?_ | refine wp_ret ?_ | ((apply st hF); (first | exact d_assign | exact d_makeFunc (vs := [.pointer (some ⟨w1.heap.size, 0, none⟩), .pointer (some ⟨w.heap.size, 0, none⟩)]) ⟨rfl, rfl, trivial⟩); clear hF; clear a; intro a hF))
  refine ret1 hF rfl rfl ⟨w1.heap.size, w.heap.size, by omega, by omega, by omega, rfl, hsb3, hnb3, ?_⟩
  refine ⟨?_, ?_, ?_, ?_, ?_⟩
  · exact hgr3.os.trans (hgr2.os.trans hgr.os)
  · exact hgr3.tape.trans (hgr2.tape.trans hgr.tape)
  · exact hgr3.output.trans (hgr2.output.trans hgr.output)
  · omega
  · intro k hk hne
    rw [hgr3.block k (by omega) (by simp; omega), hgr2.block k (by omega) (by simp), hgr.block k hk (by simp)]

/-- The two results of place.Bits. -/
def BitsRes (base : Nat) (w : World) (v : Value) : Except Int (List Int) → Prop
  | .ok l => ∃ g cap, v = .tuple #[.slice (some ⟨g, 0, none⟩) l.length cap, .nilIface] ∧ base ≤ g ∧ w.ownsRow base 3 1 (.slice (some ⟨g, 0, none⟩) l.length cap) l.length (l.map (.int .i64))
  | .error e => v = .tuple #[.slice none 0 0, .iface 73 (.int .i64 e)]

set_option maxHeartbeats 4000000 in
theorem bits_of (w : World) (cs : Array Value) (start size : Int) (mot : Bool) (hs : SigAt cs start size mot) :
    Ret Tryd.prog 38 #[.agg cs] w (fun v w' => BitsRes w.heap.size w' v (Pl.bitsOfSig start size mot) ∧ Below w.heap.size w w') := by
  refine enter1 Tryd.func38 rfl 48 rfl 49 rfl (fun a hF => ?_)
  repeat (first | refine c_seq ?_ | refine c_region _ ?_)
  refine st_box hF (cs := cs) rfl (k := fun a w1 hsb hgr hsz1 hF => ?_)
  have c5 : w1.cell? ⟨w.heap.size, 5, none⟩ = some (.int .i64 start) := cell_at hsb hs.st
  have c6 : w1.cell? ⟨w.heap.size, 6, none⟩ = some (.int .i64 size) := cell_at hsb hs.sz
  have hb1 : Below w.heap.size w w1 := (Below.refl _ w).grown hgr (Nat.le_refl _) (fun k hk => by cases hk)
  by_cases h1 : size < 1 ∨ 64 < size
  · have hE : Pl.bitsOfSig start size mot = .error 15 := by unfold Pl.bitsOfSig; rw [if_pos h1]
    by_cases h2 : size < 1
    all_goals
      repeat (first | refine c_seq ?_ | refine c_region _ ?_ | refine wpList_nil ?_ | refine c_then ?_ | refine c_then_ret ?_ | refine wp_ret ?_ | ((first | apply st hF | apply stg hF); (first | exact d_move | exact d_assign | exact d_pickT | exact d_pickF | exact d_cmpT | exact d_cmpF | exact d_fieldAddr (fld _ _ _ _ rfl) (isz _ _ rfl) | exact d_makeI (con _ rfl) | exact d_load (und _ _ rfl) c6); clear hF; clear a; intro a hF) | ((apply stm hF); clear hF; clear a; intro a hF) | (apply c_cond_t hF; exact rfl; first | exact rfl | assumption))
      refine ret2 hF rfl rfl rfl ⟨?_, hb1⟩
      rw [hE]
      rfl
  by_cases h3 : start < 0 ∨ 63 < start
  · have hE : Pl.bitsOfSig start size mot = .error 16 := by unfold Pl.bitsOfSig; rw [if_neg h1, if_pos h3]
    by_cases h2 : start < 0
    all_goals
      repeat (first | refine c_seq ?_ | refine c_region _ ?_ | refine wpList_nil ?_ | refine c_then ?_ | refine c_then_ret ?_ | refine wp_skip ?_ | refine wp_ret ?_ | ((first | apply st hF | apply stg hF); (first | exact d_move | exact d_assign | exact d_pickT | exact d_pickF | exact d_cmpT | exact d_cmpF | exact d_fieldAddr (fld _ _ _ _ rfl) (isz _ _ rfl) | exact d_makeI (con _ rfl) | exact d_load (und _ _ rfl) c5 | exact d_load (und _ _ rfl) c6); clear hF; clear a; intro a hF) | ((apply stm hF); clear hF; clear a; intro a hF) | (apply c_cond_t hF; exact rfl; first | exact rfl | assumption) | (apply c_cond_f hF; exact rfl; first | exact rfl | assumption))
      refine ret2 hF rfl rfl rfl ⟨?_, hb1⟩
      rw [hE]
      rfl
  have hE : Pl.bitsOfSig start size mot = if (Pl.seqB mot start size.toNat).all (· ≤ 63) then .ok (if mot then (Pl.seqB mot start size.toNat).reverse else Pl.seqB mot start size.toNat) else .error 16 := by unfold Pl.bitsOfSig; rw [if_neg h1, if_neg h3]
  obtain ⟨S, hS⟩ : ∃ S : Nat, size = (S : Int) := ⟨size.toNat, by omega⟩
  subst hS
  rw [Int.toNat_natCast] at hE
  repeat (first | refine c_seq ?_ | refine c_region _ ?_ | refine wpList_nil ?_ | refine c_then ?_ | refine wp_skip ?_ | ((first | apply st hF | apply stg hF); (first | exact d_move | exact d_assign | exact d_pickF | exact d_cmpF | exact d_fieldAddr (fld _ _ _ _ rfl) (isz _ _ rfl) | exact d_load (und _ _ rfl) c5 | exact d_load (und _ _ rfl) c6); clear hF; clear a; intro a hF) | (apply c_cond_f hF; exact rfl; first | exact rfl | assumption))
  refine st_make0 hF (und _ _ rfl) inf3 (c := S) (base := w.heap.size) (by omega) (by unfold maxLen; omega) hb1.size rfl (k := fun a w2 hown2 hgr2 hF => ?_)
  have hsb2 := blk_kept hsb hgr2 (by simp)
  have hb2 : Below w.heap.size w w2 := hb1.grown hgr2 hb1.size (fun k hk => by cases hk)
  repeat (first | refine c_seq ?_ | refine c_region _ ?_ | refine wpList_nil ?_ | refine c_then ?_ | ((apply st hF); (first | exact d_assign | exact d_loadAgg (agg _ rfl) (isz _ _ rfl) hs.len (cells_at hsb2)); clear hF; clear a; intro a hF))
  refine stc hF (counter_ok w2 cs start S mot hs) cal65 ⟨rfl, trivial⟩ (k := fun a v w3 hR hF => ?_)
  obtain ⟨nb, sb, hnbsz, hsbsz, hne, rfl, hcb3, hnb3, hgr3⟩ := hR
  have hsb3 := blk_kept hsb2 hgr3 (by simp)
  have hown3 := own_grown hown2 hgr3
  have hb3 : Below w.heap.size w w3 := hb2.grown hgr3 hb2.size (fun k hk => by cases hk)
  have hz2 := hb2.size
  have hz1 := hgr2.size
  have hlt2 : w1.heap.size < w2.heap.size := (hown2.lt _ rfl).2
  clear hown2 hb2 hb1 hsb hsb2 c5 c6
  repeat (first | refine c_block ?_ | refine wpList_nil ?_ | refine c_then ?_ | ((apply st hF); (exact d_assign); clear hF; clear a; intro a hF))
  refine c_loop (fun n a wr => ∃ k ao' cap', k ≤ S ∧ n = S - k ∧ Fr 49 [(1, .pointer (some ⟨w.heap.size, 0, none⟩)), (4, .slice ao' k cap'), (5, .func (.func 87) #[] [.pointer (some ⟨nb, 0, none⟩), .pointer (some ⟨sb, 0, none⟩)].toArray)] a ∧
    (Pl.seqB mot start k).all (· ≤ 63) = true ∧ 0 ≤ Pl.nth mot start k ∧ Pl.nth mot start k ≤ 78 ∧
    wr.ownsRow w.heap.size 3 1 (.slice ao' k cap') k ((Pl.seqB mot start k).map (.int .i64)) ∧ wr.heap[w.heap.size]? = some (.cells cs 38 (0, 0)) ∧ wr.heap[sb]? = some (.cells cs 38 (0, 0)) ∧ wr.heap[nb]? = some (.cells #[.int .i64 (Pl.nth mot start k)] 3 (0, 0)) ∧
    (∀ q, (Value.slice ao' k cap').ownBlock = some q → q ≠ nb) ∧ nb < wr.heap.size ∧ Below w.heap.size w wr) S
    ⟨0, _, _, by omega, rfl, hF.keep' ⟨rfl, rfl, rfl, trivial⟩, rfl, by simp only [Pl.nth]; omega, by simp only [Pl.nth]; omega, hown3, hsb3, hcb3, hnb3, ?_, lt_at hnb3, hb3⟩ ?_
  · intro q hq
    simp only [Value.ownBlock, Option.some.injEq] at hq
    omega
  clear hF a hown3 hsb3 hcb3 hnb3 hb3 hgr3
  rintro n a wr ⟨k, ao', cap', hk, rfl, hF, hall, hn0, hn1, hown, hsb0, hsb3, hnb3, hnq, hnlt, hbel⟩
  have hz := hbel.size
  have c6 : wr.cell? ⟨w.heap.size, 6, none⟩ = some (.int .i64 (S : Int)) := cell_at hsb0 hs.sz
  have c7 : wr.cell? ⟨w.heap.size, 7, none⟩ = some (.bool mot) := cell_at hsb0 hs.mo
  by_cases hlt : k < S
  · repeat (first | refine c_seq ?_ | refine c_block ?_ | refine c_region _ ?_ | refine wpList_nil ?_ | refine c_then ?_ | refine wp_skip ?_ | ((apply st hF); (first | exact d_move | exact d_cmpT | exact d_len (und _ _ rfl) | exact d_fieldAddr (fld _ _ _ _ rfl) (isz _ _ rfl) | exact d_load (und _ _ rfl) c6); clear hF; clear a; intro a hF) | (apply c_cond_t hF; exact rfl; first | exact rfl | assumption))
    refine stcv hF (next_ok wr nb sb cs start S _ mot 3 hs hsb3 hnb3 hn0 (by omega)) cal87 (vs := []) (cs := [.pointer (some ⟨nb, 0, none⟩), .pointer (some ⟨sb, 0, none⟩)]) trivial (k := fun a v w4 hR hF => ?_)
    obtain ⟨rfl, hnb4, hgr4⟩ := hR
    have hown4 := own_kept hown hgr4 (fun e => hnq nb e rfl)
    have hb4 : Below w.heap.size w w4 := hbel.grown hgr4 hz (fun k hk => by cases hk; omega)
    have hsb04 := blk_kept hsb0 hgr4 (by simp; omega)
    have hsb4 := blk_kept hsb3 hgr4 (by simp; omega)
    by_cases hbig : 63 < Pl.nth mot start k
    · repeat (first | refine c_seq ?_ | refine c_region _ ?_ | refine wpList_nil ?_ | refine c_then ?_ | refine c_then_ret ?_ | refine c_in_ret ?_ | refine wp_ret ?_ | ((apply st hF); (first | exact d_move | exact d_assign | exact d_cmpT | exact d_makeI (con _ rfl)); clear hF; clear a; intro a hF) | (apply c_cond_t hF; exact rfl; first | exact rfl | assumption))
      refine ret2 hF rfl rfl rfl ⟨?_, hb4⟩
      rw [hE, Pl.all_take hlt hbig]
      rfl
    · have hbb := Pl.nextB_bounds (mot := mot) hn0 (by omega)
      repeat (first | refine c_seq ?_ | refine c_region _ ?_ | refine wpList_nil ?_ | refine c_then ?_ | refine wp_skip ?_ | ((apply st hF); (first | exact d_move | exact d_assign | exact d_cmpF); clear hF; clear a; intro a hF) | (apply c_cond_f hF; exact rfl; first | exact rfl | assumption))
      refine st_push' hF (und _ _ rfl) inf3 rfl hown4 (by omega) (by unfold maxLen; omega) hb4.size (k := fun a ao2 cap2 w5 hown5 hgr5 hbk hF => ?_)
      have hsn : (Pl.seqB mot start k).map (Value.int .i64) ++ [.int .i64 (Pl.nth mot start k)] = (Pl.seqB mot start (k + 1)).map (.int .i64) := by rw [Pl.seqB_snoc']; simp
      rw [hsn] at hown5
      have hb5 := below_own hb4 hb4.size hown4 hgr5
      have hq4 : some nb ≠ (Value.slice ao' k cap').ownBlock := fun e => hnq nb e.symm rfl
      repeat (first | refine wpList_nil ?_ | refine c_then ?_ | refine c_in ?_ | ((apply st hF); (exact d_assign); clear hF; clear a; intro a hF))
      refine ⟨S - (k + 1), by omega, k + 1, ao2, cap2, by omega, rfl, hF.keep' ⟨rfl, rfl, rfl, trivial⟩, ?_, hbb.1, hbb.2, hown5,
        blk_kept hsb04 hgr5 (own_ne hown4 hsb04 (by decide)), blk_kept hsb4 hgr5 (own_ne hown4 hsb4 (by decide)), blk_kept hnb4 hgr5 hq4, ?_, ?_, hb5⟩
      · rw [Pl.seqB_snoc', Pl.all_snoc, hall, decide_eq_true (by omega)]; rfl
      · intro q hq
        rcases hbk with e | e
        · rw [e] at hq; exact hnq q hq
        · rw [e] at hq
          have := hgr4.size
          simp only [Option.some.injEq] at hq
          omega
      · have := hgr4.size; have := hgr5.size; omega
  · obtain rfl : k = S := by omega
    have hg := hown.1
    rw [List.length_map, Pl.seqB_len] at hg
    obtain ⟨g, rfl, hbg⟩ := own_some hown (by omega)
    rw [hall] at hE
    simp only [if_true] at hE
    cases mot with
    | false =>
      repeat (first | refine c_seq ?_ | refine c_region _ ?_ | refine wpList_nil ?_ | refine c_then ?_ | refine c_then_exit ?_ | refine c_in_hit ?_ | refine wp_skip ?_ | refine wp_exit ?_ | refine wp_ret ?_ | ((apply st hF); (first | exact d_move | exact d_assign | exact d_cmpF | exact d_len (und _ _ rfl) | exact d_fieldAddr (fld _ _ _ _ rfl) (isz _ _ rfl) | exact d_load (und _ _ rfl) c6 | exact d_load (und _ _ rfl) c7); clear hF; clear a; intro a hF) | (apply c_cond_f hF; exact rfl; first | exact rfl | assumption))
      refine ret2 hF rfl rfl rfl ⟨?_, hbel⟩
      rw [hE]
      simp only [Bool.false_eq_true, if_false]
      refine ⟨g, cap', by rw [Pl.seqB_len], hbg, ?_⟩
      rw [Pl.seqB_len]; exact hown
    | true =>
      repeat (first | refine c_seq ?_ | refine c_region _ ?_ | refine wpList_nil ?_ | refine c_then ?_ | refine c_then_exit ?_ | refine c_in_hit ?_ | refine wp_exit ?_ | ((apply st hF); (first | exact d_move | exact d_cmpF | exact d_len (und _ _ rfl) | exact d_fieldAddr (fld _ _ _ _ rfl) (isz _ _ rfl) | exact d_load (und _ _ rfl) c6 | exact d_load (und _ _ rfl) c7); clear hF; clear a; intro a hF) | (apply c_cond_t hF; exact rfl; first | exact rfl | assumption) | (apply c_cond_f hF; exact rfl; first | exact rfl | assumption))
      refine stc hF (reverse_ok wr (Pl.seqB true start k) w.heap.size g k cap' hown (by omega)) cal66 ⟨rfl, trivial⟩ (k := fun a v w5 hR hF => ?_)
      obtain ⟨hown5, hgr5⟩ := hR
      repeat (first | refine c_seq ?_ | refine c_region _ ?_ | refine wpList_nil ?_ | refine c_then ?_ | refine wp_ret ?_ | ((apply st hF); (first | exact d_move | exact d_assign); clear hF; clear a; intro a hF))
      refine ret2 hF rfl rfl rfl ⟨?_, hbel.grown hgr5 hz (fun k hk => by cases hk; omega)⟩
      rw [hE]
      simp only [if_true]
      refine ⟨g, cap', by rw [List.length_reverse, Pl.seqB_len], hbg, ?_⟩
      rw [List.length_reverse, Pl.seqB_len]; exact hown5
end Go.Proofs.YtjomihhpglojpaaDoor
end
section
/- The reference's Bits and Within: what they compute. -/
namespace Go.Proofs.YtjomihhpglojpaaDoor
open Go.RowKit
set_option linter.unusedSimpArgs false
set_option linter.unusedVariables false
attribute [local irreducible] wpList wpQuiet wpStill Code.wp Exit.then Exit.inBlock bodyPost Calls Does Does0

theorem nextR_ok (w : World) (b : Int) (h0 : 0 ≤ b) (h1 : b ≤ 100) : Ret Tryd.prog 108 #[.int .i64 b] w (fun v w' => v = .int .i64 (Pl.nextB true b) ∧ w' = w) := by
  refine enter1 Tryd.func108 rfl 9 rfl 10 rfl (fun a hF => ?_)
  by_cases h8 : b % 8 = 0
  · have hx : Pl.nextB true b = b + 15 := by simp [Pl.nextB, h8]
    rw [hx]
    repeat (first | refine c_seq ?_ | refine c_region _ ?_ | refine wpList_nil ?_ | refine c_then ?_ | refine c_then_ret ?_ | refine wp_ret ?_ | ((apply st hF); (first | exact d_move | exact d_assign | exact d_add | exact d_rem | exact d_cmpT); clear hF; clear a; intro a hF) | (apply c_cond_t hF; exact rfl; first | exact rfl | assumption))
    exact ret1 hF rfl rfl ⟨rfl, rfl⟩
  · have hx : Pl.nextB true b = b - 1 := by simp [Pl.nextB, h8]
    rw [hx]
    repeat (first | refine c_seq ?_ | refine c_region _ ?_ | refine wpList_nil ?_ | refine c_then ?_ | refine wp_skip ?_ | refine wp_ret ?_ | ((apply st hF); (first | exact d_move | exact d_assign | exact d_sub | exact d_rem | exact d_cmpF); clear hF; clear a; intro a hF) | (apply c_cond_f hF; exact rfl; first | exact rfl | assumption))
    exact ret1 hF rfl rfl ⟨rfl, rfl⟩

/-- The row, as far as it has come. -/
def rowR (mot : Bool) (start : Int) (k : Nat) : List Int := if mot then (Pl.seqB mot start k).reverse else Pl.seqB mot start k
theorem rowR_len (mot : Bool) (start : Int) (k : Nat) : (rowR mot start k).length = k := by unfold rowR; split <;> simp [Pl.seqB_len]
/-- The two results of the reference's Bits. -/
def RefBRes (base : Nat) (w : World) (v : Value) : Except Int (List Int) → Prop
  | .ok l => ∃ ao cap, v = .tuple #[.slice ao l.length cap, .int .i64 0] ∧ w.ownsRow base 3 1 (.slice ao l.length cap) l.length (l.map (.int .i64))
  | .error e => v = .tuple #[.slice none 0 0, .int .i64 e]

set_option maxHeartbeats 4000000 in
theorem refbits_of (w : World) (cs : Array Value) (start size : Int) (mot : Bool) (hs : SigAt cs start size mot) :
    Ret Tryd.prog 90 #[.agg cs] w (fun v w' => RefBRes w.heap.size w' v (Pl.bitsOfSig start size mot) ∧ Below w.heap.size w w') := by
  refine enter1 Tryd.func90 rfl 47 rfl 48 rfl (fun a hF => ?_)
  repeat (first | refine c_seq ?_ | refine c_region _ ?_)
  refine st_box hF (cs := cs) rfl (k := fun a w1 hsb hgr hsz1 hF => ?_)
  have c5 : w1.cell? ⟨w.heap.size, 5, none⟩ = some (.int .i64 start) := cell_at hsb hs.st
  have c6 : w1.cell? ⟨w.heap.size, 6, none⟩ = some (.int .i64 size) := cell_at hsb hs.sz
  have hb1 : Below w.heap.size w w1 := (Below.refl _ w).grown hgr (Nat.le_refl _) (fun k hk => by cases hk)
  by_cases h1 : size < 1 ∨ 64 < size
  · have hE : Pl.bitsOfSig start size mot = .error 15 := by unfold Pl.bitsOfSig; rw [if_pos h1]
    by_cases h2 : size < 1
    all_goals
      repeat (first | refine c_seq ?_ | refine c_region _ ?_ | refine wpList_nil ?_ | refine c_then ?_ | refine c_then_ret ?_ | refine wp_ret ?_ | ((first | apply st hF | apply stg hF); (first | exact d_move | exact d_assign | exact d_pickT | exact d_pickF | exact d_cmpT | exact d_cmpF | exact d_fieldAddr (fld _ _ _ _ rfl) (isz _ _ rfl) | exact d_load (und _ _ rfl) c6); clear hF; clear a; intro a hF) | ((apply stm hF); clear hF; clear a; intro a hF) | (apply c_cond_t hF; exact rfl; first | exact rfl | assumption))
      refine ret2 hF rfl rfl rfl ⟨?_, hb1⟩
      rw [hE]
      rfl
  by_cases h3 : start < 0 ∨ 63 < start
  · have hE : Pl.bitsOfSig start size mot = .error 16 := by unfold Pl.bitsOfSig; rw [if_neg h1, if_pos h3]
    by_cases h2 : start < 0
    all_goals
      repeat (first | refine c_seq ?_ | refine c_region _ ?_ | refine wpList_nil ?_ | refine c_then ?_ | refine c_then_ret ?_ | refine wp_skip ?_ | refine wp_ret ?_ | ((first | apply st hF | apply stg hF); (first | exact d_move | exact d_assign | exact d_pickT | exact d_pickF | exact d_cmpT | exact d_cmpF | exact d_fieldAddr (fld _ _ _ _ rfl) (isz _ _ rfl) | exact d_load (und _ _ rfl) c5 | exact d_load (und _ _ rfl) c6); clear hF; clear a; intro a hF) | ((apply stm hF); clear hF; clear a; intro a hF) | (apply c_cond_t hF; exact rfl; first | exact rfl | assumption) | (apply c_cond_f hF; exact rfl; first | exact rfl | assumption))
      refine ret2 hF rfl rfl rfl ⟨?_, hb1⟩
      rw [hE]
      rfl
  have hE : Pl.bitsOfSig start size mot = if (Pl.seqB mot start size.toNat).all (· ≤ 63) then .ok (if mot then (Pl.seqB mot start size.toNat).reverse else Pl.seqB mot start size.toNat) else .error 16 := by unfold Pl.bitsOfSig; rw [if_neg h1, if_neg h3]
  obtain ⟨S, hS⟩ : ∃ S : Nat, size = (S : Int) := ⟨size.toNat, by omega⟩
  subst hS
  rw [Int.toNat_natCast] at hE
  repeat (first | refine c_seq ?_ | refine c_block ?_ | refine c_region _ ?_ | refine wpList_nil ?_ | refine c_then ?_ | refine wp_skip ?_ | ((first | apply st hF | apply stg hF); (first | exact d_move | exact d_assign | exact d_pickF | exact d_cmpF | exact d_fieldAddr (fld _ _ _ _ rfl) (isz _ _ rfl) | exact d_load (und _ _ rfl) c5 | exact d_load (und _ _ rfl) c6); clear hF; clear a; intro a hF) | (apply c_cond_f hF; exact rfl; first | exact rfl | assumption))
  refine c_loop (fun n a wr => ∃ k ao' cap', k ≤ S ∧ n = S - k ∧ Fr 48 [(1, .pointer (some ⟨w.heap.size, 0, none⟩)), (4, .slice ao' k cap'), (5, .int .i64 (Pl.nth mot start k)), (6, .int .i64 (k : Nat))] a ∧
    (Pl.seqB mot start k).all (· ≤ 63) = true ∧ 0 ≤ Pl.nth mot start k ∧ Pl.nth mot start k ≤ 78 ∧
    wr.ownsRow w.heap.size 3 1 (.slice ao' k cap') k ((rowR mot start k).map (.int .i64)) ∧ wr.heap[w.heap.size]? = some (.cells cs 38 (0, 0)) ∧ Below w.heap.size w wr) S
    ⟨0, none, 0, by omega, rfl, hF.keep' ⟨rfl, rfl, rfl, rfl, trivial⟩, rfl, by simp only [Pl.nth]; omega, by simp only [Pl.nth]; omega, (by have : rowR mot start 0 = [] := by unfold rowR; cases mot <;> rfl
                                                                                                                                             rw [this]; exact World.ownsRow_nil _ _ _ _), hsb, hb1⟩ ?_
  clear hF a c5 c6 hb1 hsb
  rintro n a wr ⟨k, ao', cap', hk, rfl, hF, hall, hn0, hn1, hown, hsb0, hbel⟩
  have hz := hbel.size
  have c6 : wr.cell? ⟨w.heap.size, 6, none⟩ = some (.int .i64 (S : Int)) := cell_at hsb0 hs.sz
  have c7 : wr.cell? ⟨w.heap.size, 7, none⟩ = some (.bool mot) := cell_at hsb0 hs.mo
  by_cases hlt : k < S
  · by_cases hbig : 63 < Pl.nth mot start k
    · repeat (first | refine c_seq ?_ | refine c_block ?_ | refine c_region _ ?_ | refine wpList_nil ?_ | refine c_then ?_ | refine c_then_ret ?_ | refine c_in_ret ?_ | refine wp_skip ?_ | refine wp_ret ?_ | ((apply st hF); (first | exact d_move | exact d_assign | exact d_cmpT | exact d_fieldAddr (fld _ _ _ _ rfl) (isz _ _ rfl) | exact d_load (und _ _ rfl) c6); clear hF; clear a; intro a hF) | (apply c_cond_t hF; exact rfl; first | exact rfl | assumption))
      refine ret2 hF rfl rfl rfl ⟨?_, hbel⟩
      rw [hE, Pl.all_take hlt hbig]
      rfl
    · have hbb := Pl.nextB_bounds (mot := mot) hn0 (by omega)
      have hall2 : (Pl.seqB mot start (k + 1)).all (· ≤ 63) = true := by
        rw [Pl.seqB_snoc', List.all_append, hall]
        simp; omega
      cases mot with
      | true =>
        repeat (first | refine c_seq ?_ | refine c_block ?_ | refine c_region _ ?_ | refine wpList_nil ?_ | refine c_then ?_ | refine wp_skip ?_ | ((apply st hF); (first | exact d_move | exact d_cmpT | exact d_cmpF | exact d_fieldAddr (fld _ _ _ _ rfl) (isz _ _ rfl) | exact d_load (und _ _ rfl) c6 | exact d_load (und _ _ rfl) c7); clear hF; clear a; intro a hF) | (apply c_cond_t hF; exact rfl; first | exact rfl | assumption) | (apply c_cond_f hF; exact rfl; first | exact rfl | assumption))
        refine st hF (d_build1 (by_ := 8) (und _ _ rfl) inf3 rfl) (k := fun a hF => ?_)
        have hg1 : (wr.alloc (.cells #[.int .i64 (Pl.nth true start k)] 3)).heap[wr.heap.size]? = some (.cells #[.int .i64 (Pl.nth true start k)] 3 (0, 0)) := heap_alloc_new wr _
        have hgr1 : wr.grownBy (wr.alloc (.cells #[.int .i64 (Pl.nth true start k)] 3)) none := World.grownBy_alloc _ _ _
        generalize wr.alloc (.cells #[.int .i64 (Pl.nth true start k)] 3) = w2 at *
        have hz2 := hgr1.size
        have hown1 : w2.ownsRow w.heap.size 3 1 (.slice (some ⟨wr.heap.size, 0, none⟩) 1 1) 1 [.int .i64 (Pl.nth true start k)] := ⟨rfl, .inr ⟨_, _, _, rfl, hz, hg1, Nat.le_refl _, by decide, rfl, rfl⟩⟩
        have hownl := own_grown hown hgr1
        obtain ⟨_, hR⟩ := own_rd hownl
        repeat (((apply st hF); (exact d_move); clear hF; clear a; intro a hF))
        refine st_append hF (und _ _ rfl) inf3 rfl hown1 (rowR_len true start k) hR (fun _ => rfl) (by omega) (by unfold maxLen; omega) (by omega) (k := fun a ao2 cap2 w3 hown2 hgr2 hF => ?_)
        have hb2 : Below w.heap.size w w2 := hbel.grown hgr1 hz (fun k hk => by cases hk)
        have hb3 : Below w.heap.size w w3 := hb2.grown hgr2 (by omega) (fun k hk => by simp only [Value.ownBlock, Option.some.injEq] at hk; omega)
        have hsb3 := blk_kept (blk_kept hsb0 hgr1 (by simp)) hgr2 (by have := lt_at hsb0; simp only [Value.ownBlock, ne_eq, Option.some.injEq]; omega)
        have hrow : [Value.int .i64 (Pl.nth true start k)] ++ (rowR true start k).map (.int .i64) = (rowR true start (k + 1)).map (.int .i64) := by
          simp [rowR, Pl.seqB_snoc']
        rw [hrow, Nat.add_comm 1 k] at hown2
        rw [Nat.add_comm 1 k] at hF
        repeat (first | refine c_region _ ?_ | refine wpList_nil ?_ | refine c_then ?_ | ((apply st hF); (first | exact d_move | exact d_assign); clear hF; clear a; intro a hF))
        refine stc hF (nextR_ok w3 _ hn0 (by omega)) cal108 ⟨rfl, trivial⟩ (k := fun a v w4 hR hF => ?_)
        obtain ⟨rfl, rfl⟩ := hR
        repeat (first | refine c_region _ ?_ | refine wpList_nil ?_ | refine c_then ?_ | refine c_in ?_ | ((apply st hF); (first | exact d_move | exact d_assign | exact d_add); clear hF; clear a; intro a hF))
        exact ⟨S - (k + 1), by omega, k + 1, ao2, cap2, by omega, rfl, hF.keep' ⟨rfl, rfl, rfl, rfl, trivial⟩, hall2, hbb.1, hbb.2, hown2, hsb3, hb3⟩
      | false =>
        repeat (first | refine c_seq ?_ | refine c_block ?_ | refine c_region _ ?_ | refine wpList_nil ?_ | refine c_then ?_ | refine wp_skip ?_ | ((apply st hF); (first | exact d_move | exact d_cmpT | exact d_cmpF | exact d_fieldAddr (fld _ _ _ _ rfl) (isz _ _ rfl) | exact d_load (und _ _ rfl) c6 | exact d_load (und _ _ rfl) c7); clear hF; clear a; intro a hF) | (apply c_cond_t hF; exact rfl; first | exact rfl | assumption) | (apply c_cond_f hF; exact rfl; first | exact rfl | assumption))
        refine st_push hF (und _ _ rfl) inf3 rfl hown (by omega) (by unfold maxLen; omega) hz (k := fun a ao2 cap2 w3 hown2 hgr2 hF => ?_)
        have hrow : (rowR false start k).map (.int .i64) ++ [Value.int .i64 (Pl.nth false start k)] = (rowR false start (k + 1)).map (.int .i64) := by
          simp [rowR, Pl.seqB_snoc']
        rw [hrow] at hown2
        have hb3 := below_own hbel hz hown hgr2
        have hne : some w.heap.size ≠ (Value.slice ao' k cap').ownBlock := own_ne hown hsb0 (by decide)
        have hsb3 := blk_kept hsb0 hgr2 hne
        have hnx : Pl.nth false start (k + 1) = Pl.nth false start k + 1 := rfl
        repeat (first | refine c_region _ ?_ | refine wpList_nil ?_ | refine c_then ?_ | refine c_in ?_ | ((apply st hF); (first | exact d_move | exact d_assign | exact d_add); clear hF; clear a; intro a hF))
        refine ⟨S - (k + 1), by omega, k + 1, ao2, cap2, by omega, rfl, ?_, hall2, hbb.1, hbb.2, hown2, hsb3, hb3⟩
        rw [hnx]
        exact hF.keep' ⟨rfl, rfl, rfl, rfl, trivial⟩
  · obtain rfl : k = S := by omega
    repeat (first | refine c_seq ?_ | refine c_region _ ?_ | refine wpList_nil ?_ | refine c_then ?_ | refine c_then_exit ?_ | refine c_in_hit ?_ | refine wp_exit ?_ | refine wp_ret ?_ | ((apply st hF); (first | exact d_move | exact d_assign | exact d_cmpF | exact d_fieldAddr (fld _ _ _ _ rfl) (isz _ _ rfl) | exact d_load (und _ _ rfl) c6); clear hF; clear a; intro a hF) | (apply c_cond_f hF; exact rfl; first | exact rfl | assumption))
    refine ret2 hF rfl rfl rfl ⟨?_, hbel⟩
    rw [hE, hall, if_pos rfl]
    refine ⟨ao', cap', ?_, ?_⟩
    · rw [show (if mot = true then (Pl.seqB mot start k).reverse else Pl.seqB mot start k) = rowR mot start k from rfl, rowR_len]
    · rw [show (if mot = true then (Pl.seqB mot start k).reverse else Pl.seqB mot start k) = rowR mot start k from rfl, rowR_len]
      exact hown

theorem bits_le {start size : Int} {mot : Bool} {l : List Int} (h : Pl.bitsOfSig start size mot = .ok l) : l.length ≤ 64 ∧ ∀ x ∈ l, 0 ≤ x ∧ x ≤ 63 := by
  unfold Pl.bitsOfSig at h
  split at h
  · cases h
  · split at h
    · cases h
    · split at h
      · rename_i h1 h2 h3
        simp only [Except.ok.injEq] at h
        have hm : ∀ x ∈ Pl.seqB mot start size.toNat, 0 ≤ x ∧ x ≤ 63 := by
          intro x hx
          have hx2 : x ≤ 63 := by simpa using List.all_eq_true.1 h3 x hx
          obtain ⟨i, hi, rfl⟩ := Pl.seqB_mem hx
          refine ⟨?_, hx2⟩
          have := (Pl.pos_ge mot start).2 (by omega)
          exact (Pl.pos_ge mot _).2 (by omega)
        subst h
        refine ⟨by split <;> simp [Pl.seqB_len] <;> omega, fun x hx => hm x ?_⟩
        split at hx
        · exact List.mem_reverse.1 hx
        · exact hx
      · cases h

end Go.Proofs.YtjomihhpglojpaaDoor
end
section
/- The plain laws of bits and sets: lists alone; no program in sight. -/
namespace Go.Proofs.YtjomihhpglojpaaDoor.Pl

/-! ### payloads -/
def setBit (b k : Nat) (on : Bool) : Nat := if on then andNotN b (2 ^ k) ||| 2 ^ k else andNotN b (2 ^ k)
theorem setBit_bit (b k j : Nat) (on : Bool) : (setBit b k on).testBit j = if j = k then on else b.testBit j := by
  unfold setBit
  cases on
  · simp only [Bool.false_eq_true, if_false, andNotN_bit, Nat.testBit_two_pow]
    by_cases e : k = j
    · subst e; simp
    · have : ¬ j = k := fun x => e x.symm
      simp [e, this]
  · simp only [if_true, Nat.testBit_or, andNotN_bit, Nat.testBit_two_pow]
    by_cases e : k = j
    · subst e; simp
    · have : ¬ j = k := fun x => e x.symm
      simp [e, this]
theorem setBit_lt {b k : Nat} {on : Bool} (hb : b < 256) (hk : k < 8) : setBit b k on < 256 := by
  have h1 : andNotN b (2 ^ k) < 2 ^ 8 := andNotN_lt hb
  have h2 : 2 ^ k < 2 ^ 8 := Nat.pow_lt_pow_right (by decide) hk
  unfold setBit
  cases on
  · exact h1
  · exact Nat.or_lt_two_pow h1 h2
def bitAt (p : List Nat) (i : Nat) : Bool := (p.getD (i / 8) 0).testBit (i % 8)
def getB (p : List Nat) (i : Int) : Except Int Bool :=
  if 8 < p.length then .error 15 else if 0 ≤ i ∧ i < 8 * p.length then .ok (bitAt p i.toNat) else .error 16
def putB (p : List Nat) (i : Nat) (on : Bool) : List Nat := p.set (i / 8) (setBit (p.getD (i / 8) 0) (i % 8) on)
theorem putB_len (p : List Nat) (i : Nat) (on : Bool) : (putB p i on).length = p.length := by simp [putB]
theorem putB_lt {p : List Nat} {i : Nat} {on : Bool} (hp : ∀ x ∈ p, x < 256) (hi : i < 8 * p.length) : ∀ x ∈ putB p i on, x < 256 := by
  intro x hx
  unfold putB at hx
  rcases List.mem_or_eq_of_mem_set hx with h | rfl
  · exact hp x h
  · refine setBit_lt ?_ (Nat.mod_lt _ (by decide))
    have : i / 8 < p.length := by omega
    rw [List.getD_eq_getElem?_getD, List.getElem?_eq_getElem this]
    exact hp _ (List.getElem_mem _)
theorem bitAt_putB {p : List Nat} {i j : Nat} {on : Bool} (hi : i < 8 * p.length) : bitAt (putB p i on) j = if j = i then on else bitAt p j := by
  unfold bitAt putB
  have hlt : i / 8 < p.length := by omega
  by_cases e : i / 8 = j / 8
  · rw [List.getD_eq_getElem?_getD, ← e, List.getElem?_set_self hlt]
    simp only [Option.getD_some, setBit_bit]
    by_cases e2 : j = i
    · subst e2; simp
    · have : ¬ j % 8 = i % 8 := by omega
      simp only [if_neg e2, if_neg this]
  · have : ¬ j = i := by intro x; subst x; exact e rfl
    rw [List.getD_eq_getElem?_getD, List.getElem?_set_ne e, if_neg this, List.getD_eq_getElem?_getD]
theorem bytes_ext {p q : List Nat} (hl : p.length = q.length) (hp : ∀ x ∈ p, x < 256) (hq : ∀ x ∈ q, x < 256) (h : ∀ i, i < 8 * p.length → bitAt p i = bitAt q i) : p = q := by
  apply List.ext_getElem hl
  intro k h1 h2
  apply Nat.eq_of_testBit_eq
  intro j
  by_cases hj : j < 8
  · have := h (8 * k + j) (by omega)
    unfold bitAt at this
    rw [show (8 * k + j) / 8 = k by omega, show (8 * k + j) % 8 = j by omega] at this
    simpa [List.getD, h1, h2] using this
  · have a1 : p[k].testBit j = false := Nat.testBit_lt_two_pow (Nat.lt_of_lt_of_le (hp _ (List.getElem_mem _)) (by have := Nat.pow_le_pow_right (show 0 < 2 by decide) (show 8 ≤ j by omega); simpa using this))
    have a2 : q[k].testBit j = false := Nat.testBit_lt_two_pow (Nat.lt_of_lt_of_le (hq _ (List.getElem_mem _)) (by have := Nat.pow_le_pow_right (show 0 < 2 by decide) (show 8 ≤ j by omega); simpa using this))
    rw [a1, a2]

/-! ### sets -/
def emptyS : List Bool := List.replicate 64 false
def addAll : List Int → List Bool → Except Int (List Bool)
  | [], s => .ok s
  | i :: r, s => if i < 0 ∨ 64 ≤ i then .error 16 else if s.getD i.toNat false = true then .error 12 else addAll r (s.set i.toNat true)
def setOf (l : List Int) : Except Int (List Bool) := addAll l emptyS
def listOf (s : List Bool) : List Int := ((List.range 64).filter fun i => s.getD i false).map fun i : Nat => (i : Int)
def cntT (s : List Bool) : Nat := s.countP (· = true)

theorem addAll_ok : ∀ {l : List Int} {s s' : List Bool}, s.length = 64 → addAll l s = .ok s' →
    s'.length = 64 ∧ cntT s' = cntT s + l.length ∧ (∀ x ∈ l, 0 ≤ x ∧ x < 64) ∧ ∀ i : Nat, s'.getD i false = (s.getD i false || decide ((i : Int) ∈ l))
  | [], s, s', hl, h => by
    simp only [addAll, Except.ok.injEq] at h
    subst h
    exact ⟨hl, by simp, by simp, by simp⟩
  | i :: r, s, s', hl, h => by
    simp only [addAll] at h
    split at h
    · cases h
    · rename_i h1
      split at h
      · cases h
      · rename_i h2
        obtain ⟨a1, a2, a3, a4⟩ := addAll_ok (l := r) (s := s.set i.toNat true) (by simpa using hl) h
        have hi : i.toNat < s.length := by omega
        refine ⟨a1, ?_, ?_, ?_⟩
        · rw [a2]
          unfold cntT
          rw [List.countP_set hi]
          have : s[i.toNat] = false := by
            have : s.getD i.toNat false = s[i.toNat] := by simp [List.getD, hi]
            rw [this] at h2
            simpa using h2
          simp [this]
          omega
        · intro x hx
          rcases List.mem_cons.1 hx with rfl | hx
          · omega
          · exact a3 x hx
        · intro j
          rw [a4 j]
          by_cases e : i.toNat = j
          · subst e
            have e2 : ((i.toNat : Nat) : Int) = i := by omega
            rw [e2]
            simp [List.getD, hi]
          · have e2 : ¬ (j : Int) = i := by omega
            have e3 : (s.set i.toNat true).getD j false = s.getD j false := by simp [List.getD, List.getElem?_set_ne e]
            rw [e3]
            simp [e2]
theorem addAll_can : ∀ {l : List Int} {s : List Bool}, s.length = 64 → l.Nodup → (∀ x ∈ l, 0 ≤ x ∧ x < 64 ∧ s.getD x.toNat false = false) → ∃ s', addAll l s = .ok s'
  | [], s, _, _, _ => ⟨s, rfl⟩
  | i :: r, s, hl, hn, h => by
    have hi := h i (by simp)
    have hn' := List.nodup_cons.1 hn
    obtain ⟨s', hs'⟩ := addAll_can (l := r) (s := s.set i.toNat true) (by simpa using hl) hn'.2 (fun x hx => by
      have hx' := h x (by simp [hx])
      refine ⟨hx'.1, hx'.2.1, ?_⟩
      have hne : ¬ i.toNat = x.toNat := by
        intro e
        have : i = x := by omega
        subst this
        exact hn'.1 hx
      have e3 : (s.set i.toNat true).getD x.toNat false = s.getD x.toNat false := by simp [List.getD, List.getElem?_set_ne hne]
      rw [e3]; exact hx'.2.2)
    refine ⟨s', ?_⟩
    rw [addAll, if_neg (by omega), if_neg (by rw [hi.2.2]; simp), hs']
theorem listOf_mem {s : List Bool} {x : Int} : x ∈ listOf s ↔ 0 ≤ x ∧ x < 64 ∧ s.getD x.toNat false = true := by
  unfold listOf
  simp only [List.mem_map, List.mem_filter, List.mem_range]
  constructor
  · rintro ⟨i, ⟨h1, h2⟩, rfl⟩
    exact ⟨by omega, by omega, by simpa using h2⟩
  · rintro ⟨h1, h2, h3⟩
    exact ⟨x.toNat, ⟨by omega, h3⟩, by omega⟩
theorem listOf_nodup (s : List Bool) : (listOf s).Nodup := by
  unfold listOf
  refine List.Pairwise.map _ ?_ (List.nodup_range.filter _)
  intro a b h e
  exact h (by omega)
theorem emptyS_get (i : Nat) : emptyS.getD i false = false := by
  unfold emptyS
  simp only [List.getD_eq_getElem?_getD, List.getElem?_replicate]
  split <;> rfl
theorem bools_ext {s t : List Bool} (h1 : s.length = 64) (h2 : t.length = 64) (h : ∀ i : Nat, i < 64 → s.getD i false = t.getD i false) : s = t := by
  apply List.ext_getElem (by omega)
  intro i g1 g2
  have := h i (by omega)
  simpa [List.getD, g1, g2] using this
theorem setOf_listOf {s : List Bool} (hs : s.length = 64) : setOf (listOf s) = .ok s := by
  obtain ⟨s', h'⟩ := addAll_can (l := listOf s) (s := emptyS) (by simp [emptyS]) (listOf_nodup s) (fun x hx => ⟨(listOf_mem.1 hx).1, (listOf_mem.1 hx).2.1, emptyS_get _⟩)
  obtain ⟨a1, _, _, a4⟩ := addAll_ok (by simp [emptyS]) h'
  unfold setOf
  rw [h']
  congr 1
  refine bools_ext a1 hs fun i hi => ?_
  rw [a4 i, emptyS_get, Bool.false_or, Bool.eq_iff_iff, decide_eq_true_eq, listOf_mem]
  simp
  omega
theorem cntT_empty : cntT emptyS = 0 := by decide
theorem setOf_ok {l : List Int} {s : List Bool} (h : setOf l = .ok s) : s.length = 64 ∧ cntT s = l.length ∧ (∀ x ∈ l, 0 ≤ x ∧ x < 64 ∧ s.getD x.toNat false = true) := by
  obtain ⟨a1, a2, a3, a4⟩ := addAll_ok (by simp [emptyS]) h
  refine ⟨a1, by rw [a2, cntT_empty]; omega, fun x hx => ⟨(a3 x hx).1, (a3 x hx).2, ?_⟩⟩
  rw [a4, emptyS_get]
  have : ((x.toNat : Nat) : Int) = x := by have := (a3 x hx).1; omega
  rw [this]
  simp [hx]
theorem listOf_len {s : List Bool} (hs : s.length = 64) : (listOf s).length = cntT s := by
  have := setOf_ok (setOf_listOf hs)
  exact this.2.1.symm

/-! ### one set, made of two, bit by bit -/
def zipS (f : Bool → Bool → Bool) (a b : List Bool) : List Bool := (List.range 64).map fun i => f (a.getD i false) (b.getD i false)
def zipTo (f : Bool → Bool → Bool) (a b : List Bool) (k : Nat) : List Bool := (List.range 64).map fun i => if i < k then f (a.getD i false) (b.getD i false) else a.getD i false
theorem zipTo_len (f : Bool → Bool → Bool) (a b : List Bool) (k : Nat) : (zipTo f a b k).length = 64 := by simp [zipTo]
theorem zipTo_get (f : Bool → Bool → Bool) (a b : List Bool) (k i : Nat) (h : i < 64) : (zipTo f a b k)[i]'(by rw [zipTo_len]; exact h) = if i < k then f (a.getD i false) (b.getD i false) else a.getD i false := by simp [zipTo]
theorem zipTo_zero (f : Bool → Bool → Bool) {a : List Bool} (b : List Bool) (ha : a.length = 64) : zipTo f a b 0 = a := by
  apply List.ext_getElem (by rw [zipTo_len, ha])
  intro i h1 h2
  rw [zipTo_get _ _ _ _ _ (by omega), if_neg (by omega)]
  simp [List.getD, h2]
theorem zipTo_end (f : Bool → Bool → Bool) (a b : List Bool) : zipTo f a b 64 = zipS f a b := by
  unfold zipTo zipS
  apply List.map_congr_left
  intro i hi
  simp at hi
  simp [hi]
theorem zipTo_succ (f : Bool → Bool → Bool) (a b : List Bool) (k : Nat) (h : k < 64) : (zipTo f a b k).set k (f (a.getD k false) (b.getD k false)) = zipTo f a b (k + 1) := by
  apply List.ext_getElem (by simp [zipTo])
  intro i h1 h2
  rw [zipTo_len] at h2
  rw [zipTo_get _ _ _ _ _ h2, List.getElem_set]
  by_cases e : k = i
  · subst e; simp
  · rw [if_neg e, zipTo_get _ _ _ _ _ h2]
    by_cases e2 : i < k
    · rw [if_pos e2, if_pos (by omega)]
    · rw [if_neg e2, if_neg (by omega)]
theorem zipS_len (f : Bool → Bool → Bool) (a b : List Bool) : (zipS f a b).length = 64 := by simp [zipS]
theorem zipS_get (f : Bool → Bool → Bool) (a b : List Bool) (i : Nat) (h : i < 64) : (zipS f a b).getD i false = f (a.getD i false) (b.getD i false) := by simp [zipS, List.getD, h]
theorem zipS_comm (f : Bool → Bool → Bool) (hf : ∀ x y, f x y = f y x) (a b : List Bool) : zipS f a b = zipS f b a := by
  unfold zipS
  apply List.map_congr_left
  intro i _
  exact hf _ _
theorem zipS_self (f : Bool → Bool → Bool) (hf : ∀ x, f x x = x) {a : List Bool} (ha : a.length = 64) : zipS f a a = a := by
  refine bools_ext (zipS_len _ _ _) ha fun i hi => ?_
  rw [zipS_get _ _ _ _ hi, hf]
end Go.Proofs.YtjomihhpglojpaaDoor.Pl
end
