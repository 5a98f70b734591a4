/- Laid together by a program of mine: RatW RatC. -/
import Derived.Test.YtjomihhpglojpaaGreatDoorSumLawDatabaseS7
import Derived.Test.YtjomihhpglojpaaGreatDoorSumLawDatabaseS9
import Derived.Test.YtjomihhpglojpaaGreatDoorSumLawDatabaseS6
set_option linter.unusedSimpArgs false
set_option linter.unusedVariables false
section
/- rat.gcd, size, Right, Cmp; the reference's size, Right: walked. -/
namespace Go.Proofs.YtjomihhpglojpaaGreatDoor
open Go.RowKit
section
variable {P : Program} {w : World} {l : List (Nat × Value)}
theorem d_negw {k : IntKind} {x : Operand} {m : Int} {t ty : TypeId} (hx : Ev l x (.int k m) := by exact rfl) : Does P l w (.unOp .neg t x) ty (.int k (k.wrap (0 - m))) w := by
  intro ρ hρ d pos af g
  simp only [execOp, hρ _ _ hx, Op.unary, Op.intArith]
  simp
end
open Go.RowKit
set_option linter.unusedSimpArgs false
set_option linter.unusedVariables false
attribute [local irreducible] wpList wpQuiet wpStill Code.wp Exit.then Exit.inBlock bodyPost Calls Does Does0
open Nn
theorem wrap_64 (n : Int) : IntKind.u64.wrap n = n % 18446744073709551616 := by
  unfold IntKind.wrap
  simp only [IntKind.signed, IntKind.bits, Bool.false_and, Bool.false_eq_true, if_false]
  rfl
theorem wrap_neg {n : Int} (h : n < 0) (hl : -9223372036854775808 ≤ n) : IntKind.u64.wrap n = n + 18446744073709551616 := by rw [wrap_64]; omega
theorem wrap_pos {n : Int} (h : 0 ≤ n) (hl : n ≤ 9223372036854775807) : IntKind.u64.wrap n = n := by rw [wrap_64]; omega
theorem gcd_ok (w : World) (x y : Nat) (hx : x < 18446744073709551616) (hy : y < 18446744073709551616) : Ret Tryz.prog 101 [.int .u64 (x : Int), .int .u64 (y : Int)].toArray w (fun v w' => v = .int .u64 ((Nat.gcd x y : Nat) : Int) ∧ Dr w w') := by
  refine enter2 Tryz.func101 rfl 10 rfl 12 rfl (fun a hF => ?_)
  repeat (first | refine c_seq ?_ | refine c_block ?_ | refine c_region _ ?_ | refine wpList_nil ?_ | refine c_then ?_ | ((apply st hF); (exact d_assign); clear hF; clear a; intro a hF))
  refine c_loop (fun q a wr => ∃ p : Nat, p < 18446744073709551616 ∧ q < 18446744073709551616 ∧ Nat.gcd p q = Nat.gcd x y ∧ Fr 12 [(0, .int .u64 (p : Int)), (1, .int .u64 (q : Int))] a ∧ Dr w wr) y
    ⟨x, hx, hy, rfl, hF.keep' ⟨rfl, rfl, trivial⟩, Dr.refl w⟩ ?_
  clear hF a
  rintro q a wr ⟨p, hp, hq, hg, hF, hdr⟩
  rcases Nat.eq_zero_or_pos q with rfl | hpos
  · repeat (first | refine c_seq ?_ | refine c_region _ ?_ | refine wpList_nil ?_ | refine c_then ?_ | refine c_then_exit ?_ | refine c_in_hit ?_ | refine wp_exit ?_ | refine wp_ret ?_ | ((apply st hF); (first | exact d_move | exact d_assign | exact d_cmpF); clear hF; clear a; intro a hF) | (apply c_cond_f hF; exact rfl; first | exact rfl | assumption))
    rw [Nat.gcd_zero_right] at hg
    exact ret1 hF rfl rfl ⟨by rw [hg], hdr⟩
  · repeat (first | refine c_seq ?_ | refine c_block ?_ | refine c_region _ ?_ | refine wpList_nil ?_ | refine c_then ?_ | refine c_in ?_ | refine wp_skip ?_ | (refine q_nil ?_; rintro _ ⟨ndr, rfl⟩) | refine c_region_draw _ mixed (by kernel_rfl) ?_ | ((apply st hF); (first | exact d_move | exact d_cmpT); clear hF; clear a; intro a hF) | ((apply q_step hF); intro wq hwq; (first | exact d_move | exact d_assign | exact d_remN (ha := hp) (hb := hpos)); clear hF; clear a; intro a hF) | (apply c_cond_t hF; exact rfl; first | exact rfl | assumption))
    exact ⟨p % q, Nat.mod_lt _ hpos, q, hq, by have := Nat.mod_lt p hpos; omega, by rw [← hg, Nat.gcd_comm q, ← Nat.gcd_rec, Nat.gcd_comm], hF.keep' ⟨rfl, rfl, trivial⟩, by first | exact hdr | exact hdr.more _⟩
theorem size_ok (w : World) (n : Int) (h : -9223372036854775808 ≤ n ∧ n ≤ 9223372036854775807) : Ret Tryz.prog 102 [.int .i64 n].toArray w (fun v w' => v = .int .u64 ((n.natAbs : Nat) : Int) ∧ w' = w) := by
  refine enter1 Tryz.func102 rfl 9 rfl 10 rfl (fun a hF => ?_)
  by_cases hn : n < 0
  · have e1 := wrap_neg hn h.1
    have e2 : IntKind.u64.wrap (0 - (n + 18446744073709551616)) = ((n.natAbs : Nat) : Int) := by
      rw [wrap_64]; omega
    repeat (first | refine c_seq ?_ | refine c_region _ ?_ | refine wpList_nil ?_ | refine c_then ?_ | refine c_then_ret ?_ | refine wp_ret ?_ | ((apply st hF); (first | exact d_move | exact d_assign | exact d_cmpT | exact d_convI (und _ _ rfl) (und _ _ rfl) (hm := e1) | exact d_negw); clear hF; clear a; intro a hF) | (apply c_cond_t hF; exact rfl; first | exact rfl | assumption))
    rw [e2] at hF
    exact ret1 hF rfl rfl ⟨rfl, rfl⟩
  · have e1 := wrap_pos (n := n) (by omega) h.2
    have e2 : n = ((n.natAbs : Nat) : Int) := by omega
    repeat (first | refine c_seq ?_ | refine c_region _ ?_ | refine wpList_nil ?_ | refine c_then ?_ | refine wp_skip ?_ | refine wp_ret ?_ | ((apply st hF); (first | exact d_move | exact d_assign | exact d_cmpF | exact d_convI (und _ _ rfl) (und _ _ rfl) (hm := e1)); clear hF; clear a; intro a hF) | (apply c_cond_f hF; exact rfl; first | exact rfl | assumption))
    exact ret1 hF rfl rfl ⟨by rw [← e2], rfl⟩
theorem rsize_ok (w : World) (n : Int) (h : -9223372036854775808 ≤ n ∧ n ≤ 9223372036854775807) : Ret Tryz.prog 81 [.int .i64 n].toArray w (fun v w' => v = .int .u64 ((n.natAbs : Nat) : Int) ∧ w' = w) := by
  refine enter1 Tryz.func81 rfl 11 rfl 12 rfl (fun a hF => ?_)
  by_cases hn : n < 0
  · have e1 := wrap_pos (n := 0 - (n + 1)) (by omega) (by omega)
    have e2 : (0 - (n + 1) : Int) = ((n.natAbs - 1 : Nat) : Int) := by omega
    have e3 : n.natAbs - 1 + 1 < 2 ^ IntKind.u64.bits := by show _ < 18446744073709551616; omega
    have e4 : n.natAbs - 1 + 1 = n.natAbs := by omega
    repeat (first | refine c_seq ?_ | refine c_region _ ?_ | refine wpList_nil ?_ | refine c_then ?_ | refine c_then_ret ?_ | refine wp_ret ?_ | ((apply st hF); (first | exact d_move | exact d_assign | exact d_add | exact d_cmpT | exact d_neg (h := by omega) | exact d_convI (und _ _ rfl) (und _ _ rfl) (hm := e1) | exact d_addN (a := n.natAbs - 1) (b := 1) (hp := e2) (h := e3)); clear hF; clear a; intro a hF) | (apply c_cond_t hF; exact rfl; first | exact rfl | assumption))
    rw [e4] at hF
    exact ret1 hF rfl rfl ⟨rfl, rfl⟩
  · have e1 := wrap_pos (n := n) (by omega) h.2
    have e2 : n = ((n.natAbs : Nat) : Int) := by omega
    repeat (first | refine c_seq ?_ | refine c_region _ ?_ | refine wpList_nil ?_ | refine c_then ?_ | refine wp_skip ?_ | refine wp_ret ?_ | ((apply st hF); (first | exact d_move | exact d_assign | exact d_cmpF | exact d_convI (und _ _ rfl) (und _ _ rfl) (hm := e1)); clear hF; clear a; intro a hF) | (apply c_cond_f hF; exact rfl; first | exact rfl | assumption))
    exact ret1 hF rfl rfl ⟨by rw [← e2], rfl⟩
set_option maxHeartbeats 2000000 in
theorem right_ok (w : World) (n d : Int) (hn : -9223372036854775808 ≤ n ∧ n ≤ 9223372036854775807) (hd : -9223372036854775808 ≤ d ∧ d ≤ 9223372036854775807) :
    Ret Tryz.prog 76 [.agg #[.int .i64 n, .int .i64 d]].toArray w (fun v w' => v = .bool (rightB n d) ∧ Below w.heap.size w w') := by
  refine enter1 Tryz.func76 rfl 15 rfl 16 rfl (fun a hF => ?_)
  repeat (first | refine c_seq ?_ | refine c_region _ ?_)
  refine st_box hF (cs := #[.int .i64 n, .int .i64 d]) rfl (k := fun a w1 hg1 hgr1 hsz1 hF => ?_)
  have hb1 : Below w.heap.size w w1 := (Below.refl _ w).grown hgr1 (Nat.le_refl _) (fun k hk => by cases hk)
  have c0 : ∀ wq : World, wq.heap[w.heap.size]? = some (.cells #[.int .i64 n, .int .i64 d] 60 (0, 0)) → wq.cell? ⟨w.heap.size, 0 + 0, none⟩ = some (.int .i64 n) := fun wq h => cell_at h rfl
  have c1 : ∀ wq : World, wq.heap[w.heap.size]? = some (.cells #[.int .i64 n, .int .i64 d] 60 (0, 0)) → wq.cell? ⟨w.heap.size, 0 + 1, none⟩ = some (.int .i64 d) := fun wq h => cell_at h rfl
  repeat (first | (refine c_region_mix (fun wq => wq.heap[w.heap.size]? = some (.cells #[.int .i64 n, .int .i64 d] 60 (0, 0))) [(0, true), (1, true), (2, true), (3, true), (4, true), (5, true), (7, true), (8, true), (9, true), (6, false), (10, false), (11, true), (12, true), (13, true)] 1 mixed (by kernel_rfl) hg1 ?_; simp only [pickX, List.filterMap_cons, List.getElem?_cons_zero, List.getElem?_cons_succ, List.filterMap_nil, Option.map_some]) | refine c_seq ?_ | refine wpList_nil ?_ | refine c_then ?_ | ((apply st hF); (exact d_assign); clear hF; clear a; intro a hF))
  have hdb : Below w.heap.size w (w1.drewN 1) := below_more hb1 1
  have hgD : (w1.drewN 1).heap[w.heap.size]? = some (.cells #[.int .i64 n, .int .i64 d] 60 (0, 0)) := hg1
  by_cases h1 : 1 ≤ d
  · have e2 := wrap_pos (n := d) (by omega) hd.2
    have e3 : d = ((d.natAbs : Nat) : Int) := by omega
    repeat (((first | apply x_step hF | apply x_stg hF); intro wq hwq; (first | exact d_move | exact d_cmpT | exact d_fieldAddr (fld _ _ _ _ rfl) (isz _ _ rfl) | exact d_convI (und _ _ rfl) (und _ _ rfl) (hm := e2) | exact d_load (und _ _ rfl) (c0 wq hwq) | exact d_load (und _ _ rfl) (c1 wq hwq)); clear hF; clear a; intro a hF))
    refine x_one ?_
    refine stcg hF (size_ok _ n hn) cal102 ⟨rfl, trivial⟩ (k := fun a v w2 hR hF => ?_)
    obtain ⟨rfl, rfl⟩ := hR
    refine wpList_nil ⟨rfl, hgD, ?_⟩
    skip
    refine x_one ?_
    have hx : n.natAbs < 18446744073709551616 := by omega
    have hy : d.natAbs < 18446744073709551616 := by omega
    refine stcg hF (vs := [.int .u64 ((n.natAbs : Nat) : Int), .int .u64 d]) (by have := gcd_ok (w1.drewN 1) n.natAbs d.natAbs hx hy; rw [← e3] at this; exact this) cal101 ⟨rfl, rfl, trivial⟩ (k := fun a v w2 hR hF => ?_)
    obtain ⟨rfl, hdr⟩ := hR
    have hg2 := (hdr.below ((w1.drewN 1).heap.size)).block _ (lt_at hgD) |>.trans hgD
    refine wpList_nil ⟨rfl, hg2, ?_⟩
    by_cases hgc : Nat.gcd n.natAbs d.natAbs = 1
    · rw [hgc] at hF
      repeat (((first | apply x_step hF | apply x_stg hF); intro wq hwq; (first | exact d_assign | exact d_pickT | exact d_cmpT); clear hF; clear a; intro a hF))
      refine x_nil ?_
      repeat (first | refine c_then ?_ | refine wp_ret ?_)
      exact ret1 hF rfl rfl ⟨by rw [rightB, decide_eq_true ⟨h1, hgc⟩], hdb.trans (hdr.below _)⟩
    · have hne : ¬ ((Nat.gcd n.natAbs d.natAbs : Nat) : Int) = 1 := by omega
      have hb0 : (((Nat.gcd n.natAbs d.natAbs : Nat) : Int) == 1) = false := beq_eq_false_iff_ne.2 hne
      repeat (((first | apply x_step hF | apply x_stg hF); intro wq hwq; (first | exact d_assign | exact d_pickT | exact d_cmpF); clear hF; clear a; intro a hF))
      refine x_nil ?_
      repeat (first | refine c_then ?_ | refine wp_ret ?_)
      exact ret1 hF rfl rfl ⟨by rw [rightB, decide_eq_false (fun h => hgc h.2)], hdb.trans (hdr.below _)⟩
  · repeat (first | ((apply x_step hF); intro wq hwq; (first | exact d_move | exact d_cmpF | exact d_fieldAddr (fld _ _ _ _ rfl) (isz _ _ rfl) | exact d_load (und _ _ rfl) (c1 wq hwq)); clear hF; clear a; intro a hF) | ((apply x_stm hF); clear hF; clear a; intro a hF))
    refine x_one ?_
    refine stm hF (k := fun a hF => ?_)
    refine wpList_nil ⟨rfl, hgD, ?_⟩
    skip
    refine x_one ?_
    refine stm hF (k := fun a hF => ?_)
    refine wpList_nil ⟨rfl, hgD, ?_⟩
    repeat (first | ((apply x_step hF); intro wq hwq; (first | exact d_assign | exact d_pickF); clear hF; clear a; intro a hF) | ((apply x_stm hF); clear hF; clear a; intro a hF))
    refine x_nil ?_
    repeat (first | refine c_then ?_ | refine wp_ret ?_)
    exact ret1 hF rfl rfl ⟨by rw [rightB, decide_eq_false (fun h => h1 h.1)], hdb⟩
set_option maxHeartbeats 2000000 in
theorem rright_ok (w : World) (n d : Int) (hn : -9223372036854775808 ≤ n ∧ n ≤ 9223372036854775807) (hd : -9223372036854775808 ≤ d ∧ d ≤ 9223372036854775807) :
    Ret Tryz.prog 53 [.agg #[.int .i64 n, .int .i64 d]].toArray w (fun v w' => v = .bool (rightB n d) ∧ Below w.heap.size w w') := by
  refine enter1 Tryz.func53 rfl 27 rfl 28 rfl (fun a hF => ?_)
  repeat (first | refine c_seq ?_ | refine c_region _ ?_)
  refine st_box hF (cs := #[.int .i64 n, .int .i64 d]) rfl (k := fun a w1 hg1 hgr1 hsz1 hF => ?_)
  have hb1 : Below w.heap.size w w1 := (Below.refl _ w).grown hgr1 (Nat.le_refl _) (fun k hk => by cases hk)
  have c0 : ∀ wq : World, wq.heap[w.heap.size]? = some (.cells #[.int .i64 n, .int .i64 d] 60 (0, 0)) → wq.cell? ⟨w.heap.size, 0 + 0, none⟩ = some (.int .i64 n) := fun wq h => cell_at h rfl
  have c1 : ∀ wq : World, wq.heap[w.heap.size]? = some (.cells #[.int .i64 n, .int .i64 d] 60 (0, 0)) → wq.cell? ⟨w.heap.size, 0 + 1, none⟩ = some (.int .i64 d) := fun wq h => cell_at h rfl
  by_cases h1 : 1 ≤ d
  · repeat (first | (refine c_region_mix (fun wq => wq.heap[w.heap.size]? = some (.cells #[.int .i64 n, .int .i64 d] 60 (0, 0))) [(0, true), (1, true), (4, true), (5, true), (2, false), (3, false), (6, false), (7, false), (8, false), (9, true)] 3 mixed (by kernel_rfl) hg1 ?_; simp only [pickX, List.filterMap_cons, List.getElem?_cons_zero, List.getElem?_cons_succ, List.filterMap_nil, Option.map_some]) | refine c_seq ?_ | refine c_region _ ?_ | refine wpList_nil ?_ | refine c_then ?_ | refine wp_skip ?_ | ((apply st hF); (first | exact d_assign | exact d_cmpF | exact d_fieldAddr (fld _ _ _ _ rfl) (isz _ _ rfl) | exact d_load (und _ _ rfl) (c1 w1 hg1)); clear hF; clear a; intro a hF) | (apply c_cond_f hF; exact rfl; first | exact rfl | assumption))
    have hgD : (w1.drewN 1).heap[w.heap.size]? = some (.cells #[.int .i64 n, .int .i64 d] 60 (0, 0)) := hg1
    have hzD : w.heap.size < (w1.drewN 1).heap.size := lt_at hgD
    have hdb : Below w.heap.size w (w1.drewN 1) := below_more hb1 1
    generalize w1.drewN 1 = w2 at *
    clear hg1 hgr1 hsz1 hb1
    repeat (((apply x_step hF); intro wq hwq; (first | exact d_fieldAddr (fld _ _ _ _ rfl) (isz _ _ rfl) | exact d_load (und _ _ rfl) (c0 wq hwq) | exact d_load (und _ _ rfl) (c1 wq hwq)); clear hF; clear a; intro a hF))
    refine x_one ?_
    refine stc hF (rsize_ok _ n hn) cal81 ⟨rfl, trivial⟩ (k := fun a v w3 hR hF => ?_)
    obtain ⟨rfl, rfl⟩ := hR
    refine wpList_nil ⟨rfl, hgD, x_one ?_⟩
    refine stc hF (from_ok _ n.natAbs (by omega)) cal80 ⟨rfl, trivial⟩ (k := fun a v1 w4 hR hF => ?_)
    obtain ⟨hN1, hb4⟩ := hR
    have hg4 := (hb4.block _ hzD).trans hgD
    refine wpList_nil ⟨rfl, hg4, x_one ?_⟩
    refine stc hF (rsize_ok _ d hd) cal81 ⟨rfl, trivial⟩ (k := fun a v w5 hR hF => ?_)
    obtain ⟨rfl, rfl⟩ := hR
    refine wpList_nil ⟨rfl, hg4, x_one ?_⟩
    refine stc hF (from_ok _ d.natAbs (by omega)) cal80 ⟨rfl, trivial⟩ (k := fun a v2 w6 hR hF => ?_)
    obtain ⟨hN2, hb6⟩ := hR
    have z4 := hb4.size
    have hg6 := (hb6.block _ (by omega)).trans hg4
    refine wpList_nil ⟨rfl, hg6, x_one ?_⟩
    have hx : n.natAbs < B 2 := by rw [B_2]; omega
    have hy : d.natAbs < B 2 := by rw [B_2]; omega
    refine stc hF (common_ok _ _ _ v1 v2 n.natAbs d.natAbs (hN1.below hb6) hN2 hx hy) cal79 ⟨rfl, rfl, trivial⟩ (k := fun a v3 w7 hR hF => ?_)
    obtain ⟨hN3, hb7⟩ := hR
    have z6 := hb6.size
    have hg7 := (hb7.block _ (by omega)).trans hg6
    refine wpList_nil ⟨rfl, hg7, ?_⟩
    repeat (((apply x_step hF); intro wq hwq; (exact d_assign); clear hF; clear a; intro a hF))
    refine x_nil ?_
    repeat (first | refine c_seq ?_ | refine c_region _ ?_ | refine c_then ?_ | ((apply st hF); (exact d_move); clear hF; clear a; intro a hF))
    have hgl : Nat.gcd n.natAbs d.natAbs ≤ d.natAbs := Nat.gcd_le_right _ (by omega)
    have hg64 : Nat.gcd n.natAbs d.natAbs < 18446744073709551616 := by omega
    have hgB : Nat.gcd n.natAbs d.natAbs < B 100 := Nat.lt_of_lt_of_le (by rw [B_2]; exact hg64 : _ < B 2) (B_le (by decide))
    refine stc hF (word_ok _ 0 v3 _ hN3 hgB) cal82 ⟨rfl, trivial⟩ (k := fun a v w8 hR hF => ?_)
    obtain ⟨⟨m, b, rfl, hb, hm⟩, rfl⟩ := hR
    have hbt := hb.2 hg64
    subst hbt
    have hm1 := hm rfl
    subst hm1
    have hBe : Below w.heap.size w w8 := ((hdb.trans (hb4.mono (by omega))).trans (hb6.mono (by omega))).trans (hb7.mono (by omega))
    by_cases hgc : Nat.gcd n.natAbs d.natAbs = 1
    · repeat (first | refine c_seq ?_ | refine c_region _ ?_ | refine wpList_nil ?_ | refine c_then ?_ | refine wp_ret ?_ | ((first | apply st hF | apply stg hF); (first | exact d_move | exact d_assign | exact d_pickT | exact d_cmpT | exact d_extract); clear hF; clear a; intro a hF))
      exact ret1 hF rfl rfl ⟨by rw [rightB, decide_eq_true ⟨h1, hgc⟩], hBe⟩
    · repeat (first | refine c_seq ?_ | refine c_region _ ?_ | refine wpList_nil ?_ | refine c_then ?_ | refine wp_ret ?_ | ((first | apply st hF | apply stg hF); (first | exact d_move | exact d_assign | exact d_pickT | exact d_cmpF | exact d_extract); clear hF; clear a; intro a hF))
      exact ret1 hF rfl rfl ⟨by rw [rightB, decide_eq_false (fun h => hgc h.2)], hBe⟩
  · repeat (first | refine c_seq ?_ | refine c_region _ ?_ | refine wpList_nil ?_ | refine c_then ?_ | refine c_then_ret ?_ | refine wp_ret ?_ | ((apply st hF); (first | exact d_assign | exact d_cmpT | exact d_fieldAddr (fld _ _ _ _ rfl) (isz _ _ rfl) | exact d_load (und _ _ rfl) (c1 w1 hg1)); clear hF; clear a; intro a hF) | (apply c_cond_t hF; exact rfl; first | exact rfl | assumption))
    exact ret1 hF rfl rfl ⟨by rw [rightB, decide_eq_false (fun h => h1 h.1)], hb1⟩
end Go.Proofs.YtjomihhpglojpaaGreatDoor
end
section
/- math/bits.Mul64, rat.Cmp: walked. -/
namespace Go.Proofs.YtjomihhpglojpaaGreatDoor
open Go.RowKit
set_option linter.unusedSimpArgs false
set_option linter.unusedVariables false
attribute [local irreducible] wpList wpQuiet wpStill Code.wp Exit.then Exit.inBlock bodyPost Calls Does Does0
open Nn
theorem and_low (x : Nat) : x &&& 4294967295 = x % 4294967296 := by
  have := Nat.and_two_pow_sub_one_eq_mod x 32
  exact this
set_option maxHeartbeats 2000000 in
theorem mul64_ok (w : World) (x y : Nat) (hx : x < 18446744073709551616) (hy : y < 18446744073709551616) : Ret Tryz.prog 103 [.int .u64 (x : Int), .int .u64 (y : Int)].toArray w (fun v w' => (∃ h l : Nat, v = .tuple #[.int .u64 (h : Int), .int .u64 (l : Int)] ∧ x * y = h * 18446744073709551616 + l ∧ l < 18446744073709551616) ∧ w' = w) := by
  obtain ⟨m1, m2, m3, m4, m5, m6, m7, m8, m9⟩ := mul_words hx hy
  replace m1 : _ < 2 ^ IntKind.u64.bits := m1
  replace m2 : _ < 2 ^ IntKind.u64.bits := m2
  replace m3 : _ < 2 ^ IntKind.u64.bits := m3
  replace m4 : _ < 2 ^ IntKind.u64.bits := m4
  replace m5 : _ < 2 ^ IntKind.u64.bits := m5
  replace m6 : _ < 2 ^ IntKind.u64.bits := m6
  replace m7 : _ < 2 ^ IntKind.u64.bits := m7
  replace m8 : _ < 2 ^ IntKind.u64.bits := m8
  have hx64 : x < 2 ^ IntKind.u64.bits := hx
  have hy64 : y < 2 ^ IntKind.u64.bits := hy
  have ex := and_low x
  have ey := and_low y
  have et := and_low (x / 4294967296 * (y % 4294967296) + x % 4294967296 * (y % 4294967296) / 4294967296)
  have hm : (x : Int) * (y : Int) = ((x * y : Nat) : Int) := by push_cast; rfl
  have hw : IntKind.u64.wrap ((x : Int) * (y : Int)) = ((x * y % 18446744073709551616 : Nat) : Int) := by rw [hm, wrap_mod rfl]; rfl
  refine enter2 Tryz.func103 rfl 49 rfl 51 rfl (fun a hF => ?_)
  repeat (first | refine c_seq ?_ | refine c_region _ ?_ | refine wpList_nil ?_ | refine c_then ?_ | ((apply st hF); (first | exact d_move | exact d_assign | exact d_bits (a := x) (b := 4294967295) (ha := hx64) (hb := by decide) | exact d_shr (a := x) (b := 32) (hb := by decide)); clear hF; clear a; intro a hF))
  rw [ex] at hF
  repeat (first | refine c_seq ?_ | refine c_region _ ?_ | refine wpList_nil ?_ | refine c_then ?_ | ((apply st hF); (first | exact d_move | exact d_assign | exact d_bits (a := y) (b := 4294967295) (ha := hy64) (hb := by decide) | exact d_shr (a := y) (b := 32) (hb := by decide)); clear hF; clear a; intro a hF))
  rw [ey] at hF
  repeat (first | refine c_seq ?_ | refine c_region _ ?_ | refine wpList_nil ?_ | refine c_then ?_ | ((apply st hF); (first | exact d_move | exact d_assign | exact d_mulN (a := x % 4294967296) (b := y % 4294967296) (h := m1) | exact d_mulN (a := x / 4294967296) (b := y % 4294967296) (h := m2) | exact d_shr (a := x % 4294967296 * (y % 4294967296)) (b := 32) (hb := by decide) | exact d_addN (a := x / 4294967296 * (y % 4294967296)) (b := x % 4294967296 * (y % 4294967296) / 4294967296) (h := m3) | exact d_bits (a := x / 4294967296 * (y % 4294967296) + x % 4294967296 * (y % 4294967296) / 4294967296) (b := 4294967295) (ha := m3) (hb := by decide)); clear hF; clear a; intro a hF))
  rw [et] at hF
  repeat (first | refine c_seq ?_ | refine c_region _ ?_ | refine wpList_nil ?_ | refine c_then ?_ | refine wp_ret ?_ | ((apply st hF); (first | exact d_move | exact d_assign | exact d_shr (a := x / 4294967296 * (y % 4294967296) + x % 4294967296 * (y % 4294967296) / 4294967296) (b := 32) (hb := by decide) | exact d_mulN (a := x % 4294967296) (b := y / 4294967296) (h := m4) | exact d_addN (a := (x / 4294967296 * (y % 4294967296) + x % 4294967296 * (y % 4294967296) / 4294967296) % 4294967296) (b := x % 4294967296 * (y / 4294967296)) (h := m5) | exact d_mulN (a := x / 4294967296) (b := y / 4294967296) (h := m6) | exact d_addN (a := x / 4294967296 * (y / 4294967296)) (b := (x / 4294967296 * (y % 4294967296) + x % 4294967296 * (y % 4294967296) / 4294967296) / 4294967296) (h := m7) | exact d_shr (a := (x / 4294967296 * (y % 4294967296) + x % 4294967296 * (y % 4294967296) / 4294967296) % 4294967296 + x % 4294967296 * (y / 4294967296)) (b := 32) (hb := by decide) | exact d_addN (a := x / 4294967296 * (y / 4294967296) + (x / 4294967296 * (y % 4294967296) + x % 4294967296 * (y % 4294967296) / 4294967296) / 4294967296) (b := ((x / 4294967296 * (y % 4294967296) + x % 4294967296 * (y % 4294967296) / 4294967296) % 4294967296 + x % 4294967296 * (y / 4294967296)) / 4294967296) (h := m8) | exact d_mulw); clear hF; clear a; intro a hF))
  rw [hw] at hF
  exact ret2 hF rfl rfl rfl ⟨⟨_, _, rfl, m9, Nat.mod_lt _ (by decide)⟩, rfl⟩
set_option maxHeartbeats 8000000 in
theorem rcmp_ok (w : World) (n1 d1 n2 d2 : Int) (hn1 : -9223372036854775808 ≤ n1 ∧ n1 ≤ 9223372036854775807) (hd1 : -9223372036854775808 ≤ d1 ∧ d1 ≤ 9223372036854775807) (hn2 : -9223372036854775808 ≤ n2 ∧ n2 ≤ 9223372036854775807) (hd2 : -9223372036854775808 ≤ d2 ∧ d2 ≤ 9223372036854775807)
    (hr1 : rightB n1 d1 = true) (hr2 : rightB n2 d2 = true) :
    Ret Tryz.prog 77 [.agg #[.int .i64 n1, .int .i64 d1], .agg #[.int .i64 n2, .int .i64 d2]].toArray w (fun v w' => (∃ z : Int, v = .tuple #[.int .i64 z, .nilIface] ∧ (0 < z ↔ aboveP n1 d1 n2 d2)) ∧ Below w.heap.size w w') := by
  have hp1 : 1 ≤ d1 := by unfold rightB at hr1; exact (of_decide_eq_true hr1).1
  have hp2 : 1 ≤ d2 := by unfold rightB at hr2; exact (of_decide_eq_true hr2).1
  have q1 := natAbs_mul_pos (n := n1) hp2
  have q2 := natAbs_mul_pos (n := n2) hp1
  have s1 := mul_sign (n := n1) hp2
  have s2 := mul_sign (n := n2) hp1
  refine enter2 Tryz.func77 rfl 76 rfl 78 rfl (fun a hF => ?_)
  repeat (first | refine c_seq ?_ | refine c_region _ ?_)
  refine st_box hF (cs := #[.int .i64 n1, .int .i64 d1]) rfl (k := fun a w1 hg1 hgr1 hsz1 hF => ?_)
  refine st_box hF (cs := #[.int .i64 n2, .int .i64 d2]) rfl (k := fun a w2 hg2 hgr2 hsz2 hF => ?_)
  have hg1' := blk_kept hg1 hgr2 (by simp)
  have hb2 : Below w.heap.size w w2 := ((Below.refl _ w).grown hgr1 (Nat.le_refl _) (fun k hk => by cases hk)).grown hgr2 (by omega) (fun k hk => by cases hk)
  repeat (first | refine c_seq ?_ | refine c_region _ ?_ | refine wpList_nil ?_ | refine c_then ?_ | ((apply st hF); (first | exact d_assign | exact d_loadAgg (agg _ rfl) (isz _ _ rfl) rfl (cells_at hg1')); clear hF; clear a; intro a hF))
  refine stc hF (right_ok w2 n1 d1 hn1 hd1) cal76 ⟨rfl, trivial⟩ (k := fun a v w3 hR hF => ?_)
  obtain ⟨rfl, hb3⟩ := hR
  rw [hr1] at hF
  have z2 : w.heap.size + 2 = w2.heap.size := by omega
  have g13 := (hb3.block _ (by omega)).trans hg1'
  have g23 := (hb3.block _ (by omega)).trans hg2
  repeat (((first | apply st hF | apply stg hF); (first | exact d_move | exact d_not | exact d_loadAgg (agg _ rfl) (isz _ _ rfl) rfl (cells_at g23)); clear hF; clear a; intro a hF))
  refine stcg hF (right_ok w3 n2 d2 hn2 hd2) cal76 ⟨rfl, trivial⟩ (k := fun a v w4 hR hF => ?_)
  obtain ⟨rfl, hb4⟩ := hR
  rw [hr2] at hF
  have z3 := hb3.size
  have g14 := (hb4.block _ (by omega)).trans g13
  have g24 := (hb4.block _ (by omega)).trans g23
  have hB4 : Below w.heap.size w w4 := (hb2.trans (hb3.mono (by omega))).trans (hb4.mono (by omega))
  clear hg1 hg2 hg1' hgr1 hgr2 g13 g23 hb2 hb3
  have a0 : w4.cell? ⟨w.heap.size, 0 + 0, none⟩ = some (.int .i64 n1) := cell_at g14 rfl
  have a1 : w4.cell? ⟨w.heap.size, 0 + 1, none⟩ = some (.int .i64 d1) := cell_at g14 rfl
  have b0 : w4.cell? ⟨w1.heap.size, 0 + 0, none⟩ = some (.int .i64 n2) := cell_at g24 rfl
  have b1 : w4.cell? ⟨w1.heap.size, 0 + 1, none⟩ = some (.int .i64 d2) := cell_at g24 rfl
  unfold aboveP
  have hcs : (n1 < 0 ∧ ¬ n2 < 0) ∨ (¬ n1 < 0 ∧ n2 < 0) ∨ (n1 < 0 ∧ n2 < 0) ∨ (¬ n1 < 0 ∧ ¬ n2 < 0) := by omega
  rcases hcs with ⟨c1, c2⟩ | ⟨c1, c2⟩ | ⟨c1, c2⟩ | ⟨c1, c2⟩
  · have e1 := s1.1 c1
    have e2 := s2.2 (by omega)
    repeat (first | refine c_seq ?_ | refine c_region _ ?_ | refine wpList_nil ?_ | refine c_then ?_ | refine c_then_ret ?_ | refine wp_skip ?_ | refine wp_ret ?_ | ((first | apply st hF | apply stg hF); (first | exact d_assign | exact d_not | exact d_pickF | exact d_cmpT | exact d_cmpF | exact d_eqbT (und _ _ rfl) | exact d_fieldAddr (fld _ _ _ _ rfl) (isz _ _ rfl) | exact d_load (und _ _ rfl) a0 | exact d_load (und _ _ rfl) b0); clear hF; clear a; intro a hF) | (apply c_cond_t hF; exact rfl; first | exact rfl | assumption) | (apply c_cond_f hF; exact rfl; first | exact rfl | assumption))
    exact ret2 hF rfl rfl rfl ⟨⟨_, rfl, by omega⟩, hB4⟩
  · have e1 := s1.2 (by omega)
    have e2 := s2.1 c2
    repeat (first | refine c_seq ?_ | refine c_region _ ?_ | refine wpList_nil ?_ | refine c_then ?_ | refine c_then_ret ?_ | refine wp_skip ?_ | refine wp_ret ?_ | ((first | apply st hF | apply stg hF); (first | exact d_assign | exact d_not | exact d_pickF | exact d_cmpT | exact d_cmpF | exact d_eqbT (und _ _ rfl) | exact d_fieldAddr (fld _ _ _ _ rfl) (isz _ _ rfl) | exact d_load (und _ _ rfl) a0 | exact d_load (und _ _ rfl) b0); clear hF; clear a; intro a hF) | (apply c_cond_t hF; exact rfl; first | exact rfl | assumption) | (apply c_cond_f hF; exact rfl; first | exact rfl | assumption))
    exact ret2 hF rfl rfl rfl ⟨⟨_, rfl, by omega⟩, hB4⟩
  all_goals
    have hS : ∀ wq : World, (wq.heap[w.heap.size]? = some (.cells #[.int .i64 n1, .int .i64 d1] 60 (0, 0)) ∧ wq.heap[w1.heap.size]? = some (.cells #[.int .i64 n2, .int .i64 d2] 60 (0, 0))) → wq.cell? ⟨w.heap.size, 0 + 0, none⟩ = some (.int .i64 n1) ∧ wq.cell? ⟨w.heap.size, 0 + 1, none⟩ = some (.int .i64 d1) ∧ wq.cell? ⟨w1.heap.size, 0 + 0, none⟩ = some (.int .i64 n2) ∧ wq.cell? ⟨w1.heap.size, 0 + 1, none⟩ = some (.int .i64 d2) := fun wq h => ⟨cell_at h.1 rfl, cell_at h.1 rfl, cell_at h.2 rfl, cell_at h.2 rfl⟩
    have u2 := wrap_pos (n := d2) (by omega) hd2.2
    have u1 := wrap_pos (n := d1) (by omega) hd1.2
    have v1 : d1 = ((d1.natAbs : Nat) : Int) := by omega
    have v2 : d2 = ((d2.natAbs : Nat) : Int) := by omega
    repeat (first | (refine c_region_mix (fun wq => wq.heap[w.heap.size]? = some (.cells #[.int .i64 n1, .int .i64 d1] 60 (0, 0)) ∧ wq.heap[w1.heap.size]? = some (.cells #[.int .i64 n2, .int .i64 d2] 60 (0, 0))) [(0, true), (1, true), (3, true), (4, true), (5, true), (2, false), (6, false), (7, true), (8, true), (9, true), (10, true), (11, true)] 7 mixed (by kernel_rfl) ⟨g14, g24⟩ ?_; simp only [pickX, List.filterMap_cons, List.getElem?_cons_zero, List.getElem?_cons_succ, List.filterMap_nil, Option.map_some]) | refine c_seq ?_ | refine c_region _ ?_ | refine wpList_nil ?_ | refine c_then ?_ | refine wp_skip ?_ | ((first | apply st hF | apply stg hF); (first | exact d_not | exact d_pickF | exact d_cmpT | exact d_cmpF | exact d_eqbF (und _ _ rfl) | exact d_fieldAddr (fld _ _ _ _ rfl) (isz _ _ rfl) | exact d_load (und _ _ rfl) a0 | exact d_load (und _ _ rfl) b0); clear hF; clear a; intro a hF) | (apply c_cond_f hF; exact rfl; first | exact rfl | assumption))
    repeat (((apply x_step hF); intro wq hwq; (first | exact d_fieldAddr (fld _ _ _ _ rfl) (isz _ _ rfl) | exact d_convI (und _ _ rfl) (und _ _ rfl) (hm := u2) | exact d_load (und _ _ rfl) ((hS wq hwq).1) | exact d_load (und _ _ rfl) ((hS wq hwq).2.2.2)); clear hF; clear a; intro a hF))
    refine x_one ?_
    refine stc hF (size_ok _ n1 hn1) cal102 ⟨rfl, trivial⟩ (k := fun a v w5 hR hF => ?_)
    obtain ⟨rfl, rfl⟩ := hR
    refine wpList_nil ⟨rfl, ⟨g14, g24⟩, x_one ?_⟩
    refine stc hF (vs := [.int .u64 ((n1.natAbs : Nat) : Int), .int .u64 d2]) (by have := mul64_ok (w4.drewN 1) n1.natAbs d2.natAbs (by omega) (by omega); rw [← v2] at this; exact this) cal103 ⟨rfl, rfl, trivial⟩ (k := fun a v w5 hR hF => ?_)
    obtain ⟨⟨h, l, rfl, ehl, hl⟩, rfl⟩ := hR
    refine wpList_nil ⟨rfl, ⟨g14, g24⟩, ?_⟩
    repeat (((apply x_step hF); intro wq hwq; (first | exact d_move | exact d_assign | exact d_extract); clear hF; clear a; intro a hF))
    refine x_nil ?_
    have g15 : (w4.drewN 1).heap[w.heap.size]? = some (.cells #[.int .i64 n1, .int .i64 d1] 60 (0, 0)) := g14
    have g25 : (w4.drewN 1).heap[w1.heap.size]? = some (.cells #[.int .i64 n2, .int .i64 d2] 60 (0, 0)) := g24
    repeat (first | (refine c_region_mix (fun wq => wq.heap[w.heap.size]? = some (.cells #[.int .i64 n1, .int .i64 d1] 60 (0, 0)) ∧ wq.heap[w1.heap.size]? = some (.cells #[.int .i64 n2, .int .i64 d2] 60 (0, 0))) [(0, true), (1, true), (3, true), (4, true), (5, true), (2, false), (6, false), (7, true), (8, true), (9, true), (10, true), (11, true)] 8 mixed (by kernel_rfl) ⟨g15, g25⟩ ?_; simp only [pickX, List.filterMap_cons, List.getElem?_cons_zero, List.getElem?_cons_succ, List.filterMap_nil, Option.map_some]) | refine c_seq ?_ | refine c_then ?_)
    repeat (((apply x_step hF); intro wq hwq; (first | exact d_fieldAddr (fld _ _ _ _ rfl) (isz _ _ rfl) | exact d_convI (und _ _ rfl) (und _ _ rfl) (hm := u1) | exact d_load (und _ _ rfl) ((hS wq hwq).2.2.1) | exact d_load (und _ _ rfl) ((hS wq hwq).2.1)); clear hF; clear a; intro a hF))
    refine x_one ?_
    refine stc hF (size_ok _ n2 hn2) cal102 ⟨rfl, trivial⟩ (k := fun a v w5 hR hF => ?_)
    obtain ⟨rfl, rfl⟩ := hR
    refine wpList_nil ⟨rfl, ⟨g15, g25⟩, x_one ?_⟩
    refine stc hF (vs := [.int .u64 ((n2.natAbs : Nat) : Int), .int .u64 d1]) (by have := mul64_ok ((w4.drewN 1).drewN 1) n2.natAbs d1.natAbs (by omega) (by omega); rw [← v1] at this; exact this) cal103 ⟨rfl, rfl, trivial⟩ (k := fun a v w5 hR hF => ?_)
    obtain ⟨⟨i, m, rfl, eim, hm⟩, rfl⟩ := hR
    refine wpList_nil ⟨rfl, ⟨g15, g25⟩, ?_⟩
    repeat (((apply x_step hF); intro wq hwq; (first | exact d_move | exact d_assign | exact d_extract); clear hF; clear a; intro a hF))
    refine x_nil ?_
    have g16 : ((w4.drewN 1).drewN 1).heap[w.heap.size]? = some (.cells #[.int .i64 n1, .int .i64 d1] 60 (0, 0)) := g14
    have a6 : ((w4.drewN 1).drewN 1).cell? ⟨w.heap.size, 0 + 0, none⟩ = some (.int .i64 n1) := cell_at g16 rfl
    have hB6 : Below w.heap.size w ((w4.drewN 1).drewN 1) := below_more (below_more hB4 1) 1
    obtain ⟨k1, k2⟩ := cmp_words ehl eim hl hm
    rw [ehl] at q1 k1 k2
    rw [eim] at q2 k1 k2
    rcases Nat.lt_trichotomy h i with hhi | hhi | hhi
    · repeat (first | refine c_seq ?_ | refine c_block ?_ | refine c_region _ ?_ | refine wpList_nil ?_ | refine c_then ?_ | refine c_then_ret ?_ | refine c_in ?_ | refine c_in_ret ?_ | refine wp_skip ?_ | refine wp_ret ?_ | ((apply st hF); (first | exact d_move | exact d_assign | exact d_pickT | exact d_pickF | exact d_cmpT | exact d_cmpF | exact d_eqbT (und _ _ rfl) | exact d_eqbF (und _ _ rfl) | exact d_fieldAddr (fld _ _ _ _ rfl) (isz _ _ rfl) | exact d_load (und _ _ rfl) a6); clear hF; clear a; intro a hF) | ((first | apply stm hF | apply stu hF); clear hF; clear a; intro a hF) | (apply c_cond_t hF; exact rfl; first | exact rfl | assumption) | (apply c_cond_f hF; exact rfl; first | exact rfl | assumption))
      exact ret2 hF rfl rfl rfl ⟨⟨_, rfl, by split at q1 <;> split at q2 <;> omega⟩, hB6⟩
    · rcases Nat.lt_trichotomy l m with hlm | hlm | hlm
      · repeat (first | refine c_seq ?_ | refine c_block ?_ | refine c_region _ ?_ | refine wpList_nil ?_ | refine c_then ?_ | refine c_then_ret ?_ | refine c_in ?_ | refine c_in_ret ?_ | refine wp_skip ?_ | refine wp_ret ?_ | ((first | apply st hF | apply stg hF); (first | exact d_move | exact d_assign | exact d_pickT | exact d_pickF | exact d_cmpT | exact d_cmpF | exact d_eqbT (und _ _ rfl) | exact d_eqbF (und _ _ rfl) | exact d_fieldAddr (fld _ _ _ _ rfl) (isz _ _ rfl) | exact d_load (und _ _ rfl) a6); clear hF; clear a; intro a hF) | (apply c_cond_t hF; exact rfl; first | exact rfl | assumption) | (apply c_cond_f hF; exact rfl; first | exact rfl | assumption))
        exact ret2 hF rfl rfl rfl ⟨⟨_, rfl, by split at q1 <;> split at q2 <;> omega⟩, hB6⟩
      · repeat (first | refine c_seq ?_ | refine c_block ?_ | refine c_region _ ?_ | refine wpList_nil ?_ | refine c_then ?_ | refine c_then_ret ?_ | refine c_in_ret ?_ | refine wp_ret ?_ | ((first | apply st hF | apply stg hF); (first | exact d_move | exact d_assign | exact d_pickT | exact d_pickF | exact d_cmpT | exact d_cmpF); clear hF; clear a; intro a hF) | (apply c_cond_t hF; exact rfl; first | exact rfl | assumption))
        exact ret2 hF rfl rfl rfl ⟨⟨_, rfl, by split at q1 <;> split at q2 <;> omega⟩, hB6⟩
      · repeat (first | refine c_seq ?_ | refine c_block ?_ | refine c_region _ ?_ | refine wpList_nil ?_ | refine c_then ?_ | refine c_then_ret ?_ | refine c_in ?_ | refine c_in_ret ?_ | refine wp_skip ?_ | refine wp_ret ?_ | ((first | apply st hF | apply stg hF); (first | exact d_move | exact d_assign | exact d_pickT | exact d_pickF | exact d_cmpT | exact d_cmpF | exact d_eqbT (und _ _ rfl) | exact d_eqbF (und _ _ rfl) | exact d_fieldAddr (fld _ _ _ _ rfl) (isz _ _ rfl) | exact d_load (und _ _ rfl) a6); clear hF; clear a; intro a hF) | (apply c_cond_t hF; exact rfl; first | exact rfl | assumption) | (apply c_cond_f hF; exact rfl; first | exact rfl | assumption))
        exact ret2 hF rfl rfl rfl ⟨⟨_, rfl, by split at q1 <;> split at q2 <;> omega⟩, hB6⟩
    · repeat (first | refine c_seq ?_ | refine c_block ?_ | refine c_region _ ?_ | refine wpList_nil ?_ | refine c_then ?_ | refine c_then_ret ?_ | refine c_in ?_ | refine c_in_ret ?_ | refine wp_skip ?_ | refine wp_ret ?_ | ((first | apply st hF | apply stg hF); (first | exact d_move | exact d_assign | exact d_pickF | exact d_cmpT | exact d_cmpF | exact d_eqbT (und _ _ rfl) | exact d_eqbF (und _ _ rfl) | exact d_fieldAddr (fld _ _ _ _ rfl) (isz _ _ rfl) | exact d_load (und _ _ rfl) a6); clear hF; clear a; intro a hF) | ((apply stm hF); clear hF; clear a; intro a hF) | (apply c_cond_t hF; exact rfl; first | exact rfl | assumption) | (apply c_cond_f hF; exact rfl; first | exact rfl | assumption))
      exact ret2 hF rfl rfl rfl ⟨⟨_, rfl, by split at q1 <;> split at q2 <;> omega⟩, hB6⟩
end Go.Proofs.YtjomihhpglojpaaGreatDoor
end
