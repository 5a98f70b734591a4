/- Laid together by a program of mine: RatW RatC LiftS LiftD SigD RangW Pair Txt SigW. -/
import Derived.Test.YtjomihhpglojpaaDoorSumLawKnownCS7
import Derived.Test.YtjomihhpglojpaaDoorSumLawKnownCS4
import Derived.Test.YtjomihhpglojpaaDoorSumLawKnownCS2
import Derived.ChangeArms
import Derived.SizedLaws
import Derived.Deep.Slices
import Derived.Test.YtjomihhpglojpaaDoorSumLawKnownCS3
import Derived.Laws.StructEq
import Derived.Test.YtjomihhpglojpaaDoorSumLawKnownCS5
set_option linter.unusedSimpArgs false
set_option linter.unusedVariables false
section
/- rat.gcd, size, Right, Cmp; the reference's size, Right: walked. -/
namespace Go.Proofs.YtjomihhpglojpaaDoor
open Go.RowKit
section
variable {P : Program} {w : World} {l : List (Nat × Value)}
theorem d_negw {k : IntKind} {x : Operand} {m : Int} {t ty : TypeId} (hx : Ev l x (.int k m) := by exact rfl) : Does P l w (.unOp .neg t x) ty (.int k (k.wrap (0 - m))) w := by
  intro ρ hρ d pos af g
  simp only [execOp, hρ _ _ hx, Op.unary, Op.intArith]
  simp
end
open Go.RowKit
set_option linter.unusedSimpArgs false
set_option linter.unusedVariables false
attribute [local irreducible] wpList wpQuiet wpStill Code.wp Exit.then Exit.inBlock bodyPost Calls Does Does0
open Nn
theorem wrap_64 (n : Int) : IntKind.u64.wrap n = n % 18446744073709551616 := by
  unfold IntKind.wrap
  simp only [IntKind.signed, IntKind.bits, Bool.false_and, Bool.false_eq_true, if_false]
  rfl
theorem wrap_neg {n : Int} (h : n < 0) (hl : -9223372036854775808 ≤ n) : IntKind.u64.wrap n = n + 18446744073709551616 := by rw [wrap_64]; omega
theorem wrap_pos {n : Int} (h : 0 ≤ n) (hl : n ≤ 9223372036854775807) : IntKind.u64.wrap n = n := by rw [wrap_64]; omega
theorem gcd_ok (w : World) (x y : Nat) (hx : x < 18446744073709551616) (hy : y < 18446744073709551616) : Ret Tryd.prog 104 [.int .u64 (x : Int), .int .u64 (y : Int)].toArray w (fun v w' => v = .int .u64 ((Nat.gcd x y : Nat) : Int) ∧ Dr w w') := by
  refine enter2 Tryd.func104 rfl 10 rfl 12 rfl (fun a hF => ?_)
  repeat (first | refine c_seq ?_ | refine c_block ?_ | refine c_region _ ?_ | refine wpList_nil ?_ | refine c_then ?_ | ((apply st hF); (exact d_assign); clear hF; clear a; intro a hF))
  refine c_loop (fun q a wr => ∃ p : Nat, p < 18446744073709551616 ∧ q < 18446744073709551616 ∧ Nat.gcd p q = Nat.gcd x y ∧ Fr 12 [(0, .int .u64 (p : Int)), (1, .int .u64 (q : Int))] a ∧ Dr w wr) y
    ⟨x, hx, hy, rfl, hF.keep' ⟨rfl, rfl, trivial⟩, Dr.refl w⟩ ?_
  clear hF a
  rintro q a wr ⟨p, hp, hq, hg, hF, hdr⟩
  rcases Nat.eq_zero_or_pos q with rfl | hpos
  · repeat (first | refine c_seq ?_ | refine c_region _ ?_ | refine wpList_nil ?_ | refine c_then ?_ | refine c_then_exit ?_ | refine c_in_hit ?_ | refine wp_exit ?_ | refine wp_ret ?_ | ((apply st hF); (first | exact d_move | exact d_assign | exact d_cmpF); clear hF; clear a; intro a hF) | (apply c_cond_f hF; exact rfl; first | exact rfl | assumption))
    rw [Nat.gcd_zero_right] at hg
    exact ret1 hF rfl rfl ⟨by rw [hg], hdr⟩
  · repeat (first | refine c_seq ?_ | refine c_block ?_ | refine c_region _ ?_ | refine wpList_nil ?_ | refine c_then ?_ | refine c_in ?_ | refine wp_skip ?_ | (refine q_nil ?_; rintro _ ⟨ndr, rfl⟩) | refine c_region_draw _ mixed (by kernel_rfl) ?_ | ((apply st hF); (first | exact d_move | exact d_cmpT); clear hF; clear a; intro a hF) | ((apply q_step hF); intro wq hwq; (first | exact d_move | exact d_assign | exact d_remN (ha := hp) (hb := hpos)); clear hF; clear a; intro a hF) | (apply c_cond_t hF; exact rfl; first | exact rfl | assumption))
    exact ⟨p % q, Nat.mod_lt _ hpos, q, hq, by have := Nat.mod_lt p hpos; omega, by rw [← hg, Nat.gcd_comm q, ← Nat.gcd_rec, Nat.gcd_comm], hF.keep' ⟨rfl, rfl, trivial⟩, by first | exact hdr | exact hdr.more _⟩
theorem size_ok (w : World) (n : Int) (h : -9223372036854775808 ≤ n ∧ n ≤ 9223372036854775807) : Ret Tryd.prog 105 [.int .i64 n].toArray w (fun v w' => v = .int .u64 ((n.natAbs : Nat) : Int) ∧ w' = w) := by
  refine enter1 Tryd.func105 rfl 9 rfl 10 rfl (fun a hF => ?_)
  by_cases hn : n < 0
  · have e1 := wrap_neg hn h.1
    have e2 : IntKind.u64.wrap (0 - (n + 18446744073709551616)) = ((n.natAbs : Nat) : Int) := by
      rw [wrap_64]; omega
    repeat (first | refine c_seq ?_ | refine c_region _ ?_ | refine wpList_nil ?_ | refine c_then ?_ | refine c_then_ret ?_ | refine wp_ret ?_ | ((apply st hF); (first | exact d_move | exact d_assign | exact d_cmpT | exact d_convI (und _ _ rfl) (und _ _ rfl) (hm := e1) | exact d_negw); clear hF; clear a; intro a hF) | (apply c_cond_t hF; exact rfl; first | exact rfl | assumption))
    rw [e2] at hF
    exact ret1 hF rfl rfl ⟨rfl, rfl⟩
  · have e1 := wrap_pos (n := n) (by omega) h.2
    have e2 : n = ((n.natAbs : Nat) : Int) := by omega
    repeat (first | refine c_seq ?_ | refine c_region _ ?_ | refine wpList_nil ?_ | refine c_then ?_ | refine wp_skip ?_ | refine wp_ret ?_ | ((apply st hF); (first | exact d_move | exact d_assign | exact d_cmpF | exact d_convI (und _ _ rfl) (und _ _ rfl) (hm := e1)); clear hF; clear a; intro a hF) | (apply c_cond_f hF; exact rfl; first | exact rfl | assumption))
    exact ret1 hF rfl rfl ⟨by rw [← e2], rfl⟩
set_option maxHeartbeats 2000000 in
theorem right_ok (w : World) (n d : Int) (hn : -9223372036854775808 ≤ n ∧ n ≤ 9223372036854775807) (hd : -9223372036854775808 ≤ d ∧ d ≤ 9223372036854775807) :
    Ret Tryd.prog 85 [.agg #[.int .i64 n, .int .i64 d]].toArray w (fun v w' => v = .bool (rightB n d) ∧ Below w.heap.size w w') := by
  refine enter1 Tryd.func85 rfl 15 rfl 16 rfl (fun a hF => ?_)
  repeat (first | refine c_seq ?_ | refine c_region _ ?_)
  refine st_box hF (cs := #[.int .i64 n, .int .i64 d]) rfl (k := fun a w1 hg1 hgr1 hsz1 hF => ?_)
  have hb1 : Below w.heap.size w w1 := (Below.refl _ w).grown hgr1 (Nat.le_refl _) (fun k hk => by cases hk)
  have c0 : ∀ wq : World, wq.heap[w.heap.size]? = some (.cells #[.int .i64 n, .int .i64 d] 35 (0, 0)) → wq.cell? ⟨w.heap.size, 0 + 0, none⟩ = some (.int .i64 n) := fun wq h => cell_at h rfl
  have c1 : ∀ wq : World, wq.heap[w.heap.size]? = some (.cells #[.int .i64 n, .int .i64 d] 35 (0, 0)) → wq.cell? ⟨w.heap.size, 0 + 1, none⟩ = some (.int .i64 d) := fun wq h => cell_at h rfl
  repeat (first | (refine c_region_mix (fun wq => wq.heap[w.heap.size]? = some (.cells #[.int .i64 n, .int .i64 d] 35 (0, 0))) [(0, true), (1, true), (2, true), (3, true), (4, true), (5, true), (7, true), (8, true), (9, true), (6, false), (10, false), (11, true), (12, true), (13, true)] 1 mixed (by kernel_rfl) hg1 ?_; simp only [pickX, List.filterMap_cons, List.getElem?_cons_zero, List.getElem?_cons_succ, List.filterMap_nil, Option.map_some]) | refine c_seq ?_ | refine wpList_nil ?_ | refine c_then ?_ | ((apply st hF); (exact d_assign); clear hF; clear a; intro a hF))
  have hdb : Below w.heap.size w (w1.drewN 1) := below_more hb1 1
  have hgD : (w1.drewN 1).heap[w.heap.size]? = some (.cells #[.int .i64 n, .int .i64 d] 35 (0, 0)) := hg1
  by_cases h1 : 1 ≤ d
  · have e2 := wrap_pos (n := d) (by omega) hd.2
    have e3 : d = ((d.natAbs : Nat) : Int) := by omega
    repeat (((first | apply x_step hF | apply x_stg hF); intro wq hwq; (first | exact d_move | exact d_cmpT | exact d_fieldAddr (fld _ _ _ _ rfl) (isz _ _ rfl) | exact d_convI (und _ _ rfl) (und _ _ rfl) (hm := e2) | exact d_load (und _ _ rfl) (c0 wq hwq) | exact d_load (und _ _ rfl) (c1 wq hwq)); clear hF; clear a; intro a hF))
    refine x_one ?_
    refine stcg hF (size_ok _ n hn) cal105 ⟨rfl, trivial⟩ (k := fun a v w2 hR hF => ?_)
    obtain ⟨rfl, rfl⟩ := hR
    refine wpList_nil ⟨rfl, hgD, ?_⟩
    skip
    refine x_one ?_
    have hx : n.natAbs < 18446744073709551616 := by omega
    have hy : d.natAbs < 18446744073709551616 := by omega
    refine stcg hF (vs := [.int .u64 ((n.natAbs : Nat) : Int), .int .u64 d]) (by have := gcd_ok (w1.drewN 1) n.natAbs d.natAbs hx hy; rw [← e3] at this; exact this) cal104 ⟨rfl, rfl, trivial⟩ (k := fun a v w2 hR hF => ?_)
    obtain ⟨rfl, hdr⟩ := hR
    have hg2 := (hdr.below ((w1.drewN 1).heap.size)).block _ (lt_at hgD) |>.trans hgD
    refine wpList_nil ⟨rfl, hg2, ?_⟩
    by_cases hgc : Nat.gcd n.natAbs d.natAbs = 1
    · rw [hgc] at hF
      repeat (((first | apply x_step hF | apply x_stg hF); intro wq hwq; (first | exact d_assign | exact d_pickT | exact d_cmpT); clear hF; clear a; intro a hF))
      refine x_nil ?_
      repeat (first | refine c_then ?_ | refine wp_ret ?_)
      exact ret1 hF rfl rfl ⟨by rw [rightB, decide_eq_true ⟨h1, hgc⟩], hdb.trans (hdr.below _)⟩
    · have hne : ¬ ((Nat.gcd n.natAbs d.natAbs : Nat) : Int) = 1 := by omega
      have hb0 : (((Nat.gcd n.natAbs d.natAbs : Nat) : Int) == 1) = false := beq_eq_false_iff_ne.2 hne
      repeat (((first | apply x_step hF | apply x_stg hF); intro wq hwq; (first | exact d_assign | exact d_pickT | exact d_cmpF); clear hF; clear a; intro a hF))
      refine x_nil ?_
      repeat (first | refine c_then ?_ | refine wp_ret ?_)
      exact ret1 hF rfl rfl ⟨by rw [rightB, decide_eq_false (fun h => hgc h.2)], hdb.trans (hdr.below _)⟩
  · repeat (first | ((apply x_step hF); intro wq hwq; (first | exact d_move | exact d_cmpF | exact d_fieldAddr (fld _ _ _ _ rfl) (isz _ _ rfl) | exact d_load (und _ _ rfl) (c1 wq hwq)); clear hF; clear a; intro a hF) | ((apply x_stm hF); clear hF; clear a; intro a hF))
    refine x_one ?_
    refine stm hF (k := fun a hF => ?_)
    refine wpList_nil ⟨rfl, hgD, ?_⟩
    skip
    refine x_one ?_
    refine stm hF (k := fun a hF => ?_)
    refine wpList_nil ⟨rfl, hgD, ?_⟩
    repeat (first | ((apply x_step hF); intro wq hwq; (first | exact d_assign | exact d_pickF); clear hF; clear a; intro a hF) | ((apply x_stm hF); clear hF; clear a; intro a hF))
    refine x_nil ?_
    repeat (first | refine c_then ?_ | refine wp_ret ?_)
    exact ret1 hF rfl rfl ⟨by rw [rightB, decide_eq_false (fun h => h1 h.1)], hdb⟩
end Go.Proofs.YtjomihhpglojpaaDoor
end
section
/- math/bits.Mul64, rat.Cmp: walked. -/
namespace Go.Proofs.YtjomihhpglojpaaDoor
open Go.RowKit
set_option linter.unusedSimpArgs false
set_option linter.unusedVariables false
attribute [local irreducible] wpList wpQuiet wpStill Code.wp Exit.then Exit.inBlock bodyPost Calls Does Does0
open Nn
theorem and_low (x : Nat) : x &&& 4294967295 = x % 4294967296 := by
  have := Nat.and_two_pow_sub_one_eq_mod x 32
  exact this
set_option maxHeartbeats 2000000 in
theorem mul64_ok (w : World) (x y : Nat) (hx : x < 18446744073709551616) (hy : y < 18446744073709551616) : Ret Tryd.prog 106 [.int .u64 (x : Int), .int .u64 (y : Int)].toArray w (fun v w' => (∃ h l : Nat, v = .tuple #[.int .u64 (h : Int), .int .u64 (l : Int)] ∧ x * y = h * 18446744073709551616 + l ∧ l < 18446744073709551616) ∧ w' = w) := by
  obtain ⟨m1, m2, m3, m4, m5, m6, m7, m8, m9⟩ := mul_words hx hy
  replace m1 : _ < 2 ^ IntKind.u64.bits := m1
  replace m2 : _ < 2 ^ IntKind.u64.bits := m2
  replace m3 : _ < 2 ^ IntKind.u64.bits := m3
  replace m4 : _ < 2 ^ IntKind.u64.bits := m4
  replace m5 : _ < 2 ^ IntKind.u64.bits := m5
  replace m6 : _ < 2 ^ IntKind.u64.bits := m6
  replace m7 : _ < 2 ^ IntKind.u64.bits := m7
  replace m8 : _ < 2 ^ IntKind.u64.bits := m8
  have hx64 : x < 2 ^ IntKind.u64.bits := hx
  have hy64 : y < 2 ^ IntKind.u64.bits := hy
  have ex := and_low x
  have ey := and_low y
  have et := and_low (x / 4294967296 * (y % 4294967296) + x % 4294967296 * (y % 4294967296) / 4294967296)
  have hm : (x : Int) * (y : Int) = ((x * y : Nat) : Int) := by push_cast; rfl
  have hw : IntKind.u64.wrap ((x : Int) * (y : Int)) = ((x * y % 18446744073709551616 : Nat) : Int) := by rw [hm, wrap_mod rfl]; rfl
  refine enter2 Tryd.func106 rfl 49 rfl 51 rfl (fun a hF => ?_)
  repeat (first | refine c_seq ?_ | refine c_region _ ?_ | refine wpList_nil ?_ | refine c_then ?_ | ((apply st hF); (first | exact d_move | exact d_assign | exact d_bits (a := x) (b := 4294967295) (ha := hx64) (hb := by decide) | exact d_shr (a := x) (b := 32) (hb := by decide)); clear hF; clear a; intro a hF))
  rw [ex] at hF
  repeat (first | refine c_seq ?_ | refine c_region _ ?_ | refine wpList_nil ?_ | refine c_then ?_ | ((apply st hF); (first | exact d_move | exact d_assign | exact d_bits (a := y) (b := 4294967295) (ha := hy64) (hb := by decide) | exact d_shr (a := y) (b := 32) (hb := by decide)); clear hF; clear a; intro a hF))
  rw [ey] at hF
  repeat (first | refine c_seq ?_ | refine c_region _ ?_ | refine wpList_nil ?_ | refine c_then ?_ | ((apply st hF); (first | exact d_move | exact d_assign | exact d_mulN (a := x % 4294967296) (b := y % 4294967296) (h := m1) | exact d_mulN (a := x / 4294967296) (b := y % 4294967296) (h := m2) | exact d_shr (a := x % 4294967296 * (y % 4294967296)) (b := 32) (hb := by decide) | exact d_addN (a := x / 4294967296 * (y % 4294967296)) (b := x % 4294967296 * (y % 4294967296) / 4294967296) (h := m3) | exact d_bits (a := x / 4294967296 * (y % 4294967296) + x % 4294967296 * (y % 4294967296) / 4294967296) (b := 4294967295) (ha := m3) (hb := by decide)); clear hF; clear a; intro a hF))
  rw [et] at hF
  repeat (first | refine c_seq ?_ | refine c_region _ ?_ | refine wpList_nil ?_ | refine c_then ?_ | refine wp_ret ?_ | ((apply st hF); (first | exact d_move | exact d_assign | exact d_shr (a := x / 4294967296 * (y % 4294967296) + x % 4294967296 * (y % 4294967296) / 4294967296) (b := 32) (hb := by decide) | exact d_mulN (a := x % 4294967296) (b := y / 4294967296) (h := m4) | exact d_addN (a := (x / 4294967296 * (y % 4294967296) + x % 4294967296 * (y % 4294967296) / 4294967296) % 4294967296) (b := x % 4294967296 * (y / 4294967296)) (h := m5) | exact d_mulN (a := x / 4294967296) (b := y / 4294967296) (h := m6) | exact d_addN (a := x / 4294967296 * (y / 4294967296)) (b := (x / 4294967296 * (y % 4294967296) + x % 4294967296 * (y % 4294967296) / 4294967296) / 4294967296) (h := m7) | exact d_shr (a := (x / 4294967296 * (y % 4294967296) + x % 4294967296 * (y % 4294967296) / 4294967296) % 4294967296 + x % 4294967296 * (y / 4294967296)) (b := 32) (hb := by decide) | exact d_addN (a := x / 4294967296 * (y / 4294967296) + (x / 4294967296 * (y % 4294967296) + x % 4294967296 * (y % 4294967296) / 4294967296) / 4294967296) (b := ((x / 4294967296 * (y % 4294967296) + x % 4294967296 * (y % 4294967296) / 4294967296) % 4294967296 + x % 4294967296 * (y / 4294967296)) / 4294967296) (h := m8) | exact d_mulw); clear hF; clear a; intro a hF))
  rw [hw] at hF
  exact ret2 hF rfl rfl rfl ⟨⟨_, _, rfl, m9, Nat.mod_lt _ (by decide)⟩, rfl⟩
set_option maxHeartbeats 8000000 in
theorem rcmp_ok (w : World) (n1 d1 n2 d2 : Int) (hn1 : -9223372036854775808 ≤ n1 ∧ n1 ≤ 9223372036854775807) (hd1 : -9223372036854775808 ≤ d1 ∧ d1 ≤ 9223372036854775807) (hn2 : -9223372036854775808 ≤ n2 ∧ n2 ≤ 9223372036854775807) (hd2 : -9223372036854775808 ≤ d2 ∧ d2 ≤ 9223372036854775807)
    (hr1 : rightB n1 d1 = true) (hr2 : rightB n2 d2 = true) :
    Ret Tryd.prog 86 [.agg #[.int .i64 n1, .int .i64 d1], .agg #[.int .i64 n2, .int .i64 d2]].toArray w (fun v w' => (∃ z : Int, v = .tuple #[.int .i64 z, .nilIface] ∧ (0 < z ↔ aboveP n1 d1 n2 d2)) ∧ Below w.heap.size w w') := by
  have hp1 : 1 ≤ d1 := by unfold rightB at hr1; exact (of_decide_eq_true hr1).1
  have hp2 : 1 ≤ d2 := by unfold rightB at hr2; exact (of_decide_eq_true hr2).1
  have q1 := natAbs_mul_pos (n := n1) hp2
  have q2 := natAbs_mul_pos (n := n2) hp1
  have s1 := mul_sign (n := n1) hp2
  have s2 := mul_sign (n := n2) hp1
  refine enter2 Tryd.func86 rfl 76 rfl 78 rfl (fun a hF => ?_)
  repeat (first | refine c_seq ?_ | refine c_region _ ?_)
  refine st_box hF (cs := #[.int .i64 n1, .int .i64 d1]) rfl (k := fun a w1 hg1 hgr1 hsz1 hF => ?_)
  refine st_box hF (cs := #[.int .i64 n2, .int .i64 d2]) rfl (k := fun a w2 hg2 hgr2 hsz2 hF => ?_)
  have hg1' := blk_kept hg1 hgr2 (by simp)
  have hb2 : Below w.heap.size w w2 := ((Below.refl _ w).grown hgr1 (Nat.le_refl _) (fun k hk => by cases hk)).grown hgr2 (by omega) (fun k hk => by cases hk)
  repeat (first | refine c_seq ?_ | refine c_region _ ?_ | refine wpList_nil ?_ | refine c_then ?_ | ((apply st hF); (first | exact d_assign | exact d_loadAgg (agg _ rfl) (isz _ _ rfl) rfl (cells_at hg1')); clear hF; clear a; intro a hF))
  refine stc hF (right_ok w2 n1 d1 hn1 hd1) cal85 ⟨rfl, trivial⟩ (k := fun a v w3 hR hF => ?_)
  obtain ⟨rfl, hb3⟩ := hR
  rw [hr1] at hF
  have z2 : w.heap.size + 2 = w2.heap.size := by omega
  have g13 := (hb3.block _ (by omega)).trans hg1'
  have g23 := (hb3.block _ (by omega)).trans hg2
  repeat (((first | apply st hF | apply stg hF); (first | exact d_move | exact d_not | exact d_loadAgg (agg _ rfl) (isz _ _ rfl) rfl (cells_at g23)); clear hF; clear a; intro a hF))
  refine stcg hF (right_ok w3 n2 d2 hn2 hd2) cal85 ⟨rfl, trivial⟩ (k := fun a v w4 hR hF => ?_)
  obtain ⟨rfl, hb4⟩ := hR
  rw [hr2] at hF
  have z3 := hb3.size
  have g14 := (hb4.block _ (by omega)).trans g13
  have g24 := (hb4.block _ (by omega)).trans g23
  have hB4 : Below w.heap.size w w4 := (hb2.trans (hb3.mono (by omega))).trans (hb4.mono (by omega))
  clear hg1 hg2 hg1' hgr1 hgr2 g13 g23 hb2 hb3
  have a0 : w4.cell? ⟨w.heap.size, 0 + 0, none⟩ = some (.int .i64 n1) := cell_at g14 rfl
  have a1 : w4.cell? ⟨w.heap.size, 0 + 1, none⟩ = some (.int .i64 d1) := cell_at g14 rfl
  have b0 : w4.cell? ⟨w1.heap.size, 0 + 0, none⟩ = some (.int .i64 n2) := cell_at g24 rfl
  have b1 : w4.cell? ⟨w1.heap.size, 0 + 1, none⟩ = some (.int .i64 d2) := cell_at g24 rfl
  unfold aboveP
  have hcs : (n1 < 0 ∧ ¬ n2 < 0) ∨ (¬ n1 < 0 ∧ n2 < 0) ∨ (n1 < 0 ∧ n2 < 0) ∨ (¬ n1 < 0 ∧ ¬ n2 < 0) := by omega
  rcases hcs with ⟨c1, c2⟩ | ⟨c1, c2⟩ | ⟨c1, c2⟩ | ⟨c1, c2⟩
  · have e1 := s1.1 c1
    have e2 := s2.2 (by omega)
    repeat (first | refine c_seq ?_ | refine c_region _ ?_ | refine wpList_nil ?_ | refine c_then ?_ | refine c_then_ret ?_ | refine wp_skip ?_ | refine wp_ret ?_ | ((first | apply st hF | apply stg hF); (first | exact d_assign | exact d_not | exact d_pickF | exact d_cmpT | exact d_cmpF | exact d_eqbT (und _ _ rfl) | exact d_fieldAddr (fld _ _ _ _ rfl) (isz _ _ rfl) | exact d_load (und _ _ rfl) a0 | exact d_load (und _ _ rfl) b0); clear hF; clear a; intro a hF) | (apply c_cond_t hF; exact rfl; first | exact rfl | assumption) | (apply c_cond_f hF; exact rfl; first | exact rfl | assumption))
    exact ret2 hF rfl rfl rfl ⟨⟨_, rfl, by omega⟩, hB4⟩
  · have e1 := s1.2 (by omega)
    have e2 := s2.1 c2
    repeat (first | refine c_seq ?_ | refine c_region _ ?_ | refine wpList_nil ?_ | refine c_then ?_ | refine c_then_ret ?_ | refine wp_skip ?_ | refine wp_ret ?_ | ((first | apply st hF | apply stg hF); (first | exact d_assign | exact d_not | exact d_pickF | exact d_cmpT | exact d_cmpF | exact d_eqbT (und _ _ rfl) | exact d_fieldAddr (fld _ _ _ _ rfl) (isz _ _ rfl) | exact d_load (und _ _ rfl) a0 | exact d_load (und _ _ rfl) b0); clear hF; clear a; intro a hF) | (apply c_cond_t hF; exact rfl; first | exact rfl | assumption) | (apply c_cond_f hF; exact rfl; first | exact rfl | assumption))
    exact ret2 hF rfl rfl rfl ⟨⟨_, rfl, by omega⟩, hB4⟩
  all_goals
    have hS : ∀ wq : World, (wq.heap[w.heap.size]? = some (.cells #[.int .i64 n1, .int .i64 d1] 35 (0, 0)) ∧ wq.heap[w1.heap.size]? = some (.cells #[.int .i64 n2, .int .i64 d2] 35 (0, 0))) → wq.cell? ⟨w.heap.size, 0 + 0, none⟩ = some (.int .i64 n1) ∧ wq.cell? ⟨w.heap.size, 0 + 1, none⟩ = some (.int .i64 d1) ∧ wq.cell? ⟨w1.heap.size, 0 + 0, none⟩ = some (.int .i64 n2) ∧ wq.cell? ⟨w1.heap.size, 0 + 1, none⟩ = some (.int .i64 d2) := fun wq h => ⟨cell_at h.1 rfl, cell_at h.1 rfl, cell_at h.2 rfl, cell_at h.2 rfl⟩
    have u2 := wrap_pos (n := d2) (by omega) hd2.2
    have u1 := wrap_pos (n := d1) (by omega) hd1.2
    have v1 : d1 = ((d1.natAbs : Nat) : Int) := by omega
    have v2 : d2 = ((d2.natAbs : Nat) : Int) := by omega
    repeat (first | (refine c_region_mix (fun wq => wq.heap[w.heap.size]? = some (.cells #[.int .i64 n1, .int .i64 d1] 35 (0, 0)) ∧ wq.heap[w1.heap.size]? = some (.cells #[.int .i64 n2, .int .i64 d2] 35 (0, 0))) [(0, true), (1, true), (3, true), (4, true), (5, true), (2, false), (6, false), (7, true), (8, true), (9, true), (10, true), (11, true)] 7 mixed (by kernel_rfl) ⟨g14, g24⟩ ?_; simp only [pickX, List.filterMap_cons, List.getElem?_cons_zero, List.getElem?_cons_succ, List.filterMap_nil, Option.map_some]) | refine c_seq ?_ | refine c_region _ ?_ | refine wpList_nil ?_ | refine c_then ?_ | refine wp_skip ?_ | ((first | apply st hF | apply stg hF); (first | exact d_not | exact d_pickF | exact d_cmpT | exact d_cmpF | exact d_eqbF (und _ _ rfl) | exact d_fieldAddr (fld _ _ _ _ rfl) (isz _ _ rfl) | exact d_load (und _ _ rfl) a0 | exact d_load (und _ _ rfl) b0); clear hF; clear a; intro a hF) | (apply c_cond_f hF; exact rfl; first | exact rfl | assumption))
    repeat (((apply x_step hF); intro wq hwq; (first | exact d_fieldAddr (fld _ _ _ _ rfl) (isz _ _ rfl) | exact d_convI (und _ _ rfl) (und _ _ rfl) (hm := u2) | exact d_load (und _ _ rfl) ((hS wq hwq).1) | exact d_load (und _ _ rfl) ((hS wq hwq).2.2.2)); clear hF; clear a; intro a hF))
    refine x_one ?_
    refine stc hF (size_ok _ n1 hn1) cal105 ⟨rfl, trivial⟩ (k := fun a v w5 hR hF => ?_)
    obtain ⟨rfl, rfl⟩ := hR
    refine wpList_nil ⟨rfl, ⟨g14, g24⟩, x_one ?_⟩
    refine stc hF (vs := [.int .u64 ((n1.natAbs : Nat) : Int), .int .u64 d2]) (by have := mul64_ok (w4.drewN 1) n1.natAbs d2.natAbs (by omega) (by omega); rw [← v2] at this; exact this) cal106 ⟨rfl, rfl, trivial⟩ (k := fun a v w5 hR hF => ?_)
    obtain ⟨⟨h, l, rfl, ehl, hl⟩, rfl⟩ := hR
    refine wpList_nil ⟨rfl, ⟨g14, g24⟩, ?_⟩
    repeat (((apply x_step hF); intro wq hwq; (first | exact d_move | exact d_assign | exact d_extract); clear hF; clear a; intro a hF))
    refine x_nil ?_
    have g15 : (w4.drewN 1).heap[w.heap.size]? = some (.cells #[.int .i64 n1, .int .i64 d1] 35 (0, 0)) := g14
    have g25 : (w4.drewN 1).heap[w1.heap.size]? = some (.cells #[.int .i64 n2, .int .i64 d2] 35 (0, 0)) := g24
    repeat (first | (refine c_region_mix (fun wq => wq.heap[w.heap.size]? = some (.cells #[.int .i64 n1, .int .i64 d1] 35 (0, 0)) ∧ wq.heap[w1.heap.size]? = some (.cells #[.int .i64 n2, .int .i64 d2] 35 (0, 0))) [(0, true), (1, true), (3, true), (4, true), (5, true), (2, false), (6, false), (7, true), (8, true), (9, true), (10, true), (11, true)] 8 mixed (by kernel_rfl) ⟨g15, g25⟩ ?_; simp only [pickX, List.filterMap_cons, List.getElem?_cons_zero, List.getElem?_cons_succ, List.filterMap_nil, Option.map_some]) | refine c_seq ?_ | refine c_then ?_)
    repeat (((apply x_step hF); intro wq hwq; (first | exact d_fieldAddr (fld _ _ _ _ rfl) (isz _ _ rfl) | exact d_convI (und _ _ rfl) (und _ _ rfl) (hm := u1) | exact d_load (und _ _ rfl) ((hS wq hwq).2.2.1) | exact d_load (und _ _ rfl) ((hS wq hwq).2.1)); clear hF; clear a; intro a hF))
    refine x_one ?_
    refine stc hF (size_ok _ n2 hn2) cal105 ⟨rfl, trivial⟩ (k := fun a v w5 hR hF => ?_)
    obtain ⟨rfl, rfl⟩ := hR
    refine wpList_nil ⟨rfl, ⟨g15, g25⟩, x_one ?_⟩
    refine stc hF (vs := [.int .u64 ((n2.natAbs : Nat) : Int), .int .u64 d1]) (by have := mul64_ok ((w4.drewN 1).drewN 1) n2.natAbs d1.natAbs (by omega) (by omega); rw [← v1] at this; exact this) cal106 ⟨rfl, rfl, trivial⟩ (k := fun a v w5 hR hF => ?_)
    obtain ⟨⟨i, m, rfl, eim, hm⟩, rfl⟩ := hR
    refine wpList_nil ⟨rfl, ⟨g15, g25⟩, ?_⟩
    repeat (((apply x_step hF); intro wq hwq; (first | exact d_move | exact d_assign | exact d_extract); clear hF; clear a; intro a hF))
    refine x_nil ?_
    have g16 : ((w4.drewN 1).drewN 1).heap[w.heap.size]? = some (.cells #[.int .i64 n1, .int .i64 d1] 35 (0, 0)) := g14
    have a6 : ((w4.drewN 1).drewN 1).cell? ⟨w.heap.size, 0 + 0, none⟩ = some (.int .i64 n1) := cell_at g16 rfl
    have hB6 : Below w.heap.size w ((w4.drewN 1).drewN 1) := below_more (below_more hB4 1) 1
    obtain ⟨k1, k2⟩ := cmp_words ehl eim hl hm
    rw [ehl] at q1 k1 k2
    rw [eim] at q2 k1 k2
    rcases Nat.lt_trichotomy h i with hhi | hhi | hhi
    · repeat (first | refine c_seq ?_ | refine c_block ?_ | refine c_region _ ?_ | refine wpList_nil ?_ | refine c_then ?_ | refine c_then_ret ?_ | refine c_in ?_ | refine c_in_ret ?_ | refine wp_skip ?_ | refine wp_ret ?_ | ((apply st hF); (first | exact d_move | exact d_assign | exact d_pickT | exact d_pickF | exact d_cmpT | exact d_cmpF | exact d_eqbT (und _ _ rfl) | exact d_eqbF (und _ _ rfl) | exact d_fieldAddr (fld _ _ _ _ rfl) (isz _ _ rfl) | exact d_load (und _ _ rfl) a6); clear hF; clear a; intro a hF) | ((first | apply stm hF | apply stu hF); clear hF; clear a; intro a hF) | (apply c_cond_t hF; exact rfl; first | exact rfl | assumption) | (apply c_cond_f hF; exact rfl; first | exact rfl | assumption))
      exact ret2 hF rfl rfl rfl ⟨⟨_, rfl, by split at q1 <;> split at q2 <;> omega⟩, hB6⟩
    · rcases Nat.lt_trichotomy l m with hlm | hlm | hlm
      · repeat (first | refine c_seq ?_ | refine c_block ?_ | refine c_region _ ?_ | refine wpList_nil ?_ | refine c_then ?_ | refine c_then_ret ?_ | refine c_in ?_ | refine c_in_ret ?_ | refine wp_skip ?_ | refine wp_ret ?_ | ((first | apply st hF | apply stg hF); (first | exact d_move | exact d_assign | exact d_pickT | exact d_pickF | exact d_cmpT | exact d_cmpF | exact d_eqbT (und _ _ rfl) | exact d_eqbF (und _ _ rfl) | exact d_fieldAddr (fld _ _ _ _ rfl) (isz _ _ rfl) | exact d_load (und _ _ rfl) a6); clear hF; clear a; intro a hF) | (apply c_cond_t hF; exact rfl; first | exact rfl | assumption) | (apply c_cond_f hF; exact rfl; first | exact rfl | assumption))
        exact ret2 hF rfl rfl rfl ⟨⟨_, rfl, by split at q1 <;> split at q2 <;> omega⟩, hB6⟩
      · repeat (first | refine c_seq ?_ | refine c_block ?_ | refine c_region _ ?_ | refine wpList_nil ?_ | refine c_then ?_ | refine c_then_ret ?_ | refine c_in_ret ?_ | refine wp_ret ?_ | ((first | apply st hF | apply stg hF); (first | exact d_move | exact d_assign | exact d_pickT | exact d_pickF | exact d_cmpT | exact d_cmpF); clear hF; clear a; intro a hF) | (apply c_cond_t hF; exact rfl; first | exact rfl | assumption))
        exact ret2 hF rfl rfl rfl ⟨⟨_, rfl, by split at q1 <;> split at q2 <;> omega⟩, hB6⟩
      · repeat (first | refine c_seq ?_ | refine c_block ?_ | refine c_region _ ?_ | refine wpList_nil ?_ | refine c_then ?_ | refine c_then_ret ?_ | refine c_in ?_ | refine c_in_ret ?_ | refine wp_skip ?_ | refine wp_ret ?_ | ((first | apply st hF | apply stg hF); (first | exact d_move | exact d_assign | exact d_pickT | exact d_pickF | exact d_cmpT | exact d_cmpF | exact d_eqbT (und _ _ rfl) | exact d_eqbF (und _ _ rfl) | exact d_fieldAddr (fld _ _ _ _ rfl) (isz _ _ rfl) | exact d_load (und _ _ rfl) a6); clear hF; clear a; intro a hF) | (apply c_cond_t hF; exact rfl; first | exact rfl | assumption) | (apply c_cond_f hF; exact rfl; first | exact rfl | assumption))
        exact ret2 hF rfl rfl rfl ⟨⟨_, rfl, by split at q1 <;> split at q2 <;> omega⟩, hB6⟩
    · repeat (first | refine c_seq ?_ | refine c_block ?_ | refine c_region _ ?_ | refine wpList_nil ?_ | refine c_then ?_ | refine c_then_ret ?_ | refine c_in ?_ | refine c_in_ret ?_ | refine wp_skip ?_ | refine wp_ret ?_ | ((first | apply st hF | apply stg hF); (first | exact d_move | exact d_assign | exact d_pickF | exact d_cmpT | exact d_cmpF | exact d_eqbT (und _ _ rfl) | exact d_eqbF (und _ _ rfl) | exact d_fieldAddr (fld _ _ _ _ rfl) (isz _ _ rfl) | exact d_load (und _ _ rfl) a6); clear hF; clear a; intro a hF) | ((apply stm hF); clear hF; clear a; intro a hF) | (apply c_cond_t hF; exact rfl; first | exact rfl | assumption) | (apply c_cond_f hF; exact rfl; first | exact rfl | assumption))
      exact ret2 hF rfl rfl rfl ⟨⟨_, rfl, by split at q1 <;> split at q2 <;> omega⟩, hB6⟩
end Go.Proofs.YtjomihhpglojpaaDoor
end
section
/- From what a struct reads as to its cells. -/
namespace Go.Proofs.YtjomihhpglojpaaDoor
open Go.ChangeShapes Go.WideShapes Go.ChangeAt Go.RowKit

section
variable {H : Type} {enc : TypeId × Value → H} {P : Program} {w : World}

end
end Go.Proofs.YtjomihhpglojpaaDoor
end
section
/- Nested arguments: what a slice within an argument reads as, and how great it may be. -/
namespace Go.Proofs.YtjomihhpglojpaaDoor
open Go.ChangeShapes Go.WideShapes Go.ChangeAt Go.RowKit Go.Deep

section
variable {H : Type} {enc : TypeId × Value → H} {P : Program} {w : World}

end
end Go.Proofs.YtjomihhpglojpaaDoor
end
section
/- A signal as it is handed in: all its cells, and its texts. -/
namespace Go.Proofs.YtjomihhpglojpaaDoor
open Go.RowKit
set_option linter.unusedSimpArgs false
set_option linter.unusedVariables false
attribute [local irreducible] wpList wpQuiet wpStill Code.wp Exit.then Exit.inBlock bodyPost Calls Does Does0
open Go.ChangeShapes Go.WideShapes

/-- A signal's fields. -/
structure Sig where
  line : Int
  col : Int
  name : ByteArray
  role : Int
  branch : Int
  start : Int
  size : Int
  mot : Bool
  sgn : Bool
  sn : Int
  sd : Int
  fn : Int
  fd : Int
  mn : Int
  md : Int
  xn : Int
  xd : Int
  unit : ByteArray
  toA : Option Addr
  toN : Nat
  toC : Nat
def Sig.cells (s : Sig) : List Value := [.int .i64 s.line, .int .i64 s.col, .string s.name, .int .i64 s.role, .int .u64 s.branch, .int .i64 s.start, .int .i64 s.size, .bool s.mot, .bool s.sgn, .int .i64 s.sn, .int .i64 s.sd, .int .i64 s.fn, .int .i64 s.fd, .int .i64 s.mn, .int .i64 s.md, .int .i64 s.xn, .int .i64 s.xd, .string s.unit, .slice s.toA s.toN s.toC]
/-- A signal that is there: its texts. -/
structure SigIn (w : World) (s : Sig) (ss : List ByteArray) : Prop where
  len : ss.length = s.toN
  rd : Rd w s.toA .string ss
  cap : s.toN ≤ s.toC
  bytes : s.toN * 16 ≤ 140737488351232
theorem SigIn.below {w w' : World} {s : Sig} {ss : List ByteArray} (h : SigIn w s ss) (hb : Below w.heap.size w w') : SigIn w' s ss := ⟨h.len, h.rd.below hb, h.cap, h.bytes⟩

end Go.Proofs.YtjomihhpglojpaaDoor
end
section
/- check.ranged, walked; what is wrong with a signal's fractions. -/
namespace Go.Proofs.YtjomihhpglojpaaDoor
open Go.RowKit
section
variable {P : Program} {w : World} {l : List (Nat × Value)}
/-- An element of an array of structs that is no variable. -/
theorem d_indexAG {x i : Operand} {cs : Array Value} {n sz : Nat} {k : IntKind} {j : Nat} {q : Int} {t e ty : TypeId} (hU : P.underlying t = some (.array n e)) (hE : (P.underlying e).map aggB = some true) (hs : (P.info? e).map (·.size) = some sz)
    (hx : Ev l x (.agg cs) := by exact rfl) (hi : Ev l i (.int k q) := by exact rfl) (hq : q = (j : Int) := by exact rfl) (hj : j < n := by omega) :
    Does P l w (.index t x i) ty (.agg (cs.extract (j * sz) (j * sz + sz))) w := by
  intro ρ hρ d pos af g
  subst hq
  obtain ⟨ti, h1, h2⟩ := Option.map_eq_some_iff.1 hs
  obtain ⟨dd, h3, h4⟩ := Option.map_eq_some_iff.1 hE
  cases dd <;> simp [aggB] at h4 <;> simp [execOp, Instr.index, asIntOf, hρ _ _ hx, hρ _ _ hi, run_underlying hU, sizeOf, typeInfo, h1, h2, hj, part, isAgg, run_underlying h3]
end
open Go.RowKit
set_option linter.unusedSimpArgs false
set_option linter.unusedVariables false
attribute [local irreducible] wpList wpQuiet wpStill Code.wp Exit.then Exit.inBlock bodyPost Calls Does Does0
/-- What stays within its kind. -/
structure SigB (s : Sig) : Prop where
  sn : -9223372036854775808 ≤ s.sn ∧ s.sn ≤ 9223372036854775807
  sd : -9223372036854775808 ≤ s.sd ∧ s.sd ≤ 9223372036854775807
  fn : -9223372036854775808 ≤ s.fn ∧ s.fn ≤ 9223372036854775807
  fd : -9223372036854775808 ≤ s.fd ∧ s.fd ≤ 9223372036854775807
  mn : -9223372036854775808 ≤ s.mn ∧ s.mn ≤ 9223372036854775807
  md : -9223372036854775808 ≤ s.md ∧ s.md ≤ 9223372036854775807
  xn : -9223372036854775808 ≤ s.xn ∧ s.xn ≤ 9223372036854775807
  xd : -9223372036854775808 ≤ s.xd ∧ s.xd ≤ 9223372036854775807
  br : 0 ≤ s.branch ∧ s.branch < 18446744073709551616
open Go.ChangeShapes Go.WideShapes in
instance (a b c d : Int) : Decidable (aboveP a b c d) := by unfold aboveP; infer_instance
/-- What is wrong with a signal's fractions: 1, 10, 18, or 0. -/
def rangedE (s : Sig) : Int :=
  if rightB s.sn s.sd = false then 1 else if rightB s.fn s.fd = false then 1 else if rightB s.mn s.md = false then 1 else if rightB s.xn s.xd = false then 1
  else if s.sn = 0 then 10 else if aboveP s.mn s.md s.xn s.xd then 18 else 0
def rats (s : Sig) : Array Value := #[.int .i64 s.sn, .int .i64 s.sd, .int .i64 s.fn, .int .i64 s.fd, .int .i64 s.mn, .int .i64 s.md, .int .i64 s.xn, .int .i64 s.xd]
def ratN (s : Sig) : Nat → Int
  | 0 => s.sn | 1 => s.fn | 2 => s.mn | _ => s.xn
def ratD (s : Sig) : Nat → Int
  | 0 => s.sd | 1 => s.fd | 2 => s.md | _ => s.xd
theorem rats_at (s : Sig) {j : Nat} (h : j < 4) : (rats s).extract (j * 2) (j * 2 + 2) = #[.int .i64 (ratN s j), .int .i64 (ratD s j)] := by
  have : j = 0 ∨ j = 1 ∨ j = 2 ∨ j = 3 := by omega
  rcases this with rfl | rfl | rfl | rfl <;> rfl
theorem ratB (s : Sig) (hB : SigB s) {j : Nat} (h : j < 4) : (-9223372036854775808 ≤ ratN s j ∧ ratN s j ≤ 9223372036854775807) ∧ (-9223372036854775808 ≤ ratD s j ∧ ratD s j ≤ 9223372036854775807) := by
  have : j = 0 ∨ j = 1 ∨ j = 2 ∨ j = 3 := by omega
  rcases this with rfl | rfl | rfl | rfl
  · exact ⟨hB.sn, hB.sd⟩
  · exact ⟨hB.fn, hB.fd⟩
  · exact ⟨hB.mn, hB.md⟩
  · exact ⟨hB.xn, hB.xd⟩
theorem ranged_bad {s : Sig} {j : Nat} (h : j < 4) (hr : rightB (ratN s j) (ratD s j) = false) : rangedE s = 1 := by
  unfold rangedE
  have : j = 0 ∨ j = 1 ∨ j = 2 ∨ j = 3 := by omega
  rcases this with rfl | rfl | rfl | rfl
  · exact if_pos hr
  · split
    · rfl
    · exact if_pos hr
  · split
    · rfl
    · split
      · rfl
      · exact if_pos hr
  · split
    · rfl
    · split
      · rfl
      · split
        · rfl
        · exact if_pos hr
theorem ranged_ok' {s : Sig} (h : ∀ j, j < 4 → rightB (ratN s j) (ratD s j) = true) : rangedE s = if s.sn = 0 then 10 else if aboveP s.mn s.md s.xn s.xd then 18 else 0 := by
  have h0 : rightB s.sn s.sd = true := h 0 (by decide)
  have h1 : rightB s.fn s.fd = true := h 1 (by decide)
  have h2 : rightB s.mn s.md = true := h 2 (by decide)
  have h3 : rightB s.xn s.xd = true := h 3 (by decide)
  unfold rangedE
  rw [h0, h1, h2, h3]
  simp
set_option maxHeartbeats 8000000 in
theorem ranged_ok (w : World) (s : Sig) (hB : SigB s) : Ret Tryd.prog 61 [.agg (Sig.cells s).toArray].toArray w (fun v w' => v = .int .i64 (rangedE s) ∧ Below w.heap.size w w') := by
  refine enter1 Tryd.func61 rfl 40 rfl 41 rfl (fun a hF => ?_)
  repeat (first | refine c_seq ?_ | refine c_region _ ?_)
  refine st_box hF (cs := (Sig.cells s).toArray) rfl (k := fun a w1 hg1 hgr1 hsz1 hF => ?_)
  have hb1 : Below w.heap.size w w1 := (Below.refl _ w).grown hgr1 (Nat.le_refl _) (fun k hk => by cases hk)
  have pr : ∀ (wq : World) (o : Nat) (x y : Value), wq.heap[w.heap.size]? = some (.cells (Sig.cells s).toArray 38 (0, 0)) → (Sig.cells s)[o]? = some x → (Sig.cells s)[o + 1]? = some y → ∀ j v, (#[x, y] : Array Value)[j]? = some v → wq.cell? ⟨w.heap.size, 0 + o + j, none⟩ = some v := by
    intro wq o x y hg h0 h1 j v hj
    rcases j with _ | _ | j
    · simp at hj; subst hj; rw [Nat.add_zero, Nat.zero_add]; exact cell_at hg (by simpa using h0)
    · simp at hj; subst hj; rw [Nat.zero_add]; exact cell_at hg (by simpa using h1)
    · simp at hj
  repeat (first | refine c_seq ?_ | refine c_block ?_ | refine c_region _ ?_ | refine wpList_nil ?_ | refine c_then ?_ | ((apply st hF); (first | exact d_move | exact d_assign | exact d_fieldAddr (fld _ _ _ _ rfl) (isz _ _ rfl) | exact d_loadAgg (agg _ rfl) (isz _ _ rfl) rfl (pr w1 9 (.int .i64 s.sn) (.int .i64 s.sd) hg1 rfl rfl) | exact d_loadAgg (agg _ rfl) (isz _ _ rfl) rfl (pr w1 11 (.int .i64 s.fn) (.int .i64 s.fd) hg1 rfl rfl) | exact d_loadAgg (agg _ rfl) (isz _ _ rfl) rfl (pr w1 13 (.int .i64 s.mn) (.int .i64 s.md) hg1 rfl rfl) | exact d_loadAgg (agg _ rfl) (isz _ _ rfl) rfl (pr w1 15 (.int .i64 s.xn) (.int .i64 s.xd) hg1 rfl rfl) | exact d_build (vs := [(0, .agg #[.int .i64 s.sn, .int .i64 s.sd]), (1, .agg #[.int .i64 s.fn, .int .i64 s.fd]), (2, .agg #[.int .i64 s.mn, .int .i64 s.md]), (3, .agg #[.int .i64 s.xn, .int .i64 s.xd])]) (cells := rats s) (by kernel_rfl) ⟨rfl, rfl, rfl, rfl, rfl, rfl, rfl, rfl, trivial⟩); clear hF; clear a; intro a hF))
  refine c_loop (fun q a wr => ∃ k : Nat, k ≤ 4 ∧ q = 4 - k ∧ (∀ j, j < k → rightB (ratN s j) (ratD s j) = true) ∧ Fr 41 [(1, .pointer (some ⟨w.heap.size, 0, none⟩)), (15, .agg (rats s)), (16, .int .i64 (k : Int))] a ∧ wr.heap[w.heap.size]? = some (.cells (Sig.cells s).toArray 38 (0, 0)) ∧ Below w.heap.size w wr) 4
    ⟨0, by decide, rfl, fun j h => absurd h (Nat.not_lt_zero _), hF.keep' ⟨rfl, rfl, rfl, trivial⟩, hg1, hb1⟩ ?_
  clear hF a hg1 hb1
  rintro q a wr ⟨k, hk, rfl, hpre, hF, hg1, hbel⟩
  have hsz := hbel.size
  have hlt1 := lt_at hg1
  by_cases hlt : k < 4
  · obtain ⟨bn, bd⟩ := ratB s hB hlt
    repeat (first | refine c_seq ?_ | refine c_block ?_ | refine c_region _ ?_ | refine wpList_nil ?_ | refine c_then ?_ | refine wp_skip ?_ | ((apply st hF); (first | exact d_cmpT | exact d_indexAG (und _ _ rfl) (agg _ rfl) (isz _ _ rfl) (j := k)); clear hF; clear a; intro a hF) | (apply c_cond_t hF; exact rfl; first | exact rfl | assumption))
    rw [rats_at s hlt] at hF
    refine st_alloc hF inf35 (k := fun a w2 hr2 hgr2 hsz2 hF => ?_)
    refine st_storeAgg hF (cs := #[.int .i64 (ratN s k), .int .i64 (ratD s k)]) (isz _ _ rfl) rfl rfl hr2 (by simp [Value.oneCell']) (k := fun a w3 hr3 hgr3 hsz3 hF => ?_)
    repeat (first | refine c_seq ?_ | refine c_region _ ?_ | refine wpList_nil ?_ | refine c_then ?_ | ((apply st hF); (exact d_loadAgg (agg _ rfl) (isz _ _ rfl) rfl (cells_at hr3)); clear hF; clear a; intro a hF))
    refine stc hF (right_ok w3 _ _ bn bd) cal85 ⟨rfl, trivial⟩ (k := fun a v w4 hR hF => ?_)
    obtain ⟨rfl, hb4⟩ := hR
    have hB4 : Below w.heap.size w w4 := ((hbel.grown hgr2 hsz (fun q e => by cases e)).grown hgr3 (by omega) (fun q e => by cases e; omega)).trans (hb4.mono (by omega))
    have hg4 := (hb4.block _ (by omega)).trans (blk_kept (blk_kept hg1 hgr2 (by simp)) hgr3 (by simp; omega))
    cases hr : rightB (ratN s k) (ratD s k) with
    | true =>
      rw [hr] at hF
      repeat (first | refine c_region _ ?_ | refine wpList_nil ?_ | refine c_then ?_ | refine c_in ?_ | refine wp_skip ?_ | ((apply st hF); (first | exact d_move | exact d_not | exact d_add); clear hF; clear a; intro a hF) | (apply c_cond_f hF; exact rfl; first | exact rfl | assumption))
      exact ⟨4 - (k + 1), by omega, k + 1, by omega, rfl, fun j h => by
        by_cases e : j = k
        · subst e; exact hr
        · exact hpre j (by omega), hF.keep' ⟨rfl, rfl, rfl, trivial⟩, hg4, hB4⟩
    | false =>
      rw [hr] at hF
      repeat (first | refine c_seq ?_ | refine c_region _ ?_ | refine wpList_nil ?_ | refine c_then ?_ | refine c_then_ret ?_ | refine c_in_ret ?_ | refine wp_ret ?_ | ((apply st hF); (first | exact d_assign | exact d_not); clear hF; clear a; intro a hF) | (apply c_cond_t hF; exact rfl; first | exact rfl | assumption))
      exact ret1 hF rfl rfl ⟨by rw [ranged_bad hlt hr], hB4⟩
  · obtain rfl : k = 4 := by omega
    have hre := ranged_ok' hpre
    have c9 : wr.cell? ⟨w.heap.size, 0 + 9 + 0, none⟩ = some (.int .i64 s.sn) := cell_at hg1 rfl
    by_cases h0 : s.sn = 0
    · rw [if_pos h0] at hre
      repeat (first | refine c_seq ?_ | refine c_region _ ?_ | refine wpList_nil ?_ | refine c_then ?_ | refine c_then_exit ?_ | refine c_then_ret ?_ | refine c_in_hit ?_ | refine wp_exit ?_ | refine wp_ret ?_ | ((apply st hF); (first | exact d_assign | exact d_cmpT | exact d_cmpF | exact d_fieldAddr (fld _ _ _ _ rfl) (isz _ _ rfl) | exact d_load (und _ _ rfl) c9); clear hF; clear a; intro a hF) | (apply c_cond_t hF; exact rfl; first | exact rfl | assumption) | (apply c_cond_f hF; exact rfl; first | exact rfl | assumption))
      exact ret1 hF rfl rfl ⟨by rw [hre], hbel⟩
    · rw [if_neg h0] at hre
      repeat (first | refine c_seq ?_ | refine c_region _ ?_ | refine wpList_nil ?_ | refine c_then ?_ | refine c_then_exit ?_ | refine c_in_hit ?_ | refine wp_skip ?_ | refine wp_exit ?_ | ((apply st hF); (first | exact d_cmpF | exact d_fieldAddr (fld _ _ _ _ rfl) (isz _ _ rfl) | exact d_loadAgg (agg _ rfl) (isz _ _ rfl) rfl (pr wr 13 (.int .i64 s.mn) (.int .i64 s.md) hg1 rfl rfl) | exact d_loadAgg (agg _ rfl) (isz _ _ rfl) rfl (pr wr 15 (.int .i64 s.xn) (.int .i64 s.xd) hg1 rfl rfl) | exact d_load (und _ _ rfl) c9); clear hF; clear a; intro a hF) | (apply c_cond_f hF; exact rfl; first | exact rfl | assumption))
      refine stc hF (rcmp_ok wr _ _ _ _ hB.mn hB.md hB.xn hB.xd (hpre 2 (by decide)) (hpre 3 (by decide))) cal86 ⟨rfl, rfl, trivial⟩ (k := fun a v w4 hR hF => ?_)
      obtain ⟨⟨z, rfl, hz⟩, hb4⟩ := hR
      have hB4 : Below w.heap.size w w4 := hbel.trans (hb4.mono hsz)
      by_cases ha : 0 < z
      · rw [if_pos (hz.1 ha)] at hre
        repeat (first | refine c_seq ?_ | refine c_region _ ?_ | refine wpList_nil ?_ | refine c_then ?_ | refine c_then_ret ?_ | refine wp_ret ?_ | ((first | apply st hF | apply stg hF); (first | exact d_move | exact d_assign | exact d_pickF | exact d_cmpT | exact d_neN (ifc _ rfl) | exact d_extract); clear hF; clear a; intro a hF) | (apply c_cond_t hF; exact rfl; first | exact rfl | assumption))
        exact ret1 hF rfl rfl ⟨by rw [hre], hB4⟩
      · rw [if_neg (fun h => ha (hz.2 h))] at hre
        repeat (first | refine c_seq ?_ | refine c_region _ ?_ | refine wpList_nil ?_ | refine c_then ?_ | refine wp_skip ?_ | refine wp_ret ?_ | ((first | apply st hF | apply stg hF); (first | exact d_move | exact d_assign | exact d_pickF | exact d_cmpF | exact d_neN (ifc _ rfl) | exact d_extract); clear hF; clear a; intro a hF) | (apply c_cond_f hF; exact rfl; first | exact rfl | assumption))
        exact ret1 hF rfl rfl ⟨by rw [hre], hB4⟩
end Go.Proofs.YtjomihhpglojpaaDoor
end
section
/- Structs of two numbers held against each other. -/
namespace Go.Proofs.YtjomihhpglojpaaDoor
open Go.RowKit

section
variable {P : Program} {w : World} {l : List (Nat × Value)}
end
end Go.Proofs.YtjomihhpglojpaaDoor
end
section
/- Lent texts and signals. -/
namespace Go.Proofs.YtjomihhpglojpaaDoor
open Go.RowKit
set_option linter.unusedSimpArgs false
set_option linter.unusedVariables false
attribute [local irreducible] wpList wpQuiet wpStill Code.wp Exit.then Exit.inBlock bodyPost Calls Does Does0

end Go.Proofs.YtjomihhpglojpaaDoor
end
section
/- Lent signals. -/
namespace Go.Proofs.YtjomihhpglojpaaDoor
open Go.RowKit
set_option linter.unusedSimpArgs false
set_option linter.unusedVariables false
attribute [local irreducible] wpList wpQuiet wpStill Code.wp Exit.then Exit.inBlock bodyPost Calls Does Does0

theorem own_base' {w : World} {base : Nat} {e : TypeId} {s g n c : Nat} {xs : List Value} (h : w.ownsRow base e s (.slice (some ⟨g, 0, none⟩) n c) n xs) : base ≤ g := by
  rcases h.2 with ⟨h0, _⟩ | ⟨g', cap', cur, h0, h1, _⟩
  · cases h0
  · cases h0; exact h1
theorem sig_cells (s : Sig) : ∀ v ∈ (Sig.cells s).toArray, v.oneCell' = true := by
  intro v hv
  simp [Sig.cells] at hv
  rcases hv with rfl | rfl | rfl | rfl | rfl | rfl | rfl | rfl | rfl | rfl | rfl | rfl | rfl | rfl | rfl | rfl | rfl | rfl | rfl <;> rfl

end Go.Proofs.YtjomihhpglojpaaDoor
end
