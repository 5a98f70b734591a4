/- Laid together by a program of mine: RangW MsgB Pp Pl. -/
import Derived.Test.YtjomihhpglojpaaGreatDoorSumLawMessageS10
import Derived.Test.YtjomihhpglojpaaGreatDoorSumLawMessageS5
import Derived.Test.YtjomihhpglojpaaGreatDoorSumLawMessageS7
import Derived.Test.YtjomihhpglojpaaGreatDoorSumLawMessageS4
import Derived.Ground.NamesProg
import Derived.Shelf.Lay
import Derived.Shelf.Slices.Reverse
import Derived.Sort.OwnSortedInts
set_option linter.unusedSimpArgs false
set_option linter.unusedVariables false
section
/- check.ranged, walked; what is wrong with a signal's fractions. -/
namespace Go.Proofs.YtjomihhpglojpaaGreatDoor
open Go.RowKit
section
variable {P : Program} {w : World} {l : List (Nat × Value)}
/-- An element of an array of structs that is no variable. -/
theorem d_indexAG {x i : Operand} {cs : Array Value} {n sz : Nat} {k : IntKind} {j : Nat} {q : Int} {t e ty : TypeId} (hU : P.underlying t = some (.array n e)) (hE : (P.underlying e).map aggB = some true) (hs : (P.info? e).map (·.size) = some sz)
    (hx : Ev l x (.agg cs) := by exact rfl) (hi : Ev l i (.int k q) := by exact rfl) (hq : q = (j : Int) := by exact rfl) (hj : j < n := by omega) :
    Does P l w (.index t x i) ty (.agg (cs.extract (j * sz) (j * sz + sz))) w := by
  intro ρ hρ d pos af g
  subst hq
  obtain ⟨ti, h1, h2⟩ := Option.map_eq_some_iff.1 hs
  obtain ⟨dd, h3, h4⟩ := Option.map_eq_some_iff.1 hE
  cases dd <;> simp [aggB] at h4 <;> simp [execOp, Instr.index, asIntOf, hρ _ _ hx, hρ _ _ hi, run_underlying hU, sizeOf, typeInfo, h1, h2, hj, part, isAgg, run_underlying h3]
end
open Go.RowKit
set_option linter.unusedSimpArgs false
set_option linter.unusedVariables false
attribute [local irreducible] wpList wpQuiet wpStill Code.wp Exit.then Exit.inBlock bodyPost Calls Does Does0
/-- What stays within its kind. -/
structure SigB (s : Sig) : Prop where
  sn : -9223372036854775808 ≤ s.sn ∧ s.sn ≤ 9223372036854775807
  sd : -9223372036854775808 ≤ s.sd ∧ s.sd ≤ 9223372036854775807
  fn : -9223372036854775808 ≤ s.fn ∧ s.fn ≤ 9223372036854775807
  fd : -9223372036854775808 ≤ s.fd ∧ s.fd ≤ 9223372036854775807
  mn : -9223372036854775808 ≤ s.mn ∧ s.mn ≤ 9223372036854775807
  md : -9223372036854775808 ≤ s.md ∧ s.md ≤ 9223372036854775807
  xn : -9223372036854775808 ≤ s.xn ∧ s.xn ≤ 9223372036854775807
  xd : -9223372036854775808 ≤ s.xd ∧ s.xd ≤ 9223372036854775807
  br : 0 ≤ s.branch ∧ s.branch < 18446744073709551616
theorem wf_i64' {x : Int} (h : (Lit.int .i64 x).wf = true) : -9223372036854775808 ≤ x ∧ x ≤ 9223372036854775807 := by
  have h1 : IntKind.i64.min ≤ x ∧ x ≤ IntKind.i64.max := by simpa [Lit.wf] using h
  rwa [show IntKind.i64.min = -9223372036854775808 by decide, show IntKind.i64.max = 9223372036854775807 by decide] at h1
theorem wf_u64' {x : Int} (h : (Lit.int .u64 x).wf = true) : 0 ≤ x ∧ x < 18446744073709551616 := by
  have h1 : IntKind.u64.min ≤ x ∧ x ≤ IntKind.u64.max := by simpa [Lit.wf] using h
  rw [show IntKind.u64.min = 0 by decide, show IntKind.u64.max = 18446744073709551615 by decide] at h1
  exact ⟨h1.1, by omega⟩
open Go.ChangeShapes Go.WideShapes in
theorem sig_bnd {H : Type} {enc : TypeId × Value → H} {w : World} {s : Sig} (h : Rdw enc Tryz.prog w 62 (Sig.cells s)) : SigB s := by
  have g := h.rds
  have r8 := g.fld (fld _ 8 _ _ rfl); rw [sz_rat] at r8
  have r9 := g.fld (fld _ 9 _ _ rfl); rw [sz_rat] at r9
  have r10 := g.fld (fld _ 10 _ _ rfl); rw [sz_rat] at r10
  have r11 := g.fld (fld _ 11 _ _ rfl); rw [sz_rat] at r11
  obtain ⟨_, e1, k1⟩ := r8.intAt (fld _ 0 _ _ rfl) (und _ _ rfl) sz_i64
  obtain ⟨_, e2, k2⟩ := r8.intAt (fld _ 1 _ _ rfl) (und _ _ rfl) sz_i64
  obtain ⟨_, e3, k3⟩ := r9.intAt (fld _ 0 _ _ rfl) (und _ _ rfl) sz_i64
  obtain ⟨_, e4, k4⟩ := r9.intAt (fld _ 1 _ _ rfl) (und _ _ rfl) sz_i64
  obtain ⟨_, e5, k5⟩ := r10.intAt (fld _ 0 _ _ rfl) (und _ _ rfl) sz_i64
  obtain ⟨_, e6, k6⟩ := r10.intAt (fld _ 1 _ _ rfl) (und _ _ rfl) sz_i64
  obtain ⟨_, e7, k7⟩ := r11.intAt (fld _ 0 _ _ rfl) (und _ _ rfl) sz_i64
  obtain ⟨_, e8, k8⟩ := r11.intAt (fld _ 1 _ _ rfl) (und _ _ rfl) sz_i64
  obtain ⟨_, e9, k9⟩ := g.intAt (fld _ 3 _ _ rfl) (und _ _ rfl) sz_u64
  cases e1; cases e2; cases e3; cases e4; cases e5; cases e6; cases e7; cases e8; cases e9
  exact ⟨wf_i64' k1, wf_i64' k2, wf_i64' k3, wf_i64' k4, wf_i64' k5, wf_i64' k6, wf_i64' k7, wf_i64' k8, wf_u64' k9⟩
instance (a b c d : Int) : Decidable (aboveP a b c d) := by unfold aboveP; infer_instance
/-- What is wrong with a signal's fractions: 1, 10, 18, or 0. -/
def rangedE (s : Sig) : Int :=
  if rightB s.sn s.sd = false then 1 else if rightB s.fn s.fd = false then 1 else if rightB s.mn s.md = false then 1 else if rightB s.xn s.xd = false then 1
  else if s.sn = 0 then 10 else if aboveP s.mn s.md s.xn s.xd then 18 else 0
def rats (s : Sig) : Array Value := #[.int .i64 s.sn, .int .i64 s.sd, .int .i64 s.fn, .int .i64 s.fd, .int .i64 s.mn, .int .i64 s.md, .int .i64 s.xn, .int .i64 s.xd]
def ratN (s : Sig) : Nat → Int
  | 0 => s.sn | 1 => s.fn | 2 => s.mn | _ => s.xn
def ratD (s : Sig) : Nat → Int
  | 0 => s.sd | 1 => s.fd | 2 => s.md | _ => s.xd
theorem rats_at (s : Sig) {j : Nat} (h : j < 4) : (rats s).extract (j * 2) (j * 2 + 2) = #[.int .i64 (ratN s j), .int .i64 (ratD s j)] := by
  have : j = 0 ∨ j = 1 ∨ j = 2 ∨ j = 3 := by omega
  rcases this with rfl | rfl | rfl | rfl <;> rfl
theorem ratB (s : Sig) (hB : SigB s) {j : Nat} (h : j < 4) : (-9223372036854775808 ≤ ratN s j ∧ ratN s j ≤ 9223372036854775807) ∧ (-9223372036854775808 ≤ ratD s j ∧ ratD s j ≤ 9223372036854775807) := by
  have : j = 0 ∨ j = 1 ∨ j = 2 ∨ j = 3 := by omega
  rcases this with rfl | rfl | rfl | rfl
  · exact ⟨hB.sn, hB.sd⟩
  · exact ⟨hB.fn, hB.fd⟩
  · exact ⟨hB.mn, hB.md⟩
  · exact ⟨hB.xn, hB.xd⟩
theorem ranged_bad {s : Sig} {j : Nat} (h : j < 4) (hr : rightB (ratN s j) (ratD s j) = false) : rangedE s = 1 := by
  unfold rangedE
  have : j = 0 ∨ j = 1 ∨ j = 2 ∨ j = 3 := by omega
  rcases this with rfl | rfl | rfl | rfl
  · exact if_pos hr
  · split
    · rfl
    · exact if_pos hr
  · split
    · rfl
    · split
      · rfl
      · exact if_pos hr
  · split
    · rfl
    · split
      · rfl
      · split
        · rfl
        · exact if_pos hr
theorem ranged_ok' {s : Sig} (h : ∀ j, j < 4 → rightB (ratN s j) (ratD s j) = true) : rangedE s = if s.sn = 0 then 10 else if aboveP s.mn s.md s.xn s.xd then 18 else 0 := by
  have h0 : rightB s.sn s.sd = true := h 0 (by decide)
  have h1 : rightB s.fn s.fd = true := h 1 (by decide)
  have h2 : rightB s.mn s.md = true := h 2 (by decide)
  have h3 : rightB s.xn s.xd = true := h 3 (by decide)
  unfold rangedE
  rw [h0, h1, h2, h3]
  simp
theorem ranged_bnd (s : Sig) : 0 ≤ rangedE s ∧ rangedE s ≤ 26 := by
  unfold rangedE
  repeat' split
  all_goals omega
theorem sigc19 (s : Sig) : (Sig.cells s).toArray.size = 19 := rfl
set_option maxHeartbeats 8000000 in
theorem ranged_ok (w : World) (s : Sig) (hB : SigB s) : Ret Tryz.prog 48 [.agg (Sig.cells s).toArray].toArray w (fun v w' => v = .int .i64 (rangedE s) ∧ Below w.heap.size w w') := by
  refine enter1 Tryz.func48 rfl 40 rfl 41 rfl (fun a hF => ?_)
  repeat (first | refine c_seq ?_ | refine c_region _ ?_)
  refine st_box hF (cs := (Sig.cells s).toArray) rfl (k := fun a w1 hg1 hgr1 hsz1 hF => ?_)
  have hb1 : Below w.heap.size w w1 := (Below.refl _ w).grown hgr1 (Nat.le_refl _) (fun k hk => by cases hk)
  have pr : ∀ (wq : World) (o : Nat) (x y : Value), wq.heap[w.heap.size]? = some (.cells (Sig.cells s).toArray 62 (0, 0)) → (Sig.cells s)[o]? = some x → (Sig.cells s)[o + 1]? = some y → ∀ j v, (#[x, y] : Array Value)[j]? = some v → wq.cell? ⟨w.heap.size, 0 + o + j, none⟩ = some v := by
    intro wq o x y hg h0 h1 j v hj
    rcases j with _ | _ | j
    · simp at hj; subst hj; rw [Nat.add_zero, Nat.zero_add]; exact cell_at hg (by simpa using h0)
    · simp at hj; subst hj; rw [Nat.zero_add]; exact cell_at hg (by simpa using h1)
    · simp at hj
  repeat (first | refine c_seq ?_ | refine c_block ?_ | refine c_region _ ?_ | refine wpList_nil ?_ | refine c_then ?_ | ((apply st hF); (first | exact d_move | exact d_assign | exact d_fieldAddr (fld _ _ _ _ rfl) (isz _ _ rfl) | exact d_loadAgg (agg _ rfl) (isz _ _ rfl) rfl (pr w1 9 (.int .i64 s.sn) (.int .i64 s.sd) hg1 rfl rfl) | exact d_loadAgg (agg _ rfl) (isz _ _ rfl) rfl (pr w1 11 (.int .i64 s.fn) (.int .i64 s.fd) hg1 rfl rfl) | exact d_loadAgg (agg _ rfl) (isz _ _ rfl) rfl (pr w1 13 (.int .i64 s.mn) (.int .i64 s.md) hg1 rfl rfl) | exact d_loadAgg (agg _ rfl) (isz _ _ rfl) rfl (pr w1 15 (.int .i64 s.xn) (.int .i64 s.xd) hg1 rfl rfl) | exact d_build (vs := [(0, .agg #[.int .i64 s.sn, .int .i64 s.sd]), (1, .agg #[.int .i64 s.fn, .int .i64 s.fd]), (2, .agg #[.int .i64 s.mn, .int .i64 s.md]), (3, .agg #[.int .i64 s.xn, .int .i64 s.xd])]) (cells := rats s) (by kernel_rfl) ⟨rfl, rfl, rfl, rfl, rfl, rfl, rfl, rfl, trivial⟩); clear hF; clear a; intro a hF))
  refine c_loop (fun q a wr => ∃ k : Nat, k ≤ 4 ∧ q = 4 - k ∧ (∀ j, j < k → rightB (ratN s j) (ratD s j) = true) ∧ Fr 41 [(1, .pointer (some ⟨w.heap.size, 0, none⟩)), (15, .agg (rats s)), (16, .int .i64 (k : Int))] a ∧ wr.heap[w.heap.size]? = some (.cells (Sig.cells s).toArray 62 (0, 0)) ∧ Below w.heap.size w wr) 4
    ⟨0, by decide, rfl, fun j h => absurd h (Nat.not_lt_zero _), hF.keep' ⟨rfl, rfl, rfl, trivial⟩, hg1, hb1⟩ ?_
  clear hF a hg1 hb1
  rintro q a wr ⟨k, hk, rfl, hpre, hF, hg1, hbel⟩
  have hsz := hbel.size
  have hlt1 := lt_at hg1
  by_cases hlt : k < 4
  · obtain ⟨bn, bd⟩ := ratB s hB hlt
    repeat (first | refine c_seq ?_ | refine c_block ?_ | refine c_region _ ?_ | refine wpList_nil ?_ | refine c_then ?_ | refine wp_skip ?_ | ((apply st hF); (first | exact d_cmpT | exact d_indexAG (und _ _ rfl) (agg _ rfl) (isz _ _ rfl) (j := k)); clear hF; clear a; intro a hF) | (apply c_cond_t hF; exact rfl; first | exact rfl | assumption))
    rw [rats_at s hlt] at hF
    refine st_alloc hF inf60 (k := fun a w2 hr2 hgr2 hsz2 hF => ?_)
    refine st_storeAgg hF (cs := #[.int .i64 (ratN s k), .int .i64 (ratD s k)]) (isz _ _ rfl) rfl rfl hr2 (by simp [Value.oneCell']) (k := fun a w3 hr3 hgr3 hsz3 hF => ?_)
    repeat (first | refine c_seq ?_ | refine c_region _ ?_ | refine wpList_nil ?_ | refine c_then ?_ | ((apply st hF); (exact d_loadAgg (agg _ rfl) (isz _ _ rfl) rfl (cells_at hr3)); clear hF; clear a; intro a hF))
    refine stc hF (right_ok w3 _ _ bn bd) cal76 ⟨rfl, trivial⟩ (k := fun a v w4 hR hF => ?_)
    obtain ⟨rfl, hb4⟩ := hR
    have hB4 : Below w.heap.size w w4 := ((hbel.grown hgr2 hsz (fun q e => by cases e)).grown hgr3 (by omega) (fun q e => by cases e; omega)).trans (hb4.mono (by omega))
    have hg4 := (hb4.block _ (by omega)).trans (blk_kept (blk_kept hg1 hgr2 (by simp)) hgr3 (by simp; omega))
    cases hr : rightB (ratN s k) (ratD s k) with
    | true =>
      rw [hr] at hF
      repeat (first | refine c_region _ ?_ | refine wpList_nil ?_ | refine c_then ?_ | refine c_in ?_ | refine wp_skip ?_ | ((apply st hF); (first | exact d_move | exact d_not | exact d_add); clear hF; clear a; intro a hF) | (apply c_cond_f hF; exact rfl; first | exact rfl | assumption))
      exact ⟨4 - (k + 1), by omega, k + 1, by omega, rfl, fun j h => by
        by_cases e : j = k
        · subst e; exact hr
        · exact hpre j (by omega), hF.keep' ⟨rfl, rfl, rfl, trivial⟩, hg4, hB4⟩
    | false =>
      rw [hr] at hF
      repeat (first | refine c_seq ?_ | refine c_region _ ?_ | refine wpList_nil ?_ | refine c_then ?_ | refine c_then_ret ?_ | refine c_in_ret ?_ | refine wp_ret ?_ | ((apply st hF); (first | exact d_assign | exact d_not); clear hF; clear a; intro a hF) | (apply c_cond_t hF; exact rfl; first | exact rfl | assumption))
      exact ret1 hF rfl rfl ⟨by rw [ranged_bad hlt hr], hB4⟩
  · obtain rfl : k = 4 := by omega
    have hre := ranged_ok' hpre
    have c9 : wr.cell? ⟨w.heap.size, 0 + 9 + 0, none⟩ = some (.int .i64 s.sn) := cell_at hg1 rfl
    by_cases h0 : s.sn = 0
    · rw [if_pos h0] at hre
      repeat (first | refine c_seq ?_ | refine c_region _ ?_ | refine wpList_nil ?_ | refine c_then ?_ | refine c_then_exit ?_ | refine c_then_ret ?_ | refine c_in_hit ?_ | refine wp_exit ?_ | refine wp_ret ?_ | ((apply st hF); (first | exact d_assign | exact d_cmpT | exact d_cmpF | exact d_fieldAddr (fld _ _ _ _ rfl) (isz _ _ rfl) | exact d_load (und _ _ rfl) c9); clear hF; clear a; intro a hF) | (apply c_cond_t hF; exact rfl; first | exact rfl | assumption) | (apply c_cond_f hF; exact rfl; first | exact rfl | assumption))
      exact ret1 hF rfl rfl ⟨by rw [hre], hbel⟩
    · rw [if_neg h0] at hre
      repeat (first | refine c_seq ?_ | refine c_region _ ?_ | refine wpList_nil ?_ | refine c_then ?_ | refine c_then_exit ?_ | refine c_in_hit ?_ | refine wp_skip ?_ | refine wp_exit ?_ | ((apply st hF); (first | exact d_cmpF | exact d_fieldAddr (fld _ _ _ _ rfl) (isz _ _ rfl) | exact d_loadAgg (agg _ rfl) (isz _ _ rfl) rfl (pr wr 13 (.int .i64 s.mn) (.int .i64 s.md) hg1 rfl rfl) | exact d_loadAgg (agg _ rfl) (isz _ _ rfl) rfl (pr wr 15 (.int .i64 s.xn) (.int .i64 s.xd) hg1 rfl rfl) | exact d_load (und _ _ rfl) c9); clear hF; clear a; intro a hF) | (apply c_cond_f hF; exact rfl; first | exact rfl | assumption))
      refine stc hF (rcmp_ok wr _ _ _ _ hB.mn hB.md hB.xn hB.xd (hpre 2 (by decide)) (hpre 3 (by decide))) cal77 ⟨rfl, rfl, trivial⟩ (k := fun a v w4 hR hF => ?_)
      obtain ⟨⟨z, rfl, hz⟩, hb4⟩ := hR
      have hB4 : Below w.heap.size w w4 := hbel.trans (hb4.mono hsz)
      by_cases ha : 0 < z
      · rw [if_pos (hz.1 ha)] at hre
        repeat (first | refine c_seq ?_ | refine c_region _ ?_ | refine wpList_nil ?_ | refine c_then ?_ | refine c_then_ret ?_ | refine wp_ret ?_ | ((first | apply st hF | apply stg hF); (first | exact d_move | exact d_assign | exact d_pickF | exact d_cmpT | exact d_neN (ifc _ rfl) | exact d_extract); clear hF; clear a; intro a hF) | (apply c_cond_t hF; exact rfl; first | exact rfl | assumption))
        exact ret1 hF rfl rfl ⟨by rw [hre], hB4⟩
      · rw [if_neg (fun h => ha (hz.2 h))] at hre
        repeat (first | refine c_seq ?_ | refine c_region _ ?_ | refine wpList_nil ?_ | refine c_then ?_ | refine wp_skip ?_ | refine wp_ret ?_ | ((first | apply st hF | apply stg hF); (first | exact d_move | exact d_assign | exact d_pickF | exact d_cmpF | exact d_neN (ifc _ rfl) | exact d_extract); clear hF; clear a; intro a hF) | (apply c_cond_f hF; exact rfl; first | exact rfl | assumption))
        exact ret1 hF rfl rfl ⟨by rw [hre], hB4⟩
end Go.Proofs.YtjomihhpglojpaaGreatDoor
end
section
/- A message as it is handed in, with what its numbers stay within. -/
namespace Go.Proofs.YtjomihhpglojpaaGreatDoor
open Go.RowKit
set_option linter.unusedSimpArgs false
set_option linter.unusedVariables false
attribute [local irreducible] wpList wpQuiet wpStill Code.wp Exit.then Exit.inBlock bodyPost Calls Does Does0
open Go.ChangeShapes Go.WideShapes

theorem by_sig : Tryz.prog.bytesOf 62 = 176 := by kernel_rfl
theorem sz_msg : Tryz.prog.cellsOf 27 = 8 := by kernel_rfl
theorem sz_u32 : Tryz.prog.cellsOf 24 = 1 := by kernel_rfl
theorem sz_sigs : Tryz.prog.cellsOf 25 = 1 := by kernel_rfl
theorem sigs_of {H : Type} {enc : TypeId × Value → H} {w : World} {cs : List Value} (h : Rdw enc Tryz.prog w 25 cs) : ∃ ao n c ps, cs = [.slice ao n c] ∧ SigsIn w ao n c ps ∧ ∀ p ∈ ps, SigB p.1 := by
  obtain ⟨ao, len, cap, rfl, hl, hm, hby, hel⟩ := h.slice (und _ _ rfl) (by rw [sz_sig]; decide)
  rw [by_sig] at hby
  have key : ∀ n, n ≤ len → ∃ ps : List SigT, ps.length = n ∧ RdS w ao 19 Sig.cells (ps.map (·.1)) ∧ ∀ p ∈ ps, SigIn w p.1 p.2 ∧ SigB p.1 := by
    intro n
    induction n with
    | zero => intro _; exact ⟨[], rfl, fun i hi => absurd hi (Nat.not_lt_zero _), by simp⟩
    | succ n ih =>
      intro hn
      obtain ⟨ps, hsl, hrd, hin⟩ := ih (by omega)
      obtain ⟨b, o, cs', hao, hcl, hq, hr⟩ := hel n (by omega)
      obtain ⟨s, ss, rfl, hs⟩ := sig_of hr
      have hsb := sig_bnd hr
      rw [sz_sig] at hq
      refine ⟨ps ++ [(s, ss)], by simp [hsl], fun i hi => ?_, fun x hx => ?_⟩
      · by_cases hin : i < n
        · obtain ⟨b', o', e1, e2⟩ := hrd i (by simp; omega)
          refine ⟨b', o', e1, ?_⟩
          have e3 : (List.map (·.1) (ps ++ [(s, ss)]))[i]'hi = (List.map (·.1) ps)[i]'(by simp; omega) := by
            simp only [List.map_append]
            rw [List.getElem_append_left (by simp; omega)]
          rw [e3]
          exact e2
        · have : i = n := by simp at hi; omega
          subst this
          refine ⟨b, o, hao, fun q v hv => ?_⟩
          have e3 : (List.map (·.1) (ps ++ [(s, ss)]))[i]'hi = s := by
            simp only [List.map_append]
            rw [List.getElem_append_right (by simp; omega)]
            simp [hsl]
          rw [e3] at hv
          have hlt : q < 19 := by
            have := (List.getElem?_eq_some_iff.1 hv).1
            rw [sigc_len] at this; exact this
          rw [hq q hlt]
          exact hv
      · rcases List.mem_append.1 hx with hx | hx
        · exact hin x hx
        · simp at hx; subst hx; exact ⟨hs, hsb⟩
  obtain ⟨ps, h1, h2, h3⟩ := key len (Nat.le_refl _)
  exact ⟨ao, len, cap, ps, rfl, ⟨h1, h2, fun p hp => (h3 p hp).1, hl, Nat.le_trans (Nat.mul_le_mul_right _ hl) hby⟩, fun p hp => (h3 p hp).2⟩

theorem wf_u32' {x : Int} (h : (Lit.int .u32 x).wf = true) : 0 ≤ x ∧ x < 4294967296 := by
  have h1 : IntKind.u32.min ≤ x ∧ x ≤ IntKind.u32.max := by simpa [Lit.wf] using h
  rw [show IntKind.u32.min = 0 by decide, show IntKind.u32.max = 4294967295 by decide] at h1
  exact ⟨h1.1, by omega⟩
theorem msg_of {H : Type} {enc : TypeId × Value → H} {w : World} {cs : List Value} (h : Rdw enc Tryz.prog w 27 cs) : ∃ m ps, cs = Msg.cells m ∧ MsgIn w m ps ∧ (∀ p ∈ ps, SigB p.1) ∧ 0 ≤ m.id ∧ m.id < 4294967296 := by
  have hl := h.rds.len (fld _ 0 _ _ rfl)
  rw [sz_msg] at hl
  obtain ⟨a0, a1, a2, a3, a4, a5, a6, a7, rfl⟩ : ∃ a0 a1 a2 a3 a4 a5 a6 a7, cs = [a0, a1, a2, a3, a4, a5, a6, a7] := by
    rcases cs with _ | ⟨a0, _ | ⟨a1, _ | ⟨a2, _ | ⟨a3, _ | ⟨a4, _ | ⟨a5, _ | ⟨a6, _ | ⟨a7, _ | ⟨a8, r⟩⟩⟩⟩⟩⟩⟩⟩⟩ <;> simp at hl
    exact ⟨_, _, _, _, _, _, _, _, rfl⟩
  have k0 := h.fld (fld _ 0 _ _ rfl); rw [sz_place] at k0
  have k1 := h.fld (fld _ 1 _ _ rfl); rw [sz_u32] at k1
  have k2 := h.fld (fld _ 2 _ _ rfl); rw [sz_bool] at k2
  have k3 := h.fld (fld _ 3 _ _ rfl); rw [sz_string] at k3
  have k4 := h.fld (fld _ 4 _ _ rfl); rw [sz_int] at k4
  have k5 := h.fld (fld _ 5 _ _ rfl); rw [sz_string] at k5
  have k6 := h.fld (fld _ 6 _ _ rfl); rw [sz_sigs] at k6
  have p0 := k0.fld (fld _ 0 _ _ rfl); rw [sz_int] at p0
  have p1 := k0.fld (fld _ 1 _ _ rfl); rw [sz_int] at p1
  obtain ⟨i0, e0, _⟩ := p0.rds.int (und _ _ rfl)
  obtain ⟨i1, e1, _⟩ := p1.rds.int (und _ _ rfl)
  obtain ⟨i2, e2, hw2⟩ := Rds.int k1.rds (und _ _ rfl)
  obtain ⟨i3, e3⟩ := Rds.bool k2.rds (und _ _ rfl)
  obtain ⟨i4, e4, _⟩ := Rds.string k3.rds (und _ _ rfl)
  obtain ⟨i5, e5, _⟩ := Rds.int k4.rds (und _ _ rfl)
  obtain ⟨i6, e6, _⟩ := Rds.string k5.rds (und _ _ rfl)
  obtain ⟨ao, n, c, ps, e7, hs, hsb⟩ := sigs_of k6
  simp only [List.drop_succ_cons, List.drop_zero, List.take_succ_cons, List.take_zero, List.cons.injEq, and_true] at e0 e1 e2 e3 e4 e5 e6 e7
  subst e0; subst e1; subst e2; subst e3; subst e4; subst e5; subst e6; subst e7
  exact ⟨⟨i0, i1, i2, i3, i4, i5, i6, ao, n, c⟩, ps, rfl, hs, hsb, wf_u32' hw2⟩
end Go.Proofs.YtjomihhpglojpaaGreatDoor
end
section
/- The plain laws of places: bits of a signal; no program in sight. -/
namespace Go.Proofs.YtjomihhpglojpaaGreatDoor.Pl

def nextB (mot : Bool) (b : Int) : Int := if mot = false then b + 1 else if b % 8 = 0 then b + 15 else b - 1
def seqB (mot : Bool) : Int → Nat → List Int
  | _, 0 => []
  | b, n + 1 => b :: seqB mot (nextB mot b) n
/-- The row that may be, or the error's number. -/
def bitsOfSig (start size : Int) (mot : Bool) : Except Int (List Int) :=
  if size < 1 ∨ 64 < size then .error 15
  else if start < 0 ∨ 63 < start then .error 16
  else if (seqB mot start size.toNat).all (· ≤ 63) then .ok (if mot then (seqB mot start size.toNat).reverse else seqB mot start size.toNat)
  else .error 16
def withinS (start size : Int) (mot : Bool) (n : Int) : Bool :=
  match bitsOfSig start size mot with
  | .ok l => decide (0 ≤ n ∧ n ≤ 8 ∧ ∀ x ∈ l, x < 8 * n)
  | .error _ => false

theorem seqB_len (mot : Bool) : ∀ n b, (seqB mot b n).length = n
  | 0, _ => rfl
  | n + 1, b => by simp [seqB, seqB_len mot n]

/-- A bit in a mirror, byte by byte. -/
def mir (b : Int) : Int := 8 * (b / 8) + 7 - b % 8
def pos (mot : Bool) (b : Int) : Int := if mot then mir b else b
theorem mir_mir (b : Int) : mir (mir b) = b := by unfold mir; omega
theorem pos_pos (mot : Bool) (b : Int) : pos mot (pos mot b) = b := by unfold pos; cases mot <;> simp [mir_mir]
theorem pos_next (mot : Bool) (b : Int) : pos mot (nextB mot b) = pos mot b + 1 := by
  unfold pos nextB mir
  cases mot
  · simp
  · simp; split <;> omega
theorem pos_lt (mot : Bool) (b n : Int) : pos mot b < 8 * n ↔ b < 8 * n := by unfold pos mir; cases mot <;> simp; omega
theorem pos_ge (mot : Bool) (b : Int) : 0 ≤ pos mot b ↔ 0 ≤ b := by unfold pos mir; cases mot <;> simp; omega
theorem seqB_get (mot : Bool) : ∀ n b i (h : i < (seqB mot b n).length), (seqB mot b n)[i] = pos mot (pos mot b + i)
  | 0, _, _, h => by simp [seqB] at h
  | n + 1, b, 0, _ => by simp [seqB, pos_pos]
  | n + 1, b, i + 1, h => by
    have h' : i < (seqB mot (nextB mot b) n).length := by simpa [seqB] using h
    have := seqB_get mot n (nextB mot b) i h'
    simp only [seqB, List.getElem_cons_succ, this, pos_next]
    congr 1
    push_cast
    omega
theorem seqB_mem {mot : Bool} {n : Nat} {b x : Int} (h : x ∈ seqB mot b n) : ∃ i, i < n ∧ x = pos mot (pos mot b + i) := by
  obtain ⟨i, hi, rfl⟩ := List.getElem_of_mem h
  exact ⟨i, by rw [seqB_len] at hi; exact hi, seqB_get mot n b i hi⟩
theorem seqB_mem_of {mot : Bool} {n : Nat} {b : Int} {i : Nat} (h : i < n) : pos mot (pos mot b + i) ∈ seqB mot b n := by
  rw [← seqB_get mot n b i (by rw [seqB_len]; exact h)]
  exact List.getElem_mem _
theorem nextB_bounds {mot : Bool} {b : Int} (h0 : 0 ≤ b) (h1 : b ≤ 63) : 0 ≤ nextB mot b ∧ nextB mot b ≤ 78 := by
  unfold nextB; cases mot <;> simp <;> (try split) <;> omega
theorem seqB_snoc (mot : Bool) : ∀ n b, seqB mot b (n + 1) = seqB mot b n ++ [pos mot (pos mot b + n)]
  | 0, b => by simp [seqB, pos_pos]
  | n + 1, b => by
    rw [seqB, seqB_snoc mot n (nextB mot b), seqB, pos_next]
    simp only [List.cons_append]
    congr 4
    push_cast
    omega
theorem seqB_take (mot : Bool) : ∀ n k b, k ≤ n → (seqB mot b n).take k = seqB mot b k
  | n, 0, b, _ => by simp [seqB]
  | 0, k + 1, _, h => by omega
  | n + 1, k + 1, b, h => by simp [seqB, seqB_take mot n k (nextB mot b) (by omega)]
theorem all_snoc (l : List Int) (x : Int) : (l ++ [x]).all (· ≤ 63) = (l.all (· ≤ 63) && decide (x ≤ 63)) := by simp
/-- What comes behind so many. -/
def nth (mot : Bool) (b : Int) : Nat → Int
  | 0 => b
  | n + 1 => nextB mot (nth mot b n)
theorem nth_pos (mot : Bool) (b : Int) : ∀ n, nth mot b n = pos mot (pos mot b + n)
  | 0 => by simp [nth, pos_pos]
  | n + 1 => by
    have := pos_next mot (nth mot b n)
    have h2 := nth_pos mot b n
    rw [nth, ← pos_pos mot (nextB mot (nth mot b n)), this, h2, pos_pos]
    congr 1
    push_cast
    omega
theorem seqB_snoc' (mot : Bool) (n : Nat) (b : Int) : seqB mot b (n + 1) = seqB mot b n ++ [nth mot b n] := by rw [seqB_snoc, nth_pos]
theorem all_take {mot : Bool} {b : Int} {n k : Nat} (h : k < n) (hb : 63 < nth mot b k) : (seqB mot b n).all (· ≤ 63) = false := by
  rw [List.all_eq_false]
  refine ⟨nth mot b k, ?_, by simp; omega⟩
  rw [nth_pos]
  exact seqB_mem_of h

/-- The greatest. -/
def maxL : List Int → Int
  | [] => 0
  | x :: r => r.foldl (fun m n => if m < n then n else m) x
theorem foldl_max_lt (l : List Int) : ∀ x m, l.foldl (fun m n => if m < n then n else m) x < m ↔ x < m ∧ ∀ y ∈ l, y < m := by
  induction l with
  | nil => intro x m; simp
  | cons y r ih =>
    intro x m
    rw [List.foldl_cons, ih]
    simp only [List.mem_cons, forall_eq_or_imp]
    split <;> constructor <;> rintro ⟨h1, h2⟩
    · exact ⟨by omega, h1, h2⟩
    · exact ⟨h2.1, h2.2⟩
    · exact ⟨h1, by omega, h2⟩
    · exact ⟨h1, h2.2⟩
theorem maxL_lt {l : List Int} (hl : l ≠ []) (m : Int) : maxL l < m ↔ ∀ y ∈ l, y < m := by
  cases l with
  | nil => exact absurd rfl hl
  | cons x r => simp only [maxL, foldl_max_lt, List.mem_cons, forall_eq_or_imp]
theorem maxL_snoc {l : List Int} (hl : l ≠ []) (x : Int) : maxL (l ++ [x]) = if maxL l < x then x else maxL l := by
  cases l with
  | nil => exact absurd rfl hl
  | cons y r =>
    show List.foldl _ y (r ++ [x]) = _
    rw [List.foldl_append]
    rfl

/-- What is a row that may be. -/
theorem bits_ok {start size : Int} {mot : Bool} {l : List Int} (h : bitsOfSig start size mot = .ok l) :
    1 ≤ size ∧ size ≤ 64 ∧ 0 ≤ start ∧ start ≤ 63 ∧ (l.length : Int) = size ∧ (∀ x ∈ l, 0 ≤ x ∧ x ≤ 63) ∧ (∀ x, x ∈ l ↔ x ∈ seqB mot start size.toNat) ∧ l = (if mot then (seqB mot start size.toNat).reverse else seqB mot start size.toNat) := by
  unfold bitsOfSig at h
  split at h
  · cases h
  split at h
  · cases h
  split at h
  · rename_i h1 h2 h3
    cases h
    have hm : ∀ x, x ∈ (if mot then (seqB mot start size.toNat).reverse else seqB mot start size.toNat) ↔ x ∈ seqB mot start size.toNat := by intro x; cases mot <;> simp
    refine ⟨by omega, by omega, by omega, by omega, ?_, fun x hx => ?_, hm, rfl⟩
    · cases mot <;> simp [seqB_len] <;> omega
    · have hx' := (hm x).1 hx
      have h4 := List.all_eq_true.1 h3 x hx'
      obtain ⟨i, hi, rfl⟩ := seqB_mem hx'
      have h5 : 0 ≤ pos mot (pos mot start + i) := (pos_ge _ _).2 (by have := (pos_ge mot start).2 (by omega); omega)
      exact ⟨h5, by simpa using h4⟩
  · cases h

theorem within_size {start size : Int} {mot : Bool} {n : Int} (h : withinS start size mot n = true) : size ≤ 8 * n := by
  unfold withinS at h
  split at h
  · rename_i l hl
    obtain ⟨g1, g2, g3, g4, g5, g6, g7, _⟩ := bits_ok hl
    have h' := of_decide_eq_true h
    have hmem : pos mot (pos mot start + ((size.toNat - 1 : Nat) : Int)) ∈ l := (g7 _).2 (seqB_mem_of (by omega))
    have := (pos_lt mot _ n).2 (h'.2.2 _ hmem)
    rw [pos_pos] at this
    have h0 := (pos_ge mot start).2 g3
    omega
  · cases h
theorem within_more {start size : Int} {mot : Bool} {n : Int} (h : withinS start size mot n = true) (hn : n ≠ 8) : withinS start size mot (n + 1) = true := by
  unfold withinS at h ⊢
  split at h
  · have h' := of_decide_eq_true h
    exact decide_eq_true ⟨by omega, by omega, fun x hx => by have := h'.2.2 x hx; omega⟩
  · cases h
theorem within_8 (start size : Int) (mot : Bool) : withinS start size mot 8 = (match bitsOfSig start size mot with | .ok _ => true | .error _ => false) := by
  unfold withinS
  split
  · rename_i l hl
    obtain ⟨_, _, _, _, _, g6, _, _⟩ := bits_ok hl
    exact decide_eq_true ⟨by omega, by omega, fun x hx => by have := g6 x hx; omega⟩
  · rfl
theorem within_out {start size : Int} {mot : Bool} {n : Int} (h : n < 0 ∨ 8 < n) : withinS start size mot n = false := by
  unfold withinS
  split
  · exact decide_eq_false (by omega)
  · rfl
end Go.Proofs.YtjomihhpglojpaaGreatDoor.Pl
end
section
/- place: what the program computes. -/
namespace Go.Proofs.YtjomihhpglojpaaGreatDoor
open Go.RowKit
set_option linter.unusedSimpArgs false
set_option linter.unusedVariables false
attribute [local irreducible] wpList wpQuiet wpStill Code.wp Exit.then Exit.inBlock bodyPost Calls Does Does0

/-- A signal's cells, as far as its place goes. -/
structure SigAt (cs : Array Value) (start size : Int) (mot : Bool) : Prop where
  len : cs.size = 19
  st : cs[5]? = some (.int .i64 start)
  sz : cs[6]? = some (.int .i64 size)
  mo : cs[7]? = some (.bool mot)

end Go.Proofs.YtjomihhpglojpaaGreatDoor
namespace Go.Proofs
open Go.Shelf
def Tryz.laysRev_ren : Go.Shelf.Ren := ⟨fun | 112 => 100 | n => n, fun | 28 => 112 | 3 => 3 | 4 => 4 | 0 => 0 | n => n, fun | n => n⟩
theorem Tryz.laysRev : Go.Proofs.Lays.n112 Tryz.prog Tryz.laysRev_ren := {
  mixed := by kernel_rfl
  f112 := Tryz.func100.trans (congrArg some (by kernel_rfl))
  t0 := Tryz.underlying0
  a0 := Tryz.isAgg0
  z0 := Tryz.sizeOf0
  v0 := Tryz.zeroValue0
  t3 := Tryz.underlying3
  a3 := Tryz.isAgg3
  z3 := Tryz.sizeOf3
  v3 := Tryz.zeroValue3
  t4 := Tryz.underlying4
  a4 := Tryz.isAgg4
  z4 := Tryz.sizeOf4
  v4 := Tryz.zeroValue4
  t28 := Tryz.underlying112
  a28 := Tryz.isAgg112
  z28 := Tryz.sizeOf112
  v28 := Tryz.zeroValue112 }
end Go.Proofs
namespace Go.Proofs.YtjomihhpglojpaaGreatDoor
open Go.RowKit
set_option linter.unusedSimpArgs false
set_option linter.unusedVariables false
attribute [local irreducible] wpList wpQuiet wpStill Code.wp Exit.then Exit.inBlock bodyPost Calls Does Does0
open Go.Sort Go.Shelf
theorem reverse_ok (w : World) (xs : List Int) (base g n c : Nat) (hown : w.ownsRow base 3 1 (.slice (some ⟨g, 0, none⟩) n c) n (xs.map (.int .i64))) (hb : n ≤ 9223372036854775807) :
    Ret Tryz.prog 100 #[.slice (some ⟨g, 0, none⟩) n c] w (fun v w' => w'.ownsRow base 3 1 (.slice (some ⟨g, 0, none⟩) n c) n (xs.reverse.map (.int .i64)) ∧ w.grownBy w' (some g)) := by
  have hn : xs.length = n := by simpa using hown.1
  subst hn
  rcases hown.2 with ⟨h0, _⟩ | ⟨g', cap', cur, h0, hbg, hg, hle, hm, hsz, htk⟩
  · cases h0
  obtain ⟨rfl, rfl⟩ : g' = g ∧ cap' = c := by cases h0; exact ⟨rfl, rfl⟩
  rw [Nat.mul_one] at htk
  have h := Any.slices_Reverse_int Tryz.laysRev g' 0 cap' xs w (holds_of_blockI hg htk) (by omega)
  refine Calls.mono h ?_
  rintro e w' ⟨rfl, n, rfl⟩
  refine ⟨_, rfl, ?_, ?_⟩
  · have := ownsRow_sortedI (w := w) (n := n) (os := #[]) (ts := xs.reverse) (ss := xs) (by simp) hbg hg hle hm hsz
    rwa [grow_empty] at this
  · have := grownBy_sortedI (w := w) (g := g') (n := n) (os := #[]) xs.reverse.toArray
    rwa [grow_empty] at this
end Go.Proofs.YtjomihhpglojpaaGreatDoor
end
