/- Laid together by a program of mine: RangW Pair. -/
import Derived.Test.YtjomihhpglojpaaDoorSumLawSignalS22
import Derived.Test.YtjomihhpglojpaaDoorSumLawSignalS5
import Derived.Test.YtjomihhpglojpaaDoorSumLawSignalS3
import Derived.Laws.StructEq
set_option linter.unusedSimpArgs false
set_option linter.unusedVariables false
section
/- check.ranged, walked; what is wrong with a signal's fractions. -/
namespace Go.Proofs.YtjomihhpglojpaaDoor
open Go.RowKit
section
variable {P : Program} {w : World} {l : List (Nat × Value)}
/-- An element of an array of structs that is no variable. -/
theorem d_indexAG {x i : Operand} {cs : Array Value} {n sz : Nat} {k : IntKind} {j : Nat} {q : Int} {t e ty : TypeId} (hU : P.underlying t = some (.array n e)) (hE : (P.underlying e).map aggB = some true) (hs : (P.info? e).map (·.size) = some sz)
    (hx : Ev l x (.agg cs) := by exact rfl) (hi : Ev l i (.int k q) := by exact rfl) (hq : q = (j : Int) := by exact rfl) (hj : j < n := by omega) :
    Does P l w (.index t x i) ty (.agg (cs.extract (j * sz) (j * sz + sz))) w := by
  intro ρ hρ d pos af g
  subst hq
  obtain ⟨ti, h1, h2⟩ := Option.map_eq_some_iff.1 hs
  obtain ⟨dd, h3, h4⟩ := Option.map_eq_some_iff.1 hE
  cases dd <;> simp [aggB] at h4 <;> simp [execOp, Instr.index, asIntOf, hρ _ _ hx, hρ _ _ hi, run_underlying hU, sizeOf, typeInfo, h1, h2, hj, part, isAgg, run_underlying h3]
end
open Go.RowKit
set_option linter.unusedSimpArgs false
set_option linter.unusedVariables false
attribute [local irreducible] wpList wpQuiet wpStill Code.wp Exit.then Exit.inBlock bodyPost Calls Does Does0
/-- What stays within its kind. -/
structure SigB (s : Sig) : Prop where
  sn : -9223372036854775808 ≤ s.sn ∧ s.sn ≤ 9223372036854775807
  sd : -9223372036854775808 ≤ s.sd ∧ s.sd ≤ 9223372036854775807
  fn : -9223372036854775808 ≤ s.fn ∧ s.fn ≤ 9223372036854775807
  fd : -9223372036854775808 ≤ s.fd ∧ s.fd ≤ 9223372036854775807
  mn : -9223372036854775808 ≤ s.mn ∧ s.mn ≤ 9223372036854775807
  md : -9223372036854775808 ≤ s.md ∧ s.md ≤ 9223372036854775807
  xn : -9223372036854775808 ≤ s.xn ∧ s.xn ≤ 9223372036854775807
  xd : -9223372036854775808 ≤ s.xd ∧ s.xd ≤ 9223372036854775807
  br : 0 ≤ s.branch ∧ s.branch < 18446744073709551616
theorem wf_i64' {x : Int} (h : (Lit.int .i64 x).wf = true) : -9223372036854775808 ≤ x ∧ x ≤ 9223372036854775807 := by
  have h1 : IntKind.i64.min ≤ x ∧ x ≤ IntKind.i64.max := by simpa [Lit.wf] using h
  rwa [show IntKind.i64.min = -9223372036854775808 by decide, show IntKind.i64.max = 9223372036854775807 by decide] at h1
theorem wf_u64' {x : Int} (h : (Lit.int .u64 x).wf = true) : 0 ≤ x ∧ x < 18446744073709551616 := by
  have h1 : IntKind.u64.min ≤ x ∧ x ≤ IntKind.u64.max := by simpa [Lit.wf] using h
  rw [show IntKind.u64.min = 0 by decide, show IntKind.u64.max = 18446744073709551615 by decide] at h1
  exact ⟨h1.1, by omega⟩
open Go.ChangeShapes Go.WideShapes in
theorem sig_bnd {H : Type} {enc : TypeId × Value → H} {w : World} {s : Sig} (h : Rdw enc Tryd.prog w 38 (Sig.cells s)) : SigB s := by
  have g := h.rds
  have r8 := g.fld (fld _ 8 _ _ rfl); rw [sz_rat] at r8
  have r9 := g.fld (fld _ 9 _ _ rfl); rw [sz_rat] at r9
  have r10 := g.fld (fld _ 10 _ _ rfl); rw [sz_rat] at r10
  have r11 := g.fld (fld _ 11 _ _ rfl); rw [sz_rat] at r11
  obtain ⟨_, e1, k1⟩ := r8.intAt (fld _ 0 _ _ rfl) (und _ _ rfl) sz_i64
  obtain ⟨_, e2, k2⟩ := r8.intAt (fld _ 1 _ _ rfl) (und _ _ rfl) sz_i64
  obtain ⟨_, e3, k3⟩ := r9.intAt (fld _ 0 _ _ rfl) (und _ _ rfl) sz_i64
  obtain ⟨_, e4, k4⟩ := r9.intAt (fld _ 1 _ _ rfl) (und _ _ rfl) sz_i64
  obtain ⟨_, e5, k5⟩ := r10.intAt (fld _ 0 _ _ rfl) (und _ _ rfl) sz_i64
  obtain ⟨_, e6, k6⟩ := r10.intAt (fld _ 1 _ _ rfl) (und _ _ rfl) sz_i64
  obtain ⟨_, e7, k7⟩ := r11.intAt (fld _ 0 _ _ rfl) (und _ _ rfl) sz_i64
  obtain ⟨_, e8, k8⟩ := r11.intAt (fld _ 1 _ _ rfl) (und _ _ rfl) sz_i64
  obtain ⟨_, e9, k9⟩ := g.intAt (fld _ 3 _ _ rfl) (und _ _ rfl) sz_u64
  cases e1; cases e2; cases e3; cases e4; cases e5; cases e6; cases e7; cases e8; cases e9
  exact ⟨wf_i64' k1, wf_i64' k2, wf_i64' k3, wf_i64' k4, wf_i64' k5, wf_i64' k6, wf_i64' k7, wf_i64' k8, wf_u64' k9⟩
instance (a b c d : Int) : Decidable (aboveP a b c d) := by unfold aboveP; infer_instance
/-- What is wrong with a signal's fractions: 1, 10, 18, or 0. -/
def rangedE (s : Sig) : Int :=
  if rightB s.sn s.sd = false then 1 else if rightB s.fn s.fd = false then 1 else if rightB s.mn s.md = false then 1 else if rightB s.xn s.xd = false then 1
  else if s.sn = 0 then 10 else if aboveP s.mn s.md s.xn s.xd then 18 else 0
def rats (s : Sig) : Array Value := #[.int .i64 s.sn, .int .i64 s.sd, .int .i64 s.fn, .int .i64 s.fd, .int .i64 s.mn, .int .i64 s.md, .int .i64 s.xn, .int .i64 s.xd]
def ratN (s : Sig) : Nat → Int
  | 0 => s.sn | 1 => s.fn | 2 => s.mn | _ => s.xn
def ratD (s : Sig) : Nat → Int
  | 0 => s.sd | 1 => s.fd | 2 => s.md | _ => s.xd
theorem rats_at (s : Sig) {j : Nat} (h : j < 4) : (rats s).extract (j * 2) (j * 2 + 2) = #[.int .i64 (ratN s j), .int .i64 (ratD s j)] := by
  have : j = 0 ∨ j = 1 ∨ j = 2 ∨ j = 3 := by omega
  rcases this with rfl | rfl | rfl | rfl <;> rfl
theorem ratB (s : Sig) (hB : SigB s) {j : Nat} (h : j < 4) : (-9223372036854775808 ≤ ratN s j ∧ ratN s j ≤ 9223372036854775807) ∧ (-9223372036854775808 ≤ ratD s j ∧ ratD s j ≤ 9223372036854775807) := by
  have : j = 0 ∨ j = 1 ∨ j = 2 ∨ j = 3 := by omega
  rcases this with rfl | rfl | rfl | rfl
  · exact ⟨hB.sn, hB.sd⟩
  · exact ⟨hB.fn, hB.fd⟩
  · exact ⟨hB.mn, hB.md⟩
  · exact ⟨hB.xn, hB.xd⟩
theorem ranged_bad {s : Sig} {j : Nat} (h : j < 4) (hr : rightB (ratN s j) (ratD s j) = false) : rangedE s = 1 := by
  unfold rangedE
  have : j = 0 ∨ j = 1 ∨ j = 2 ∨ j = 3 := by omega
  rcases this with rfl | rfl | rfl | rfl
  · exact if_pos hr
  · split
    · rfl
    · exact if_pos hr
  · split
    · rfl
    · split
      · rfl
      · exact if_pos hr
  · split
    · rfl
    · split
      · rfl
      · split
        · rfl
        · exact if_pos hr
theorem ranged_ok' {s : Sig} (h : ∀ j, j < 4 → rightB (ratN s j) (ratD s j) = true) : rangedE s = if s.sn = 0 then 10 else if aboveP s.mn s.md s.xn s.xd then 18 else 0 := by
  have h0 : rightB s.sn s.sd = true := h 0 (by decide)
  have h1 : rightB s.fn s.fd = true := h 1 (by decide)
  have h2 : rightB s.mn s.md = true := h 2 (by decide)
  have h3 : rightB s.xn s.xd = true := h 3 (by decide)
  unfold rangedE
  rw [h0, h1, h2, h3]
  simp
theorem ranged_bnd (s : Sig) : 0 ≤ rangedE s ∧ rangedE s ≤ 26 := by
  unfold rangedE
  repeat' split
  all_goals omega
theorem sigc19 (s : Sig) : (Sig.cells s).toArray.size = 19 := rfl
set_option maxHeartbeats 8000000 in
theorem ranged_ok (w : World) (s : Sig) (hB : SigB s) : Ret Tryd.prog 61 [.agg (Sig.cells s).toArray].toArray w (fun v w' => v = .int .i64 (rangedE s) ∧ Below w.heap.size w w') := by
  refine enter1 Tryd.func61 rfl 40 rfl 41 rfl (fun a hF => ?_)
  repeat (first | refine c_seq ?_ | refine c_block ?_ | refine c_region _ ?_ | refine wpList_nil ?_ | refine c_then ?_ | refine c_then_exit ?_ | refine c_then_ret ?_ | refine c_in ?_ | refine c_in_ret ?_ | refine c_in_hit ?_ | refine wp_skip ?_ | refine wp_exit ?_ | refine wp_ret ?_ | refine c_in_miss rfl ?_ | ((first | apply st hF | apply stg hF | apply s_step hF | apply s_stg hF); (first | exact d_move | exact d_assign | exact d_not | exact d_pickT | exact d_pickF | exact d_add | exact d_cmpT | exact d_cmpF | exact d_cmp | exact d_eqbT (und _ _ rfl) | exact d_eqbF (und _ _ rfl) | exact d_eqb (und _ _ rfl) | exact d_eqST | exact d_eqSF | exact d_eqS | exact d_fieldAddr (fld _ _ _ _ rfl) (isz _ _ rfl) | exact d_eqN (ifc _ rfl) | exact d_neN (ifc _ rfl) | exact d_extract); clear hF; clear a; intro a hF) | ((first | apply stm hF | apply stu hF); clear hF; clear a; intro a hF) | (apply c_cond_t hF; exact rfl; first | exact rfl | assumption) | (apply c_cond_f hF; exact rfl; first | exact rfl | assumption) | refine s_nil ?_)
  refine st_box hF (cs := (Sig.cells s).toArray) rfl (k := fun a w1 hg1 hgr1 hsz1 hF => ?_)
  have hb1 : Below w.heap.size w w1 := (Below.refl _ w).grown hgr1 (Nat.le_refl _) (fun k hk => by cases hk)
  have pr : ∀ (wq : World) (o : Nat) (x y : Value), wq.heap[w.heap.size]? = some (.cells (Sig.cells s).toArray 38 (0, 0)) → (Sig.cells s)[o]? = some x → (Sig.cells s)[o + 1]? = some y → ∀ j v, (#[x, y] : Array Value)[j]? = some v → wq.cell? ⟨w.heap.size, 0 + o + j, none⟩ = some v := by
    intro wq o x y hg h0 h1 j v hj
    rcases j with _ | _ | j
    · simp at hj; subst hj; rw [Nat.add_zero, Nat.zero_add]; exact cell_at hg (by simpa using h0)
    · simp at hj; subst hj; rw [Nat.zero_add]; exact cell_at hg (by simpa using h1)
    · simp at hj
  repeat (first | refine c_seq ?_ | refine c_block ?_ | refine c_region _ ?_ | refine wpList_nil ?_ | refine c_then ?_ | refine c_then_exit ?_ | refine c_then_ret ?_ | refine c_in ?_ | refine c_in_ret ?_ | refine c_in_hit ?_ | refine wp_skip ?_ | refine wp_exit ?_ | refine wp_ret ?_ | refine c_in_miss rfl ?_ | ((first | apply st hF | apply stg hF | apply s_step hF | apply s_stg hF); (first | exact d_move | exact d_assign | exact d_not | exact d_pickT | exact d_pickF | exact d_add | exact d_cmpT | exact d_cmpF | exact d_cmp | exact d_eqbT (und _ _ rfl) | exact d_eqbF (und _ _ rfl) | exact d_eqb (und _ _ rfl) | exact d_eqST | exact d_eqSF | exact d_eqS | exact d_fieldAddr (fld _ _ _ _ rfl) (isz _ _ rfl) | exact d_eqN (ifc _ rfl) | exact d_neN (ifc _ rfl) | exact d_extract | exact d_loadAgg (agg _ rfl) (isz _ _ rfl) rfl (pr w1 9 (.int .i64 s.sn) (.int .i64 s.sd) hg1 rfl rfl) | exact d_loadAgg (agg _ rfl) (isz _ _ rfl) rfl (pr w1 11 (.int .i64 s.fn) (.int .i64 s.fd) hg1 rfl rfl) | exact d_loadAgg (agg _ rfl) (isz _ _ rfl) rfl (pr w1 13 (.int .i64 s.mn) (.int .i64 s.md) hg1 rfl rfl) | exact d_loadAgg (agg _ rfl) (isz _ _ rfl) rfl (pr w1 15 (.int .i64 s.xn) (.int .i64 s.xd) hg1 rfl rfl) | exact d_build (vs := [(0, .agg #[.int .i64 s.sn, .int .i64 s.sd]), (1, .agg #[.int .i64 s.fn, .int .i64 s.fd]), (2, .agg #[.int .i64 s.mn, .int .i64 s.md]), (3, .agg #[.int .i64 s.xn, .int .i64 s.xd])]) (cells := rats s) (by kernel_rfl) ⟨rfl, rfl, rfl, rfl, rfl, rfl, rfl, rfl, trivial⟩); clear hF; clear a; intro a hF) | ((first | apply stm hF | apply stu hF); clear hF; clear a; intro a hF) | (apply c_cond_t hF; exact rfl; first | exact rfl | assumption) | (apply c_cond_f hF; exact rfl; first | exact rfl | assumption) | refine s_nil ?_)
  refine c_loop (fun q a wr => ∃ k : Nat, k ≤ 4 ∧ q = 4 - k ∧ (∀ j, j < k → rightB (ratN s j) (ratD s j) = true) ∧ Fr 41 [(1, .pointer (some ⟨w.heap.size, 0, none⟩)), (15, .agg (rats s)), (16, .int .i64 (k : Int))] a ∧ wr.heap[w.heap.size]? = some (.cells (Sig.cells s).toArray 38 (0, 0)) ∧ Below w.heap.size w wr) 4
    ⟨0, by decide, rfl, fun j h => absurd h (Nat.not_lt_zero _), hF.keep' ⟨rfl, rfl, rfl, trivial⟩, hg1, hb1⟩ ?_
  clear hF a hg1 hb1
  rintro q a wr ⟨k, hk, rfl, hpre, hF, hg1, hbel⟩
  have hsz := hbel.size
  have hlt1 := lt_at hg1
  by_cases hlt : k < 4
  · obtain ⟨bn, bd⟩ := ratB s hB hlt
    repeat (first | refine c_seq ?_ | refine c_block ?_ | refine c_region _ ?_ | refine wpList_nil ?_ | refine c_then ?_ | refine c_then_exit ?_ | refine c_then_ret ?_ | refine c_in ?_ | refine c_in_ret ?_ | refine c_in_hit ?_ | refine wp_skip ?_ | refine wp_exit ?_ | refine wp_ret ?_ | refine c_in_miss rfl ?_ | ((first | apply st hF | apply stg hF | apply s_step hF | apply s_stg hF); (first | exact d_move | exact d_assign | exact d_not | exact d_pickT | exact d_pickF | exact d_add | exact d_cmpT | exact d_cmpF | exact d_cmp | exact d_eqbT (und _ _ rfl) | exact d_eqbF (und _ _ rfl) | exact d_eqb (und _ _ rfl) | exact d_eqST | exact d_eqSF | exact d_eqS | exact d_fieldAddr (fld _ _ _ _ rfl) (isz _ _ rfl) | exact d_eqN (ifc _ rfl) | exact d_neN (ifc _ rfl) | exact d_extract | exact d_indexAG (und _ _ rfl) (agg _ rfl) (isz _ _ rfl) (j := k)); clear hF; clear a; intro a hF) | ((first | apply stm hF | apply stu hF); clear hF; clear a; intro a hF) | (apply c_cond_t hF; exact rfl; first | exact rfl | assumption) | (apply c_cond_f hF; exact rfl; first | exact rfl | assumption) | refine s_nil ?_)
    rw [rats_at s hlt] at hF
    refine st_alloc hF inf35 (k := fun a w2 hr2 hgr2 hsz2 hF => ?_)
    refine st_storeAgg hF (cs := #[.int .i64 (ratN s k), .int .i64 (ratD s k)]) (isz _ _ rfl) rfl rfl hr2 (by simp [Value.oneCell']) (k := fun a w3 hr3 hgr3 hsz3 hF => ?_)
    repeat (first | refine c_seq ?_ | refine c_block ?_ | refine c_region _ ?_ | refine wpList_nil ?_ | refine c_then ?_ | refine c_then_exit ?_ | refine c_then_ret ?_ | refine c_in ?_ | refine c_in_ret ?_ | refine c_in_hit ?_ | refine wp_skip ?_ | refine wp_exit ?_ | refine wp_ret ?_ | refine c_in_miss rfl ?_ | ((first | apply st hF | apply stg hF | apply s_step hF | apply s_stg hF); (first | exact d_move | exact d_assign | exact d_not | exact d_pickT | exact d_pickF | exact d_add | exact d_cmpT | exact d_cmpF | exact d_cmp | exact d_eqbT (und _ _ rfl) | exact d_eqbF (und _ _ rfl) | exact d_eqb (und _ _ rfl) | exact d_eqST | exact d_eqSF | exact d_eqS | exact d_fieldAddr (fld _ _ _ _ rfl) (isz _ _ rfl) | exact d_eqN (ifc _ rfl) | exact d_neN (ifc _ rfl) | exact d_extract | exact d_loadAgg (agg _ rfl) (isz _ _ rfl) rfl (cells_at hr3)); clear hF; clear a; intro a hF) | ((first | apply stm hF | apply stu hF); clear hF; clear a; intro a hF) | (apply c_cond_t hF; exact rfl; first | exact rfl | assumption) | (apply c_cond_f hF; exact rfl; first | exact rfl | assumption) | refine s_nil ?_)
    refine stc hF (right_ok w3 _ _ bn bd) cal85 ⟨rfl, trivial⟩ (k := fun a v w4 hR hF => ?_)
    obtain ⟨rfl, hb4⟩ := hR
    have hB4 : Below w.heap.size w w4 := ((hbel.grown hgr2 hsz (fun q e => by cases e)).grown hgr3 (by omega) (fun q e => by cases e; omega)).trans (hb4.mono (by omega))
    have hg4 := (hb4.block _ (by omega)).trans (blk_kept (blk_kept hg1 hgr2 (by simp)) hgr3 (by simp; omega))
    cases hr : rightB (ratN s k) (ratD s k) with
    | true =>
      rw [hr] at hF
      repeat (first | refine c_seq ?_ | refine c_block ?_ | refine c_region _ ?_ | refine wpList_nil ?_ | refine c_then ?_ | refine c_then_exit ?_ | refine c_then_ret ?_ | refine c_in ?_ | refine c_in_ret ?_ | refine c_in_hit ?_ | refine wp_skip ?_ | refine wp_exit ?_ | refine wp_ret ?_ | refine c_in_miss rfl ?_ | ((first | apply st hF | apply stg hF | apply s_step hF | apply s_stg hF); (first | exact d_move | exact d_assign | exact d_not | exact d_pickT | exact d_pickF | exact d_add | exact d_cmpT | exact d_cmpF | exact d_cmp | exact d_eqbT (und _ _ rfl) | exact d_eqbF (und _ _ rfl) | exact d_eqb (und _ _ rfl) | exact d_eqST | exact d_eqSF | exact d_eqS | exact d_fieldAddr (fld _ _ _ _ rfl) (isz _ _ rfl) | exact d_eqN (ifc _ rfl) | exact d_neN (ifc _ rfl) | exact d_extract); clear hF; clear a; intro a hF) | ((first | apply stm hF | apply stu hF); clear hF; clear a; intro a hF) | (apply c_cond_t hF; exact rfl; first | exact rfl | assumption) | (apply c_cond_f hF; exact rfl; first | exact rfl | assumption) | refine s_nil ?_)
      exact ⟨4 - (k + 1), by omega, k + 1, by omega, rfl, fun j h => by
        by_cases e : j = k
        · subst e; exact hr
        · exact hpre j (by omega), hF.keep' ⟨rfl, rfl, rfl, trivial⟩, hg4, hB4⟩
    | false =>
      rw [hr] at hF
      repeat (first | refine c_seq ?_ | refine c_block ?_ | refine c_region _ ?_ | refine wpList_nil ?_ | refine c_then ?_ | refine c_then_exit ?_ | refine c_then_ret ?_ | refine c_in ?_ | refine c_in_ret ?_ | refine c_in_hit ?_ | refine wp_skip ?_ | refine wp_exit ?_ | refine wp_ret ?_ | refine c_in_miss rfl ?_ | ((first | apply st hF | apply stg hF | apply s_step hF | apply s_stg hF); (first | exact d_move | exact d_assign | exact d_not | exact d_pickT | exact d_pickF | exact d_add | exact d_cmpT | exact d_cmpF | exact d_cmp | exact d_eqbT (und _ _ rfl) | exact d_eqbF (und _ _ rfl) | exact d_eqb (und _ _ rfl) | exact d_eqST | exact d_eqSF | exact d_eqS | exact d_fieldAddr (fld _ _ _ _ rfl) (isz _ _ rfl) | exact d_eqN (ifc _ rfl) | exact d_neN (ifc _ rfl) | exact d_extract); clear hF; clear a; intro a hF) | ((first | apply stm hF | apply stu hF); clear hF; clear a; intro a hF) | (apply c_cond_t hF; exact rfl; first | exact rfl | assumption) | (apply c_cond_f hF; exact rfl; first | exact rfl | assumption) | refine s_nil ?_)
      exact ret1 hF rfl rfl ⟨by rw [ranged_bad hlt hr], hB4⟩
  · obtain rfl : k = 4 := by omega
    have hre := ranged_ok' hpre
    have c9 : wr.cell? ⟨w.heap.size, 0 + 9 + 0, none⟩ = some (.int .i64 s.sn) := cell_at hg1 rfl
    by_cases h0 : s.sn = 0
    · rw [if_pos h0] at hre
      repeat (first | refine c_seq ?_ | refine c_block ?_ | refine c_region _ ?_ | refine wpList_nil ?_ | refine c_then ?_ | refine c_then_exit ?_ | refine c_then_ret ?_ | refine c_in ?_ | refine c_in_ret ?_ | refine c_in_hit ?_ | refine wp_skip ?_ | refine wp_exit ?_ | refine wp_ret ?_ | refine c_in_miss rfl ?_ | ((first | apply st hF | apply stg hF | apply s_step hF | apply s_stg hF); (first | exact d_move | exact d_assign | exact d_not | exact d_pickT | exact d_pickF | exact d_add | exact d_cmpT | exact d_cmpF | exact d_cmp | exact d_eqbT (und _ _ rfl) | exact d_eqbF (und _ _ rfl) | exact d_eqb (und _ _ rfl) | exact d_eqST | exact d_eqSF | exact d_eqS | exact d_fieldAddr (fld _ _ _ _ rfl) (isz _ _ rfl) | exact d_eqN (ifc _ rfl) | exact d_neN (ifc _ rfl) | exact d_extract | exact d_load (und _ _ rfl) c9); clear hF; clear a; intro a hF) | ((first | apply stm hF | apply stu hF); clear hF; clear a; intro a hF) | (apply c_cond_t hF; exact rfl; first | exact rfl | assumption) | (apply c_cond_f hF; exact rfl; first | exact rfl | assumption) | refine s_nil ?_)
      exact ret1 hF rfl rfl ⟨by rw [hre], hbel⟩
    · rw [if_neg h0] at hre
      repeat (first | refine c_seq ?_ | refine c_block ?_ | refine c_region _ ?_ | refine wpList_nil ?_ | refine c_then ?_ | refine c_then_exit ?_ | refine c_then_ret ?_ | refine c_in ?_ | refine c_in_ret ?_ | refine c_in_hit ?_ | refine wp_skip ?_ | refine wp_exit ?_ | refine wp_ret ?_ | refine c_in_miss rfl ?_ | ((first | apply st hF | apply stg hF | apply s_step hF | apply s_stg hF); (first | exact d_move | exact d_assign | exact d_not | exact d_pickT | exact d_pickF | exact d_add | exact d_cmpT | exact d_cmpF | exact d_cmp | exact d_eqbT (und _ _ rfl) | exact d_eqbF (und _ _ rfl) | exact d_eqb (und _ _ rfl) | exact d_eqST | exact d_eqSF | exact d_eqS | exact d_fieldAddr (fld _ _ _ _ rfl) (isz _ _ rfl) | exact d_eqN (ifc _ rfl) | exact d_neN (ifc _ rfl) | exact d_extract | exact d_loadAgg (agg _ rfl) (isz _ _ rfl) rfl (pr wr 13 (.int .i64 s.mn) (.int .i64 s.md) hg1 rfl rfl) | exact d_loadAgg (agg _ rfl) (isz _ _ rfl) rfl (pr wr 15 (.int .i64 s.xn) (.int .i64 s.xd) hg1 rfl rfl) | exact d_load (und _ _ rfl) c9); clear hF; clear a; intro a hF) | ((first | apply stm hF | apply stu hF); clear hF; clear a; intro a hF) | (apply c_cond_t hF; exact rfl; first | exact rfl | assumption) | (apply c_cond_f hF; exact rfl; first | exact rfl | assumption) | refine s_nil ?_)
      refine stc hF (rcmp_ok wr _ _ _ _ hB.mn hB.md hB.xn hB.xd (hpre 2 (by decide)) (hpre 3 (by decide))) cal86 ⟨rfl, rfl, trivial⟩ (k := fun a v w4 hR hF => ?_)
      obtain ⟨⟨z, rfl, hz⟩, hb4⟩ := hR
      have hB4 : Below w.heap.size w w4 := hbel.trans (hb4.mono hsz)
      by_cases ha : 0 < z
      · rw [if_pos (hz.1 ha)] at hre
        repeat (first | refine c_seq ?_ | refine c_block ?_ | refine c_region _ ?_ | refine wpList_nil ?_ | refine c_then ?_ | refine c_then_exit ?_ | refine c_then_ret ?_ | refine c_in ?_ | refine c_in_ret ?_ | refine c_in_hit ?_ | refine wp_skip ?_ | refine wp_exit ?_ | refine wp_ret ?_ | refine c_in_miss rfl ?_ | ((first | apply st hF | apply stg hF | apply s_step hF | apply s_stg hF); (first | exact d_move | exact d_assign | exact d_not | exact d_pickT | exact d_pickF | exact d_add | exact d_cmpT | exact d_cmpF | exact d_cmp | exact d_eqbT (und _ _ rfl) | exact d_eqbF (und _ _ rfl) | exact d_eqb (und _ _ rfl) | exact d_eqST | exact d_eqSF | exact d_eqS | exact d_fieldAddr (fld _ _ _ _ rfl) (isz _ _ rfl) | exact d_eqN (ifc _ rfl) | exact d_neN (ifc _ rfl) | exact d_extract); clear hF; clear a; intro a hF) | ((first | apply stm hF | apply stu hF); clear hF; clear a; intro a hF) | (apply c_cond_t hF; exact rfl; first | exact rfl | assumption) | (apply c_cond_f hF; exact rfl; first | exact rfl | assumption) | refine s_nil ?_)
        exact ret1 hF rfl rfl ⟨by rw [hre], hB4⟩
      · rw [if_neg (fun h => ha (hz.2 h))] at hre
        repeat (first | refine c_seq ?_ | refine c_block ?_ | refine c_region _ ?_ | refine wpList_nil ?_ | refine c_then ?_ | refine c_then_exit ?_ | refine c_then_ret ?_ | refine c_in ?_ | refine c_in_ret ?_ | refine c_in_hit ?_ | refine wp_skip ?_ | refine wp_exit ?_ | refine wp_ret ?_ | refine c_in_miss rfl ?_ | ((first | apply st hF | apply stg hF | apply s_step hF | apply s_stg hF); (first | exact d_move | exact d_assign | exact d_not | exact d_pickT | exact d_pickF | exact d_add | exact d_cmpT | exact d_cmpF | exact d_cmp | exact d_eqbT (und _ _ rfl) | exact d_eqbF (und _ _ rfl) | exact d_eqb (und _ _ rfl) | exact d_eqST | exact d_eqSF | exact d_eqS | exact d_fieldAddr (fld _ _ _ _ rfl) (isz _ _ rfl) | exact d_eqN (ifc _ rfl) | exact d_neN (ifc _ rfl) | exact d_extract); clear hF; clear a; intro a hF) | ((first | apply stm hF | apply stu hF); clear hF; clear a; intro a hF) | (apply c_cond_t hF; exact rfl; first | exact rfl | assumption) | (apply c_cond_f hF; exact rfl; first | exact rfl | assumption) | refine s_nil ?_)
        exact ret1 hF rfl rfl ⟨by rw [hre], hB4⟩
end Go.Proofs.YtjomihhpglojpaaDoor
end
section
/- Structs of two numbers held against each other. -/
namespace Go.Proofs.YtjomihhpglojpaaDoor
open Go.RowKit

section
variable {P : Program} {w : World} {l : List (Nat × Value)}
/-- A struct of two numbers of one kind. -/
structure PairT (P : Program) (t : TypeId) (k : IntKind) : Prop where
  it : ∃ f0 f1 : Field, P.underlying t = some (.struct (P.fieldsOf t)) ∧ P.fieldsOf t = #[f0, f1] ∧ f0.offset = 0 ∧ f1.offset = 1 ∧ ¬ f0.name = "_" ∧ ¬ f1.name = "_" ∧ P.underlying f0.type = some (.int k) ∧ P.underlying f1.type = some (.int k)
  held : P.stoodInHeld t = false
  guard : P.eqGuardType P.depth t = false
def isIntK (d : Option TypeDesc) (k : IntKind) : Bool := match d with | some (.int k') => k' == k | _ => false
theorem isIntK_eq {d : Option TypeDesc} {k : IntKind} (h : isIntK d k = true) : d = some (.int k) := by
  unfold isIntK at h
  split at h
  · rw [eq_of_beq h]
  · cases h
def pairB (P : Program) (t : TypeId) (k : IntKind) : Bool :=
  (match P.underlying t with
  | some (.struct fs) => (match fs.toList with
    | [f0, f1] => decide (f0.offset = 0) && decide (f1.offset = 1) && decide (¬ f0.name = "_") && decide (¬ f1.name = "_") && isIntK (P.underlying f0.type) k && isIntK (P.underlying f1.type) k
    | _ => false)
  | _ => false) && !P.stoodInHeld t && !P.eqGuardType P.depth t
theorem pairT_of {t : TypeId} {k : IntKind} (h : pairB P t k = true) : PairT P t k := by
  unfold pairB at h
  simp only [Bool.and_eq_true, Bool.not_eq_true'] at h
  obtain ⟨⟨h2, h3⟩, h4⟩ := h
  refine ⟨?_, h3, h4⟩
  split at h2
  · rename_i fs hu
    split at h2
    · rename_i f0 f1 he
      simp only [Bool.and_eq_true, decide_eq_true_eq] at h2
      obtain ⟨⟨⟨⟨⟨a, b⟩, c⟩, d⟩, e⟩, f⟩ := h2
      have hfs : P.fieldsOf t = fs := by simp [Program.fieldsOf, hu]
      exact ⟨f0, f1, by rw [hfs]; exact hu, by rw [hfs, ← Array.toList_inj, he], a, b, c, d, isIntK_eq e, isIntK_eq f⟩
    · cases h2
  · cases h2
theorem run_pair {t : TypeId} {k : IntKind} (h : PairT P t k) (a b c d : Int) : (Op.equalIn 10000 t (.agg #[.int k a, .int k b]) (.agg #[.int k c, .int k d])).run P w = .ok (decide (a = c ∧ b = d)) w := by
  obtain ⟨f0, f1, hU, hF, o0, o1, n0, n1, u0, u1⟩ := h.it
  rw [run_equalIn_agg w 9999 t _ _ hU h.held, hF]
  have p0 : ∀ x y : Int, (part f0.type #[.int k x, .int k y] 0).run P w = .ok (.int k x) w := fun x y => by simp [part, isAgg, run_underlying u0]
  have p1 : ∀ x y : Int, (part f1.type #[.int k x, .int k y] 1).run P w = .ok (.int k y) w := fun x y => by simp [part, isAgg, run_underlying u1]
  have e0 : (Op.equalIn 9999 f0.type (.int k a) (.int k c)).run P w = .ok (a == c) w := run_equalIn_int w 9998 _ k k a c u0
  have e1 : (Op.equalIn 9999 f1.type (.int k b) (.int k d)).run P w = .ok (b == d) w := run_equalIn_int w 9998 _ k k b d u1
  simp only [Op.eqFields, Sem.run_bind, o0, o1, p0, p1, e0, e1, Result.andThen_ok, ne_eq, n0, n1, not_false_eq_true, if_true]
  by_cases h0 : a = c
  · subst h0
    by_cases h1 : b = d
    · subst h1
      simp [p1, e1]
    · have h2 : (b == d) = false := by simpa using h1
      simp [p1, e1, h1, h2]
  · simp [h0]
theorem d_eqP {op : BinOp} {x y : Operand} {k : IntKind} {a b c d : Int} {r : Bool} {t t' ty : TypeId} (h : PairT P t k)
    (hx : Ev l x (.agg #[.int k a, .int k b]) := by exact rfl) (hy : Ev l y (.agg #[.int k c, .int k d]) := by exact rfl) (hr : (match op with | .eql => some (decide (a = c ∧ b = d)) | .neq => some (!decide (a = c ∧ b = d)) | _ => none) = some r := by exact rfl) : Does P l w (.binOp op t x y t') ty (.bool r) w := by
  intro ρ hρ d0 pos af g
  have key := run_pair (w := w) h a b c d
  cases op <;> simp only [Option.some.injEq, reduceCtorEq] at hr <;> subst hr
  · simp only [execOp, hρ _ _ hx, hρ _ _ hy, Sem.run_bind, run_eqGuard_agg w _ t x y _ _ h.guard, Result.andThen_ok, run_eql_struct, key]
    rfl
  · simp only [execOp, hρ _ _ hx, hρ _ _ hy, Sem.run_bind, run_eqGuard_agg w _ t x y _ _ h.guard, Result.andThen_ok, run_neq_struct, key]
    rfl
/-- .. the same pair. -/
theorem d_eqPs {x y : Operand} {k : IntKind} {a b : Int} {t t' ty : TypeId} (h : PairT P t k)
    (hx : Ev l x (.agg #[.int k a, .int k b]) := by exact rfl) (hy : Ev l y (.agg #[.int k a, .int k b]) := by exact rfl) : Does P l w (.binOp .eql t x y t') ty (.bool true) w :=
  d_to (d_eqP h hx hy rfl) (by simp)
end
end Go.Proofs.YtjomihhpglojpaaDoor
end
