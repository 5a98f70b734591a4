/- Laid together by a program of mine: QuoteW WorksW LongW Is Num. -/
import Derived.Test.YtnohefaifbghiaaGreatDoorSumLawKnownS15
import Derived.Test.YtnohefaifbghiaaGreatDoorSumLawKnownS4
import Derived.Test.YtnohefaifbghiaaGreatDoorSumLawKnownS3
import Derived.Test.YtnohefaifbghiaaGreatDoorChecked
import Derived.WalkKit
import Derived.LaidEql
import Derived.Stop.Asserts
import Derived.RowKitTokens
import Derived.Lib.IfaceEq
set_option linter.unusedSimpArgs false
set_option linter.unusedVariables false
section
/- (*strings.Replacer).Replace and chars.Quote: walked. -/
namespace Go.Proofs.YtnohefaifbghiaaGreatDoor
open Go.RowKit
theorem cell_keptb {w w' : World} {g b i : Nat} {v : Value} (hgr : w.grownBy w' (some b)) (hc : w.cell? ⟨g, i, none⟩ = some v) (hne : g ≠ b) : w'.cell? ⟨g, i, none⟩ = some v := by
  have h := hgr.block g (World.block_lt_of_cell? w _ hc) (fun e => hne (Option.some.inj e))
  simp only [World.cell?, h] at hc ⊢
  exact hc
open Go.RowKit
set_option linter.unusedSimpArgs false
set_option linter.unusedVariables false
attribute [local irreducible] wpList wpQuiet wpStill Code.wp Exit.then Exit.inBlock bodyPost Calls Does Does0
/-- The replacer's own memory stays while the Replacer's struct is written. -/
theorem bsr_kept {p b : Nat} {w w' : World} {x y : Int} {c2 c3 c4 : Value} {e : TypeId} (h : BSR p w) (hb : w.heap[b]? = some (.cells #[.int .u32 x, .int .i32 y, c2, c3, c4] e (0, 0))) (h2 : ∃ z, c2 = .int .u32 z) (h3 : ∀ s, c3 ≠ .string s) (h4 : ∀ s, c4 ≠ .string s) (hgr : w.grownBy w' (some b)) : BSR p w' := by
  obtain ⟨q34, c34, q92, c92, tv0, tc, hg, h340, h341, h920, h921, hto⟩ := h
  obtain ⟨z, rfl⟩ := h2
  have n0 : ∀ g v, w.cell? ⟨g, 0, none⟩ = some (.int .u8 v) → g ≠ b := fun g v hc e => by
    subst e
    rw [cell_at hb rfl] at hc
    cases hc
  have np : p ≠ b := fun e => by
    subst e
    rw [hb] at hg
    injection hg with hg
    injection hg with hg
    have := congrArg Array.size hg
    rw [arr_size] at this
    exact absurd this (by simp)
  refine ⟨q34, c34, q92, c92, tv0, tc, (hgr.block p (lt_at hg) (fun e => np (Option.some.inj e))).trans hg, cell_keptb hgr h340 (n0 _ _ h340), cell_keptb hgr h341 (n0 _ _ h340), cell_keptb hgr h920 (n0 _ _ h920), cell_keptb hgr h921 (n0 _ _ h920), ?_⟩
  intro i hi
  obtain ⟨g, o, ha, hc⟩ := hto i hi
  refine ⟨g, o, ha, cell_keptb hgr hc fun e => ?_⟩
  subst e
  simp only [World.cell?, hb] at hc
  generalize o + i = j at hc
  rcases j with _ | _ | _ | _ | _ | j
  · cases hc
  · cases hc
  · cases hc
  · exact h3 _ (Option.some.inj hc)
  · exact h4 _ (Option.some.inj hc)
  · simp at hc
theorem rreplace_ok (w : World) (b B : Nat) (s : ByteArray) (ao : Option Addr) (cap : Nat) (e : TypeId) (hg : w.heap[b]? = some (.cells #[.int .u32 0, .int .i32 0, .int .u32 0, .nilIface, .slice ao 4 cap] e (0, 0))) (hR : Rd w ao Value.string q4) (hne : ∀ g o, ao = some ⟨g, o, none⟩ → g ≠ b) (hBb : B ≤ b) (hsz : s.size ≤ 16777216) :
    Ret Tryz.prog 29 [.pointer (some ⟨b, 0, none⟩), .string s].toArray w (fun v w' => v = .string ⟨(re s s.size).toArray⟩ ∧ Below B w w') := by
  have hbl := lt_at hg
  refine enter2 Tryz.func29 rfl 15 rfl 17 rfl (fun a hF => ?_)
  repeat (first | refine c_seq ?_ | refine c_block ?_ | refine c_region _ ?_ | refine wpList_nil ?_ | refine c_then ?_ | refine c_then_exit ?_ | refine c_then_ret ?_ | refine c_in ?_ | refine c_in_ret ?_ | refine c_in_hit ?_ | refine wp_skip ?_ | refine wp_exit ?_ | refine wp_ret ?_ | refine c_in_miss rfl ?_ | ((first | apply st hF | apply stg hF | apply s_step hF | apply s_stg hF); (first | exact d_move | exact d_assign | exact d_nilCheck | exact d_fieldAddr (fld _ _ _ _ rfl) (isz _ _ rfl) | exact d_makeFunc1 (vs := [.pointer (some ⟨b, 0, none⟩)]) ⟨rfl, trivial⟩); clear hF; clear a; intro a hF) | ((first | apply stm hF | apply stu hF); clear hF; clear a; intro a hF) | (apply c_cond_t hF; exact rfl; first | exact rfl | assumption) | (apply c_cond_f hF; exact rfl; first | exact rfl | assumption) | refine s_nil ?_)
  obtain ⟨f1, f2, f3⟩ := setCell_facts (i := 1) (v := .int .i32 1) hg
  have hR1 : Rd (w.setCell ⟨b, 1, none⟩ (.int .i32 1)) ao Value.string q4 := fun i hi => by
    obtain ⟨g, o, ha, hc⟩ := hR i hi
    exact ⟨g, o, ha, cell_keptb f2 hc (hne g o ha)⟩
  have hbuild := build_ok (w.setCell ⟨b, 1, none⟩ (.int .i32 1)) b (.int .u32 0) (.int .i32 1) (.int .u32 0) .nilIface ao cap e f1 hR1
  have honce := buildOnce_ok (w.setCell ⟨b, 1, none⟩ (.int .i32 1)) b (.int .u32 0) (.int .i32 1) (.int .u32 0) .nilIface (.slice ao 4 cap) e f1
    (fun v w' => (∃ p, v = .iface 134 (.pointer (some ⟨p, 0, none⟩)) ∧ BSR p w') ∧ Below w.heap.size (w.setCell ⟨b, 1, none⟩ (.int .i32 1)) w' ∧ w'.heap[b]? = some (.cells #[.int .u32 0, .int .i32 1, .int .u32 0, .nilIface, .slice ao 4 cap] e (0, 0)))
    (hbuild.mono fun v w' ⟨p, hv, hB, _, hbel⟩ => by
      have hk : w'.heap[b]? = some (.cells #[.int .u32 0, .int .i32 1, .int .u32 0, .nilIface, .slice ao 4 cap] e (0, 0)) := (hbel.block b (by rw [f3]; exact hbl)).trans f1
      refine ⟨by rw [hv]; rfl, hk, ⟨p, hv, hB⟩, by rw [← f3]; exact hbel, hk⟩)
  refine stc hF (vs := [.pointer (some ⟨b, 0, none⟩), .func (.func 42) [.pointer (some ⟨b, 0, none⟩)].toArray #[]])
    (do_ok w b e _ _ _ hg cal42 (.pointer (some ⟨b, 0, none⟩)) _ honce (fun w' ⟨rv, w1, _, _, _, h⟩ => ⟨_, _, _, h⟩)) cal41 ⟨rfl, rfl, trivial⟩ (k := fun a v w5 hR5 hF => ?_)
  obtain ⟨rfl, w2, ⟨rv, w1, ⟨⟨p, rfl, hBS⟩, hb1, hk1⟩, hgr1, hsz1, hk2⟩, rfl⟩ := hR5
  have g1 := setCell_facts (i := 0) (v := .int .u32 1) (show (w2.drewN 1).heap[b]? = _ from hk2)
  have g2 := setCell_facts (i := 1) (v := .int .i32 0) g1.1
  have hgr : w1.grownBy (((w2.drewN 1).setCell ⟨b, 0, none⟩ (.int .u32 1)).setCell ⟨b, 1, none⟩ (.int .i32 0)) (some b) := grown_trans (grown_trans hgr1 (grown_trans (⟨rfl, rfl, rfl, Nat.le_refl _, fun _ _ _ => rfl⟩ : w2.grownBy (w2.drewN 1) (some b)) g1.2.1)) g2.2.1
  have hBS2 := bsr_kept hBS hk1 ⟨_, rfl⟩ (fun s h => by cases h) (fun s h => by cases h) hgr
  have hk3 := g2.1
  have hsz3 : w.heap.size ≤ (((w2.drewN 1).setCell ⟨b, 0, none⟩ (.int .u32 1)).setCell ⟨b, 1, none⟩ (.int .i32 0)).heap.size := by
    have h1 := hb1.size
    rw [f3] at h1
    have h2 := hgr.size
    omega
  have hbel3 : Below B w (((w2.drewN 1).setCell ⟨b, 0, none⟩ (.int .u32 1)).setCell ⟨b, 1, none⟩ (.int .i32 0)) := by
    have e1 : Below B w (w.setCell ⟨b, 1, none⟩ (.int .i32 1)) := (Below.refl B w).grown f2 (by omega) (fun q e => by cases e; exact hBb)
    have e2 : Below B w w1 := e1.trans (hb1.mono (by omega))
    exact e2.grown hgr (by have := hb1.size; rw [f3] at this; omega) (fun q e => by cases e; exact hBb)
  clear hbuild honce hgr1 hk2 hk1 hgr hBS f1 f2 hR1 g1 g2
  generalize (((w2.drewN 1).setCell ⟨b, 0, none⟩ (.int .u32 1)).setCell ⟨b, 1, none⟩ (.int .i32 0)) = w6 at *
  have c3 : w6.cell? ⟨b, 0 + 3, none⟩ = some (.iface 134 (.pointer (some ⟨p, 0, none⟩))) := cell_at hk3 rfl
  repeat (first | refine c_seq ?_ | refine c_block ?_ | refine c_region _ ?_ | refine wpList_nil ?_ | refine c_then ?_ | refine c_then_exit ?_ | refine c_then_ret ?_ | refine c_in ?_ | refine c_in_ret ?_ | refine c_in_hit ?_ | refine wp_skip ?_ | refine wp_exit ?_ | refine wp_ret ?_ | refine c_in_miss rfl ?_ | ((first | apply st hF | apply stg hF | apply s_step hF | apply s_stg hF); (first | exact d_move | exact d_assign | exact d_nilCheck | exact d_fieldAddr (fld _ _ _ _ rfl) (isz _ _ rfl) | exact d_load Tryz.underlying89 c3); clear hF; clear a; intro a hF) | ((first | apply stm hF | apply stu hF); clear hF; clear a; intro a hF) | (apply c_cond_t hF; exact rfl; first | exact rfl | assumption) | (apply c_cond_f hF; exact rfl; first | exact rfl | assumption) | refine s_nil ?_)
  refine sti hF (inv_ok p s w6) (replace_ok w6 p s hBS2 hsz) ⟨rfl, trivial⟩ (k := fun a v w7 hR7 hF => ?_)
  obtain ⟨rfl, hb7⟩ := hR7
  repeat (first | refine c_seq ?_ | refine c_block ?_ | refine c_region _ ?_ | refine wpList_nil ?_ | refine c_then ?_ | refine c_then_exit ?_ | refine c_then_ret ?_ | refine c_in ?_ | refine c_in_ret ?_ | refine c_in_hit ?_ | refine wp_skip ?_ | refine wp_exit ?_ | refine wp_ret ?_ | refine c_in_miss rfl ?_ | ((first | apply st hF | apply stg hF | apply s_step hF | apply s_stg hF); (first | exact d_move | exact d_assign | exact d_nilCheck | exact d_fieldAddr (fld _ _ _ _ rfl) (isz _ _ rfl)); clear hF; clear a; intro a hF) | ((first | apply stm hF | apply stu hF); clear hF; clear a; intro a hF) | (apply c_cond_t hF; exact rfl; first | exact rfl | assumption) | (apply c_cond_f hF; exact rfl; first | exact rfl | assumption) | refine s_nil ?_)
  exact ret1 hF rfl rfl ⟨rfl, hbel3.trans (hb7.mono (by omega))⟩
theorem quote_txt (s : ByteArray) : ((⟨#[34]⟩ : ByteArray) ++ ⟨(re s s.size).toArray⟩) ++ ⟨#[34]⟩ = ⟨(quoteL s).toArray⟩ := by
  apply ByteArray.ext
  rw [ByteArray.data_append, ByteArray.data_append, quote_re]
  apply Array.toList_inj.1
  simp
theorem quote_ok (w : World) (s : ByteArray) (hsz : s.size ≤ 16777216) : Ret Tryz.prog 15 #[.string s] w (fun v w' => v = .string ⟨(quoteL s).toArray⟩ ∧ Below w.heap.size w w') := by
  have hre : (⟨(re s s.size).toArray⟩ : ByteArray).size ≤ 33554432 := by
    have h1 := re_len s s.size
    have h2 := nsp_le s s.size
    show (re s s.size).toArray.size ≤ _
    rw [List.size_toArray]; omega
  have h1a : ((⟨#[34]⟩ : ByteArray) ++ ⟨(re s s.size).toArray⟩).size ≤ 33554433 := by
    rw [ByteArray.size_append]
    have : (⟨#[34]⟩ : ByteArray).size = 1 := rfl
    omega
  refine enter1 Tryz.func15 rfl 8 rfl 9 rfl (fun a hF => ?_)
  repeat (first | refine c_seq ?_ | refine c_block ?_ | refine c_region _ ?_ | refine wpList_nil ?_ | refine c_then ?_ | refine c_then_exit ?_ | refine c_then_ret ?_ | refine c_in ?_ | refine c_in_ret ?_ | refine c_in_hit ?_ | refine wp_skip ?_ | refine wp_exit ?_ | refine wp_ret ?_ | refine c_in_miss rfl ?_ | ((first | apply st hF | apply stg hF | apply s_step hF | apply s_stg hF); (first | exact d_move | exact d_assign | exact d_add); clear hF; clear a; intro a hF) | ((first | apply stm hF | apply stu hF); clear hF; clear a; intro a hF) | (apply c_cond_t hF; exact rfl; first | exact rfl | assumption) | (apply c_cond_f hF; exact rfl; first | exact rfl | assumption) | refine s_nil ?_)
  refine st_buildR hF Value.string q4 [(0, .string ⟨#[92]⟩), (1, .string ⟨#[92, 92]⟩), (2, .string ⟨#[34]⟩), (3, .string ⟨#[92, 34]⟩)] (und _ _ rfl) inf9 rfl (by kernel_rfl) ⟨rfl, rfl, rfl, rfl, rfl, rfl, rfl, rfl, trivial⟩ (k := fun a w1 hgr1 hb1 hR1 hF => ?_)
  repeat (first | refine c_seq ?_ | refine c_block ?_ | refine c_region _ ?_ | refine wpList_nil ?_ | refine c_then ?_ | refine c_then_exit ?_ | refine c_then_ret ?_ | refine c_in ?_ | refine c_in_ret ?_ | refine c_in_hit ?_ | refine wp_skip ?_ | refine wp_exit ?_ | refine wp_ret ?_ | refine c_in_miss rfl ?_ | ((first | apply st hF | apply stg hF | apply s_step hF | apply s_stg hF); (first | exact d_move | exact d_assign | exact d_add); clear hF; clear a; intro a hF) | ((first | apply stm hF | apply stu hF); clear hF; clear a; intro a hF) | (apply c_cond_t hF; exact rfl; first | exact rfl | assumption) | (apply c_cond_f hF; exact rfl; first | exact rfl | assumption) | refine s_nil ?_)
  refine stc hF (newRepl_ok w1 q4 rfl _ _ hR1) cal28 ⟨rfl, trivial⟩ (k := fun a v w2 hR2 hF => ?_)
  obtain ⟨b, ao2, cap2, rfl, hbB, hk2, hown2, hne2, hb2⟩ := hR2
  have hrd : Rd w2 ao2 Value.string q4 := (own_rd hown2).2
  have hne : ∀ g o, ao2 = some ⟨g, o, none⟩ → g ≠ b := fun g o h => hne2 g (by subst h; rfl)
  repeat (first | refine c_seq ?_ | refine c_block ?_ | refine c_region _ ?_ | refine wpList_nil ?_ | refine c_then ?_ | refine c_then_exit ?_ | refine c_then_ret ?_ | refine c_in ?_ | refine c_in_ret ?_ | refine c_in_hit ?_ | refine wp_skip ?_ | refine wp_exit ?_ | refine wp_ret ?_ | refine c_in_miss rfl ?_ | ((first | apply st hF | apply stg hF | apply s_step hF | apply s_stg hF); (first | exact d_move | exact d_assign | exact d_add); clear hF; clear a; intro a hF) | ((first | apply stm hF | apply stu hF); clear hF; clear a; intro a hF) | (apply c_cond_t hF; exact rfl; first | exact rfl | assumption) | (apply c_cond_f hF; exact rfl; first | exact rfl | assumption) | refine s_nil ?_)
  refine stc hF (rreplace_ok w2 b w1.heap.size s ao2 cap2 _ hk2 hrd hne hbB hsz) cal29 ⟨rfl, rfl, trivial⟩ (k := fun a v w3 hR3 hF => ?_)
  obtain ⟨rfl, hb3⟩ := hR3
  repeat (first | refine c_seq ?_ | refine c_block ?_ | refine c_region _ ?_ | refine wpList_nil ?_ | refine c_then ?_ | refine c_then_exit ?_ | refine c_then_ret ?_ | refine c_in ?_ | refine c_in_ret ?_ | refine c_in_hit ?_ | refine wp_skip ?_ | refine wp_exit ?_ | refine wp_ret ?_ | refine c_in_miss rfl ?_ | ((first | apply st hF | apply stg hF | apply s_step hF | apply s_stg hF); (first | exact d_move | exact d_assign | exact d_add | exact d_addS (h := by have : (⟨#[34]⟩ : ByteArray).size = 1 := rfl; omega)); clear hF; clear a; intro a hF) | ((first | apply stm hF | apply stu hF); clear hF; clear a; intro a hF) | (apply c_cond_t hF; exact rfl; first | exact rfl | assumption) | (apply c_cond_f hF; exact rfl; first | exact rfl | assumption) | refine s_nil ?_)
  exact ret1 hF rfl rfl ⟨congrArg Value.string (quote_txt s), hb1.trans ((hb2.trans hb3).mono hb1.size)⟩
end Go.Proofs.YtnohefaifbghiaaGreatDoor
end
section
/- The law's own test, walked. -/
namespace Go.Proofs.YtnohefaifbghiaaGreatDoor
open Go.RowKit
set_option linter.unusedSimpArgs false
set_option linter.unusedVariables false
attribute [local irreducible] wpList wpQuiet wpStill Code.wp Exit.then Exit.inBlock bodyPost Calls Does Does0
theorem works_ok (w : World) : Ret Tryz.prog 5 #[] w (fun v w' => v = .bool true ∧ Below w.heap.size w w') := by
  have e : (⟨(quoteL ⟨#[97, 34, 98]⟩).toArray⟩ : ByteArray) = ⟨#[34, 97, 92, 34, 98, 34]⟩ := by decide +kernel
  refine enter0 Tryz.func5 rfl 3 rfl 3 rfl (fun a hF => ?_)
  repeat (first | refine c_seq ?_ | refine c_block ?_ | refine c_region _ ?_ | refine wpList_nil ?_ | refine c_then ?_ | refine c_then_exit ?_ | refine c_then_ret ?_ | refine c_in ?_ | refine c_in_ret ?_ | refine c_in_hit ?_ | refine wp_skip ?_ | refine wp_exit ?_ | refine wp_ret ?_ | refine c_in_miss rfl ?_ | ((first | apply st hF | apply stg hF | apply s_step hF | apply s_stg hF); (first | exact d_assign | exact d_cmpT | exact d_cmpF | exact d_cmp | exact d_eqbT (und _ _ rfl) | exact d_eqbF (und _ _ rfl) | exact d_eqb (und _ _ rfl) | exact d_eqST | exact d_eqSF | exact d_eqS | exact d_eqN (ifc _ rfl) | exact d_neN (ifc _ rfl)); clear hF; clear a; intro a hF) | ((first | apply stm hF | apply stu hF); clear hF; clear a; intro a hF) | (apply c_cond_t hF; exact rfl; first | exact rfl | assumption) | (apply c_cond_f hF; exact rfl; first | exact rfl | assumption) | refine s_nil ?_)
  refine stc hF (quote_ok w ⟨#[97, 34, 98]⟩ (by decide)) cal15 ⟨rfl, trivial⟩ (k := fun a v w1 hR hF => ?_)
  obtain ⟨rfl, hb⟩ := hR
  rw [e] at hF
  repeat (first | refine c_seq ?_ | refine c_block ?_ | refine c_region _ ?_ | refine wpList_nil ?_ | refine c_then ?_ | refine c_then_exit ?_ | refine c_then_ret ?_ | refine c_in ?_ | refine c_in_ret ?_ | refine c_in_hit ?_ | refine wp_skip ?_ | refine wp_exit ?_ | refine wp_ret ?_ | refine c_in_miss rfl ?_ | ((first | apply st hF | apply stg hF | apply s_step hF | apply s_stg hF); (first | exact d_assign | exact d_cmpT | exact d_cmpF | exact d_cmp | exact d_eqbT (und _ _ rfl) | exact d_eqbF (und _ _ rfl) | exact d_eqb (und _ _ rfl) | exact d_eqST | exact d_eqSF | exact d_eqS | exact d_eqN (ifc _ rfl) | exact d_neN (ifc _ rfl)); clear hF; clear a; intro a hF) | ((first | apply stm hF | apply stu hF); clear hF; clear a; intro a hF) | (apply c_cond_t hF; exact rfl; first | exact rfl | assumption) | (apply c_cond_f hF; exact rfl; first | exact rfl | assumption) | refine s_nil ?_)
  exact ret1 hF rfl rfl ⟨rfl, hb⟩
end Go.Proofs.YtnohefaifbghiaaGreatDoor
end
section
/- The law's bound, walked. -/
namespace Go.Proofs.YtnohefaifbghiaaGreatDoor
open Go.RowKit
set_option linter.unusedSimpArgs false
set_option linter.unusedVariables false
attribute [local irreducible] wpList wpQuiet wpStill Code.wp Exit.then Exit.inBlock bodyPost Calls Does Does0
theorem long_ok (w : World) (s : ByteArray) : Ret Tryz.prog 24 #[.string s] w (fun v w' => v = .bool (decide ((s.size : Int) > 16777216)) ∧ w' = w) := by
  refine enter1 Tryz.func24 rfl 5 rfl 6 rfl (fun a hF => ?_)
  repeat (first | refine c_seq ?_ | refine c_block ?_ | refine c_region _ ?_ | refine wpList_nil ?_ | refine c_then ?_ | refine c_then_exit ?_ | refine c_then_ret ?_ | refine c_in ?_ | refine c_in_ret ?_ | refine c_in_hit ?_ | refine wp_skip ?_ | refine wp_exit ?_ | refine wp_ret ?_ | refine c_in_miss rfl ?_ | ((first | apply st hF | apply stg hF | apply s_step hF | apply s_stg hF); (first | exact d_move | exact d_assign | exact d_cmpT | exact d_cmpF | exact d_cmp | exact d_len (und _ _ rfl) | exact d_lens (und _ _ rfl)); clear hF; clear a; intro a hF) | ((first | apply stm hF | apply stu hF); clear hF; clear a; intro a hF) | (apply c_cond_t hF; exact rfl; first | exact rfl | assumption) | (apply c_cond_f hF; exact rfl; first | exact rfl | assumption) | refine s_nil ?_)
  exact ret1 hF rfl rfl ⟨rfl, rfl⟩
end Go.Proofs.YtnohefaifbghiaaGreatDoor
end
section
/- errors.Is over two numbers of errors: they are the same, or not. -/
namespace Go.Proofs.YtnohefaifbghiaaGreatDoor
open Go.RowKit Go.Extern.Stop Go.Stop Go.Extern

theorem isTypeOf (v : Value) (w : World) : (Extern.ReflectliteType.typeOf #[.iface 38 v]).run Tryz.prog w = .ok (.iface 94 (.agg #[.pointer (some ⟨4, 38, none⟩)])) w := by kernel_rfl
theorem isComparable (w : World) : (callFunc 106 #[.agg #[.pointer (some ⟨4, 38, none⟩)]]).run Tryz.prog w = .ok (.value (.bool true)) w := by kernel_rfl
theorem isMethodComparable (v : Value) (w : World) : (Go.method 313 94 v "Comparable").run Tryz.prog w = .ok (106, v) w := by kernel_rfl
theorem isCompE : (Tryz.prog.info? 38).map (·.comparable) = some true := by kernel_rfl
theorem noIsE (v : Value) (xT : TypeId) (w : World) : (Instr.typeAssert (.iface 38 v) xT 106 true).run Tryz.prog w = .ok (.tuple #[.nilIface, .bool false]) w := run_typeAssert_lacksB Tryz.underlying106 (by kernel_rfl) (by kernel_rfl) v xT w
theorem noUnwrapE (v : Value) (xT : TypeId) (w : World) : (Instr.typeAssert (.iface 38 v) xT 101 true).run Tryz.prog w = .ok (.tuple #[.nilIface, .bool false]) w := run_typeAssert_lacksB Tryz.underlying101 (by kernel_rfl) (by kernel_rfl) v xT w
theorem noUnwrapsE (v : Value) (xT : TypeId) (w : World) : (Instr.typeAssert (.iface 38 v) xT 103 true).run Tryz.prog w = .ok (.tuple #[.nilIface, .bool false]) w := run_typeAssert_lacksB Tryz.underlying103 (by kernel_rfl) (by kernel_rfl) v xT w

theorem is_calls (a b : Int) (w : World) :
    Calls Tryz.prog 22 #[.iface 38 (.int .i64 a), .iface 38 (.int .i64 b)] w fun e w' => e = .returned (.bool (a == b)) ∧ w' = w := by
  have h8 := @run_callFunc_extern Tryz.prog 36 _ Extern.ReflectliteType.typeOf Tryz.func36 (by kernel_rfl) (by kernel_rfl) (by kernel_rfl) (by kernel_rfl)
  have tT := isTypeOf
  have cT := isComparable
  have mR := isMethodComparable
  have nE := noIsE
  have uE := noUnwrapE
  have vE := noUnwrapsE
  have heq := Go.Lib.run_eql_iface_int (P := Tryz.prog) w (t := 24) (tx := 38) (k := .i64) a b Tryz.underlying24 isCompE Tryz.underlying38
  cases hab : (a == b) with
  | true =>
    rw [hab] at heq
    go_enter Tryz.func22, Tryz.ntmps22
    go_wp2
    refine wp_loop_rounds 1 ?_
    rw [rounds_succ]
    go_wp2
    go_ret
    exact ⟨rfl, rfl⟩
  | false =>
    rw [hab] at heq
    go_enter Tryz.func22, Tryz.ntmps22
    go_wp2
    refine wp_loop_rounds 1 ?_
    rw [rounds_succ]
    go_wp2
    go_ret
    exact ⟨rfl, rfl⟩
theorem is_ok (w : World) (a b : Int) : Ret Tryz.prog 22 #[.iface 38 (.int .i64 a), .iface 38 (.int .i64 b)] w (fun v w' => v = .bool (a == b) ∧ w' = w) :=
  Calls.mono (is_calls a b w) fun e w' h => ⟨_, h.1, rfl, h.2⟩
end Go.Proofs.YtnohefaifbghiaaGreatDoor
end
section
/- busbarkit.Num: an error's number. -/
namespace Go.Proofs.YtnohefaifbghiaaGreatDoor
open Go.RowKit
set_option linter.unusedSimpArgs false
set_option linter.unusedVariables false
attribute [local irreducible] wpList wpQuiet wpStill Code.wp Exit.then Exit.inBlock bodyPost Calls Does Does0

theorem num_nil (w : World) : Ret Tryz.prog 9 #[.nilIface] w (fun v w' => v = .int .i64 0 ∧ w' = w) := by
  refine enter1 Tryz.func9 rfl 25 rfl 26 rfl (fun a hF => ?_)
  repeat (first | refine c_seq ?_ | refine c_block ?_ | refine c_region _ ?_ | refine wpList_nil ?_ | refine c_then ?_ | refine c_then_exit ?_ | refine c_then_ret ?_ | refine c_in ?_ | refine c_in_ret ?_ | refine c_in_hit ?_ | refine wp_skip ?_ | refine wp_exit ?_ | refine wp_ret ?_ | refine c_in_miss rfl ?_ | ((first | apply st hF | apply stg hF | apply s_step hF | apply s_stg hF); (first | exact d_move | exact d_assign | exact d_pickT | exact d_pickF | exact d_add | exact d_cmpT | exact d_cmpF | exact d_cmp | exact d_eqbT (und _ _ rfl) | exact d_eqbF (und _ _ rfl) | exact d_eqb (und _ _ rfl) | exact d_eqST | exact d_eqSF | exact d_eqS | exact d_eqN (ifc _ rfl) | exact d_neN (ifc _ rfl) | exact d_makeI (con _ rfl)); clear hF; clear a; intro a hF) | ((first | apply stm hF | apply stu hF); clear hF; clear a; intro a hF) | (apply c_cond_t hF; exact rfl; first | exact rfl | assumption) | (apply c_cond_f hF; exact rfl; first | exact rfl | assumption) | refine s_nil ?_)
  exact ret1 hF rfl rfl ⟨rfl, rfl⟩

theorem num_ok (w : World) (k : Int) (h1 : 1 ≤ k) (h2 : k ≤ 26) : Ret Tryz.prog 9 #[.iface 38 (.int .i64 k)] w (fun v w' => v = .int .i64 k ∧ w' = w) := by
  refine enter1 Tryz.func9 rfl 25 rfl 26 rfl (fun a hF => ?_)
  repeat (first | refine c_seq ?_ | refine c_block ?_ | refine c_region _ ?_ | refine wpList_nil ?_ | refine c_then ?_ | refine c_then_exit ?_ | refine c_then_ret ?_ | refine c_in ?_ | refine c_in_ret ?_ | refine c_in_hit ?_ | refine wp_skip ?_ | refine wp_exit ?_ | refine wp_ret ?_ | refine c_in_miss rfl ?_ | ((first | apply st hF | apply stg hF | apply s_step hF | apply s_stg hF); (first | exact d_move | exact d_assign | exact d_pickT | exact d_pickF | exact d_add | exact d_cmpT | exact d_cmpF | exact d_cmp | exact d_eqbT (und _ _ rfl) | exact d_eqbF (und _ _ rfl) | exact d_eqb (und _ _ rfl) | exact d_eqST | exact d_eqSF | exact d_eqS | exact d_eqN (ifc _ rfl) | exact d_neN (ifc _ rfl) | exact d_makeI (con _ rfl)); clear hF; clear a; intro a hF) | ((first | apply stm hF | apply stu hF); clear hF; clear a; intro a hF) | (apply c_cond_t hF; exact rfl; first | exact rfl | assumption) | (apply c_cond_f hF; exact rfl; first | exact rfl | assumption) | refine s_nil ?_)
  refine c_loop (fun q a w' => ∃ n : Nat, 1 ≤ n ∧ n ≤ 27 ∧ q = 27 - n ∧ Fr 26 [(0, .iface 38 (.int .i64 k)), (3, .int .i64 (if k < n then k else 0)), (4, .int .i64 (n : Nat))] a ∧ w' = w) 26
    ⟨1, by omega, by omega, rfl, (by rw [if_neg (by omega)]; exact hF.keep' ⟨rfl, rfl, rfl, trivial⟩), rfl⟩ ?_
  clear hF a
  rintro q a w' ⟨n, hn1, hn, rfl, hF, rfl⟩
  by_cases hlt : n ≤ 26
  · repeat (first | refine c_seq ?_ | refine c_block ?_ | refine c_region _ ?_ | refine wpList_nil ?_ | refine c_then ?_ | refine c_then_exit ?_ | refine c_then_ret ?_ | refine c_in ?_ | refine c_in_ret ?_ | refine c_in_hit ?_ | refine wp_skip ?_ | refine wp_exit ?_ | refine wp_ret ?_ | refine c_in_miss rfl ?_ | ((first | apply st hF | apply stg hF | apply s_step hF | apply s_stg hF); (first | exact d_move | exact d_assign | exact d_pickT | exact d_pickF | exact d_add | exact d_cmpT | exact d_cmpF | exact d_cmp | exact d_eqbT (und _ _ rfl) | exact d_eqbF (und _ _ rfl) | exact d_eqb (und _ _ rfl) | exact d_eqST | exact d_eqSF | exact d_eqS | exact d_eqN (ifc _ rfl) | exact d_neN (ifc _ rfl) | exact d_makeI (con _ rfl)); clear hF; clear a; intro a hF) | ((first | apply stm hF | apply stu hF); clear hF; clear a; intro a hF) | (apply c_cond_t hF; exact rfl; first | exact rfl | assumption) | (apply c_cond_f hF; exact rfl; first | exact rfl | assumption) | refine s_nil ?_)
    refine stc hF (is_ok w' k n) cal22 ⟨rfl, rfl, trivial⟩ (k := fun a v w2 hR hF => ?_)
    obtain ⟨rfl, rfl⟩ := hR
    by_cases hk : k = (n : Int)
    · rw [if_neg (by omega)] at hF
      rw [show (k == (n : Int)) = true from beq_iff_eq.2 hk] at hF
      repeat (first | refine c_seq ?_ | refine c_block ?_ | refine c_region _ ?_ | refine wpList_nil ?_ | refine c_then ?_ | refine c_then_exit ?_ | refine c_then_ret ?_ | refine c_in ?_ | refine c_in_ret ?_ | refine c_in_hit ?_ | refine wp_skip ?_ | refine wp_exit ?_ | refine wp_ret ?_ | refine c_in_miss rfl ?_ | ((first | apply st hF | apply stg hF | apply s_step hF | apply s_stg hF); (first | exact d_move | exact d_assign | exact d_pickT | exact d_pickF | exact d_add | exact d_cmpT | exact d_cmpF | exact d_cmp | exact d_eqbT (und _ _ rfl) | exact d_eqbF (und _ _ rfl) | exact d_eqb (und _ _ rfl) | exact d_eqST | exact d_eqSF | exact d_eqS | exact d_eqN (ifc _ rfl) | exact d_neN (ifc _ rfl) | exact d_makeI (con _ rfl)); clear hF; clear a; intro a hF) | ((first | apply stm hF | apply stu hF); clear hF; clear a; intro a hF) | (apply c_cond_t hF; exact rfl; first | exact rfl | assumption) | (apply c_cond_f hF; exact rfl; first | exact rfl | assumption) | refine s_nil ?_)
      refine ⟨27 - (n + 1), by omega, n + 1, by omega, by omega, rfl, ?_, rfl⟩
      rw [if_pos (by omega), hk]
      rw [hk] at hF
      exact hF.keep' ⟨rfl, rfl, rfl, trivial⟩
    · rw [show (k == (n : Int)) = false from beq_eq_false_iff_ne.2 hk] at hF
      repeat (first | refine c_seq ?_ | refine c_block ?_ | refine c_region _ ?_ | refine wpList_nil ?_ | refine c_then ?_ | refine c_then_exit ?_ | refine c_then_ret ?_ | refine c_in ?_ | refine c_in_ret ?_ | refine c_in_hit ?_ | refine wp_skip ?_ | refine wp_exit ?_ | refine wp_ret ?_ | refine c_in_miss rfl ?_ | ((first | apply st hF | apply stg hF | apply s_step hF | apply s_stg hF); (first | exact d_move | exact d_assign | exact d_pickT | exact d_pickF | exact d_add | exact d_cmpT | exact d_cmpF | exact d_cmp | exact d_eqbT (und _ _ rfl) | exact d_eqbF (und _ _ rfl) | exact d_eqb (und _ _ rfl) | exact d_eqST | exact d_eqSF | exact d_eqS | exact d_eqN (ifc _ rfl) | exact d_neN (ifc _ rfl) | exact d_makeI (con _ rfl)); clear hF; clear a; intro a hF) | ((first | apply stm hF | apply stu hF); clear hF; clear a; intro a hF) | (apply c_cond_t hF; exact rfl; first | exact rfl | assumption) | (apply c_cond_f hF; exact rfl; first | exact rfl | assumption) | refine s_nil ?_)
      refine ⟨27 - (n + 1), by omega, n + 1, by omega, by omega, rfl, ?_, rfl⟩
      by_cases hkl : k < n
      · rw [if_pos (by omega)]
        rw [if_pos hkl] at hF
        exact hF.keep' ⟨rfl, rfl, rfl, trivial⟩
      · rw [if_neg (by omega)]
        rw [if_neg hkl] at hF
        exact hF.keep' ⟨rfl, rfl, rfl, trivial⟩
  · rw [if_pos (by omega)] at hF
    repeat (first | refine c_seq ?_ | refine c_block ?_ | refine c_region _ ?_ | refine wpList_nil ?_ | refine c_then ?_ | refine c_then_exit ?_ | refine c_then_ret ?_ | refine c_in ?_ | refine c_in_ret ?_ | refine c_in_hit ?_ | refine wp_skip ?_ | refine wp_exit ?_ | refine wp_ret ?_ | refine c_in_miss rfl ?_ | ((first | apply st hF | apply stg hF | apply s_step hF | apply s_stg hF); (first | exact d_move | exact d_assign | exact d_pickT | exact d_pickF | exact d_add | exact d_cmpT | exact d_cmpF | exact d_cmp | exact d_eqbT (und _ _ rfl) | exact d_eqbF (und _ _ rfl) | exact d_eqb (und _ _ rfl) | exact d_eqST | exact d_eqSF | exact d_eqS | exact d_eqN (ifc _ rfl) | exact d_neN (ifc _ rfl) | exact d_makeI (con _ rfl)); clear hF; clear a; intro a hF) | ((first | apply stm hF | apply stu hF); clear hF; clear a; intro a hF) | (apply c_cond_t hF; exact rfl; first | exact rfl | assumption) | (apply c_cond_f hF; exact rfl; first | exact rfl | assumption) | refine s_nil ?_)
    refine stcg hF (is_ok w' k 0) cal22 ⟨rfl, rfl, trivial⟩ (k := fun a v w2 hR hF => ?_)
    obtain ⟨rfl, rfl⟩ := hR
    rw [show (k == 0) = false from beq_eq_false_iff_ne.2 (by omega)] at hF
    repeat (first | refine c_seq ?_ | refine c_block ?_ | refine c_region _ ?_ | refine wpList_nil ?_ | refine c_then ?_ | refine c_then_exit ?_ | refine c_then_ret ?_ | refine c_in ?_ | refine c_in_ret ?_ | refine c_in_hit ?_ | refine wp_skip ?_ | refine wp_exit ?_ | refine wp_ret ?_ | refine c_in_miss rfl ?_ | ((first | apply st hF | apply stg hF | apply s_step hF | apply s_stg hF); (first | exact d_move | exact d_assign | exact d_pickT | exact d_pickF | exact d_add | exact d_cmpT | exact d_cmpF | exact d_cmp | exact d_eqbT (und _ _ rfl) | exact d_eqbF (und _ _ rfl) | exact d_eqb (und _ _ rfl) | exact d_eqST | exact d_eqSF | exact d_eqS | exact d_eqN (ifc _ rfl) | exact d_neN (ifc _ rfl) | exact d_makeI (con _ rfl)); clear hF; clear a; intro a hF) | ((first | apply stm hF | apply stu hF); clear hF; clear a; intro a hF) | (apply c_cond_t hF; exact rfl; first | exact rfl | assumption) | (apply c_cond_f hF; exact rfl; first | exact rfl | assumption) | refine s_nil ?_)
    exact ret1 hF rfl rfl ⟨rfl, rfl⟩
end Go.Proofs.YtnohefaifbghiaaGreatDoor
end
