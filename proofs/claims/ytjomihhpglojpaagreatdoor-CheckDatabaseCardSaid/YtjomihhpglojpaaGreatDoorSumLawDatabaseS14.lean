/- Laid together by a program of mine: WhereW Ust Units Dec. -/
import Derived.Test.YtjomihhpglojpaaGreatDoorSumLawDatabaseS12
import Derived.Test.YtjomihhpglojpaaGreatDoorSumLawDatabaseS13
import Derived.Test.YtjomihhpglojpaaGreatDoorSumLawDatabaseS8
import Derived.Test.YtjomihhpglojpaaGreatDoorSumLawDatabaseS2
import Derived.Test.YtjomihhpglojpaaGreatDoorSumLawDatabaseS4
import Derived.Test.YtjomihhpglojpaaGreatDoorSumLawDatabaseS6
import Derived.Test.YtjomihhpglojpaaGreatDoorSumLawDatabaseS5
set_option linter.unusedSimpArgs false
set_option linter.unusedVariables false
section
/- check.where and the reference's bits: walked. -/
namespace Go.Proofs.YtjomihhpglojpaaGreatDoor
open Go.RowKit
namespace Pl
theorem seqB_nd (mot : Bool) (b : Int) (n : Nat) : (seqB mot b n).Nodup := by
  rw [List.Nodup, List.pairwise_iff_getElem]
  intro i j hi hj hij e
  rw [seqB_get mot n b i hi, seqB_get mot n b j hj] at e
  have := congrArg (pos mot) e
  rw [pos_pos, pos_pos] at this
  omega
/-- A row that may be is a set. -/
theorem row_set' {start size : Int} {mot : Bool} {l : List Int} (h : bitsOfSig start size mot = .ok l) : l.length ≤ 64 ∧ (∀ x ∈ l, 0 ≤ x ∧ x ≤ 63) ∧ ∃ s, setOf l = .ok s ∧ s.length = 64 ∧ ∀ i : Nat, s.getD i false = decide ((i : Int) ∈ l) := by
  obtain ⟨h1, h2, h3, h4, h5, h6, h7, h8⟩ := bits_ok h
  have hn : l.Nodup := by
    rw [h8]
    cases mot
    · exact seqB_nd _ _ _
    · exact List.pairwise_reverse.2 ((seqB_nd true start size.toNat).imp (fun hab e => hab e.symm))
  obtain ⟨s, hs⟩ := addAll_can (l := l) (s := emptyS) (by decide) hn (fun x hx => ⟨(h6 x hx).1, by have := (h6 x hx).2; omega, by
    unfold emptyS
    rw [List.getD_eq_getElem?_getD, List.getElem?_replicate]
    split <;> rfl⟩)
  obtain ⟨a1, _, _, a4⟩ := addAll_ok (by decide) hs
  refine ⟨by omega, h6, s, hs, a1, fun i => ?_⟩
  rw [a4 i]
  unfold emptyS
  rw [List.getD_eq_getElem?_getD, List.getElem?_replicate]
  split <;> simp
/-- Where a signal's bits end, at most. -/
def capN (n : Int) : Int := 8 * (if 8 < (if n < 0 then 0 else n) then 8 else (if n < 0 then 0 else n))
theorem capN_bnd (n : Int) : 0 ≤ capN n ∧ capN n ≤ 64 := by unfold capN; split <;> split <;> omega
def whereE (start size : Int) (mot : Bool) (n : Int) : Int :=
  match bitsOfSig start size mot with
  | .error e => e
  | .ok l => if ∀ x ∈ l, x < capN n then 0 else 16
theorem err_15 {start size : Int} {mot : Bool} {e : Int} (h : bitsOfSig start size mot = .error e) : e = 15 ∨ e = 16 := by
  unfold bitsOfSig at h
  split at h
  · cases h; exact .inl rfl
  · split at h
    · cases h; exact .inr rfl
    · split at h
      · cases h
      · cases h; exact .inr rfl
end Pl
open Go.RowKit
set_option linter.unusedSimpArgs false
set_option linter.unusedVariables false
attribute [local irreducible] wpList wpQuiet wpStill Code.wp Exit.then Exit.inBlock bodyPost Calls Does Does0
theorem number_ok (w : World) (e : Int) (he : e = 15 ∨ e = 16) : Ret Tryz.prog 74 [.iface 54 (.int .i64 e)].toArray w (fun v w' => v = .int .i64 e ∧ Below w.heap.size w w') := by
  refine enter1 Tryz.func74 rfl 16 rfl 17 rfl (fun a hF => ?_)
  repeat (first | refine c_seq ?_ | refine c_region _ ?_ | refine wpList_nil ?_ | refine c_then ?_ | ((apply st hF); (exact d_assign); clear hF; clear a; intro a hF))
  refine st_buildR hF (Value.int .i64) [15, 16] [(0, .int .i64 15), (1, .int .i64 16)] (und _ _ rfl) inf54 rfl (by kernel_rfl) ⟨rfl, rfl, rfl, rfl, trivial⟩ (k := fun a w1 hgr hb1 hR hF => ?_)
  obtain ⟨b, o, e0, c0⟩ := hR 0 (by decide)
  obtain ⟨b', o', e1, c1⟩ := hR 1 (by decide)
  cases e0; cases e1
  replace c0 : w1.cell? ⟨w.heap.size, 0 + 0, none⟩ = some (.int .i64 15) := c0
  replace c1 : w1.cell? ⟨w.heap.size, 0 + 1, none⟩ = some (.int .i64 16) := c1
  repeat (first | refine c_block ?_ | refine wpList_nil ?_ | refine c_then ?_ | ((apply st hF); (first | exact d_move | exact d_len (und _ _ rfl)); clear hF; clear a; intro a hF))
  refine c_loop (fun q a wr => wr = w1 ∧ ((q = 2 ∧ Fr 17 [(0, .iface 54 (.int .i64 e)), (5, .slice (some ⟨w.heap.size, 0, none⟩) 2 2), (6, .int .i64 2), (7, .int .i64 0)] a) ∨ (q = 1 ∧ e = 16 ∧ Fr 17 [(0, .iface 54 (.int .i64 e)), (5, .slice (some ⟨w.heap.size, 0, none⟩) 2 2), (6, .int .i64 2), (7, .int .i64 1)] a))) 2
    ⟨rfl, .inl ⟨rfl, hF.keep' ⟨rfl, rfl, rfl, rfl, trivial⟩⟩⟩ ?_
  clear hF a
  rintro q a wr ⟨hw, ⟨rfl, hF⟩ | ⟨rfl, rfl, hF⟩⟩
  · subst hw
    repeat (first | refine c_seq ?_ | refine c_block ?_ | refine c_region _ ?_ | refine wpList_nil ?_ | refine c_then ?_ | refine wp_skip ?_ | ((apply st hF); (first | exact d_move | exact d_assign | exact d_cmpT | exact d_makeI (con _ rfl) | exact d_indexAddr1 (und _ _ rfl) (isz _ _ rfl) (j := 0) | exact d_load (und _ _ rfl) c0); clear hF; clear a; intro a hF) | (apply c_cond_t hF; exact rfl; first | exact rfl | assumption))
    refine stc hF (is_ok wr e 15) cal72 ⟨rfl, rfl, trivial⟩ (k := fun a v w2 hR hF => ?_)
    obtain ⟨rfl, rfl⟩ := hR
    rcases he with rfl | rfl
    · repeat (first | refine c_seq ?_ | refine c_region _ ?_ | refine wpList_nil ?_ | refine c_then ?_ | refine c_then_ret ?_ | refine c_in_ret ?_ | refine wp_ret ?_ | ((apply st hF); (first | exact d_move | exact d_assign); clear hF; clear a; intro a hF) | (apply c_cond_t hF; exact rfl; first | exact rfl | assumption))
      exact ret1 hF rfl rfl ⟨rfl, hb1⟩
    · repeat (first | refine c_region _ ?_ | refine wpList_nil ?_ | refine c_then ?_ | refine c_in ?_ | refine wp_skip ?_ | ((apply st hF); (first | exact d_move | exact d_add); clear hF; clear a; intro a hF) | (apply c_cond_f hF; exact rfl; first | exact rfl | assumption))
      exact ⟨1, by decide, rfl, .inr ⟨rfl, rfl, hF.keep' ⟨rfl, rfl, rfl, rfl, trivial⟩⟩⟩
  · subst hw
    repeat (first | refine c_seq ?_ | refine c_block ?_ | refine c_region _ ?_ | refine wpList_nil ?_ | refine c_then ?_ | refine wp_skip ?_ | ((apply st hF); (first | exact d_move | exact d_assign | exact d_cmpT | exact d_makeI (con _ rfl) | exact d_indexAddr1 (und _ _ rfl) (isz _ _ rfl) (j := 1) | exact d_load (und _ _ rfl) c1); clear hF; clear a; intro a hF) | (apply c_cond_t hF; exact rfl; first | exact rfl | assumption))
    refine stc hF (is_ok wr 16 16) cal72 ⟨rfl, rfl, trivial⟩ (k := fun a v w2 hR hF => ?_)
    obtain ⟨rfl, rfl⟩ := hR
    repeat (first | refine c_seq ?_ | refine c_region _ ?_ | refine wpList_nil ?_ | refine c_then ?_ | refine c_then_ret ?_ | refine c_in_ret ?_ | refine wp_ret ?_ | ((apply st hF); (first | exact d_move | exact d_assign); clear hF; clear a; intro a hF) | (apply c_cond_t hF; exact rfl; first | exact rfl | assumption))
    exact ret1 hF rfl rfl ⟨rfl, hb1⟩
theorem setC_nil : (Value.agg (setC Pl.emptyS)).cells = setC Pl.emptyS := rfl
/-- The answer of where: the set, if nothing is wrong. -/
def WhereV (start size : Int) (mot : Bool) (n : Int) (v : Value) : Prop := ∃ s, s.length = 64 ∧ v = .tuple #[.agg (setC s), .int .i64 (Pl.whereE start size mot n)] ∧ (Pl.whereE start size mot n = 0 → ∃ l, Pl.bitsOfSig start size mot = .ok l ∧ Pl.setOf l = .ok s)
set_option maxHeartbeats 8000000 in
theorem where_ok (w : World) (cs : Array Value) (start size n : Int) (mot : Bool) (hs : SigAt cs start size mot) (h1 : ∀ v ∈ cs, v.oneCell' = true) :
    Ret Tryz.prog 47 [.agg cs, .int .i64 n].toArray w (fun v w' => WhereV start size mot n v ∧ Below w.heap.size w w') := by
  refine enter2 Tryz.func47 rfl 39 rfl 41 rfl (fun a hF => ?_)
  repeat (first | refine c_seq ?_ | refine c_region _ ?_)
  refine st_box hF (cs := cs) rfl (k := fun a w1 hg1 hgr1 hsz1 hF => ?_)
  refine st_alloc hF inf102 (k := fun a w2 hs2 hgr2 hsz2 hF => ?_)
  replace hg1 := blk_kept hg1 hgr2 (by simp)
  have hb2 : Below w.heap.size w w2 := ((Below.refl _ w).grown hgr1 (Nat.le_refl _) (fun k hk => by cases hk)).grown hgr2 (by omega) (fun k hk => by cases hk)
  replace hs2 : w2.heap[w1.heap.size]? = some (.cells (setC Pl.emptyS) 102 (0, 0)) := hs2
  repeat (first | refine c_seq ?_ | refine c_region _ ?_ | refine wpList_nil ?_ | refine c_then ?_ | ((apply st hF); (first | exact d_assign | exact d_loadAgg (agg _ rfl) (isz _ _ rfl) hs.len (cells_at hg1)); clear hF; clear a; intro a hF))
  refine stc hF (bits_of w2 cs start size mot hs) cal73 ⟨rfl, trivial⟩ (k := fun a v w3 hR hF => ?_)
  obtain ⟨hBR, hb3⟩ := hR
  have z3 := hb3.size
  have hs3 := (hb3.block _ (by omega)).trans hs2
  have hB3 : Below w.heap.size w w3 := hb2.trans (hb3.mono (by omega))
  have zset : ∀ (l : List (Nat × Value)) (w : World) (ty : TypeId), Does Tryz.prog l w (.build 102 ([] : List (Nat × Operand)).toArray) ty (.agg (setC Pl.emptyS)) w := fun l w ty => d_build (vs := []) (by kernel_rfl) trivial
  have fin : ∀ (a : Act) (l : List (Nat × Value)) (W : World) (s : List Bool) (e : Int), Fr 41 l a → look l 4 = some (.pointer (some ⟨w1.heap.size, 0, none⟩)) → look l 5 = some (.int .i64 e) → W.heap[w1.heap.size]? = some (.cells (setC s) 102 (0, 0)) → s.length = 64 → e = Pl.whereE start size mot n → (e = 0 → ∃ l, Pl.bitsOfSig start size mot = .ok l ∧ Pl.setOf l = .ok s) → Below w.heap.size w W →
      bodyPost Tryz.prog Tryz.f47 (fun e w' => ∃ v, e = .returned v ∧ (WhereV start size mot n v ∧ Below w.heap.size w w')) .ret a W := by
    intro a l W s e hF h4 h5 hg hl he hz hb
    subst he
    exact ret_ct hF rfl (agg _ rfl) (by rw [isz 102 64 rfl, setC_size, hl]) hg h4 h5 ⟨⟨s, hl, rfl, hz⟩, hb⟩
  have hwe : ∀ e, Pl.bitsOfSig start size mot = .error e → Pl.whereE start size mot n = e := fun e h => by unfold Pl.whereE; rw [h]
  cases hr : Pl.bitsOfSig start size mot with
  | error e =>
    rw [hr] at hBR
    obtain rfl : v = _ := hBR
    have he := Pl.err_15 hr
    repeat (first | refine c_seq ?_ | refine c_region _ ?_ | refine wpList_nil ?_ | refine c_then ?_ | ((apply st hF); (first | exact d_move | exact d_assign | exact d_neN (ifc _ rfl) | exact d_extract); clear hF; clear a; intro a hF) | (apply c_cond_t hF; exact rfl; first | exact rfl | assumption))
    refine st hF (zset _ _ _) rfl (fun a hF => ?_)
    repeat (((apply st hF); (exact d_move); clear hF; clear a; intro a hF))
    refine stc hF (number_ok w3 e he) cal74 ⟨rfl, trivial⟩ (k := fun a v w4 hR hF => ?_)
    obtain ⟨rfl, hb4⟩ := hR
    have hs4 := (hb4.block _ (by omega)).trans hs3
    refine st_storeAgg hF (cs := setC Pl.emptyS) (isz _ _ rfl) rfl rfl hs4 (setC_cells _) (k := fun a w5 hf5 hgr5 hsz5 hF => ?_)
    repeat (first | refine wpList_nil ?_ | refine c_then ?_ | refine c_then_ret ?_ | refine wp_ret ?_ | ((apply st hF); (exact d_assign); clear hF; clear a; intro a hF))
    exact fin _ _ _ _ _ hF rfl rfl hf5 (by decide) (hwe e hr).symm (fun h0 => by omega) ((hB3.trans (hb4.mono (by omega))).grown hgr5 (by have := hb4.size; omega) (fun q e => by cases e; omega))
  | ok l =>
    rw [hr] at hBR
    obtain ⟨g, cap, rfl, hgB, hown⟩ := hBR
    obtain ⟨l64, lr, s, hset, s64, hgetD⟩ := Pl.row_set' hr
    have hrd := (own_rd hown).2
    repeat (first | refine c_seq ?_ | refine c_region _ ?_ | refine wpList_nil ?_ | refine c_then ?_ | refine wp_skip ?_ | ((apply st hF); (first | exact d_move | exact d_assign | exact d_neN (ifc _ rfl) | exact d_extract); clear hF; clear a; intro a hF) | (apply c_cond_f hF; exact rfl; first | exact rfl | assumption))
    refine stc hF (setOf_of w3 l _ _ cap rfl hrd (by omega)) cal75 ⟨rfl, trivial⟩ (k := fun a v w4 hR hF => ?_)
    obtain ⟨hSR, hb4⟩ := hR
    rw [hset] at hSR
    obtain rfl : v = _ := hSR
    have z4 := hb4.size
    have hs4 := (hb4.block _ (by omega)).trans hs3
    have hB4 : Below w.heap.size w w4 := hB3.trans (hb4.mono (by omega))
    repeat (((apply st hF); (first | exact d_move | exact d_extract); clear hF; clear a; intro a hF))
    refine st_alloc hF inf102 (k := fun a w5 ht5 hgr5 hsz5 hF => ?_)
    refine st_storeAgg hF (cs := setC s) (isz _ _ rfl) (by rw [setC_size, s64]) rfl ht5 (setC_cells _) (k := fun a w6 ht6 hgr6 hsz6 hF => ?_)
    have hs6 := blk_kept (blk_kept hs4 hgr5 (by simp)) hgr6 (by simp; omega)
    have hB6 : Below w.heap.size w w6 := (hB4.grown hgr5 (by omega) (fun q e => by cases e)).grown hgr6 (by omega) (fun q e => by cases e; omega)
    have hcb := Pl.capN_bnd n
    obtain ⟨m0, hm0⟩ : ∃ m0, (if n < 0 then 0 else n) = m0 := ⟨_, rfl⟩
    obtain ⟨m1, hm1⟩ : ∃ m1, (if (8 : Int) < m0 then 8 else m0) = m1 := ⟨_, rfl⟩
    have hcap : Pl.capN n = 8 * m1 := by unfold Pl.capN; rw [hm0, hm1]
    obtain ⟨c, hc⟩ : ∃ c : Nat, 8 * m1 = (c : Int) := ⟨(8 * m1).toNat, by omega⟩
    have hmx : ∀ (l : List (Nat × Value)) (x y : Operand) (t t' ty : TypeId) (w : World), Ev l x (.int .i64 n) → Ev l y (.int .i64 0) → Does Tryz.prog l w (.call { callee := .builtin .max, args := [x, y].toArray, argTypes := [t, t'].toArray }) ty (.int .i64 m0) w := fun l x y t t' ty w hx hy => by
      have := d_max (P := Tryz.prog) (w := w) (t := t) (t' := t') (ty := ty) hx hy
      rwa [hm0] at this
    have hmn : ∀ (l : List (Nat × Value)) (x y : Operand) (t t' ty : TypeId) (w : World), Ev l x (.int .i64 m0) → Ev l y (.int .i64 8) → Does Tryz.prog l w (.call { callee := .builtin .min, args := [x, y].toArray, argTypes := [t, t'].toArray }) ty (.int .i64 m1) w := fun l x y t t' ty w hx hy => by
      have := d_min (P := Tryz.prog) (w := w) (t := t) (t' := t') (ty := ty) hx hy
      rwa [hm1] at this
    repeat (first | refine c_seq ?_ | refine c_block ?_ | refine c_region _ ?_ | refine wpList_nil ?_ | refine c_then ?_ | refine wp_skip ?_ | ((apply st hF); (first | exact d_move | exact d_assign | exact d_neN (ifc _ rfl) | exact hmx _ _ _ _ _ _ _ rfl rfl | exact hmn _ _ _ _ _ _ _ rfl rfl | exact d_mul (h := by omega)); clear hF; clear a; intro a hF) | (apply c_cond_f hF; exact rfl; first | exact rfl | assumption))
    rw [hc] at hF
    have hcc : c ≤ 64 := by omega
    have hwl : Pl.whereE start size mot n = if ∀ x ∈ l, x < (c : Int) then 0 else 16 := by unfold Pl.whereE; rw [hr, hcap, hc]
    refine c_loop (fun q a wr => ∃ k : Nat, c ≤ k ∧ k ≤ 64 ∧ q = 64 - k ∧ (∀ j, c ≤ j → j < k → s.getD j false = false) ∧ Fr 41 [(4, .pointer (some ⟨w1.heap.size, 0, none⟩)), (8, .pointer (some ⟨w4.heap.size, 0, none⟩)), (9, .int .i64 (k : Int))] a ∧ wr = w6) (64 - c)
      ⟨c, Nat.le_refl _, hcc, rfl, fun j h1 h2 => by omega, hF.keep' ⟨rfl, rfl, rfl, trivial⟩, rfl⟩ ?_
    clear hF a
    rintro q a wr ⟨k, hck, hk64, rfl, hpre, hF, rfl⟩
    by_cases hlt : k < 64
    · have hget : wr.cell? ⟨w4.heap.size, 0 + k, none⟩ = some (.bool (s.getD k false)) := by
        rw [Nat.zero_add]
        refine cell_at ht6 ?_
        rw [setC_get (by omega)]
        simp [List.getD, show k < s.length by omega]
      cases hb : s.getD k false with
      | true =>
        rw [hb] at hget
        repeat (first | refine c_seq ?_ | refine c_block ?_ | refine c_region _ ?_ | refine wpList_nil ?_ | refine c_then ?_ | refine wp_skip ?_ | ((apply st hF); (first | exact d_move | exact d_cmpT | exact d_indexAddrA (und _ _ rfl) (isz _ _ rfl) (j := k) | exact d_load (und _ _ rfl) hget); clear hF; clear a; intro a hF) | (apply c_cond_t hF; exact rfl; first | exact rfl | assumption))
        refine st hF (zset _ _ _) rfl (fun a hF => ?_)
        refine st_storeAgg hF (cs := setC Pl.emptyS) (isz _ _ rfl) rfl rfl hs6 (setC_cells _) (k := fun a w7 hf7 hgr7 hsz7 hF => ?_)
        repeat (first | refine wpList_nil ?_ | refine c_then ?_ | refine c_then_ret ?_ | refine c_in_ret ?_ | refine wp_ret ?_ | ((apply st hF); (exact d_assign); clear hF; clear a; intro a hF))
        have hm : ((k : Int) ∈ l) := by rw [hgetD] at hb; exact of_decide_eq_true hb
        have hwe2 : Pl.whereE start size mot n = 16 := by rw [hwl, if_neg (fun h => by have := h _ hm; omega)]
        exact fin _ _ _ _ _ hF rfl rfl hf7 (by decide) hwe2.symm (fun h0 => by omega) (hB6.grown hgr7 (by omega) (fun q e => by cases e; omega))
      | false =>
        rw [hb] at hget
        repeat (first | refine c_seq ?_ | refine c_block ?_ | refine c_region _ ?_ | refine wpList_nil ?_ | refine c_then ?_ | refine c_in ?_ | refine wp_skip ?_ | ((apply st hF); (first | exact d_move | exact d_assign | exact d_add | exact d_cmpT | exact d_indexAddrA (und _ _ rfl) (isz _ _ rfl) (j := k) | exact d_load (und _ _ rfl) hget); clear hF; clear a; intro a hF) | (apply c_cond_t hF; exact rfl; first | exact rfl | assumption) | (apply c_cond_f hF; exact rfl; first | exact rfl | assumption))
        exact ⟨64 - (k + 1), by omega, k + 1, by omega, by omega, rfl, fun j h1 h2 => by
          by_cases e : j = k
          · subst e; exact hb
          · exact hpre j h1 (by omega), hF.keep' ⟨rfl, rfl, rfl, trivial⟩, rfl⟩
    · repeat (first | refine c_seq ?_ | refine c_region _ ?_ | refine wpList_nil ?_ | refine c_then ?_ | refine c_then_exit ?_ | refine c_in_hit ?_ | refine wp_exit ?_ | ((apply st hF); (first | exact d_move | exact d_cmpF | exact d_loadAgg (agg _ rfl) (isz _ _ rfl) (by rw [setC_size, s64]) (cells_at ht6)); clear hF; clear a; intro a hF) | (apply c_cond_f hF; exact rfl; first | exact rfl | assumption))
      refine st_storeAgg hF (cs := setC s) (isz _ _ rfl) (by rw [setC_size, s64]) rfl hs6 (setC_cells _) (k := fun a w7 hf7 hgr7 hsz7 hF => ?_)
      repeat (first | refine wpList_nil ?_ | refine c_then ?_ | refine wp_ret ?_ | ((apply st hF); (exact d_assign); clear hF; clear a; intro a hF))
      have hwe2 : Pl.whereE start size mot n = 0 := by
        rw [hwl, if_pos]
        intro x hx
        apply Decidable.byContradiction
        intro hge
        have hx2 := lr x hx
        have := hpre x.toNat (by omega) (by omega)
        rw [hgetD, show ((x.toNat : Nat) : Int) = x by omega, decide_eq_true hx] at this
        cases this
      exact fin _ _ _ _ _ hF rfl rfl hf7 s64 hwe2.symm (fun _ => ⟨l, hr, hset⟩) (hB6.grown hgr7 (by omega) (fun q e => by cases e; omega))
set_option maxHeartbeats 4000000 in
theorem rwhere_ok (w : World) (cs : Array Value) (start size n : Int) (mot : Bool) (hs : SigAt cs start size mot) :
    Ret Tryz.prog 52 [.agg cs, .int .i64 n].toArray w (fun v w' => v = .int .i64 (Pl.whereE start size mot n) ∧ Below w.heap.size w w') := by
  refine enter2 Tryz.func52 rfl 29 rfl 31 rfl (fun a hF => ?_)
  repeat (first | refine c_seq ?_ | refine c_region _ ?_)
  refine st_box hF (cs := cs) rfl (k := fun a w1 hg1 hgr1 hsz1 hF => ?_)
  have hb1 : Below w.heap.size w w1 := (Below.refl _ w).grown hgr1 (Nat.le_refl _) (fun k hk => by cases hk)
  repeat (first | refine c_seq ?_ | refine c_region _ ?_ | refine wpList_nil ?_ | refine c_then ?_ | ((apply st hF); (first | exact d_assign | exact d_loadAgg (agg _ rfl) (isz _ _ rfl) hs.len (cells_at hg1)); clear hF; clear a; intro a hF))
  refine stc hF (refbits_of w1 cs start size mot hs) cal56 ⟨rfl, trivial⟩ (k := fun a v w2 hR hF => ?_)
  obtain ⟨hBR, hb2⟩ := hR
  have hB2 : Below w.heap.size w w2 := hb1.trans (hb2.mono hb1.size)
  cases hr : Pl.bitsOfSig start size mot with
  | error e =>
    rw [hr] at hBR
    obtain rfl : v = _ := hBR
    have he := Pl.err_15 hr
    have hwe : Pl.whereE start size mot n = e := by unfold Pl.whereE; rw [hr]
    repeat (first | refine c_seq ?_ | refine c_region _ ?_ | refine wpList_nil ?_ | refine c_then ?_ | refine c_then_ret ?_ | refine wp_ret ?_ | ((apply st hF); (first | exact d_move | exact d_assign | exact d_cmpT | exact d_extract); clear hF; clear a; intro a hF) | (apply c_cond_t hF; exact rfl; first | exact rfl | assumption))
    exact ret1 hF rfl rfl ⟨by rw [hwe]; rfl, hB2⟩
  | ok l =>
    rw [hr] at hBR
    obtain ⟨ao, cap, rfl, hown⟩ := hBR
    obtain ⟨l64, lr, _⟩ := Pl.row_set' hr
    have hrd := (own_rd hown).2
    have hcb := Pl.capN_bnd n
    obtain ⟨m0, hm0⟩ : ∃ m0, (if n < 0 then 0 else n) = m0 := ⟨_, rfl⟩
    obtain ⟨m1, hm1⟩ : ∃ m1, (if (8 : Int) < m0 then 8 else m0) = m1 := ⟨_, rfl⟩
    have hcap : Pl.capN n = 8 * m1 := by unfold Pl.capN; rw [hm0, hm1]
    have hmx : ∀ (l : List (Nat × Value)) (x y : Operand) (t t' ty : TypeId) (w : World), Ev l x (.int .i64 n) → Ev l y (.int .i64 0) → Does Tryz.prog l w (.call { callee := .builtin .max, args := [x, y].toArray, argTypes := [t, t'].toArray }) ty (.int .i64 m0) w := fun l x y t t' ty w hx hy => by
      have := d_max (P := Tryz.prog) (w := w) (t := t) (t' := t') (ty := ty) hx hy
      rwa [hm0] at this
    have hmn : ∀ (l : List (Nat × Value)) (x y : Operand) (t t' ty : TypeId) (w : World), Ev l x (.int .i64 m0) → Ev l y (.int .i64 8) → Does Tryz.prog l w (.call { callee := .builtin .min, args := [x, y].toArray, argTypes := [t, t'].toArray }) ty (.int .i64 m1) w := fun l x y t t' ty w hx hy => by
      have := d_min (P := Tryz.prog) (w := w) (t := t) (t' := t') (ty := ty) hx hy
      rwa [hm1] at this
    repeat (first | refine c_seq ?_ | refine c_block ?_ | refine c_region _ ?_ | refine wpList_nil ?_ | refine c_then ?_ | refine wp_skip ?_ | ((apply st hF); (first | exact d_move | exact d_assign | exact d_cmpF | exact d_extract); clear hF; clear a; intro a hF) | (apply c_cond_f hF; exact rfl; first | exact rfl | assumption))
    refine c_loop (fun q a wr => ∃ k : Nat, k ≤ l.length ∧ q = l.length - k ∧ (∀ j (h : j < l.length), j < k → l[j] < Pl.capN n) ∧ Fr 31 [(1, .int .i64 n), (5, .slice ao l.length cap), (7, .int .i64 (k : Int))] a ∧ wr = w2) l.length
      ⟨0, Nat.zero_le _, rfl, fun j h1 h2 => absurd h2 (Nat.not_lt_zero _), hF.keep' ⟨rfl, rfl, rfl, trivial⟩, rfl⟩ ?_
    clear hF a
    rintro q a wr ⟨k, hk, rfl, hpre, hF, rfl⟩
    by_cases hlt : k < l.length
    · obtain ⟨b, o, hao, hc⟩ := hrd k hlt
      have hx := lr _ (List.getElem_mem hlt)
      rw [hao] at hF
      by_cases hge : l[k] < Pl.capN n
      · repeat (first | refine c_seq ?_ | refine c_block ?_ | refine c_region _ ?_ | refine wpList_nil ?_ | refine c_then ?_ | refine c_in ?_ | refine wp_skip ?_ | ((apply st hF); (first | exact d_move | exact d_assign | exact d_add | exact d_cmpT | exact d_cmpF | exact d_len (und _ _ rfl) | exact d_indexAddr1 (und _ _ rfl) (isz _ _ rfl) | exact hmx _ _ _ _ _ _ _ rfl rfl | exact hmn _ _ _ _ _ _ _ rfl rfl | exact d_mul (h := by omega) | exact d_load (und _ _ rfl) hc); clear hF; clear a; intro a hF) | (apply c_cond_t hF; exact rfl; first | exact rfl | assumption) | (apply c_cond_f hF; exact rfl; first | exact rfl | assumption))
        exact ⟨l.length - (k + 1), by omega, k + 1, by omega, rfl, fun j h1 h2 => by
          by_cases e : j = k
          · subst e; exact hge
          · exact hpre j h1 (by omega), by rw [hao]; exact hF.keep' ⟨rfl, rfl, rfl, trivial⟩, rfl⟩
      · repeat (first | refine c_seq ?_ | refine c_block ?_ | refine c_region _ ?_ | refine wpList_nil ?_ | refine c_then ?_ | refine c_then_ret ?_ | refine c_in_ret ?_ | refine wp_skip ?_ | refine wp_ret ?_ | ((apply st hF); (first | exact d_move | exact d_assign | exact d_cmpT | exact d_len (und _ _ rfl) | exact d_indexAddr1 (und _ _ rfl) (isz _ _ rfl) | exact hmx _ _ _ _ _ _ _ rfl rfl | exact hmn _ _ _ _ _ _ _ rfl rfl | exact d_mul (h := by omega) | exact d_load (und _ _ rfl) hc); clear hF; clear a; intro a hF) | (apply c_cond_t hF; exact rfl; first | exact rfl | assumption))
        have hwe2 : Pl.whereE start size mot n = 16 := by unfold Pl.whereE; rw [hr]; exact if_neg (fun h => hge (h _ (List.getElem_mem hlt)))
        exact ret1 hF rfl rfl ⟨by rw [hwe2], hB2⟩
    · repeat (first | refine c_seq ?_ | refine c_region _ ?_ | refine wpList_nil ?_ | refine c_then ?_ | refine c_then_exit ?_ | refine c_in_hit ?_ | refine wp_exit ?_ | refine wp_ret ?_ | ((apply st hF); (first | exact d_move | exact d_assign | exact d_cmpF | exact d_len (und _ _ rfl)); clear hF; clear a; intro a hF) | (apply c_cond_f hF; exact rfl; first | exact rfl | assumption))
      have hwe2 : Pl.whereE start size mot n = 0 := by
        unfold Pl.whereE; rw [hr]
        refine if_pos (fun x hx => ?_)
        obtain ⟨j, hj, rfl⟩ := List.getElem_of_mem hx
        exact hpre j hj (by omega)
      exact ret1 hF rfl rfl ⟨by rw [hwe2], hB2⟩
end Go.Proofs.YtjomihhpglojpaaGreatDoor
end
section
/- Where the units of a text stand: plain laws. -/
namespace Go.Proofs.YtjomihhpglojpaaGreatDoor
open Go.RowKit

/-- Where the units of a text stand: the byte, the line, the column. -/
def uStep (s : ByteArray) (t : Nat × Int × Int) : Nat × Int × Int :=
  if (Utf8.decode s t.1).1 = 10 then (t.1 + (Utf8.decode s t.1).2, t.2.1 + 1, 1) else (t.1 + (Utf8.decode s t.1).2, t.2.1, t.2.2 + 1)
def uSt (s : ByteArray) : Nat → Nat × Int × Int
  | 0 => (0, 1, 1)
  | k + 1 => uStep s (uSt s k)
theorem uSt_lt (s : ByteArray) (k : Nat) (h : (uSt s k).1 < s.size) : (uSt s k).1 < (uSt s (k + 1)).1 := by
  have := width_pos s _ h
  show _ < (uStep s (uSt s k)).1
  unfold uStep
  split <;> (simp only; omega)
theorem uSt_fst (s : ByteArray) (k : Nat) : (uSt s (k + 1)).1 = (uSt s k).1 + (Utf8.decode s (uSt s k).1).2 := by
  show (uStep s (uSt s k)).1 = _
  unfold uStep
  split <;> rfl
theorem uSt_bnd (s : ByteArray) : ∀ k, (∀ j, j < k → (uSt s j).1 < s.size) → 1 ≤ (uSt s k).2.1 ∧ (uSt s k).2.1 ≤ (uSt s k).1 + 1 ∧ 1 ≤ (uSt s k).2.2 ∧ (uSt s k).2.2 ≤ (uSt s k).1 + 1
  | 0, _ => ⟨Int.le_refl _, Int.le_refl _, Int.le_refl _, Int.le_refl _⟩
  | k + 1, h => by
    obtain ⟨h1, h2, h3, h4⟩ := uSt_bnd s k (fun j hj => h j (by omega))
    have := width_pos s _ (h k (by omega))
    show 1 ≤ (uStep s (uSt s k)).2.1 ∧ (uStep s (uSt s k)).2.1 ≤ (uStep s (uSt s k)).1 + 1 ∧ 1 ≤ (uStep s (uSt s k)).2.2 ∧ (uStep s (uSt s k)).2.2 ≤ (uStep s (uSt s k)).1 + 1
    unfold uStep
    split <;> (simp only; omega)
/-- The rune of unit k. -/
def uR (s : ByteArray) (k : Nat) : Int := (Utf8.decode s (uSt s k).1).1
def placeV (s : ByteArray) (k : Nat) : Value := .agg #[.int .i64 (uSt s k).2.1, .int .i64 (uSt s k).2.2]

end Go.Proofs.YtjomihhpglojpaaGreatDoor
end
section
/- The reference's units of a text. -/
namespace Go.Proofs.YtjomihhpglojpaaGreatDoor
open Go.RowKit
set_option linter.unusedSimpArgs false
set_option linter.unusedVariables false
attribute [local irreducible] wpList wpQuiet wpStill Code.wp Exit.then Exit.inBlock bodyPost Calls Does Does0

/-- A unit as the reference has it. -/
structure Un where
  line : Int
  col : Int
  r : Int
  wide : Int
  ill : Bool
def Un.cells (u : Un) : List Value := [.int .i64 u.line, .int .i64 u.col, .int .i32 u.r, .int .i64 u.wide, .bool u.ill]
theorem unc_len (u : Un) : (Un.cells u).length = 5 := rfl
theorem un_cells (u : Un) : ∀ v ∈ (Un.cells u).toArray, v.oneCell' = true := by
  intro v hv
  simp [Un.cells] at hv
  rcases hv with rfl | rfl | rfl | rfl | rfl <;> rfl
/-- Is the rune read at p the sign for bytes that are none? -/
def illB (s : ByteArray) (p : Nat) : Bool :=
  (((Utf8.decode s p).1 : Int) == 65533) && (decide (s.size ≤ p + 2) || ((s.get! p).toNat != 239) || ((s.get! (p + 1)).toNat != 191) || ((s.get! (p + 2)).toNat != 189))
def UnOk (s : ByteArray) (i : Nat) (u : Un) : Prop := u.line = (uSt s i).2.1 ∧ u.col = (uSt s i).2.2 ∧ u.r = uR s i ∧ u.ill = illB s (uSt s i).1
theorem uSt_ge (s : ByteArray) : ∀ k, (∀ j, j < k → (uSt s j).1 < s.size) → k ≤ (uSt s k).1
  | 0, _ => Nat.zero_le _
  | k + 1, h => by
    have h1 := uSt_ge s k (fun j hj => h j (by omega))
    have h2 := uSt_lt s k (h k (by omega))
    omega
theorem get_at {s : ByteArray} {j : Nat} (h : j < s.size) : s[j]? = some (s.get! j) := by
  have e : s.get! j = s[j] := by
    cases s with
    | mk d =>
      have h' : j < d.size := h
      show d[j]! = d[j]
      simp [h']
  rw [e]; simp [h]

theorem own_neI {w : World} {base : Nat} {e : TypeId} {sz : Nat} {v : Value} {n : Nat} {xs : List Value} (h : w.ownsRow base e sz v n xs) {r : Nat} {o : Obj} (ho : w.heap[r]? = some o) (hc : ∀ c t f, o ≠ .cells c t f) {b : Nat} (hb : v.ownBlock = some b) : (some r : Option Nat) ≠ some b := by
  intro e0
  have e1 : r = b := Option.some.inj e0
  subst e1
  rcases h.2 with ⟨rfl, _⟩ | ⟨g, cap, cur, rfl, _, h1, _⟩
  · cases hb
  · simp only [Value.ownBlock, Option.some.injEq] at hb
    subst hb
    rw [ho] at h1
    exact hc _ _ _ (Option.some.inj h1)

end Go.Proofs.YtjomihhpglojpaaGreatDoor
end
section
/- How wide a rune is that was read, and when a source is bad: plain laws. -/
namespace Go.Proofs.YtjomihhpglojpaaGreatDoor
open Go.RowKit

def rl (r : Int) : Int := if r < 0 then -1 else if r ≤ 127 then 1 else if r ≤ 2047 then 2 else if 55296 ≤ r ∧ r ≤ 57343 then -1 else if r ≤ 65535 then 3 else if r ≤ 1114111 then 4 else -1
def dec4 (b0 b1 b2 b3 : Nat) (c1 c2 c3 : Bool) : Nat × Nat :=
  if b0 < 0x80 then (b0, 1)
  else if b0 / 32 == 6 && c1 then
    let c := (b0 % 32) * 64 + b1 % 64
    if c ≥ 0x80 then (c, 2) else (65533, 1)
  else if b0 / 16 == 14 && c1 && c2 then
    let c := (b0 % 16) * 4096 + (b1 % 64) * 64 + b2 % 64
    if c ≥ 0x800 && Utf8.valid c then (c, 3) else (65533, 1)
  else if b0 / 8 == 30 && c1 && c2 && c3 then
    let c := (b0 % 8) * 262144 + (b1 % 64) * 4096 + (b2 % 64) * 64 + b3 % 64
    if c ≥ 0x10000 && Utf8.valid c then (c, 4) else (65533, 1)
  else (65533, 1)
def cnt (s : ByteArray) (i k : Nat) : Bool := i + k < s.size && (s.get! (i + k)).toNat / 64 == 2
theorem decode_4 (s : ByteArray) (i : Nat) : Utf8.decode s i = dec4 (s.get! (i + 0)).toNat (s.get! (i + 1)).toNat (s.get! (i + 2)).toNat (s.get! (i + 3)).toNat (cnt s i 1) (cnt s i 2) (cnt s i 3) := rfl
set_option maxHeartbeats 4000000 in
theorem rl_dec4 (b0 b1 b2 b3 : Nat) (c1 c2 c3 : Bool) (h : (dec4 b0 b1 b2 b3 c1 c2 c3).1 ≠ 65533) : rl ((dec4 b0 b1 b2 b3 c1 c2 c3).1 : Nat) = ((dec4 b0 b1 b2 b3 c1 c2 c3).2 : Nat) := by
  revert h
  unfold dec4
  simp only
  split
  · intro h; simp only [rl]; repeat' split
    all_goals omega
  split
  · split
    · intro h; simp only [rl]; repeat' split
      all_goals omega
    · intro h; exact absurd rfl h
  split
  · split
    · rename_i hv
      intro h
      simp only [ge_iff_le, Utf8.valid, Bool.and_eq_true, Bool.or_eq_true, decide_eq_true_eq] at hv
      simp only [rl]; repeat' split
      all_goals omega
    · intro h; exact absurd rfl h
  split
  · split
    · rename_i hv
      intro h
      simp only [ge_iff_le, Utf8.valid, Bool.and_eq_true, Bool.or_eq_true, decide_eq_true_eq] at hv
      simp only [rl]; repeat' split
      all_goals omega
    · intro h; exact absurd rfl h
  · intro h; exact absurd rfl h
theorem rl_decode (s : ByteArray) (i : Nat) (h : (Utf8.decode s i).1 ≠ 65533) : rl ((Utf8.decode s i).1 : Nat) = ((Utf8.decode s i).2 : Nat) := by
  rw [decode_4] at h ⊢
  exact rl_dec4 _ _ _ _ _ _ _ h
set_option maxHeartbeats 4000000 in
theorem ill_dec4 (n i b0 b1 b2 b3 : Nat) (c1 c2 c3 : Bool) (h1 : c1 = (decide (i + 1 < n) && b1 / 64 == 2)) (h2 : c2 = (decide (i + 2 < n) && b2 / 64 == 2)) (h : (dec4 b0 b1 b2 b3 c1 c2 c3).1 = 65533) :
    (dec4 b0 b1 b2 b3 c1 c2 c3).2 = if i + 2 < n ∧ b0 = 239 ∧ b1 = 191 ∧ b2 = 189 then 3 else 1 := by
  subst h1 h2
  revert h
  unfold dec4
  simp only [Bool.and_eq_true, decide_eq_true_eq, beq_iff_eq]
  split
  · intro h; simp only at h; rw [if_neg (by omega)]
  split
  · split
    · intro h; simp only at h; omega
    · intro h; rw [if_neg (by omega)]
  split
  · rename_i hc
    split
    · intro h; simp only at h; rw [if_pos (by omega)]
    · rename_i hv
      intro h
      rw [if_neg]
      rintro ⟨h1, rfl, rfl, rfl⟩
      exact hv (by decide)
  split
  · split
    · intro h; simp only at h; omega
    · intro h; rw [if_neg (by omega)]
  · rename_i h1 h2 h3 h4
    intro h
    rw [if_neg]
    rintro ⟨h5, rfl, rfl, rfl⟩
    exact h3 ⟨⟨by decide, by omega, by decide⟩, by omega, by decide⟩
theorem ill_w (s : ByteArray) (i : Nat) (h : (Utf8.decode s i).1 = 65533) : (Utf8.decode s i).2 = if i + 2 < s.size ∧ (s.get! i).toNat = 239 ∧ (s.get! (i + 1)).toNat = 191 ∧ (s.get! (i + 2)).toNat = 189 then 3 else 1 := by
  rw [decode_4] at h ⊢
  exact ill_dec4 s.size i _ _ _ _ _ _ _ rfl rfl h
def ctl (r : Int) : Bool := decide (r < 32 ∨ r = 127)
def blk (r : Int) : Bool := decide (r = 32 ∨ r = 9 ∨ r = 10 ∨ r = 13)
/-- Is unit k bad? -/
def badB (s : ByteArray) (k : Nat) : Bool := illB s (uSt s k).1 || (ctl (uR s k) && !blk (uR s k))
/-- The first bad unit, if one is. -/
def Out (s : ByteArray) : Option Nat → Prop
  | none => ∃ K, (∀ j, j < K → (uSt s j).1 < s.size ∧ badB s j = false) ∧ ¬ (uSt s K).1 < s.size
  | some k => (∀ j, j < k → (uSt s j).1 < s.size ∧ badB s j = false) ∧ (uSt s k).1 < s.size ∧ badB s k = true
theorem uMono (s : ByteArray) (i : Nat) : ∀ d, (uSt s i).1 ≤ (uSt s (i + d)).1
  | 0 => Nat.le_refl _
  | d + 1 => Nat.le_trans (uMono s i d) (by rw [← Nat.add_assoc, uSt_fst]; omega)
theorem uEnd {s : ByteArray} {K k : Nat} (hK : ¬ (uSt s K).1 < s.size) (hk : (uSt s k).1 < s.size) : k < K := by
  rcases Nat.lt_or_ge k K with h | h
  · exact h
  · have := uMono s K (k - K)
    rw [Nat.add_sub_cancel' h] at this
    omega
theorem out_one {s : ByteArray} : ∀ {a b : Option Nat}, Out s a → Out s b → a = b
  | none, none, _, _ => rfl
  | none, some k, ⟨K, h1, h2⟩, ⟨_, h4, h5⟩ => by have := (h1 k (uEnd h2 h4)).2; rw [this] at h5; cases h5
  | some k, none, ⟨_, h4, h5⟩, ⟨K, h1, h2⟩ => by have := (h1 k (uEnd h2 h4)).2; rw [this] at h5; cases h5
  | some j, some k, ⟨h1, h2, h3⟩, ⟨h4, h5, h6⟩ => by
    rcases Nat.lt_trichotomy j k with h | h | h
    · have := (h4 j h).2; rw [this] at h3; cases h3
    · rw [h]
    · have := (h1 k h).2; rw [this] at h6; cases h6
/-- Does the text from i begin so? -/
theorem extract_get (s : ByteArray) (i j : Nat) (hj : j ≤ s.size) (k : Nat) (hk : i + k < j) : (s.extract i j).get! k = s.get! (i + k) := by
  have h1 : k < (s.extract i j).size := by simp [ByteArray.size_extract]; omega
  have e1 := get_at h1
  have e2 := get_at (s := s) (j := i + k) (by omega)
  have e3 : (s.extract i j)[k] = s[i + k]'(by omega) := by simp [ByteArray.getElem_extract]
  have e4 : (s.extract i j)[k]? = some (s.extract i j)[k] := by simp [h1]
  have e5 : s[i + k]? = some (s[i + k]'(by omega)) := by simp [show i + k < s.size by omega]
  rw [e4] at e1; rw [e5] at e2
  have f1 := Option.some.inj e1
  have f2 := Option.some.inj e2
  rw [← f1, ← f2, e3]
theorem pre3g (s : ByteArray) (i : Nat) (b0 b1 b2 : UInt8) (h : i + 2 < s.size) : ((s.extract i s.size).extract 0 3 = ⟨#[b0, b1, b2]⟩) ↔ (s.get! i = b0 ∧ s.get! (i + 1) = b1 ∧ s.get! (i + 2) = b2) := by
  have hz : (s.extract i s.size).size = s.size - i := by simp [ByteArray.size_extract]
  have hz3 : ((s.extract i s.size).extract 0 3).size = 3 := by simp [ByteArray.size_extract]; omega
  have g : ∀ k, k < 3 → ((s.extract i s.size).extract 0 3).get! k = s.get! (i + k) := fun k hk => by
    rw [extract_get _ 0 3 (by omega) k (by omega), Nat.zero_add, extract_get _ _ _ (Nat.le_refl _) k (by omega)]
  have g0 := g 0 (by decide)
  have g1 := g 1 (by decide)
  have g2 := g 2 (by decide)
  rw [Nat.add_zero] at g0
  constructor
  · intro e
    rw [e] at g0 g1 g2
    exact ⟨g0.symm, g1.symm, g2.symm⟩
  · rintro ⟨h0, h1, h2⟩
    rw [← h0, ← h1, ← h2, ← g0, ← g1, ← g2]
    generalize (s.extract i s.size).extract 0 3 = u at hz3
    rcases u with ⟨d⟩
    have hd : d.size = 3 := hz3
    rcases d with ⟨l⟩
    match l, hd with
    | [x, y, z], _ => rfl
theorem u8eq (b : UInt8) (n : Nat) (c : UInt8) (hc : c.toNat = n) : b = c ↔ b.toNat = n := by
  rw [← hc]; exact UInt8.toNat_inj.symm
theorem pre3 (s : ByteArray) (i : Nat) (h : i + 2 < s.size) : ((s.extract i s.size).extract 0 3 = ⟨#[239, 191, 189]⟩) ↔ ((s.get! i).toNat = 239 ∧ (s.get! (i + 1)).toNat = 191 ∧ (s.get! (i + 2)).toNat = 189) := by
  rw [pre3g s i 239 191 189 h, u8eq _ 239 239 (by decide), u8eq _ 191 191 (by decide), u8eq _ 189 189 (by decide)]
/-- The text from i begins with the sign for bytes that are none, spelt out. -/
def fffd (s : ByteArray) (i : Nat) : Bool := decide (3 ≤ (s.extract i s.size).size) && decide ((s.extract i s.size).extract 0 3 = ⟨#[239, 191, 189]⟩)
theorem fffd_iff (s : ByteArray) (i : Nat) : fffd s i = true ↔ (i + 2 < s.size ∧ (s.get! i).toNat = 239 ∧ (s.get! (i + 1)).toNat = 191 ∧ (s.get! (i + 2)).toNat = 189) := by
  have hz : (s.extract i s.size).size = s.size - i := by simp [ByteArray.size_extract]
  unfold fffd
  rw [Bool.and_eq_true, decide_eq_true_eq, decide_eq_true_eq, hz]
  constructor
  · rintro ⟨h1, h2⟩
    have h : i + 2 < s.size := by omega
    exact ⟨h, (pre3 s i h).1 h2⟩
  · rintro ⟨h1, h2⟩
    exact ⟨by omega, (pre3 s i h1).2 h2⟩
theorem wide_ill {s : ByteArray} {i : Nat} (h : (Utf8.decode s i).1 = 65533) : (Utf8.decode s i).2 = (if fffd s i = true then 3 else 1) ∧ illB s i = !fffd s i := by
  constructor
  · rw [ill_w s i h]
    simp only [fffd_iff]
  · rw [Bool.eq_iff_iff, Bool.not_eq_true', ← Bool.not_eq_true, fffd_iff]
    unfold illB
    rw [h]
    simp only [Bool.and_eq_true, Bool.or_eq_true, decide_eq_true_eq, bne_iff_ne, ne_eq, beq_iff_eq]
    omega
theorem ill_no {s : ByteArray} {i : Nat} (h : (Utf8.decode s i).1 ≠ 65533) : illB s i = false := by
  unfold illB
  have : ((((Utf8.decode s i).1 : Nat) : Int) == 65533) = false := beq_eq_false_iff_ne.2 (by omega)
  rw [this]; rfl
section
variable {P : Program} {w : World} {l : List (Nat × Value)}
theorem d_sliceSH {x hi : Operand} {s : ByteArray} {j : Nat} {k : IntKind} {q : Int} {t ty : TypeId} (hU : P.underlying t = some .string)
    (hx : Ev l x (.string s) := by exact rfl) (hh : Ev l hi (.int k q) := by exact rfl) (hq : q = (j : Int) := by exact rfl) (hj : j ≤ s.size := by omega) :
    Does P l w (.slice t x none (some hi) none) ty (.string (s.extract 0 j)) w := by
  intro ρ hρ d pos af g
  subst hq
  simp [execOp, Instr.sliceAt, Instr.slice, Instr.sliceBounds, run_sliceBound hj, hρ _ _ hx, hρ _ _ hh, run_underlying hU]
end
end Go.Proofs.YtjomihhpglojpaaGreatDoor
end
