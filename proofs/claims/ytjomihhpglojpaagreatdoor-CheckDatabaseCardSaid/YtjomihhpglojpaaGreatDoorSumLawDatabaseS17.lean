/- Laid together by a program of mine: ListW AloneS HeadW FitsW. -/
import Derived.Test.YtjomihhpglojpaaGreatDoorSumLawDatabaseS16
import Derived.Test.YtjomihhpglojpaaGreatDoorSumLawDatabaseS2
import Derived.Test.YtjomihhpglojpaaGreatDoorSumLawDatabaseS14
import Derived.Test.YtjomihhpglojpaaGreatDoorSumLawDatabaseS15
import Derived.Test.YtjomihhpglojpaaGreatDoorSumLawDatabaseS11
import Derived.Test.YtjomihhpglojpaaGreatDoorSumLawDatabaseS6
import Derived.Test.YtjomihhpglojpaaGreatDoorSumLawDatabaseS7
import Derived.Test.YtjomihhpglojpaaGreatDoorSumLawDatabaseS4
import Derived.Test.YtjomihhpglojpaaGreatDoorSumLawDatabaseS3
import Derived.Test.YtjomihhpglojpaaGreatDoorSumLawDatabaseS5
set_option linter.unusedSimpArgs false
set_option linter.unusedVariables false
section
/- check.list and the reference's names: walked. -/
namespace Go.Proofs.YtjomihhpglojpaaGreatDoor
open Go.RowKit
/-- Words that must be there once: 11, 12, or 0. -/
def listGo : List ByteArray → List ByteArray → Int
  | _, [] => 0
  | seen, s :: r => if wordB s = false then 11 else if seen.any (fun k => decide (s = k)) = true then 12 else listGo (s :: seen) r
def namesE (xs : List ByteArray) : Int := if xs.length = 0 then 2 else if 64 < xs.length then 5 else listGo [] xs
theorem listGo_at {xs : List ByteArray} {k : Nat} (h : k < xs.length) : listGo (xs.take k).reverse (xs.drop k) = if wordB xs[k] = false then 11 else if (xs.take k).reverse.any (fun x => decide (xs[k] = x)) = true then 12 else listGo (xs.take (k + 1)).reverse (xs.drop (k + 1)) := by
  rw [List.drop_eq_getElem_cons h, List.take_succ_eq_append_getElem h]
  simp only [listGo, List.reverse_append, List.reverse_cons, List.reverse_nil, List.nil_append, List.singleton_append]
theorem any_take {xs : List ByteArray} {k : Nat} (h : k < xs.length) : (xs.take k).reverse.any (fun x => decide (xs[k] = x)) = true ↔ ∃ j, ∃ hj : j < xs.length, j < k ∧ xs[j] = xs[k] := by
  rw [List.any_reverse, List.any_eq_true]
  constructor
  · rintro ⟨x, hx, e⟩
    obtain ⟨j, hj, rfl⟩ := List.getElem_of_mem hx
    have hj2 : j < k := by simp at hj; omega
    exact ⟨j, by omega, hj2, by rw [List.getElem_take] at e; exact (of_decide_eq_true e).symm⟩
  · rintro ⟨j, hj, hjk, e⟩
    exact ⟨xs[j], List.mem_take_iff_getElem.2 ⟨j, by omega, rfl⟩, decide_eq_true e.symm⟩
theorem wordB_size {s : ByteArray} (h : wordB s = true) : s.size ≤ 64 := by
  unfold wordB Pl.name at h
  rw [Bool.and_eq_true] at h
  exact (of_decide_eq_true h.2).2.1
open Go.RowKit
set_option linter.unusedSimpArgs false
set_option linter.unusedVariables false
attribute [local irreducible] wpList wpQuiet wpStill Code.wp Exit.then Exit.inBlock bodyPost Calls Does Does0
set_option maxRecDepth 100000
set_option maxHeartbeats 4000000 in
theorem list_ok (w : World) (xs : List ByteArray) (ao : Option Addr) (n c : Nat) (most : Int) (hn : xs.length = n) (hR : Rd w ao Value.string xs) (hm : most ≤ 1000000) :
    Ret Tryz.prog 33 [.slice ao n c, .int .i64 most].toArray w (fun v w' => v = .int .i64 (if most < (n : Int) then 5 else listGo [] xs) ∧ Below w.heap.size w w') := by
  subst hn
  refine enter2 Tryz.func33 rfl 30 rfl 32 rfl (fun a hF => ?_)
  by_cases hbig : most < (xs.length : Int)
  · repeat (first | refine c_seq ?_ | refine c_region _ ?_ | refine wpList_nil ?_ | refine c_then ?_ | refine c_then_ret ?_ | refine wp_ret ?_ | ((apply st hF); (first | exact d_move | exact d_assign | exact d_cmpT | exact d_len (und _ _ rfl)); clear hF; clear a; intro a hF) | (apply c_cond_t hF; exact rfl; first | exact rfl | assumption))
    exact ret1 hF rfl rfl ⟨by rw [if_pos hbig], Below.refl _ w⟩
  rw [if_neg hbig]
  repeat (first | refine c_seq ?_ | refine c_region _ ?_ | refine wpList_nil ?_ | refine c_then ?_ | refine wp_skip ?_ | ((apply st hF); (first | exact d_move | exact d_assign | exact d_cmpF | exact d_len (und _ _ rfl)); clear hF; clear a; intro a hF) | (apply c_cond_f hF; exact rfl; first | exact rfl | assumption))
  refine st hF (d_makeMapR Tryz.underlying57) rfl (fun a hF => ?_)
  repeat (first | refine c_seq ?_ | refine c_block ?_ | refine c_region _ ?_ | refine wpList_nil ?_ | refine c_then ?_ | ((apply st hF); (first | exact d_move | exact d_assign | exact d_len (und _ _ rfl)); clear hF; clear a; intro a hF))
  have hb0 : Below w.heap.size w (w.alloc (.map #[] 0)) := (Below.refl _ w).grown (World.grownBy_alloc w _ none) (Nat.le_refl _) (fun k hk => by cases hk)
  refine c_loop (fun q a wr => ∃ k : Nat, k ≤ xs.length ∧ q = xs.length - k ∧ listGo (xs.take k).reverse (xs.drop k) = listGo [] xs ∧ Fr 32 [(5, .map (some w.heap.size)), (15, .slice ao xs.length c), (16, .int .i64 (xs.length : Int)), (17, .int .i64 (k : Int))] a ∧ SetM Tryz.prog 9 4 wr w.heap.size (xs.take k).reverse ∧ Below w.heap.size w wr) xs.length
    ⟨0, Nat.zero_le _, rfl, rfl, hF.keep' ⟨rfl, rfl, rfl, rfl, trivial⟩, SetM.new w, hb0⟩ ?_
  clear hF a
  rintro q a wr ⟨k, hk, rfl, hE, hF, hM, hbel⟩
  have hsz := hbel.size
  by_cases hlt : k < xs.length
  · have hE2 := listGo_at hlt
    rw [hE] at hE2
    obtain ⟨b, o, rfl, hc⟩ := hR k hlt
    replace hc : wr.cell? ⟨b, o + k, none⟩ = some (.string xs[k]) := (hbel.cell (p := ⟨b, o + k, none⟩) (World.block_lt_of_cell? w _ hc)).trans hc
    repeat (first | refine c_seq ?_ | refine c_block ?_ | refine c_region _ ?_ | refine wpList_nil ?_ | refine c_then ?_ | refine wp_skip ?_ | ((apply st hF); (first | exact d_move | exact d_assign | exact d_cmpT | exact d_indexAddr1 (und _ _ rfl) (isz _ _ rfl) | exact d_load (und _ _ rfl) hc); clear hF; clear a; intro a hF) | (apply c_cond_t hF; exact rfl; first | exact rfl | assumption))
    refine stc hF (word_ok' wr xs[k]) cal34 ⟨rfl, trivial⟩ (k := fun a v w2 hR2 hF => ?_)
    obtain ⟨rfl, hb2⟩ := hR2
    have hM2 := hM.below hb2
    have hB2 : Below w.heap.size w w2 := hbel.trans (hb2.mono hsz)
    cases hw : wordB xs[k] with
    | false =>
      rw [hw] at hF
      repeat (first | refine c_seq ?_ | refine c_region _ ?_ | refine wpList_nil ?_ | refine c_then ?_ | refine c_then_ret ?_ | refine c_in_ret ?_ | refine wp_ret ?_ | ((apply st hF); (first | exact d_assign | exact d_not); clear hF; clear a; intro a hF) | (apply c_cond_t hF; exact rfl; first | exact rfl | assumption))
      exact ret1 hF rfl rfl ⟨by rw [hE2, if_pos hw], hB2⟩
    | true =>
      rw [hw] at hF
      have hs64 := wordB_size hw
      have hl := hM2.look Tryz.underlying57 Tryz.underlying9 Tryz.underlying4 (Tryz.zeroValue4 w2) xs[k] (by unfold maxLen; omega)
      cases hany : (xs.take k).reverse.any (fun x => decide (xs[k] = x)) with
      | true =>
        rw [hany] at hl
        repeat (first | refine c_seq ?_ | refine c_region _ ?_ | refine wpList_nil ?_ | refine c_then ?_ | refine c_then_ret ?_ | refine c_in_ret ?_ | refine wp_ret ?_ | ((apply st hF); (first | exact d_move | exact d_assign | exact d_not | exact d_lookup hl); clear hF; clear a; intro a hF) | (apply c_cond_t hF; exact rfl; first | exact rfl | assumption) | (apply c_cond_f hF; exact rfl; first | exact rfl | assumption))
        exact ret1 hF rfl rfl ⟨by rw [hE2, if_neg (by rw [hw]; simp), if_pos hany], hB2⟩
      | false =>
        rw [hany] at hl
        repeat (first | refine c_seq ?_ | refine c_region _ ?_ | refine wpList_nil ?_ | refine c_then ?_ | refine c_in ?_ | refine wp_skip ?_ | ((apply st hF); (first | exact d_move | exact d_assign | exact d_not | exact d_lookup hl); clear hF; clear a; intro a hF) | (apply c_cond_f hF; exact rfl; first | exact rfl | assumption))
        obtain ⟨w3, hr3, hM3, hgr3, hsz3⟩ := hM2.put Tryz.underlying57 Tryz.underlying9 Tryz.underlying4 xs[k] (by unfold maxLen; omega) (by simp; unfold maxLen; omega)
        refine st0 hF (d_mapUpdate hr3) rfl (fun a hF => ?_)
        repeat (first | refine c_region _ ?_ | refine wpList_nil ?_ | refine c_then ?_ | refine c_in ?_ | ((apply st hF); (first | exact d_move | exact d_add); clear hF; clear a; intro a hF))
        refine ⟨xs.length - (k + 1), by omega, k + 1, by omega, rfl, by rw [hE2, if_neg (by rw [hw]; simp), if_neg (by rw [hany]; simp)], hF.keep' ⟨rfl, rfl, rfl, rfl, trivial⟩, ?_, hB2.grown hgr3 hB2.size (fun q e => by cases e; exact Nat.le_refl _)⟩
        rw [List.take_succ_eq_append_getElem hlt, List.reverse_append]
        exact hM3
  · obtain rfl : k = xs.length := by omega
    repeat (first | refine c_seq ?_ | refine c_region _ ?_ | refine wpList_nil ?_ | refine c_then ?_ | refine c_then_exit ?_ | refine c_in_hit ?_ | refine wp_exit ?_ | refine wp_ret ?_ | ((apply st hF); (first | exact d_assign | exact d_cmpF); clear hF; clear a; intro a hF) | (apply c_cond_f hF; exact rfl; first | exact rfl | assumption))
    exact ret1 hF rfl rfl ⟨by rw [← hE, List.drop_length]; rfl, hbel⟩
set_option maxHeartbeats 4000000 in
theorem rnames_ok (w : World) (xs : List ByteArray) (ao : Option Addr) (n c : Nat) (hn : xs.length = n) (hR : Rd w ao Value.string xs) (hbn : n ≤ 4611686018427387904) :
    Ret Tryz.prog 55 [.slice ao n c].toArray w (fun v w' => v = .int .i64 (namesE xs) ∧ Below w.heap.size w w') := by
  subst hn
  refine enter1 Tryz.func55 rfl 36 rfl 37 rfl (fun a hF => ?_)
  unfold namesE
  by_cases h0 : xs.length = 0
  · rw [if_pos h0]
    repeat (first | refine c_seq ?_ | refine c_region _ ?_ | refine wpList_nil ?_ | refine c_then ?_ | refine c_then_ret ?_ | refine wp_ret ?_ | ((apply st hF); (first | exact d_move | exact d_assign | exact d_cmpT | exact d_len (und _ _ rfl)); clear hF; clear a; intro a hF) | (apply c_cond_t hF; exact rfl; first | exact rfl | assumption))
    exact ret1 hF rfl rfl ⟨rfl, Below.refl _ w⟩
  rw [if_neg h0]
  by_cases h64 : 64 < xs.length
  · rw [if_pos h64]
    repeat (first | refine c_seq ?_ | refine c_region _ ?_ | refine wpList_nil ?_ | refine c_then ?_ | refine c_then_ret ?_ | refine wp_skip ?_ | refine wp_ret ?_ | ((apply st hF); (first | exact d_move | exact d_assign | exact d_cmpT | exact d_cmpF | exact d_len (und _ _ rfl)); clear hF; clear a; intro a hF) | (apply c_cond_t hF; exact rfl; first | exact rfl | assumption) | (apply c_cond_f hF; exact rfl; first | exact rfl | assumption))
    exact ret1 hF rfl rfl ⟨rfl, Below.refl _ w⟩
  rw [if_neg h64]
  repeat (first | refine c_seq ?_ | refine c_block ?_ | refine c_region _ ?_ | refine wpList_nil ?_ | refine c_then ?_ | refine wp_skip ?_ | ((apply st hF); (first | exact d_move | exact d_assign | exact d_cmpF | exact d_len (und _ _ rfl)); clear hF; clear a; intro a hF) | (apply c_cond_f hF; exact rfl; first | exact rfl | assumption))
  refine c_loop (fun q a wr => ∃ k : Nat, k ≤ xs.length ∧ q = xs.length - k ∧ listGo (xs.take k).reverse (xs.drop k) = listGo [] xs ∧ Fr 37 [(0, .slice ao xs.length c), (3, .int .i64 (k : Int))] a ∧ Below w.heap.size w wr) xs.length
    ⟨0, Nat.zero_le _, rfl, rfl, hF.keep' ⟨rfl, rfl, trivial⟩, Below.refl _ w⟩ ?_
  clear hF a
  rintro q a wr ⟨k, hk, rfl, hE, hF, hbel⟩
  have hsz := hbel.size
  by_cases hlt : k < xs.length
  · have hE2 := listGo_at hlt
    rw [hE] at hE2
    obtain ⟨b, o, hao, hc⟩ := hR k hlt
    replace hc : wr.cell? ⟨b, o + k, none⟩ = some (.string xs[k]) := (hbel.cell (p := ⟨b, o + k, none⟩) (World.block_lt_of_cell? w _ hc)).trans hc
    rw [hao] at hF
    repeat (first | refine c_seq ?_ | refine c_block ?_ | refine c_region _ ?_ | refine wpList_nil ?_ | refine c_then ?_ | refine wp_skip ?_ | ((apply st hF); (first | exact d_move | exact d_cmpT | exact d_len (und _ _ rfl) | exact d_indexAddr1 (und _ _ rfl) (isz _ _ rfl) | exact d_load (und _ _ rfl) hc); clear hF; clear a; intro a hF) | (apply c_cond_t hF; exact rfl; first | exact rfl | assumption))
    refine stc hF (rword_ok' wr xs[k]) cal51 ⟨rfl, trivial⟩ (k := fun a v w2 hR2 hF => ?_)
    obtain ⟨rfl, hb2⟩ := hR2
    have hB2 : Below w.heap.size w w2 := hbel.trans (hb2.mono hsz)
    cases hw : wordB xs[k] with
    | false =>
      rw [hw] at hF
      repeat (first | refine c_seq ?_ | refine c_region _ ?_ | refine wpList_nil ?_ | refine c_then ?_ | refine c_then_ret ?_ | refine c_in_ret ?_ | refine wp_ret ?_ | ((apply st hF); (first | exact d_assign | exact d_not); clear hF; clear a; intro a hF) | (apply c_cond_t hF; exact rfl; first | exact rfl | assumption))
      exact ret1 hF rfl rfl ⟨by rw [hE2, if_pos hw], hB2⟩
    | true =>
      rw [hw] at hF
      rw [if_neg (by rw [hw]; simp)] at hE2
      repeat (first | refine c_seq ?_ | refine c_block ?_ | refine c_region _ ?_ | refine wpList_nil ?_ | refine c_then ?_ | refine wp_skip ?_ | ((apply st hF); (first | exact d_assign | exact d_not); clear hF; clear a; intro a hF) | (apply c_cond_f hF; exact rfl; first | exact rfl | assumption))
      refine c_loop (fun q a wr => ∃ j : Nat, j ≤ k ∧ q = k - j ∧ (∀ i (hi : i < xs.length), i < j → xs[i] ≠ xs[k]) ∧ Fr 37 [(0, .slice (some ⟨b, o, none⟩) xs.length c), (3, .int .i64 (k : Int)), (4, .int .i64 (j : Int))] a ∧ Below w.heap.size w wr) k
        ⟨0, Nat.zero_le _, rfl, fun i hi h => absurd h (Nat.not_lt_zero _), hF.keep' ⟨rfl, rfl, rfl, trivial⟩, hB2⟩ ?_
      clear hF a hB2 hb2
      rintro q a wq ⟨j, hj, rfl, hno, hF, hbel2⟩
      by_cases hjk : j < k
      · obtain ⟨b', o', hao', hcj⟩ := hR j (by omega)
        rw [hao] at hao'
        cases hao'
        replace hcj : wq.cell? ⟨b, o + j, none⟩ = some (.string (xs[j]'(by omega))) := (hbel2.cell (p := ⟨b, o + j, none⟩) (World.block_lt_of_cell? w _ hcj)).trans hcj
        obtain ⟨_, _, hao2, hck0⟩ := hR k hlt
        rw [hao] at hao2
        cases hao2
        have hck : wq.cell? ⟨b, o + k, none⟩ = some (.string xs[k]) := (hbel2.cell (p := ⟨b, o + k, none⟩) (World.block_lt_of_cell? w _ hck0)).trans hck0
        cases he : decide ((xs[j]'(by omega)) = xs[k]) with
        | true =>
          repeat (first | refine c_seq ?_ | refine c_block ?_ | refine c_region _ ?_ | refine wpList_nil ?_ | refine c_then ?_ | refine c_then_ret ?_ | refine c_in_ret ?_ | refine wp_skip ?_ | refine wp_ret ?_ | (refine q_nil ?_; rintro _ ⟨ndr, rfl⟩) | refine c_region_draw _ mixed (by kernel_rfl) ?_ | ((apply st hF); (first | exact d_move | exact d_assign | exact d_cmpT); clear hF; clear a; intro a hF) | ((apply q_step hF); intro wq hwq; (first | exact d_move | exact d_eqST | exact d_indexAddr1 (und _ _ rfl) (isz _ _ rfl) | exact q_load (und _ _ rfl) hwq (by exact hcj) | exact q_load (und _ _ rfl) hwq (by exact hck)); clear hF; clear a; intro a hF) | (apply c_cond_t hF; exact rfl; first | exact rfl | assumption))
          exact ret1 hF rfl rfl ⟨by rw [hE2, if_pos ((any_take hlt).2 ⟨j, by omega, hjk, of_decide_eq_true he⟩)], below_more hbel2 _⟩
        | false =>
          repeat (first | refine c_seq ?_ | refine c_block ?_ | refine c_region _ ?_ | refine wpList_nil ?_ | refine c_then ?_ | refine c_in ?_ | refine wp_skip ?_ | (refine q_nil ?_; rintro _ ⟨ndr, rfl⟩) | refine c_region_draw _ mixed (by kernel_rfl) ?_ | ((apply st hF); (first | exact d_move | exact d_assign | exact d_add | exact d_cmpT); clear hF; clear a; intro a hF) | ((apply q_step hF); intro wq hwq; (first | exact d_move | exact d_eqSF | exact d_indexAddr1 (und _ _ rfl) (isz _ _ rfl) | exact q_load (und _ _ rfl) hwq (by exact hcj) | exact q_load (und _ _ rfl) hwq (by exact hck)); clear hF; clear a; intro a hF) | (apply c_cond_t hF; exact rfl; first | exact rfl | assumption) | (apply c_cond_f hF; exact rfl; first | exact rfl | assumption))
          exact ⟨k - (j + 1), by omega, j + 1, by omega, rfl, fun i hi h => by
            by_cases e : i = j
            · subst e; exact of_decide_eq_false he
            · exact hno i hi (by omega), hF.keep' ⟨rfl, rfl, rfl, trivial⟩, below_more hbel2 _⟩
      · obtain rfl : j = k := by omega
        have hany : ¬ (xs.take j).reverse.any (fun x => decide (xs[j] = x)) = true := fun h => by
          obtain ⟨i, hi, hik, e⟩ := (any_take hlt).1 h
          exact hno i hi hik e
        rw [if_neg hany] at hE2
        repeat (first | refine c_seq ?_ | refine c_region _ ?_ | refine wpList_nil ?_ | refine c_then ?_ | refine c_then_exit ?_ | refine c_in ?_ | refine c_in_hit ?_ | refine wp_exit ?_ | ((apply st hF); (first | exact d_move | exact d_assign | exact d_add | exact d_cmpF); clear hF; clear a; intro a hF) | (apply c_cond_f hF; exact rfl; first | exact rfl | assumption))
        exact ⟨xs.length - (j + 1), by omega, j + 1, by omega, rfl, hE2.symm, by rw [hao]; exact hF.keep' ⟨rfl, rfl, trivial⟩, hbel2⟩
  · obtain rfl : k = xs.length := by omega
    repeat (first | refine c_seq ?_ | refine c_region _ ?_ | refine wpList_nil ?_ | refine c_then ?_ | refine c_then_exit ?_ | refine c_in_hit ?_ | refine wp_exit ?_ | refine wp_ret ?_ | ((apply st hF); (first | exact d_move | exact d_assign | exact d_cmpF | exact d_len (und _ _ rfl)); clear hF; clear a; intro a hF) | (apply c_cond_f hF; exact rfl; first | exact rfl | assumption))
    exact ret1 hF rfl rfl ⟨by rw [← hE, List.drop_length]; rfl, hbel⟩
end Go.Proofs.YtjomihhpglojpaaGreatDoor
end
section
/- check.alone, walked: what is wrong with a signal by itself. -/
namespace Go.Proofs.YtjomihhpglojpaaGreatDoor
open Go.RowKit
set_option linter.unusedSimpArgs false
set_option linter.unusedVariables false
attribute [local irreducible] wpList wpQuiet wpStill Code.wp Exit.then Exit.inBlock bodyPost Calls Does Does0
set_option maxRecDepth 100000
open Classical in
noncomputable def textE (s : ByteArray) : Int := if 1024 < s.size then 5 else if AllOk s then 0 else 6
theorem text_is {s : ByteArray} {n : Int} (h : MayR s n) : n = textE s := by
  refine may_one h ?_
  unfold MayR textE
  by_cases hb : 1024 < s.size
  · exact .inl ⟨hb, if_pos hb⟩
  · refine .inr ⟨by omega, ?_⟩
    rw [if_neg hb]
    by_cases ha : AllOk s
    · exact .inl ⟨ha, if_pos ha⟩
    · exact .inr ⟨ha, if_neg ha⟩
theorem text_bnd (s : ByteArray) : 0 ≤ textE s ∧ textE s ≤ 26 := by
  unfold textE
  split
  · omega
  · split <;> omega
theorem listGo_bnd : ∀ (xs ys : List ByteArray), 0 ≤ listGo ys xs ∧ listGo ys xs ≤ 26
  | [], ys => by simp [listGo]
  | x :: xs, ys => by
    unfold listGo
    split
    · omega
    · split
      · omega
      · exact listGo_bnd xs (x :: ys)
theorem names_bnd (xs : List ByteArray) : 0 ≤ namesE xs ∧ namesE xs ≤ 26 := by
  unfold namesE
  split
  · omega
  · split
    · omega
    · exact listGo_bnd xs []
theorem where_bnd (start size : Int) (mot : Bool) (n : Int) : 0 ≤ Pl.whereE start size mot n ∧ Pl.whereE start size mot n ≤ 26 := by
  unfold Pl.whereE
  cases h : Pl.bitsOfSig start size mot with
  | ok l => dsimp only; split <;> omega
  | error e => have := Pl.err_15 h; dsimp only; omega
def roleB (s : Sig) : Prop := s.role < 0 ∨ 2 < s.role ∨ (s.branch ≠ 0 ∧ s.role ≠ 2)
instance (s : Sig) : Decidable (roleB s) := by unfold roleB; infer_instance
/-- What is wrong with a signal by itself. -/
noncomputable def aloneE (s : Sig) (ss : List ByteArray) (n : Int) : Int :=
  if wordB s.name = false then 11 else if roleB s then 14
  else if Pl.whereE s.start s.size s.mot n ≠ 0 then Pl.whereE s.start s.size s.mot n
  else if rangedE s ≠ 0 then rangedE s
  else if textE s.unit ≠ 0 then textE s.unit
  else namesE ss
theorem alone_bnd (s : Sig) (ss : List ByteArray) (n : Int) : 0 ≤ aloneE s ss n ∧ aloneE s ss n ≤ 26 := by
  unfold aloneE
  have h1 := where_bnd s.start s.size s.mot n
  have h2 := ranged_bnd s
  have h3 := text_bnd s.unit
  have h4 := names_bnd ss
  repeat' split
  all_goals omega
set_option maxHeartbeats 8000000 in
theorem alone_ok (w : World) (s : Sig) (ss : List ByteArray) (n : Int) (hlen : ss.length = s.toN) (hrd : Rd w s.toA .string ss) (hB : SigB s) (hT : Tabs w) :
    Ret Tryz.prog 18 [.agg (Sig.cells s).toArray, .int .i64 n].toArray w (fun v w' => v = .int .i64 (aloneE s ss n) ∧ Below w.heap.size w w') := by
  refine enter2 Tryz.func18 rfl 58 rfl 60 rfl (fun a hF => ?_)
  unfold aloneE
  repeat (first | refine c_seq ?_ | refine c_region _ ?_)
  refine st_box hF (cs := (Sig.cells s).toArray) rfl (k := fun a w1 hg1 hgr1 hsz1 hF => ?_)
  have hb1 : Below w.heap.size w w1 := (Below.refl _ w).grown hgr1 (Nat.le_refl _) (fun k hk => by cases hk)
  have sc : ∀ (wq : World) (o : Nat) (x : Value), wq.heap[w.heap.size]? = some (.cells (Sig.cells s).toArray 62 (0, 0)) → (Sig.cells s)[o]? = some x → wq.cell? ⟨w.heap.size, 0 + o, none⟩ = some x := fun wq o x hg h => cell_at hg (by simpa using h)
  repeat (first | refine c_seq ?_ | refine c_block ?_ | refine c_region _ ?_ | refine wpList_nil ?_ | refine c_then ?_ | ((apply st hF); (first | exact d_assign | exact d_fieldAddr (fld _ _ _ _ rfl) (isz _ _ rfl) | exact d_load (und _ _ rfl) (sc w1 2 _ hg1 rfl)); clear hF; clear a; intro a hF))
  refine stc hF (word_ok' w1 s.name) cal34 ⟨rfl, trivial⟩ (k := fun a v w2 hR hF => ?_)
  obtain ⟨rfl, hb2⟩ := hR
  have hB2 := hb1.trans (hb2.mono hb1.size)
  have hg2 := (hb2.block _ (lt_at hg1)).trans hg1
  cases hw : wordB s.name with
  | false =>
    rw [hw] at hF
    repeat (first | refine c_seq ?_ | refine c_region _ ?_ | refine wpList_nil ?_ | refine c_then ?_ | refine c_then_ret ?_ | refine c_in_ret ?_ | refine wp_ret ?_ | ((apply st hF); (first | exact d_assign | exact d_not); clear hF; clear a; intro a hF) | (apply c_cond_t hF; exact rfl; first | exact rfl | assumption))
    exact ret1 hF rfl rfl ⟨by rw [if_pos rfl], hB2⟩
  | true =>
  rw [hw] at hF
  rw [if_neg (by decide)]
  -- the role
  have go : roleB s ∨ ¬ roleB s := Classical.em _
  have r0 := sc w2 3 _ hg2 rfl
  have r1 := sc w2 4 _ hg2 rfl
  rcases go with hr | hr
  · rw [if_pos hr]
    by_cases c1 : s.role < 0
    · repeat (first | refine c_seq ?_ | refine c_region _ ?_ | refine wpList_nil ?_ | refine c_then ?_ | refine c_then_ret ?_ | refine c_in_ret ?_ | refine wp_ret ?_ | ((apply st hF); (first | exact d_move | exact d_assign | exact d_not | exact d_pickT | exact d_cmpT | exact d_fieldAddr (fld _ _ _ _ rfl) (isz _ _ rfl) | exact d_load (und _ _ rfl) r0); clear hF; clear a; intro a hF) | ((first | apply stm hF | apply stu hF); clear hF; clear a; intro a hF) | (apply c_cond_t hF; exact rfl; first | exact rfl | assumption) | (apply c_cond_f hF; exact rfl; first | exact rfl | assumption))
      exact ret1 hF rfl rfl ⟨rfl, hB2⟩
    by_cases c2 : s.role > 2
    · repeat (first | refine c_seq ?_ | refine c_region _ ?_ | refine wpList_nil ?_ | refine c_then ?_ | refine c_then_ret ?_ | refine c_in_ret ?_ | refine wp_ret ?_ | ((first | apply st hF | apply stg hF); (first | exact d_move | exact d_assign | exact d_not | exact d_pickT | exact d_pickF | exact d_cmpT | exact d_cmpF | exact d_fieldAddr (fld _ _ _ _ rfl) (isz _ _ rfl) | exact d_load (und _ _ rfl) r0); clear hF; clear a; intro a hF) | ((first | apply stm hF | apply stu hF); clear hF; clear a; intro a hF) | (apply c_cond_t hF; exact rfl; first | exact rfl | assumption) | (apply c_cond_f hF; exact rfl; first | exact rfl | assumption))
      exact ret1 hF rfl rfl ⟨rfl, hB2⟩
    obtain ⟨c3, c4⟩ : s.branch ≠ 0 ∧ s.role ≠ 2 := by
      rcases hr with h | h | h
      · exact absurd h c1
      · exact absurd h c2
      · exact h
    repeat (first | refine c_seq ?_ | refine c_region _ ?_ | refine wpList_nil ?_ | refine c_then ?_ | refine c_then_ret ?_ | refine c_in_ret ?_ | refine wp_ret ?_ | ((first | apply st hF | apply stg hF); (first | exact d_move | exact d_assign | exact d_not | exact d_pickT | exact d_pickF | exact d_cmpT | exact d_cmpF | exact d_fieldAddr (fld _ _ _ _ rfl) (isz _ _ rfl) | exact d_load (und _ _ rfl) r0 | exact d_load (und _ _ rfl) r1); clear hF; clear a; intro a hF) | (apply c_cond_t hF; exact rfl; first | exact rfl | assumption) | (apply c_cond_f hF; exact rfl; first | exact rfl | assumption))
    exact ret1 hF rfl rfl ⟨rfl, hB2⟩
  rw [if_neg hr]
  have c1 : ¬ s.role < 0 := fun h => hr (.inl h)
  have c2 : ¬ s.role > 2 := fun h => hr (.inr (.inl h))
  have c3 : s.branch = 0 ∨ s.role = 2 := by
    by_cases h : s.branch = 0
    · exact .inl h
    · exact .inr (Classical.byContradiction fun h2 => hr (.inr (.inr ⟨h, h2⟩)))
  clear hr r0 r1
  -- the other checks
  rcases Classical.em (s.branch = 0) with c4 | c4
  all_goals
    repeat (first | refine c_seq ?_ | refine c_region _ ?_ | refine wpList_nil ?_ | refine c_then ?_ | refine c_in ?_ | refine wp_skip ?_ | ((first | apply st hF | apply stg hF); (first | exact d_move | exact d_assign | exact d_not | exact d_pickT | exact d_pickF | exact d_cmpT | exact d_cmpF | exact d_fieldAddr (fld _ _ _ _ rfl) (isz _ _ rfl) | exact d_loadAgg (agg _ rfl) (isz _ _ rfl) rfl (cells_at hg2) | exact d_load (und _ _ rfl) (sc w2 3 _ hg2 rfl) | exact d_load (und _ _ rfl) (sc w2 4 _ hg2 rfl)); clear hF; clear a; intro a hF) | ((apply stm hF); clear hF; clear a; intro a hF) | (apply c_cond_f hF; exact rfl; first | exact rfl | assumption))
    refine stc hF (where_ok w2 (Sig.cells s).toArray s.start s.size n s.mot ⟨rfl, rfl, rfl, rfl⟩ (sig_cells s)) cal47 ⟨rfl, rfl, trivial⟩ (k := fun a v w3 hR hF => ?_)
    obtain ⟨⟨se, hse, rfl, -⟩, hb3⟩ := hR
    have hB3 := hB2.trans (hb3.mono hB2.size)
    have hg3 := (hb3.block _ (lt_at hg2)).trans hg2
    repeat (((apply st hF); (first | exact d_move | exact d_extract); clear hF; clear a; intro a hF))
    refine st_alloc hF inf102 (k := fun a w4 hs4 hgr4 hsz4 hF => ?_)
    refine st_storeAgg hF (cs := setC se) (isz _ _ rfl) (by rw [setC_size, hse]) rfl hs4 (setC_cells _) (k := fun a w5 hs5 hgr5 hsz5 hF => ?_)
    have hz3 := hB3.size
    have hB5 : Below w.heap.size w w5 := (hB3.grown hgr4 hz3 (fun k hk => by cases hk)).grown hgr5 (by omega) (fun k hk => by cases hk; exact hz3)
    have hlt3 := lt_at hg3
    have hg5 := blk_kept (blk_kept hg3 hgr4 (by simp)) hgr5 (by simp; omega)
    generalize Pl.whereE s.start s.size s.mot n = we at hF ⊢
    by_cases hwe : we = 0
    · rw [if_neg (fun h => h hwe)]
      clear hgr4 hgr5 hs4 hs5 hb3 hb2 hb1 hg1 hg2 hg3 hgr1
      repeat (first | refine c_seq ?_ | refine c_region _ ?_ | refine wpList_nil ?_ | refine c_then ?_ | refine wp_skip ?_ | ((apply st hF); (first | exact d_move | exact d_assign | exact d_cmpF | exact d_loadAgg (agg _ rfl) (isz _ _ rfl) rfl (cells_at hg5)); clear hF; clear a; intro a hF) | (apply c_cond_f hF; exact rfl; first | exact rfl | assumption))
      refine stc hF (ranged_ok w5 s hB) cal48 ⟨rfl, trivial⟩ (k := fun a v w6 hR hF => ?_)
      obtain ⟨rfl, hb6⟩ := hR
      have hB6 := hB5.trans (hb6.mono hB5.size)
      have hg6 := (hb6.block _ (lt_at hg5)).trans hg5
      generalize rangedE s = re at hF ⊢
      by_cases hre : re = 0
      · rw [if_neg (fun h => h hre)]
        repeat (first | refine c_seq ?_ | refine c_region _ ?_ | refine wpList_nil ?_ | refine c_then ?_ | refine wp_skip ?_ | ((apply st hF); (first | exact d_move | exact d_assign | exact d_cmpF | exact d_fieldAddr (fld _ _ _ _ rfl) (isz _ _ rfl) | exact d_load (und _ _ rfl) (sc w6 17 _ hg6 rfl)); clear hF; clear a; intro a hF) | (apply c_cond_f hF; exact rfl; first | exact rfl | assumption))
        refine stc hF (text_ok w6 s.unit (hT.below hB6)) cal32 ⟨rfl, trivial⟩ (k := fun a v w7 hR hF => ?_)
        obtain ⟨⟨m, hm, rfl⟩, hb7⟩ := hR
        rw [text_is hm] at hF
        have hB7 := hB6.trans (hb7.mono hB6.size)
        have hg7 := (hb7.block _ (lt_at hg6)).trans hg6
        generalize textE s.unit = te at hF ⊢
        by_cases hte : te = 0
        · rw [if_neg (fun h => h hte)]
          unfold namesE
          by_cases hn0 : ss.length = 0
          · rw [if_pos hn0]
            repeat (first | refine c_seq ?_ | refine c_region _ ?_ | refine wpList_nil ?_ | refine c_then ?_ | refine c_then_ret ?_ | refine wp_skip ?_ | refine wp_ret ?_ | ((apply st hF); (first | exact d_move | exact d_assign | exact d_cmpT | exact d_cmpF | exact d_len (und _ _ rfl) | exact d_fieldAddr (fld _ _ _ _ rfl) (isz _ _ rfl) | exact d_load (und _ _ rfl) (sc w7 18 _ hg7 rfl)); clear hF; clear a; intro a hF) | (apply c_cond_t hF; exact rfl; first | exact rfl | assumption) | (apply c_cond_f hF; exact rfl; first | exact rfl | assumption))
            exact ret1 hF rfl rfl ⟨rfl, hB7⟩
          · rw [if_neg hn0]
            repeat (first | refine c_seq ?_ | refine c_region _ ?_ | refine wpList_nil ?_ | refine c_then ?_ | refine wp_skip ?_ | ((apply st hF); (first | exact d_move | exact d_assign | exact d_cmpF | exact d_len (und _ _ rfl) | exact d_fieldAddr (fld _ _ _ _ rfl) (isz _ _ rfl) | exact d_load (und _ _ rfl) (sc w7 18 _ hg7 rfl)); clear hF; clear a; intro a hF) | (apply c_cond_f hF; exact rfl; first | exact rfl | assumption))
            refine stc hF (list_ok w7 ss s.toA s.toN s.toC 64 hlen (hrd.below hB7) (by decide)) cal33 ⟨rfl, rfl, trivial⟩ (k := fun a v w8 hR hF => ?_)
            obtain ⟨rfl, hb8⟩ := hR
            have hB8 := hB7.trans (hb8.mono hB7.size)
            repeat (first | refine wpList_nil ?_ | refine c_then ?_ | refine wp_ret ?_ | ((apply st hF); (exact d_assign); clear hF; clear a; intro a hF))
            refine ret1 hF rfl rfl ⟨?_, hB8⟩
            rw [hlen]
            by_cases h64 : 64 < s.toN
            · rw [if_pos (by omega), if_pos h64]
            · rw [if_neg (by omega), if_neg h64]
        · rw [if_pos hte]
          repeat (first | refine c_seq ?_ | refine c_region _ ?_ | refine wpList_nil ?_ | refine c_then ?_ | refine c_then_ret ?_ | refine wp_ret ?_ | ((apply st hF); (first | exact d_move | exact d_assign | exact d_cmpT); clear hF; clear a; intro a hF) | (apply c_cond_t hF; exact rfl; first | exact rfl | assumption))
          exact ret1 hF rfl rfl ⟨rfl, hB7⟩
      · rw [if_pos hre]
        repeat (first | refine c_seq ?_ | refine c_region _ ?_ | refine wpList_nil ?_ | refine c_then ?_ | refine c_then_ret ?_ | refine wp_ret ?_ | ((apply st hF); (first | exact d_move | exact d_assign | exact d_cmpT); clear hF; clear a; intro a hF) | (apply c_cond_t hF; exact rfl; first | exact rfl | assumption))
        exact ret1 hF rfl rfl ⟨rfl, hB6⟩
    · rw [if_pos hwe]
      repeat (first | refine c_seq ?_ | refine c_region _ ?_ | refine wpList_nil ?_ | refine c_then ?_ | refine c_then_ret ?_ | refine wp_ret ?_ | ((apply st hF); (first | exact d_move | exact d_assign | exact d_cmpT); clear hF; clear a; intro a hF) | (apply c_cond_t hF; exact rfl; first | exact rfl | assumption))
      exact ret1 hF rfl rfl ⟨rfl, hB5⟩
end Go.Proofs.YtjomihhpglojpaaGreatDoor
end
section
/- check.head, walked: what is wrong with a message's head. -/
namespace Go.Proofs.YtjomihhpglojpaaGreatDoor
open Go.RowKit
set_option linter.unusedSimpArgs false
set_option linter.unusedVariables false
attribute [local irreducible] wpList wpQuiet wpStill Code.wp Exit.then Exit.inBlock bodyPost Calls Does Does0
set_option maxRecDepth 100000
def mostE (m : Msg) : Int := if m.wide = true then 536870911 else 2047
/-- What is wrong with a message's head. -/
def headE (m : Msg) : Int :=
  if wordB m.name = false then 11 else if mostE m < m.id then 26 else if m.size < 0 ∨ 8 < m.size then 15
  else if wordB m.sender = false then 11 else if 64 < m.sgN then 5 else 0
theorem head_bnd (m : Msg) : 0 ≤ headE m ∧ headE m ≤ 26 := by
  unfold headE
  repeat' split
  all_goals omega
set_option maxHeartbeats 4000000 in
theorem head_ok (w : World) (m : Msg) : Ret Tryz.prog 16 [.agg (Msg.cells m).toArray].toArray w (fun v w' => v = .int .i64 (headE m) ∧ Below w.heap.size w w') := by
  refine enter1 Tryz.func16 rfl 34 rfl 35 rfl (fun a hF => ?_)
  unfold headE
  repeat (first | refine c_seq ?_ | refine c_region _ ?_)
  refine st_box hF (cs := (Msg.cells m).toArray) rfl (k := fun a w1 hg1 hgr1 hsz1 hF => ?_)
  have hb1 : Below w.heap.size w w1 := (Below.refl _ w).grown hgr1 (Nat.le_refl _) (fun k hk => by cases hk)
  have sc : ∀ (wq : World) (o : Nat) (x : Value), wq.heap[w.heap.size]? = some (.cells (Msg.cells m).toArray 27 (0, 0)) → (Msg.cells m)[o]? = some x → wq.cell? ⟨w.heap.size, 0 + o, none⟩ = some x := fun wq o x hg h => cell_at hg (by simpa using h)
  obtain ⟨me, hme⟩ : ∃ x, x = mostE m := ⟨_, rfl⟩
  rw [← hme]
  cases hwd : m.wide
  all_goals
    have hc0 : w1.cell? ⟨w.heap.size, 0 + 3, none⟩ = some (.bool m.wide) := sc w1 3 _ hg1 rfl
    rw [hwd] at hc0
    unfold mostE at hme
    rw [hwd] at hme
    first | rw [if_pos rfl] at hme | rw [if_neg (by decide)] at hme
    repeat (first | refine c_seq ?_ | refine c_block ?_ | refine c_region _ ?_ | refine wpList_nil ?_ | refine c_then ?_ | refine wp_skip ?_ | ((apply st hF); (first | exact d_assign | exact d_fieldAddr (fld _ _ _ _ rfl) (isz _ _ rfl) | exact d_load (und _ _ rfl) hc0 | exact d_load (und _ _ rfl) (sc w1 4 _ hg1 rfl)); clear hF; clear a; intro a hF) | (apply c_cond_t hF; exact rfl; first | exact rfl | assumption) | (apply c_cond_f hF; exact rfl; first | exact rfl | assumption))
    refine stc hF (word_ok' w1 m.name) cal34 ⟨rfl, trivial⟩ (k := fun a v w2 hR hF => ?_)
    obtain ⟨rfl, hb2⟩ := hR
    have hB2 := hb1.trans (hb2.mono hb1.size)
    have hg2 := (hb2.block _ (lt_at hg1)).trans hg1
    cases hw : wordB m.name with
    | false =>
      rw [hw] at hF
      repeat (first | refine c_seq ?_ | refine c_region _ ?_ | refine wpList_nil ?_ | refine c_then ?_ | refine c_then_ret ?_ | refine c_in_ret ?_ | refine wp_ret ?_ | ((apply st hF); (first | exact d_assign | exact d_not); clear hF; clear a; intro a hF) | (apply c_cond_t hF; exact rfl; first | exact rfl | assumption))
      exact ret1 hF rfl rfl ⟨by rw [if_pos rfl], hB2⟩
    | true =>
    rw [hw] at hF
    rw [if_neg (by decide)]
    by_cases hi : me < m.id
    · rw [if_pos hi]
      repeat (first | refine c_seq ?_ | refine c_region _ ?_ | refine wpList_nil ?_ | refine c_then ?_ | refine c_then_ret ?_ | refine c_in_ret ?_ | refine wp_ret ?_ | ((apply st hF); (first | exact d_move | exact d_assign | exact d_not | exact d_cmpT | exact d_fieldAddr (fld _ _ _ _ rfl) (isz _ _ rfl) | exact d_load (und _ _ rfl) (sc w2 2 _ hg2 rfl)); clear hF; clear a; intro a hF) | (apply c_cond_t hF; exact rfl; first | exact rfl | assumption) | (apply c_cond_f hF; exact rfl; first | exact rfl | assumption))
      exact ret1 hF rfl rfl ⟨rfl, hB2⟩
    rw [if_neg hi]
    by_cases s1 : m.size < 0
    · rw [if_pos (.inl s1)]
      repeat (first | refine c_seq ?_ | refine c_region _ ?_ | refine wpList_nil ?_ | refine c_then ?_ | refine c_then_ret ?_ | refine c_in_ret ?_ | refine wp_ret ?_ | ((apply st hF); (first | exact d_move | exact d_assign | exact d_not | exact d_pickT | exact d_cmpT | exact d_cmpF | exact d_fieldAddr (fld _ _ _ _ rfl) (isz _ _ rfl) | exact d_load (und _ _ rfl) (sc w2 2 _ hg2 rfl) | exact d_load (und _ _ rfl) (sc w2 5 _ hg2 rfl)); clear hF; clear a; intro a hF) | ((apply stm hF); clear hF; clear a; intro a hF) | (apply c_cond_t hF; exact rfl; first | exact rfl | assumption) | (apply c_cond_f hF; exact rfl; first | exact rfl | assumption))
      exact ret1 hF rfl rfl ⟨rfl, hB2⟩
    by_cases s2 : m.size > 8
    · rw [if_pos (.inr s2)]
      repeat (first | refine c_seq ?_ | refine c_region _ ?_ | refine wpList_nil ?_ | refine c_then ?_ | refine c_then_ret ?_ | refine c_in_ret ?_ | refine wp_ret ?_ | ((first | apply st hF | apply stg hF); (first | exact d_move | exact d_assign | exact d_not | exact d_pickF | exact d_cmpT | exact d_cmpF | exact d_fieldAddr (fld _ _ _ _ rfl) (isz _ _ rfl) | exact d_load (und _ _ rfl) (sc w2 2 _ hg2 rfl) | exact d_load (und _ _ rfl) (sc w2 5 _ hg2 rfl)); clear hF; clear a; intro a hF) | (apply c_cond_t hF; exact rfl; first | exact rfl | assumption) | (apply c_cond_f hF; exact rfl; first | exact rfl | assumption))
      exact ret1 hF rfl rfl ⟨rfl, hB2⟩
    rw [if_neg (fun h => h.elim s1 s2)]
    repeat (first | refine c_seq ?_ | refine c_region _ ?_ | refine wpList_nil ?_ | refine c_then ?_ | ((first | apply st hF | apply stg hF); (first | exact d_move | exact d_assign | exact d_not | exact d_pickF | exact d_cmpF | exact d_fieldAddr (fld _ _ _ _ rfl) (isz _ _ rfl) | exact d_load (und _ _ rfl) (sc w2 2 _ hg2 rfl) | exact d_load (und _ _ rfl) (sc w2 5 _ hg2 rfl) | exact d_load (und _ _ rfl) (sc w2 6 _ hg2 rfl)); clear hF; clear a; intro a hF) | (apply c_cond_f hF; exact rfl; first | exact rfl | assumption))
    refine stc hF (word_ok' w2 m.sender) cal34 ⟨rfl, trivial⟩ (k := fun a v w3 hR hF => ?_)
    obtain ⟨rfl, hb3⟩ := hR
    have hB3 := hB2.trans (hb3.mono hB2.size)
    have hg3 := (hb3.block _ (lt_at hg2)).trans hg2
    cases hw2 : wordB m.sender with
    | false =>
      rw [hw2] at hF
      repeat (first | refine c_seq ?_ | refine c_region _ ?_ | refine wpList_nil ?_ | refine c_then ?_ | refine c_then_ret ?_ | refine c_in_ret ?_ | refine wp_ret ?_ | ((apply st hF); (first | exact d_assign | exact d_not); clear hF; clear a; intro a hF) | (apply c_cond_t hF; exact rfl; first | exact rfl | assumption))
      exact ret1 hF rfl rfl ⟨by rw [if_pos rfl], hB3⟩
    | true =>
    rw [hw2] at hF
    rw [if_neg (by decide)]
    by_cases hn : 64 < m.sgN
    · rw [if_pos hn]
      repeat (first | refine c_seq ?_ | refine c_region _ ?_ | refine wpList_nil ?_ | refine c_then ?_ | refine c_then_ret ?_ | refine c_in_ret ?_ | refine wp_ret ?_ | ((apply st hF); (first | exact d_assign | exact d_not | exact d_cmpT | exact d_len (und _ _ rfl) | exact d_fieldAddr (fld _ _ _ _ rfl) (isz _ _ rfl) | exact d_load (und _ _ rfl) (sc w3 7 _ hg3 rfl)); clear hF; clear a; intro a hF) | (apply c_cond_t hF; exact rfl; first | exact rfl | assumption) | (apply c_cond_f hF; exact rfl; first | exact rfl | assumption))
      exact ret1 hF rfl rfl ⟨rfl, hB3⟩
    · rw [if_neg hn]
      repeat (first | refine c_seq ?_ | refine c_region _ ?_ | refine wpList_nil ?_ | refine c_then ?_ | refine c_in ?_ | refine wp_skip ?_ | refine wp_ret ?_ | ((apply st hF); (first | exact d_assign | exact d_not | exact d_cmpF | exact d_len (und _ _ rfl) | exact d_fieldAddr (fld _ _ _ _ rfl) (isz _ _ rfl) | exact d_load (und _ _ rfl) (sc w3 7 _ hg3 rfl)); clear hF; clear a; intro a hF) | (apply c_cond_f hF; exact rfl; first | exact rfl | assumption))
      exact ret1 hF rfl rfl ⟨rfl, hB3⟩
end Go.Proofs.YtjomihhpglojpaaGreatDoor
end
section
/- check.fits, walked: does a value fit so many bits. -/
namespace Go.Proofs.YtjomihhpglojpaaGreatDoor
open Go.RowKit
set_option linter.unusedSimpArgs false
set_option linter.unusedVariables false
attribute [local irreducible] wpList wpQuiet wpStill Code.wp Exit.then Exit.inBlock bodyPost Calls Does Does0
set_option maxRecDepth 100000
/-- Sixty-four bits, read with a sign. -/
def sgn64 (v : Int) : Int := if v < 9223372036854775808 then v else v - 18446744073709551616
theorem wrap_s64 {v : Int} (h : 0 ≤ v ∧ v < 18446744073709551616) : IntKind.i64.wrap v = sgn64 v := by
  unfold sgn64
  simp only [IntKind.wrap, IntKind.signed, IntKind.bits]
  simp
  split <;> split <;> omega
/-- Does it fit? -/
def fitsB (v size : Int) (sg : Bool) : Bool :=
  if size < 1 ∨ 64 < size then false
  else if sg = true then decide (sgn64 v / 2 ^ (size - 1).toNat = 0 ∨ sgn64 v / 2 ^ (size - 1).toNat = -1)
  else decide (v / 2 ^ (size - 1).toNat ≤ 1)
theorem fits_ok (w : World) (v size : Int) (sg : Bool) (hv : 0 ≤ v ∧ v < 18446744073709551616) :
    Ret Tryz.prog 19 [.int .u64 v, .int .i64 size, .bool sg].toArray w (fun r w' => r = .bool (fitsB v size sg) ∧ w' = w) := by
  refine enter3 Tryz.func19 rfl 30 rfl 33 rfl (fun a hF => ?_)
  unfold fitsB
  by_cases s1 : size < 1
  · rw [if_pos (.inl s1)]
    repeat (first | refine c_seq ?_ | refine c_block ?_ | refine c_region _ ?_ | refine wpList_nil ?_ | refine c_then ?_ | refine c_then_ret ?_ | refine c_in_ret ?_ | refine wp_ret ?_ | ((apply st hF); (first | exact d_move | exact d_assign | exact d_pickT | exact d_cmpT); clear hF; clear a; intro a hF) | ((apply stm hF); clear hF; clear a; intro a hF) | (apply c_cond_t hF; exact rfl; first | exact rfl | assumption))
    exact ret1 hF rfl rfl ⟨rfl, rfl⟩
  by_cases s2 : size > 64
  · rw [if_pos (.inr s2)]
    repeat (first | refine c_seq ?_ | refine c_block ?_ | refine c_region _ ?_ | refine wpList_nil ?_ | refine c_then ?_ | refine c_then_ret ?_ | refine c_in_ret ?_ | refine wp_ret ?_ | ((first | apply st hF | apply stg hF); (first | exact d_move | exact d_assign | exact d_pickF | exact d_cmpT | exact d_cmpF); clear hF; clear a; intro a hF) | (apply c_cond_t hF; exact rfl; first | exact rfl | assumption))
    exact ret1 hF rfl rfl ⟨rfl, rfl⟩
  rw [if_neg (fun h => h.elim s1 s2)]
  obtain ⟨b, hb⟩ : ∃ b : Nat, size - 1 = (b : Int) := ⟨(size - 1).toNat, by omega⟩
  have hb64 : b ≤ 64 := by omega
  have et : (size - 1).toNat = b := by omega
  rw [et]
  cases sg with
  | true =>
    rw [if_pos rfl]
    have hw := wrap_s64 hv
    obtain ⟨hi, hhi⟩ : ∃ hi, hi = sgn64 v / 2 ^ b := ⟨_, rfl⟩
    rw [← hhi]
    have hsh : ∀ (l : List (Nat × Value)) (x y : Operand) (t t' ty : TypeId), Ev l x (.int .i64 (sgn64 v)) → Ev l y (.int .i64 (size - 1)) → Does Tryz.prog l w (.binOp .shr t x y t') ty (.int .i64 hi) w := fun l x y t t' ty hx hy => by
      rw [hhi]; exact d_shrI hx hy hb hb64
    by_cases h0 : hi = 0
    · rw [decide_eq_true (.inl h0)]
      repeat (first | refine c_seq ?_ | refine c_block ?_ | refine c_region _ ?_ | refine wpList_nil ?_ | refine c_then ?_ | refine c_then_ret ?_ | refine c_in_ret ?_ | refine wp_ret ?_ | ((first | apply st hF | apply stg hF); (first | exact d_move | exact d_assign | exact d_pickT | exact d_pickF | exact d_sub | exact d_cmpT | exact d_cmpF | exact d_convI (und _ _ rfl) (und _ _ rfl) (hm := hw) | exact hsh _ _ _ _ _ _ rfl rfl); clear hF; clear a; intro a hF) | ((apply stm hF); clear hF; clear a; intro a hF) | (apply c_cond_t hF; exact rfl; first | exact rfl | assumption) | (apply c_cond_f hF; exact rfl; first | exact rfl | assumption))
      exact ret1 hF rfl rfl ⟨rfl, rfl⟩
    · by_cases h1 : hi = -1
      · rw [decide_eq_true (.inr h1)]
        repeat (first | refine c_seq ?_ | refine c_block ?_ | refine c_region _ ?_ | refine wpList_nil ?_ | refine c_then ?_ | refine c_then_ret ?_ | refine c_in_ret ?_ | refine wp_ret ?_ | ((first | apply st hF | apply stg hF); (first | exact d_move | exact d_assign | exact d_pickF | exact d_sub | exact d_cmpT | exact d_cmpF | exact d_convI (und _ _ rfl) (und _ _ rfl) (hm := hw) | exact hsh _ _ _ _ _ _ rfl rfl); clear hF; clear a; intro a hF) | (apply c_cond_t hF; exact rfl; first | exact rfl | assumption) | (apply c_cond_f hF; exact rfl; first | exact rfl | assumption))
        exact ret1 hF rfl rfl ⟨rfl, rfl⟩
      · rw [decide_eq_false (fun h => h.elim h0 h1)]
        repeat (first | refine c_seq ?_ | refine c_block ?_ | refine c_region _ ?_ | refine wpList_nil ?_ | refine c_then ?_ | refine c_then_ret ?_ | refine c_in_ret ?_ | refine wp_ret ?_ | ((first | apply st hF | apply stg hF); (first | exact d_move | exact d_assign | exact d_pickF | exact d_sub | exact d_cmpF | exact d_convI (und _ _ rfl) (und _ _ rfl) (hm := hw) | exact hsh _ _ _ _ _ _ rfl rfl); clear hF; clear a; intro a hF) | (apply c_cond_t hF; exact rfl; first | exact rfl | assumption) | (apply c_cond_f hF; exact rfl; first | exact rfl | assumption))
        exact ret1 hF rfl rfl ⟨rfl, rfl⟩
  | false =>
    rw [if_neg (by decide)]
    obtain ⟨hi, hhi⟩ : ∃ hi, hi = v / 2 ^ b := ⟨_, rfl⟩
    rw [← hhi]
    have hsh : ∀ (l : List (Nat × Value)) (x y : Operand) (t t' ty : TypeId), Ev l x (.int .u64 v) → Ev l y (.int .i64 (size - 1)) → Does Tryz.prog l w (.binOp .shr t x y t') ty (.int .u64 hi) w := fun l x y t t' ty hx hy => by
      rw [hhi]; exact d_shrI hx hy hb hb64
    by_cases h0 : hi ≤ 1
    · rw [decide_eq_true h0]
      repeat (first | refine c_seq ?_ | refine c_block ?_ | refine c_region _ ?_ | refine wpList_nil ?_ | refine c_then ?_ | refine c_in ?_ | refine wp_skip ?_ | refine wp_ret ?_ | ((first | apply st hF | apply stg hF); (first | exact d_move | exact d_assign | exact d_pickF | exact d_sub | exact d_cmpT | exact d_cmpF | exact hsh _ _ _ _ _ _ rfl rfl); clear hF; clear a; intro a hF) | (apply c_cond_f hF; exact rfl; first | exact rfl | assumption))
      exact ret1 hF rfl rfl ⟨rfl, rfl⟩
    · rw [decide_eq_false h0]
      repeat (first | refine c_seq ?_ | refine c_block ?_ | refine c_region _ ?_ | refine wpList_nil ?_ | refine c_then ?_ | refine c_in ?_ | refine wp_skip ?_ | refine wp_ret ?_ | ((first | apply st hF | apply stg hF); (first | exact d_move | exact d_assign | exact d_pickF | exact d_sub | exact d_cmpF | exact hsh _ _ _ _ _ _ rfl rfl); clear hF; clear a; intro a hF) | (apply c_cond_f hF; exact rfl; first | exact rfl | assumption))
      exact ret1 hF rfl rfl ⟨rfl, rfl⟩
end Go.Proofs.YtjomihhpglojpaaGreatDoor
end
