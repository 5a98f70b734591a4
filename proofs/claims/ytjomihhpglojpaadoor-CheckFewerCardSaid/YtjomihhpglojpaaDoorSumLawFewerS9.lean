/- Laid together by a program of mine: NnW NnP NnT. -/
import Derived.Test.YtjomihhpglojpaaDoorSumLawFewerS4
import Derived.Test.YtjomihhpglojpaaDoorSumLawFewerS8
import Derived.Test.YtjomihhpglojpaaDoorSumLawFewerS6
set_option linter.unusedSimpArgs false
set_option linter.unusedVariables false
section
/- The reference's big numbers: trim, from, word, digit, held, plus, less: walked. -/
namespace Go.Proofs.YtjomihhpglojpaaDoor
open Go.RowKit
section
variable {P : Program} {w : World} {l : List (Nat × Value)}
theorem d_maxV {x y : Operand} {k k' : IntKind} {m p v : Int} {t t' ty : TypeId} (hv : (if m < p then p else m) = v) (hx : Ev l x (.int k m) := by exact rfl) (hy : Ev l y (.int k' p) := by exact rfl) : Does P l w (.call { callee := .builtin .max, args := [x, y].toArray, argTypes := [t, t'].toArray }) ty (.int k v) w := by subst hv; exact d_max hx hy
end
open Go.RowKit
set_option linter.unusedSimpArgs false
set_option linter.unusedVariables false
attribute [local irreducible] wpList wpQuiet wpStill Code.wp Exit.then Exit.inBlock bodyPost Calls Does Does0
open Nn
def u32v (d : Nat) : Value := .int .u32 (d : Int)
/-- A value that reads as a number; its row, if it has one, lies behind B. -/
def NatV (B : Nat) (w : World) (v : Value) (x : Nat) : Prop := ∃ ao c ds, v = .slice ao ds.length c ∧ Rd w ao u32v ds ∧ Dig ds ∧ Norm ds ∧ valN ds = x ∧ ∀ ad, ao = some ad → B ≤ ad.block
theorem NatV.below {B : Nat} {w w' : World} {v : Value} {x : Nat} (h : NatV B w v x) (hb : Below w.heap.size w w') : NatV B w' v x := by
  obtain ⟨ao, c, ds, h1, h2, h3, h4, h5, h6⟩ := h
  exact ⟨ao, c, ds, h1, h2.below hb, h3, h4, h5, h6⟩
theorem NatV.mono {B B' : Nat} {w : World} {v : Value} {x : Nat} (h : NatV B w v x) (hb : B' ≤ B) : NatV B' w v x := by
  obtain ⟨ao, c, ds, h1, h2, h3, h4, h5, h6⟩ := h
  exact ⟨ao, c, ds, h1, h2, h3, h4, h5, fun ad e => Nat.le_trans hb (h6 ad e)⟩
theorem NatV.kept {B g : Nat} {w w' : World} {v : Value} {x : Nat} (h : NatV B w v x) (hgr : w.grownBy w' (some g)) (hg : g < B) : NatV B w' v x := by
  obtain ⟨ao, c, ds, h1, h2, h3, h4, h5, h6⟩ := h
  refine ⟨ao, c, ds, h1, fun i hi => ?_, h3, h4, h5, h6⟩
  obtain ⟨b, o, e, hc⟩ := h2 i hi
  refine ⟨b, o, e, ?_⟩
  have hB := h6 _ e
  have e2 := hgr.block b (World.block_lt_of_cell? w _ hc) (fun e => by have := Option.some.inj e; simp only at hB; omega)
  simp only [World.cell?, e2] at hc ⊢
  exact hc
theorem NatV.nil (B : Nat) (w : World) (c : Nat) : NatV B w (.slice none 0 c) 0 := ⟨none, c, [], rfl, fun i hi => absurd hi (Nat.not_lt_zero _), fun _ h => (by cases h), fun _ h => (by cases h), rfl, fun _ h => by cases h⟩
theorem B_2 : B 2 = 18446744073709551616 := by rw [B_two]
theorem nat_len {ds : List Nat} {x k : Nat} (hn : Norm ds) (hv : valN ds = x) (h : x < B k) : ds.length ≤ k := norm_len hn (by rw [hv]; exact h)
theorem rd_u32 {w : World} {ao : Option Addr} {ds : List Nat} (h : Rd w ao u32v ds) {i : Nat} (hi : i < ds.length) : ∃ b o, ao = some ⟨b, o, none⟩ ∧ w.cell? ⟨b, o + i, none⟩ = some (.int .u32 ((dgt ds i : Nat) : Int)) := by
  obtain ⟨b, o, h1, h2⟩ := h i hi
  exact ⟨b, o, h1, by rw [dgt_of hi]; exact h2⟩
theorem trim_ok (w : World) (B : Nat) (ds : List Nat) (ao : Option Addr) (n c : Nat) (hn : ds.length = n) (hc : n ≤ c) (hR : Rd w ao u32v ds) (hd : Dig ds) (hz : n ≤ 1000000) (hB : ∀ ad, ao = some ad → B ≤ ad.block) :
    Ret Tryd.prog 110 [.slice ao n c].toArray w (fun v w' => NatV B w' v (valN ds) ∧ w' = w) := by
  subst hn
  refine enter1 Tryd.func110 rfl 20 rfl 21 rfl (fun a hF => ?_)
  repeat (first | refine c_seq ?_ | refine c_block ?_ | refine c_region _ ?_ | refine wpList_nil ?_ | refine c_then ?_ | ((apply st hF); (first | exact d_move | exact d_assign | exact d_len (und _ _ rfl)); clear hF; clear a; intro a hF))
  refine c_loop (fun q a wr => ∃ k : Nat, k ≤ ds.length ∧ q = k ∧ valN (ds.take k) = valN ds ∧ Fr 21 [(0, .slice ao ds.length c), (3, .int .i64 (k : Int))] a ∧ wr = w) ds.length
    ⟨ds.length, Nat.le_refl _, rfl, by rw [List.take_length], hF.keep' ⟨rfl, rfl, trivial⟩, rfl⟩ ?_
  clear hF a
  rintro q a wr ⟨k, hk, rfl, hv, hF, rfl⟩
  rcases Nat.eq_zero_or_pos q with rfl | hpos
  · repeat (first | refine c_seq ?_ | refine c_region _ ?_ | refine wpList_nil ?_ | refine c_then ?_ | refine c_then_exit ?_ | refine c_in_hit ?_ | refine wp_exit ?_ | refine wp_ret ?_ | ((apply st hF); (first | exact d_move | exact d_assign | exact d_pickF | exact d_cmpF | exact d_slice (und _ _ rfl) (isz _ _ rfl)); clear hF; clear a; intro a hF) | ((apply stm hF); clear hF; clear a; intro a hF) | (apply c_cond_f hF; exact rfl; first | exact rfl | assumption))
    exact ret1 hF rfl rfl ⟨⟨ao, c, [], rfl, fun i hi => absurd hi (Nat.not_lt_zero _), fun _ h => (by cases h), fun _ h => (by cases h), hv, hB⟩, rfl⟩
  · obtain ⟨j, rfl⟩ : ∃ j, q = j + 1 := ⟨q - 1, by omega⟩
    obtain ⟨b, o, rfl, hcell⟩ := rd_u32 hR (i := j) (by omega)
    have e1 : ((j + 1 : Nat) : Int) - 1 = (j : Int) := by omega
    by_cases h0 : dgt ds j = 0
    · repeat (first | refine c_seq ?_ | refine c_block ?_ | refine c_region _ ?_ | refine wpList_nil ?_ | refine c_then ?_ | refine c_in ?_ | refine wp_skip ?_ | ((first | apply st hF | apply stg hF); (first | exact d_move | exact d_assign | exact d_pickT | exact d_sub | exact d_cmpT | exact d_indexAddr1 (und _ _ rfl) (isz _ _ rfl) (j := j) (hq := e1) | exact d_load (und _ _ rfl) hcell); clear hF; clear a; intro a hF) | (apply c_cond_t hF; exact rfl; first | exact rfl | assumption))
      rw [e1] at hF
      exact ⟨j, by omega, j, by omega, rfl, trim_step (by omega) h0 hv, hF.keep' ⟨rfl, rfl, trivial⟩, rfl⟩
    · repeat (first | refine c_seq ?_ | refine c_region _ ?_ | refine wpList_nil ?_ | refine c_then ?_ | refine c_then_exit ?_ | refine c_in_hit ?_ | refine wp_exit ?_ | refine wp_ret ?_ | ((first | apply st hF | apply stg hF); (first | exact d_move | exact d_assign | exact d_pickT | exact d_sub | exact d_cmpT | exact d_cmpF | exact d_slice (und _ _ rfl) (isz _ _ rfl) | exact d_indexAddr1 (und _ _ rfl) (isz _ _ rfl) (j := j) (hq := e1) | exact d_load (und _ _ rfl) hcell); clear hF; clear a; intro a hF) | (apply c_cond_f hF; exact rfl; first | exact rfl | assumption))
      exact ret1 hF rfl rfl ⟨⟨_, c, ds.take (j + 1), by rw [List.length_take, Nat.min_eq_left hk], hR.take _, hd.take _, norm_take hk (.inr h0), hv, hB⟩, rfl⟩
theorem from_ok (w : World) (x : Nat) (hx : x < 18446744073709551616) : Ret Tryd.prog 92 [.int .u64 (x : Int)].toArray w (fun v w' => NatV w.heap.size w' v x ∧ Below w.heap.size w w') := by
  refine enter1 Tryd.func92 rfl 9 rfl 10 rfl (fun a hF => ?_)
  repeat (first | refine c_seq ?_ | refine c_region _ ?_ | refine wpList_nil ?_ | refine c_then ?_ | ((apply st hF); (first | exact d_move | exact d_assign | exact d_convN (und _ _ rfl) (und _ _ rfl) (a := x) (m := x % 4294967296) (hm := rfl) | exact d_shr (a := x) (b := 32) (hb := by decide) | exact d_convN (und _ _ rfl) (und _ _ rfl) (a := x / 2 ^ 32) (m := x / 2 ^ 32 % 4294967296) (hm := rfl)); clear hF; clear a; intro a hF))
  refine st_buildR hF u32v [x % 4294967296, x / 2 ^ 32 % 4294967296] [(0, .int .u32 ((x % 4294967296 : Nat) : Int)), (1, .int .u32 ((x / 2 ^ 32 % 4294967296 : Nat) : Int))] (und _ _ rfl) inf24 rfl rfl ⟨rfl, rfl, rfl, rfl, trivial⟩ (k := fun a w1 hgr hb1 hR hF => ?_)
  have hv : valN [x % 4294967296, x / 2 ^ 32 % 4294967296] = x := by simp only [valN]; omega
  have hd : Dig [x % 4294967296, x / 2 ^ 32 % 4294967296] := by
    intro d hd
    simp only [List.mem_cons, List.mem_nil_iff, or_false] at hd
    rcases hd with rfl | rfl <;> exact Nat.mod_lt _ (by decide)
  skip
  refine stc hF (trim_ok w1 w.heap.size _ _ 2 2 rfl (Nat.le_refl _) hR hd (by decide) (fun ad e => by cases e; exact Nat.le_refl _)) cal110 ⟨rfl, trivial⟩ (k := fun a v w2 hR2 hF => ?_)
  obtain ⟨hv2, rfl⟩ := hR2
  rw [hv] at hv2
  repeat (first | refine wpList_nil ?_ | refine c_then ?_ | refine wp_ret ?_ | ((apply st hF); (exact d_assign); clear hF; clear a; intro a hF))
  exact ret1 hF rfl rfl ⟨hv2, hb1⟩
theorem digit_ok (w : World) (ds : List Nat) (ao : Option Addr) (c i : Nat) (hR : Rd w ao u32v ds) (hd : Dig ds) :
    Ret Tryd.prog 119 [.slice ao ds.length c, .int .i64 (i : Int)].toArray w (fun v w' => v = .int .u64 ((dgt ds i : Nat) : Int) ∧ w' = w) := by
  refine enter2 Tryd.func119 rfl 12 rfl 14 rfl (fun a hF => ?_)
  by_cases hi : i < ds.length
  · obtain ⟨b, o, rfl, hcell⟩ := rd_u32 hR hi
    have hlt : dgt ds i % 2 ^ IntKind.u64.bits = dgt ds i := Nat.mod_eq_of_lt (Nat.lt_trans (dgt_lt hd i) (by decide))
    repeat (first | refine c_seq ?_ | refine c_region _ ?_ | refine wpList_nil ?_ | refine c_then ?_ | refine c_then_ret ?_ | refine wp_ret ?_ | ((apply st hF); (first | exact d_move | exact d_assign | exact d_cmpT | exact d_len (und _ _ rfl) | exact d_indexAddr1 (und _ _ rfl) (isz _ _ rfl) | exact d_convN (und _ _ rfl) (und _ _ rfl) (hm := hlt) | exact d_load (und _ _ rfl) hcell); clear hF; clear a; intro a hF) | (apply c_cond_t hF; exact rfl; first | exact rfl | assumption))
    exact ret1 hF rfl rfl ⟨rfl, rfl⟩
  · repeat (first | refine c_seq ?_ | refine c_region _ ?_ | refine wpList_nil ?_ | refine c_then ?_ | refine wp_skip ?_ | refine wp_ret ?_ | ((apply st hF); (first | exact d_move | exact d_assign | exact d_cmpF | exact d_len (und _ _ rfl)); clear hF; clear a; intro a hF) | (apply c_cond_f hF; exact rfl; first | exact rfl | assumption))
    exact ret1 hF rfl rfl ⟨by rw [dgt_out (by omega)]; rfl, rfl⟩
/-- -1, 0, 1. -/
def heldI (x y : Nat) : Int := if x < y then -1 else if y < x then 1 else 0
theorem held_ok (w : World) (B1 B2 : Nat) (v1 v2 : Value) (x y : Nat) (h1 : NatV B1 w v1 x) (h2 : NatV B2 w v2 y) (hx : x < B 100) (hy : y < B 100) :
    Ret Tryd.prog 116 [v1, v2].toArray w (fun v w' => v = .int .i64 (heldI x y) ∧ w' = w) := by
  obtain ⟨ao, c, xs, rfl, hRa, hda, hna, rfl, _⟩ := h1
  obtain ⟨bo, c', ys, rfl, hRb, hdb, hnb, rfl, _⟩ := h2
  have la := nat_len hna rfl hx
  have lb := nat_len hnb rfl hy
  obtain ⟨M, hM⟩ : ∃ M : Nat, (if (xs.length : Int) < (ys.length : Int) then (ys.length : Int) else (xs.length : Int)) = (M : Int) := by
    by_cases h : (xs.length : Int) < (ys.length : Int)
    · exact ⟨ys.length, if_pos h⟩
    · exact ⟨xs.length, if_neg h⟩
  have hMa : xs.length ≤ M ∧ ys.length ≤ M ∧ M ≤ 100 := by split at hM <;> omega
  refine enter2 Tryd.func116 rfl 28 rfl 30 rfl (fun a hF => ?_)
  repeat (first | refine c_seq ?_ | refine c_block ?_ | refine c_region _ ?_ | refine wpList_nil ?_ | refine c_then ?_ | ((apply st hF); (first | exact d_move | exact d_assign | exact d_sub | exact d_len (und _ _ rfl) | exact d_maxV hM); clear hF; clear a; intro a hF))
  refine c_loop (fun q a wr => ∃ j : Nat, j ≤ M ∧ q = j ∧ valN (xs.drop j) = valN (ys.drop j) ∧ Fr 30 [(0, .slice ao xs.length c), (1, .slice bo ys.length c'), (5, .int .i64 ((j : Int) - 1))] a ∧ wr = w) M
    ⟨M, Nat.le_refl _, rfl, by rw [drop_end hMa.1, drop_end hMa.2.1], hF.keep' ⟨rfl, rfl, rfl, trivial⟩, rfl⟩ ?_
  clear hF a
  rintro q a wr ⟨k, hk, rfl, hv, hF, rfl⟩
  rcases Nat.eq_zero_or_pos q with rfl | hpos
  · repeat (first | refine c_seq ?_ | refine c_region _ ?_ | refine wpList_nil ?_ | refine c_then ?_ | refine c_then_exit ?_ | refine c_in_hit ?_ | refine wp_exit ?_ | refine wp_ret ?_ | ((apply st hF); (first | exact d_move | exact d_assign | exact d_cmpF); clear hF; clear a; intro a hF) | (apply c_cond_f hF; exact rfl; first | exact rfl | assumption))
    have he : valN xs = valN ys := by simpa using hv
    exact ret1 hF rfl rfl ⟨by rw [heldI, he, if_neg (Nat.lt_irrefl _), if_neg (Nat.lt_irrefl _)], rfl⟩
  · obtain ⟨j, rfl⟩ : ∃ j, q = j + 1 := ⟨q - 1, by omega⟩
    have e1 : ((j + 1 : Nat) : Int) - 1 = (j : Int) := by omega
    rw [e1] at hF
    repeat (first | refine c_seq ?_ | refine c_block ?_ | refine c_region _ ?_ | refine wpList_nil ?_ | refine c_then ?_ | refine wp_skip ?_ | ((apply st hF); (first | exact d_move | exact d_cmpT); clear hF; clear a; intro a hF) | (apply c_cond_t hF; exact rfl; first | exact rfl | assumption))
    refine stc hF (digit_ok wr xs ao c j hRa hda) cal119 ⟨rfl, rfl, trivial⟩ (k := fun a v w1 hR hF => ?_)
    obtain ⟨rfl, rfl⟩ := hR
    repeat (first | refine c_seq ?_ | refine c_region _ ?_ | refine wpList_nil ?_ | refine c_then ?_ | ((apply st hF); (first | exact d_move | exact d_assign); clear hF; clear a; intro a hF))
    refine stc hF (digit_ok w1 ys bo c' j hRb hdb) cal119 ⟨rfl, rfl, trivial⟩ (k := fun a v w2 hR hF => ?_)
    obtain ⟨rfl, rfl⟩ := hR
    rcases Nat.lt_trichotomy (dgt xs j) (dgt ys j) with h | h | h
    · repeat (first | refine c_seq ?_ | refine c_region _ ?_ | refine wpList_nil ?_ | refine c_then ?_ | refine c_then_ret ?_ | refine c_in_ret ?_ | refine wp_ret ?_ | ((apply st hF); (first | exact d_move | exact d_assign | exact d_cmpT); clear hF; clear a; intro a hF) | (apply c_cond_t hF; exact rfl; first | exact rfl | assumption))
      have hlt := lt_of_drop hda (drop_lt hv h)
      exact ret1 hF rfl rfl ⟨by rw [heldI, if_pos hlt], rfl⟩
    · repeat (first | refine c_seq ?_ | refine c_region _ ?_ | refine wpList_nil ?_ | refine c_then ?_ | refine c_in ?_ | refine wp_skip ?_ | ((apply st hF); (first | exact d_move | exact d_assign | exact d_sub | exact d_cmpF); clear hF; clear a; intro a hF) | (apply c_cond_f hF; exact rfl; first | exact rfl | assumption))
      exact ⟨j, by omega, j, by omega, rfl, drop_eq hv h, hF.keep' ⟨rfl, rfl, rfl, trivial⟩, rfl⟩
    · repeat (first | refine c_seq ?_ | refine c_region _ ?_ | refine wpList_nil ?_ | refine c_then ?_ | refine c_then_ret ?_ | refine c_in_ret ?_ | refine wp_skip ?_ | refine wp_ret ?_ | ((apply st hF); (first | exact d_move | exact d_assign | exact d_cmpT | exact d_cmpF); clear hF; clear a; intro a hF) | (apply c_cond_t hF; exact rfl; first | exact rfl | assumption) | (apply c_cond_f hF; exact rfl; first | exact rfl | assumption))
      have hlt := lt_of_drop hdb (drop_lt hv.symm h)
      exact ret1 hF rfl rfl ⟨by rw [heldI, if_neg (by omega), if_pos hlt], rfl⟩
end Go.Proofs.YtjomihhpglojpaaDoor
end
section
/- The reference's big numbers: plus, less, word: walked. -/
namespace Go.Proofs.YtjomihhpglojpaaDoor
open Go.RowKit
set_option linter.unusedSimpArgs false
set_option linter.unusedVariables false
attribute [local irreducible] wpList wpQuiet wpStill Code.wp Exit.then Exit.inBlock bodyPost Calls Does Does0
open Nn
theorem own_u32 {w : World} {base : Nat} {ao : Option Addr} {n cap : Nat} {l : List Nat} (h : w.ownsRow base 24 1 (.slice ao n cap) n (l.map u32v)) : l.length = n ∧ n ≤ cap ∧ Rd w ao u32v l ∧ ∀ ad, ao = some ad → base ≤ ad.block := by
  obtain ⟨h1, h2⟩ := own_rd h
  refine ⟨h1, (own_cap h).1, h2, fun ad e => ?_⟩
  subst e
  rcases h.2 with ⟨h0, _⟩ | ⟨g, cap', cur, h0, hb, _⟩
  · cases h0
  · cases h0; exact hb
theorem map_snoc (l : List Nat) (d : Nat) : (l ++ [d]).map u32v = l.map u32v ++ [.int .u32 (d : Int)] := by simp [u32v]
set_option maxHeartbeats 2000000 in
theorem plus_ok (w : World) (B1 B2 : Nat) (v1 v2 : Value) (x y : Nat) (h1 : NatV B1 w v1 x) (h2 : NatV B2 w v2 y) (hx : x < B 100) (hy : y < B 100) :
    Ret Tryd.prog 115 [v1, v2].toArray w (fun v w' => NatV w.heap.size w' v (x + y) ∧ Below w.heap.size w w') := by
  obtain ⟨ao, c, xs, rfl, hRa, hda, hna, rfl, _⟩ := h1
  obtain ⟨bo, c', ys, rfl, hRb, hdb, hnb, rfl, _⟩ := h2
  have la := nat_len hna rfl hx
  have lb := nat_len hnb rfl hy
  obtain ⟨M, hM⟩ : ∃ M : Nat, (if (xs.length : Int) < (ys.length : Int) then (ys.length : Int) else (xs.length : Int)) = (M : Int) := by
    by_cases h : (xs.length : Int) < (ys.length : Int)
    · exact ⟨ys.length, if_pos h⟩
    · exact ⟨xs.length, if_neg h⟩
  have hMa : xs.length ≤ M ∧ ys.length ≤ M ∧ M ≤ 100 := by split at hM <;> omega
  refine enter2 Tryd.func115 rfl 34 rfl 36 rfl (fun a hF => ?_)
  repeat (first | refine c_seq ?_ | refine c_block ?_ | refine c_region _ ?_ | refine wpList_nil ?_ | refine c_then ?_ | ((apply st hF); (exact d_assign); clear hF; clear a; intro a hF))
  refine c_loop (fun q a wr => ∃ (k cc cap : Nat) (ro : Option Addr) (l : List Nat), k ≤ M + 1 ∧ q = M + 1 - k ∧ PlusAt xs ys l k cc ∧ Fr 36 [(0, .slice ao xs.length c), (1, .slice bo ys.length c'), (5, .slice ro k cap), (6, .int .u64 (cc : Int)), (7, .int .i64 (k : Int))] a ∧
      wr.ownsRow w.heap.size 24 1 (.slice ro k cap) k (l.map u32v) ∧ Below w.heap.size w wr) (M + 1)
    ⟨0, 0, 0, none, [], Nat.zero_le _, rfl, plus_zero xs ys, hF.keep' ⟨rfl, rfl, rfl, rfl, rfl, trivial⟩, World.ownsRow_nil _ _ _ _, Below.refl _ w⟩ ?_
  clear hF a
  rintro q a wr ⟨k, cc, cap, ro, l, hk, rfl, hP, hF, hown, hbel⟩
  have hsz := hbel.size
  by_cases hlt : k ≤ M
  · repeat (first | refine c_seq ?_ | refine c_block ?_ | refine c_region _ ?_ | refine wpList_nil ?_ | refine c_then ?_ | refine wp_skip ?_ | ((apply st hF); (first | exact d_move | exact d_cmpT | exact d_len (und _ _ rfl) | exact d_maxV hM); clear hF; clear a; intro a hF) | (apply c_cond_t hF; exact rfl; first | exact rfl | assumption))
    refine stc hF (digit_ok wr xs ao c k (hRa.below hbel) hda) cal119 ⟨rfl, rfl, trivial⟩ (k := fun a v w1 hR hF => ?_)
    obtain ⟨rfl, rfl⟩ := hR
    repeat (((apply st hF); (exact d_move); clear hF; clear a; intro a hF))
    refine stc hF (digit_ok w1 ys bo c' k (hRb.below hbel) hdb) cal119 ⟨rfl, rfl, trivial⟩ (k := fun a v w2 hR hF => ?_)
    obtain ⟨rfl, rfl⟩ := hR
    obtain ⟨hn, hP2⟩ := plus_step hda hdb hP rfl
    have hA1 : dgt xs k + dgt ys k < 2 ^ IntKind.u64.bits := Nat.lt_of_le_of_lt (Nat.le_add_right _ _) (Nat.lt_trans hn (by decide))
    have hA2 : dgt xs k + dgt ys k + cc < 2 ^ IntKind.u64.bits := Nat.lt_trans hn (by decide)
    repeat (first | refine c_seq ?_ | refine c_region _ ?_ | refine wpList_nil ?_ | refine c_then ?_ | ((apply st hF); (first | exact d_move | exact d_assign | exact d_addN (h := hA1) | exact d_addN (h := hA2) | exact d_convN (und _ _ rfl) (und _ _ rfl) (a := dgt xs k + dgt ys k + cc) (m := (dgt xs k + dgt ys k + cc) % 4294967296) (hm := rfl)); clear hF; clear a; intro a hF))
    refine st_push' hF (u := .int .u32 (((dgt xs k + dgt ys k + cc) % 4294967296 : Nat) : Int)) (und _ _ rfl) inf24 rfl hown (by omega) (by unfold maxLen; omega) hsz (k := fun a ro2 cap2 w3 hown3 hgr3 hat3 hF => ?_)
    repeat (first | refine c_region _ ?_ | refine wpList_nil ?_ | refine c_then ?_ | refine c_in ?_ | ((apply st hF); (first | exact d_move | exact d_assign | exact d_add | exact d_shr (a := dgt xs k + dgt ys k + cc) (b := 32) (hb := by decide)); clear hF; clear a; intro a hF))
    exact ⟨M + 1 - (k + 1), by omega, k + 1, _, cap2, ro2, _, by omega, rfl, hP2, hF.keep' ⟨rfl, rfl, rfl, rfl, rfl, trivial⟩, by rw [map_snoc]; exact hown3, below_own hbel hsz hown hgr3⟩
  · obtain rfl : k = M + 1 := by omega
    obtain ⟨o1, o2, o3, o4⟩ := own_u32 hown
    repeat (first | refine c_seq ?_ | refine c_region _ ?_ | refine wpList_nil ?_ | refine c_then ?_ | refine c_then_exit ?_ | refine c_in_hit ?_ | refine wp_exit ?_ | ((apply st hF); (first | exact d_move | exact d_cmpF | exact d_len (und _ _ rfl) | exact d_maxV hM); clear hF; clear a; intro a hF) | (apply c_cond_f hF; exact rfl; first | exact rfl | assumption))
    refine stc hF (trim_ok wr w.heap.size l ro (M + 1) cap o1 o2 o3 hP.2.1 (by omega) o4) cal110 ⟨rfl, trivial⟩ (k := fun a v w1 hR hF => ?_)
    obtain ⟨hv, rfl⟩ := hR
    rw [plus_end hda hdb hP hMa.1 hMa.2.1] at hv
    repeat (first | refine wpList_nil ?_ | refine c_then ?_ | refine wp_ret ?_ | ((apply st hF); (exact d_assign); clear hF; clear a; intro a hF))
    exact ret1 hF rfl rfl ⟨hv, hbel⟩
set_option maxHeartbeats 2000000 in
theorem less_ok (w : World) (B1 B2 : Nat) (v1 v2 : Value) (x y : Nat) (h1 : NatV B1 w v1 x) (h2 : NatV B2 w v2 y) (hx : x < B 100) (hle : y ≤ x) :
    Ret Tryd.prog 117 [v1, v2].toArray w (fun v w' => NatV w.heap.size w' v (x - y) ∧ Below w.heap.size w w') := by
  obtain ⟨ao, c, xs, rfl, hRa, hda, hna, rfl, _⟩ := h1
  obtain ⟨bo, c', ys, rfl, hRb, hdb, hnb, rfl, _⟩ := h2
  have la := nat_len hna rfl hx
  refine enter2 Tryd.func117 rfl 33 rfl 35 rfl (fun a hF => ?_)
  repeat (first | refine c_seq ?_ | refine c_block ?_ | refine c_region _ ?_ | refine wpList_nil ?_ | refine c_then ?_ | ((apply st hF); (exact d_assign); clear hF; clear a; intro a hF))
  refine c_loop (fun q a wr => ∃ (k cc cap : Nat) (ro : Option Addr) (l : List Nat), k ≤ xs.length ∧ q = xs.length - k ∧ LessAt xs ys l k cc ∧ Fr 35 [(0, .slice ao xs.length c), (1, .slice bo ys.length c'), (5, .slice ro k cap), (6, .int .u64 (cc : Int)), (7, .int .i64 (k : Int))] a ∧
      wr.ownsRow w.heap.size 24 1 (.slice ro k cap) k (l.map u32v) ∧ Below w.heap.size w wr) xs.length
    ⟨0, 0, 0, none, [], Nat.zero_le _, rfl, less_zero xs ys, hF.keep' ⟨rfl, rfl, rfl, rfl, rfl, trivial⟩, World.ownsRow_nil _ _ _ _, Below.refl _ w⟩ ?_
  clear hF a
  rintro q a wr ⟨k, cc, cap, ro, l, hk, rfl, hP, hF, hown, hbel⟩
  have hsz := hbel.size
  have d1 := dgt_lt hda k
  have d2 := dgt_lt hdb k
  have d3 := hP.2.2.1
  by_cases hlt : k < xs.length
  · repeat (first | refine c_seq ?_ | refine c_block ?_ | refine c_region _ ?_ | refine wpList_nil ?_ | refine c_then ?_ | refine wp_skip ?_ | ((apply st hF); (first | exact d_move | exact d_cmpT | exact d_len (und _ _ rfl)); clear hF; clear a; intro a hF) | (apply c_cond_t hF; exact rfl; first | exact rfl | assumption))
    refine stc hF (digit_ok wr xs ao c k (hRa.below hbel) hda) cal119 ⟨rfl, rfl, trivial⟩ (k := fun a v w1 hR hF => ?_)
    obtain ⟨rfl, rfl⟩ := hR
    have hA1 : 4294967296 + dgt xs k < 2 ^ IntKind.u64.bits := Nat.lt_trans (show 4294967296 + dgt xs k < 8589934592 by omega) (by decide)
    repeat (((apply st hF); (first | exact d_move | exact d_addN (a := 4294967296) (h := hA1)); clear hF; clear a; intro a hF))
    refine stc hF (digit_ok w1 ys bo c' k (hRb.below hbel) hdb) cal119 ⟨rfl, rfl, trivial⟩ (k := fun a v w2 hR hF => ?_)
    obtain ⟨rfl, rfl⟩ := hR
    obtain ⟨hn, hq, hP2⟩ := less_step (n := 4294967296 + dgt xs k - dgt ys k - cc) hda hdb hP (by omega)
    have hA2 : dgt ys k ≤ 4294967296 + dgt xs k := by omega
    have hA3 : cc ≤ 4294967296 + dgt xs k - dgt ys k := by omega
    have hA4 : 4294967296 + dgt xs k - dgt ys k < 2 ^ IntKind.u64.bits := Nat.lt_of_le_of_lt (Nat.sub_le _ _) hA1
    repeat (first | refine c_seq ?_ | refine c_region _ ?_ | refine wpList_nil ?_ | refine c_then ?_ | ((apply st hF); (first | exact d_move | exact d_assign | exact d_subN (h := hA2) (ha := hA1) | exact d_subN (h := hA3) (ha := hA4) | exact d_convN (und _ _ rfl) (und _ _ rfl) (a := 4294967296 + dgt xs k - dgt ys k - cc) (m := (4294967296 + dgt xs k - dgt ys k - cc) % 4294967296) (hm := rfl)); clear hF; clear a; intro a hF))
    refine st_push' hF (u := .int .u32 (((4294967296 + dgt xs k - dgt ys k - cc) % 4294967296 : Nat) : Int)) (und _ _ rfl) inf24 rfl hown (by omega) (by unfold maxLen; omega) hsz (k := fun a ro2 cap2 w3 hown3 hgr3 hat3 hF => ?_)
    repeat (first | refine c_region _ ?_ | refine wpList_nil ?_ | refine c_then ?_ | refine c_in ?_ | ((apply st hF); (first | exact d_move | exact d_assign | exact d_add | exact d_shr (a := 4294967296 + dgt xs k - dgt ys k - cc) (b := 32) (hb := by decide) | exact d_subN (a := 1) (b := (4294967296 + dgt xs k - dgt ys k - cc) / 2 ^ 32) (h := hq) (ha := by decide)); clear hF; clear a; intro a hF))
    exact ⟨xs.length - (k + 1), by omega, k + 1, _, cap2, ro2, _, by omega, rfl, hP2, hF.keep' ⟨rfl, rfl, rfl, rfl, rfl, trivial⟩, by rw [map_snoc]; exact hown3, below_own hbel hsz hown hgr3⟩
  · obtain rfl : k = xs.length := by omega
    obtain ⟨o1, o2, o3, o4⟩ := own_u32 hown
    repeat (first | refine c_seq ?_ | refine c_region _ ?_ | refine wpList_nil ?_ | refine c_then ?_ | refine c_then_exit ?_ | refine c_in_hit ?_ | refine wp_exit ?_ | ((apply st hF); (first | exact d_move | exact d_cmpF | exact d_len (und _ _ rfl)); clear hF; clear a; intro a hF) | (apply c_cond_f hF; exact rfl; first | exact rfl | assumption))
    refine stc hF (trim_ok wr w.heap.size l ro xs.length cap o1 o2 o3 hP.2.1 (by omega) o4) cal110 ⟨rfl, trivial⟩ (k := fun a v w1 hR hF => ?_)
    obtain ⟨hv, rfl⟩ := hR
    have he : valN l = valN xs - valN ys := by have := less_end hda hle hP; omega
    rw [he] at hv
    repeat (first | refine wpList_nil ?_ | refine c_then ?_ | refine wp_ret ?_ | ((apply st hF); (exact d_assign); clear hF; clear a; intro a hF))
    exact ret1 hF rfl rfl ⟨hv, hbel⟩
theorem or_high {d k n : Nat} (h : d < 2 ^ k) : d ||| n * 2 ^ k = d + n * 2 ^ k := by
  rw [Nat.or_comm, Nat.mul_comm, ← Nat.two_pow_add_eq_or_of_lt h, Nat.add_comm]
theorem word_ok (w : World) (B1 : Nat) (v1 : Value) (x : Nat) (h1 : NatV B1 w v1 x) (hx : x < B 100) :
    Ret Tryd.prog 94 [v1].toArray w (fun v w' => (∃ (m : Nat) (b : Bool), v = .tuple #[.int .u64 (m : Int), .bool b] ∧ (b = true ↔ x < 18446744073709551616) ∧ (b = true → m = x)) ∧ w' = w) := by
  obtain ⟨ao, c, xs, rfl, hRa, hda, hna, rfl, _⟩ := h1
  have la := nat_len hna rfl hx
  have hb : (xs.length ≤ 2 ↔ valN xs < 18446744073709551616) := by
    rw [← B_2]
    exact ⟨fun h => Nat.lt_of_lt_of_le (valN_lt hda) (B_le h), fun h => norm_len hna h⟩
  refine enter1 Tryd.func94 rfl 29 rfl 30 rfl (fun a hF => ?_)
  repeat (first | refine c_seq ?_ | refine c_block ?_ | refine c_region _ ?_ | refine wpList_nil ?_ | refine c_then ?_ | ((apply st hF); (exact d_assign); clear hF; clear a; intro a hF))
  refine c_loop (fun q a wr => ∃ k : Nat, k ≤ 2 ∧ k ≤ xs.length ∧ q = 2 - k ∧ Fr 30 [(0, .slice ao xs.length c), (4, .int .u64 ((valN (xs.take k) : Nat) : Int)), (5, .int .i64 (k : Int))] a ∧ wr = w) 2
    ⟨0, by decide, Nat.zero_le _, rfl, hF.keep' ⟨rfl, rfl, rfl, trivial⟩, rfl⟩ ?_
  clear hF a
  rintro q a wr ⟨k, hk, hkl, rfl, hF, rfl⟩
  by_cases hlt : k < xs.length
  · by_cases h2 : k < 2
    · obtain ⟨b, o, rfl, hcell⟩ := rd_u32 hRa hlt
      have hd := dgt_lt hda k
      have hmod : dgt xs k % 2 ^ IntKind.u64.bits = dgt xs k := Nat.mod_eq_of_lt (Nat.lt_trans hd (by decide))
      have ht := take_succ_val xs k
      have hk1 : k = 0 ∨ k = 1 := by omega
      rcases hk1 with rfl | rfl
      · have hs : dgt xs 0 * 2 ^ 0 < 2 ^ IntKind.u64.bits := by rw [Nat.pow_zero, Nat.mul_one]; exact Nat.lt_trans hd (by decide)
        have e1 : 0 ||| dgt xs 0 * 2 ^ 0 = valN (xs.take (0 + 1)) := by rw [ht, Nat.zero_or, B_zero]; simp [valN]
        have e0 : ((valN (xs.take 0) : Nat) : Int) = ((0 : Nat) : Int) := rfl
        repeat (first | refine c_seq ?_ | refine c_block ?_ | refine c_region _ ?_ | refine wpList_nil ?_ | refine c_then ?_ | refine c_in ?_ | refine wp_skip ?_ | ((first | apply st hF | apply stg hF); (first | exact d_move | exact d_assign | exact d_pickT | exact d_add | exact d_cmpT | exact d_len (und _ _ rfl) | exact d_indexAddr1 (und _ _ rfl) (isz _ _ rfl) | exact d_convN (und _ _ rfl) (und _ _ rfl) (hm := hmod) | exact d_mul (h := ⟨by decide, by decide⟩) | exact d_shlN (a := dgt xs 0) (b := 0) (hb := by decide) (h := hs) | exact d_bits (a := 0) (b := dgt xs 0 * 2 ^ 0) (ha := by decide) (hb := hs) | exact d_load (und _ _ rfl) hcell); clear hF; clear a; intro a hF) | (apply c_cond_t hF; exact rfl; first | exact rfl | assumption))
        rw [e1] at hF
        exact ⟨1, by decide, 1, by decide, hlt, rfl, hF.keep' ⟨rfl, rfl, rfl, trivial⟩, rfl⟩
      · have hs : dgt xs 1 * 2 ^ 32 < 2 ^ IntKind.u64.bits := by
          have : dgt xs 1 * 2 ^ 32 ≤ 4294967295 * 2 ^ 32 := Nat.mul_le_mul_right _ (by omega)
          exact Nat.lt_of_le_of_lt this (by decide)
        have hlow : valN (xs.take 1) < 2 ^ 32 := by have := take_val_lt hda 1; rw [B_two] at this; exact this
        have e1 : valN (xs.take 1) ||| dgt xs 1 * 2 ^ 32 = valN (xs.take (1 + 1)) := by rw [ht, or_high hlow, B_two, Nat.mul_comm]
        have hlow2 : valN (xs.take 1) < 2 ^ IntKind.u64.bits := Nat.lt_trans hlow (by decide)
        repeat (first | refine c_seq ?_ | refine c_block ?_ | refine c_region _ ?_ | refine wpList_nil ?_ | refine c_then ?_ | refine c_in ?_ | refine wp_skip ?_ | ((first | apply st hF | apply stg hF); (first | exact d_move | exact d_assign | exact d_pickT | exact d_add | exact d_cmpT | exact d_len (und _ _ rfl) | exact d_indexAddr1 (und _ _ rfl) (isz _ _ rfl) | exact d_convN (und _ _ rfl) (und _ _ rfl) (hm := hmod) | exact d_mul (h := ⟨by decide, by decide⟩) | exact d_shlN (a := dgt xs 1) (b := 32) (hb := by decide) (h := hs) | exact d_bits (a := valN (xs.take 1)) (b := dgt xs 1 * 2 ^ 32) (ha := hlow2) (hb := hs) | exact d_load (und _ _ rfl) hcell); clear hF; clear a; intro a hF) | (apply c_cond_t hF; exact rfl; first | exact rfl | assumption))
        rw [e1] at hF
        exact ⟨0, by decide, 2, by decide, hlt, rfl, hF.keep' ⟨rfl, rfl, rfl, trivial⟩, rfl⟩
    · repeat (first | refine c_seq ?_ | refine c_region _ ?_ | refine wpList_nil ?_ | refine c_then ?_ | refine c_then_exit ?_ | refine c_in_hit ?_ | refine wp_exit ?_ | refine wp_ret ?_ | ((first | apply st hF | apply stg hF); (first | exact d_move | exact d_assign | exact d_pickT | exact d_cmpT | exact d_cmpF | exact d_len (und _ _ rfl)); clear hF; clear a; intro a hF) | (apply c_cond_f hF; exact rfl; first | exact rfl | assumption))
      exact ret2 hF rfl rfl rfl ⟨⟨_, _, rfl, ⟨fun h => (by cases h), fun h => (by have := hb.2 h; omega)⟩, fun h => by cases h⟩, rfl⟩
  · repeat (first | refine c_seq ?_ | refine c_region _ ?_ | refine wpList_nil ?_ | refine c_then ?_ | refine c_then_exit ?_ | refine c_in_hit ?_ | refine wp_exit ?_ | refine wp_ret ?_ | ((apply st hF); (first | exact d_move | exact d_assign | exact d_pickF | exact d_cmpT | exact d_cmpF | exact d_len (und _ _ rfl)); clear hF; clear a; intro a hF) | ((apply stm hF); clear hF; clear a; intro a hF) | (apply c_cond_f hF; exact rfl; first | exact rfl | assumption))
    refine ret2 hF rfl rfl rfl ⟨⟨_, _, rfl, ⟨fun _ => hb.1 (by omega), fun _ => rfl⟩, fun _ => by rw [take_all (by omega)]⟩, rfl⟩
end Go.Proofs.YtjomihhpglojpaaDoor
end
section
/- The reference's big numbers: times: walked. -/
namespace Go.Proofs.YtjomihhpglojpaaDoor
open Go.RowKit
set_option linter.unusedSimpArgs false
set_option linter.unusedVariables false
attribute [local irreducible] wpList wpQuiet wpStill Code.wp Exit.then Exit.inBlock bodyPost Calls Does Does0
open Nn
theorem map_rep (k : Nat) : (List.replicate (k + 1) 0).map u32v = (List.replicate k 0).map u32v ++ [.int .u32 0] := by
  rw [List.replicate_succ', List.map_append]; rfl
theorem map_put (l : List Nat) (j d : Nat) : (l.set j d).map u32v = (l.map u32v).set j (.int .u32 (d : Int)) := by rw [List.map_set]; rfl
set_option maxHeartbeats 4000000 in
theorem times_ok (w : World) (B1 B2 : Nat) (v1 v2 : Value) (x y : Nat) (h1 : NatV B1 w v1 x) (h2 : NatV B2 w v2 y) (hx : x < B 50) (hy : y < B 50) :
    Ret Tryd.prog 118 [v1, v2].toArray w (fun v w' => NatV w.heap.size w' v (x * y) ∧ Below w.heap.size w w') := by
  obtain ⟨ao, c, xs, rfl, hRa, hda, hna, rfl, _⟩ := h1
  obtain ⟨bo, c', ys, rfl, hRb, hdb, hnb, rfl, _⟩ := h2
  have la := nat_len hna rfl hx
  have lb := nat_len hnb rfl hy
  refine enter2 Tryd.func118 rfl 73 rfl 75 rfl (fun a hF => ?_)
  repeat (first | refine c_seq ?_ | refine c_block ?_ | refine c_region _ ?_ | refine wpList_nil ?_ | refine c_then ?_ | ((apply st hF); (exact d_assign); clear hF; clear a; intro a hF))
  refine c_loop (fun q a wr => ∃ (k cap : Nat) (ro : Option Addr), k ≤ xs.length + ys.length ∧ q = xs.length + ys.length - k ∧ Fr 75 [(0, .slice ao xs.length c), (1, .slice bo ys.length c'), (5, .slice ro k cap), (6, .int .i64 (k : Int))] a ∧
      wr.ownsRow w.heap.size 24 1 (.slice ro k cap) k ((List.replicate k 0).map u32v) ∧ Below w.heap.size w wr) (xs.length + ys.length)
    ⟨0, 0, none, Nat.zero_le _, rfl, hF.keep' ⟨rfl, rfl, rfl, rfl, trivial⟩, World.ownsRow_nil _ _ _ _, Below.refl _ w⟩ ?_
  clear hF a
  rintro q a wr ⟨k, cap, ro, hk, rfl, hF, hown, hbel⟩
  have hsz := hbel.size
  by_cases hlt : k < xs.length + ys.length
  · repeat (first | refine c_seq ?_ | refine c_block ?_ | refine c_region _ ?_ | refine wpList_nil ?_ | refine c_then ?_ | refine wp_skip ?_ | ((apply st hF); (first | exact d_move | exact d_add | exact d_cmpT | exact d_len (und _ _ rfl)); clear hF; clear a; intro a hF) | (apply c_cond_t hF; exact rfl; first | exact rfl | assumption))
    refine st_push' hF (u := .int .u32 0) (und _ _ rfl) inf24 rfl hown (by omega) (by unfold maxLen; omega) hsz (k := fun a ro2 cap2 w3 hown3 hgr3 hat3 hF => ?_)
    repeat (first | refine c_region _ ?_ | refine wpList_nil ?_ | refine c_then ?_ | refine c_in ?_ | ((apply st hF); (first | exact d_move | exact d_assign | exact d_add); clear hF; clear a; intro a hF))
    exact ⟨xs.length + ys.length - (k + 1), by omega, k + 1, cap2, ro2, by omega, rfl, hF.keep' ⟨rfl, rfl, rfl, rfl, trivial⟩, by rw [map_rep]; exact hown3, below_own hbel hsz hown hgr3⟩
  obtain rfl : k = xs.length + ys.length := by omega
  repeat (first | refine c_seq ?_ | refine c_block ?_ | refine c_region _ ?_ | refine wpList_nil ?_ | refine c_then ?_ | refine c_then_exit ?_ | refine c_in_hit ?_ | refine wp_exit ?_ | ((apply st hF); (first | exact d_move | exact d_assign | exact d_add | exact d_cmpF | exact d_len (und _ _ rfl)); clear hF; clear a; intro a hF) | (apply c_cond_f hF; exact rfl; first | exact rfl | assumption))
  refine c_loop (fun q a wq => ∃ (i cap : Nat) (ro : Option Addr) (l : List Nat), i ≤ xs.length ∧ q = xs.length - i ∧ TimesAt xs ys l i 0 0 ∧ Fr 75 [(0, .slice ao xs.length c), (1, .slice bo ys.length c'), (5, .slice ro (xs.length + ys.length) cap), (7, .int .i64 (i : Int))] a ∧
      wq.ownsRow w.heap.size 24 1 (.slice ro (xs.length + ys.length) cap) (xs.length + ys.length) (l.map u32v) ∧ Below w.heap.size w wq) xs.length
    ⟨0, cap, ro, _, Nat.zero_le _, rfl, times_zero xs ys, hF.keep' ⟨rfl, rfl, rfl, rfl, trivial⟩, hown, hbel⟩ ?_
  clear hF a hown hbel hlt hsz wr
  rintro q a wr ⟨i, cap, ro, l, hi, rfl, hT, hF, hown, hbel⟩
  by_cases hlt : i < xs.length
  · repeat (first | refine c_seq ?_ | refine c_block ?_ | refine c_region _ ?_ | refine wpList_nil ?_ | refine c_then ?_ | refine wp_skip ?_ | ((apply st hF); (first | exact d_move | exact d_assign | exact d_cmpT | exact d_len (und _ _ rfl)); clear hF; clear a; intro a hF) | (apply c_cond_t hF; exact rfl; first | exact rfl | assumption))
    refine c_loop (fun q a wq => ∃ (k cc cap : Nat) (ro : Option Addr) (l : List Nat), k ≤ ys.length ∧ q = ys.length - k ∧ TimesAt xs ys l i k cc ∧ Fr 75 [(0, .slice ao xs.length c), (1, .slice bo ys.length c'), (5, .slice ro (xs.length + ys.length) cap), (7, .int .i64 (i : Int)), (8, .int .u64 (cc : Int)), (9, .int .i64 (k : Int))] a ∧
        wq.ownsRow w.heap.size 24 1 (.slice ro (xs.length + ys.length) cap) (xs.length + ys.length) (l.map u32v) ∧ Below w.heap.size w wq) ys.length
      ⟨0, 0, cap, ro, l, Nat.zero_le _, rfl, hT, hF.keep' ⟨rfl, rfl, rfl, rfl, rfl, rfl, trivial⟩, hown, hbel⟩ ?_
    clear hF a hown hbel hT wr l ro cap
    rintro q a wr ⟨k, cc, cap, ro, l, hk, rfl, hT, hF, hown, hbel⟩
    obtain ⟨g, rfl, hg⟩ := own_some hown (by omega)
    obtain ⟨o1, o2, o3, o4⟩ := own_u32 hown
    have hsz := hbel.size
    by_cases hlk : k < ys.length
    · obtain ⟨b1, p1, rfl, c1⟩ := rd_u32 (hRa.below hbel) hlt
      obtain ⟨b2, p2, rfl, c2⟩ := rd_u32 (hRb.below hbel) hlk
      obtain ⟨b3, p3, e3, c3⟩ := rd_u32 o3 (i := i + k) (by omega)
      cases e3
      have m1 : dgt xs i % 2 ^ IntKind.u64.bits = dgt xs i := Nat.mod_eq_of_lt (Nat.lt_trans (dgt_lt hda i) (by decide))
      have m2 : dgt ys k % 2 ^ IntKind.u64.bits = dgt ys k := Nat.mod_eq_of_lt (Nat.lt_trans (dgt_lt hdb k) (by decide))
      have m3 : dgt l (i + k) % 2 ^ IntKind.u64.bits = dgt l (i + k) := Nat.mod_eq_of_lt (Nat.lt_trans (dgt_lt hT.dig _) (by decide))
      obtain ⟨hn, hT2⟩ := times_step hda hdb hT hlt hlk rfl
      have hA3 : dgt xs i * dgt ys k + dgt l (i + k) + cc < 2 ^ IntKind.u64.bits := hn
      have hA2 : dgt xs i * dgt ys k + dgt l (i + k) < 2 ^ IntKind.u64.bits := Nat.lt_of_le_of_lt (Nat.le_add_right _ _) hA3
      have hA1 : dgt xs i * dgt ys k < 2 ^ IntKind.u64.bits := Nat.lt_of_le_of_lt (Nat.le_add_right _ _) hA2
      have ej : (i : Int) + (k : Int) = ((i + k : Nat) : Int) := by omega
      repeat (first | refine c_seq ?_ | refine c_block ?_ | refine c_region _ ?_ | refine wpList_nil ?_ | refine c_then ?_ | refine wp_skip ?_ | (refine q_nil ?_; rintro _ ⟨ndr, rfl⟩) | refine c_region_draw _ mixed (by kernel_rfl) ?_ | ((apply st hF); (first | exact d_move | exact d_add | exact d_cmpT | exact d_len (und _ _ rfl) | exact d_indexAddr1 (und _ _ rfl) (isz _ _ rfl) | exact d_convN (und _ _ rfl) (und _ _ rfl) (a := dgt xs i * dgt ys k + dgt l (i + k) + cc) (m := (dgt xs i * dgt ys k + dgt l (i + k) + cc) % 4294967296) (hm := rfl)); clear hF; clear a; intro a hF) | ((apply q_step hF); intro wq hwq; (first | exact d_move | exact d_assign | exact d_add | exact d_indexAddr1 (und _ _ rfl) (isz _ _ rfl) | exact d_convN (und _ _ rfl) (und _ _ rfl) (hm := m1) | exact d_convN (und _ _ rfl) (und _ _ rfl) (hm := m2) | exact d_convN (und _ _ rfl) (und _ _ rfl) (hm := m3) | exact d_mulN (h := hA1) | exact d_addN (h := hA2) | exact d_addN (h := hA3) | exact q_load (und _ _ rfl) hwq (by exact c1) | exact q_load (und _ _ rfl) hwq (by exact c2) | exact q_load (und _ _ rfl) hwq (by exact c3)); clear hF; clear a; intro a hF) | (apply c_cond_t hF; exact rfl; first | exact rfl | assumption))
      have hownD : (wr.drewN ndr).ownsRow w.heap.size 24 1 (.slice (some ⟨g, 0, none⟩) (xs.length + ys.length) cap) (xs.length + ys.length) (l.map u32v) := hown
      refine st_storeRow hF (j := i + k) (v := .int .u32 (((dgt xs i * dgt ys k + dgt l (i + k) + cc) % 4294967296 : Nat) : Int)) (isz _ _ rfl) hownD (by omega) rfl (k := fun a w3 hown3 hgr3 hsz3 hF => ?_)
      repeat (first | refine c_region _ ?_ | refine wpList_nil ?_ | refine c_then ?_ | refine c_in ?_ | ((apply st hF); (first | exact d_move | exact d_assign | exact d_add | exact d_shr (a := dgt xs i * dgt ys k + dgt l (i + k) + cc) (b := 32) (hb := by decide)); clear hF; clear a; intro a hF))
      exact ⟨ys.length - (k + 1), by omega, k + 1, _, cap, _, _, by omega, rfl, hT2, hF.keep' ⟨rfl, rfl, rfl, rfl, rfl, rfl, trivial⟩, by rw [map_put]; exact hown3, (below_more hbel ndr).grown hgr3 hsz (fun q e => by cases e; exact hg)⟩
    · obtain rfl : k = ys.length := by omega
      have ej : (i : Int) + (ys.length : Int) = ((i + ys.length : Nat) : Int) := by omega
      have mc : cc % 2 ^ IntKind.u32.bits = cc := Nat.mod_eq_of_lt hT.car
      repeat (first | refine c_seq ?_ | refine c_region _ ?_ | refine wpList_nil ?_ | refine c_then ?_ | refine c_then_exit ?_ | refine c_in_hit ?_ | refine wp_exit ?_ | ((apply st hF); (first | exact d_move | exact d_add | exact d_cmpF | exact d_len (und _ _ rfl) | exact d_indexAddr1 (und _ _ rfl) (isz _ _ rfl) | exact d_convN (und _ _ rfl) (und _ _ rfl) (hm := mc)); clear hF; clear a; intro a hF) | (apply c_cond_f hF; exact rfl; first | exact rfl | assumption))
      refine st_storeRow hF (j := i + ys.length) (v := .int .u32 (cc : Int)) (isz _ _ rfl) hown (by omega) rfl (k := fun a w3 hown3 hgr3 hsz3 hF => ?_)
      repeat (first | refine c_region _ ?_ | refine wpList_nil ?_ | refine c_then ?_ | refine c_in ?_ | ((apply st hF); (first | exact d_move | exact d_assign | exact d_add); clear hF; clear a; intro a hF))
      exact ⟨xs.length - (i + 1), by omega, i + 1, cap, _, _, by omega, rfl, times_next hT hlt, hF.keep' ⟨rfl, rfl, rfl, rfl, trivial⟩, by rw [map_put]; exact hown3, hbel.grown hgr3 hsz (fun q e => by cases e; exact hg)⟩
  · obtain rfl : i = xs.length := by omega
    obtain ⟨o1, o2, o3, o4⟩ := own_u32 hown
    repeat (first | refine c_seq ?_ | refine c_region _ ?_ | refine wpList_nil ?_ | refine c_then ?_ | refine c_then_exit ?_ | refine c_in_hit ?_ | refine wp_exit ?_ | ((apply st hF); (first | exact d_move | exact d_cmpF | exact d_len (und _ _ rfl)); clear hF; clear a; intro a hF) | (apply c_cond_f hF; exact rfl; first | exact rfl | assumption))
    refine stc hF (trim_ok wr w.heap.size l ro _ cap o1 o2 o3 hT.dig (by omega) o4) cal110 ⟨rfl, trivial⟩ (k := fun a v w1 hR hF => ?_)
    obtain ⟨hv, rfl⟩ := hR
    rw [times_end hT] at hv
    repeat (first | refine wpList_nil ?_ | refine c_then ?_ | refine wp_ret ?_ | ((apply st hF); (exact d_assign); clear hF; clear a; intro a hF))
    exact ret1 hF rfl rfl ⟨hv, hbel⟩
end Go.Proofs.YtjomihhpglojpaaDoor
end
