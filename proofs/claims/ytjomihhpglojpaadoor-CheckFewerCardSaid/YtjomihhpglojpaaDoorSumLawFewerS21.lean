/- Laid together by a program of mine: OneW ZipS CopyW. -/
import Derived.Test.YtjomihhpglojpaaDoorSumLawFewerS20
import Derived.Test.YtjomihhpglojpaaDoorSumLawFewerS8
import Derived.Test.YtjomihhpglojpaaDoorSumLawFewerS17
import Derived.Test.YtjomihhpglojpaaDoorSumLawFewerS7
import Derived.Test.YtjomihhpglojpaaDoorSumLawFewerS12
import Derived.Test.YtjomihhpglojpaaDoorSumLawFewerS6
set_option linter.unusedSimpArgs false
set_option linter.unusedVariables false
section
/- one, two and works, walked: the laws' own example. -/
namespace Go.Proofs.YtjomihhpglojpaaDoor
open Go.RowKit
set_option linter.unusedSimpArgs false
set_option linter.unusedVariables false
attribute [local irreducible] wpList wpQuiet wpStill Code.wp Exit.then Exit.inBlock bodyPost Calls Does Does0
set_option maxRecDepth 100000
def oneS (name : ByteArray) (start size : Int) (g : Nat) : Sig := ⟨0, 0, name, 0, 0, start, size, false, false, 1, 1, 0, 1, 0, 1, 0, 1, ⟨#[]⟩, some ⟨g, 0, none⟩, 1, 1⟩
def txA : List ByteArray := [⟨#[65]⟩]
def twoM (ao : Option Addr) (n c : Nat) : Msg := ⟨0, 0, 5, false, ⟨#[77]⟩, 2, ⟨#[65]⟩, ao, n, c⟩
theorem one_in {w : World} {name : ByteArray} {start size : Int} {g : Nat} (h : Rd w (some ⟨g, 0, none⟩) .string txA) : SigIn w (oneS name start size g) txA := ⟨rfl, h, Nat.le_refl 1, (by show 1 * 16 ≤ 140737488351232; decide)⟩
theorem one_bnd (name : ByteArray) (start size : Int) (g : Nat) : SigB (oneS name start size g) := by
  constructor <;> (unfold oneS; dsimp only; omega)
theorem textE_empty : textE ⟨#[]⟩ = 0 := by
  unfold textE
  rw [if_neg (by decide), if_pos (show AllOk ⟨#[]⟩ from fun k hk => absurd hk (Nat.not_lt_zero _))]
theorem one_alone {name : ByteArray} {start size n : Int} (g : Nat) (h1 : wordB name = true) (h2 : Pl.whereE start size false n = 0) : aloneE (oneS name start size g) txA n = 0 := by
  unfold aloneE
  have e1 : rangedE (oneS name start size g) = 0 := by
    have : rangedE (oneS name start size g) = rangedE (oneS ⟨#[]⟩ 0 0 0) := rfl
    rw [this]; decide +kernel
  have e2 : ¬ roleB (oneS name start size g) := by unfold roleB oneS; dsimp only; omega
  have e3 : namesE txA = 0 := by decide +kernel
  have e4 : textE (oneS name start size g).unit = 0 := textE_empty
  rw [if_neg (by show ¬ wordB name = false; rw [h1]; decide), if_neg e2, if_neg (fun h => h h2), if_neg (fun h => h e1), if_neg (fun h => h e4), e3]
/-- Have two rows a bit in common? -/
def shareN (start size : Int) (mot : Bool) (start' size' : Int) (mot' : Bool) : Bool :=
  match Pl.bitsOfSig start size mot, Pl.bitsOfSig start' size' mot' with
  | .ok l, .ok m => l.any fun x => m.any fun y => decide (x = y)
  | _, _ => false
theorem share_dec (s t : Sig) : shareB s t ↔ shareN s.start s.size s.mot t.start t.size t.mot = true := by
  unfold shareB shareN
  constructor
  · rintro ⟨l, m, x, h1, h2, h3, h4⟩
    rw [h1, h2]
    exact List.any_eq_true.2 ⟨x, h3, List.any_eq_true.2 ⟨x, h4, decide_eq_true rfl⟩⟩
  · intro h
    split at h
    · rename_i l m h1 h2
      obtain ⟨x, hx, h⟩ := List.any_eq_true.1 h
      obtain ⟨y, hy, h⟩ := List.any_eq_true.1 h
      obtain rfl := of_decide_eq_true h
      exact ⟨l, m, x, h1, h2, hx, hy⟩
    · cases h
/-- A message of two signals of the kind that nothing is wrong with by themselves. -/
theorem two_one {m : Msg} {s t : Sig} {ss ts : List ByteArray} (hh : headE m = 0) (h1 : aloneE s ss m.size = 0) (h2 : aloneE t ts m.size = 0) (hn : s.name ≠ t.name) (hr : s.role = 0 ∧ t.role = 0) :
    (shareB s t → msgE m [(s, ss), (t, ts)] = (17, some 1)) ∧ (¬ shareB s t → msgE m [(s, ss), (t, ts)] = (0, none)) := by
  have g0 : sg [(s, ss), (t, ts)] 0 = s := rfl
  have g1 : sg [(s, ss), (t, ts)] 1 = t := rfl
  have k1 : ∀ j, j < [(s, ss), (t, ts)].length → oneE [(s, ss), (t, ts)] m.size j = 0 := by
    intro j hj
    rcases j with _ | _ | j
    · exact one_of h1 (fun k hk => absurd hk (Nat.not_lt_zero _)) (fun _ k hk => absurd hk (Nat.not_lt_zero _))
    · refine one_of h2 (fun k hk => ?_) (fun e => ?_)
      · obtain rfl : k = 0 := by omega
        exact hn
      · rw [g1, hr.2] at e; cases e
    · exact absurd (show j + 2 < 2 from hj) (by omega)
  have k2 : ∀ j, j < [(s, ss), (t, ts)].length → ¬ twoB [(s, ss), (t, ts)] j := by
    intro j hj hb
    have e := hb.1
    rcases j with _ | _ | j
    · rw [g0, hr.1] at e; cases e
    · rw [g1, hr.2] at e; cases e
    · exact absurd (show j + 2 < 2 from hj) (by omega)
  have k3 : ∀ j, j < 1 → ¬ meetB [(s, ss), (t, ts)] j := by
    rintro j hj ⟨k, hk, _⟩
    omega
  refine ⟨fun hs => msgE_meet hh k1 k2 (show 1 < 2 by decide) ⟨0, Nat.one_pos, ?_, hs⟩ k3, fun hs => msgE_ok hh k1 k2 fun j hj => ?_⟩
  · rw [g0, g1]; unfold togB; exact decide_eq_true (.inl (by rw [hr.1]; decide))
  · rcases j with _ | _ | j
    · exact k3 0 (by decide)
    · rintro ⟨k, hk, _, h⟩
      obtain rfl : k = 0 := by omega
      exact hs h
    · exact absurd (show j + 2 < 2 from hj) (by omega)
set_option maxHeartbeats 4000000 in
theorem one_ok (w : World) (name : ByteArray) (start size : Int) : Ret Tryd.prog 30 [.string name, .int .i64 start, .int .i64 size].toArray w (fun v w' => (∃ g, v = .agg (Sig.cells (oneS name start size g)).toArray ∧ Rd w' (some ⟨g, 0, none⟩) .string txA) ∧ Below w.heap.size w w') := by
  refine enter3 Tryd.func30 rfl 17 rfl 20 rfl (fun a hF => ?_)
  repeat (first | refine c_seq ?_ | refine c_region _ ?_)
  refine st_alloc hF inf38 (k := fun a w1 hg1 hgr1 hsz1 hF => ?_)
  repeat (first | refine c_seq ?_ | refine c_region _ ?_ | refine wpList_nil ?_ | refine c_then ?_ | ((apply st hF); (exact d_build (vs := [(0, .int .i64 1), (1, .int .i64 1)]) (cells := #[.int .i64 1, .int .i64 1]) (by kernel_rfl) ⟨rfl, rfl, rfl, rfl, trivial⟩); clear hF; clear a; intro a hF))
  refine st_alloc hF inf35 (k := fun a w2 hg2 hgr2 hsz2 hF => ?_)
  refine st_storeAgg hF (cs := #[.int .i64 1, .int .i64 1]) (isz _ _ rfl) rfl rfl hg2 (by simp [Value.oneCell']) (k := fun a w3 hg3 hgr3 hsz3 hF => ?_)
  repeat (first | refine c_seq ?_ | refine c_region _ ?_ | refine wpList_nil ?_ | refine c_then ?_ | ((apply st hF); (exact d_build (vs := [(1, .int .i64 1)]) (cells := #[.int .i64 0, .int .i64 1]) (by kernel_rfl) ⟨rfl, rfl, trivial⟩); clear hF; clear a; intro a hF))
  refine st_alloc hF inf35 (k := fun a w4 hg4 hgr4 hsz4 hF => ?_)
  refine st_storeAgg hF (cs := #[.int .i64 0, .int .i64 1]) (isz _ _ rfl) rfl rfl hg4 (by simp [Value.oneCell']) (k := fun a w5 hg5 hgr5 hsz5 hF => ?_)
  have h1 : w5.heap[w.heap.size]? = some (.cells _ 38 (0, 0)) := blk_kept (blk_kept (blk_kept (blk_kept hg1 hgr2 (by simp)) hgr3 (by simp; omega)) hgr4 (by simp)) hgr5 (by simp; omega)
  have h3 : w5.heap[w1.heap.size]? = some (.cells _ 35 (0, 0)) := blk_kept (blk_kept hg3 hgr4 (by simp)) hgr5 (by simp; omega)
  have hb5 : Below w.heap.size w w5 := ((((Below.refl _ w).grown hgr1 (Nat.le_refl _) (fun k hk => by cases hk)).grown hgr2 (by omega) (fun k hk => by cases hk)).grown hgr3 (by omega) (fun k hk => by cases hk; omega)).grown hgr4 (by omega) (fun k hk => by cases hk) |>.grown hgr5 (by omega) (fun k hk => by cases hk; omega)
  repeat (first | refine c_seq ?_ | refine c_region _ ?_ | refine wpList_nil ?_ | refine c_then ?_ | ((apply st hF); (first | exact d_move | exact d_loadAgg (agg _ rfl) (isz _ _ rfl) rfl (cells_at h3) | exact d_loadAgg (agg _ rfl) (isz _ _ rfl) rfl (cells_at hg5)); clear hF; clear a; intro a hF))
  refine st_buildR hF Value.string txA [(0, .string ⟨#[65]⟩)] (und _ _ rfl) inf9 rfl (by kernel_rfl) ⟨rfl, rfl, trivial⟩ (k := fun a w6 hgr6 hb6 hR hF => ?_)
  have h6 := blk_kept h1 hgr6 (by simp)
  have hlt := lt_at h1
  repeat (((apply st hF); (exact d_build (vs := [(1, .string name), (4, .int .i64 start), (5, .int .i64 size), (8, .agg #[.int .i64 1, .int .i64 1]), (9, .agg #[.int .i64 0, .int .i64 1]), (10, .agg #[.int .i64 0, .int .i64 1]), (11, .agg #[.int .i64 0, .int .i64 1]), (13, .slice (some ⟨w5.heap.size, 0, none⟩) 1 1)]) (cells := (Sig.cells (oneS name start size w5.heap.size)).toArray) (by kernel_rfl) ⟨rfl, rfl, rfl, rfl, rfl, rfl, rfl, rfl, rfl, rfl, rfl, rfl, rfl, rfl, rfl, rfl, trivial⟩); clear hF; clear a; intro a hF))
  refine st_storeAgg hF (cs := (Sig.cells (oneS name start size w5.heap.size)).toArray) (isz _ _ rfl) rfl rfl h6 (sig_cells _) (k := fun a w7 hg7 hgr7 hsz7 hF => ?_)
  have hB7 : Below w.heap.size w w7 := (hb5.trans (hb6.mono hb5.size)).grown hgr7 (by have := hb6.size; omega) (fun k hk => by cases hk; omega)
  repeat (first | refine wpList_nil ?_ | refine c_then ?_ | refine wp_ret ?_)
  refine ret_c hF rfl (agg _ rfl) (isz _ _ rfl) hg7 rfl ⟨⟨_, rfl, fun i hi => ?_⟩, hB7⟩
  obtain ⟨b, o, e, hc⟩ := hR i hi
  cases e
  refine ⟨_, _, rfl, ?_⟩
  rw [← hc]
  unfold World.cell?
  dsimp only
  rw [hgr7.block _ (lt_at (o := w6.heap[w5.heap.size]'(World.block_lt_of_cell? w6 _ hc)) (by simp)) (by simp; omega)]
set_option maxHeartbeats 4000000 in
theorem two_ok (w : World) (ao : Option Addr) (n c : Nat) : Ret Tryd.prog 29 [.slice ao n c].toArray w (fun v w' => v = .agg (Msg.cells (twoM ao n c)).toArray ∧ Below w.heap.size w w') := by
  refine enter1 Tryd.func29 rfl 4 rfl 5 rfl (fun a hF => ?_)
  repeat (first | refine c_seq ?_ | refine c_region _ ?_)
  refine st_alloc hF inf27 (k := fun a w1 hg1 hgr1 hsz1 hF => ?_)
  repeat (first | refine c_seq ?_ | refine c_region _ ?_ | refine wpList_nil ?_ | refine c_then ?_ | ((apply st hF); (first | exact d_move | exact d_build (vs := [(3, .string ⟨#[77]⟩), (1, .int .u32 5), (4, .int .i64 2), (5, .string ⟨#[65]⟩), (6, .slice ao n c)]) (cells := (Msg.cells (twoM ao n c)).toArray) (by kernel_rfl) ⟨rfl, rfl, rfl, rfl, rfl, rfl, rfl, rfl, rfl, rfl, trivial⟩); clear hF; clear a; intro a hF))
  refine st_storeAgg hF (cs := (Msg.cells (twoM ao n c)).toArray) (isz _ _ rfl) rfl rfl hg1 (msg_cells _) (k := fun a w2 hg2 hgr2 hsz2 hF => ?_)
  have hb2 : Below w.heap.size w w2 := ((Below.refl _ w).grown hgr1 (Nat.le_refl _) (fun k hk => by cases hk)).grown hgr2 (by omega) (fun k hk => by cases hk; omega)
  repeat (first | refine wpList_nil ?_ | refine c_then ?_ | refine wp_ret ?_)
  exact ret_c hF rfl (agg _ rfl) (isz _ _ rfl) hg2 rfl ⟨rfl, hb2⟩
theorem two_in {w : World} {n1 n2 : ByteArray} {s1 z1 s2 z2 : Int} {g1 g2 : Nat} {b : Nat} (h1 : Rd w (some ⟨g1, 0, none⟩) .string txA) (h2 : Rd w (some ⟨g2, 0, none⟩) .string txA) (h : RdS w (some ⟨b, 0, none⟩) 19 Sig.cells [oneS n1 s1 z1 g1, oneS n2 s2 z2 g2]) :
    MsgIn w (twoM (some ⟨b, 0, none⟩) 2 2) [(oneS n1 s1 z1 g1, txA), (oneS n2 s2 z2 g2, txA)] := by
  refine ⟨rfl, h, fun p hp => ?_, Nat.le_refl 2, (by show 2 * 176 ≤ 140737488351232; decide)⟩
  simp only [List.mem_cons, List.not_mem_nil, or_false] at hp
  rcases hp with rfl | rfl
  · exact one_in h1
  · exact one_in h2
theorem twoM_head (ao : Option Addr) : headE (twoM ao 2 2) = 0 := by
  have h1 : wordB ⟨#[77]⟩ = true := by decide +kernel
  have h2 : wordB ⟨#[65]⟩ = true := by decide +kernel
  simp [headE, mostE, twoM, h1, h2]
theorem one_bnds {n1 n2 : ByteArray} {s1 z1 s2 z2 : Int} {g1 g2 : Nat} : ∀ p ∈ [(oneS n1 s1 z1 g1, txA), (oneS n2 s2 z2 g2, txA)], SigB p.1 := by
  intro p hp
  simp only [List.mem_cons, List.not_mem_nil, or_false] at hp
  rcases hp with rfl | rfl <;> exact one_bnd _ _ _ _
set_option maxHeartbeats 4000000 in
theorem works_ok (w : World) (hT : Tabs w) : Ret Tryd.prog 9 #[] w (fun v w' => v = .bool true ∧ Below w.heap.size w w') := by
  have wa : wordB ⟨#[97]⟩ = true := by decide +kernel
  have wb : wordB ⟨#[98]⟩ = true := by decide +kernel
  refine enter0 Tryd.func9 rfl 18 rfl 18 rfl (fun a hF => ?_)
  repeat (first | refine c_seq ?_ | refine c_region _ ?_ | refine wpList_nil ?_ | refine c_then ?_ | ((apply st hF); (exact d_assign); clear hF; clear a; intro a hF))
  refine stc hF (one_ok w ⟨#[97]⟩ 0 8) cal30 ⟨rfl, rfl, rfl, trivial⟩ (k := fun a v w1 hR hF => ?_)
  obtain ⟨⟨g1, rfl, r1⟩, hb1⟩ := hR
  refine stc hF (one_ok w1 ⟨#[98]⟩ 7 2) cal30 ⟨rfl, rfl, rfl, trivial⟩ (k := fun a v w2 hR hF => ?_)
  obtain ⟨⟨g2, rfl, r2⟩, hb2⟩ := hR
  replace r1 := r1.below hb2
  replace hb2 := hb1.trans (hb2.mono hb1.size)
  refine st hF (d_buildSS [(Sig.cells (oneS ⟨#[97]⟩ 0 8 g1)).toArray, (Sig.cells (oneS ⟨#[98]⟩ 7 2 g2)).toArray] (und _ _ rfl) inf38 (by decide) (by decide) (by decide) rfl (by simp [Sig.cells]) ⟨rfl, rfl, rfl, rfl, trivial⟩) rfl (fun a hF => ?_)
  have hb3 := below_alloc w2 (.cells (([(Sig.cells (oneS ⟨#[97]⟩ 0 8 g1)).toArray, (Sig.cells (oneS ⟨#[98]⟩ 7 2 g2)).toArray]).flatMap fun u => u.toList).toArray 38)
  have hR3 := rdS_alloc w2 19 Sig.cells sigc_len [oneS ⟨#[97]⟩ 0 8 g1, oneS ⟨#[98]⟩ 7 2 g2] 38 (([(Sig.cells (oneS ⟨#[97]⟩ 0 8 g1)).toArray, (Sig.cells (oneS ⟨#[98]⟩ 7 2 g2)).toArray]).flatMap fun u => u.toList).toArray (by simp)
  generalize w2.alloc _ = w3 at *
  replace r1 := r1.below hb3
  replace r2 := r2.below hb3
  replace hb3 := hb2.trans (hb3.mono hb2.size)
  refine stc hF (two_ok w3 _ 2 2) cal29 ⟨rfl, trivial⟩ (k := fun a v w4 hR hF => ?_)
  obtain ⟨rfl, hb4⟩ := hR
  have hin := two_in (r1.below hb4) (r2.below hb4) (hR3.below hb4)
  replace hb4 := hb3.trans (hb4.mono hb3.size)
  refine stc hF (cmsg_ok w4 _ _ hin one_bnds (hT.below hb4)) cal10 ⟨rfl, trivial⟩ (k := fun a v w5 hR hF => ?_)
  obtain ⟨rfl, hb5⟩ := hR
  rw [(two_one (twoM_head _) (one_alone g1 wa (show Pl.whereE 0 8 false 2 = 0 by decide +kernel)) (one_alone g2 wb (show Pl.whereE 7 2 false 2 = 0 by decide +kernel)) (show (⟨#[97]⟩ : ByteArray) ≠ ⟨#[98]⟩ by decide) ⟨rfl, rfl⟩).1 ((share_dec _ _).2 (by show shareN 0 8 false 7 2 false = true; decide +kernel))] at hF
  replace hF : Fr _ (_ :: _) _ := hF
  replace hb5 := hb4.trans (hb5.mono hb4.size)
  clear hin r1 r2 hR3 hb1 hb2 hb3 hb4
  repeat (first | refine c_seq ?_ | refine c_region _ ?_ | refine wpList_nil ?_ | refine c_then ?_ | ((apply st hF); (exact d_assign); clear hF; clear a; intro a hF))
  refine stc hF (one_ok w5 ⟨#[97]⟩ 0 8) cal30 ⟨rfl, rfl, rfl, trivial⟩ (k := fun a v w1 hR hF => ?_)
  obtain ⟨⟨g1, rfl, r1⟩, hb1⟩ := hR
  replace hb1 := hb5.trans (hb1.mono hb5.size)
  refine stc hF (one_ok w1 ⟨#[98]⟩ 8 2) cal30 ⟨rfl, rfl, rfl, trivial⟩ (k := fun a v w2 hR hF => ?_)
  obtain ⟨⟨g2, rfl, r2⟩, hb2⟩ := hR
  replace r1 := r1.below hb2
  replace hb2 := hb1.trans (hb2.mono hb1.size)
  refine st hF (d_buildSS [(Sig.cells (oneS ⟨#[97]⟩ 0 8 g1)).toArray, (Sig.cells (oneS ⟨#[98]⟩ 8 2 g2)).toArray] (und _ _ rfl) inf38 (by decide) (by decide) (by decide) rfl (by simp [Sig.cells]) ⟨rfl, rfl, rfl, rfl, trivial⟩) rfl (fun a hF => ?_)
  have hb3 := below_alloc w2 (.cells (([(Sig.cells (oneS ⟨#[97]⟩ 0 8 g1)).toArray, (Sig.cells (oneS ⟨#[98]⟩ 8 2 g2)).toArray]).flatMap fun u => u.toList).toArray 38)
  have hR3 := rdS_alloc w2 19 Sig.cells sigc_len [oneS ⟨#[97]⟩ 0 8 g1, oneS ⟨#[98]⟩ 8 2 g2] 38 (([(Sig.cells (oneS ⟨#[97]⟩ 0 8 g1)).toArray, (Sig.cells (oneS ⟨#[98]⟩ 8 2 g2)).toArray]).flatMap fun u => u.toList).toArray (by simp)
  generalize w2.alloc _ = w3 at *
  replace r1 := r1.below hb3
  replace r2 := r2.below hb3
  replace hb3 := hb2.trans (hb3.mono hb2.size)
  refine stc hF (two_ok w3 _ 2 2) cal29 ⟨rfl, trivial⟩ (k := fun a v w4 hR hF => ?_)
  obtain ⟨rfl, hb4⟩ := hR
  have hin := two_in (r1.below hb4) (r2.below hb4) (hR3.below hb4)
  replace hb4 := hb3.trans (hb4.mono hb3.size)
  refine stc hF (cmsg_ok w4 _ _ hin one_bnds (hT.below hb4)) cal10 ⟨rfl, trivial⟩ (k := fun a v w6 hR hF => ?_)
  obtain ⟨rfl, hb6⟩ := hR
  rw [(two_one (twoM_head _) (one_alone g1 wa (show Pl.whereE 0 8 false 2 = 0 by decide +kernel)) (one_alone g2 wb (show Pl.whereE 8 2 false 2 = 0 by decide +kernel)) (show (⟨#[97]⟩ : ByteArray) ≠ ⟨#[98]⟩ by decide) ⟨rfl, rfl⟩).2 (fun h => absurd ((share_dec _ _).1 h) (by show ¬ shareN 0 8 false 8 2 false = true; decide +kernel))] at hF
  replace hb6 := hb4.trans (hb6.mono hb4.size)
  rw [show atV (0, (none : Option Nat)).1 _ _ = Value.nilIface from if_pos rfl] at hF
  clear hin r1 r2 hR3 hb1 hb2 hb3 hb4
  repeat (((first | apply st hF | apply stg hF); (first | exact d_move | exact d_eqN (ifc _ rfl)); clear hF; clear a; intro a hF))
  refine stcg hF (num_f w6 17 0 0 (by decide) (by decide)) cal13 ⟨rfl, trivial⟩ (k := fun a v w7 hR hF => ?_)
  obtain ⟨rfl, hb7⟩ := hR
  repeat (first | refine wpList_nil ?_ | refine c_then ?_ | refine wp_ret ?_ | ((first | apply st hF | apply stg hF); (first | exact d_assign | exact d_pickT | exact d_cmpT); clear hF; clear a; intro a hF))
  exact ret1 hF rfl rfl ⟨rfl, hb6.trans (hb7.mono hb6.size)⟩
end Go.Proofs.YtjomihhpglojpaaDoor
end
section
/- Signals with their texts, zipped. Plain. -/
namespace Go.Proofs.YtjomihhpglojpaaDoor
open Go.RowKit
set_option linter.unusedSimpArgs false
set_option linter.unusedVariables false
attribute [local irreducible] wpList wpQuiet wpStill Code.wp Exit.then Exit.inBlock bodyPost Calls Does Does0
theorem msgE_idx {m : Msg} {ps : List SigT} {i : Nat} (h : (msgE m ps).2 = some i) : i < ps.length := by
  unfold msgE at h
  split at h
  · cases h
  · unfold thenF at h
    split at h
    · rename_i k hk
      cases h
      exact (of_some hk).1
    · split at h
      · rename_i k hk
        cases h
        exact (of_some hk).1
      · split at h
        · rename_i k hk
          cases h
          exact (of_some hk).1
        · cases h
/-- The signals with their texts, zipped. -/
def zipP (ls : List Sig) (ps : List SigT) : List SigT := ls.zip (ps.map (·.2))
theorem zipP_len {ls : List Sig} {ps : List SigT} (h : ls.length = ps.length) : (zipP ls ps).length = ps.length := by simp [zipP, h]
theorem zipP_sg {ls : List Sig} {ps : List SigT} (h : ls.length = ps.length) {i : Nat} (hi : i < ps.length) : sg (zipP ls ps) i = ls.getD i sigM := by
  rw [sg_lt (by rw [zipP_len h]; exact hi)]
  simp [zipP, List.getD, h, hi]
theorem zipP_tx {ls : List Sig} {ps : List SigT} (h : ls.length = ps.length) {i : Nat} (hi : i < ps.length) : tx (zipP ls ps) i = tx ps i := by
  rw [tx_lt (by rw [zipP_len h]; exact hi), tx_lt hi]
  simp [zipP]
theorem zipP_map {ls : List Sig} {ps : List SigT} (h : ls.length = ps.length) : (zipP ls ps).map (·.1) = ls := by
  unfold zipP
  exact List.map_fst_zip (by simp [h])
end Go.Proofs.YtjomihhpglojpaaDoor
end
section
/- Copies of texts, signals and messages, walked. -/
namespace Go.Proofs.YtjomihhpglojpaaDoor
open Go.RowKit
set_option linter.unusedSimpArgs false
set_option linter.unusedVariables false
attribute [local irreducible] wpList wpQuiet wpStill Code.wp Exit.then Exit.inBlock bodyPost Calls Does Does0
set_option maxRecDepth 100000
theorem own_geC {w : World} {base : Nat} {e : TypeId} {s n : Nat} {v : Value} {xs : List Value} (h : w.ownsRow base e s v n xs) {b : Nat} (hb : v.ownBlock = some b) : base ≤ b ∧ b < w.heap.size := by
  refine ⟨?_, (h.lt _ hb).2⟩
  rcases h.2 with ⟨rfl, _⟩ | ⟨g', cap', cur, rfl, h1, _⟩
  · cases hb
  · cases hb; exact h1
def CopyT (base : Nat) (w : World) (ao : Option Addr) (n c : Nat) (ss : List ByteArray) : Prop := w.ownsRow base 9 1 (.slice ao n c) n (ss.map .string)
def Sig.cp (s : Sig) (ao : Option Addr) (c : Nat) : Sig := { s with toA := ao, toC := c }
set_option maxHeartbeats 4000000 in
theorem copy_texts (w : World) (xs : List ByteArray) (ao : Option Addr) (n c : Nat) (hn : xs.length = n) (hR : Rd w ao .string xs) (hb : n * 16 ≤ 140737488351232) :
    Ret Tryd.prog 59 [.slice ao n c].toArray w (fun v w' => ∃ ao' c', v = .slice ao' n c' ∧ CopyT w.heap.size w' ao' n c' xs ∧ Below w.heap.size w w') := by
  subst hn
  refine enter1 Tryd.func59 rfl 18 rfl 19 rfl (fun a hF => ?_)
  repeat (first | refine c_seq ?_ | refine c_block ?_ | refine c_region _ ?_ | refine wpList_nil ?_ | refine c_then ?_ | ((apply st hF); (exact d_assign); clear hF; clear a; intro a hF))
  refine c_loop (fun q a wr => ∃ k ao' cap', k ≤ xs.length ∧ q = xs.length - k ∧ Fr 19 [(0, .slice ao xs.length c), (3, .slice ao' k cap'), (4, .int .i64 (k : Nat))] a ∧
    CopyT w.heap.size wr ao' k cap' (xs.take k) ∧ Below w.heap.size w wr) xs.length
    ⟨0, none, 0, by omega, rfl, hF.keep' ⟨rfl, rfl, rfl, trivial⟩, World.ownsRow_nil _ _ _ _, Below.refl _ _⟩ ?_
  clear hF a
  rintro q a wr ⟨k, ao', cap', hk, rfl, hF, hown, hbel⟩
  have hsz := hbel.size
  by_cases hlt : k < xs.length
  · obtain ⟨b, o, hao, hc⟩ := hR k hlt
    replace hc : wr.cell? ⟨b, o + k, none⟩ = some (.string xs[k]) := (hbel.cell (p := ⟨b, o + k, none⟩) (World.block_lt_of_cell? w _ hc)).trans hc
    rw [hao] at hF
    repeat (first | refine c_seq ?_ | refine c_block ?_ | refine c_region _ ?_ | refine wpList_nil ?_ | refine c_then ?_ | refine wp_skip ?_ | ((apply st hF); (first | exact d_move | exact d_cmpT | exact d_len (und _ _ rfl) | exact d_indexAddr1 (und _ _ rfl) (isz _ _ rfl) | exact d_load (und _ _ rfl) hc); clear hF; clear a; intro a hF) | (apply c_cond_t hF; exact rfl; first | exact rfl | assumption))
    refine st_push hF (und _ _ rfl) inf9 rfl hown (by omega) (by unfold maxLen; omega) hsz (k := fun a ao2 cap2 w2 hown2 hgr hF => ?_)
    have hb2 := below_own hbel hsz hown hgr
    repeat (first | refine c_region _ ?_ | refine wpList_nil ?_ | refine c_then ?_ | refine c_in ?_ | ((apply st hF); (first | exact d_move | exact d_assign | exact d_add); clear hF; clear a; intro a hF))
    refine ⟨xs.length - (k + 1), by omega, k + 1, ao2, cap2, by omega, rfl, hao.symm ▸ hF.keep' ⟨rfl, rfl, rfl, trivial⟩, ?_, hb2⟩
    unfold CopyT
    rw [List.take_succ_eq_append_getElem hlt, List.map_append]
    exact hown2
  · obtain rfl : k = xs.length := by omega
    repeat (first | refine c_seq ?_ | refine c_region _ ?_ | refine wpList_nil ?_ | refine c_then ?_ | refine c_then_exit ?_ | refine c_in_hit ?_ | refine wp_exit ?_ | refine wp_ret ?_ | ((apply st hF); (first | exact d_move | exact d_assign | exact d_cmpF | exact d_len (und _ _ rfl)); clear hF; clear a; intro a hF) | (apply c_cond_f hF; exact rfl; first | exact rfl | assumption))
    rw [List.take_length] at hown
    exact ret1 hF rfl rfl ⟨ao', cap', rfl, hown, hbel⟩
set_option maxHeartbeats 4000000 in
theorem copy_signal (w : World) (s : Sig) (ss : List ByteArray) (hs : SigIn w s ss) :
    Ret Tryd.prog 62 [.agg (Sig.cells s).toArray].toArray w (fun v w' => ∃ ao c, v = .agg (Sig.cells (s.cp ao c)).toArray ∧ CopyT w.heap.size w' ao s.toN c ss ∧ Below w.heap.size w w') := by
  refine enter1 Tryd.func62 rfl 9 rfl 10 rfl (fun a hF => ?_)
  repeat (first | refine c_seq ?_ | refine c_region _ ?_)
  refine st_box hF (cs := (Sig.cells s).toArray) rfl (k := fun a w1 hg1 hgr1 hsz1 hF => ?_)
  refine st_alloc hF inf38 (k := fun a w2 hg2 hgr2 hsz2 hF => ?_)
  have hb2 : Below w.heap.size w w2 := ((Below.refl _ w).grown hgr1 (Nat.le_refl _) (fun k hk => by cases hk)).grown hgr2 (by omega) (fun k hk => by cases hk)
  have hg12 := blk_kept hg1 hgr2 (by simp)
  repeat (first | refine c_seq ?_ | refine c_region _ ?_ | refine wpList_nil ?_ | refine c_then ?_ | ((apply st hF); (exact d_loadAgg (agg _ rfl) (isz _ _ rfl) rfl (cells_at hg12)); clear hF; clear a; intro a hF))
  refine st_alloc hF inf38 (k := fun a w3 hg3 hgr3 hsz3 hF => ?_)
  have hb3 : Below w.heap.size w w3 := hb2.grown hgr3 (by omega) (fun k hk => by cases hk)
  have hg13 := blk_kept hg12 hgr3 (by simp)
  have hg23 := blk_kept hg2 hgr3 (by simp)
  refine st_storeAgg hF (cs := (Sig.cells s).toArray) (isz _ _ rfl) rfl rfl hg3 (sig_cells s) (k := fun a w4 hg4 hgr4 hsz4 hF => ?_)
  have hb4 : Below w.heap.size w w4 := hb3.grown hgr4 (by omega) (fun k hk => by cases hk; omega)
  have hg14 := blk_kept hg13 hgr4 (by simp; omega)
  have hg24 := blk_kept hg23 hgr4 (by simp; omega)
  have c18 := cell_at (i := 18) hg14 rfl
  repeat (first | refine c_seq ?_ | refine c_region _ ?_ | refine wpList_nil ?_ | refine c_then ?_ | ((apply st hF); (first | exact d_fieldAddr (fld _ _ _ _ rfl) (isz _ _ rfl) | exact d_load (und _ _ rfl) c18); clear hF; clear a; intro a hF))
  refine stc hF (copy_texts w4 ss s.toA _ s.toC hs.len (hs.rd.below hb4) (by have := hs.bytes; have := hs.cap; omega)) cal59 ⟨rfl, trivial⟩ (k := fun a v w5 hR hF => ?_)
  obtain ⟨ao, cap, rfl, hown, hb5⟩ := hR
  have hb5' : Below w.heap.size w w5 := hb4.trans (hb5.mono (by omega))
  have hg15 : w5.heap[w.heap.size]? = _ := (hb5.block _ (lt_at hg14)).trans hg14
  have hg25 : w5.heap[w1.heap.size]? = _ := (hb5.block _ (lt_at hg24)).trans hg24
  have hg35 : w5.heap[w2.heap.size]? = _ := (hb5.block _ (lt_at hg4)).trans hg4
  have hz5 := hb5.size
  repeat (((apply st hF); (exact d_fieldAddr (fld _ _ _ _ rfl) (isz _ _ rfl)); clear hF; clear a; intro a hF))
  refine st_store hF (isz _ _ rfl) hg35 (i := 18) (by show 18 < 19; decide) rfl rfl rfl (k := fun a w6 hg6 hgr6 hsz6 hF => ?_)
  have hown6 : CopyT w4.heap.size w6 ao s.toN cap ss := own_keptB hown hgr6 (fun k hk e => by have := (own_geC hown hk).1; simp only [Option.some.injEq] at e; omega)
  have hb6 : Below w.heap.size w w6 := hb5'.grown hgr6 (by omega) (fun k hk => by cases hk; omega)
  have hg26 := blk_kept hg25 hgr6 (by simp; omega)
  repeat (first | refine c_seq ?_ | refine c_region _ ?_ | refine wpList_nil ?_ | refine c_then ?_ | ((apply st hF); (exact d_loadAgg (agg _ rfl) (isz _ _ rfl) rfl (cells_at hg6)); clear hF; clear a; intro a hF))
  refine st_storeAgg hF (cs := (Sig.cells (s.cp ao cap)).toArray) (isz _ _ rfl) rfl rfl hg26 (sig_cells _) (k := fun a w7 hg7 hgr7 hsz7 hF => ?_)
  have hown7 : CopyT w4.heap.size w7 ao s.toN cap ss := own_keptB hown6 hgr7 (fun k hk e => by have := (own_geC hown hk).1; simp only [Option.some.injEq] at e; omega)
  have hb7 : Below w.heap.size w w7 := hb6.grown hgr7 (by omega) (fun k hk => by cases hk; omega)
  repeat (first | refine wpList_nil ?_ | refine c_then ?_ | refine wp_ret ?_)
  exact ret_c hF rfl (agg _ rfl) (isz _ _ rfl) hg7 rfl ⟨ao, cap, rfl, own_rebase hown7 fun k hk => (by have := (own_geC hown hk).1; omega), hb7⟩
/-- Signal number i, copied. -/
def CopyOk (base : Nat) (w : World) (ps : List SigT) (ls : List Sig) (i : Nat) : Prop := ∃ p ao c, ps[i]? = some p ∧ ls[i]? = some (p.1.cp ao c) ∧ CopyT base w ao p.1.toN c p.2
theorem CopyOk.below {base : Nat} {w w' : World} {ps : List SigT} {ls : List Sig} {i : Nat} (h : CopyOk base w ps ls i) (hb : Below w.heap.size w w') : CopyOk base w' ps ls i := by
  obtain ⟨p, ao, c, h1, h2, h3⟩ := h
  exact ⟨p, ao, c, h1, h2, own_below h3 hb⟩
theorem CopyOk.keptO {base : Nat} {w w' : World} {ps : List SigT} {ls : List Sig} {i : Nat} (h : CopyOk base w ps ls i) {base' e' s' n' : Nat} {v' : Value} {xs' : List Value} (h' : w.ownsRow base' e' s' v' n' xs') (hne : 9 ≠ e') (hgr : w.grownBy w' v'.ownBlock) : CopyOk base w' ps ls i := by
  obtain ⟨p, ao, c, h1, h2, hown⟩ := h
  exact ⟨p, ao, c, h1, h2, own_keptO hown h' hne hgr⟩
theorem CopyOk.rebase {base base' : Nat} {w : World} {ps : List SigT} {ls : List Sig} {i : Nat} (h : CopyOk base w ps ls i) (hb : base' ≤ base) : CopyOk base' w ps ls i := by
  obtain ⟨p, ao, c, h1, h2, hown⟩ := h
  exact ⟨p, ao, c, h1, h2, own_rebase hown fun k hk => (by have := (own_geC hown hk).1; omega)⟩
theorem CopyOk.keptB {base : Nat} {w w' : World} {ps : List SigT} {ls : List Sig} {i : Nat} (h : CopyOk base w ps ls i) {g : Nat} (hgr : w.grownBy w' (some g)) (hg : g < base) : CopyOk base w' ps ls i := by
  obtain ⟨p, ao, c, h1, h2, hown⟩ := h
  exact ⟨p, ao, c, h1, h2, own_keptB hown hgr fun k hk e => (by have := (own_geC hown hk).1; simp only [Option.some.injEq] at e; omega)⟩
structure CopyS (base : Nat) (w : World) (ao : Option Addr) (cap : Nat) (ps : List SigT) (ls : List Sig) : Prop where
  len : ls.length = ps.length
  own : w.ownsRow base 38 19 (.slice ao ps.length cap) ps.length (ls.flatMap Sig.cells)
  ok : ∀ i, i < ps.length → CopyOk base w ps ls i
theorem CopyS.below {base : Nat} {w w' : World} {ao : Option Addr} {cap : Nat} {ps : List SigT} {ls : List Sig} (h : CopyS base w ao cap ps ls) (hb : Below w.heap.size w w') : CopyS base w' ao cap ps ls := ⟨h.len, own_below h.own hb, fun i hi => (h.ok i hi).below hb⟩
theorem CopyS.keptB {base : Nat} {w w' : World} {ao : Option Addr} {cap : Nat} {ps : List SigT} {ls : List Sig} (h : CopyS base w ao cap ps ls) {g : Nat} (hgr : w.grownBy w' (some g)) (hg : g < base) : CopyS base w' ao cap ps ls :=
  ⟨h.len, own_keptB h.own hgr fun k hk e => (by have := (own_geC h.own hk).1; simp only [Option.some.injEq] at e; omega), fun i hi => (h.ok i hi).keptB hgr hg⟩
theorem CopyS.rebase {base base' : Nat} {w : World} {ao : Option Addr} {cap : Nat} {ps : List SigT} {ls : List Sig} (h : CopyS base w ao cap ps ls) (hb : base' ≤ base) : CopyS base' w ao cap ps ls :=
  ⟨h.len, own_rebase h.own fun k hk => (by have := (own_geC h.own hk).1; omega), fun i hi => (h.ok i hi).rebase hb⟩
set_option maxHeartbeats 4000000 in
theorem copy_signals (w : World) (ps : List SigT) (ao : Option Addr) (n c : Nat) (hs : SigsIn w ao n c ps) :
    Ret Tryd.prog 36 [.slice ao n c].toArray w (fun v w' => ∃ ao' cap ls, v = .slice ao' n cap ∧ CopyS w.heap.size w' ao' cap ps ls ∧ Below w.heap.size w w') := by
  obtain ⟨hn, hrd, heach, hcap, hby⟩ := hs
  subst hn
  refine enter1 Tryd.func36 rfl 21 rfl 22 rfl (fun a hF => ?_)
  repeat (first | refine c_seq ?_ | refine c_block ?_ | refine c_region _ ?_ | refine wpList_nil ?_ | refine c_then ?_ | ((apply st hF); (exact d_assign); clear hF; clear a; intro a hF))
  refine c_loop (fun q a wr => ∃ k ao' cap' ls, k ≤ ps.length ∧ q = ps.length - k ∧ Fr 22 [(0, .slice ao ps.length c), (3, .slice ao' k cap'), (4, .int .i64 (k : Nat))] a ∧ ls.length = k ∧
    wr.ownsRow w.heap.size 38 19 (.slice ao' k cap') k (ls.flatMap Sig.cells) ∧ (∀ i, i < k → CopyOk w.heap.size wr ps ls i) ∧ Below w.heap.size w wr) ps.length
    ⟨0, none, 0, [], by omega, rfl, hF.keep' ⟨rfl, rfl, rfl, trivial⟩, rfl, by simpa using World.ownsRow_nil _ _ _ _, fun i hi => absurd hi (Nat.not_lt_zero _), Below.refl _ _⟩ ?_
  clear hF a
  rintro q a wr ⟨k, ao', cap', ls, hk, rfl, hF, hll, hown, hok, hbel⟩
  have hsz := hbel.size
  by_cases hlt : k < ps.length
  · obtain ⟨b, o, hao, hc⟩ := hrd k (by simpa using hlt)
    rw [at_map hlt] at hc
    rw [hao] at hF
    have hc' : ∀ q v, (Sig.cells ps[k].1)[q]? = some v → wr.cell? ⟨b, o + k * 19 + q, none⟩ = some v := fun q v hq => (hbel.cell (p := ⟨b, o + k * 19 + q, none⟩) (World.block_lt_of_cell? w _ (hc q v hq))).trans (hc q v hq)
    have hin := heach ps[k] (List.getElem_mem hlt)
    repeat (first | refine c_seq ?_ | refine c_block ?_ | refine c_region _ ?_ | refine wpList_nil ?_ | refine c_then ?_ | refine wp_skip ?_ | ((apply st hF); (first | exact d_move | exact d_cmpT | exact d_len (und _ _ rfl) | exact d_indexAddrS (und _ _ rfl) (isz _ _ rfl) | exact d_loadAgg (agg _ rfl) (isz _ _ rfl) rfl (arr_cells hc')); clear hF; clear a; intro a hF) | (apply c_cond_t hF; exact rfl; first | exact rfl | assumption))
    refine stc hF (copy_signal wr ps[k].1 ps[k].2 (hin.below hbel)) cal62 ⟨rfl, trivial⟩ (k := fun a v w1 hR hF => ?_)
    obtain ⟨ag, cap, rfl, hl1, hb1⟩ := hR
    have hB1 : Below w.heap.size w w1 := hbel.trans (hb1.mono hsz)
    have hown1 := own_below hown hb1
    refine st_alloc hF inf38 (k := fun a w2 hg2 hgr2 hsz2 hF => ?_)
    have hb2 : Below w1.heap.size w1 w2 := (Below.refl _ w1).grown hgr2 (Nat.le_refl _) (fun k hk => by cases hk)
    refine st_storeAgg hF (cs := (Sig.cells (ps[k].1.cp ag cap)).toArray) (isz _ _ rfl) rfl rfl hg2 (sig_cells _) (k := fun a w3 hg3 hgr3 hsz3 hF => ?_)
    have hb3 : Below w1.heap.size w1 w3 := hb2.grown hgr3 (by omega) (fun k hk => by cases hk; exact Nat.le_refl _)
    have hB3 : Below w.heap.size w w3 := hB1.trans (hb3.mono hB1.size)
    have hown3 := own_below hown1 hb3
    have hl3 : CopyT w.heap.size w3 ag ps[k].1.toN cap ps[k].2 := own_rebase (own_below hl1 hb3) fun k hk => (by have := (own_geC hl1 hk).1; omega)
    have hok3 : ∀ i, i < k → CopyOk w.heap.size w3 ps ls i := fun i hi => ((hok i hi).below hb1).below hb3
    repeat (first | refine c_region _ ?_ | refine wpList_nil ?_ | refine c_then ?_ | ((apply st hF); (first | exact d_move | exact d_loadAgg (agg _ rfl) (isz _ _ rfl) rfl (cells_at hg3)); clear hF; clear a; intro a hF))
    refine st_pushS hF (us := (Sig.cells (ps[k].1.cp ag cap)).toArray) (und _ _ rfl) inf38 rfl (by decide) (by decide) rfl (sig_cells _) hown3 (by omega) (by unfold maxLen; omega) hB3.size (k := fun a ao2 cap2 w4 hown4 hgr4 hat hF => ?_)
    have hB4 := below_own hB3 hB3.size hown3 hgr4
    repeat (first | refine c_region _ ?_ | refine wpList_nil ?_ | refine c_then ?_ | refine c_in ?_ | ((apply st hF); (first | exact d_move | exact d_assign | exact d_add); clear hF; clear a; intro a hF))
    refine ⟨ps.length - (k + 1), by omega, k + 1, ao2, cap2, ls ++ [ps[k].1.cp ag cap], by omega, rfl, hao.symm ▸ hF.keep' ⟨rfl, rfl, rfl, trivial⟩, by simp [hll], by simpa using hown4, fun i hi => ?_, hB4⟩
    by_cases hik : i < k
    · obtain ⟨p, g', c', h1, h2, h3⟩ := (hok3 i hik).keptO hown3 (by decide) hgr4
      exact ⟨p, g', c', h1, by rw [List.getElem?_append_left (by omega)]; exact h2, h3⟩
    · obtain rfl : i = k := by omega
      exact ⟨ps[i], ag, cap, by simp [hlt], by rw [List.getElem?_append_right (by omega), hll]; simp, own_keptO hl3 hown3 (by decide) hgr4⟩
  · obtain rfl : k = ps.length := by omega
    repeat (first | refine c_seq ?_ | refine c_region _ ?_ | refine wpList_nil ?_ | refine c_then ?_ | refine c_then_exit ?_ | refine c_in_hit ?_ | refine wp_exit ?_ | refine wp_ret ?_ | ((apply st hF); (first | exact d_move | exact d_assign | exact d_cmpF | exact d_len (und _ _ rfl)); clear hF; clear a; intro a hF) | (apply c_cond_f hF; exact rfl; first | exact rfl | assumption))
    exact ret1 hF rfl rfl ⟨ao', cap', ls, rfl, ⟨hll, hown, hok⟩, hbel⟩
def Msg.cp (m : Msg) (ao : Option Addr) (c : Nat) : Msg := { m with sg := ao, sgC := c }
set_option maxHeartbeats 4000000 in
theorem copy_message (w : World) (m : Msg) (ps : List SigT) (hs : MsgIn w m ps) :
    Ret Tryd.prog 12 [.agg (Msg.cells m).toArray].toArray w (fun v w' => ∃ ao cap ls, v = .agg (Msg.cells (m.cp ao cap)).toArray ∧ CopyS w.heap.size w' ao cap ps ls ∧ Below w.heap.size w w') := by
  have hlen := hs.len
  refine enter1 Tryd.func12 rfl 9 rfl 10 rfl (fun a hF => ?_)
  repeat (first | refine c_seq ?_ | refine c_region _ ?_)
  refine st_box hF (cs := (Msg.cells m).toArray) rfl (k := fun a w1 hg1 hgr1 hsz1 hF => ?_)
  refine st_alloc hF inf27 (k := fun a w2 hg2 hgr2 hsz2 hF => ?_)
  have hb2 : Below w.heap.size w w2 := ((Below.refl _ w).grown hgr1 (Nat.le_refl _) (fun k hk => by cases hk)).grown hgr2 (by omega) (fun k hk => by cases hk)
  have hg12 := blk_kept hg1 hgr2 (by simp)
  repeat (first | refine c_seq ?_ | refine c_region _ ?_ | refine wpList_nil ?_ | refine c_then ?_ | ((apply st hF); (exact d_loadAgg (agg _ rfl) (isz _ _ rfl) rfl (cells_at hg12)); clear hF; clear a; intro a hF))
  refine st_alloc hF inf27 (k := fun a w3 hg3 hgr3 hsz3 hF => ?_)
  have hb3 : Below w.heap.size w w3 := hb2.grown hgr3 (by omega) (fun k hk => by cases hk)
  have hg13 := blk_kept hg12 hgr3 (by simp)
  have hg23 := blk_kept hg2 hgr3 (by simp)
  refine st_storeAgg hF (cs := (Msg.cells m).toArray) (isz _ _ rfl) rfl rfl hg3 (msg_cells m) (k := fun a w4 hg4 hgr4 hsz4 hF => ?_)
  have hb4 : Below w.heap.size w w4 := hb3.grown hgr4 (by omega) (fun k hk => by cases hk; omega)
  have hg14 := blk_kept hg13 hgr4 (by simp; omega)
  have hg24 := blk_kept hg23 hgr4 (by simp; omega)
  have c7 := cell_at (i := 7) hg14 rfl
  repeat (first | refine c_seq ?_ | refine c_region _ ?_ | refine wpList_nil ?_ | refine c_then ?_ | ((apply st hF); (first | exact d_fieldAddr (fld _ _ _ _ rfl) (isz _ _ rfl) | exact d_load (und _ _ rfl) c7); clear hF; clear a; intro a hF))
  refine stc hF (copy_signals w4 ps m.sg _ m.sgC (SigsIn.below hs hb4)) cal36 ⟨rfl, trivial⟩ (k := fun a v w5 hR hF => ?_)
  obtain ⟨ao, cap, ls, rfl, hcs, hb5⟩ := hR
  have hb5' : Below w.heap.size w w5 := hb4.trans (hb5.mono (by omega))
  have hg15 : w5.heap[w.heap.size]? = _ := (hb5.block _ (lt_at hg14)).trans hg14
  have hg25 : w5.heap[w1.heap.size]? = _ := (hb5.block _ (lt_at hg24)).trans hg24
  have hg35 : w5.heap[w2.heap.size]? = _ := (hb5.block _ (lt_at hg4)).trans hg4
  have hz5 := hb5.size
  repeat (((apply st hF); (exact d_fieldAddr (fld _ _ _ _ rfl) (isz _ _ rfl)); clear hF; clear a; intro a hF))
  refine st_store hF (isz _ _ rfl) hg35 (i := 7) (by show 7 < 8; decide) rfl rfl rfl (k := fun a w6 hg6 hgr6 hsz6 hF => ?_)
  have hb6 : Below w.heap.size w w6 := hb5'.grown hgr6 (by omega) (fun k hk => by cases hk; omega)
  have hg26 := blk_kept hg25 hgr6 (by simp; omega)
  have hcs6 := hcs.keptB hgr6 (by omega)
  repeat (first | refine c_seq ?_ | refine c_region _ ?_ | refine wpList_nil ?_ | refine c_then ?_ | ((apply st hF); (exact d_loadAgg (agg _ rfl) (isz _ _ rfl) rfl (cells_at hg6)); clear hF; clear a; intro a hF))
  refine st_storeAgg hF (cs := (Msg.cells (m.cp ao cap)).toArray) (isz _ _ rfl) rfl rfl hg26 (msg_cells _) (k := fun a w7 hg7 hgr7 hsz7 hF => ?_)
  have hb7 : Below w.heap.size w w7 := hb6.grown hgr7 (by omega) (fun k hk => by cases hk; omega)
  have hcs7 := hcs6.keptB hgr7 (by omega)
  repeat (first | refine wpList_nil ?_ | refine c_then ?_ | refine wp_ret ?_)
  exact ret_c hF rfl (agg _ rfl) (isz _ _ rfl) hg7 rfl ⟨ao, cap, ls, rfl, hcs7.rebase (by omega), hb7⟩
/-- What the copies read as. -/
def copyP (ps : List SigT) (ls : List Sig) : List SigT := (List.range ps.length).map fun i => (ls.getD i sigM, (ps.getD i (sigM, [])).2)
theorem copyP_len (ps : List SigT) (ls : List Sig) : (copyP ps ls).length = ps.length := by simp [copyP]
end Go.Proofs.YtjomihhpglojpaaDoor
end
