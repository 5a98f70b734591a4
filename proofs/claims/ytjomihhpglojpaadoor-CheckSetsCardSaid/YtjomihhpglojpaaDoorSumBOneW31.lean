/- Laid together by a program of mine: BuildSS OneW. -/
import Derived.Test.YtjomihhpglojpaaDoorSumBOneW9
import Derived.Great.FillDense
import Derived.Great.BuildSlice
import Derived.Test.YtjomihhpglojpaaDoorSumBOneW30
import Derived.Test.YtjomihhpglojpaaDoorSumBOneW7
set_option linter.unusedSimpArgs false
set_option linter.unusedVariables false
section
/- A slice of given structs, made anew. Plain lemmas over any program. -/
namespace Go.Proofs.YtjomihhpglojpaaDoor
open Go.RowKit
section
variable {P : Program} {ops : Array Oper} {Q : Exit → Act → World → Prop} {a : Act} {w w' : World} {rest : List Oper} {N : Nat} {l : List (Nat × Value)}
theorem d_buildSS {t e ty : TypeId} {n sz : Nat} {ps : List (Nat × Operand)} (us : List (Array Value)) {z : Value} {by_ : Nat} (hU : P.underlying t = some (.slice e)) (hi : (P.info? e).map (fun i => (i.zero, i.size, i.bytes)) = some (some z, sz, by_))
    (h0 : 0 < sz) (h1 : n * sz ≤ 16777216) (hn0 : 0 < n) (hn : us.length = n) (hus : ∀ u ∈ us, u.size = sz) (hv : EvP l ps (((us.map Value.agg).zipIdx 0).map fun x => (x.2, x.1))) :
    Does P l w (.buildSlice t n ps.toArray) ty (.slice (some ⟨w.heap.size, 0, none⟩) n n) (w.alloc (.cells (us.flatMap fun u => u.toList).toArray e)) := by
  intro ρ hρ d pos af g
  obtain ⟨i, g1, g2, g3, g4⟩ := info_parts hi
  subst g3
  have e1 := EvP.map hρ hv
  have hf := Great.fill_whole (s := i.size) h0 (us.map Value.agg) ((Array.range (n * i.size)).map (z.cells[· % z.cells.size]!)) (by intro v hv; obtain ⟨u, hu, rfl⟩ := List.mem_map.1 hv; exact hus u hu) (by simp [hn])
  have e2 : ((us.map Value.agg).flatMap fun v => v.cells.toList) = us.flatMap fun u => u.toList := by
    rw [List.flatMap_map]
    rfl
  rw [e2] at hf
  have h3 : n * i.size ≠ 0 := Nat.mul_ne_zero (by omega) (by omega)
  have hr := run_buildSlice (P := P) w t e n (((us.map Value.agg).zipIdx 0).map fun x => (x.2, x.1)).toArray _ i z hU g1 g2 (by omega) h3 (by simpa using hf)
  simp only [execOp, List.map_toArray, Sem.run_bind]
  rw [e1, hr]
  rfl
theorem rdS_alloc {α : Type} (w : World) (sz : Nat) (enc : α → List Value) (he : ∀ x, (enc x).length = sz) (xs : List α) (e : TypeId) (cs : Array Value) (hc : cs = (xs.flatMap enc).toArray) : RdS (w.alloc (.cells cs e)) (some ⟨w.heap.size, 0, none⟩) sz enc xs := by
  subst hc
  intro i hi
  refine ⟨_, _, rfl, fun q v hq => cell_at (heap_alloc_new w _) ?_⟩
  have hlt : q < sz := by
    have := (List.getElem?_eq_some_iff.1 hq).1
    rw [he] at this; exact this
  have := flat_get he xs i hi q hlt
  rw [List.getElem?_toArray, Nat.zero_add, this]
  exact hq
end
end Go.Proofs.YtjomihhpglojpaaDoor
end
section
/- one, two and works, walked: the laws' own example. -/
namespace Go.Proofs.YtjomihhpglojpaaDoor
open Go.RowKit
set_option linter.unusedSimpArgs false
set_option linter.unusedVariables false
attribute [local irreducible] wpList wpQuiet wpStill Code.wp Exit.then Exit.inBlock bodyPost Calls Does Does0
set_option maxRecDepth 100000
def oneS (name : ByteArray) (start size : Int) (g : Nat) : Sig := ⟨0, 0, name, 0, 0, start, size, false, false, 1, 1, 0, 1, 0, 1, 0, 1, ⟨#[]⟩, some ⟨g, 0, none⟩, 1, 1⟩
def txA : List ByteArray := [⟨#[65]⟩]
def twoM (ao : Option Addr) (n c : Nat) : Msg := ⟨0, 0, 5, false, ⟨#[77]⟩, 2, ⟨#[65]⟩, ao, n, c⟩
theorem one_in {w : World} {name : ByteArray} {start size : Int} {g : Nat} (h : Rd w (some ⟨g, 0, none⟩) .string txA) : SigIn w (oneS name start size g) txA := ⟨rfl, h, Nat.le_refl 1, (by show 1 * 16 ≤ 140737488351232; decide)⟩
theorem one_bnd (name : ByteArray) (start size : Int) (g : Nat) : SigB (oneS name start size g) := by
  constructor <;> (unfold oneS; dsimp only; omega)
theorem textE_empty : textE ⟨#[]⟩ = 0 := by
  unfold textE
  rw [if_neg (by decide), if_pos (show AllOk ⟨#[]⟩ from fun k hk => absurd hk (Nat.not_lt_zero _))]
theorem one_alone {name : ByteArray} {start size n : Int} (g : Nat) (h1 : wordB name = true) (h2 : Pl.whereE start size false n = 0) : aloneE (oneS name start size g) txA n = 0 := by
  unfold aloneE
  have e1 : rangedE (oneS name start size g) = 0 := by
    have : rangedE (oneS name start size g) = rangedE (oneS ⟨#[]⟩ 0 0 0) := rfl
    rw [this]; decide +kernel
  have e2 : ¬ roleB (oneS name start size g) := by unfold roleB oneS; dsimp only; omega
  have e3 : namesE txA = 0 := by decide +kernel
  have e4 : textE (oneS name start size g).unit = 0 := textE_empty
  rw [if_neg (by show ¬ wordB name = false; rw [h1]; decide), if_neg e2, if_neg (fun h => h h2), if_neg (fun h => h e1), if_neg (fun h => h e4), e3]
/-- Have two rows a bit in common? -/
def shareN (start size : Int) (mot : Bool) (start' size' : Int) (mot' : Bool) : Bool :=
  match Pl.bitsOfSig start size mot, Pl.bitsOfSig start' size' mot' with
  | .ok l, .ok m => l.any fun x => m.any fun y => decide (x = y)
  | _, _ => false
theorem share_dec (s t : Sig) : shareB s t ↔ shareN s.start s.size s.mot t.start t.size t.mot = true := by
  unfold shareB shareN
  constructor
  · rintro ⟨l, m, x, h1, h2, h3, h4⟩
    rw [h1, h2]
    exact List.any_eq_true.2 ⟨x, h3, List.any_eq_true.2 ⟨x, h4, decide_eq_true rfl⟩⟩
  · intro h
    split at h
    · rename_i l m h1 h2
      obtain ⟨x, hx, h⟩ := List.any_eq_true.1 h
      obtain ⟨y, hy, h⟩ := List.any_eq_true.1 h
      obtain rfl := of_decide_eq_true h
      exact ⟨l, m, x, h1, h2, hx, hy⟩
    · cases h
/-- A message of two signals of the kind that nothing is wrong with by themselves. -/
theorem two_one {m : Msg} {s t : Sig} {ss ts : List ByteArray} (hh : headE m = 0) (h1 : aloneE s ss m.size = 0) (h2 : aloneE t ts m.size = 0) (hn : s.name ≠ t.name) (hr : s.role = 0 ∧ t.role = 0) :
    (shareB s t → msgE m [(s, ss), (t, ts)] = (17, some 1)) ∧ (¬ shareB s t → msgE m [(s, ss), (t, ts)] = (0, none)) := by
  have g0 : sg [(s, ss), (t, ts)] 0 = s := rfl
  have g1 : sg [(s, ss), (t, ts)] 1 = t := rfl
  have k1 : ∀ j, j < [(s, ss), (t, ts)].length → oneE [(s, ss), (t, ts)] m.size j = 0 := by
    intro j hj
    rcases j with _ | _ | j
    · exact one_of h1 (fun k hk => absurd hk (Nat.not_lt_zero _)) (fun _ k hk => absurd hk (Nat.not_lt_zero _))
    · refine one_of h2 (fun k hk => ?_) (fun e => ?_)
      · obtain rfl : k = 0 := by omega
        exact hn
      · rw [g1, hr.2] at e; cases e
    · exact absurd (show j + 2 < 2 from hj) (by omega)
  have k2 : ∀ j, j < [(s, ss), (t, ts)].length → ¬ twoB [(s, ss), (t, ts)] j := by
    intro j hj hb
    have e := hb.1
    rcases j with _ | _ | j
    · rw [g0, hr.1] at e; cases e
    · rw [g1, hr.2] at e; cases e
    · exact absurd (show j + 2 < 2 from hj) (by omega)
  have k3 : ∀ j, j < 1 → ¬ meetB [(s, ss), (t, ts)] j := by
    rintro j hj ⟨k, hk, _⟩
    omega
  refine ⟨fun hs => msgE_meet hh k1 k2 (show 1 < 2 by decide) ⟨0, Nat.one_pos, ?_, hs⟩ k3, fun hs => msgE_ok hh k1 k2 fun j hj => ?_⟩
  · rw [g0, g1]; unfold togB; exact decide_eq_true (.inl (by rw [hr.1]; decide))
  · rcases j with _ | _ | j
    · exact k3 0 (by decide)
    · rintro ⟨k, hk, _, h⟩
      obtain rfl : k = 0 := by omega
      exact hs h
    · exact absurd (show j + 2 < 2 from hj) (by omega)
set_option maxHeartbeats 4000000 in
theorem one_ok (w : World) (name : ByteArray) (start size : Int) : Ret Tryd.prog 30 [.string name, .int .i64 start, .int .i64 size].toArray w (fun v w' => (∃ g, v = .agg (Sig.cells (oneS name start size g)).toArray ∧ Rd w' (some ⟨g, 0, none⟩) .string txA) ∧ Below w.heap.size w w') := by
  refine enter3 Tryd.func30 rfl 17 rfl 20 rfl (fun a hF => ?_)
  repeat (first | refine c_seq ?_ | refine c_block ?_ | refine c_region _ ?_ | refine wpList_nil ?_ | refine c_then ?_ | refine c_then_exit ?_ | refine c_then_ret ?_ | refine c_in ?_ | refine c_in_ret ?_ | refine c_in_hit ?_ | refine wp_skip ?_ | refine wp_exit ?_ | refine wp_ret ?_ | refine c_in_miss rfl ?_ | ((first | apply st hF | apply stg hF | apply s_step hF | apply s_stg hF); (first | exact d_move); clear hF; clear a; intro a hF) | ((first | apply stm hF | apply stu hF); clear hF; clear a; intro a hF) | (apply c_cond_t hF; exact rfl; first | exact rfl | assumption) | (apply c_cond_f hF; exact rfl; first | exact rfl | assumption) | refine s_nil ?_)
  refine st_alloc hF inf38 (k := fun a w1 hg1 hgr1 hsz1 hF => ?_)
  repeat (first | refine c_seq ?_ | refine c_block ?_ | refine c_region _ ?_ | refine wpList_nil ?_ | refine c_then ?_ | refine c_then_exit ?_ | refine c_then_ret ?_ | refine c_in ?_ | refine c_in_ret ?_ | refine c_in_hit ?_ | refine wp_skip ?_ | refine wp_exit ?_ | refine wp_ret ?_ | refine c_in_miss rfl ?_ | ((first | apply st hF | apply stg hF | apply s_step hF | apply s_stg hF); (first | exact d_move | exact d_build (vs := [(0, .int .i64 1), (1, .int .i64 1)]) (cells := #[.int .i64 1, .int .i64 1]) (by kernel_rfl) ⟨rfl, rfl, rfl, rfl, trivial⟩); clear hF; clear a; intro a hF) | ((first | apply stm hF | apply stu hF); clear hF; clear a; intro a hF) | (apply c_cond_t hF; exact rfl; first | exact rfl | assumption) | (apply c_cond_f hF; exact rfl; first | exact rfl | assumption) | refine s_nil ?_)
  refine st_alloc hF inf35 (k := fun a w2 hg2 hgr2 hsz2 hF => ?_)
  refine st_storeAgg hF (cs := #[.int .i64 1, .int .i64 1]) (isz _ _ rfl) rfl rfl hg2 (by simp [Value.oneCell']) (k := fun a w3 hg3 hgr3 hsz3 hF => ?_)
  repeat (first | refine c_seq ?_ | refine c_block ?_ | refine c_region _ ?_ | refine wpList_nil ?_ | refine c_then ?_ | refine c_then_exit ?_ | refine c_then_ret ?_ | refine c_in ?_ | refine c_in_ret ?_ | refine c_in_hit ?_ | refine wp_skip ?_ | refine wp_exit ?_ | refine wp_ret ?_ | refine c_in_miss rfl ?_ | ((first | apply st hF | apply stg hF | apply s_step hF | apply s_stg hF); (first | exact d_move | exact d_build (vs := [(1, .int .i64 1)]) (cells := #[.int .i64 0, .int .i64 1]) (by kernel_rfl) ⟨rfl, rfl, trivial⟩); clear hF; clear a; intro a hF) | ((first | apply stm hF | apply stu hF); clear hF; clear a; intro a hF) | (apply c_cond_t hF; exact rfl; first | exact rfl | assumption) | (apply c_cond_f hF; exact rfl; first | exact rfl | assumption) | refine s_nil ?_)
  refine st_alloc hF inf35 (k := fun a w4 hg4 hgr4 hsz4 hF => ?_)
  refine st_storeAgg hF (cs := #[.int .i64 0, .int .i64 1]) (isz _ _ rfl) rfl rfl hg4 (by simp [Value.oneCell']) (k := fun a w5 hg5 hgr5 hsz5 hF => ?_)
  have h1 : w5.heap[w.heap.size]? = some (.cells _ 38 (0, 0)) := blk_kept (blk_kept (blk_kept (blk_kept hg1 hgr2 (by simp)) hgr3 (by simp; omega)) hgr4 (by simp)) hgr5 (by simp; omega)
  have h3 : w5.heap[w1.heap.size]? = some (.cells _ 35 (0, 0)) := blk_kept (blk_kept hg3 hgr4 (by simp)) hgr5 (by simp; omega)
  have hb5 : Below w.heap.size w w5 := ((((Below.refl _ w).grown hgr1 (Nat.le_refl _) (fun k hk => by cases hk)).grown hgr2 (by omega) (fun k hk => by cases hk)).grown hgr3 (by omega) (fun k hk => by cases hk; omega)).grown hgr4 (by omega) (fun k hk => by cases hk) |>.grown hgr5 (by omega) (fun k hk => by cases hk; omega)
  repeat (first | refine c_seq ?_ | refine c_block ?_ | refine c_region _ ?_ | refine wpList_nil ?_ | refine c_then ?_ | refine c_then_exit ?_ | refine c_then_ret ?_ | refine c_in ?_ | refine c_in_ret ?_ | refine c_in_hit ?_ | refine wp_skip ?_ | refine wp_exit ?_ | refine wp_ret ?_ | refine c_in_miss rfl ?_ | ((first | apply st hF | apply stg hF | apply s_step hF | apply s_stg hF); (first | exact d_move | exact d_loadAgg (agg _ rfl) (isz _ _ rfl) rfl (cells_at h3) | exact d_loadAgg (agg _ rfl) (isz _ _ rfl) rfl (cells_at hg5)); clear hF; clear a; intro a hF) | ((first | apply stm hF | apply stu hF); clear hF; clear a; intro a hF) | (apply c_cond_t hF; exact rfl; first | exact rfl | assumption) | (apply c_cond_f hF; exact rfl; first | exact rfl | assumption) | refine s_nil ?_)
  refine st_buildR hF Value.string txA [(0, .string ⟨#[65]⟩)] (und _ _ rfl) inf9 rfl (by kernel_rfl) ⟨rfl, rfl, trivial⟩ (k := fun a w6 hgr6 hb6 hR hF => ?_)
  have h6 := blk_kept h1 hgr6 (by simp)
  have hlt := lt_at h1
  repeat (first | refine c_seq ?_ | refine c_block ?_ | refine c_region _ ?_ | refine wpList_nil ?_ | refine c_then ?_ | refine c_then_exit ?_ | refine c_then_ret ?_ | refine c_in ?_ | refine c_in_ret ?_ | refine c_in_hit ?_ | refine wp_skip ?_ | refine wp_exit ?_ | refine wp_ret ?_ | refine c_in_miss rfl ?_ | ((first | apply st hF | apply stg hF | apply s_step hF | apply s_stg hF); (first | exact d_move | exact d_build (vs := [(1, .string name), (4, .int .i64 start), (5, .int .i64 size), (8, .agg #[.int .i64 1, .int .i64 1]), (9, .agg #[.int .i64 0, .int .i64 1]), (10, .agg #[.int .i64 0, .int .i64 1]), (11, .agg #[.int .i64 0, .int .i64 1]), (13, .slice (some ⟨w5.heap.size, 0, none⟩) 1 1)]) (cells := (Sig.cells (oneS name start size w5.heap.size)).toArray) (by kernel_rfl) ⟨rfl, rfl, rfl, rfl, rfl, rfl, rfl, rfl, rfl, rfl, rfl, rfl, rfl, rfl, rfl, rfl, trivial⟩); clear hF; clear a; intro a hF) | ((first | apply stm hF | apply stu hF); clear hF; clear a; intro a hF) | (apply c_cond_t hF; exact rfl; first | exact rfl | assumption) | (apply c_cond_f hF; exact rfl; first | exact rfl | assumption) | refine s_nil ?_)
  refine st_storeAgg hF (cs := (Sig.cells (oneS name start size w5.heap.size)).toArray) (isz _ _ rfl) rfl rfl h6 (sig_cells _) (k := fun a w7 hg7 hgr7 hsz7 hF => ?_)
  have hB7 : Below w.heap.size w w7 := (hb5.trans (hb6.mono hb5.size)).grown hgr7 (by have := hb6.size; omega) (fun k hk => by cases hk; omega)
  repeat (first | refine c_seq ?_ | refine c_block ?_ | refine c_region _ ?_ | refine wpList_nil ?_ | refine c_then ?_ | refine c_then_exit ?_ | refine c_then_ret ?_ | refine c_in ?_ | refine c_in_ret ?_ | refine c_in_hit ?_ | refine wp_skip ?_ | refine wp_exit ?_ | refine wp_ret ?_ | refine c_in_miss rfl ?_ | ((first | apply st hF | apply stg hF | apply s_step hF | apply s_stg hF); (first | exact d_move); clear hF; clear a; intro a hF) | ((first | apply stm hF | apply stu hF); clear hF; clear a; intro a hF) | (apply c_cond_t hF; exact rfl; first | exact rfl | assumption) | (apply c_cond_f hF; exact rfl; first | exact rfl | assumption) | refine s_nil ?_)
  refine ret_c hF rfl (agg _ rfl) (isz _ _ rfl) hg7 rfl ⟨⟨_, rfl, fun i hi => ?_⟩, hB7⟩
  obtain ⟨b, o, e, hc⟩ := hR i hi
  cases e
  refine ⟨_, _, rfl, ?_⟩
  rw [← hc]
  unfold World.cell?
  dsimp only
  rw [hgr7.block _ (lt_at (o := w6.heap[w5.heap.size]'(World.block_lt_of_cell? w6 _ hc)) (by simp)) (by simp; omega)]
set_option maxHeartbeats 4000000 in
theorem two_ok (w : World) (ao : Option Addr) (n c : Nat) : Ret Tryd.prog 29 [.slice ao n c].toArray w (fun v w' => v = .agg (Msg.cells (twoM ao n c)).toArray ∧ Below w.heap.size w w') := by
  refine enter1 Tryd.func29 rfl 4 rfl 5 rfl (fun a hF => ?_)
  repeat (first | refine c_seq ?_ | refine c_block ?_ | refine c_region _ ?_ | refine wpList_nil ?_ | refine c_then ?_ | refine c_then_exit ?_ | refine c_then_ret ?_ | refine c_in ?_ | refine c_in_ret ?_ | refine c_in_hit ?_ | refine wp_skip ?_ | refine wp_exit ?_ | refine wp_ret ?_ | refine c_in_miss rfl ?_ | ((first | apply st hF | apply stg hF | apply s_step hF | apply s_stg hF); (first | exact d_move); clear hF; clear a; intro a hF) | ((first | apply stm hF | apply stu hF); clear hF; clear a; intro a hF) | (apply c_cond_t hF; exact rfl; first | exact rfl | assumption) | (apply c_cond_f hF; exact rfl; first | exact rfl | assumption) | refine s_nil ?_)
  refine st_alloc hF inf27 (k := fun a w1 hg1 hgr1 hsz1 hF => ?_)
  repeat (first | refine c_seq ?_ | refine c_block ?_ | refine c_region _ ?_ | refine wpList_nil ?_ | refine c_then ?_ | refine c_then_exit ?_ | refine c_then_ret ?_ | refine c_in ?_ | refine c_in_ret ?_ | refine c_in_hit ?_ | refine wp_skip ?_ | refine wp_exit ?_ | refine wp_ret ?_ | refine c_in_miss rfl ?_ | ((first | apply st hF | apply stg hF | apply s_step hF | apply s_stg hF); (first | exact d_move | exact d_build (vs := [(3, .string ⟨#[77]⟩), (1, .int .u32 5), (4, .int .i64 2), (5, .string ⟨#[65]⟩), (6, .slice ao n c)]) (cells := (Msg.cells (twoM ao n c)).toArray) (by kernel_rfl) ⟨rfl, rfl, rfl, rfl, rfl, rfl, rfl, rfl, rfl, rfl, trivial⟩); clear hF; clear a; intro a hF) | ((first | apply stm hF | apply stu hF); clear hF; clear a; intro a hF) | (apply c_cond_t hF; exact rfl; first | exact rfl | assumption) | (apply c_cond_f hF; exact rfl; first | exact rfl | assumption) | refine s_nil ?_)
  refine st_storeAgg hF (cs := (Msg.cells (twoM ao n c)).toArray) (isz _ _ rfl) rfl rfl hg1 (msg_cells _) (k := fun a w2 hg2 hgr2 hsz2 hF => ?_)
  have hb2 : Below w.heap.size w w2 := ((Below.refl _ w).grown hgr1 (Nat.le_refl _) (fun k hk => by cases hk)).grown hgr2 (by omega) (fun k hk => by cases hk; omega)
  repeat (first | refine c_seq ?_ | refine c_block ?_ | refine c_region _ ?_ | refine wpList_nil ?_ | refine c_then ?_ | refine c_then_exit ?_ | refine c_then_ret ?_ | refine c_in ?_ | refine c_in_ret ?_ | refine c_in_hit ?_ | refine wp_skip ?_ | refine wp_exit ?_ | refine wp_ret ?_ | refine c_in_miss rfl ?_ | ((first | apply st hF | apply stg hF | apply s_step hF | apply s_stg hF); (first | exact d_move); clear hF; clear a; intro a hF) | ((first | apply stm hF | apply stu hF); clear hF; clear a; intro a hF) | (apply c_cond_t hF; exact rfl; first | exact rfl | assumption) | (apply c_cond_f hF; exact rfl; first | exact rfl | assumption) | refine s_nil ?_)
  exact ret_c hF rfl (agg _ rfl) (isz _ _ rfl) hg2 rfl ⟨rfl, hb2⟩
theorem two_in {w : World} {n1 n2 : ByteArray} {s1 z1 s2 z2 : Int} {g1 g2 : Nat} {b : Nat} (h1 : Rd w (some ⟨g1, 0, none⟩) .string txA) (h2 : Rd w (some ⟨g2, 0, none⟩) .string txA) (h : RdS w (some ⟨b, 0, none⟩) 19 Sig.cells [oneS n1 s1 z1 g1, oneS n2 s2 z2 g2]) :
    MsgIn w (twoM (some ⟨b, 0, none⟩) 2 2) [(oneS n1 s1 z1 g1, txA), (oneS n2 s2 z2 g2, txA)] := by
  refine ⟨rfl, h, fun p hp => ?_, Nat.le_refl 2, (by show 2 * 176 ≤ 140737488351232; decide)⟩
  simp only [List.mem_cons, List.not_mem_nil, or_false] at hp
  rcases hp with rfl | rfl
  · exact one_in h1
  · exact one_in h2
theorem twoM_head (ao : Option Addr) : headE (twoM ao 2 2) = 0 := by
  have h1 : wordB ⟨#[77]⟩ = true := by decide +kernel
  have h2 : wordB ⟨#[65]⟩ = true := by decide +kernel
  simp [headE, mostE, twoM, h1, h2]
theorem one_bnds {n1 n2 : ByteArray} {s1 z1 s2 z2 : Int} {g1 g2 : Nat} : ∀ p ∈ [(oneS n1 s1 z1 g1, txA), (oneS n2 s2 z2 g2, txA)], SigB p.1 := by
  intro p hp
  simp only [List.mem_cons, List.not_mem_nil, or_false] at hp
  rcases hp with rfl | rfl <;> exact one_bnd _ _ _ _
set_option maxHeartbeats 4000000 in
theorem works_ok (w : World) (hT : Tabs w) : Ret Tryd.prog 9 #[] w (fun v w' => v = .bool true ∧ Below w.heap.size w w') := by
  have wa : wordB ⟨#[97]⟩ = true := by decide +kernel
  have wb : wordB ⟨#[98]⟩ = true := by decide +kernel
  refine enter0 Tryd.func9 rfl 18 rfl 18 rfl (fun a hF => ?_)
  repeat (first | refine c_seq ?_ | refine c_block ?_ | refine c_region _ ?_ | refine wpList_nil ?_ | refine c_then ?_ | refine c_then_exit ?_ | refine c_then_ret ?_ | refine c_in ?_ | refine c_in_ret ?_ | refine c_in_hit ?_ | refine wp_skip ?_ | refine wp_exit ?_ | refine wp_ret ?_ | refine c_in_miss rfl ?_ | ((first | apply st hF | apply stg hF | apply s_step hF | apply s_stg hF); (first | exact d_move | exact d_assign | exact d_pickT | exact d_pickF | exact d_cmpT | exact d_cmpF | exact d_cmp | exact d_eqbT (und _ _ rfl) | exact d_eqbF (und _ _ rfl) | exact d_eqb (und _ _ rfl) | exact d_eqST | exact d_eqSF | exact d_eqS | exact d_eqN (ifc _ rfl) | exact d_neN (ifc _ rfl)); clear hF; clear a; intro a hF) | ((first | apply stm hF | apply stu hF); clear hF; clear a; intro a hF) | (apply c_cond_t hF; exact rfl; first | exact rfl | assumption) | (apply c_cond_f hF; exact rfl; first | exact rfl | assumption) | refine s_nil ?_)
  refine stc hF (one_ok w ⟨#[97]⟩ 0 8) cal30 ⟨rfl, rfl, rfl, trivial⟩ (k := fun a v w1 hR hF => ?_)
  obtain ⟨⟨g1, rfl, r1⟩, hb1⟩ := hR
  refine stc hF (one_ok w1 ⟨#[98]⟩ 7 2) cal30 ⟨rfl, rfl, rfl, trivial⟩ (k := fun a v w2 hR hF => ?_)
  obtain ⟨⟨g2, rfl, r2⟩, hb2⟩ := hR
  replace r1 := r1.below hb2
  replace hb2 := hb1.trans (hb2.mono hb1.size)
  refine st hF (d_buildSS [(Sig.cells (oneS ⟨#[97]⟩ 0 8 g1)).toArray, (Sig.cells (oneS ⟨#[98]⟩ 7 2 g2)).toArray] (und _ _ rfl) inf38 (by decide) (by decide) (by decide) rfl (by simp [Sig.cells]) ⟨rfl, rfl, rfl, rfl, trivial⟩) rfl (fun a hF => ?_)
  have hb3 := below_alloc w2 (.cells (([(Sig.cells (oneS ⟨#[97]⟩ 0 8 g1)).toArray, (Sig.cells (oneS ⟨#[98]⟩ 7 2 g2)).toArray]).flatMap fun u => u.toList).toArray 38)
  have hR3 := rdS_alloc w2 19 Sig.cells sigc_len [oneS ⟨#[97]⟩ 0 8 g1, oneS ⟨#[98]⟩ 7 2 g2] 38 (([(Sig.cells (oneS ⟨#[97]⟩ 0 8 g1)).toArray, (Sig.cells (oneS ⟨#[98]⟩ 7 2 g2)).toArray]).flatMap fun u => u.toList).toArray (by simp)
  generalize w2.alloc _ = w3 at *
  replace r1 := r1.below hb3
  replace r2 := r2.below hb3
  replace hb3 := hb2.trans (hb3.mono hb2.size)
  refine stc hF (two_ok w3 _ 2 2) cal29 ⟨rfl, trivial⟩ (k := fun a v w4 hR hF => ?_)
  obtain ⟨rfl, hb4⟩ := hR
  have hin := two_in (r1.below hb4) (r2.below hb4) (hR3.below hb4)
  replace hb4 := hb3.trans (hb4.mono hb3.size)
  refine stc hF (cmsg_ok w4 _ _ hin one_bnds (hT.below hb4)) cal10 ⟨rfl, trivial⟩ (k := fun a v w5 hR hF => ?_)
  obtain ⟨rfl, hb5⟩ := hR
  rw [(two_one (twoM_head _) (one_alone g1 wa (show Pl.whereE 0 8 false 2 = 0 by decide +kernel)) (one_alone g2 wb (show Pl.whereE 7 2 false 2 = 0 by decide +kernel)) (show (⟨#[97]⟩ : ByteArray) ≠ ⟨#[98]⟩ by decide) ⟨rfl, rfl⟩).1 ((share_dec _ _).2 (by show shareN 0 8 false 7 2 false = true; decide +kernel))] at hF
  replace hF : Fr _ (_ :: _) _ := hF
  replace hb5 := hb4.trans (hb5.mono hb4.size)
  clear hin r1 r2 hR3 hb1 hb2 hb3 hb4
  repeat (first | refine c_seq ?_ | refine c_block ?_ | refine c_region _ ?_ | refine wpList_nil ?_ | refine c_then ?_ | refine c_then_exit ?_ | refine c_then_ret ?_ | refine c_in ?_ | refine c_in_ret ?_ | refine c_in_hit ?_ | refine wp_skip ?_ | refine wp_exit ?_ | refine wp_ret ?_ | refine c_in_miss rfl ?_ | ((first | apply st hF | apply stg hF | apply s_step hF | apply s_stg hF); (first | exact d_move | exact d_assign | exact d_pickT | exact d_pickF | exact d_cmpT | exact d_cmpF | exact d_cmp | exact d_eqbT (und _ _ rfl) | exact d_eqbF (und _ _ rfl) | exact d_eqb (und _ _ rfl) | exact d_eqST | exact d_eqSF | exact d_eqS | exact d_eqN (ifc _ rfl) | exact d_neN (ifc _ rfl)); clear hF; clear a; intro a hF) | ((first | apply stm hF | apply stu hF); clear hF; clear a; intro a hF) | (apply c_cond_t hF; exact rfl; first | exact rfl | assumption) | (apply c_cond_f hF; exact rfl; first | exact rfl | assumption) | refine s_nil ?_)
  refine stc hF (one_ok w5 ⟨#[97]⟩ 0 8) cal30 ⟨rfl, rfl, rfl, trivial⟩ (k := fun a v w1 hR hF => ?_)
  obtain ⟨⟨g1, rfl, r1⟩, hb1⟩ := hR
  replace hb1 := hb5.trans (hb1.mono hb5.size)
  refine stc hF (one_ok w1 ⟨#[98]⟩ 8 2) cal30 ⟨rfl, rfl, rfl, trivial⟩ (k := fun a v w2 hR hF => ?_)
  obtain ⟨⟨g2, rfl, r2⟩, hb2⟩ := hR
  replace r1 := r1.below hb2
  replace hb2 := hb1.trans (hb2.mono hb1.size)
  refine st hF (d_buildSS [(Sig.cells (oneS ⟨#[97]⟩ 0 8 g1)).toArray, (Sig.cells (oneS ⟨#[98]⟩ 8 2 g2)).toArray] (und _ _ rfl) inf38 (by decide) (by decide) (by decide) rfl (by simp [Sig.cells]) ⟨rfl, rfl, rfl, rfl, trivial⟩) rfl (fun a hF => ?_)
  have hb3 := below_alloc w2 (.cells (([(Sig.cells (oneS ⟨#[97]⟩ 0 8 g1)).toArray, (Sig.cells (oneS ⟨#[98]⟩ 8 2 g2)).toArray]).flatMap fun u => u.toList).toArray 38)
  have hR3 := rdS_alloc w2 19 Sig.cells sigc_len [oneS ⟨#[97]⟩ 0 8 g1, oneS ⟨#[98]⟩ 8 2 g2] 38 (([(Sig.cells (oneS ⟨#[97]⟩ 0 8 g1)).toArray, (Sig.cells (oneS ⟨#[98]⟩ 8 2 g2)).toArray]).flatMap fun u => u.toList).toArray (by simp)
  generalize w2.alloc _ = w3 at *
  replace r1 := r1.below hb3
  replace r2 := r2.below hb3
  replace hb3 := hb2.trans (hb3.mono hb2.size)
  refine stc hF (two_ok w3 _ 2 2) cal29 ⟨rfl, trivial⟩ (k := fun a v w4 hR hF => ?_)
  obtain ⟨rfl, hb4⟩ := hR
  have hin := two_in (r1.below hb4) (r2.below hb4) (hR3.below hb4)
  replace hb4 := hb3.trans (hb4.mono hb3.size)
  refine stc hF (cmsg_ok w4 _ _ hin one_bnds (hT.below hb4)) cal10 ⟨rfl, trivial⟩ (k := fun a v w6 hR hF => ?_)
  obtain ⟨rfl, hb6⟩ := hR
  rw [(two_one (twoM_head _) (one_alone g1 wa (show Pl.whereE 0 8 false 2 = 0 by decide +kernel)) (one_alone g2 wb (show Pl.whereE 8 2 false 2 = 0 by decide +kernel)) (show (⟨#[97]⟩ : ByteArray) ≠ ⟨#[98]⟩ by decide) ⟨rfl, rfl⟩).2 (fun h => absurd ((share_dec _ _).1 h) (by show ¬ shareN 0 8 false 8 2 false = true; decide +kernel))] at hF
  replace hb6 := hb4.trans (hb6.mono hb4.size)
  rw [show atV (0, (none : Option Nat)).1 _ _ = Value.nilIface from if_pos rfl] at hF
  clear hin r1 r2 hR3 hb1 hb2 hb3 hb4
  repeat (first | refine c_seq ?_ | refine c_block ?_ | refine c_region _ ?_ | refine wpList_nil ?_ | refine c_then ?_ | refine c_then_exit ?_ | refine c_then_ret ?_ | refine c_in ?_ | refine c_in_ret ?_ | refine c_in_hit ?_ | refine wp_skip ?_ | refine wp_exit ?_ | refine wp_ret ?_ | refine c_in_miss rfl ?_ | ((first | apply st hF | apply stg hF | apply s_step hF | apply s_stg hF); (first | exact d_move | exact d_assign | exact d_pickT | exact d_pickF | exact d_cmpT | exact d_cmpF | exact d_cmp | exact d_eqbT (und _ _ rfl) | exact d_eqbF (und _ _ rfl) | exact d_eqb (und _ _ rfl) | exact d_eqST | exact d_eqSF | exact d_eqS | exact d_eqN (ifc _ rfl) | exact d_neN (ifc _ rfl)); clear hF; clear a; intro a hF) | ((first | apply stm hF | apply stu hF); clear hF; clear a; intro a hF) | (apply c_cond_t hF; exact rfl; first | exact rfl | assumption) | (apply c_cond_f hF; exact rfl; first | exact rfl | assumption) | refine s_nil ?_)
  refine stcg hF (num_f w6 17 0 0 (by decide) (by decide)) cal13 ⟨rfl, trivial⟩ (k := fun a v w7 hR hF => ?_)
  obtain ⟨rfl, hb7⟩ := hR
  repeat (first | refine c_seq ?_ | refine c_block ?_ | refine c_region _ ?_ | refine wpList_nil ?_ | refine c_then ?_ | refine c_then_exit ?_ | refine c_then_ret ?_ | refine c_in ?_ | refine c_in_ret ?_ | refine c_in_hit ?_ | refine wp_skip ?_ | refine wp_exit ?_ | refine wp_ret ?_ | refine c_in_miss rfl ?_ | ((first | apply st hF | apply stg hF | apply s_step hF | apply s_stg hF); (first | exact d_move | exact d_assign | exact d_pickT | exact d_pickF | exact d_cmpT | exact d_cmpF | exact d_cmp | exact d_eqbT (und _ _ rfl) | exact d_eqbF (und _ _ rfl) | exact d_eqb (und _ _ rfl) | exact d_eqST | exact d_eqSF | exact d_eqS | exact d_eqN (ifc _ rfl) | exact d_neN (ifc _ rfl)); clear hF; clear a; intro a hF) | ((first | apply stm hF | apply stu hF); clear hF; clear a; intro a hF) | (apply c_cond_t hF; exact rfl; first | exact rfl | assumption) | (apply c_cond_f hF; exact rfl; first | exact rfl | assumption) | refine s_nil ?_)
  exact ret1 hF rfl rfl ⟨rfl, hb6.trans (hb7.mono hb6.size)⟩
end Go.Proofs.YtjomihhpglojpaaDoor
end
