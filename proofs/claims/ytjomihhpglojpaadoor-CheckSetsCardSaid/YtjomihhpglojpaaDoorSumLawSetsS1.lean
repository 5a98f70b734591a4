/- Laid together by a program of mine: Door2 MsgB SetL ActP AppS. -/
import Derived.Test.YtjomihhpglojpaaDoorSumBOneW10
import Derived.Test.YtjomihhpglojpaaDoorSumBOneW25
import Derived.Test.YtjomihhpglojpaaDoorSumBOneW22
import Derived.Test.YtjomihhpglojpaaDoorSumBOneW9
set_option linter.unusedSimpArgs false
set_option linter.unusedVariables false
section
/- The condition of CharsNamed: utf8's two tables; a world that meets it. -/
namespace Go.Proofs.YtjomihhpglojpaaDoor
open Go.ChangeShapes Go.WideShapes Go.RowKit Go.Shelf
theorem laid2_parts {W : World} (h : laidMetH Tryd.prog tabs2 W) : laidMet Tryd.prog tabs2 W := h
theorem tabs_of_laid2 {W : World} (h : laidMetH Tryd.prog tabs2 W) : Tabs W := by
  have h2 := laid2_parts h
  unfold tabs2 at h2
  rw [acc_eq, fst_eq] at h2
  exact utf8Tabs_of_readsT (U8Types.of196 Tryd.lays196) ⟨by kernel_rfl, by kernel_rfl, by kernel_rfl, by kernel_rfl, by kernel_rfl, by kernel_rfl, by kernel_rfl⟩ (Lib.laidMet.reads h2 (.tail _ (.head _))) (Lib.laidMet.reads h2 (.head _))
theorem laidWorld2_met (os : Os) (args : Array Value) : laidMetH Tryd.prog tabs2 ((laidWorld3 os).forCall (fun _ _ => 0) ⟨#[], args, []⟩).memory := by
  show laidMet Tryd.prog tabs2 _
  exact (LaidIn.of_run (l := tabs2) [2, 1] 8 (by kernel_rfl) (by kernel_rfl) (by kernel_rfl) (by kernel_rfl)).met
end Go.Proofs.YtjomihhpglojpaaDoor
end
section
/- A message as it is handed in, with what its numbers stay within. -/
namespace Go.Proofs.YtjomihhpglojpaaDoor
open Go.RowKit
set_option linter.unusedSimpArgs false
set_option linter.unusedVariables false
attribute [local irreducible] wpList wpQuiet wpStill Code.wp Exit.then Exit.inBlock bodyPost Calls Does Does0
open Go.ChangeShapes Go.WideShapes

theorem by_sig : Tryd.prog.bytesOf 38 = 176 := by kernel_rfl
theorem sz_msg : Tryd.prog.cellsOf 27 = 8 := by kernel_rfl
theorem sz_u32 : Tryd.prog.cellsOf 24 = 1 := by kernel_rfl
theorem sz_sigs : Tryd.prog.cellsOf 25 = 1 := by kernel_rfl
theorem sigs_of {H : Type} {enc : TypeId × Value → H} {w : World} {cs : List Value} (h : Rdw enc Tryd.prog w 25 cs) : ∃ ao n c ps, cs = [.slice ao n c] ∧ SigsIn w ao n c ps ∧ ∀ p ∈ ps, SigB p.1 := by
  obtain ⟨ao, len, cap, rfl, hl, hm, hby, hel⟩ := h.slice (und _ _ rfl) (by rw [sz_sig]; decide)
  rw [by_sig] at hby
  have key : ∀ n, n ≤ len → ∃ ps : List SigT, ps.length = n ∧ RdS w ao 19 Sig.cells (ps.map (·.1)) ∧ ∀ p ∈ ps, SigIn w p.1 p.2 ∧ SigB p.1 := by
    intro n
    induction n with
    | zero => intro _; exact ⟨[], rfl, fun i hi => absurd hi (Nat.not_lt_zero _), by simp⟩
    | succ n ih =>
      intro hn
      obtain ⟨ps, hsl, hrd, hin⟩ := ih (by omega)
      obtain ⟨b, o, cs', hao, hcl, hq, hr⟩ := hel n (by omega)
      obtain ⟨s, ss, rfl, hs⟩ := sig_of hr
      have hsb := sig_bnd hr
      rw [sz_sig] at hq
      refine ⟨ps ++ [(s, ss)], by simp [hsl], fun i hi => ?_, fun x hx => ?_⟩
      · by_cases hin : i < n
        · obtain ⟨b', o', e1, e2⟩ := hrd i (by simp; omega)
          refine ⟨b', o', e1, ?_⟩
          have e3 : (List.map (·.1) (ps ++ [(s, ss)]))[i]'hi = (List.map (·.1) ps)[i]'(by simp; omega) := by
            simp only [List.map_append]
            rw [List.getElem_append_left (by simp; omega)]
          rw [e3]
          exact e2
        · have : i = n := by simp at hi; omega
          subst this
          refine ⟨b, o, hao, fun q v hv => ?_⟩
          have e3 : (List.map (·.1) (ps ++ [(s, ss)]))[i]'hi = s := by
            simp only [List.map_append]
            rw [List.getElem_append_right (by simp; omega)]
            simp [hsl]
          rw [e3] at hv
          have hlt : q < 19 := by
            have := (List.getElem?_eq_some_iff.1 hv).1
            rw [sigc_len] at this; exact this
          rw [hq q hlt]
          exact hv
      · rcases List.mem_append.1 hx with hx | hx
        · exact hin x hx
        · simp at hx; subst hx; exact ⟨hs, hsb⟩
  obtain ⟨ps, h1, h2, h3⟩ := key len (Nat.le_refl _)
  exact ⟨ao, len, cap, ps, rfl, ⟨h1, h2, fun p hp => (h3 p hp).1, hl, Nat.le_trans (Nat.mul_le_mul_right _ hl) hby⟩, fun p hp => (h3 p hp).2⟩

theorem wf_u32' {x : Int} (h : (Lit.int .u32 x).wf = true) : 0 ≤ x ∧ x < 4294967296 := by
  have h1 : IntKind.u32.min ≤ x ∧ x ≤ IntKind.u32.max := by simpa [Lit.wf] using h
  rw [show IntKind.u32.min = 0 by decide, show IntKind.u32.max = 4294967295 by decide] at h1
  exact ⟨h1.1, by omega⟩
theorem msg_of {H : Type} {enc : TypeId × Value → H} {w : World} {cs : List Value} (h : Rdw enc Tryd.prog w 27 cs) : ∃ m ps, cs = Msg.cells m ∧ MsgIn w m ps ∧ (∀ p ∈ ps, SigB p.1) ∧ 0 ≤ m.id ∧ m.id < 4294967296 := by
  have hl := h.rds.len (fld _ 0 _ _ rfl)
  rw [sz_msg] at hl
  obtain ⟨a0, a1, a2, a3, a4, a5, a6, a7, rfl⟩ : ∃ a0 a1 a2 a3 a4 a5 a6 a7, cs = [a0, a1, a2, a3, a4, a5, a6, a7] := by
    rcases cs with _ | ⟨a0, _ | ⟨a1, _ | ⟨a2, _ | ⟨a3, _ | ⟨a4, _ | ⟨a5, _ | ⟨a6, _ | ⟨a7, _ | ⟨a8, r⟩⟩⟩⟩⟩⟩⟩⟩⟩ <;> simp at hl
    exact ⟨_, _, _, _, _, _, _, _, rfl⟩
  have k0 := h.fld (fld _ 0 _ _ rfl); rw [sz_place] at k0
  have k1 := h.fld (fld _ 1 _ _ rfl); rw [sz_u32] at k1
  have k2 := h.fld (fld _ 2 _ _ rfl); rw [sz_bool] at k2
  have k3 := h.fld (fld _ 3 _ _ rfl); rw [sz_string] at k3
  have k4 := h.fld (fld _ 4 _ _ rfl); rw [sz_int] at k4
  have k5 := h.fld (fld _ 5 _ _ rfl); rw [sz_string] at k5
  have k6 := h.fld (fld _ 6 _ _ rfl); rw [sz_sigs] at k6
  have p0 := k0.fld (fld _ 0 _ _ rfl); rw [sz_int] at p0
  have p1 := k0.fld (fld _ 1 _ _ rfl); rw [sz_int] at p1
  obtain ⟨i0, e0, _⟩ := p0.rds.int (und _ _ rfl)
  obtain ⟨i1, e1, _⟩ := p1.rds.int (und _ _ rfl)
  obtain ⟨i2, e2, hw2⟩ := Rds.int k1.rds (und _ _ rfl)
  obtain ⟨i3, e3⟩ := Rds.bool k2.rds (und _ _ rfl)
  obtain ⟨i4, e4, _⟩ := Rds.string k3.rds (und _ _ rfl)
  obtain ⟨i5, e5, _⟩ := Rds.int k4.rds (und _ _ rfl)
  obtain ⟨i6, e6, _⟩ := Rds.string k5.rds (und _ _ rfl)
  obtain ⟨ao, n, c, ps, e7, hs, hsb⟩ := sigs_of k6
  simp only [List.drop_succ_cons, List.drop_zero, List.take_succ_cons, List.take_zero, List.cons.injEq, and_true] at e0 e1 e2 e3 e4 e5 e6 e7
  subst e0; subst e1; subst e2; subst e3; subst e4; subst e5; subst e6; subst e7
  exact ⟨⟨i0, i1, i2, i3, i4, i5, i6, ao, n, c⟩, ps, rfl, hs, hsb, wf_u32' hw2⟩
end Go.Proofs.YtjomihhpglojpaaDoor
end
section
/- Signals that meet, and values at which they do. Plain. -/
namespace Go.Proofs.YtjomihhpglojpaaDoor
open Go.RowKit
set_option linter.unusedSimpArgs false
set_option linter.unusedVariables false
attribute [local irreducible] wpList wpQuiet wpStill Code.wp Exit.then Exit.inBlock bodyPost Calls Does Does0
def atB (s : Sig) (v : Int) : Prop := s.role ≠ 2 ∨ s.branch = v
/-- Two that are there at a value have a bit in common. -/
def meetsAt (ps : List SigT) (v : Int) : Prop := ∃ i k, i < ps.length ∧ k < i ∧ atB (sg ps k) v ∧ atB (sg ps i) v ∧ shareB (sg ps k) (sg ps i)
theorem meets_law (ps : List SigT) (v : Int) : (∃ i, i < ps.length ∧ meetB ps i) ↔ (meetsAt ps v ∨ ∃ i, i < ps.length ∧ meetsAt ps (sg ps i).branch) := by
  constructor
  · rintro ⟨i, hi, k, hk, ht, hs⟩
    by_cases h1 : (sg ps k).role = 2
    · by_cases h2 : (sg ps i).role = 2
      · have h3 : (sg ps k).branch = (sg ps i).branch := by
          rcases of_decide_eq_true ht with h | h | h
          · exact absurd h1 h
          · exact absurd h2 h
          · exact h
        exact .inr ⟨i, hi, i, k, hi, hk, .inr h3, .inr rfl, hs⟩
      · exact .inr ⟨k, by omega, i, k, hi, hk, .inr rfl, .inl h2, hs⟩
    · by_cases h2 : (sg ps i).role = 2
      · exact .inr ⟨i, hi, i, k, hi, hk, .inl h1, .inr rfl, hs⟩
      · exact .inl ⟨i, k, hi, hk, .inl h1, .inl h2, hs⟩
  · have key : ∀ v, meetsAt ps v → ∃ i, i < ps.length ∧ meetB ps i := by
      rintro v ⟨i, k, hi, hk, h1, h2, hs⟩
      refine ⟨i, hi, k, hk, decide_eq_true ?_, hs⟩
      rcases h1 with h1 | h1
      · exact .inl h1
      · rcases h2 with h2 | h2
        · exact .inr (.inl h2)
        · exact .inr (.inr (h1.trans h2.symm))
    rintro (h | ⟨i, _, h⟩)
    · exact key _ h
    · exact key _ h
theorem alone_ne (s : Sig) (ss : List ByteArray) (n : Int) : aloneE s ss n ≠ 17 := by
  have hw : Pl.whereE s.start s.size s.mot n ≠ 17 := by
    unfold Pl.whereE
    cases h : Pl.bitsOfSig s.start s.size s.mot with
    | ok l => dsimp only; split <;> omega
    | error e => have := Pl.err_15 h; dsimp only; omega
  have hr : rangedE s ≠ 17 := by unfold rangedE; repeat' split
                                 all_goals omega
  have ht : textE s.unit ≠ 17 := by unfold textE; repeat' split
                                    all_goals omega
  have hl : ∀ (xs ys : List ByteArray), listGo ys xs ≠ 17 := by
    intro xs
    induction xs with
    | nil => intro ys; simp [listGo]
    | cons x xs ih =>
      intro ys
      unfold listGo
      split
      · omega
      · split
        · omega
        · exact ih _
  have hn : namesE ss ≠ 17 := by
    unfold namesE
    split
    · omega
    · split
      · omega
      · exact hl _ _
  unfold aloneE
  repeat' split
  all_goals omega
theorem head_ne (m : Msg) : headE m ≠ 17 := by
  unfold headE
  repeat' split
  all_goals omega
theorem one_ne (ps : List SigT) (n : Int) (i : Nat) : oneE ps n i ≠ 17 := by
  have := alone_ne (sg ps i) (tx ps i) n
  unfold oneE
  repeat' split
  all_goals omega
/-- Where nothing is wrong, or signals meet: the rest is as it should be; and which of both. -/
theorem sets_case {m : Msg} {ps : List SigT} (h : (msgE m ps).1 = 0 ∨ (msgE m ps).1 = 17) : headE m = 0 ∧ (∀ j, j < ps.length → oneE ps m.size j = 0) ∧ ((msgE m ps).1 = 17 ↔ ∃ i, i < ps.length ∧ meetB ps i) := by
  by_cases h0 : headE m = 0
  · rcases firstAt_spec (fun i => oneE ps m.size i ≠ 0) ps.length with ⟨e1, n1⟩ | ⟨i, _, a1, a2, a3⟩
    · have k1 : ∀ j, j < ps.length → oneE ps m.size j = 0 := fun j hj => Classical.byContradiction fun e => n1 j hj e
      refine ⟨h0, k1, ?_⟩
      rcases firstAt_spec (twoB ps) ps.length with ⟨e2, n2⟩ | ⟨i, _, a1, a2, a3⟩
      · rcases firstAt_spec (meetB ps) ps.length with ⟨e3, n3⟩ | ⟨i, _, a1, a2, a3⟩
        · rw [msgE_ok h0 k1 n2 n3]
          exact ⟨fun e => (by simp at e), fun ⟨i, hi, hb⟩ => absurd hb (n3 i hi)⟩
        · rw [msgE_meet h0 k1 n2 a1 a2 a3]
          exact ⟨fun _ => ⟨i, a1, a2⟩, fun _ => rfl⟩
      · rw [msgE_two h0 k1 a1 a2 a3] at h
        rcases h with h | h <;> simp at h
    · rw [msgE_one h0 a1 a2 (fun j hj => Classical.byContradiction fun e => a3 j hj e)] at h
      rcases h with h | h
      · exact absurd h a2
      · exact absurd h (one_ne _ _ _)
  · rw [msgE_head h0] at h
    rcases h with h | h
    · exact absurd h h0
    · exact absurd h (head_ne m)
end Go.Proofs.YtjomihhpglojpaaDoor
end
section
/- check.Active, walked: the signals that are active. -/
namespace Go.Proofs.YtjomihhpglojpaaDoor
open Go.RowKit
set_option linter.unusedSimpArgs false
set_option linter.unusedVariables false
attribute [local irreducible] wpList wpQuiet wpStill Code.wp Exit.then Exit.inBlock bodyPost Calls Does Does0

theorem own_geA {w : World} {base : Nat} {e : TypeId} {s n : Nat} {v : Value} {xs : List Value} (h : w.ownsRow base e s v n xs) {b : Nat} (hb : v.ownBlock = some b) : base ≤ b ∧ b < w.heap.size := by
  refine ⟨?_, (h.lt _ hb).2⟩
  rcases h.2 with ⟨rfl, _⟩ | ⟨g', cap', cur, rfl, h1, _⟩
  · cases hb
  · cases hb; exact h1
/-! ### what is active -/
/-- Is the signal there at this value? -/
def tst (s : Sig) (v : Int) : Bool := s.role != 2 || s.branch == v
/-- Those of the first k that are there, by their numbers. -/
def actK (ss : List Sig) (v : Int) (k : Nat) : List Int := ((List.range k).filter fun i => match ss[i]? with | some s => tst s v | none => false).map fun i : Nat => (i : Int)
theorem actK_succ (ss : List Sig) (v : Int) (k : Nat) (h : k < ss.length) : actK ss v (k + 1) = if tst ss[k] v then actK ss v k ++ [(k : Int)] else actK ss v k := by
  unfold actK
  rw [List.range_succ, List.filter_append, List.map_append]
  simp only [List.filter_cons, List.filter_nil, List.getElem?_eq_getElem h]
  by_cases ht : tst ss[k] v = true
  · simp [ht]
  · simp [ht]
theorem actK_len (ss : List Sig) (v : Int) (k : Nat) : (actK ss v k).length ≤ k := by
  unfold actK
  rw [List.length_map]
  exact Nat.le_trans (List.length_filter_le _ _) (by simp)
def act (ss : List Sig) (v : Int) : List Int := actK ss v ss.length

set_option maxHeartbeats 4000000 in
theorem prog_active (w : World) (m : Msg) (ss : List Sig) (v : Int) (hn : ss.length = m.sgN) (hR : RdS w m.sg 19 Sig.cells ss) (hb : m.sgN ≤ 1000000000000) :
    Ret Tryd.prog 40 #[.agg (Msg.cells m).toArray, .int .u64 v] w (fun r w' => ∃ ao cap, r = .slice ao (act ss v).length cap ∧ w'.ownsRow w.heap.size 3 1 (.slice ao (act ss v).length cap) (act ss v).length ((act ss v).map (.int .i64)) ∧ Below w.heap.size w w') := by
  refine enter2 Tryd.func40 rfl 29 rfl 31 rfl (fun a hF => ?_)
  repeat (first | refine c_seq ?_ | refine c_block ?_ | refine c_region _ ?_ | refine wpList_nil ?_ | refine c_then ?_ | refine c_then_exit ?_ | refine c_then_ret ?_ | refine c_in ?_ | refine c_in_ret ?_ | refine c_in_hit ?_ | refine wp_skip ?_ | refine wp_exit ?_ | refine wp_ret ?_ | refine c_in_miss rfl ?_ | ((first | apply st hF | apply stg hF | apply s_step hF | apply s_stg hF); (first | exact d_move | exact d_assign | exact d_pickT | exact d_pickF | exact d_add | exact d_cmpT | exact d_cmpF | exact d_cmp | exact d_eqbT (und _ _ rfl) | exact d_eqbF (und _ _ rfl) | exact d_eqb (und _ _ rfl) | exact d_eqST | exact d_eqSF | exact d_eqS | exact d_len (und _ _ rfl) | exact d_lens (und _ _ rfl) | exact d_indexAddr1 (und _ _ rfl) (isz _ _ rfl) | exact d_fieldAddr (fld _ _ _ _ rfl) (isz _ _ rfl) | exact d_eqN (ifc _ rfl) | exact d_neN (ifc _ rfl)); clear hF; clear a; intro a hF) | ((first | apply stm hF | apply stu hF); clear hF; clear a; intro a hF) | (apply c_cond_t hF; exact rfl; first | exact rfl | assumption) | (apply c_cond_f hF; exact rfl; first | exact rfl | assumption) | refine s_nil ?_)
  refine st_box hF (cs := (Msg.cells m).toArray) rfl (k := fun a w1 hg1 hgr1 hsz1 hF => ?_)
  have hb1 : Below w.heap.size w w1 := (Below.refl _ w).grown hgr1 (Nat.le_refl _) (fun k hk => by cases hk)
  have cb : w1.cell? ⟨w.heap.size, 7, none⟩ = some (.slice m.sg m.sgN m.sgC) := cell_at hg1 rfl
  repeat (first | refine c_seq ?_ | refine c_block ?_ | refine c_region _ ?_ | refine wpList_nil ?_ | refine c_then ?_ | refine c_then_exit ?_ | refine c_then_ret ?_ | refine c_in ?_ | refine c_in_ret ?_ | refine c_in_hit ?_ | refine wp_skip ?_ | refine wp_exit ?_ | refine wp_ret ?_ | refine c_in_miss rfl ?_ | ((first | apply st hF | apply stg hF | apply s_step hF | apply s_stg hF); (first | exact d_move | exact d_assign | exact d_pickT | exact d_pickF | exact d_add | exact d_cmpT | exact d_cmpF | exact d_cmp | exact d_eqbT (und _ _ rfl) | exact d_eqbF (und _ _ rfl) | exact d_eqb (und _ _ rfl) | exact d_eqST | exact d_eqSF | exact d_eqS | exact d_len (und _ _ rfl) | exact d_lens (und _ _ rfl) | exact d_indexAddr1 (und _ _ rfl) (isz _ _ rfl) | exact d_fieldAddr (fld _ _ _ _ rfl) (isz _ _ rfl) | exact d_eqN (ifc _ rfl) | exact d_neN (ifc _ rfl) | exact d_load (und _ _ rfl) cb); clear hF; clear a; intro a hF) | ((first | apply stm hF | apply stu hF); clear hF; clear a; intro a hF) | (apply c_cond_t hF; exact rfl; first | exact rfl | assumption) | (apply c_cond_f hF; exact rfl; first | exact rfl | assumption) | refine s_nil ?_)
  refine c_loop (fun q a wr => ∃ k ao' cap', k ≤ m.sgN ∧ q = m.sgN - k ∧ Fr 31 [(1, .int .u64 v), (5, .slice ao' (actK ss v k).length cap'), (9, .slice m.sg m.sgN m.sgC), (10, .int .i64 m.sgN), (11, .int .i64 (k : Nat))] a ∧
    wr.ownsRow w1.heap.size 3 1 (.slice ao' (actK ss v k).length cap') (actK ss v k).length ((actK ss v k).map (.int .i64)) ∧ Below w1.heap.size w1 wr) m.sgN
    ⟨0, none, 0, by omega, rfl, hF.keep' ⟨rfl, rfl, rfl, rfl, rfl, trivial⟩, World.ownsRow_nil _ _ _ _, Below.refl _ _⟩ ?_
  clear hF a
  rintro q a wr ⟨k, ao', cap', hk, rfl, hF, hown, hbel⟩
  have hsz := hbel.size
  have hlk := actK_len ss v k
  by_cases hlt : k < m.sgN
  · obtain ⟨b, o, ea, hc⟩ := hR k (by omega)
    have hs := actK_succ ss v k (by omega)
    rw [ea] at hF
    obtain ⟨s, hse⟩ : ∃ s, ss[k]'(by omega) = s := ⟨_, rfl⟩
    rw [hse] at hc hs
    have cc : ∀ q u, (Sig.cells s)[q]? = some u → wr.cell? ⟨b, o + k * 19 + q, none⟩ = some u := fun q u hq => by
      have h1 := hc q u hq
      have h2 := (hb1.cell (p := ⟨b, o + k * 19 + q, none⟩) (World.block_lt_of_cell? w _ h1)).trans h1
      exact (hbel.cell (p := ⟨b, o + k * 19 + q, none⟩) (World.block_lt_of_cell? w1 _ h2)).trans h2
    repeat (first | refine c_seq ?_ | refine c_block ?_ | refine c_region _ ?_ | refine wpList_nil ?_ | refine c_then ?_ | refine c_then_exit ?_ | refine c_then_ret ?_ | refine c_in ?_ | refine c_in_ret ?_ | refine c_in_hit ?_ | refine wp_skip ?_ | refine wp_exit ?_ | refine wp_ret ?_ | refine c_in_miss rfl ?_ | ((first | apply st hF | apply stg hF | apply s_step hF | apply s_stg hF); (first | exact d_move | exact d_assign | exact d_pickT | exact d_pickF | exact d_add | exact d_cmpT | exact d_cmpF | exact d_cmp | exact d_eqbT (und _ _ rfl) | exact d_eqbF (und _ _ rfl) | exact d_eqb (und _ _ rfl) | exact d_eqST | exact d_eqSF | exact d_eqS | exact d_len (und _ _ rfl) | exact d_lens (und _ _ rfl) | exact d_indexAddr1 (und _ _ rfl) (isz _ _ rfl) | exact d_fieldAddr (fld _ _ _ _ rfl) (isz _ _ rfl) | exact d_eqN (ifc _ rfl) | exact d_neN (ifc _ rfl) | exact d_indexAddrS (und _ _ rfl) (isz _ _ rfl) | exact d_loadAgg (agg _ rfl) (isz _ _ rfl) rfl (arr_cells cc)); clear hF; clear a; intro a hF) | ((first | apply stm hF | apply stu hF); clear hF; clear a; intro a hF) | (apply c_cond_t hF; exact rfl; first | exact rfl | assumption) | (apply c_cond_f hF; exact rfl; first | exact rfl | assumption) | refine s_nil ?_)
    refine st_alloc hF inf38 (k := fun a w2 hg2 hgr2 hsz2 hF => ?_)
    have hB2 := hbel.grown hgr2 hsz (fun k hk => by cases hk)
    have hown2 := own_grown hown hgr2
    repeat (first | refine c_seq ?_ | refine c_block ?_ | refine c_region _ ?_ | refine wpList_nil ?_ | refine c_then ?_ | refine c_then_exit ?_ | refine c_then_ret ?_ | refine c_in ?_ | refine c_in_ret ?_ | refine c_in_hit ?_ | refine wp_skip ?_ | refine wp_exit ?_ | refine wp_ret ?_ | refine c_in_miss rfl ?_ | ((first | apply st hF | apply stg hF | apply s_step hF | apply s_stg hF); (first | exact d_move | exact d_assign | exact d_pickT | exact d_pickF | exact d_add | exact d_cmpT | exact d_cmpF | exact d_cmp | exact d_eqbT (und _ _ rfl) | exact d_eqbF (und _ _ rfl) | exact d_eqb (und _ _ rfl) | exact d_eqST | exact d_eqSF | exact d_eqS | exact d_len (und _ _ rfl) | exact d_lens (und _ _ rfl) | exact d_indexAddr1 (und _ _ rfl) (isz _ _ rfl) | exact d_fieldAddr (fld _ _ _ _ rfl) (isz _ _ rfl) | exact d_eqN (ifc _ rfl) | exact d_neN (ifc _ rfl)); clear hF; clear a; intro a hF) | ((first | apply stm hF | apply stu hF); clear hF; clear a; intro a hF) | (apply c_cond_t hF; exact rfl; first | exact rfl | assumption) | (apply c_cond_f hF; exact rfl; first | exact rfl | assumption) | refine s_nil ?_)
    refine st_storeAgg hF (cs := (Sig.cells s).toArray) (isz _ _ rfl) rfl rfl hg2 (sig_cells _) (k := fun a w3 hg3 hgr3 hsz3 hF => ?_)
    have hB3 := hB2.grown hgr3 hB2.size (fun k hk => by cases hk; omega)
    have hown3 := own_keptB hown2 hgr3 (fun k hk e => by have := (own_geA hown hk).2; simp only [Option.some.injEq] at e; omega)
    have c3 : w3.cell? ⟨wr.heap.size, 3, none⟩ = some (.int .i64 s.role) := cell_at hg3 rfl
    have c4 : w3.cell? ⟨wr.heap.size, 4, none⟩ = some (.int .u64 s.branch) := cell_at hg3 rfl
    by_cases hr : s.role = 2
    · by_cases hv : s.branch = v
      · have ht : tst s v = true := by simp [tst, hv]
        rw [if_pos ht] at hs
        repeat (first | refine c_seq ?_ | refine c_block ?_ | refine c_region _ ?_ | refine wpList_nil ?_ | refine c_then ?_ | refine c_then_exit ?_ | refine c_then_ret ?_ | refine c_in ?_ | refine c_in_ret ?_ | refine c_in_hit ?_ | refine wp_skip ?_ | refine wp_exit ?_ | refine wp_ret ?_ | refine c_in_miss rfl ?_ | ((first | apply st hF | apply stg hF | apply s_step hF | apply s_stg hF); (first | exact d_move | exact d_assign | exact d_pickT | exact d_pickF | exact d_add | exact d_cmpT | exact d_cmpF | exact d_cmp | exact d_eqbT (und _ _ rfl) | exact d_eqbF (und _ _ rfl) | exact d_eqb (und _ _ rfl) | exact d_eqST | exact d_eqSF | exact d_eqS | exact d_len (und _ _ rfl) | exact d_lens (und _ _ rfl) | exact d_indexAddr1 (und _ _ rfl) (isz _ _ rfl) | exact d_fieldAddr (fld _ _ _ _ rfl) (isz _ _ rfl) | exact d_eqN (ifc _ rfl) | exact d_neN (ifc _ rfl) | exact d_load (und _ _ rfl) c3 | exact d_load (und _ _ rfl) c4); clear hF; clear a; intro a hF) | ((first | apply stm hF | apply stu hF); clear hF; clear a; intro a hF) | (apply c_cond_t hF; exact rfl; first | exact rfl | assumption) | (apply c_cond_f hF; exact rfl; first | exact rfl | assumption) | refine s_nil ?_)
        refine st_push hF (und _ _ rfl) inf3 rfl hown3 (by omega) (by unfold maxLen; omega) hB3.size (k := fun a ao2 cap2 w2 hown2 hgr hF => ?_)
        have hb2 := below_own hB3 hB3.size hown3 hgr
        repeat (first | refine c_seq ?_ | refine c_block ?_ | refine c_region _ ?_ | refine wpList_nil ?_ | refine c_then ?_ | refine c_then_exit ?_ | refine c_then_ret ?_ | refine c_in ?_ | refine c_in_ret ?_ | refine c_in_hit ?_ | refine wp_skip ?_ | refine wp_exit ?_ | refine wp_ret ?_ | refine c_in_miss rfl ?_ | ((first | apply st hF | apply stg hF | apply s_step hF | apply s_stg hF); (first | exact d_move | exact d_assign | exact d_pickT | exact d_pickF | exact d_add | exact d_cmpT | exact d_cmpF | exact d_cmp | exact d_eqbT (und _ _ rfl) | exact d_eqbF (und _ _ rfl) | exact d_eqb (und _ _ rfl) | exact d_eqST | exact d_eqSF | exact d_eqS | exact d_len (und _ _ rfl) | exact d_lens (und _ _ rfl) | exact d_indexAddr1 (und _ _ rfl) (isz _ _ rfl) | exact d_fieldAddr (fld _ _ _ _ rfl) (isz _ _ rfl) | exact d_eqN (ifc _ rfl) | exact d_neN (ifc _ rfl)); clear hF; clear a; intro a hF) | ((first | apply stm hF | apply stu hF); clear hF; clear a; intro a hF) | (apply c_cond_t hF; exact rfl; first | exact rfl | assumption) | (apply c_cond_f hF; exact rfl; first | exact rfl | assumption) | refine s_nil ?_)
        rw [← ea] at hF
        refine ⟨m.sgN - (k + 1), by omega, k + 1, ao2, cap2, by omega, rfl, ?_⟩
        rw [hs]
        exact ⟨hF.keep' ⟨rfl, by simp only [List.length_append, List.length_cons, List.length_nil]; rfl, rfl, rfl, rfl, trivial⟩, by simpa using hown2, hb2⟩
      · have ht : tst s v = false := by simp [tst, hr, hv]
        rw [if_neg (by simp [ht])] at hs
        repeat (first | refine c_seq ?_ | refine c_block ?_ | refine c_region _ ?_ | refine wpList_nil ?_ | refine c_then ?_ | refine c_then_exit ?_ | refine c_then_ret ?_ | refine c_in ?_ | refine c_in_ret ?_ | refine c_in_hit ?_ | refine wp_skip ?_ | refine wp_exit ?_ | refine wp_ret ?_ | refine c_in_miss rfl ?_ | ((first | apply st hF | apply stg hF | apply s_step hF | apply s_stg hF); (first | exact d_move | exact d_assign | exact d_pickT | exact d_pickF | exact d_add | exact d_cmpT | exact d_cmpF | exact d_cmp | exact d_eqbT (und _ _ rfl) | exact d_eqbF (und _ _ rfl) | exact d_eqb (und _ _ rfl) | exact d_eqST | exact d_eqSF | exact d_eqS | exact d_len (und _ _ rfl) | exact d_lens (und _ _ rfl) | exact d_indexAddr1 (und _ _ rfl) (isz _ _ rfl) | exact d_fieldAddr (fld _ _ _ _ rfl) (isz _ _ rfl) | exact d_eqN (ifc _ rfl) | exact d_neN (ifc _ rfl) | exact d_load (und _ _ rfl) c3 | exact d_load (und _ _ rfl) c4); clear hF; clear a; intro a hF) | ((first | apply stm hF | apply stu hF); clear hF; clear a; intro a hF) | (apply c_cond_t hF; exact rfl; first | exact rfl | assumption) | (apply c_cond_f hF; exact rfl; first | exact rfl | assumption) | refine s_nil ?_)
        rw [← ea] at hF
        refine ⟨m.sgN - (k + 1), by omega, k + 1, ao', cap', by omega, rfl, ?_⟩
        rw [hs]
        exact ⟨hF.keep' ⟨rfl, rfl, rfl, rfl, rfl, trivial⟩, hown3, hB3⟩
    · have ht : tst s v = true := by simp [tst, hr]
      rw [if_pos ht] at hs
      repeat (first | refine c_seq ?_ | refine c_block ?_ | refine c_region _ ?_ | refine wpList_nil ?_ | refine c_then ?_ | refine c_then_exit ?_ | refine c_then_ret ?_ | refine c_in ?_ | refine c_in_ret ?_ | refine c_in_hit ?_ | refine wp_skip ?_ | refine wp_exit ?_ | refine wp_ret ?_ | refine c_in_miss rfl ?_ | ((first | apply st hF | apply stg hF | apply s_step hF | apply s_stg hF); (first | exact d_move | exact d_assign | exact d_pickT | exact d_pickF | exact d_add | exact d_cmpT | exact d_cmpF | exact d_cmp | exact d_eqbT (und _ _ rfl) | exact d_eqbF (und _ _ rfl) | exact d_eqb (und _ _ rfl) | exact d_eqST | exact d_eqSF | exact d_eqS | exact d_len (und _ _ rfl) | exact d_lens (und _ _ rfl) | exact d_indexAddr1 (und _ _ rfl) (isz _ _ rfl) | exact d_fieldAddr (fld _ _ _ _ rfl) (isz _ _ rfl) | exact d_eqN (ifc _ rfl) | exact d_neN (ifc _ rfl) | exact d_load (und _ _ rfl) c3 | exact d_load (und _ _ rfl) c4); clear hF; clear a; intro a hF) | ((first | apply stm hF | apply stu hF); clear hF; clear a; intro a hF) | (apply c_cond_t hF; exact rfl; first | exact rfl | assumption) | (apply c_cond_f hF; exact rfl; first | exact rfl | assumption) | refine s_nil ?_)
      refine st_push hF (und _ _ rfl) inf3 rfl hown3 (by omega) (by unfold maxLen; omega) hB3.size (k := fun a ao2 cap2 w2 hown2 hgr hF => ?_)
      have hb2 := below_own hB3 hB3.size hown3 hgr
      repeat (first | refine c_seq ?_ | refine c_block ?_ | refine c_region _ ?_ | refine wpList_nil ?_ | refine c_then ?_ | refine c_then_exit ?_ | refine c_then_ret ?_ | refine c_in ?_ | refine c_in_ret ?_ | refine c_in_hit ?_ | refine wp_skip ?_ | refine wp_exit ?_ | refine wp_ret ?_ | refine c_in_miss rfl ?_ | ((first | apply st hF | apply stg hF | apply s_step hF | apply s_stg hF); (first | exact d_move | exact d_assign | exact d_pickT | exact d_pickF | exact d_add | exact d_cmpT | exact d_cmpF | exact d_cmp | exact d_eqbT (und _ _ rfl) | exact d_eqbF (und _ _ rfl) | exact d_eqb (und _ _ rfl) | exact d_eqST | exact d_eqSF | exact d_eqS | exact d_len (und _ _ rfl) | exact d_lens (und _ _ rfl) | exact d_indexAddr1 (und _ _ rfl) (isz _ _ rfl) | exact d_fieldAddr (fld _ _ _ _ rfl) (isz _ _ rfl) | exact d_eqN (ifc _ rfl) | exact d_neN (ifc _ rfl)); clear hF; clear a; intro a hF) | ((first | apply stm hF | apply stu hF); clear hF; clear a; intro a hF) | (apply c_cond_t hF; exact rfl; first | exact rfl | assumption) | (apply c_cond_f hF; exact rfl; first | exact rfl | assumption) | refine s_nil ?_)
      rw [← ea] at hF
      refine ⟨m.sgN - (k + 1), by omega, k + 1, ao2, cap2, by omega, rfl, ?_⟩
      rw [hs]
      exact ⟨hF.keep' ⟨rfl, by simp only [List.length_append, List.length_cons, List.length_nil]; rfl, rfl, rfl, rfl, trivial⟩, by simpa using hown2, hb2⟩
  · obtain rfl : k = m.sgN := by omega
    repeat (first | refine c_seq ?_ | refine c_block ?_ | refine c_region _ ?_ | refine wpList_nil ?_ | refine c_then ?_ | refine c_then_exit ?_ | refine c_then_ret ?_ | refine c_in ?_ | refine c_in_ret ?_ | refine c_in_hit ?_ | refine wp_skip ?_ | refine wp_exit ?_ | refine wp_ret ?_ | refine c_in_miss rfl ?_ | ((first | apply st hF | apply stg hF | apply s_step hF | apply s_stg hF); (first | exact d_move | exact d_assign | exact d_pickT | exact d_pickF | exact d_add | exact d_cmpT | exact d_cmpF | exact d_cmp | exact d_eqbT (und _ _ rfl) | exact d_eqbF (und _ _ rfl) | exact d_eqb (und _ _ rfl) | exact d_eqST | exact d_eqSF | exact d_eqS | exact d_len (und _ _ rfl) | exact d_lens (und _ _ rfl) | exact d_indexAddr1 (und _ _ rfl) (isz _ _ rfl) | exact d_fieldAddr (fld _ _ _ _ rfl) (isz _ _ rfl) | exact d_eqN (ifc _ rfl) | exact d_neN (ifc _ rfl)); clear hF; clear a; intro a hF) | ((first | apply stm hF | apply stu hF); clear hF; clear a; intro a hF) | (apply c_cond_t hF; exact rfl; first | exact rfl | assumption) | (apply c_cond_f hF; exact rfl; first | exact rfl | assumption) | refine s_nil ?_)
    rw [← hn] at hF hown
    exact ret1 hF rfl rfl ⟨ao', cap', rfl, own_rebase hown (fun b hb => by have := (own_geA hown hb).1; omega), hb1.trans (hbel.mono hb1.size)⟩
end Go.Proofs.YtjomihhpglojpaaDoor
end
section
/- Slices of structs: what a part reads as, and 'append(s, x...)'. Plain lemmas over any program. -/
namespace Go.Proofs.YtjomihhpglojpaaDoor
open Go.RowKit
section
variable {P : Program} {ops : Array Oper} {Q : Exit → Act → World → Prop} {a : Act} {w w' : World} {rest : List Oper} {N : Nat} {l : List (Nat × Value)}
theorem RdS.drop {α : Type} {w : World} {ao : Option Addr} {sz : Nat} {enc : α → List Value} {xs : List α} (h : RdS w ao sz enc xs) (i m : Nat) (hm : xs.length ≤ m) : RdS w (if m = i then ao else ao.map (·.add (i * sz))) sz enc (xs.drop i) := by
  intro j hj
  rw [List.length_drop] at hj
  obtain ⟨b, o, rfl, hc⟩ := h (i + j) (by omega)
  rw [if_neg (by omega)]
  refine ⟨b, o + i * sz, by simp [addr_add], fun q v hq => ?_⟩
  rw [List.getElem_drop] at hq
  have := hc q v hq
  rwa [Nat.add_mul, ← Nat.add_assoc] at this
theorem RdS.take {α : Type} {w : World} {ao : Option Addr} {sz : Nat} {enc : α → List Value} {xs : List α} (h : RdS w ao sz enc xs) (n : Nat) : RdS w ao sz enc (xs.take n) := by
  intro j hj
  rw [List.length_take] at hj
  obtain ⟨b, o, e, hc⟩ := h j (by omega)
  exact ⟨b, o, e, fun q v hq => hc q v (by rw [List.getElem_take] at hq; exact hq)⟩
theorem own_pre {w : World} {base : Nat} {e : TypeId} {s n cap : Nat} {ao : Option Addr} {xs : List Value} (h : w.ownsRow base e s (.slice ao n cap) n xs) {m : Nat} (hm : m ≤ n) : w.ownsRow base e s (.slice ao m cap) m (xs.take (m * s)) := by
  have hl : xs.length = n * s := h.1
  have hms : m * s ≤ n * s := Nat.mul_le_mul_right _ hm
  refine ⟨by rw [List.length_take]; omega, ?_⟩
  rcases h.2 with ⟨h0, h1⟩ | ⟨g, cap', cur, h0, hb, hg, hle, hx, hsz, htk⟩
  · cases h0
    exact .inl ⟨by rw [show m = 0 by omega], by omega⟩
  · cases h0
    refine .inr ⟨_, _, cur, rfl, hb, hg, by omega, hx, hsz, ?_⟩
    rw [← htk, List.take_take, Nat.min_eq_left hms]
theorem flat_len {α : Type} {enc : α → List Value} {sz : Nat} (he : ∀ x, (enc x).length = sz) : ∀ xs : List α, (xs.flatMap enc).length = xs.length * sz
  | [] => by simp
  | x :: xs => by simp [he, flat_len he xs, Nat.add_mul, Nat.add_comm]
theorem flat_take {α : Type} {enc : α → List Value} {sz : Nat} (he : ∀ x, (enc x).length = sz) : ∀ (xs : List α) (n : Nat), (xs.flatMap enc).take (n * sz) = (xs.take n).flatMap enc
  | [], n => by simp
  | x :: xs, 0 => by simp
  | x :: xs, n + 1 => by
    have hx := he x
    rw [List.flatMap_cons, List.take_succ_cons, List.flatMap_cons, ← flat_take he xs n, List.take_append, hx]
    rw [List.take_of_length_le (by rw [hx, Nat.add_mul]; omega)]
    congr 2
    rw [Nat.add_mul]; omega
theorem st_appendS (h : Fr N l a) {α : Type} {enc : α → List Value} {ys : List α} {bo : Option Addr} {m c' sz : Nat} {d : Nat} {s x : Operand} {z : Value} {t e ty : TypeId} {pos : String} {af : Array Edge} {bytes n base cap : Nat} {ao : Option Addr} {xs : List Value}
    (he : ∀ x, (enc x).length = sz) (h0 : 0 < sz) (hU : P.underlying t = some (.slice e)) (hi : (P.info? e).map (fun i => (i.zero, i.size, i.bytes)) = some (some z, sz, bytes)) (hz : z.cells.size = sz)
    (hown : w.ownsRow base e sz (.slice ao n cap) n xs) (hys : ys.length = m) (hR : RdS w bo sz enc ys) (h1 : ∀ y, ∀ v ∈ enc y, v.oneCell' = true) (hbd : (n + m) * bytes ≤ 140737488355328) (hm : n + m ≤ maxLen) (hbase : base ≤ w.heap.size)
    (hs : Ev l s (.slice ao n cap) := by exact rfl) (hx : Ev l x (.slice bo m c') := by exact rfl) (hd : Nat.blt d N = true := by exact rfl)
    (k : ∀ a' ao' cap' w', w'.ownsRow base e sz (.slice ao' (n + m) cap') (n + m) (xs ++ ys.flatMap enc) → w.grownBy w' (Value.slice ao n cap).ownBlock → Fr N ((d, .slice ao' (n + m) cap') :: l) a' → wpList P ops Q rest a' w') :
    wpList P ops Q (⟨some d, .call { callee := .builtin .append, args := [s, x].toArray, argTypes := [t, t].toArray }, ty, pos, af, none⟩ :: rest) a w := by
  obtain ⟨i, g1, g2, g3, g4⟩ := info_parts hi
  by_cases hy0 : ys = []
  · subst hy0
    obtain rfl : m = 0 := by simpa using hys.symm
    obtain ⟨hle, _⟩ := own_cap' hown
    have hsrc : Src P i.size t (.slice bo 0 c') 0 [] w := by
      cases bo with
      | none => exact Src.ofNil w hU c'
      | some ad => exact Src.ofSlice w hU ad 0 c' [] (by simp) (by simp) (by simp)
    have hr := run_append_nothing (P := P) w t t ty e i hU g1 ao n cap hle _ hsrc
    refine st h (v := .slice ao n cap) (w' := w) ?_ hd fun a' hF => k a' ao cap w (by simpa using hown) (World.grownBy.refl w _) hF
    intro ρ hρ d pos af g
    simp [execOp, resolve, invoke, builtin, hρ _ _ hs, hρ _ _ hx, hr]
  · obtain ⟨b, o, rfl, _⟩ := hR 0 (by cases ys with | nil => exact absurd rfl hy0 | cons _ _ => simp)
    refine wpList_append_own_at _ rfl s x t rfl base e i z sz bytes hU g1 g2 g3 g4 hz h0 (.slice ao n cap) n xs (h.eval _ _ hs) hown
      ⟨b, o, none⟩ m c' (ys.flatMap enc) (h.eval _ _ hx) (by rw [flat_len he, hys]) ?_ ?_ hm hbd hbase ?_
    · intro j v hj
      have hjl : j < ys.length * sz := by
        have := (List.getElem?_eq_some_iff.1 hj).1
        rw [flat_len he] at this; exact this
      have hq : j % sz < sz := Nat.mod_lt _ h0
      have hi' : j / sz < ys.length := Nat.div_lt_of_lt_mul (by rw [Nat.mul_comm]; exact hjl)
      obtain ⟨b2, o2, e2, hc⟩ := hR (j / sz) hi'
      cases e2
      have e3 := flat_get he ys (j / sz) hi' (j % sz) hq
      have e4 : j / sz * sz + j % sz = j := by rw [Nat.mul_comm]; exact Nat.div_add_mod j sz
      rw [e4, hj] at e3
      have := hc (j % sz) v e3.symm
      rw [Nat.add_assoc, e4] at this
      rw [addr_add]; exact this
    · intro v hv
      obtain ⟨y, _, hv⟩ := List.mem_flatMap.1 hv
      exact h1 y v hv
    · intro v' w' hown' hgr hnil hat
      obtain ⟨ao', cap', rfl, _, _⟩ := own_form hown'
      exact k _ ao' cap' w' hown' hgr (h.put hd _)
end
end Go.Proofs.YtjomihhpglojpaaDoor
end
