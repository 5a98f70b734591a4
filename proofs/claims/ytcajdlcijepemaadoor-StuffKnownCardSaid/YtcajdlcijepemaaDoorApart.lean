/- ApartBools: of rows that lie apart it says so; only their blocks are written. -/
import Derived.Test.YtcajdlcijepemaaDoorFacts
import Derived.Test.YtcajdlcijepemaaDoorOwn2
namespace Go.Proofs.YtcajdlcijepemaaDoor
open Go.RowKit
set_option linter.unusedSimpArgs false
set_option linter.unusedVariables false
attribute [local irreducible] wpList wpQuiet wpStill Code.wp Exit.then Exit.inBlock bodyPost Calls Does Does0

section
variable (m : Nat) (A : Nat → Option Addr) (n c : Nat → Nat)

/-- A row as it was handed in. -/
abbrev vS (A : Nat → Option Addr) (n c : Nat → Nat) (j : Nat) : Value := .slice (A j) (n j) (c j)

/-- What is left alone: all but the rows' own blocks. -/
structure Fz (w0 w : World) : Prop where
  os : w.os = w0.os
  tape : w.tape = w0.tape
  output : w.output = w0.output
  size : w0.heap.size ≤ w.heap.size
  block : ∀ i, i < w0.heap.size → (∀ j, j < m → (vS A n c j).ownBlock ≠ some i) → w.heap[i]? = w0.heap[i]?

/-- The rows, and those that were made longer. -/
structure Gp (w0 : World) (base lb : Nat) (grp : Nat → Nat) (Gs : List Value) (w : World) : Prop where
  ls : w.ownsRow base 22 1 (.slice (some ⟨lb, 0, none⟩) m m) m ((List.range m).map (vS A n c))
  row : ∀ j, j < m → ∃ X : List Bool, w.ownsRow base 4 1 (vS A n c j) (n j) (X.map .bool)
  ext : ∀ j, j < Gs.length → ∃ (g d : Nat) (Y : List Bool), Gs[j]? = some (.slice (some ⟨g, 0, none⟩) (n j + 64) d) ∧ w.ownsRow base 4 1 (.slice (some ⟨g, 0, none⟩) (n j + 64) d) (n j + 64) (Y.map .bool) ∧
    ((A j = some ⟨g, 0, none⟩ ∧ c j = d) ∨ w0.heap.size ≤ g) ∧ grp g = j
  grpV : ∀ j, j < m → ∀ b, (vS A n c j).ownBlock = some b → grp b = j ∧ b < w0.heap.size
  fz : Fz m A n c w0 w
end

/-- Rows kept while a new block is made or one that is none of theirs is written. -/
theorem Gp.keep {m : Nat} {A : Nat → Option Addr} {n c : Nat → Nat} {w0 w w' : World} {base lb : Nat} {grp : Nat → Nat} {Gs : List Value} (h : Gp m A n c w0 base lb grp Gs w) {r : Option Nat} (hgr : w.grownBy w' r)
    (h1 : ∀ b, r = some b → b ≠ lb) (h2 : ∀ b, r = some b → w0.heap.size ≤ b) (h3 : ∀ b, r = some b → ∀ j, j < Gs.length → ∀ g d, Gs[j]? = some (.slice (some ⟨g, 0, none⟩) (n j + 64) d) → g ≠ b) : Gp m A n c w0 base lb grp Gs w' := by
  refine ⟨own_keptB h.ls hgr fun k hk => ?_, fun j hj => ?_, fun j hj => ?_, h.grpV, ⟨hgr.os.trans h.fz.os, hgr.tape.trans h.fz.tape, hgr.output.trans h.fz.output, Nat.le_trans h.fz.size hgr.size, fun i hi hne => ?_⟩⟩
  · intro e
    simp only [Value.ownBlock, Option.some.injEq] at hk
    exact h1 k e hk.symm
  · obtain ⟨X, hX⟩ := h.row j hj
    refine ⟨X, own_keptB hX hgr fun k hk e => ?_⟩
    have := (h.grpV j hj k hk).2
    have := h2 k e
    omega
  · obtain ⟨g, d, Y, e1, hY, hs, hg⟩ := h.ext j hj
    refine ⟨g, d, Y, e1, own_keptB hY hgr fun k hk e => ?_, hs, hg⟩
    simp only [Value.ownBlock, Option.some.injEq] at hk
    exact h3 k e j hj g d e1 hk
  · rw [hgr.block i (Nat.lt_of_lt_of_le hi h.fz.size) (fun e => by have := h2 i e.symm; omega)]
    exact h.fz.block i hi hne
/-- Row k's own blocks are written. -/
theorem Gp.write {m : Nat} {A : Nat → Option Addr} {n c : Nat → Nat} {w0 w w' : World} {base lb : Nat} {grp : Nat → Nat} {Gs : List Value} (h : Gp m A n c w0 base lb grp Gs w) {b k : Nat} (hgr : w.grownBy w' (some b))
    (hk : k < m) (hb : grp b = k) (hlb : b ≠ lb) (hw : (vS A n c k).ownBlock = some b ∨ w0.heap.size ≤ b) (hrow : ∃ X : List Bool, w'.ownsRow base 4 1 (vS A n c k) (n k) (X.map .bool))
    (hext : k < Gs.length → ∃ (g d : Nat) (Y : List Bool), Gs[k]? = some (.slice (some ⟨g, 0, none⟩) (n k + 64) d) ∧ w'.ownsRow base 4 1 (.slice (some ⟨g, 0, none⟩) (n k + 64) d) (n k + 64) (Y.map .bool) ∧
      ((A k = some ⟨g, 0, none⟩ ∧ c k = d) ∨ w0.heap.size ≤ g) ∧ grp g = k) : Gp m A n c w0 base lb grp Gs w' := by
  refine ⟨own_keptB h.ls hgr fun k hk e => ?_, fun j hj => ?_, fun j hj => ?_, h.grpV, ⟨hgr.os.trans h.fz.os, hgr.tape.trans h.fz.tape, hgr.output.trans h.fz.output, Nat.le_trans h.fz.size hgr.size, fun i hi hne => ?_⟩⟩
  · simp only [Value.ownBlock, Option.some.injEq] at hk
    simp only [Option.some.injEq] at e
    exact hlb (e.trans hk.symm)
  · by_cases e : j = k
    · subst e; exact hrow
    · obtain ⟨X, hX⟩ := h.row j hj
      refine ⟨X, own_keptB hX hgr fun q hq e2 => ?_⟩
      simp only [Option.some.injEq] at e2
      subst e2
      exact e ((h.grpV j hj _ hq).1.symm.trans hb)
  · by_cases e : j = k
    · subst e; exact hext hj
    · obtain ⟨g, d, Y, e1, hY, hs, hg⟩ := h.ext j hj
      refine ⟨g, d, Y, e1, own_keptB hY hgr fun q hq e2 => ?_, hs, hg⟩
      simp only [Value.ownBlock, Option.some.injEq] at hq
      simp only [Option.some.injEq] at e2
      subst hq; subst e2
      exact e (hg.symm.trans hb)
  · rw [hgr.block i (Nat.lt_of_lt_of_le hi h.fz.size) (fun e => ?_)]
    · exact h.fz.block i hi hne
    · simp only [Option.some.injEq] at e
      subst e
      rcases hw with hw | hw
      · exact hne k hk hw
      · omega
theorem Gp.below {m : Nat} {A : Nat → Option Addr} {n c : Nat → Nat} {w0 w w' : World} {base lb : Nat} {grp : Nat → Nat} {Gs : List Value} (h : Gp m A n c w0 base lb grp Gs w) (hb : Below w.heap.size w w') : Gp m A n c w0 base lb grp Gs w' := by
  refine ⟨own_below h.ls hb, fun j hj => ?_, fun j hj => ?_, h.grpV, ⟨hb.os.trans h.fz.os, hb.tape.trans h.fz.tape, hb.output.trans h.fz.output, Nat.le_trans h.fz.size hb.size, fun i hi hne => (hb.block i (Nat.lt_of_lt_of_le hi h.fz.size)).trans (h.fz.block i hi hne)⟩⟩
  · obtain ⟨X, hX⟩ := h.row j hj
    exact ⟨X, own_below hX hb⟩
  · obtain ⟨g, d, Y, e1, hY, r⟩ := h.ext j hj
    exact ⟨g, d, Y, e1, own_below hY hb, r⟩
theorem Gp.at_ {m : Nat} {A : Nat → Option Addr} {n c : Nat → Nat} {w0 w : World} {base lb : Nat} {grp : Nat → Nat} {Gs : List Value} (h : Gp m A n c w0 base lb grp Gs w) {k : Nat} (hk : k < m) : w.cell? ⟨lb, 0 + k, none⟩ = some (vS A n c k) := by
  have := own_cells h.ls (i := k) (by simpa using hk)
  simpa using this

/-- Where a round stands: the rows, their copies, and row k, of which Z is what it holds now and Y what it held. -/
structure Was (m : Nat) (A : Nat → Option Addr) (n c : Nat → Nat) (w0 : World) (base lb : Nat) (grp : Nat → Nat) (Gs : List Value) (B : Nat) (gov wov : Value) (Ws : List Value) (k g d : Nat) (Y Z : List Bool) (w : World) : Prop where
  gp : Gp m A n c w0 base lb grp Gs w
  go : w.ownsRow base 22 1 gov m Gs
  wo : w.ownsRow B 22 1 wov m Ws
  other : ∀ q, q < m → q ≠ k → ∃ (g d : Nat) (Y : List Bool) (ao : Option Addr) (cap : Nat), Gs[q]? = some (.slice (some ⟨g, 0, none⟩) (n q + 64) d) ∧
    w.ownsRow base 4 1 (.slice (some ⟨g, 0, none⟩) (n q + 64) d) (n q + 64) (Y.map .bool) ∧ Ws[q]? = some (.slice ao (n q + 64) cap) ∧ w.ownsRow B 4 1 (.slice ao (n q + 64) cap) (n q + 64) (Y.map .bool)
  gk : Gs[k]? = some (.slice (some ⟨g, 0, none⟩) (n k + 64) d)
  own : w.ownsRow base 4 1 (.slice (some ⟨g, 0, none⟩) (n k + 64) d) (n k + 64) (Z.map .bool)
  was : ∃ ao cap, Ws[k]? = some (.slice ao (n k + 64) cap) ∧ w.ownsRow B 4 1 (.slice ao (n k + 64) cap) (n k + 64) (Y.map .bool)
theorem Was.below {m : Nat} {A : Nat → Option Addr} {n c : Nat → Nat} {w0 : World} {base lb : Nat} {grp : Nat → Nat} {Gs : List Value} {B : Nat} {gov wov : Value} {Ws : List Value} {k g d : Nat} {Y Z : List Bool} {w w' : World}
    (h : Was m A n c w0 base lb grp Gs B gov wov Ws k g d Y Z w) (hb : Below w.heap.size w w') : Was m A n c w0 base lb grp Gs B gov wov Ws k g d Y Z w' := by
  refine ⟨h.gp.below hb, own_below h.go hb, own_below h.wo hb, fun q hq hne => ?_, h.gk, own_below h.own hb, ?_⟩
  · obtain ⟨g, d, Y, ao, cap, e1, e2, e3, e4⟩ := h.other q hq hne
    exact ⟨g, d, Y, ao, cap, e1, own_below e2 hb, e3, own_below e4 hb⟩
  · obtain ⟨ao, cap, e1, e2⟩ := h.was
    exact ⟨ao, cap, e1, own_below e2 hb⟩
theorem Was.write {m : Nat} {A : Nat → Option Addr} {n c : Nat → Nat} {w0 : World} {base lb : Nat} {grp : Nat → Nat} {Gs : List Value} {B : Nat} {gov wov : Value} {Ws : List Value} {k g d : Nat} {Y Z Z' : List Bool} {w w' : World}
    (h : Was m A n c w0 base lb grp Gs B gov wov Ws k g d Y Z w) {b : Nat} (hgr : w.grownBy w' (some b)) (hk : k < m) (hb : grp b = k) (hbB : b < B) {base' : Nat} {v : Value} {n' : Nat} {xs : List Value} (hbt : w.ownsRow base' 4 1 v n' xs) (hbv : v.ownBlock = some b)
    (hw : (vS A n c k).ownBlock = some b ∨ w0.heap.size ≤ b) (hrow : ∃ X : List Bool, w'.ownsRow base 4 1 (vS A n c k) (n k) (X.map .bool))
    (hown : w'.ownsRow base 4 1 (.slice (some ⟨g, 0, none⟩) (n k + 64) d) (n k + 64) (Z'.map .bool)) (hkl : k < Gs.length) : Was m A n c w0 base lb grp Gs B gov wov Ws k g d Y Z' w' := by
  refine ⟨h.gp.write hgr hk hb (own_apart hbt h.gp.ls (by decide) hbv rfl) hw hrow fun _ => ?_, own_keptB h.go hgr fun q hq e => ?_, own_keptB h.wo hgr fun q hq e => ?_, fun q hq hne => ?_, h.gk, hown, ?_⟩
  · obtain ⟨g', d', Y', e1, e2, e3, e4⟩ := h.gp.ext k hkl
    have e5 := h.gk
    rw [e1] at e5
    cases e5
    exact ⟨_, _, Z', e1, hown, e3, e4⟩
  · cases e
    exact own_apart hbt h.go (by decide) hbv hq rfl
  · cases e
    exact own_apart hbt h.wo (by decide) hbv hq rfl
  · obtain ⟨g2, d2, Y2, ao, cap, e1, e2, e3, e4⟩ := h.other q hq hne
    refine ⟨g2, d2, Y2, ao, cap, e1, own_keptB e2 hgr fun x hx e => ?_, e3, own_keptB e4 hgr fun x hx e => ?_⟩
    · simp only [Value.ownBlock, Option.some.injEq] at hx
      cases e
      have hql : q < Gs.length := by
        rcases Nat.lt_or_ge q Gs.length with hh | hh
        · exact hh
        · rw [List.getElem?_eq_none hh] at e1; cases e1
      obtain ⟨g', d', Y', f1, f2, f3, f4⟩ := h.gp.ext q hql
      rw [e1] at f1
      cases f1
      subst hx
      exact hne (f4.symm.trans hb)
    · cases e
      obtain ⟨b', hb', hle⟩ := own_some e4 (by omega)
      rw [hb'] at hx
      simp only [Value.ownBlock, Option.some.injEq] at hx
      omega
  · obtain ⟨ao, cap, e1, e2⟩ := h.was
    refine ⟨ao, cap, e1, own_keptB e2 hgr fun x hx e => ?_⟩
    cases e
    obtain ⟨b', hb', hle⟩ := own_some e2 (by omega)
    rw [hb'] at hx
    simp only [Value.ownBlock, Option.some.injEq] at hx
    omega

set_option maxHeartbeats 8000000 in
theorem apart_ok (w0 : World) (m : Nat) (A : Nat → Option Addr) (n c : Nat → Nat) (lb base : Nat) (grp : Nat → Nat) (hm : m ≤ 4) (hn : ∀ j, j < m → n j ≤ 2000000000) (hlb : lb < w0.heap.size) (hbase : base ≤ w0.heap.size)
    (hG : Gp m A n c w0 base lb grp [] w0) :
    Ret Tryd.prog 11 #[.slice (some ⟨lb, 0, none⟩) m m] w0 (fun v w' => v = .bool true ∧ Fz m A n c w0 w') := by
  refine enter1 Tryd.func11 rfl 178 rfl 179 rfl (fun a hF => ?_)
  repeat (first | refine c_seq ?_ | refine c_block ?_ | refine c_region _ ?_ | refine wpList_nil ?_ | refine c_then ?_ | refine c_then_exit ?_ | refine c_then_ret ?_ | refine c_in ?_ | refine c_in_ret ?_ | refine c_in_hit ?_ | refine wp_skip ?_ | refine wp_exit ?_ | refine wp_ret ?_ | refine c_in_miss rfl ?_ | (refine q_nil ?_; rintro _ ⟨ndr, rfl⟩) | refine c_region_draw _ mixed (by kernel_rfl) ?_ | ((first | apply st hF | apply stg hF | apply s_step hF | apply s_stg hF); (first | exact d_move | exact d_assign | exact d_not | exact d_pickT | exact d_pickF | exact d_add | exact d_sub | exact d_quo | exact d_rem | exact d_cmpT | exact d_cmpF | exact d_cmp | exact d_eqbT (und _ _ rfl) | exact d_eqbF (und _ _ rfl) | exact d_eqb (und _ _ rfl) | exact d_eqST | exact d_eqSF | exact d_eqS | exact d_len (und _ _ rfl) | exact d_lens (und _ _ rfl) | exact d_nilCheck | exact d_indexAddr1 (und _ _ rfl) (isz _ _ rfl) | exact d_fieldAddr (fld _ _ _ _ rfl) (isz _ _ rfl) | exact d_slice (und _ _ rfl) (isz _ _ rfl) | exact d_slice3 (und _ _ rfl) (isz _ _ rfl) | exact d_slice3l (und _ _ rfl) (isz _ _ rfl) | exact d_sliceL (und _ _ rfl) (isz _ _ rfl) | exact d_eqN (ifc _ rfl) | exact d_neN (ifc _ rfl) | exact d_makeI (con _ rfl) | exact d_extract); clear hF; clear a; intro a hF) | ((first | apply q_step hF | apply q_stg hF); intro wq hwq; (first | exact d_move | exact d_assign | exact d_not | exact d_pickT | exact d_pickF | exact d_add | exact d_sub | exact d_quo | exact d_rem | exact d_cmpT | exact d_cmpF | exact d_cmp | exact d_eqbT (und _ _ rfl) | exact d_eqbF (und _ _ rfl) | exact d_eqb (und _ _ rfl) | exact d_eqST | exact d_eqSF | exact d_eqS | exact d_len (und _ _ rfl) | exact d_lens (und _ _ rfl) | exact d_nilCheck | exact d_indexAddr1 (und _ _ rfl) (isz _ _ rfl) | exact d_fieldAddr (fld _ _ _ _ rfl) (isz _ _ rfl) | exact d_slice (und _ _ rfl) (isz _ _ rfl) | exact d_slice3 (und _ _ rfl) (isz _ _ rfl) | exact d_slice3l (und _ _ rfl) (isz _ _ rfl) | exact d_sliceL (und _ _ rfl) (isz _ _ rfl) | exact d_eqN (ifc _ rfl) | exact d_neN (ifc _ rfl) | exact d_makeI (con _ rfl) | exact d_extract); clear hF; clear a; intro a hF) | ((first | apply stm hF | apply stu hF | apply q_stm hF | apply q_stu hF); clear hF; clear a; intro a hF) | (apply c_cond_t hF; exact rfl; first | exact rfl | assumption) | (apply c_cond_f hF; exact rfl; first | exact rfl | assumption) | refine s_nil ?_)
  refine c_loop (fun N1 a wr => ∃ k gao gcap Gs grp, k ≤ m ∧ N1 = m - k ∧ Gs.length = k ∧ Fr 179 [(0, .slice (some ⟨lb, 0, none⟩) m m), (3, .slice gao k gcap), (4, .int .i64 (k : Nat))] a ∧
    wr.ownsRow base 22 1 (.slice gao k gcap) k Gs ∧ (∀ b, (Value.slice gao k gcap).ownBlock = some b → w0.heap.size ≤ b) ∧ Gp m A n c w0 base lb grp Gs wr) m
    ⟨0, none, 0, [], grp, by omega, rfl, rfl, hF.keep' ⟨rfl, rfl, rfl, trivial⟩, World.ownsRow_nil _ _ _ _, (by intro b hb; cases hb), hG⟩ ?_
  clear hF a hG grp
  rintro N1 a wk ⟨k, gao, gcap, Gs, grp, hk, rfl, hGl, hF, hgo, hgb, hG⟩
  have hszk := hG.fz.size
  by_cases hlt : k < m
  · have ck := hG.at_ hlt
    have hnk := hn k hlt
    have hgsz : ∀ j, j < Gs.length → ∀ g d, Gs[j]? = some (.slice (some ⟨g, 0, none⟩) (n j + 64) d) → g < wk.heap.size := by
      intro j hj g d e
      obtain ⟨g', d', Y, e1, hY, _, _⟩ := hG.ext j hj
      rw [e] at e1
      cases e1
      exact (hY.lt _ rfl).2
    obtain ⟨X, hX⟩ := hG.row k hlt
    repeat (first | refine c_seq ?_ | refine c_block ?_ | refine c_region _ ?_ | refine wpList_nil ?_ | refine c_then ?_ | refine c_then_exit ?_ | refine c_then_ret ?_ | refine c_in ?_ | refine c_in_ret ?_ | refine c_in_hit ?_ | refine wp_skip ?_ | refine wp_exit ?_ | refine wp_ret ?_ | refine c_in_miss rfl ?_ | (refine q_nil ?_; rintro _ ⟨ndr, rfl⟩) | refine c_region_draw _ mixed (by kernel_rfl) ?_ | ((first | apply st hF | apply stg hF | apply s_step hF | apply s_stg hF); (first | exact d_move | exact d_assign | exact d_not | exact d_pickT | exact d_pickF | exact d_add | exact d_sub | exact d_quo | exact d_rem | exact d_cmpT | exact d_cmpF | exact d_cmp | exact d_eqbT (und _ _ rfl) | exact d_eqbF (und _ _ rfl) | exact d_eqb (und _ _ rfl) | exact d_eqST | exact d_eqSF | exact d_eqS | exact d_len (und _ _ rfl) | exact d_lens (und _ _ rfl) | exact d_nilCheck | exact d_indexAddr1 (und _ _ rfl) (isz _ _ rfl) | exact d_fieldAddr (fld _ _ _ _ rfl) (isz _ _ rfl) | exact d_slice (und _ _ rfl) (isz _ _ rfl) | exact d_slice3 (und _ _ rfl) (isz _ _ rfl) | exact d_slice3l (und _ _ rfl) (isz _ _ rfl) | exact d_sliceL (und _ _ rfl) (isz _ _ rfl) | exact d_eqN (ifc _ rfl) | exact d_neN (ifc _ rfl) | exact d_makeI (con _ rfl) | exact d_extract | exact d_load (und _ _ rfl) ck); clear hF; clear a; intro a hF) | ((first | apply q_step hF | apply q_stg hF); intro wq hwq; (first | exact d_move | exact d_assign | exact d_not | exact d_pickT | exact d_pickF | exact d_add | exact d_sub | exact d_quo | exact d_rem | exact d_cmpT | exact d_cmpF | exact d_cmp | exact d_eqbT (und _ _ rfl) | exact d_eqbF (und _ _ rfl) | exact d_eqb (und _ _ rfl) | exact d_eqST | exact d_eqSF | exact d_eqS | exact d_len (und _ _ rfl) | exact d_lens (und _ _ rfl) | exact d_nilCheck | exact d_indexAddr1 (und _ _ rfl) (isz _ _ rfl) | exact d_fieldAddr (fld _ _ _ _ rfl) (isz _ _ rfl) | exact d_slice (und _ _ rfl) (isz _ _ rfl) | exact d_slice3 (und _ _ rfl) (isz _ _ rfl) | exact d_slice3l (und _ _ rfl) (isz _ _ rfl) | exact d_sliceL (und _ _ rfl) (isz _ _ rfl) | exact d_eqN (ifc _ rfl) | exact d_neN (ifc _ rfl) | exact d_makeI (con _ rfl) | exact d_extract | exact q_load (und _ _ rfl) hwq (by exact ck)); clear hF; clear a; intro a hF) | ((first | apply stm hF | apply stu hF | apply q_stm hF | apply q_stu hF); clear hF; clear a; intro a hF) | (apply c_cond_t hF; exact rfl; first | exact rfl | assumption) | (apply c_cond_f hF; exact rfl; first | exact rfl | assumption) | refine s_nil ?_)
    refine c_loop (fun N2 a wr => ∃ i ga gd, ∃ Y : List Bool, i ≤ 64 ∧ N2 = 64 - i ∧ Fr 179 [(0, .slice (some ⟨lb, 0, none⟩) m m), (3, .slice gao k gcap), (4, .int .i64 (k : Nat)), (5, .slice ga (n k + i) gd), (6, .int .i64 (i : Nat))] a ∧
      wr.ownsRow base 4 1 (.slice ga (n k + i) gd) (n k + i) (Y.map .bool) ∧ ((ga = A k ∧ gd = c k) ∨ ∃ g, ga = some ⟨g, 0, none⟩ ∧ wk.heap.size ≤ g) ∧
      wr.ownsRow base 22 1 (.slice gao k gcap) k Gs ∧ Gp m A n c w0 base lb grp Gs wr ∧ wk.heap.size ≤ wr.heap.size) 64
      ⟨0, A k, c k, X, by omega, rfl, hF.keep' ⟨rfl, rfl, rfl, rfl, rfl, trivial⟩, hX, .inl ⟨rfl, rfl⟩, hgo, hG, Nat.le_refl _⟩ ?_
    clear hF a ck
    rintro N2 a wr ⟨i, ga, gd, Y, hi, rfl, hF, hY, hway, hgo2, hG2, hszr⟩
    by_cases hi64 : i < 64
    · repeat (first | refine c_seq ?_ | refine c_block ?_ | refine c_region _ ?_ | refine wpList_nil ?_ | refine c_then ?_ | refine c_then_exit ?_ | refine c_then_ret ?_ | refine c_in ?_ | refine c_in_ret ?_ | refine c_in_hit ?_ | refine wp_skip ?_ | refine wp_exit ?_ | refine wp_ret ?_ | refine c_in_miss rfl ?_ | (refine q_nil ?_; rintro _ ⟨ndr, rfl⟩) | refine c_region_draw _ mixed (by kernel_rfl) ?_ | ((first | apply st hF | apply stg hF | apply s_step hF | apply s_stg hF); (first | exact d_move | exact d_assign | exact d_not | exact d_pickT | exact d_pickF | exact d_add | exact d_sub | exact d_quo | exact d_rem | exact d_cmpT | exact d_cmpF | exact d_cmp | exact d_eqbT (und _ _ rfl) | exact d_eqbF (und _ _ rfl) | exact d_eqb (und _ _ rfl) | exact d_eqST | exact d_eqSF | exact d_eqS | exact d_len (und _ _ rfl) | exact d_lens (und _ _ rfl) | exact d_nilCheck | exact d_indexAddr1 (und _ _ rfl) (isz _ _ rfl) | exact d_fieldAddr (fld _ _ _ _ rfl) (isz _ _ rfl) | exact d_slice (und _ _ rfl) (isz _ _ rfl) | exact d_slice3 (und _ _ rfl) (isz _ _ rfl) | exact d_slice3l (und _ _ rfl) (isz _ _ rfl) | exact d_sliceL (und _ _ rfl) (isz _ _ rfl) | exact d_eqN (ifc _ rfl) | exact d_neN (ifc _ rfl) | exact d_makeI (con _ rfl) | exact d_extract); clear hF; clear a; intro a hF) | ((first | apply q_step hF | apply q_stg hF); intro wq hwq; (first | exact d_move | exact d_assign | exact d_not | exact d_pickT | exact d_pickF | exact d_add | exact d_sub | exact d_quo | exact d_rem | exact d_cmpT | exact d_cmpF | exact d_cmp | exact d_eqbT (und _ _ rfl) | exact d_eqbF (und _ _ rfl) | exact d_eqb (und _ _ rfl) | exact d_eqST | exact d_eqSF | exact d_eqS | exact d_len (und _ _ rfl) | exact d_lens (und _ _ rfl) | exact d_nilCheck | exact d_indexAddr1 (und _ _ rfl) (isz _ _ rfl) | exact d_fieldAddr (fld _ _ _ _ rfl) (isz _ _ rfl) | exact d_slice (und _ _ rfl) (isz _ _ rfl) | exact d_slice3 (und _ _ rfl) (isz _ _ rfl) | exact d_slice3l (und _ _ rfl) (isz _ _ rfl) | exact d_sliceL (und _ _ rfl) (isz _ _ rfl) | exact d_eqN (ifc _ rfl) | exact d_neN (ifc _ rfl) | exact d_makeI (con _ rfl) | exact d_extract); clear hF; clear a; intro a hF) | ((first | apply stm hF | apply stu hF | apply q_stm hF | apply q_stu hF); clear hF; clear a; intro a hF) | (apply c_cond_t hF; exact rfl; first | exact rfl | assumption) | (apply c_cond_f hF; exact rfl; first | exact rfl | assumption) | refine s_nil ?_)
      refine st_push2 hF (und _ _ rfl) inf4 rfl hY (by omega) (by unfold maxLen; omega) (by omega) (k := fun a ga2 gd2 w2 hY2 hw2 hF => ?_)
      have hYe : (Y.map Value.bool) ++ [.bool ((i : Int) % 2 == 0)] = (Y ++ [(i : Int) % 2 == 0]).map .bool := by simp
      rw [hYe] at hY2
      have hgo3 : w2.ownsRow base 22 1 (.slice gao k gcap) k Gs := by
        rcases hw2 with ⟨_, _, hgr⟩ | ⟨_, _, _, _, hgr⟩
        · exact own_keptO hgo2 hY (by decide) hgr
        · exact own_grown hgo2 hgr
      have hG3 : Gp m A n c w0 base lb grp Gs w2 ∧ wk.heap.size ≤ w2.heap.size ∧ ((ga2 = A k ∧ gd2 = c k) ∨ ∃ g, ga2 = some ⟨g, 0, none⟩ ∧ wk.heap.size ≤ g) := by
        rcases hw2 with ⟨rfl, rfl, hgr⟩ | ⟨g, rfl, hg1, hg2, hgr⟩
        · obtain ⟨g, rfl, _⟩ := own_some hY2 (by omega)
          have hgr' : wr.grownBy w2 (some g) := hgr
          have hne : g ≠ lb := own_apart hY hG2.ls (by decide) rfl rfl
          refine ⟨?_, Nat.le_trans hszr hgr.size, hway⟩
          rcases hway with ⟨e1, e2⟩ | ⟨g', e1, hg'⟩
          · have hV : (vS A n c k).ownBlock = some g := by simp only [vS, ← e1]; rfl
            refine hG2.write hgr' hlt (hG2.grpV k hlt g hV).1 hne (.inl hV) ⟨(Y ++ [(i : Int) % 2 == 0]).take (n k), ?_⟩ (fun h => by omega)
            have := own_prefix hY2 (n := n k) (by omega)
            rw [← List.map_take] at this
            simp only [vS, ← e1, ← e2]
            exact this
          · cases e1
            refine hG2.keep hgr' (fun b hb => by cases hb; exact hne) (fun b hb => by cases hb; omega) (fun b hb j hj g2 d2 e2 => ?_)
            cases hb
            have := hgsz j hj g2 d2 e2
            omega
        · exact ⟨hG2.keep hgr (fun b hb => by cases hb) (fun b hb => by cases hb) (fun b hb => by cases hb), Nat.le_trans hszr hgr.size, .inr ⟨g, rfl, by omega⟩⟩
      repeat (first | refine c_seq ?_ | refine c_block ?_ | refine c_region _ ?_ | refine wpList_nil ?_ | refine c_then ?_ | refine c_then_exit ?_ | refine c_then_ret ?_ | refine c_in ?_ | refine c_in_ret ?_ | refine c_in_hit ?_ | refine wp_skip ?_ | refine wp_exit ?_ | refine wp_ret ?_ | refine c_in_miss rfl ?_ | (refine q_nil ?_; rintro _ ⟨ndr, rfl⟩) | refine c_region_draw _ mixed (by kernel_rfl) ?_ | ((first | apply st hF | apply stg hF | apply s_step hF | apply s_stg hF); (first | exact d_move | exact d_assign | exact d_not | exact d_pickT | exact d_pickF | exact d_add | exact d_sub | exact d_quo | exact d_rem | exact d_cmpT | exact d_cmpF | exact d_cmp | exact d_eqbT (und _ _ rfl) | exact d_eqbF (und _ _ rfl) | exact d_eqb (und _ _ rfl) | exact d_eqST | exact d_eqSF | exact d_eqS | exact d_len (und _ _ rfl) | exact d_lens (und _ _ rfl) | exact d_nilCheck | exact d_indexAddr1 (und _ _ rfl) (isz _ _ rfl) | exact d_fieldAddr (fld _ _ _ _ rfl) (isz _ _ rfl) | exact d_slice (und _ _ rfl) (isz _ _ rfl) | exact d_slice3 (und _ _ rfl) (isz _ _ rfl) | exact d_slice3l (und _ _ rfl) (isz _ _ rfl) | exact d_sliceL (und _ _ rfl) (isz _ _ rfl) | exact d_eqN (ifc _ rfl) | exact d_neN (ifc _ rfl) | exact d_makeI (con _ rfl) | exact d_extract); clear hF; clear a; intro a hF) | ((first | apply q_step hF | apply q_stg hF); intro wq hwq; (first | exact d_move | exact d_assign | exact d_not | exact d_pickT | exact d_pickF | exact d_add | exact d_sub | exact d_quo | exact d_rem | exact d_cmpT | exact d_cmpF | exact d_cmp | exact d_eqbT (und _ _ rfl) | exact d_eqbF (und _ _ rfl) | exact d_eqb (und _ _ rfl) | exact d_eqST | exact d_eqSF | exact d_eqS | exact d_len (und _ _ rfl) | exact d_lens (und _ _ rfl) | exact d_nilCheck | exact d_indexAddr1 (und _ _ rfl) (isz _ _ rfl) | exact d_fieldAddr (fld _ _ _ _ rfl) (isz _ _ rfl) | exact d_slice (und _ _ rfl) (isz _ _ rfl) | exact d_slice3 (und _ _ rfl) (isz _ _ rfl) | exact d_slice3l (und _ _ rfl) (isz _ _ rfl) | exact d_sliceL (und _ _ rfl) (isz _ _ rfl) | exact d_eqN (ifc _ rfl) | exact d_neN (ifc _ rfl) | exact d_makeI (con _ rfl) | exact d_extract); clear hF; clear a; intro a hF) | ((first | apply stm hF | apply stu hF | apply q_stm hF | apply q_stu hF); clear hF; clear a; intro a hF) | (apply c_cond_t hF; exact rfl; first | exact rfl | assumption) | (apply c_cond_f hF; exact rfl; first | exact rfl | assumption) | refine s_nil ?_)
      exact ⟨64 - (i + 1), by omega, i + 1, ga2, gd2, _, by omega, rfl, hF.keep' ⟨rfl, rfl, rfl, rfl, rfl, trivial⟩, hY2, hG3.2.2, hgo3, hG3.1, hG3.2.1⟩
    · obtain rfl : i = 64 := by omega
      obtain ⟨g, rfl, _⟩ := own_some hY (by omega)
      repeat (first | refine c_seq ?_ | refine c_block ?_ | refine c_region _ ?_ | refine wpList_nil ?_ | refine c_then ?_ | refine c_then_exit ?_ | refine c_then_ret ?_ | refine c_in ?_ | refine c_in_ret ?_ | refine c_in_hit ?_ | refine wp_skip ?_ | refine wp_exit ?_ | refine wp_ret ?_ | refine c_in_miss rfl ?_ | (refine q_nil ?_; rintro _ ⟨ndr, rfl⟩) | refine c_region_draw _ mixed (by kernel_rfl) ?_ | ((first | apply st hF | apply stg hF | apply s_step hF | apply s_stg hF); (first | exact d_move | exact d_assign | exact d_not | exact d_pickT | exact d_pickF | exact d_add | exact d_sub | exact d_quo | exact d_rem | exact d_cmpT | exact d_cmpF | exact d_cmp | exact d_eqbT (und _ _ rfl) | exact d_eqbF (und _ _ rfl) | exact d_eqb (und _ _ rfl) | exact d_eqST | exact d_eqSF | exact d_eqS | exact d_len (und _ _ rfl) | exact d_lens (und _ _ rfl) | exact d_nilCheck | exact d_indexAddr1 (und _ _ rfl) (isz _ _ rfl) | exact d_fieldAddr (fld _ _ _ _ rfl) (isz _ _ rfl) | exact d_slice (und _ _ rfl) (isz _ _ rfl) | exact d_slice3 (und _ _ rfl) (isz _ _ rfl) | exact d_slice3l (und _ _ rfl) (isz _ _ rfl) | exact d_sliceL (und _ _ rfl) (isz _ _ rfl) | exact d_eqN (ifc _ rfl) | exact d_neN (ifc _ rfl) | exact d_makeI (con _ rfl) | exact d_extract); clear hF; clear a; intro a hF) | ((first | apply q_step hF | apply q_stg hF); intro wq hwq; (first | exact d_move | exact d_assign | exact d_not | exact d_pickT | exact d_pickF | exact d_add | exact d_sub | exact d_quo | exact d_rem | exact d_cmpT | exact d_cmpF | exact d_cmp | exact d_eqbT (und _ _ rfl) | exact d_eqbF (und _ _ rfl) | exact d_eqb (und _ _ rfl) | exact d_eqST | exact d_eqSF | exact d_eqS | exact d_len (und _ _ rfl) | exact d_lens (und _ _ rfl) | exact d_nilCheck | exact d_indexAddr1 (und _ _ rfl) (isz _ _ rfl) | exact d_fieldAddr (fld _ _ _ _ rfl) (isz _ _ rfl) | exact d_slice (und _ _ rfl) (isz _ _ rfl) | exact d_slice3 (und _ _ rfl) (isz _ _ rfl) | exact d_slice3l (und _ _ rfl) (isz _ _ rfl) | exact d_sliceL (und _ _ rfl) (isz _ _ rfl) | exact d_eqN (ifc _ rfl) | exact d_neN (ifc _ rfl) | exact d_makeI (con _ rfl) | exact d_extract); clear hF; clear a; intro a hF) | ((first | apply stm hF | apply stu hF | apply q_stm hF | apply q_stu hF); clear hF; clear a; intro a hF) | (apply c_cond_t hF; exact rfl; first | exact rfl | assumption) | (apply c_cond_f hF; exact rfl; first | exact rfl | assumption) | refine s_nil ?_)
      refine st_push2 hF (und _ _ rfl) inf22 rfl hgo2 (by omega) (by unfold maxLen; omega) (by omega) (k := fun a go3 gc3 w3 hgo3 hw3 hF => ?_)
      have hgr : wr.grownBy w3 (Value.slice gao k gcap).ownBlock ∧ (∀ b, (Value.slice go3 (k + 1) gc3).ownBlock = some b → w0.heap.size ≤ b) := by
        rcases hw3 with ⟨rfl, rfl, hgr⟩ | ⟨g3, rfl, hg1, hg2, hgr⟩
        · exact ⟨hgr, fun b hb => hgb b (by cases go3 <;> exact hb)⟩
        · refine ⟨⟨hgr.os, hgr.tape, hgr.output, hgr.size, fun i hi _ => hgr.block i hi (by simp)⟩, fun b hb => ?_⟩
          simp only [Value.ownBlock, Option.some.injEq] at hb
          omega
      have hG3 : Gp m A n c w0 base lb grp Gs w3 := by
        refine hG2.keep hgr.1 (fun b hb => ?_) (fun b hb => hgb b hb) (fun b hb j hj g2 d2 e2 => ?_)
        · have := hgb b hb; omega
        · obtain ⟨g', d', Y', e1, hY', _, _⟩ := hG2.ext j hj
          rw [e2] at e1
          cases e1
          exact own_apart hY' hgo2 (by decide) rfl hb
      have hY3 := own_keptO hY hgo2 (by decide) hgr.1
      have hG4 : ∃ grp', Gp m A n c w0 base lb grp' (Gs ++ [.slice (some ⟨g, 0, none⟩) (n k + 64) gd]) w3 := by
        have hold : ∀ j, j < Gs.length → (Gs ++ [Value.slice (some ⟨g, 0, none⟩) (n k + 64) gd])[j]? = Gs[j]? := fun j hj => List.getElem?_append_left hj
        have hnew : (Gs ++ [Value.slice (some ⟨g, 0, none⟩) (n k + 64) gd])[k]? = some (.slice (some ⟨g, 0, none⟩) (n k + 64) gd) := by rw [List.getElem?_append_right (by omega), hGl]; simp
        rcases hway with ⟨e1, e2⟩ | ⟨g', e1, hg'⟩
        · have hV : (vS A n c k).ownBlock = some g := by simp only [vS, ← e1]; rfl
          refine ⟨grp, hG3.ls, hG3.row, fun j hj => ?_, hG3.grpV, hG3.fz⟩
          by_cases e : j = k
          · subst e
            exact ⟨g, gd, Y, hnew, hY3, .inl ⟨e1.symm, e2.symm⟩, (hG3.grpV j hlt g hV).1⟩
          · have hj' : j < Gs.length := by simp at hj; omega
            rw [hold j hj']
            exact hG3.ext j hj'
        · cases e1
          refine ⟨fun b => if b = g then k else grp b, hG3.ls, hG3.row, fun j hj => ?_, fun j hj b hb => ?_, hG3.fz⟩
          · by_cases e : j = k
            · subst e
              exact ⟨g, gd, Y, hnew, hY3, .inr (by omega), by simp⟩
            · have hj' : j < Gs.length := by simp at hj; omega
              rw [hold j hj']
              obtain ⟨g2, d2, Y2, e2, hY2, hs2, hg2⟩ := hG3.ext j hj'
              have := hgsz j hj' g2 d2 e2
              exact ⟨g2, d2, Y2, e2, hY2, hs2, by rw [if_neg (by omega)]; exact hg2⟩
          · have := hG3.grpV j hj b hb
            exact ⟨by rw [if_neg (by omega)]; exact this.1, this.2⟩
      obtain ⟨grp', hG4⟩ := hG4
      repeat (first | refine c_seq ?_ | refine c_block ?_ | refine c_region _ ?_ | refine wpList_nil ?_ | refine c_then ?_ | refine c_then_exit ?_ | refine c_then_ret ?_ | refine c_in ?_ | refine c_in_ret ?_ | refine c_in_hit ?_ | refine wp_skip ?_ | refine wp_exit ?_ | refine wp_ret ?_ | refine c_in_miss rfl ?_ | (refine q_nil ?_; rintro _ ⟨ndr, rfl⟩) | refine c_region_draw _ mixed (by kernel_rfl) ?_ | ((first | apply st hF | apply stg hF | apply s_step hF | apply s_stg hF); (first | exact d_move | exact d_assign | exact d_not | exact d_pickT | exact d_pickF | exact d_add | exact d_sub | exact d_quo | exact d_rem | exact d_cmpT | exact d_cmpF | exact d_cmp | exact d_eqbT (und _ _ rfl) | exact d_eqbF (und _ _ rfl) | exact d_eqb (und _ _ rfl) | exact d_eqST | exact d_eqSF | exact d_eqS | exact d_len (und _ _ rfl) | exact d_lens (und _ _ rfl) | exact d_nilCheck | exact d_indexAddr1 (und _ _ rfl) (isz _ _ rfl) | exact d_fieldAddr (fld _ _ _ _ rfl) (isz _ _ rfl) | exact d_slice (und _ _ rfl) (isz _ _ rfl) | exact d_slice3 (und _ _ rfl) (isz _ _ rfl) | exact d_slice3l (und _ _ rfl) (isz _ _ rfl) | exact d_sliceL (und _ _ rfl) (isz _ _ rfl) | exact d_eqN (ifc _ rfl) | exact d_neN (ifc _ rfl) | exact d_makeI (con _ rfl) | exact d_extract); clear hF; clear a; intro a hF) | ((first | apply q_step hF | apply q_stg hF); intro wq hwq; (first | exact d_move | exact d_assign | exact d_not | exact d_pickT | exact d_pickF | exact d_add | exact d_sub | exact d_quo | exact d_rem | exact d_cmpT | exact d_cmpF | exact d_cmp | exact d_eqbT (und _ _ rfl) | exact d_eqbF (und _ _ rfl) | exact d_eqb (und _ _ rfl) | exact d_eqST | exact d_eqSF | exact d_eqS | exact d_len (und _ _ rfl) | exact d_lens (und _ _ rfl) | exact d_nilCheck | exact d_indexAddr1 (und _ _ rfl) (isz _ _ rfl) | exact d_fieldAddr (fld _ _ _ _ rfl) (isz _ _ rfl) | exact d_slice (und _ _ rfl) (isz _ _ rfl) | exact d_slice3 (und _ _ rfl) (isz _ _ rfl) | exact d_slice3l (und _ _ rfl) (isz _ _ rfl) | exact d_sliceL (und _ _ rfl) (isz _ _ rfl) | exact d_eqN (ifc _ rfl) | exact d_neN (ifc _ rfl) | exact d_makeI (con _ rfl) | exact d_extract); clear hF; clear a; intro a hF) | ((first | apply stm hF | apply stu hF | apply q_stm hF | apply q_stu hF); clear hF; clear a; intro a hF) | (apply c_cond_t hF; exact rfl; first | exact rfl | assumption) | (apply c_cond_f hF; exact rfl; first | exact rfl | assumption) | refine s_nil ?_)
      exact ⟨m - (k + 1), by omega, k + 1, go3, gc3, _, grp', by omega, rfl, by simp [hGl], hF.keep' ⟨rfl, rfl, rfl, trivial⟩, hgo3, hgr.2, hG4⟩
  · obtain rfl : m = k := by omega
    clear hk hlt
    repeat (first | refine c_seq ?_ | refine c_block ?_ | refine c_region _ ?_ | refine wpList_nil ?_ | refine c_then ?_ | refine c_then_exit ?_ | refine c_then_ret ?_ | refine c_in ?_ | refine c_in_ret ?_ | refine c_in_hit ?_ | refine wp_skip ?_ | refine wp_exit ?_ | refine wp_ret ?_ | refine c_in_miss rfl ?_ | (refine q_nil ?_; rintro _ ⟨ndr, rfl⟩) | refine c_region_draw _ mixed (by kernel_rfl) ?_ | ((first | apply st hF | apply stg hF | apply s_step hF | apply s_stg hF); (first | exact d_move | exact d_assign | exact d_not | exact d_pickT | exact d_pickF | exact d_add | exact d_sub | exact d_quo | exact d_rem | exact d_cmpT | exact d_cmpF | exact d_cmp | exact d_eqbT (und _ _ rfl) | exact d_eqbF (und _ _ rfl) | exact d_eqb (und _ _ rfl) | exact d_eqST | exact d_eqSF | exact d_eqS | exact d_len (und _ _ rfl) | exact d_lens (und _ _ rfl) | exact d_nilCheck | exact d_indexAddr1 (und _ _ rfl) (isz _ _ rfl) | exact d_fieldAddr (fld _ _ _ _ rfl) (isz _ _ rfl) | exact d_slice (und _ _ rfl) (isz _ _ rfl) | exact d_slice3 (und _ _ rfl) (isz _ _ rfl) | exact d_slice3l (und _ _ rfl) (isz _ _ rfl) | exact d_sliceL (und _ _ rfl) (isz _ _ rfl) | exact d_eqN (ifc _ rfl) | exact d_neN (ifc _ rfl) | exact d_makeI (con _ rfl) | exact d_extract); clear hF; clear a; intro a hF) | ((first | apply q_step hF | apply q_stg hF); intro wq hwq; (first | exact d_move | exact d_assign | exact d_not | exact d_pickT | exact d_pickF | exact d_add | exact d_sub | exact d_quo | exact d_rem | exact d_cmpT | exact d_cmpF | exact d_cmp | exact d_eqbT (und _ _ rfl) | exact d_eqbF (und _ _ rfl) | exact d_eqb (und _ _ rfl) | exact d_eqST | exact d_eqSF | exact d_eqS | exact d_len (und _ _ rfl) | exact d_lens (und _ _ rfl) | exact d_nilCheck | exact d_indexAddr1 (und _ _ rfl) (isz _ _ rfl) | exact d_fieldAddr (fld _ _ _ _ rfl) (isz _ _ rfl) | exact d_slice (und _ _ rfl) (isz _ _ rfl) | exact d_slice3 (und _ _ rfl) (isz _ _ rfl) | exact d_slice3l (und _ _ rfl) (isz _ _ rfl) | exact d_sliceL (und _ _ rfl) (isz _ _ rfl) | exact d_eqN (ifc _ rfl) | exact d_neN (ifc _ rfl) | exact d_makeI (con _ rfl) | exact d_extract); clear hF; clear a; intro a hF) | ((first | apply stm hF | apply stu hF | apply q_stm hF | apply q_stu hF); clear hF; clear a; intro a hF) | (apply c_cond_t hF; exact rfl; first | exact rfl | assumption) | (apply c_cond_f hF; exact rfl; first | exact rfl | assumption) | refine s_nil ?_)
    refine c_loop (fun N1 a wr => ∃ k, k ≤ m ∧ N1 = m - k ∧ Fr 179 [(0, .slice (some ⟨lb, 0, none⟩) m m), (3, .slice gao m gcap), (7, .int .i64 (k : Nat))] a ∧
      wr.ownsRow base 22 1 (.slice gao m gcap) m Gs ∧ Gp m A n c w0 base lb grp Gs wr) m
      ⟨0, by omega, rfl, hF.keep' ⟨rfl, rfl, rfl, trivial⟩, hgo, hG⟩ ?_
    clear hF a hgo hG hszk wk
    rintro N1 a wk ⟨k, hk, rfl, hF, hgo, hG⟩
    have hszk := hG.fz.size
    by_cases hlt : k < m
    · repeat (first | refine c_seq ?_ | refine c_block ?_ | refine c_region _ ?_ | refine wpList_nil ?_ | refine c_then ?_ | refine c_then_exit ?_ | refine c_then_ret ?_ | refine c_in ?_ | refine c_in_ret ?_ | refine c_in_hit ?_ | refine wp_skip ?_ | refine wp_exit ?_ | refine wp_ret ?_ | refine c_in_miss rfl ?_ | (refine q_nil ?_; rintro _ ⟨ndr, rfl⟩) | refine c_region_draw _ mixed (by kernel_rfl) ?_ | ((first | apply st hF | apply stg hF | apply s_step hF | apply s_stg hF); (first | exact d_move | exact d_assign | exact d_not | exact d_pickT | exact d_pickF | exact d_add | exact d_sub | exact d_quo | exact d_rem | exact d_cmpT | exact d_cmpF | exact d_cmp | exact d_eqbT (und _ _ rfl) | exact d_eqbF (und _ _ rfl) | exact d_eqb (und _ _ rfl) | exact d_eqST | exact d_eqSF | exact d_eqS | exact d_len (und _ _ rfl) | exact d_lens (und _ _ rfl) | exact d_nilCheck | exact d_indexAddr1 (und _ _ rfl) (isz _ _ rfl) | exact d_fieldAddr (fld _ _ _ _ rfl) (isz _ _ rfl) | exact d_slice (und _ _ rfl) (isz _ _ rfl) | exact d_slice3 (und _ _ rfl) (isz _ _ rfl) | exact d_slice3l (und _ _ rfl) (isz _ _ rfl) | exact d_sliceL (und _ _ rfl) (isz _ _ rfl) | exact d_eqN (ifc _ rfl) | exact d_neN (ifc _ rfl) | exact d_makeI (con _ rfl) | exact d_extract); clear hF; clear a; intro a hF) | ((first | apply q_step hF | apply q_stg hF); intro wq hwq; (first | exact d_move | exact d_assign | exact d_not | exact d_pickT | exact d_pickF | exact d_add | exact d_sub | exact d_quo | exact d_rem | exact d_cmpT | exact d_cmpF | exact d_cmp | exact d_eqbT (und _ _ rfl) | exact d_eqbF (und _ _ rfl) | exact d_eqb (und _ _ rfl) | exact d_eqST | exact d_eqSF | exact d_eqS | exact d_len (und _ _ rfl) | exact d_lens (und _ _ rfl) | exact d_nilCheck | exact d_indexAddr1 (und _ _ rfl) (isz _ _ rfl) | exact d_fieldAddr (fld _ _ _ _ rfl) (isz _ _ rfl) | exact d_slice (und _ _ rfl) (isz _ _ rfl) | exact d_slice3 (und _ _ rfl) (isz _ _ rfl) | exact d_slice3l (und _ _ rfl) (isz _ _ rfl) | exact d_sliceL (und _ _ rfl) (isz _ _ rfl) | exact d_eqN (ifc _ rfl) | exact d_neN (ifc _ rfl) | exact d_makeI (con _ rfl) | exact d_extract); clear hF; clear a; intro a hF) | ((first | apply stm hF | apply stu hF | apply q_stm hF | apply q_stu hF); clear hF; clear a; intro a hF) | (apply c_cond_t hF; exact rfl; first | exact rfl | assumption) | (apply c_cond_f hF; exact rfl; first | exact rfl | assumption) | refine s_nil ?_)
      -- 'was': a copy of each
      refine c_loop (fun N2 a wr => ∃ j wao wcap Ws, j ≤ m ∧ N2 = m - j ∧ Ws.length = j ∧ Fr 179 [(0, .slice (some ⟨lb, 0, none⟩) m m), (3, .slice gao m gcap), (7, .int .i64 (k : Nat)), (8, .slice wao j wcap), (9, .int .i64 (j : Nat))] a ∧
        wr.ownsRow wk.heap.size 22 1 (.slice wao j wcap) j Ws ∧ (∀ i, i < j → ∃ (g d : Nat) (Y : List Bool) (ao : Option Addr) (cap : Nat), Gs[i]? = some (.slice (some ⟨g, 0, none⟩) (n i + 64) d) ∧
          wr.ownsRow base 4 1 (.slice (some ⟨g, 0, none⟩) (n i + 64) d) (n i + 64) (Y.map .bool) ∧ Ws[i]? = some (.slice ao (n i + 64) cap) ∧ wr.ownsRow wk.heap.size 4 1 (.slice ao (n i + 64) cap) (n i + 64) (Y.map .bool)) ∧
        Below wk.heap.size wk wr) m
        ⟨0, none, 0, [], by omega, rfl, rfl, hF.keep' ⟨rfl, rfl, rfl, rfl, rfl, trivial⟩, World.ownsRow_nil _ _ _ _, (by intro i hi; omega), Below.refl _ _⟩ ?_
      clear hF a
      rintro N2 a wj ⟨j, wao, wcap, Ws, hj, rfl, hWl, hF, hwo, hW, hbel⟩
      by_cases hjm : j < m
      · have hgoj := own_below hgo hbel
        have hGj := hG.below hbel
        obtain ⟨g, d, Y, e1, hY, hs, hgg⟩ := hGj.ext j (by omega)
        have hGj' : j < Gs.length := by omega
        have e1' : Gs[j] = .slice (some ⟨g, 0, none⟩) (n j + 64) d := by rw [List.getElem?_eq_getElem hGj'] at e1; exact Option.some.inj e1
        have hnj := hn j hjm
        have hYl : Y.length = n j + 64 := by simpa using hY.1
        obtain ⟨gg, rfl, _⟩ := own_some hgoj (by omega)
        have cg : wj.cell? ⟨gg, 0 + j, none⟩ = some (.slice (some ⟨g, 0, none⟩) (n j + 64) d) := by rw [← e1']; exact own_cells hgoj hGj'
        repeat (first | refine c_seq ?_ | refine c_block ?_ | refine c_region _ ?_ | refine wpList_nil ?_ | refine c_then ?_ | refine c_then_exit ?_ | refine c_then_ret ?_ | refine c_in ?_ | refine c_in_ret ?_ | refine c_in_hit ?_ | refine wp_skip ?_ | refine wp_exit ?_ | refine wp_ret ?_ | refine c_in_miss rfl ?_ | (refine q_nil ?_; rintro _ ⟨ndr, rfl⟩) | refine c_region_draw _ mixed (by kernel_rfl) ?_ | ((first | apply st hF | apply stg hF | apply s_step hF | apply s_stg hF); (first | exact d_move | exact d_assign | exact d_not | exact d_pickT | exact d_pickF | exact d_add | exact d_sub | exact d_quo | exact d_rem | exact d_cmpT | exact d_cmpF | exact d_cmp | exact d_eqbT (und _ _ rfl) | exact d_eqbF (und _ _ rfl) | exact d_eqb (und _ _ rfl) | exact d_eqST | exact d_eqSF | exact d_eqS | exact d_len (und _ _ rfl) | exact d_lens (und _ _ rfl) | exact d_nilCheck | exact d_indexAddr1 (und _ _ rfl) (isz _ _ rfl) | exact d_fieldAddr (fld _ _ _ _ rfl) (isz _ _ rfl) | exact d_slice (und _ _ rfl) (isz _ _ rfl) | exact d_slice3 (und _ _ rfl) (isz _ _ rfl) | exact d_slice3l (und _ _ rfl) (isz _ _ rfl) | exact d_sliceL (und _ _ rfl) (isz _ _ rfl) | exact d_eqN (ifc _ rfl) | exact d_neN (ifc _ rfl) | exact d_makeI (con _ rfl) | exact d_extract); clear hF; clear a; intro a hF) | ((first | apply q_step hF | apply q_stg hF); intro wq hwq; (first | exact d_move | exact d_assign | exact d_not | exact d_pickT | exact d_pickF | exact d_add | exact d_sub | exact d_quo | exact d_rem | exact d_cmpT | exact d_cmpF | exact d_cmp | exact d_eqbT (und _ _ rfl) | exact d_eqbF (und _ _ rfl) | exact d_eqb (und _ _ rfl) | exact d_eqST | exact d_eqSF | exact d_eqS | exact d_len (und _ _ rfl) | exact d_lens (und _ _ rfl) | exact d_nilCheck | exact d_indexAddr1 (und _ _ rfl) (isz _ _ rfl) | exact d_fieldAddr (fld _ _ _ _ rfl) (isz _ _ rfl) | exact d_slice (und _ _ rfl) (isz _ _ rfl) | exact d_slice3 (und _ _ rfl) (isz _ _ rfl) | exact d_slice3l (und _ _ rfl) (isz _ _ rfl) | exact d_sliceL (und _ _ rfl) (isz _ _ rfl) | exact d_eqN (ifc _ rfl) | exact d_neN (ifc _ rfl) | exact d_makeI (con _ rfl) | exact d_extract); clear hF; clear a; intro a hF) | ((first | apply stm hF | apply stu hF | apply q_stm hF | apply q_stu hF); clear hF; clear a; intro a hF) | (apply c_cond_t hF; exact rfl; first | exact rfl | assumption) | (apply c_cond_f hF; exact rfl; first | exact rfl | assumption) | refine s_nil ?_)
        refine c_loop (fun N3 a wr => ∃ i cao ccap, i ≤ n j + 64 ∧ N3 = n j + 64 - i ∧ Fr 179 [(0, .slice (some ⟨lb, 0, none⟩) m m), (3, .slice (some ⟨gg, 0, none⟩) m gcap), (7, .int .i64 (k : Nat)), (8, .slice wao j wcap), (9, .int .i64 (j : Nat)), (10, .slice cao i ccap), (11, .int .i64 (i : Nat))] a ∧
          wr.ownsRow wj.heap.size 4 1 (.slice cao i ccap) i ((Y.take i).map .bool) ∧ Below wj.heap.size wj wr) (n j + 64)
          ⟨0, none, 0, by omega, rfl, hF.keep' ⟨rfl, rfl, rfl, rfl, rfl, rfl, rfl, trivial⟩, by simpa using World.ownsRow_nil _ _ _ _, Below.refl _ _⟩ ?_
        clear hF a
        rintro N3 a wr ⟨i, cao, ccap, hi, rfl, hF, hco, hbj⟩
        have hszj := hbj.size
        have cg' : wr.cell? ⟨gg, 0 + j, none⟩ = some (.slice (some ⟨g, 0, none⟩) (n j + 64) d) := (hbj.cell (p := ⟨gg, 0 + j, none⟩) (World.block_lt_of_cell? wj _ cg)).trans cg
        by_cases hlti : i < n j + 64
        · have cy := own_cells hY (i := i) (by simp; omega)
          rw [List.getElem_map] at cy
          have cy' : wr.cell? ⟨g, 0 + i, none⟩ = some (.bool Y[i]) := (hbj.cell (p := ⟨g, 0 + i, none⟩) (World.block_lt_of_cell? wj _ cy)).trans cy
          repeat (first | refine c_seq ?_ | refine c_block ?_ | refine c_region _ ?_ | refine wpList_nil ?_ | refine c_then ?_ | refine c_then_exit ?_ | refine c_then_ret ?_ | refine c_in ?_ | refine c_in_ret ?_ | refine c_in_hit ?_ | refine wp_skip ?_ | refine wp_exit ?_ | refine wp_ret ?_ | refine c_in_miss rfl ?_ | (refine q_nil ?_; rintro _ ⟨ndr, rfl⟩) | refine c_region_draw _ mixed (by kernel_rfl) ?_ | ((first | apply st hF | apply stg hF | apply s_step hF | apply s_stg hF); (first | exact d_move | exact d_assign | exact d_not | exact d_pickT | exact d_pickF | exact d_add | exact d_sub | exact d_quo | exact d_rem | exact d_cmpT | exact d_cmpF | exact d_cmp | exact d_eqbT (und _ _ rfl) | exact d_eqbF (und _ _ rfl) | exact d_eqb (und _ _ rfl) | exact d_eqST | exact d_eqSF | exact d_eqS | exact d_len (und _ _ rfl) | exact d_lens (und _ _ rfl) | exact d_nilCheck | exact d_indexAddr1 (und _ _ rfl) (isz _ _ rfl) | exact d_fieldAddr (fld _ _ _ _ rfl) (isz _ _ rfl) | exact d_slice (und _ _ rfl) (isz _ _ rfl) | exact d_slice3 (und _ _ rfl) (isz _ _ rfl) | exact d_slice3l (und _ _ rfl) (isz _ _ rfl) | exact d_sliceL (und _ _ rfl) (isz _ _ rfl) | exact d_eqN (ifc _ rfl) | exact d_neN (ifc _ rfl) | exact d_makeI (con _ rfl) | exact d_extract | exact d_load (und _ _ rfl) cg' | exact d_load (und _ _ rfl) cy'); clear hF; clear a; intro a hF) | ((first | apply q_step hF | apply q_stg hF); intro wq hwq; (first | exact d_move | exact d_assign | exact d_not | exact d_pickT | exact d_pickF | exact d_add | exact d_sub | exact d_quo | exact d_rem | exact d_cmpT | exact d_cmpF | exact d_cmp | exact d_eqbT (und _ _ rfl) | exact d_eqbF (und _ _ rfl) | exact d_eqb (und _ _ rfl) | exact d_eqST | exact d_eqSF | exact d_eqS | exact d_len (und _ _ rfl) | exact d_lens (und _ _ rfl) | exact d_nilCheck | exact d_indexAddr1 (und _ _ rfl) (isz _ _ rfl) | exact d_fieldAddr (fld _ _ _ _ rfl) (isz _ _ rfl) | exact d_slice (und _ _ rfl) (isz _ _ rfl) | exact d_slice3 (und _ _ rfl) (isz _ _ rfl) | exact d_slice3l (und _ _ rfl) (isz _ _ rfl) | exact d_sliceL (und _ _ rfl) (isz _ _ rfl) | exact d_eqN (ifc _ rfl) | exact d_neN (ifc _ rfl) | exact d_makeI (con _ rfl) | exact d_extract | exact q_load (und _ _ rfl) hwq (by exact cg') | exact q_load (und _ _ rfl) hwq (by exact cy')); clear hF; clear a; intro a hF) | ((first | apply stm hF | apply stu hF | apply q_stm hF | apply q_stu hF); clear hF; clear a; intro a hF) | (apply c_cond_t hF; exact rfl; first | exact rfl | assumption) | (apply c_cond_f hF; exact rfl; first | exact rfl | assumption) | refine s_nil ?_)
          refine st_push hF (und _ _ rfl) inf4 rfl hco (by omega) (by unfold maxLen; omega) hszj (k := fun a ao2 cap2 w2 hown2 hgr hF => ?_)
          rw [map_take_snoc _ _ _ (by omega)] at hown2
          repeat (first | refine c_seq ?_ | refine c_block ?_ | refine c_region _ ?_ | refine wpList_nil ?_ | refine c_then ?_ | refine c_then_exit ?_ | refine c_then_ret ?_ | refine c_in ?_ | refine c_in_ret ?_ | refine c_in_hit ?_ | refine wp_skip ?_ | refine wp_exit ?_ | refine wp_ret ?_ | refine c_in_miss rfl ?_ | (refine q_nil ?_; rintro _ ⟨ndr, rfl⟩) | refine c_region_draw _ mixed (by kernel_rfl) ?_ | ((first | apply st hF | apply stg hF | apply s_step hF | apply s_stg hF); (first | exact d_move | exact d_assign | exact d_not | exact d_pickT | exact d_pickF | exact d_add | exact d_sub | exact d_quo | exact d_rem | exact d_cmpT | exact d_cmpF | exact d_cmp | exact d_eqbT (und _ _ rfl) | exact d_eqbF (und _ _ rfl) | exact d_eqb (und _ _ rfl) | exact d_eqST | exact d_eqSF | exact d_eqS | exact d_len (und _ _ rfl) | exact d_lens (und _ _ rfl) | exact d_nilCheck | exact d_indexAddr1 (und _ _ rfl) (isz _ _ rfl) | exact d_fieldAddr (fld _ _ _ _ rfl) (isz _ _ rfl) | exact d_slice (und _ _ rfl) (isz _ _ rfl) | exact d_slice3 (und _ _ rfl) (isz _ _ rfl) | exact d_slice3l (und _ _ rfl) (isz _ _ rfl) | exact d_sliceL (und _ _ rfl) (isz _ _ rfl) | exact d_eqN (ifc _ rfl) | exact d_neN (ifc _ rfl) | exact d_makeI (con _ rfl) | exact d_extract); clear hF; clear a; intro a hF) | ((first | apply q_step hF | apply q_stg hF); intro wq hwq; (first | exact d_move | exact d_assign | exact d_not | exact d_pickT | exact d_pickF | exact d_add | exact d_sub | exact d_quo | exact d_rem | exact d_cmpT | exact d_cmpF | exact d_cmp | exact d_eqbT (und _ _ rfl) | exact d_eqbF (und _ _ rfl) | exact d_eqb (und _ _ rfl) | exact d_eqST | exact d_eqSF | exact d_eqS | exact d_len (und _ _ rfl) | exact d_lens (und _ _ rfl) | exact d_nilCheck | exact d_indexAddr1 (und _ _ rfl) (isz _ _ rfl) | exact d_fieldAddr (fld _ _ _ _ rfl) (isz _ _ rfl) | exact d_slice (und _ _ rfl) (isz _ _ rfl) | exact d_slice3 (und _ _ rfl) (isz _ _ rfl) | exact d_slice3l (und _ _ rfl) (isz _ _ rfl) | exact d_sliceL (und _ _ rfl) (isz _ _ rfl) | exact d_eqN (ifc _ rfl) | exact d_neN (ifc _ rfl) | exact d_makeI (con _ rfl) | exact d_extract); clear hF; clear a; intro a hF) | ((first | apply stm hF | apply stu hF | apply q_stm hF | apply q_stu hF); clear hF; clear a; intro a hF) | (apply c_cond_t hF; exact rfl; first | exact rfl | assumption) | (apply c_cond_f hF; exact rfl; first | exact rfl | assumption) | refine s_nil ?_)
          exact ⟨n j + 64 - (i + 1), by omega, i + 1, ao2, cap2, by omega, rfl, hF.keep' ⟨rfl, rfl, rfl, rfl, rfl, rfl, rfl, trivial⟩, hown2, below_own hbj hszj hco hgr⟩
        · obtain rfl : i = n j + 64 := by omega
          rw [List.take_of_length_le (by omega)] at hco
          obtain ⟨cg2, rfl, hcg⟩ := own_some hco (by omega)
          have hwo2 := own_below hwo hbj
          have hB2 := hbel.trans (hbj.mono hbel.size)
          repeat (first | refine c_seq ?_ | refine c_block ?_ | refine c_region _ ?_ | refine wpList_nil ?_ | refine c_then ?_ | refine c_then_exit ?_ | refine c_then_ret ?_ | refine c_in ?_ | refine c_in_ret ?_ | refine c_in_hit ?_ | refine wp_skip ?_ | refine wp_exit ?_ | refine wp_ret ?_ | refine c_in_miss rfl ?_ | (refine q_nil ?_; rintro _ ⟨ndr, rfl⟩) | refine c_region_draw _ mixed (by kernel_rfl) ?_ | ((first | apply st hF | apply stg hF | apply s_step hF | apply s_stg hF); (first | exact d_move | exact d_assign | exact d_not | exact d_pickT | exact d_pickF | exact d_add | exact d_sub | exact d_quo | exact d_rem | exact d_cmpT | exact d_cmpF | exact d_cmp | exact d_eqbT (und _ _ rfl) | exact d_eqbF (und _ _ rfl) | exact d_eqb (und _ _ rfl) | exact d_eqST | exact d_eqSF | exact d_eqS | exact d_len (und _ _ rfl) | exact d_lens (und _ _ rfl) | exact d_nilCheck | exact d_indexAddr1 (und _ _ rfl) (isz _ _ rfl) | exact d_fieldAddr (fld _ _ _ _ rfl) (isz _ _ rfl) | exact d_slice (und _ _ rfl) (isz _ _ rfl) | exact d_slice3 (und _ _ rfl) (isz _ _ rfl) | exact d_slice3l (und _ _ rfl) (isz _ _ rfl) | exact d_sliceL (und _ _ rfl) (isz _ _ rfl) | exact d_eqN (ifc _ rfl) | exact d_neN (ifc _ rfl) | exact d_makeI (con _ rfl) | exact d_extract | exact d_load (und _ _ rfl) cg'); clear hF; clear a; intro a hF) | ((first | apply q_step hF | apply q_stg hF); intro wq hwq; (first | exact d_move | exact d_assign | exact d_not | exact d_pickT | exact d_pickF | exact d_add | exact d_sub | exact d_quo | exact d_rem | exact d_cmpT | exact d_cmpF | exact d_cmp | exact d_eqbT (und _ _ rfl) | exact d_eqbF (und _ _ rfl) | exact d_eqb (und _ _ rfl) | exact d_eqST | exact d_eqSF | exact d_eqS | exact d_len (und _ _ rfl) | exact d_lens (und _ _ rfl) | exact d_nilCheck | exact d_indexAddr1 (und _ _ rfl) (isz _ _ rfl) | exact d_fieldAddr (fld _ _ _ _ rfl) (isz _ _ rfl) | exact d_slice (und _ _ rfl) (isz _ _ rfl) | exact d_slice3 (und _ _ rfl) (isz _ _ rfl) | exact d_slice3l (und _ _ rfl) (isz _ _ rfl) | exact d_sliceL (und _ _ rfl) (isz _ _ rfl) | exact d_eqN (ifc _ rfl) | exact d_neN (ifc _ rfl) | exact d_makeI (con _ rfl) | exact d_extract | exact q_load (und _ _ rfl) hwq (by exact cg')); clear hF; clear a; intro a hF) | ((first | apply stm hF | apply stu hF | apply q_stm hF | apply q_stu hF); clear hF; clear a; intro a hF) | (apply c_cond_t hF; exact rfl; first | exact rfl | assumption) | (apply c_cond_f hF; exact rfl; first | exact rfl | assumption) | refine s_nil ?_)
          refine st_push hF (und _ _ rfl) inf22 rfl hwo2 (by omega) (by unfold maxLen; omega) hB2.size (k := fun a wao2 wcap2 w3 hwo3 hgr3 hF => ?_)
          have hB3 := below_own hB2 hB2.size hwo2 hgr3
          repeat (first | refine c_seq ?_ | refine c_block ?_ | refine c_region _ ?_ | refine wpList_nil ?_ | refine c_then ?_ | refine c_then_exit ?_ | refine c_then_ret ?_ | refine c_in ?_ | refine c_in_ret ?_ | refine c_in_hit ?_ | refine wp_skip ?_ | refine wp_exit ?_ | refine wp_ret ?_ | refine c_in_miss rfl ?_ | (refine q_nil ?_; rintro _ ⟨ndr, rfl⟩) | refine c_region_draw _ mixed (by kernel_rfl) ?_ | ((first | apply st hF | apply stg hF | apply s_step hF | apply s_stg hF); (first | exact d_move | exact d_assign | exact d_not | exact d_pickT | exact d_pickF | exact d_add | exact d_sub | exact d_quo | exact d_rem | exact d_cmpT | exact d_cmpF | exact d_cmp | exact d_eqbT (und _ _ rfl) | exact d_eqbF (und _ _ rfl) | exact d_eqb (und _ _ rfl) | exact d_eqST | exact d_eqSF | exact d_eqS | exact d_len (und _ _ rfl) | exact d_lens (und _ _ rfl) | exact d_nilCheck | exact d_indexAddr1 (und _ _ rfl) (isz _ _ rfl) | exact d_fieldAddr (fld _ _ _ _ rfl) (isz _ _ rfl) | exact d_slice (und _ _ rfl) (isz _ _ rfl) | exact d_slice3 (und _ _ rfl) (isz _ _ rfl) | exact d_slice3l (und _ _ rfl) (isz _ _ rfl) | exact d_sliceL (und _ _ rfl) (isz _ _ rfl) | exact d_eqN (ifc _ rfl) | exact d_neN (ifc _ rfl) | exact d_makeI (con _ rfl) | exact d_extract); clear hF; clear a; intro a hF) | ((first | apply q_step hF | apply q_stg hF); intro wq hwq; (first | exact d_move | exact d_assign | exact d_not | exact d_pickT | exact d_pickF | exact d_add | exact d_sub | exact d_quo | exact d_rem | exact d_cmpT | exact d_cmpF | exact d_cmp | exact d_eqbT (und _ _ rfl) | exact d_eqbF (und _ _ rfl) | exact d_eqb (und _ _ rfl) | exact d_eqST | exact d_eqSF | exact d_eqS | exact d_len (und _ _ rfl) | exact d_lens (und _ _ rfl) | exact d_nilCheck | exact d_indexAddr1 (und _ _ rfl) (isz _ _ rfl) | exact d_fieldAddr (fld _ _ _ _ rfl) (isz _ _ rfl) | exact d_slice (und _ _ rfl) (isz _ _ rfl) | exact d_slice3 (und _ _ rfl) (isz _ _ rfl) | exact d_slice3l (und _ _ rfl) (isz _ _ rfl) | exact d_sliceL (und _ _ rfl) (isz _ _ rfl) | exact d_eqN (ifc _ rfl) | exact d_neN (ifc _ rfl) | exact d_makeI (con _ rfl) | exact d_extract); clear hF; clear a; intro a hF) | ((first | apply stm hF | apply stu hF | apply q_stm hF | apply q_stu hF); clear hF; clear a; intro a hF) | (apply c_cond_t hF; exact rfl; first | exact rfl | assumption) | (apply c_cond_f hF; exact rfl; first | exact rfl | assumption) | refine s_nil ?_)
          refine ⟨m - (j + 1), by omega, j + 1, wao2, wcap2, _, by omega, rfl, by simp [hWl], hF.keep' ⟨rfl, rfl, rfl, rfl, rfl, trivial⟩, hwo3, fun q hq => ?_, hB3⟩
          by_cases e : q = j
          · subst e
            refine ⟨g, d, Y, some ⟨cg2, 0, none⟩, ccap, e1, own_keptO (own_below hY hbj) hwo2 (by decide) hgr3, ?_, ?_⟩
            · rw [List.getElem?_append_right (by omega), hWl]; simp
            · refine own_keptO (own_rebase hco fun b hb => ?_) hwo2 (by decide) hgr3
              simp only [Value.ownBlock, Option.some.injEq] at hb
              have := hbel.size
              omega
          · obtain ⟨g', d', Y', ao', cap', f1, f2, f3, f4⟩ := hW q (by omega)
            refine ⟨g', d', Y', ao', cap', f1, own_keptO (own_below f2 hbj) hwo2 (by decide) hgr3, ?_, own_keptO (own_below f4 hbj) hwo2 (by decide) hgr3⟩
            rw [List.getElem?_append_left (by omega)]; exact f3
      · obtain rfl : m = j := by omega
        clear hj hjm
        obtain ⟨g, d, Y, ao1, cap1, e1, hYg, e1w, hYw⟩ := hW k hlt
        have hGj := hG.below hbel
        have hgoj := own_below hgo hbel
        have hszb := hbel.size
        have hkl : k < Gs.length := by omega
        have hYl : Y.length = n k + 64 := by simpa using hYg.1
        obtain ⟨g', d', Y', f1, f2, hway, hgg⟩ := hG.ext k hkl
        rw [e1] at f1
        cases f1
        have hgB : g < wk.heap.size := (f2.lt _ rfl).2
        obtain ⟨gg, rfl, _⟩ := own_some hgoj (by omega)
        obtain ⟨ww, rfl, _⟩ := own_some hwo (by omega)
        have hnk := hn k hlt
        have e1' : Gs[k] = .slice (some ⟨g, 0, none⟩) (n k + 64) d := by rw [List.getElem?_eq_getElem hkl] at e1; exact Option.some.inj e1
        have hWas : Was m A n c w0 base lb grp Gs wk.heap.size (.slice (some ⟨gg, 0, none⟩) m gcap) (.slice (some ⟨ww, 0, none⟩) m wcap) Ws k g d Y Y wj :=
          ⟨hGj, hgoj, hwo, fun q hq _ => hW q hq, e1, hYg, ⟨ao1, cap1, e1w, hYw⟩⟩
        clear hGj hgoj hwo hW hYg hYw f2 Y' hbel hgo hG
        repeat (first | refine c_seq ?_ | refine c_block ?_ | refine c_region _ ?_ | refine wpList_nil ?_ | refine c_then ?_ | refine c_then_exit ?_ | refine c_then_ret ?_ | refine c_in ?_ | refine c_in_ret ?_ | refine c_in_hit ?_ | refine wp_skip ?_ | refine wp_exit ?_ | refine wp_ret ?_ | refine c_in_miss rfl ?_ | (refine q_nil ?_; rintro _ ⟨ndr, rfl⟩) | refine c_region_draw _ mixed (by kernel_rfl) ?_ | ((first | apply st hF | apply stg hF | apply s_step hF | apply s_stg hF); (first | exact d_move | exact d_assign | exact d_not | exact d_pickT | exact d_pickF | exact d_add | exact d_sub | exact d_quo | exact d_rem | exact d_cmpT | exact d_cmpF | exact d_cmp | exact d_eqbT (und _ _ rfl) | exact d_eqbF (und _ _ rfl) | exact d_eqb (und _ _ rfl) | exact d_eqST | exact d_eqSF | exact d_eqS | exact d_len (und _ _ rfl) | exact d_lens (und _ _ rfl) | exact d_nilCheck | exact d_indexAddr1 (und _ _ rfl) (isz _ _ rfl) | exact d_fieldAddr (fld _ _ _ _ rfl) (isz _ _ rfl) | exact d_slice (und _ _ rfl) (isz _ _ rfl) | exact d_slice3 (und _ _ rfl) (isz _ _ rfl) | exact d_slice3l (und _ _ rfl) (isz _ _ rfl) | exact d_sliceL (und _ _ rfl) (isz _ _ rfl) | exact d_eqN (ifc _ rfl) | exact d_neN (ifc _ rfl) | exact d_makeI (con _ rfl) | exact d_extract); clear hF; clear a; intro a hF) | ((first | apply q_step hF | apply q_stg hF); intro wq hwq; (first | exact d_move | exact d_assign | exact d_not | exact d_pickT | exact d_pickF | exact d_add | exact d_sub | exact d_quo | exact d_rem | exact d_cmpT | exact d_cmpF | exact d_cmp | exact d_eqbT (und _ _ rfl) | exact d_eqbF (und _ _ rfl) | exact d_eqb (und _ _ rfl) | exact d_eqST | exact d_eqSF | exact d_eqS | exact d_len (und _ _ rfl) | exact d_lens (und _ _ rfl) | exact d_nilCheck | exact d_indexAddr1 (und _ _ rfl) (isz _ _ rfl) | exact d_fieldAddr (fld _ _ _ _ rfl) (isz _ _ rfl) | exact d_slice (und _ _ rfl) (isz _ _ rfl) | exact d_slice3 (und _ _ rfl) (isz _ _ rfl) | exact d_slice3l (und _ _ rfl) (isz _ _ rfl) | exact d_sliceL (und _ _ rfl) (isz _ _ rfl) | exact d_eqN (ifc _ rfl) | exact d_neN (ifc _ rfl) | exact d_makeI (con _ rfl) | exact d_extract); clear hF; clear a; intro a hF) | ((first | apply stm hF | apply stu hF | apply q_stm hF | apply q_stu hF); clear hF; clear a; intro a hF) | (apply c_cond_t hF; exact rfl; first | exact rfl | assumption) | (apply c_cond_f hF; exact rfl; first | exact rfl | assumption) | refine s_nil ?_)
        refine c_loop (fun N2 a wr => ∃ i Z, i ≤ n k ∧ N2 = n k - i ∧ Fr 179 [(0, .slice (some ⟨lb, 0, none⟩) m m), (3, .slice (some ⟨gg, 0, none⟩) m gcap), (7, .int .i64 (k : Nat)), (8, .slice (some ⟨ww, 0, none⟩) m wcap), (12, .int .i64 (i : Nat))] a ∧ Was m A n c w0 base lb grp Gs wk.heap.size (.slice (some ⟨gg, 0, none⟩) m gcap) (.slice (some ⟨ww, 0, none⟩) m wcap) Ws k g d Y Z wr ∧ wj.heap.size ≤ wr.heap.size ∧ Z.length = n k + 64 ∧ (∀ p, n k ≤ p → Z[p]? = Y[p]?)) (n k)
          ⟨0, Y, by omega, rfl, hF.keep' ⟨rfl, rfl, rfl, rfl, rfl, trivial⟩, hWas, Nat.le_refl _, hYl, fun p _ => rfl⟩ ?_
        clear hF a hWas
        rintro N2 a wr ⟨i, Z, hi, rfl, hF, hWas, hszr, hZl, hZt⟩
        have ck := hWas.gp.at_ hlt
        by_cases hin : i < n k
        · obtain ⟨X, hX⟩ := hWas.gp.row k hlt
          obtain ⟨vb, hvA, hvb⟩ := own_some hX (by omega)
          have hV : (vS A n c k).ownBlock = some vb := by simp only [vS, hvA]; rfl
          have hvg := hWas.gp.grpV k hlt vb hV
          have hL : ∃ (N cp : Nat) (L : List Bool), n k ≤ N ∧ wr.ownsRow base 4 1 (.slice (some ⟨vb, 0, none⟩) N cp) N (L.map .bool) ∧
             ((vb = g ∧ c k = d ∧ N = n k + 64 ∧ cp = d ∧ L = Z) ∨ (w0.heap.size ≤ g ∧ N = n k ∧ cp = c k)) := by
            rcases hway with ⟨h1, h2⟩ | h1
            · rw [hvA] at h1
              cases h1
              exact ⟨_, _, Z, by omega, hWas.own, .inl ⟨rfl, h2, rfl, rfl, rfl⟩⟩
            · refine ⟨_, _, X, Nat.le_refl _, ?_, .inr ⟨h1, rfl, rfl⟩⟩
              have := hX
              simp only [vS, hvA] at this
              exact this
          obtain ⟨N, cp, L, hN, hL, hLw⟩ := hL
          have hLl : L.length = N := by simpa using hL.1
          have ci := own_cells hL (i := i) (by simp; omega)
          rw [List.getElem_map] at ci
          simp only [vS, hvA] at ck
          repeat (first | (refine c_region_tail _ 14 mixed (by kernel_rfl) ?_; simp only [List.take_succ_cons, List.take_zero, List.drop_succ_cons, List.drop_zero]) | refine c_seq ?_ | refine c_block ?_ | refine c_region _ ?_ | refine wpList_nil ?_ | refine c_then ?_ | refine c_then_exit ?_ | refine c_then_ret ?_ | refine c_in ?_ | refine c_in_ret ?_ | refine c_in_hit ?_ | refine wp_skip ?_ | refine wp_exit ?_ | refine wp_ret ?_ | refine c_in_miss rfl ?_ | (refine q_nil ?_; rintro _ ⟨ndr, rfl⟩) | refine c_region_draw _ mixed (by kernel_rfl) ?_ | ((first | apply st hF | apply stg hF | apply s_step hF | apply s_stg hF); (first | exact d_move | exact d_assign | exact d_not | exact d_pickT | exact d_pickF | exact d_add | exact d_sub | exact d_quo | exact d_rem | exact d_cmpT | exact d_cmpF | exact d_cmp | exact d_eqbT (und _ _ rfl) | exact d_eqbF (und _ _ rfl) | exact d_eqb (und _ _ rfl) | exact d_eqST | exact d_eqSF | exact d_eqS | exact d_len (und _ _ rfl) | exact d_lens (und _ _ rfl) | exact d_nilCheck | exact d_indexAddr1 (und _ _ rfl) (isz _ _ rfl) | exact d_fieldAddr (fld _ _ _ _ rfl) (isz _ _ rfl) | exact d_slice (und _ _ rfl) (isz _ _ rfl) | exact d_slice3 (und _ _ rfl) (isz _ _ rfl) | exact d_slice3l (und _ _ rfl) (isz _ _ rfl) | exact d_sliceL (und _ _ rfl) (isz _ _ rfl) | exact d_eqN (ifc _ rfl) | exact d_neN (ifc _ rfl) | exact d_makeI (con _ rfl) | exact d_extract | exact d_load (und _ _ rfl) ck | exact d_load (und _ _ rfl) ci); clear hF; clear a; intro a hF) | ((first | apply q_step hF | apply q_stg hF); intro wq hwq; (first | exact d_move | exact d_assign | exact d_not | exact d_pickT | exact d_pickF | exact d_add | exact d_sub | exact d_quo | exact d_rem | exact d_cmpT | exact d_cmpF | exact d_cmp | exact d_eqbT (und _ _ rfl) | exact d_eqbF (und _ _ rfl) | exact d_eqb (und _ _ rfl) | exact d_eqST | exact d_eqSF | exact d_eqS | exact d_len (und _ _ rfl) | exact d_lens (und _ _ rfl) | exact d_nilCheck | exact d_indexAddr1 (und _ _ rfl) (isz _ _ rfl) | exact d_fieldAddr (fld _ _ _ _ rfl) (isz _ _ rfl) | exact d_slice (und _ _ rfl) (isz _ _ rfl) | exact d_slice3 (und _ _ rfl) (isz _ _ rfl) | exact d_slice3l (und _ _ rfl) (isz _ _ rfl) | exact d_sliceL (und _ _ rfl) (isz _ _ rfl) | exact d_eqN (ifc _ rfl) | exact d_neN (ifc _ rfl) | exact d_makeI (con _ rfl) | exact d_extract | exact q_load (und _ _ rfl) hwq (by exact ck) | exact q_load (und _ _ rfl) hwq (by exact ci)); clear hF; clear a; intro a hF) | ((first | apply stm hF | apply stu hF | apply q_stm hF | apply q_stu hF); clear hF; clear a; intro a hF) | (apply c_cond_t hF; exact rfl; first | exact rfl | assumption) | (apply c_cond_f hF; exact rfl; first | exact rfl | assumption) | refine s_nil ?_)
          have hL0 : (wr.drewN 1).ownsRow base 4 1 (.slice (some ⟨vb, 0, none⟩) N cp) N (L.map .bool) := hL
          refine st_storeRow hF (isz _ _ rfl) hL0 (by omega : i < N) rfl rfl rfl (k := fun a w2 hL2 hgr2 hsz2 hF => ?_)
          have hLe : (L.map Value.bool).set i (.bool (!L[i])) = (L.set i (!L[i])).map .bool := by rw [List.map_set]
          rw [hLe] at hL2
          have hgr2' : wr.grownBy w2 (some vb) := ⟨hgr2.os, hgr2.tape, hgr2.output, hgr2.size, hgr2.block⟩
          have hWas2 : ∃ Z2, Was m A n c w0 base lb grp Gs wk.heap.size (.slice (some ⟨gg, 0, none⟩) m gcap) (.slice (some ⟨ww, 0, none⟩) m wcap) Ws k g d Y Z2 w2 ∧ Z2.length = n k + 64 ∧ ∀ p, n k ≤ p → Z2[p]? = Y[p]? := by
            rcases hLw with ⟨rfl, h2, rfl, rfl, rfl⟩ | ⟨h1, rfl, rfl⟩
            · refine ⟨L.set i (!L[i]), hWas.write hgr2' hlt hvg.1 (by omega) hL rfl (.inl hV) ⟨(L.set i (!L[i])).take (n k), ?_⟩ hL2 hkl, by simp only [List.length_set]; exact hZl, fun p hp => ?_⟩
              · have := own_prefix hL2 (n := n k) (by omega)
                rw [← List.map_take] at this
                simp only [vS, hvA, h2]
                exact this
              · rw [List.getElem?_set_ne (by omega)]
                exact hZt p hp
            · refine ⟨Z, hWas.write hgr2' hlt hvg.1 (by omega) hL rfl (.inl hV) ⟨L.set i (!L[i]), ?_⟩ (own_keptB hWas.own hgr2' fun q hq e => ?_) hkl, hZl, hZt⟩
              · simp only [vS, hvA]
                exact hL2
              · simp only [Value.ownBlock, Option.some.injEq] at hq e
                omega
          obtain ⟨Z2, hWas2, hZ2l, hZ2t⟩ := hWas2
          repeat (first | refine c_seq ?_ | refine c_block ?_ | refine c_region _ ?_ | refine wpList_nil ?_ | refine c_then ?_ | refine c_then_exit ?_ | refine c_then_ret ?_ | refine c_in ?_ | refine c_in_ret ?_ | refine c_in_hit ?_ | refine wp_skip ?_ | refine wp_exit ?_ | refine wp_ret ?_ | refine c_in_miss rfl ?_ | (refine q_nil ?_; rintro _ ⟨ndr, rfl⟩) | refine c_region_draw _ mixed (by kernel_rfl) ?_ | ((first | apply st hF | apply stg hF | apply s_step hF | apply s_stg hF); (first | exact d_move | exact d_assign | exact d_not | exact d_pickT | exact d_pickF | exact d_add | exact d_sub | exact d_quo | exact d_rem | exact d_cmpT | exact d_cmpF | exact d_cmp | exact d_eqbT (und _ _ rfl) | exact d_eqbF (und _ _ rfl) | exact d_eqb (und _ _ rfl) | exact d_eqST | exact d_eqSF | exact d_eqS | exact d_len (und _ _ rfl) | exact d_lens (und _ _ rfl) | exact d_nilCheck | exact d_indexAddr1 (und _ _ rfl) (isz _ _ rfl) | exact d_fieldAddr (fld _ _ _ _ rfl) (isz _ _ rfl) | exact d_slice (und _ _ rfl) (isz _ _ rfl) | exact d_slice3 (und _ _ rfl) (isz _ _ rfl) | exact d_slice3l (und _ _ rfl) (isz _ _ rfl) | exact d_sliceL (und _ _ rfl) (isz _ _ rfl) | exact d_eqN (ifc _ rfl) | exact d_neN (ifc _ rfl) | exact d_makeI (con _ rfl) | exact d_extract); clear hF; clear a; intro a hF) | ((first | apply q_step hF | apply q_stg hF); intro wq hwq; (first | exact d_move | exact d_assign | exact d_not | exact d_pickT | exact d_pickF | exact d_add | exact d_sub | exact d_quo | exact d_rem | exact d_cmpT | exact d_cmpF | exact d_cmp | exact d_eqbT (und _ _ rfl) | exact d_eqbF (und _ _ rfl) | exact d_eqb (und _ _ rfl) | exact d_eqST | exact d_eqSF | exact d_eqS | exact d_len (und _ _ rfl) | exact d_lens (und _ _ rfl) | exact d_nilCheck | exact d_indexAddr1 (und _ _ rfl) (isz _ _ rfl) | exact d_fieldAddr (fld _ _ _ _ rfl) (isz _ _ rfl) | exact d_slice (und _ _ rfl) (isz _ _ rfl) | exact d_slice3 (und _ _ rfl) (isz _ _ rfl) | exact d_slice3l (und _ _ rfl) (isz _ _ rfl) | exact d_sliceL (und _ _ rfl) (isz _ _ rfl) | exact d_eqN (ifc _ rfl) | exact d_neN (ifc _ rfl) | exact d_makeI (con _ rfl) | exact d_extract); clear hF; clear a; intro a hF) | ((first | apply stm hF | apply stu hF | apply q_stm hF | apply q_stu hF); clear hF; clear a; intro a hF) | (apply c_cond_t hF; exact rfl; first | exact rfl | assumption) | (apply c_cond_f hF; exact rfl; first | exact rfl | assumption) | refine s_nil ?_)
          exact ⟨n k - (i + 1), by omega, i + 1, Z2, by omega, rfl, hF.keep' ⟨rfl, rfl, rfl, rfl, rfl, trivial⟩, hWas2, by have := hgr2'.size; omega, hZ2l, hZ2t⟩
        · repeat (first | refine c_seq ?_ | refine c_block ?_ | refine c_region _ ?_ | refine wpList_nil ?_ | refine c_then ?_ | refine c_then_exit ?_ | refine c_then_ret ?_ | refine c_in ?_ | refine c_in_ret ?_ | refine c_in_hit ?_ | refine wp_skip ?_ | refine wp_exit ?_ | refine wp_ret ?_ | refine c_in_miss rfl ?_ | (refine q_nil ?_; rintro _ ⟨ndr, rfl⟩) | refine c_region_draw _ mixed (by kernel_rfl) ?_ | ((first | apply st hF | apply stg hF | apply s_step hF | apply s_stg hF); (first | exact d_move | exact d_assign | exact d_not | exact d_pickT | exact d_pickF | exact d_add | exact d_sub | exact d_quo | exact d_rem | exact d_cmpT | exact d_cmpF | exact d_cmp | exact d_eqbT (und _ _ rfl) | exact d_eqbF (und _ _ rfl) | exact d_eqb (und _ _ rfl) | exact d_eqST | exact d_eqSF | exact d_eqS | exact d_len (und _ _ rfl) | exact d_lens (und _ _ rfl) | exact d_nilCheck | exact d_indexAddr1 (und _ _ rfl) (isz _ _ rfl) | exact d_fieldAddr (fld _ _ _ _ rfl) (isz _ _ rfl) | exact d_slice (und _ _ rfl) (isz _ _ rfl) | exact d_slice3 (und _ _ rfl) (isz _ _ rfl) | exact d_slice3l (und _ _ rfl) (isz _ _ rfl) | exact d_sliceL (und _ _ rfl) (isz _ _ rfl) | exact d_eqN (ifc _ rfl) | exact d_neN (ifc _ rfl) | exact d_makeI (con _ rfl) | exact d_extract | exact d_load (und _ _ rfl) ck); clear hF; clear a; intro a hF) | ((first | apply q_step hF | apply q_stg hF); intro wq hwq; (first | exact d_move | exact d_assign | exact d_not | exact d_pickT | exact d_pickF | exact d_add | exact d_sub | exact d_quo | exact d_rem | exact d_cmpT | exact d_cmpF | exact d_cmp | exact d_eqbT (und _ _ rfl) | exact d_eqbF (und _ _ rfl) | exact d_eqb (und _ _ rfl) | exact d_eqST | exact d_eqSF | exact d_eqS | exact d_len (und _ _ rfl) | exact d_lens (und _ _ rfl) | exact d_nilCheck | exact d_indexAddr1 (und _ _ rfl) (isz _ _ rfl) | exact d_fieldAddr (fld _ _ _ _ rfl) (isz _ _ rfl) | exact d_slice (und _ _ rfl) (isz _ _ rfl) | exact d_slice3 (und _ _ rfl) (isz _ _ rfl) | exact d_slice3l (und _ _ rfl) (isz _ _ rfl) | exact d_sliceL (und _ _ rfl) (isz _ _ rfl) | exact d_eqN (ifc _ rfl) | exact d_neN (ifc _ rfl) | exact d_makeI (con _ rfl) | exact d_extract | exact q_load (und _ _ rfl) hwq (by exact ck)); clear hF; clear a; intro a hF) | ((first | apply stm hF | apply stu hF | apply q_stm hF | apply q_stu hF); clear hF; clear a; intro a hF) | (apply c_cond_t hF; exact rfl; first | exact rfl | assumption) | (apply c_cond_f hF; exact rfl; first | exact rfl | assumption) | refine s_nil ?_)
          refine c_loop (fun N2 a wr => ∃ i Z, i ≤ n k + 64 ∧ N2 = n k + 64 - i ∧ Fr 179 [(0, .slice (some ⟨lb, 0, none⟩) m m), (3, .slice (some ⟨gg, 0, none⟩) m gcap), (7, .int .i64 (k : Nat)), (8, .slice (some ⟨ww, 0, none⟩) m wcap), (13, .int .i64 (i : Nat))] a ∧ Was m A n c w0 base lb grp Gs wk.heap.size (.slice (some ⟨gg, 0, none⟩) m gcap) (.slice (some ⟨ww, 0, none⟩) m wcap) Ws k g d Y Z wr ∧ wj.heap.size ≤ wr.heap.size ∧ Z.length = n k + 64 ∧
            (∀ p, p < i → Z.getD p false = !Y.getD p false) ∧ (∀ p, i ≤ p → n k ≤ p → Z.getD p false = Y.getD p false)) (n k + 64)
            ⟨0, Z, by omega, rfl, hF.keep' ⟨rfl, rfl, rfl, rfl, rfl, trivial⟩, hWas, hszr, hZl, (by intro p hp; omega), (by intro p _ hp; simp only [List.getD, hZt p hp])⟩ ?_
          clear hF a hWas ck hszr hin hZt hZl Z hi i wr
          rintro N2 a wr ⟨i, Z, hi, rfl, hF, hWas, hszr, hZl, hZ1, hZ2⟩
          have ck := hWas.gp.at_ hlt
          have cg : wr.cell? ⟨gg, 0 + k, none⟩ = some (.slice (some ⟨g, 0, none⟩) (n k + 64) d) := by rw [← e1']; exact own_cells hWas.go hkl
          by_cases hi64 : i < n k + 64
          · obtain ⟨ao2, cap2, e2w, hYw⟩ := hWas.was
            obtain ⟨wg, rfl, _⟩ := own_some hYw (by omega)
            have hwl : k < Ws.length := by
              have := hWas.wo.1
              omega
            have e2w' : Ws[k] = .slice (some ⟨wg, 0, none⟩) (n k + 64) cap2 := by rw [List.getElem?_eq_getElem hwl] at e2w; exact Option.some.inj e2w
            have cw : wr.cell? ⟨ww, 0 + k, none⟩ = some (.slice (some ⟨wg, 0, none⟩) (n k + 64) cap2) := by rw [← e2w']; exact own_cells hWas.wo hwl
            have cz := own_cells hWas.own (i := i) (by simp; omega)
            have cy := own_cells hYw (i := i) (by simp; omega)
            rw [List.getElem_map] at cz cy
            have gz : Z.getD i false = Z[i] := by simp [List.getD, hZl, hi64]
            have gy : Y.getD i false = Y[i] := by simp [List.getD, hYl, hi64]
            by_cases hfl : n k ≤ i ∨ (i < n k ∧ Z[i] = Y[i])
            · have hZY : Z[i] = Y[i] := by
                rcases hfl with h | ⟨_, h⟩
                · rw [← gz, ← gy]; exact hZ2 i (Nat.le_refl _) h
                · exact h
              have hbb : (Z[i] == Y[i]) = true := by simp [hZY]
              rcases hfl with hfl | ⟨hfl, _⟩
              all_goals (
                repeat (first | refine c_region_draw 31 mixed (by kernel_rfl) ?_ | (refine c_region_tail _ 14 mixed (by kernel_rfl) ?_; simp only [List.take_succ_cons, List.take_zero, List.drop_succ_cons, List.drop_zero]) | refine c_seq ?_ | refine c_block ?_ | refine c_region _ ?_ | refine wpList_nil ?_ | refine c_then ?_ | refine c_then_exit ?_ | refine c_then_ret ?_ | refine c_in ?_ | refine c_in_ret ?_ | refine c_in_hit ?_ | refine wp_skip ?_ | refine wp_exit ?_ | refine wp_ret ?_ | refine c_in_miss rfl ?_ | (refine q_nil ?_; rintro _ ⟨ndr, rfl⟩) | refine c_region_draw _ mixed (by kernel_rfl) ?_ | ((first | apply st hF | apply stg hF | apply s_step hF | apply s_stg hF); (first | exact d_move | exact d_assign | exact d_not | exact d_pickT | exact d_pickF | exact d_add | exact d_sub | exact d_quo | exact d_rem | exact d_cmpT | exact d_cmpF | exact d_cmp | exact d_eqbT (und _ _ rfl) | exact d_eqbF (und _ _ rfl) | exact d_eqb (und _ _ rfl) | exact d_eqST | exact d_eqSF | exact d_eqS | exact d_len (und _ _ rfl) | exact d_lens (und _ _ rfl) | exact d_nilCheck | exact d_indexAddr1 (und _ _ rfl) (isz _ _ rfl) | exact d_fieldAddr (fld _ _ _ _ rfl) (isz _ _ rfl) | exact d_slice (und _ _ rfl) (isz _ _ rfl) | exact d_slice3 (und _ _ rfl) (isz _ _ rfl) | exact d_slice3l (und _ _ rfl) (isz _ _ rfl) | exact d_sliceL (und _ _ rfl) (isz _ _ rfl) | exact d_eqN (ifc _ rfl) | exact d_neN (ifc _ rfl) | exact d_makeI (con _ rfl) | exact d_extract | exact d_load (und _ _ rfl) ck | exact d_load (und _ _ rfl) cg | exact d_load (und _ _ rfl) cw | exact d_load (und _ _ rfl) cz | exact d_load (und _ _ rfl) cy); clear hF; clear a; intro a hF) | ((first | apply q_step hF | apply q_stg hF); intro wq hwq; (first | exact d_move | exact d_assign | exact d_not | exact d_pickT | exact d_pickF | exact d_add | exact d_sub | exact d_quo | exact d_rem | exact d_cmpT | exact d_cmpF | exact d_cmp | exact d_eqbT (und _ _ rfl) | exact d_eqbF (und _ _ rfl) | exact d_eqb (und _ _ rfl) | exact d_eqST | exact d_eqSF | exact d_eqS | exact d_len (und _ _ rfl) | exact d_lens (und _ _ rfl) | exact d_nilCheck | exact d_indexAddr1 (und _ _ rfl) (isz _ _ rfl) | exact d_fieldAddr (fld _ _ _ _ rfl) (isz _ _ rfl) | exact d_slice (und _ _ rfl) (isz _ _ rfl) | exact d_slice3 (und _ _ rfl) (isz _ _ rfl) | exact d_slice3l (und _ _ rfl) (isz _ _ rfl) | exact d_sliceL (und _ _ rfl) (isz _ _ rfl) | exact d_eqN (ifc _ rfl) | exact d_neN (ifc _ rfl) | exact d_makeI (con _ rfl) | exact d_extract | exact q_load (und _ _ rfl) hwq (by exact ck) | exact q_load (und _ _ rfl) hwq (by exact cg) | exact q_load (und _ _ rfl) hwq (by exact cw) | exact q_load (und _ _ rfl) hwq (by exact cz) | exact q_load (und _ _ rfl) hwq (by exact cy)); clear hF; clear a; intro a hF) | ((first | apply stm hF | apply stu hF | apply q_stm hF | apply q_stu hF); clear hF; clear a; intro a hF) | (apply c_cond_t hF; exact rfl; first | exact rfl | assumption) | (apply c_cond_f hF; exact rfl; first | exact rfl | assumption) | refine s_nil ?_)
                have hL0 : ((wr.drewN ndr).drewN 1).ownsRow base 4 1 (.slice (some ⟨g, 0, none⟩) (n k + 64) d) (n k + 64) (Z.map .bool) := hWas.own
                refine st_storeRow hF (isz _ _ rfl) hL0 hi64 rfl rfl rfl (k := fun a w2 hL2 hgr2 hsz2 hF => ?_)
                have hLe : (Z.map Value.bool).set i (.bool (!Z[i])) = (Z.set i (!Z[i])).map .bool := by rw [List.map_set]
                rw [hLe] at hL2
                have hgr2' : wr.grownBy w2 (some g) := ⟨hgr2.os, hgr2.tape, hgr2.output, hgr2.size, hgr2.block⟩
                have hWas2 : Was m A n c w0 base lb grp Gs wk.heap.size (.slice (some ⟨gg, 0, none⟩) m gcap) (.slice (some ⟨ww, 0, none⟩) m wcap) Ws k g d Y (Z.set i (!Z[i])) w2 := by
                  rcases hway with ⟨h1, h2⟩ | h1
                  · refine hWas.write hgr2' hlt hgg hgB hWas.own rfl (.inl (by simp only [vS, h1]; rfl)) ⟨(Z.set i (!Z[i])).take (n k), ?_⟩ hL2 hkl
                    have := own_prefix hL2 (n := n k) (by omega)
                    rw [← List.map_take] at this
                    simp only [vS, h1, h2]
                    exact this
                  · obtain ⟨X, hX⟩ := hWas.gp.row k hlt
                    refine hWas.write hgr2' hlt hgg hgB hWas.own rfl (.inr h1) ⟨X, own_keptB hX hgr2' fun q hq e => ?_⟩ hL2 hkl
                    have := (hWas.gp.grpV k hlt q hq).2
                    simp only [Option.some.injEq] at e
                    omega
                repeat (first | refine c_seq ?_ | refine c_block ?_ | refine c_region _ ?_ | refine wpList_nil ?_ | refine c_then ?_ | refine c_then_exit ?_ | refine c_then_ret ?_ | refine c_in ?_ | refine c_in_ret ?_ | refine c_in_hit ?_ | refine wp_skip ?_ | refine wp_exit ?_ | refine wp_ret ?_ | refine c_in_miss rfl ?_ | (refine q_nil ?_; rintro _ ⟨ndr, rfl⟩) | refine c_region_draw _ mixed (by kernel_rfl) ?_ | ((first | apply st hF | apply stg hF | apply s_step hF | apply s_stg hF); (first | exact d_move | exact d_assign | exact d_not | exact d_pickT | exact d_pickF | exact d_add | exact d_sub | exact d_quo | exact d_rem | exact d_cmpT | exact d_cmpF | exact d_cmp | exact d_eqbT (und _ _ rfl) | exact d_eqbF (und _ _ rfl) | exact d_eqb (und _ _ rfl) | exact d_eqST | exact d_eqSF | exact d_eqS | exact d_len (und _ _ rfl) | exact d_lens (und _ _ rfl) | exact d_nilCheck | exact d_indexAddr1 (und _ _ rfl) (isz _ _ rfl) | exact d_fieldAddr (fld _ _ _ _ rfl) (isz _ _ rfl) | exact d_slice (und _ _ rfl) (isz _ _ rfl) | exact d_slice3 (und _ _ rfl) (isz _ _ rfl) | exact d_slice3l (und _ _ rfl) (isz _ _ rfl) | exact d_sliceL (und _ _ rfl) (isz _ _ rfl) | exact d_eqN (ifc _ rfl) | exact d_neN (ifc _ rfl) | exact d_makeI (con _ rfl) | exact d_extract); clear hF; clear a; intro a hF) | ((first | apply q_step hF | apply q_stg hF); intro wq hwq; (first | exact d_move | exact d_assign | exact d_not | exact d_pickT | exact d_pickF | exact d_add | exact d_sub | exact d_quo | exact d_rem | exact d_cmpT | exact d_cmpF | exact d_cmp | exact d_eqbT (und _ _ rfl) | exact d_eqbF (und _ _ rfl) | exact d_eqb (und _ _ rfl) | exact d_eqST | exact d_eqSF | exact d_eqS | exact d_len (und _ _ rfl) | exact d_lens (und _ _ rfl) | exact d_nilCheck | exact d_indexAddr1 (und _ _ rfl) (isz _ _ rfl) | exact d_fieldAddr (fld _ _ _ _ rfl) (isz _ _ rfl) | exact d_slice (und _ _ rfl) (isz _ _ rfl) | exact d_slice3 (und _ _ rfl) (isz _ _ rfl) | exact d_slice3l (und _ _ rfl) (isz _ _ rfl) | exact d_sliceL (und _ _ rfl) (isz _ _ rfl) | exact d_eqN (ifc _ rfl) | exact d_neN (ifc _ rfl) | exact d_makeI (con _ rfl) | exact d_extract); clear hF; clear a; intro a hF) | ((first | apply stm hF | apply stu hF | apply q_stm hF | apply q_stu hF); clear hF; clear a; intro a hF) | (apply c_cond_t hF; exact rfl; first | exact rfl | assumption) | (apply c_cond_f hF; exact rfl; first | exact rfl | assumption) | refine s_nil ?_)
                refine ⟨n k + 64 - (i + 1), by omega, i + 1, Z.set i (!Z[i]), by omega, rfl, hF.keep' ⟨rfl, rfl, rfl, rfl, rfl, trivial⟩, hWas2, by have := hgr2'.size; omega, by simp only [List.length_set]; exact hZl, fun p hp => ?_, fun p hp hp2 => ?_⟩
                · by_cases e : p = i
                  · subst e
                    rw [gy, ← hZY]
                    simp [List.getD, hZl, hi64]
                  · have := hZ1 p (by omega)
                    rw [← this]
                    simp only [List.getD]
                    rw [List.getElem?_set_ne (by omega)]
                · have := hZ2 p (by omega) hp2
                  rw [← this]
                  simp only [List.getD]
                  rw [List.getElem?_set_ne (by omega)])
            · have hin : i < n k := by omega
              have hZY : Z[i] ≠ Y[i] := fun h => hfl (.inr ⟨hin, h⟩)
              have hbb : (Z[i] == Y[i]) = false := by simpa using hZY
              repeat (first | refine c_seq ?_ | refine c_block ?_ | refine c_region _ ?_ | refine wpList_nil ?_ | refine c_then ?_ | refine c_then_exit ?_ | refine c_then_ret ?_ | refine c_in ?_ | refine c_in_ret ?_ | refine c_in_hit ?_ | refine wp_skip ?_ | refine wp_exit ?_ | refine wp_ret ?_ | refine c_in_miss rfl ?_ | (refine q_nil ?_; rintro _ ⟨ndr, rfl⟩) | refine c_region_draw _ mixed (by kernel_rfl) ?_ | ((first | apply st hF | apply stg hF | apply s_step hF | apply s_stg hF); (first | exact d_move | exact d_assign | exact d_not | exact d_pickT | exact d_pickF | exact d_add | exact d_sub | exact d_quo | exact d_rem | exact d_cmpT | exact d_cmpF | exact d_cmp | exact d_eqbT (und _ _ rfl) | exact d_eqbF (und _ _ rfl) | exact d_eqb (und _ _ rfl) | exact d_eqST | exact d_eqSF | exact d_eqS | exact d_len (und _ _ rfl) | exact d_lens (und _ _ rfl) | exact d_nilCheck | exact d_indexAddr1 (und _ _ rfl) (isz _ _ rfl) | exact d_fieldAddr (fld _ _ _ _ rfl) (isz _ _ rfl) | exact d_slice (und _ _ rfl) (isz _ _ rfl) | exact d_slice3 (und _ _ rfl) (isz _ _ rfl) | exact d_slice3l (und _ _ rfl) (isz _ _ rfl) | exact d_sliceL (und _ _ rfl) (isz _ _ rfl) | exact d_eqN (ifc _ rfl) | exact d_neN (ifc _ rfl) | exact d_makeI (con _ rfl) | exact d_extract | exact d_load (und _ _ rfl) ck | exact d_load (und _ _ rfl) cg | exact d_load (und _ _ rfl) cw | exact d_load (und _ _ rfl) cz | exact d_load (und _ _ rfl) cy); clear hF; clear a; intro a hF) | ((first | apply q_step hF | apply q_stg hF); intro wq hwq; (first | exact d_move | exact d_assign | exact d_not | exact d_pickT | exact d_pickF | exact d_add | exact d_sub | exact d_quo | exact d_rem | exact d_cmpT | exact d_cmpF | exact d_cmp | exact d_eqbT (und _ _ rfl) | exact d_eqbF (und _ _ rfl) | exact d_eqb (und _ _ rfl) | exact d_eqST | exact d_eqSF | exact d_eqS | exact d_len (und _ _ rfl) | exact d_lens (und _ _ rfl) | exact d_nilCheck | exact d_indexAddr1 (und _ _ rfl) (isz _ _ rfl) | exact d_fieldAddr (fld _ _ _ _ rfl) (isz _ _ rfl) | exact d_slice (und _ _ rfl) (isz _ _ rfl) | exact d_slice3 (und _ _ rfl) (isz _ _ rfl) | exact d_slice3l (und _ _ rfl) (isz _ _ rfl) | exact d_sliceL (und _ _ rfl) (isz _ _ rfl) | exact d_eqN (ifc _ rfl) | exact d_neN (ifc _ rfl) | exact d_makeI (con _ rfl) | exact d_extract | exact q_load (und _ _ rfl) hwq (by exact ck) | exact q_load (und _ _ rfl) hwq (by exact cg) | exact q_load (und _ _ rfl) hwq (by exact cw) | exact q_load (und _ _ rfl) hwq (by exact cz) | exact q_load (und _ _ rfl) hwq (by exact cy)); clear hF; clear a; intro a hF) | ((first | apply stm hF | apply stu hF | apply q_stm hF | apply q_stu hF); clear hF; clear a; intro a hF) | (apply c_cond_t hF; exact rfl; first | exact rfl | assumption) | (apply c_cond_f hF; exact rfl; first | exact rfl | assumption) | refine s_nil ?_)
              have hWas2 := hWas.below (Dr.below ⟨ndr, rfl⟩ _)
              refine ⟨n k + 64 - (i + 1), by omega, i + 1, Z, by omega, rfl, hF.keep' ⟨rfl, rfl, rfl, rfl, rfl, trivial⟩, hWas2, hszr, hZl, fun p hp => ?_, fun p hp hp2 => hZ2 p (by omega) hp2⟩
              by_cases e : p = i
              · subst e
                rw [gy, gz]
                revert hZY
                cases Z[p] <;> cases Y[p] <;> simp
              · exact hZ1 p (by omega)
          · have hAll : ∀ q, q < m → ∃ (g d : Nat) (Z Y : List Bool) (ao : Option Addr) (cap : Nat), Gs[q]? = some (.slice (some ⟨g, 0, none⟩) (n q + 64) d) ∧
                wr.ownsRow base 4 1 (.slice (some ⟨g, 0, none⟩) (n q + 64) d) (n q + 64) (Z.map .bool) ∧ Ws[q]? = some (.slice ao (n q + 64) cap) ∧ wr.ownsRow wk.heap.size 4 1 (.slice ao (n q + 64) cap) (n q + 64) (Y.map .bool) ∧
                ∀ p, p < n q + 64 → Z.getD p false = (if q = k then !Y.getD p false else Y.getD p false) := by
              intro q hq
              by_cases e : q = k
              · subst e
                obtain ⟨ao2, cap2, e2w, hYw⟩ := hWas.was
                exact ⟨g, d, Z, Y, ao2, cap2, e1, hWas.own, e2w, hYw, fun p hp => by rw [if_pos rfl]; exact hZ1 p (by omega)⟩
              · obtain ⟨g2, d2, Y2, ao2, cap2, q1, q2, q3, q4⟩ := hWas.other q hq e
                exact ⟨g2, d2, Y2, Y2, ao2, cap2, q1, q2, q3, q4, fun p hp => by rw [if_neg e]⟩
            repeat (first | refine c_seq ?_ | refine c_block ?_ | refine c_region _ ?_ | refine wpList_nil ?_ | refine c_then ?_ | refine c_then_exit ?_ | refine c_then_ret ?_ | refine c_in ?_ | refine c_in_ret ?_ | refine c_in_hit ?_ | refine wp_skip ?_ | refine wp_exit ?_ | refine wp_ret ?_ | refine c_in_miss rfl ?_ | (refine q_nil ?_; rintro _ ⟨ndr, rfl⟩) | refine c_region_draw _ mixed (by kernel_rfl) ?_ | ((first | apply st hF | apply stg hF | apply s_step hF | apply s_stg hF); (first | exact d_move | exact d_assign | exact d_not | exact d_pickT | exact d_pickF | exact d_add | exact d_sub | exact d_quo | exact d_rem | exact d_cmpT | exact d_cmpF | exact d_cmp | exact d_eqbT (und _ _ rfl) | exact d_eqbF (und _ _ rfl) | exact d_eqb (und _ _ rfl) | exact d_eqST | exact d_eqSF | exact d_eqS | exact d_len (und _ _ rfl) | exact d_lens (und _ _ rfl) | exact d_nilCheck | exact d_indexAddr1 (und _ _ rfl) (isz _ _ rfl) | exact d_fieldAddr (fld _ _ _ _ rfl) (isz _ _ rfl) | exact d_slice (und _ _ rfl) (isz _ _ rfl) | exact d_slice3 (und _ _ rfl) (isz _ _ rfl) | exact d_slice3l (und _ _ rfl) (isz _ _ rfl) | exact d_sliceL (und _ _ rfl) (isz _ _ rfl) | exact d_eqN (ifc _ rfl) | exact d_neN (ifc _ rfl) | exact d_makeI (con _ rfl) | exact d_extract | exact d_load (und _ _ rfl) cg); clear hF; clear a; intro a hF) | ((first | apply q_step hF | apply q_stg hF); intro wq hwq; (first | exact d_move | exact d_assign | exact d_not | exact d_pickT | exact d_pickF | exact d_add | exact d_sub | exact d_quo | exact d_rem | exact d_cmpT | exact d_cmpF | exact d_cmp | exact d_eqbT (und _ _ rfl) | exact d_eqbF (und _ _ rfl) | exact d_eqb (und _ _ rfl) | exact d_eqST | exact d_eqSF | exact d_eqS | exact d_len (und _ _ rfl) | exact d_lens (und _ _ rfl) | exact d_nilCheck | exact d_indexAddr1 (und _ _ rfl) (isz _ _ rfl) | exact d_fieldAddr (fld _ _ _ _ rfl) (isz _ _ rfl) | exact d_slice (und _ _ rfl) (isz _ _ rfl) | exact d_slice3 (und _ _ rfl) (isz _ _ rfl) | exact d_slice3l (und _ _ rfl) (isz _ _ rfl) | exact d_sliceL (und _ _ rfl) (isz _ _ rfl) | exact d_eqN (ifc _ rfl) | exact d_neN (ifc _ rfl) | exact d_makeI (con _ rfl) | exact d_extract | exact q_load (und _ _ rfl) hwq (by exact cg)); clear hF; clear a; intro a hF) | ((first | apply stm hF | apply stu hF | apply q_stm hF | apply q_stu hF); clear hF; clear a; intro a hF) | (apply c_cond_t hF; exact rfl; first | exact rfl | assumption) | (apply c_cond_f hF; exact rfl; first | exact rfl | assumption) | refine s_nil ?_)
            refine c_loop (fun N2 a w8 => ∃ j, j ≤ m ∧ N2 = m - j ∧ Fr 179 [(0, .slice (some ⟨lb, 0, none⟩) m m), (3, .slice (some ⟨gg, 0, none⟩) m gcap), (7, .int .i64 (k : Nat)), (8, .slice (some ⟨ww, 0, none⟩) m wcap), (14, .int .i64 (j : Nat))] a ∧ Below wr.heap.size wr w8) m
              ⟨0, by omega, rfl, hF.keep' ⟨rfl, rfl, rfl, rfl, rfl, trivial⟩, Below.refl _ _⟩ ?_
            clear hF a
            rintro N2 a w8 ⟨j, hj, rfl, hF, hb8⟩
            by_cases hjm : j < m
            · obtain ⟨gq, dq, Zq, Yq, aoq, capq, q1, q2, q3, q4, q5⟩ := hAll j hjm
              obtain ⟨wg, rfl, _⟩ := own_some q4 (by omega)
              have hnj := hn j hjm
              have hjl : j < Gs.length := by omega
              have hwl : j < Ws.length := by
                have := hWas.wo.1
                omega
              have q1' : Gs[j] = .slice (some ⟨gq, 0, none⟩) (n j + 64) dq := by rw [List.getElem?_eq_getElem hjl] at q1; exact Option.some.inj q1
              have q3' : Ws[j] = .slice (some ⟨wg, 0, none⟩) (n j + 64) capq := by rw [List.getElem?_eq_getElem hwl] at q3; exact Option.some.inj q3
              have cg0 : wr.cell? ⟨gg, 0 + j, none⟩ = some (.slice (some ⟨gq, 0, none⟩) (n j + 64) dq) := by rw [← q1']; exact own_cells hWas.go hjl
              have cw0 : wr.cell? ⟨ww, 0 + j, none⟩ = some (.slice (some ⟨wg, 0, none⟩) (n j + 64) capq) := by rw [← q3']; exact own_cells hWas.wo hwl
              have hZql : Zq.length = n j + 64 := by simpa using q2.1
              have hYql : Yq.length = n j + 64 := by simpa using q4.1
              repeat (first | refine c_seq ?_ | refine c_block ?_ | refine c_region _ ?_ | refine wpList_nil ?_ | refine c_then ?_ | refine c_then_exit ?_ | refine c_then_ret ?_ | refine c_in ?_ | refine c_in_ret ?_ | refine c_in_hit ?_ | refine wp_skip ?_ | refine wp_exit ?_ | refine wp_ret ?_ | refine c_in_miss rfl ?_ | (refine q_nil ?_; rintro _ ⟨ndr, rfl⟩) | refine c_region_draw _ mixed (by kernel_rfl) ?_ | ((first | apply st hF | apply stg hF | apply s_step hF | apply s_stg hF); (first | exact d_move | exact d_assign | exact d_not | exact d_pickT | exact d_pickF | exact d_add | exact d_sub | exact d_quo | exact d_rem | exact d_cmpT | exact d_cmpF | exact d_cmp | exact d_eqbT (und _ _ rfl) | exact d_eqbF (und _ _ rfl) | exact d_eqb (und _ _ rfl) | exact d_eqST | exact d_eqSF | exact d_eqS | exact d_len (und _ _ rfl) | exact d_lens (und _ _ rfl) | exact d_nilCheck | exact d_indexAddr1 (und _ _ rfl) (isz _ _ rfl) | exact d_fieldAddr (fld _ _ _ _ rfl) (isz _ _ rfl) | exact d_slice (und _ _ rfl) (isz _ _ rfl) | exact d_slice3 (und _ _ rfl) (isz _ _ rfl) | exact d_slice3l (und _ _ rfl) (isz _ _ rfl) | exact d_sliceL (und _ _ rfl) (isz _ _ rfl) | exact d_eqN (ifc _ rfl) | exact d_neN (ifc _ rfl) | exact d_makeI (con _ rfl) | exact d_extract); clear hF; clear a; intro a hF) | ((first | apply q_step hF | apply q_stg hF); intro wq hwq; (first | exact d_move | exact d_assign | exact d_not | exact d_pickT | exact d_pickF | exact d_add | exact d_sub | exact d_quo | exact d_rem | exact d_cmpT | exact d_cmpF | exact d_cmp | exact d_eqbT (und _ _ rfl) | exact d_eqbF (und _ _ rfl) | exact d_eqb (und _ _ rfl) | exact d_eqST | exact d_eqSF | exact d_eqS | exact d_len (und _ _ rfl) | exact d_lens (und _ _ rfl) | exact d_nilCheck | exact d_indexAddr1 (und _ _ rfl) (isz _ _ rfl) | exact d_fieldAddr (fld _ _ _ _ rfl) (isz _ _ rfl) | exact d_slice (und _ _ rfl) (isz _ _ rfl) | exact d_slice3 (und _ _ rfl) (isz _ _ rfl) | exact d_slice3l (und _ _ rfl) (isz _ _ rfl) | exact d_sliceL (und _ _ rfl) (isz _ _ rfl) | exact d_eqN (ifc _ rfl) | exact d_neN (ifc _ rfl) | exact d_makeI (con _ rfl) | exact d_extract); clear hF; clear a; intro a hF) | ((first | apply stm hF | apply stu hF | apply q_stm hF | apply q_stu hF); clear hF; clear a; intro a hF) | (apply c_cond_t hF; exact rfl; first | exact rfl | assumption) | (apply c_cond_f hF; exact rfl; first | exact rfl | assumption) | refine s_nil ?_)
              refine c_loop (fun N3 a w9 => ∃ i, i ≤ n j + 64 ∧ N3 = n j + 64 - i ∧ Fr 179 [(0, .slice (some ⟨lb, 0, none⟩) m m), (3, .slice (some ⟨gg, 0, none⟩) m gcap), (7, .int .i64 (k : Nat)), (8, .slice (some ⟨ww, 0, none⟩) m wcap), (14, .int .i64 (j : Nat)), (15, .int .i64 (i : Nat))] a ∧ Below wr.heap.size wr w9) (n j + 64)
                ⟨0, by omega, rfl, hF.keep' ⟨rfl, rfl, rfl, rfl, rfl, rfl, trivial⟩, hb8⟩ ?_
              clear hF a hb8
              rintro N3 a w9 ⟨i, hi9, rfl, hF, hb9⟩
              have cg9 : w9.cell? ⟨gg, 0 + j, none⟩ = some (.slice (some ⟨gq, 0, none⟩) (n j + 64) dq) := (hb9.cell (p := ⟨gg, 0 + j, none⟩) (World.block_lt_of_cell? wr _ cg0)).trans cg0
              by_cases hi9l : i < n j + 64
              · have cw9 : w9.cell? ⟨ww, 0 + j, none⟩ = some (.slice (some ⟨wg, 0, none⟩) (n j + 64) capq) := (hb9.cell (p := ⟨ww, 0 + j, none⟩) (World.block_lt_of_cell? wr _ cw0)).trans cw0
                have cz0 := own_cells q2 (i := i) (by simp; omega)
                have cy0 := own_cells q4 (i := i) (by simp; omega)
                rw [List.getElem_map] at cz0 cy0
                have cz9 : w9.cell? ⟨gq, 0 + i, none⟩ = some (.bool Zq[i]) := (hb9.cell (p := ⟨gq, 0 + i, none⟩) (World.block_lt_of_cell? wr _ cz0)).trans cz0
                have cy9 : w9.cell? ⟨wg, 0 + i, none⟩ = some (.bool Yq[i]) := (hb9.cell (p := ⟨wg, 0 + i, none⟩) (World.block_lt_of_cell? wr _ cy0)).trans cy0
                have q6 := q5 i hi9l
                have gz : Zq.getD i false = Zq[i] := by simp [List.getD, hZql, hi9l]
                have gy : Yq.getD i false = Yq[i] := by simp [List.getD, hYql, hi9l]
                rw [gz, gy] at q6
                by_cases hjk : j = k
                · have hZY : Zq[i] ≠ Yq[i] := by
                    rw [if_pos hjk] at q6
                    rw [q6]
                    cases Yq[i] <;> simp
                  have hbb : (Zq[i] == Yq[i]) = false := by simpa using hZY
                  repeat (first | refine c_seq ?_ | refine c_block ?_ | refine c_region _ ?_ | refine wpList_nil ?_ | refine c_then ?_ | refine c_then_exit ?_ | refine c_then_ret ?_ | refine c_in ?_ | refine c_in_ret ?_ | refine c_in_hit ?_ | refine wp_skip ?_ | refine wp_exit ?_ | refine wp_ret ?_ | refine c_in_miss rfl ?_ | (refine q_nil ?_; rintro _ ⟨ndr, rfl⟩) | refine c_region_draw _ mixed (by kernel_rfl) ?_ | ((first | apply st hF | apply stg hF | apply s_step hF | apply s_stg hF); (first | exact d_move | exact d_assign | exact d_not | exact d_pickT | exact d_pickF | exact d_add | exact d_sub | exact d_quo | exact d_rem | exact d_cmpT | exact d_cmpF | exact d_cmp | exact d_eqbT (und _ _ rfl) | exact d_eqbF (und _ _ rfl) | exact d_eqb (und _ _ rfl) | exact d_eqST | exact d_eqSF | exact d_eqS | exact d_len (und _ _ rfl) | exact d_lens (und _ _ rfl) | exact d_nilCheck | exact d_indexAddr1 (und _ _ rfl) (isz _ _ rfl) | exact d_fieldAddr (fld _ _ _ _ rfl) (isz _ _ rfl) | exact d_slice (und _ _ rfl) (isz _ _ rfl) | exact d_slice3 (und _ _ rfl) (isz _ _ rfl) | exact d_slice3l (und _ _ rfl) (isz _ _ rfl) | exact d_sliceL (und _ _ rfl) (isz _ _ rfl) | exact d_eqN (ifc _ rfl) | exact d_neN (ifc _ rfl) | exact d_makeI (con _ rfl) | exact d_extract | exact d_load (und _ _ rfl) cg9 | exact d_load (und _ _ rfl) cw9 | exact d_load (und _ _ rfl) cz9 | exact d_load (und _ _ rfl) cy9); clear hF; clear a; intro a hF) | ((first | apply q_step hF | apply q_stg hF); intro wq hwq; (first | exact d_move | exact d_assign | exact d_not | exact d_pickT | exact d_pickF | exact d_add | exact d_sub | exact d_quo | exact d_rem | exact d_cmpT | exact d_cmpF | exact d_cmp | exact d_eqbT (und _ _ rfl) | exact d_eqbF (und _ _ rfl) | exact d_eqb (und _ _ rfl) | exact d_eqST | exact d_eqSF | exact d_eqS | exact d_len (und _ _ rfl) | exact d_lens (und _ _ rfl) | exact d_nilCheck | exact d_indexAddr1 (und _ _ rfl) (isz _ _ rfl) | exact d_fieldAddr (fld _ _ _ _ rfl) (isz _ _ rfl) | exact d_slice (und _ _ rfl) (isz _ _ rfl) | exact d_slice3 (und _ _ rfl) (isz _ _ rfl) | exact d_slice3l (und _ _ rfl) (isz _ _ rfl) | exact d_sliceL (und _ _ rfl) (isz _ _ rfl) | exact d_eqN (ifc _ rfl) | exact d_neN (ifc _ rfl) | exact d_makeI (con _ rfl) | exact d_extract | exact q_load (und _ _ rfl) hwq (by exact cg9) | exact q_load (und _ _ rfl) hwq (by exact cw9) | exact q_load (und _ _ rfl) hwq (by exact cz9) | exact q_load (und _ _ rfl) hwq (by exact cy9)); clear hF; clear a; intro a hF) | ((first | apply stm hF | apply stu hF | apply q_stm hF | apply q_stu hF); clear hF; clear a; intro a hF) | (apply c_cond_t hF; exact rfl; first | exact rfl | assumption) | (apply c_cond_f hF; exact rfl; first | exact rfl | assumption) | refine s_nil ?_)
                  exact ⟨n j + 64 - (i + 1), by omega, i + 1, by omega, rfl, hF.keep' ⟨rfl, rfl, rfl, rfl, rfl, rfl, trivial⟩, below_more hb9 ndr⟩
                · have hZY : Zq[i] = Yq[i] := by
                    rw [if_neg hjk] at q6
                    exact q6
                  have hbb : (Zq[i] == Yq[i]) = true := by simp [hZY]
                  repeat (first | refine c_seq ?_ | refine c_block ?_ | refine c_region _ ?_ | refine wpList_nil ?_ | refine c_then ?_ | refine c_then_exit ?_ | refine c_then_ret ?_ | refine c_in ?_ | refine c_in_ret ?_ | refine c_in_hit ?_ | refine wp_skip ?_ | refine wp_exit ?_ | refine wp_ret ?_ | refine c_in_miss rfl ?_ | (refine q_nil ?_; rintro _ ⟨ndr, rfl⟩) | refine c_region_draw _ mixed (by kernel_rfl) ?_ | ((first | apply st hF | apply stg hF | apply s_step hF | apply s_stg hF); (first | exact d_move | exact d_assign | exact d_not | exact d_pickT | exact d_pickF | exact d_add | exact d_sub | exact d_quo | exact d_rem | exact d_cmpT | exact d_cmpF | exact d_cmp | exact d_eqbT (und _ _ rfl) | exact d_eqbF (und _ _ rfl) | exact d_eqb (und _ _ rfl) | exact d_eqST | exact d_eqSF | exact d_eqS | exact d_len (und _ _ rfl) | exact d_lens (und _ _ rfl) | exact d_nilCheck | exact d_indexAddr1 (und _ _ rfl) (isz _ _ rfl) | exact d_fieldAddr (fld _ _ _ _ rfl) (isz _ _ rfl) | exact d_slice (und _ _ rfl) (isz _ _ rfl) | exact d_slice3 (und _ _ rfl) (isz _ _ rfl) | exact d_slice3l (und _ _ rfl) (isz _ _ rfl) | exact d_sliceL (und _ _ rfl) (isz _ _ rfl) | exact d_eqN (ifc _ rfl) | exact d_neN (ifc _ rfl) | exact d_makeI (con _ rfl) | exact d_extract | exact d_load (und _ _ rfl) cg9 | exact d_load (und _ _ rfl) cw9 | exact d_load (und _ _ rfl) cz9 | exact d_load (und _ _ rfl) cy9); clear hF; clear a; intro a hF) | ((first | apply q_step hF | apply q_stg hF); intro wq hwq; (first | exact d_move | exact d_assign | exact d_not | exact d_pickT | exact d_pickF | exact d_add | exact d_sub | exact d_quo | exact d_rem | exact d_cmpT | exact d_cmpF | exact d_cmp | exact d_eqbT (und _ _ rfl) | exact d_eqbF (und _ _ rfl) | exact d_eqb (und _ _ rfl) | exact d_eqST | exact d_eqSF | exact d_eqS | exact d_len (und _ _ rfl) | exact d_lens (und _ _ rfl) | exact d_nilCheck | exact d_indexAddr1 (und _ _ rfl) (isz _ _ rfl) | exact d_fieldAddr (fld _ _ _ _ rfl) (isz _ _ rfl) | exact d_slice (und _ _ rfl) (isz _ _ rfl) | exact d_slice3 (und _ _ rfl) (isz _ _ rfl) | exact d_slice3l (und _ _ rfl) (isz _ _ rfl) | exact d_sliceL (und _ _ rfl) (isz _ _ rfl) | exact d_eqN (ifc _ rfl) | exact d_neN (ifc _ rfl) | exact d_makeI (con _ rfl) | exact d_extract | exact q_load (und _ _ rfl) hwq (by exact cg9) | exact q_load (und _ _ rfl) hwq (by exact cw9) | exact q_load (und _ _ rfl) hwq (by exact cz9) | exact q_load (und _ _ rfl) hwq (by exact cy9)); clear hF; clear a; intro a hF) | ((first | apply stm hF | apply stu hF | apply q_stm hF | apply q_stu hF); clear hF; clear a; intro a hF) | (apply c_cond_t hF; exact rfl; first | exact rfl | assumption) | (apply c_cond_f hF; exact rfl; first | exact rfl | assumption) | refine s_nil ?_)
                  exact ⟨n j + 64 - (i + 1), by omega, i + 1, by omega, rfl, hF.keep' ⟨rfl, rfl, rfl, rfl, rfl, rfl, trivial⟩, below_more hb9 ndr⟩
              · repeat (first | refine c_seq ?_ | refine c_block ?_ | refine c_region _ ?_ | refine wpList_nil ?_ | refine c_then ?_ | refine c_then_exit ?_ | refine c_then_ret ?_ | refine c_in ?_ | refine c_in_ret ?_ | refine c_in_hit ?_ | refine wp_skip ?_ | refine wp_exit ?_ | refine wp_ret ?_ | refine c_in_miss rfl ?_ | (refine q_nil ?_; rintro _ ⟨ndr, rfl⟩) | refine c_region_draw _ mixed (by kernel_rfl) ?_ | ((first | apply st hF | apply stg hF | apply s_step hF | apply s_stg hF); (first | exact d_move | exact d_assign | exact d_not | exact d_pickT | exact d_pickF | exact d_add | exact d_sub | exact d_quo | exact d_rem | exact d_cmpT | exact d_cmpF | exact d_cmp | exact d_eqbT (und _ _ rfl) | exact d_eqbF (und _ _ rfl) | exact d_eqb (und _ _ rfl) | exact d_eqST | exact d_eqSF | exact d_eqS | exact d_len (und _ _ rfl) | exact d_lens (und _ _ rfl) | exact d_nilCheck | exact d_indexAddr1 (und _ _ rfl) (isz _ _ rfl) | exact d_fieldAddr (fld _ _ _ _ rfl) (isz _ _ rfl) | exact d_slice (und _ _ rfl) (isz _ _ rfl) | exact d_slice3 (und _ _ rfl) (isz _ _ rfl) | exact d_slice3l (und _ _ rfl) (isz _ _ rfl) | exact d_sliceL (und _ _ rfl) (isz _ _ rfl) | exact d_eqN (ifc _ rfl) | exact d_neN (ifc _ rfl) | exact d_makeI (con _ rfl) | exact d_extract | exact d_load (und _ _ rfl) cg9); clear hF; clear a; intro a hF) | ((first | apply q_step hF | apply q_stg hF); intro wq hwq; (first | exact d_move | exact d_assign | exact d_not | exact d_pickT | exact d_pickF | exact d_add | exact d_sub | exact d_quo | exact d_rem | exact d_cmpT | exact d_cmpF | exact d_cmp | exact d_eqbT (und _ _ rfl) | exact d_eqbF (und _ _ rfl) | exact d_eqb (und _ _ rfl) | exact d_eqST | exact d_eqSF | exact d_eqS | exact d_len (und _ _ rfl) | exact d_lens (und _ _ rfl) | exact d_nilCheck | exact d_indexAddr1 (und _ _ rfl) (isz _ _ rfl) | exact d_fieldAddr (fld _ _ _ _ rfl) (isz _ _ rfl) | exact d_slice (und _ _ rfl) (isz _ _ rfl) | exact d_slice3 (und _ _ rfl) (isz _ _ rfl) | exact d_slice3l (und _ _ rfl) (isz _ _ rfl) | exact d_sliceL (und _ _ rfl) (isz _ _ rfl) | exact d_eqN (ifc _ rfl) | exact d_neN (ifc _ rfl) | exact d_makeI (con _ rfl) | exact d_extract | exact q_load (und _ _ rfl) hwq (by exact cg9)); clear hF; clear a; intro a hF) | ((first | apply stm hF | apply stu hF | apply q_stm hF | apply q_stu hF); clear hF; clear a; intro a hF) | (apply c_cond_t hF; exact rfl; first | exact rfl | assumption) | (apply c_cond_f hF; exact rfl; first | exact rfl | assumption) | refine s_nil ?_)
                exact ⟨m - (j + 1), by omega, j + 1, by omega, rfl, hF.keep' ⟨rfl, rfl, rfl, rfl, rfl, trivial⟩, hb9⟩
            · repeat (first | refine c_seq ?_ | refine c_block ?_ | refine c_region _ ?_ | refine wpList_nil ?_ | refine c_then ?_ | refine c_then_exit ?_ | refine c_then_ret ?_ | refine c_in ?_ | refine c_in_ret ?_ | refine c_in_hit ?_ | refine wp_skip ?_ | refine wp_exit ?_ | refine wp_ret ?_ | refine c_in_miss rfl ?_ | (refine q_nil ?_; rintro _ ⟨ndr, rfl⟩) | refine c_region_draw _ mixed (by kernel_rfl) ?_ | ((first | apply st hF | apply stg hF | apply s_step hF | apply s_stg hF); (first | exact d_move | exact d_assign | exact d_not | exact d_pickT | exact d_pickF | exact d_add | exact d_sub | exact d_quo | exact d_rem | exact d_cmpT | exact d_cmpF | exact d_cmp | exact d_eqbT (und _ _ rfl) | exact d_eqbF (und _ _ rfl) | exact d_eqb (und _ _ rfl) | exact d_eqST | exact d_eqSF | exact d_eqS | exact d_len (und _ _ rfl) | exact d_lens (und _ _ rfl) | exact d_nilCheck | exact d_indexAddr1 (und _ _ rfl) (isz _ _ rfl) | exact d_fieldAddr (fld _ _ _ _ rfl) (isz _ _ rfl) | exact d_slice (und _ _ rfl) (isz _ _ rfl) | exact d_slice3 (und _ _ rfl) (isz _ _ rfl) | exact d_slice3l (und _ _ rfl) (isz _ _ rfl) | exact d_sliceL (und _ _ rfl) (isz _ _ rfl) | exact d_eqN (ifc _ rfl) | exact d_neN (ifc _ rfl) | exact d_makeI (con _ rfl) | exact d_extract); clear hF; clear a; intro a hF) | ((first | apply q_step hF | apply q_stg hF); intro wq hwq; (first | exact d_move | exact d_assign | exact d_not | exact d_pickT | exact d_pickF | exact d_add | exact d_sub | exact d_quo | exact d_rem | exact d_cmpT | exact d_cmpF | exact d_cmp | exact d_eqbT (und _ _ rfl) | exact d_eqbF (und _ _ rfl) | exact d_eqb (und _ _ rfl) | exact d_eqST | exact d_eqSF | exact d_eqS | exact d_len (und _ _ rfl) | exact d_lens (und _ _ rfl) | exact d_nilCheck | exact d_indexAddr1 (und _ _ rfl) (isz _ _ rfl) | exact d_fieldAddr (fld _ _ _ _ rfl) (isz _ _ rfl) | exact d_slice (und _ _ rfl) (isz _ _ rfl) | exact d_slice3 (und _ _ rfl) (isz _ _ rfl) | exact d_slice3l (und _ _ rfl) (isz _ _ rfl) | exact d_sliceL (und _ _ rfl) (isz _ _ rfl) | exact d_eqN (ifc _ rfl) | exact d_neN (ifc _ rfl) | exact d_makeI (con _ rfl) | exact d_extract); clear hF; clear a; intro a hF) | ((first | apply stm hF | apply stu hF | apply q_stm hF | apply q_stu hF); clear hF; clear a; intro a hF) | (apply c_cond_t hF; exact rfl; first | exact rfl | assumption) | (apply c_cond_f hF; exact rfl; first | exact rfl | assumption) | refine s_nil ?_)
              exact ⟨m - (k + 1), by omega, k + 1, by omega, rfl, hF.keep' ⟨rfl, rfl, rfl, trivial⟩, own_below hWas.go hb8, hWas.gp.below hb8⟩
    · repeat (first | refine c_seq ?_ | refine c_block ?_ | refine c_region _ ?_ | refine wpList_nil ?_ | refine c_then ?_ | refine c_then_exit ?_ | refine c_then_ret ?_ | refine c_in ?_ | refine c_in_ret ?_ | refine c_in_hit ?_ | refine wp_skip ?_ | refine wp_exit ?_ | refine wp_ret ?_ | refine c_in_miss rfl ?_ | (refine q_nil ?_; rintro _ ⟨ndr, rfl⟩) | refine c_region_draw _ mixed (by kernel_rfl) ?_ | ((first | apply st hF | apply stg hF | apply s_step hF | apply s_stg hF); (first | exact d_move | exact d_assign | exact d_not | exact d_pickT | exact d_pickF | exact d_add | exact d_sub | exact d_quo | exact d_rem | exact d_cmpT | exact d_cmpF | exact d_cmp | exact d_eqbT (und _ _ rfl) | exact d_eqbF (und _ _ rfl) | exact d_eqb (und _ _ rfl) | exact d_eqST | exact d_eqSF | exact d_eqS | exact d_len (und _ _ rfl) | exact d_lens (und _ _ rfl) | exact d_nilCheck | exact d_indexAddr1 (und _ _ rfl) (isz _ _ rfl) | exact d_fieldAddr (fld _ _ _ _ rfl) (isz _ _ rfl) | exact d_slice (und _ _ rfl) (isz _ _ rfl) | exact d_slice3 (und _ _ rfl) (isz _ _ rfl) | exact d_slice3l (und _ _ rfl) (isz _ _ rfl) | exact d_sliceL (und _ _ rfl) (isz _ _ rfl) | exact d_eqN (ifc _ rfl) | exact d_neN (ifc _ rfl) | exact d_makeI (con _ rfl) | exact d_extract); clear hF; clear a; intro a hF) | ((first | apply q_step hF | apply q_stg hF); intro wq hwq; (first | exact d_move | exact d_assign | exact d_not | exact d_pickT | exact d_pickF | exact d_add | exact d_sub | exact d_quo | exact d_rem | exact d_cmpT | exact d_cmpF | exact d_cmp | exact d_eqbT (und _ _ rfl) | exact d_eqbF (und _ _ rfl) | exact d_eqb (und _ _ rfl) | exact d_eqST | exact d_eqSF | exact d_eqS | exact d_len (und _ _ rfl) | exact d_lens (und _ _ rfl) | exact d_nilCheck | exact d_indexAddr1 (und _ _ rfl) (isz _ _ rfl) | exact d_fieldAddr (fld _ _ _ _ rfl) (isz _ _ rfl) | exact d_slice (und _ _ rfl) (isz _ _ rfl) | exact d_slice3 (und _ _ rfl) (isz _ _ rfl) | exact d_slice3l (und _ _ rfl) (isz _ _ rfl) | exact d_sliceL (und _ _ rfl) (isz _ _ rfl) | exact d_eqN (ifc _ rfl) | exact d_neN (ifc _ rfl) | exact d_makeI (con _ rfl) | exact d_extract); clear hF; clear a; intro a hF) | ((first | apply stm hF | apply stu hF | apply q_stm hF | apply q_stu hF); clear hF; clear a; intro a hF) | (apply c_cond_t hF; exact rfl; first | exact rfl | assumption) | (apply c_cond_f hF; exact rfl; first | exact rfl | assumption) | refine s_nil ?_)
      exact ret1 hF rfl rfl ⟨rfl, hG.fz⟩
end Go.Proofs.YtcajdlcijepemaaDoor
