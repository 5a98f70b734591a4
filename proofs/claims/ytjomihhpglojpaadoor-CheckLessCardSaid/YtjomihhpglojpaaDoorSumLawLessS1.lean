/- Laid together by a program of mine: Door2 MsgB AppS PermT Pick. -/
import Derived.Test.YtjomihhpglojpaaDoorSumBPlacS10
import Derived.Test.YtjomihhpglojpaaDoorSumBPlacS25
import Derived.Test.YtjomihhpglojpaaDoorSumBPlacS22
import Derived.Test.YtjomihhpglojpaaDoorSumBPlacS9
import Derived.Test.YtjomihhpglojpaaDoorSumBPlacS19
import Derived.Test.YtjomihhpglojpaaDoorSumBPlacS4
set_option linter.unusedSimpArgs false
set_option linter.unusedVariables false
section
/- The condition of CharsNamed: utf8's two tables; a world that meets it. -/
namespace Go.Proofs.YtjomihhpglojpaaDoor
open Go.ChangeShapes Go.WideShapes Go.RowKit Go.Shelf
theorem laid2_parts {W : World} (h : laidMetH Tryd.prog tabs2 W) : laidMet Tryd.prog tabs2 W := h
theorem tabs_of_laid2 {W : World} (h : laidMetH Tryd.prog tabs2 W) : Tabs W := by
  have h2 := laid2_parts h
  unfold tabs2 at h2
  rw [acc_eq, fst_eq] at h2
  exact utf8Tabs_of_readsT (U8Types.of196 Tryd.lays196) ⟨by kernel_rfl, by kernel_rfl, by kernel_rfl, by kernel_rfl, by kernel_rfl, by kernel_rfl, by kernel_rfl⟩ (Lib.laidMet.reads h2 (.tail _ (.head _))) (Lib.laidMet.reads h2 (.head _))
theorem laidWorld2_met (os : Os) (args : Array Value) : laidMetH Tryd.prog tabs2 ((laidWorld3 os).forCall (fun _ _ => 0) ⟨#[], args, []⟩).memory := by
  show laidMet Tryd.prog tabs2 _
  exact (LaidIn.of_run (l := tabs2) [2, 1] 8 (by kernel_rfl) (by kernel_rfl) (by kernel_rfl) (by kernel_rfl)).met
end Go.Proofs.YtjomihhpglojpaaDoor
end
section
/- A message as it is handed in, with what its numbers stay within. -/
namespace Go.Proofs.YtjomihhpglojpaaDoor
open Go.RowKit
set_option linter.unusedSimpArgs false
set_option linter.unusedVariables false
attribute [local irreducible] wpList wpQuiet wpStill Code.wp Exit.then Exit.inBlock bodyPost Calls Does Does0
open Go.ChangeShapes Go.WideShapes

theorem by_sig : Tryd.prog.bytesOf 38 = 176 := by kernel_rfl
theorem sz_msg : Tryd.prog.cellsOf 27 = 8 := by kernel_rfl
theorem sz_u32 : Tryd.prog.cellsOf 24 = 1 := by kernel_rfl
theorem sz_sigs : Tryd.prog.cellsOf 25 = 1 := by kernel_rfl
theorem sigs_of {H : Type} {enc : TypeId × Value → H} {w : World} {cs : List Value} (h : Rdw enc Tryd.prog w 25 cs) : ∃ ao n c ps, cs = [.slice ao n c] ∧ SigsIn w ao n c ps ∧ ∀ p ∈ ps, SigB p.1 := by
  obtain ⟨ao, len, cap, rfl, hl, hm, hby, hel⟩ := h.slice (und _ _ rfl) (by rw [sz_sig]; decide)
  rw [by_sig] at hby
  have key : ∀ n, n ≤ len → ∃ ps : List SigT, ps.length = n ∧ RdS w ao 19 Sig.cells (ps.map (·.1)) ∧ ∀ p ∈ ps, SigIn w p.1 p.2 ∧ SigB p.1 := by
    intro n
    induction n with
    | zero => intro _; exact ⟨[], rfl, fun i hi => absurd hi (Nat.not_lt_zero _), by simp⟩
    | succ n ih =>
      intro hn
      obtain ⟨ps, hsl, hrd, hin⟩ := ih (by omega)
      obtain ⟨b, o, cs', hao, hcl, hq, hr⟩ := hel n (by omega)
      obtain ⟨s, ss, rfl, hs⟩ := sig_of hr
      have hsb := sig_bnd hr
      rw [sz_sig] at hq
      refine ⟨ps ++ [(s, ss)], by simp [hsl], fun i hi => ?_, fun x hx => ?_⟩
      · by_cases hin : i < n
        · obtain ⟨b', o', e1, e2⟩ := hrd i (by simp; omega)
          refine ⟨b', o', e1, ?_⟩
          have e3 : (List.map (·.1) (ps ++ [(s, ss)]))[i]'hi = (List.map (·.1) ps)[i]'(by simp; omega) := by
            simp only [List.map_append]
            rw [List.getElem_append_left (by simp; omega)]
          rw [e3]
          exact e2
        · have : i = n := by simp at hi; omega
          subst this
          refine ⟨b, o, hao, fun q v hv => ?_⟩
          have e3 : (List.map (·.1) (ps ++ [(s, ss)]))[i]'hi = s := by
            simp only [List.map_append]
            rw [List.getElem_append_right (by simp; omega)]
            simp [hsl]
          rw [e3] at hv
          have hlt : q < 19 := by
            have := (List.getElem?_eq_some_iff.1 hv).1
            rw [sigc_len] at this; exact this
          rw [hq q hlt]
          exact hv
      · rcases List.mem_append.1 hx with hx | hx
        · exact hin x hx
        · simp at hx; subst hx; exact ⟨hs, hsb⟩
  obtain ⟨ps, h1, h2, h3⟩ := key len (Nat.le_refl _)
  exact ⟨ao, len, cap, ps, rfl, ⟨h1, h2, fun p hp => (h3 p hp).1, hl, Nat.le_trans (Nat.mul_le_mul_right _ hl) hby⟩, fun p hp => (h3 p hp).2⟩

theorem wf_u32' {x : Int} (h : (Lit.int .u32 x).wf = true) : 0 ≤ x ∧ x < 4294967296 := by
  have h1 : IntKind.u32.min ≤ x ∧ x ≤ IntKind.u32.max := by simpa [Lit.wf] using h
  rw [show IntKind.u32.min = 0 by decide, show IntKind.u32.max = 4294967295 by decide] at h1
  exact ⟨h1.1, by omega⟩
theorem msg_of {H : Type} {enc : TypeId × Value → H} {w : World} {cs : List Value} (h : Rdw enc Tryd.prog w 27 cs) : ∃ m ps, cs = Msg.cells m ∧ MsgIn w m ps ∧ (∀ p ∈ ps, SigB p.1) ∧ 0 ≤ m.id ∧ m.id < 4294967296 := by
  have hl := h.rds.len (fld _ 0 _ _ rfl)
  rw [sz_msg] at hl
  obtain ⟨a0, a1, a2, a3, a4, a5, a6, a7, rfl⟩ : ∃ a0 a1 a2 a3 a4 a5 a6 a7, cs = [a0, a1, a2, a3, a4, a5, a6, a7] := by
    rcases cs with _ | ⟨a0, _ | ⟨a1, _ | ⟨a2, _ | ⟨a3, _ | ⟨a4, _ | ⟨a5, _ | ⟨a6, _ | ⟨a7, _ | ⟨a8, r⟩⟩⟩⟩⟩⟩⟩⟩⟩ <;> simp at hl
    exact ⟨_, _, _, _, _, _, _, _, rfl⟩
  have k0 := h.fld (fld _ 0 _ _ rfl); rw [sz_place] at k0
  have k1 := h.fld (fld _ 1 _ _ rfl); rw [sz_u32] at k1
  have k2 := h.fld (fld _ 2 _ _ rfl); rw [sz_bool] at k2
  have k3 := h.fld (fld _ 3 _ _ rfl); rw [sz_string] at k3
  have k4 := h.fld (fld _ 4 _ _ rfl); rw [sz_int] at k4
  have k5 := h.fld (fld _ 5 _ _ rfl); rw [sz_string] at k5
  have k6 := h.fld (fld _ 6 _ _ rfl); rw [sz_sigs] at k6
  have p0 := k0.fld (fld _ 0 _ _ rfl); rw [sz_int] at p0
  have p1 := k0.fld (fld _ 1 _ _ rfl); rw [sz_int] at p1
  obtain ⟨i0, e0, _⟩ := p0.rds.int (und _ _ rfl)
  obtain ⟨i1, e1, _⟩ := p1.rds.int (und _ _ rfl)
  obtain ⟨i2, e2, hw2⟩ := Rds.int k1.rds (und _ _ rfl)
  obtain ⟨i3, e3⟩ := Rds.bool k2.rds (und _ _ rfl)
  obtain ⟨i4, e4, _⟩ := Rds.string k3.rds (und _ _ rfl)
  obtain ⟨i5, e5, _⟩ := Rds.int k4.rds (und _ _ rfl)
  obtain ⟨i6, e6, _⟩ := Rds.string k5.rds (und _ _ rfl)
  obtain ⟨ao, n, c, ps, e7, hs, hsb⟩ := sigs_of k6
  simp only [List.drop_succ_cons, List.drop_zero, List.take_succ_cons, List.take_zero, List.cons.injEq, and_true] at e0 e1 e2 e3 e4 e5 e6 e7
  subst e0; subst e1; subst e2; subst e3; subst e4; subst e5; subst e6; subst e7
  exact ⟨⟨i0, i1, i2, i3, i4, i5, i6, ao, n, c⟩, ps, rfl, hs, hsb, wf_u32' hw2⟩
end Go.Proofs.YtjomihhpglojpaaDoor
end
section
/- Slices of structs: what a part reads as, and 'append(s, x...)'. Plain lemmas over any program. -/
namespace Go.Proofs.YtjomihhpglojpaaDoor
open Go.RowKit
section
variable {P : Program} {ops : Array Oper} {Q : Exit → Act → World → Prop} {a : Act} {w w' : World} {rest : List Oper} {N : Nat} {l : List (Nat × Value)}
theorem RdS.drop {α : Type} {w : World} {ao : Option Addr} {sz : Nat} {enc : α → List Value} {xs : List α} (h : RdS w ao sz enc xs) (i m : Nat) (hm : xs.length ≤ m) : RdS w (if m = i then ao else ao.map (·.add (i * sz))) sz enc (xs.drop i) := by
  intro j hj
  rw [List.length_drop] at hj
  obtain ⟨b, o, rfl, hc⟩ := h (i + j) (by omega)
  rw [if_neg (by omega)]
  refine ⟨b, o + i * sz, by simp [addr_add], fun q v hq => ?_⟩
  rw [List.getElem_drop] at hq
  have := hc q v hq
  rwa [Nat.add_mul, ← Nat.add_assoc] at this
theorem RdS.take {α : Type} {w : World} {ao : Option Addr} {sz : Nat} {enc : α → List Value} {xs : List α} (h : RdS w ao sz enc xs) (n : Nat) : RdS w ao sz enc (xs.take n) := by
  intro j hj
  rw [List.length_take] at hj
  obtain ⟨b, o, e, hc⟩ := h j (by omega)
  exact ⟨b, o, e, fun q v hq => hc q v (by rw [List.getElem_take] at hq; exact hq)⟩
theorem own_pre {w : World} {base : Nat} {e : TypeId} {s n cap : Nat} {ao : Option Addr} {xs : List Value} (h : w.ownsRow base e s (.slice ao n cap) n xs) {m : Nat} (hm : m ≤ n) : w.ownsRow base e s (.slice ao m cap) m (xs.take (m * s)) := by
  have hl : xs.length = n * s := h.1
  have hms : m * s ≤ n * s := Nat.mul_le_mul_right _ hm
  refine ⟨by rw [List.length_take]; omega, ?_⟩
  rcases h.2 with ⟨h0, h1⟩ | ⟨g, cap', cur, h0, hb, hg, hle, hx, hsz, htk⟩
  · cases h0
    exact .inl ⟨by rw [show m = 0 by omega], by omega⟩
  · cases h0
    refine .inr ⟨_, _, cur, rfl, hb, hg, by omega, hx, hsz, ?_⟩
    rw [← htk, List.take_take, Nat.min_eq_left hms]
theorem flat_len {α : Type} {enc : α → List Value} {sz : Nat} (he : ∀ x, (enc x).length = sz) : ∀ xs : List α, (xs.flatMap enc).length = xs.length * sz
  | [] => by simp
  | x :: xs => by simp [he, flat_len he xs, Nat.add_mul, Nat.add_comm]
theorem flat_take {α : Type} {enc : α → List Value} {sz : Nat} (he : ∀ x, (enc x).length = sz) : ∀ (xs : List α) (n : Nat), (xs.flatMap enc).take (n * sz) = (xs.take n).flatMap enc
  | [], n => by simp
  | x :: xs, 0 => by simp
  | x :: xs, n + 1 => by
    have hx := he x
    rw [List.flatMap_cons, List.take_succ_cons, List.flatMap_cons, ← flat_take he xs n, List.take_append, hx]
    rw [List.take_of_length_le (by rw [hx, Nat.add_mul]; omega)]
    congr 2
    rw [Nat.add_mul]; omega
theorem st_appendS (h : Fr N l a) {α : Type} {enc : α → List Value} {ys : List α} {bo : Option Addr} {m c' sz : Nat} {d : Nat} {s x : Operand} {z : Value} {t e ty : TypeId} {pos : String} {af : Array Edge} {bytes n base cap : Nat} {ao : Option Addr} {xs : List Value}
    (he : ∀ x, (enc x).length = sz) (h0 : 0 < sz) (hU : P.underlying t = some (.slice e)) (hi : (P.info? e).map (fun i => (i.zero, i.size, i.bytes)) = some (some z, sz, bytes)) (hz : z.cells.size = sz)
    (hown : w.ownsRow base e sz (.slice ao n cap) n xs) (hys : ys.length = m) (hR : RdS w bo sz enc ys) (h1 : ∀ y, ∀ v ∈ enc y, v.oneCell' = true) (hbd : (n + m) * bytes ≤ 140737488355328) (hm : n + m ≤ maxLen) (hbase : base ≤ w.heap.size)
    (hs : Ev l s (.slice ao n cap) := by exact rfl) (hx : Ev l x (.slice bo m c') := by exact rfl) (hd : Nat.blt d N = true := by exact rfl)
    (k : ∀ a' ao' cap' w', w'.ownsRow base e sz (.slice ao' (n + m) cap') (n + m) (xs ++ ys.flatMap enc) → w.grownBy w' (Value.slice ao n cap).ownBlock → Fr N ((d, .slice ao' (n + m) cap') :: l) a' → wpList P ops Q rest a' w') :
    wpList P ops Q (⟨some d, .call { callee := .builtin .append, args := [s, x].toArray, argTypes := [t, t].toArray }, ty, pos, af, none⟩ :: rest) a w := by
  obtain ⟨i, g1, g2, g3, g4⟩ := info_parts hi
  by_cases hy0 : ys = []
  · subst hy0
    obtain rfl : m = 0 := by simpa using hys.symm
    obtain ⟨hle, _⟩ := own_cap' hown
    have hsrc : Src P i.size t (.slice bo 0 c') 0 [] w := by
      cases bo with
      | none => exact Src.ofNil w hU c'
      | some ad => exact Src.ofSlice w hU ad 0 c' [] (by simp) (by simp) (by simp)
    have hr := run_append_nothing (P := P) w t t ty e i hU g1 ao n cap hle _ hsrc
    refine st h (v := .slice ao n cap) (w' := w) ?_ hd fun a' hF => k a' ao cap w (by simpa using hown) (World.grownBy.refl w _) hF
    intro ρ hρ d pos af g
    simp [execOp, resolve, invoke, builtin, hρ _ _ hs, hρ _ _ hx, hr]
  · obtain ⟨b, o, rfl, _⟩ := hR 0 (by cases ys with | nil => exact absurd rfl hy0 | cons _ _ => simp)
    refine wpList_append_own_at _ rfl s x t rfl base e i z sz bytes hU g1 g2 g3 g4 hz h0 (.slice ao n cap) n xs (h.eval _ _ hs) hown
      ⟨b, o, none⟩ m c' (ys.flatMap enc) (h.eval _ _ hx) (by rw [flat_len he, hys]) ?_ ?_ hm hbd hbase ?_
    · intro j v hj
      have hjl : j < ys.length * sz := by
        have := (List.getElem?_eq_some_iff.1 hj).1
        rw [flat_len he] at this; exact this
      have hq : j % sz < sz := Nat.mod_lt _ h0
      have hi' : j / sz < ys.length := Nat.div_lt_of_lt_mul (by rw [Nat.mul_comm]; exact hjl)
      obtain ⟨b2, o2, e2, hc⟩ := hR (j / sz) hi'
      cases e2
      have e3 := flat_get he ys (j / sz) hi' (j % sz) hq
      have e4 : j / sz * sz + j % sz = j := by rw [Nat.mul_comm]; exact Nat.div_add_mod j sz
      rw [e4, hj] at e3
      have := hc (j % sz) v e3.symm
      rw [Nat.add_assoc, e4] at this
      rw [addr_add]; exact this
    · intro v hv
      obtain ⟨y, _, hv⟩ := List.mem_flatMap.1 hv
      exact h1 y v hv
    · intro v' w' hown' hgr hnil hat
      obtain ⟨ao', cap', rfl, _, _⟩ := own_form hown'
      exact k _ ao' cap' w' hown' hgr (h.put hd _)
end
end Go.Proofs.YtjomihhpglojpaaDoor
end
section
/- A region that draws its order, walked along a tree: reads (taken first), sole operations, and two that may come up in either order. Plain lemmas over any program. -/
namespace Go.Proofs.YtjomihhpglojpaaDoor
open Go.RowKit
inductive Tr where
  | done
  | read (i : Nat) (k : Tr)
  | sole (t : Nat) (k : Tr)
  | two (t u : Nat) (kt ku : Tr)
section
variable {P : Program} {md : Region.Mode} {Q : Exit → Act → World → Prop} {S : World → Prop}
def treeL (md : Region.Mode) (ops : Array Oper) : Nat → Tr → Array Bool → Bool
  | 0, .done, listed => (Region.ready md ops listed).isEmpty
  | n + 1, .read i k, listed => (Region.ready md ops listed).contains i && Region.free md ops listed i && treeL md ops n k (listed.setIfInBounds i true)
  | n + 1, .sole t k, listed => decide (Region.ready md ops listed = [t]) && treeL md ops n k (listed.setIfInBounds t true)
  | n + 1, .two t u kt ku, listed => (decide (Region.ready md ops listed = [t, u]) || decide (Region.ready md ops listed = [u, t])) && treeL md ops n kt (listed.setIfInBounds t true) && treeL md ops n ku (listed.setIfInBounds u true)
  | _, _, _ => false
def treeB (md : Region.Mode) (ops : Array Oper) (t : Tr) : Bool := Region.noSelect ops && treeL md ops ops.size t (Array.replicate ops.size false)
def wpTree (P : Program) (ops : Array Oper) (Q : Exit → Act → World → Prop) (S : World → Prop) (l : List Oper) : Tr → Act → World → Prop
  | .done, a, w => Q .normal a w
  | .read i k, a, w => ∀ o, l[i]? = some o → ∃ v, YieldsIf P ops S o v a ∧ wpTree P ops Q S l k (a.put o.dst v) w
  | .sole t k, a, w => ∀ o, l[t]? = some o → wpList P ops (fun e a' w' => e = .normal ∧ S w' ∧ wpTree P ops Q S l k a' w') [o] a w
  | .two t u kt ku, a, w => (∀ o, l[t]? = some o → wpList P ops (fun e a' w' => e = .normal ∧ S w' ∧ wpTree P ops Q S l kt a' w') [o] a w) ∧ (∀ o, l[u]? = some o → wpList P ops (fun e a' w' => e = .normal ∧ S w' ∧ wpTree P ops Q S l ku a' w') [o] a w)
theorem op_list {l : List Oper} {i : Nat} {o : Oper} {R : Act → World → Prop} {a : Act} {w : World} (ho : l.toArray[i]? = some o) (h : wpList P l.toArray (fun e a' w' => e = .normal ∧ S w' ∧ R a' w') [o] a w) :
    wpOp P l.toArray (fun e a w => e = .normal ∧ Q .normal a w) i (fun a' w' => S w' ∧ R a' w') a w := by
  simp only [wpList] at h
  unfold wpOp
  simp only [ho]
  split
  · rename_i hw
    rw [if_pos hw] at h
    rcases h with h | ⟨_, x, y, h, _⟩
    · refine .inl (oper_wp_monoQ (Q' := fun e a' w' => e = .normal ∧ S w' ∧ R a' w') (fun e a' w' hn h' => absurd h'.1 hn) (Oper.wp_mono ?_ h))
      rintro a' w' ⟨_, h1, h2⟩
      exact ⟨h1, h2⟩
    · cases h
  · rename_i hw
    rw [if_neg hw] at h
    exact h.2
theorem wpAnyH_tree {l : List Oper} (Q : Exit → Act → World → Prop) (hs : Region.noSelect l.toArray = true) : ∀ (n : Nat) (t : Tr) (listed : Array Bool) (a : Act) (w : World), treeL md l.toArray n t listed = true → S w →
    wpTree P l.toArray Q S l t a w → wpAnyH P md l.toArray (fun e a w => e = .normal ∧ Q .normal a w) S n listed a w
  | 0, .done, listed, a, w, hB, hS, h => ⟨by simpa [treeL] using hB, rfl, by simpa [wpTree] using h⟩
  | n + 1, .read i k, listed, a, w, hB, hS, h => by
    simp only [treeL, Bool.and_eq_true] at hB
    obtain ⟨⟨hr, hf⟩, hB'⟩ := hB
    obtain ⟨o, ho⟩ := mem_ready_lt (by simpa using hr : i ∈ Region.ready md l.toArray listed)
    obtain ⟨v, hy, hk⟩ := h o (by simpa using ho)
    exact wpAnyH_take ho hs hf hr (fun c a w h => by cases h.1) hy hS (wpAnyH_tree Q hs n k _ _ w hB' hS hk)
  | n + 1, .sole t k, listed, a, w, hB, hS, h => by
    simp only [treeL, Bool.and_eq_true, decide_eq_true_eq] at hB
    refine ⟨fun h1 => (by rw [hB.1] at h1; cases h1), fun i hi => ?_⟩
    obtain ⟨o, ho⟩ := mem_ready_lt hi
    rw [hB.1] at hi
    obtain rfl : i = t := by simpa using hi
    refine wpOp_mono ?_ (op_list (R := fun a' w' => wpTree P l.toArray Q S l k a' w') ho (h o (by simpa using ho)))
    rintro a' w' ⟨h3, h4⟩
    exact ⟨h3, wpAnyH_tree Q hs n k _ a' w' hB.2 h3 h4⟩
  | n + 1, .two t u kt ku, listed, a, w, hB, hS, h => by
    simp only [treeL, Bool.and_eq_true, Bool.or_eq_true, decide_eq_true_eq] at hB
    obtain ⟨⟨hr, hB1⟩, hB2⟩ := hB
    have hmem : ∀ i, i ∈ Region.ready md l.toArray listed → i = t ∨ i = u := fun i hi => by
      rcases hr with e | e <;> rw [e] at hi <;> simp at hi <;> omega
    refine ⟨fun h1 => (by rcases hr with e | e <;> (rw [e] at h1; cases h1)), fun i hi => ?_⟩
    obtain ⟨o, ho⟩ := mem_ready_lt hi
    rcases hmem i hi with rfl | rfl
    · refine wpOp_mono ?_ (op_list (R := fun a' w' => wpTree P l.toArray Q S l kt a' w') ho (h.1 o (by simpa using ho)))
      rintro a' w' ⟨h3, h4⟩
      exact ⟨h3, wpAnyH_tree Q hs n kt _ a' w' hB1 h3 h4⟩
    · refine wpOp_mono ?_ (op_list (R := fun a' w' => wpTree P l.toArray Q S l ku a' w') ho (h.2 o (by simpa using ho)))
      rintro a' w' ⟨h3, h4⟩
      exact ⟨h3, wpAnyH_tree Q hs n ku _ a' w' hB2 h3 h4⟩
  | 0, .read _ _, _, _, _, hB, _, _ => by cases hB
  | 0, .sole _ _, _, _, _, hB, _, _ => by cases hB
  | 0, .two _ _ _ _, _, _, _, hB, _, _ => by cases hB
  | _ + 1, .done, _, _, _, hB, _, _ => by cases hB
theorem c_region_tree (S : World → Prop) (t : Tr) (id : Nat) {l' : List Oper} {a : Act} {w : World} (hm : P.follows .mixedOrders = true) (hB : treeB .any l'.toArray t = true) (hS : S (w.drewN 1))
    (h : wpTree P l'.toArray Q S l' t a (w.drewN 1)) : (Code.region id l'.toArray true).wp P Q a w := by
  simp only [treeB, Bool.and_eq_true] at hB
  have := wpAnyH_tree (md := .any) (S := S) Q hB.1 _ t _ a _ hB.2 hS h
  refine wp_region_any hm (wpAny_monoQ ?_ _ _ _ _ (wpAny_of_held _ _ _ _ this))
  rintro e a w ⟨rfl, h⟩
  exact h
variable {ops : Array Oper} {a : Act} {w : World} {N : Nat} {l : List (Nat × Value)} {L : List Oper} {i : Nat} {k : Tr}
theorem r_done (h : Q .normal a w) : wpTree P ops Q S L .done a w := h
theorem r_read (h : Fr N l a) {d : Nat} {op : Op} {ty : TypeId} {pos : String} {af : Array Edge} {v : Value} (ho : L[i]? = some ⟨some d, op, ty, pos, af, none⟩) (hr : ∀ w, S w → Does P l w op ty v w) (hd : Nat.blt d N = true := by exact rfl)
    (k' : ∀ a', Fr N ((d, v) :: l) a' → wpTree P ops Q S L k a' w) : wpTree P ops Q S L (.read i k) a w := by
  intro o ho'
  rw [ho] at ho'
  cases ho'
  exact ⟨v, .inl ⟨by simp [Region.wanted], fun w hw => hr w hw a.eval h.eval _ _ _ _⟩, k' _ (h.put hd v)⟩
theorem r_sole {o : Oper} (ho : L[i]? = some o) (h : wpList P ops (fun e a' w' => e = .normal ∧ S w' ∧ wpTree P ops Q S L k a' w') [o] a w) : wpTree P ops Q S L (.sole i k) a w := by
  intro o' ho'
  rw [ho] at ho'
  cases ho'
  exact h
theorem r_two {t u : Nat} {kt ku : Tr} {o o2 : Oper} (ho : L[t]? = some o) (ho2 : L[u]? = some o2) (h : wpList P ops (fun e a' w' => e = .normal ∧ S w' ∧ wpTree P ops Q S L kt a' w') [o] a w) (h2 : wpList P ops (fun e a' w' => e = .normal ∧ S w' ∧ wpTree P ops Q S L ku a' w') [o2] a w) : wpTree P ops Q S L (.two t u kt ku) a w := by
  refine ⟨fun o' ho' => ?_, fun o' ho' => ?_⟩
  · rw [ho] at ho'; cases ho'; exact h
  · rw [ho2] at ho'; cases ho'; exact h2
end
end Go.Proofs.YtjomihhpglojpaaDoor
end
section
/- Pick: a number below n out of any. -/
namespace Go.Proofs.YtjomihhpglojpaaDoor
open Go.RowKit
set_option linter.unusedSimpArgs false
set_option linter.unusedVariables false
attribute [local irreducible] wpList wpQuiet wpStill Code.wp Exit.then Exit.inBlock bodyPost Calls Does Does0

set_option maxHeartbeats 2000000 in
theorem pick_ok (w : World) (k n : Int) (h1 : 1 ≤ n) (h2 : n ≤ 4611686018427387904) :
    Ret Tryd.prog 11 #[.int .i64 k, .int .i64 n] w (fun v w' => v = .int .i64 (k % n) ∧ w' = w) := by
  have b0 := Int.emod_nonneg k (show n ≠ 0 by omega)
  have b1 := Int.emod_lt_of_pos k (show 0 < n by omega)
  by_cases hk : 0 ≤ k
  · refine enter2 Tryd.func11 rfl 14 rfl 16 rfl (fun a hF => ?_)
    repeat (first | refine c_seq ?_ | refine c_block ?_ | refine c_region _ ?_ | refine wpList_nil ?_ | refine c_then ?_ | refine c_then_exit ?_ | refine c_then_ret ?_ | refine c_in ?_ | refine c_in_ret ?_ | refine c_in_hit ?_ | refine wp_skip ?_ | refine wp_exit ?_ | refine wp_ret ?_ | refine c_in_miss rfl ?_ | ((first | apply st hF | apply stg hF | apply s_step hF | apply s_stg hF); (first | exact d_move | exact d_assign | exact d_add | exact d_rem | exact d_cmpT | exact d_cmpF | exact d_cmp); clear hF; clear a; intro a hF) | ((first | apply stm hF | apply stu hF); clear hF; clear a; intro a hF) | (apply c_cond_t hF; exact rfl; first | exact rfl | assumption) | (apply c_cond_f hF; exact rfl; first | exact rfl | assumption) | refine s_nil ?_)
    exact ret1 hF rfl rfl ⟨rfl, rfl⟩
  · have e1 : k.tmod n = -((-k) % n) := by
      rw [← Int.tmod_eq_emod_of_nonneg (by omega), Int.neg_tmod]; simp
    have c0 := Int.emod_nonneg (-k) (show n ≠ 0 by omega)
    have c1 := Int.emod_lt_of_pos (-k) (show 0 < n by omega)
    have c2 := Int.emod_add_mul_ediv (-k) n
    by_cases hr : (-k) % n = 0
    · have e2 : k % n = k.tmod n := emod_unique (q := -((-k) / n)) (by omega) (by omega) (by rw [Int.mul_neg]; omega)
      have e3 : k.tmod n = 0 := by omega
      clear b0 b1 c2
      refine enter2 Tryd.func11 rfl 14 rfl 16 rfl (fun a hF => ?_)
      repeat (first | refine c_seq ?_ | refine c_block ?_ | refine c_region _ ?_ | refine wpList_nil ?_ | refine c_then ?_ | refine c_then_exit ?_ | refine c_then_ret ?_ | refine c_in ?_ | refine c_in_ret ?_ | refine c_in_hit ?_ | refine wp_skip ?_ | refine wp_exit ?_ | refine wp_ret ?_ | refine c_in_miss rfl ?_ | ((first | apply st hF | apply stg hF | apply s_step hF | apply s_stg hF); (first | exact d_move | exact d_assign | exact d_add | exact d_rem | exact d_cmpT | exact d_cmpF | exact d_cmp | exact d_remt (h := by omega)); clear hF; clear a; intro a hF) | ((first | apply stm hF | apply stu hF); clear hF; clear a; intro a hF) | (apply c_cond_t hF; exact rfl; first | exact rfl | assumption) | (apply c_cond_f hF; exact rfl; first | exact rfl | assumption) | refine s_nil ?_)
      exact ret1 hF rfl rfl ⟨by rw [e2], rfl⟩
    · have e2 : k % n = k.tmod n + n := emod_unique (q := -((-k) / n) - 1) (by omega) (by omega) (by rw [Int.mul_sub, Int.mul_neg]; omega)
      have e3 : k.tmod n < 0 ∧ -4611686018427387904 < k.tmod n := by omega
      clear b0 b1 c2
      refine enter2 Tryd.func11 rfl 14 rfl 16 rfl (fun a hF => ?_)
      repeat (first | refine c_seq ?_ | refine c_block ?_ | refine c_region _ ?_ | refine wpList_nil ?_ | refine c_then ?_ | refine c_then_exit ?_ | refine c_then_ret ?_ | refine c_in ?_ | refine c_in_ret ?_ | refine c_in_hit ?_ | refine wp_skip ?_ | refine wp_exit ?_ | refine wp_ret ?_ | refine c_in_miss rfl ?_ | ((first | apply st hF | apply stg hF | apply s_step hF | apply s_stg hF); (first | exact d_move | exact d_assign | exact d_add | exact d_rem | exact d_cmpT | exact d_cmpF | exact d_cmp | exact d_remt (h := by omega)); clear hF; clear a; intro a hF) | ((first | apply stm hF | apply stu hF); clear hF; clear a; intro a hF) | (apply c_cond_t hF; exact rfl; first | exact rfl | assumption) | (apply c_cond_f hF; exact rfl; first | exact rfl | assumption) | refine s_nil ?_)
      exact ret1 hF rfl rfl ⟨by rw [e2], rfl⟩
end Go.Proofs.YtjomihhpglojpaaDoor
end
