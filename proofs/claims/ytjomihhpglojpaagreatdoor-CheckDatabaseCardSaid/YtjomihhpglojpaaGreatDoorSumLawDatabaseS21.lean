/- Laid together by a program of mine: PermA Cut RefC RefS. -/
import Derived.Test.YtjomihhpglojpaaGreatDoorSumLawDatabaseS9
import Derived.Test.YtjomihhpglojpaaGreatDoorSumLawDatabaseS3
import Derived.Laws.IdiomStrings
import Derived.Laws.Cover3
import Derived.Laws.Concat
import Derived.Test.YtjomihhpglojpaaGreatDoorSumLawDatabaseS10
set_option linter.unusedSimpArgs false
set_option linter.unusedVariables false
section
/- A region that draws its order: reads, a chain, and one operation more that may come at any time (a variable that is made). -/
namespace Go.Proofs.YtjomihhpglojpaaGreatDoor
open Go.RowKit
section
variable {P : Program} {md : Region.Mode} {Q : Exit → Act → World → Prop} {S : World → Prop}
def toX (is : List (Nat × Nat)) : List (Nat × Bool) := is.map fun i => (i.1, i.2 == 0)
/-- 'al' has not come yet. A read: 0. The chain's next: 1; 2: it waits for 'al'. -/
def wpMixA (P : Program) (ops : Array Oper) (Q : Exit → Act → World → Prop) (S : World → Prop) (al : Oper) (l : List Oper) : List (Nat × Nat) → Act → World → Prop
  | [], a, w => wpList P ops (fun e a' w' => e = .normal ∧ S w' ∧ Q .normal a' w') [al] a w
  | (i, 0) :: is, a, w => ∀ o, l[i]? = some o → ∃ v, YieldsIf P ops S o v a ∧ wpMixA P ops Q S al l is (a.put o.dst v) w
  | (t, 1) :: is, a, w => (∀ o, l[t]? = some o → wpList P ops (fun e a' w' => e = .normal ∧ S w' ∧ wpMixA P ops Q S al l is a' w') [o] a w) ∧
      wpList P ops (fun e a' w' => e = .normal ∧ S w' ∧ wpMix P ops Q S (pickX l (toX ((t, 1) :: is))) a' w') [al] a w
  | (t, k + 2) :: is, a, w => wpList P ops (fun e a' w' => e = .normal ∧ S w' ∧ wpMix P ops Q S (pickX l (toX ((t, k + 2) :: is))) a' w') [al] a w
def mixA (md : Region.Mode) (ops : Array Oper) (al : Nat) : List (Nat × Nat) → Array Bool → Bool
  | [], listed => decide (Region.ready md ops listed = [al]) && mixL md ops [] (listed.setIfInBounds al true)
  | (i, 0) :: is, listed => (Region.ready md ops listed).contains i && Region.free md ops listed i && mixA md ops al is (listed.setIfInBounds i true)
  | (t, 1) :: is, listed => (decide (Region.ready md ops listed = [t, al]) || decide (Region.ready md ops listed = [al, t])) && mixA md ops al is (listed.setIfInBounds t true) && mixL md ops (toX ((t, 1) :: is)) (listed.setIfInBounds al true)
  | (t, k + 2) :: is, listed => decide (Region.ready md ops listed = [al]) && mixL md ops (toX ((t, k + 2) :: is)) (listed.setIfInBounds al true)
def mixAB (md : Region.Mode) (ops : Array Oper) (al : Nat) (is : List (Nat × Nat)) : Bool :=
  Region.noSelect ops && decide (is.length + 1 = ops.size) && mixA md ops al is (Array.replicate ops.size false)
theorem op_of_list {l : List Oper} {i : Nat} {o : Oper} {R : Act → World → Prop} {a : Act} {w : World} (ho : l.toArray[i]? = some o) (h : wpList P l.toArray (fun e a' w' => e = .normal ∧ S w' ∧ R a' w') [o] a w) :
    wpOp P l.toArray (fun e a w => e = .normal ∧ Q .normal a w) i (fun a' w' => S w' ∧ R a' w') a w := by
  simp only [wpList] at h
  unfold wpOp
  simp only [ho]
  split
  · rename_i hw
    rw [if_pos hw] at h
    rcases h with h | ⟨_, x, y, h, _⟩
    · refine .inl (oper_wp_monoQ (Q' := fun e a' w' => e = .normal ∧ S w' ∧ R a' w') (fun e a' w' hn h' => absurd h'.1 hn) (Oper.wp_mono ?_ h))
      rintro a' w' ⟨_, h1, h2⟩
      exact ⟨h1, h2⟩
    · cases h
  · rename_i hw
    rw [if_neg hw] at h
    exact h.2
theorem toX_len (is : List (Nat × Nat)) : (toX is).length = is.length := by simp [toX]
theorem wpAnyH_mixA {l : List Oper} (Q : Exit → Act → World → Prop) (al : Nat) (hs : Region.noSelect l.toArray = true) : ∀ (is : List (Nat × Nat)) (listed : Array Bool) (a : Act) (w : World), mixA md l.toArray al is listed = true → S w →
    (∀ ao, l[al]? = some ao → wpMixA P l.toArray Q S ao l is a w) → wpAnyH P md l.toArray (fun e a w => e = .normal ∧ Q .normal a w) S (is.length + 1) listed a w
  | [], listed, a, w, hB, hS, h => by
    simp only [mixA, Bool.and_eq_true, decide_eq_true_eq] at hB
    refine ⟨fun h1 => (by rw [hB.1] at h1; cases h1), fun i hi => ?_⟩
    obtain ⟨o, ho⟩ := mem_ready_lt hi
    rw [hB.1] at hi
    obtain rfl : i = al := by simpa using hi
    have h2 := h o (by simpa using ho)
    refine wpOp_mono ?_ (op_of_list (R := fun a' w' => Q .normal a' w') ho h2)
    rintro a' w' ⟨h3, h4⟩
    exact ⟨h3, wpAnyH_mix Q hs [] _ a' w' hB.2 h3 (by simpa [pickX, wpMix] using h4)⟩
  | (i, 0) :: is, listed, a, w, hB, hS, h => by
    simp only [mixA, Bool.and_eq_true] at hB
    obtain ⟨⟨hr, hf⟩, hB'⟩ := hB
    obtain ⟨o, ho⟩ := mem_ready_lt (by simpa using hr : i ∈ Region.ready md l.toArray listed)
    cases hal : l[al]? with
    | none => exact wpAnyH_take ho hs hf hr (fun c a w h => by cases h.1) (v := undef) (by
        exfalso
        have : ∀ (is : List (Nat × Nat)) (listed : Array Bool), mixA md l.toArray al is listed = true → (l[al]?).isSome = true := by
          intro is
          induction is with
          | nil =>
            intro listed h
            simp only [mixA, Bool.and_eq_true, decide_eq_true_eq] at h
            obtain ⟨o, ho⟩ := mem_ready_lt (md := md) (ops := l.toArray) (listed := listed) (j := al) (by rw [h.1]; simp)
            simp at ho; simp [ho]
          | cons x is ih =>
            intro listed h
            obtain ⟨t, k⟩ := x
            match k, h with
            | 0, h =>
              simp only [mixA, Bool.and_eq_true] at h
              exact ih _ h.2
            | 1, h =>
              simp only [mixA, Bool.and_eq_true] at h
              exact ih _ h.1.2
            | k + 2, h =>
              simp only [mixA, Bool.and_eq_true, decide_eq_true_eq] at h
              obtain ⟨o, ho⟩ := mem_ready_lt (md := md) (ops := l.toArray) (listed := listed) (j := al) (by rw [h.1]; simp)
              simp at ho; simp [ho]
        have := this is _ hB'
        rw [hal] at this
        cases this) hS (by
        exact wpAnyH_mixA Q al hs is _ _ w hB' hS (fun ao h1 => by rw [hal] at h1; cases h1))
    | some ao =>
      obtain ⟨v, hy, hk⟩ := h ao hal o (by simpa using ho)
      exact wpAnyH_take ho hs hf hr (fun c a w h => by cases h.1) hy hS (wpAnyH_mixA Q al hs is _ _ w hB' hS (fun ao' h1 => by rw [hal] at h1; cases h1; exact hk))
  | (t, 1) :: is, listed, a, w, hB, hS, h => by
    simp only [mixA, Bool.and_eq_true, Bool.or_eq_true, decide_eq_true_eq] at hB
    obtain ⟨⟨hr, hB1⟩, hB2⟩ := hB
    have hmem : ∀ i, i ∈ Region.ready md l.toArray listed → i = t ∨ i = al := fun i hi => by
      rcases hr with e | e <;> rw [e] at hi <;> simp at hi <;> omega
    have hin : al ∈ Region.ready md l.toArray listed := by rcases hr with e | e <;> rw [e] <;> simp
    obtain ⟨ao, hao⟩ := mem_ready_lt hin
    have hh := h ao (by simpa using hao)
    refine ⟨fun h1 => (by rcases hr with e | e <;> (rw [e] at h1; cases h1)), fun i hi => ?_⟩
    obtain ⟨o, ho⟩ := mem_ready_lt hi
    by_cases e : i = t
    · subst e
      refine wpOp_mono ?_ (op_of_list (R := fun a' w' => wpMixA P l.toArray Q S ao l is a' w') ho (hh.1 o (by simpa using ho)))
      rintro a' w' ⟨h3, h4⟩
      exact ⟨h3, wpAnyH_mixA Q al hs is _ a' w' hB1 h3 (fun ao' h1 => by have h2 : l[al]? = some ao := by simpa using hao
                                                                         rw [h2] at h1; cases h1; exact h4)⟩
    · obtain rfl : i = al := by rcases hmem i hi with h1 | h1 <;> first | exact absurd h1 e | exact h1
      obtain rfl : ao = o := by rw [ho] at hao; exact (Option.some.inj hao).symm
      refine wpOp_mono ?_ (op_of_list (R := fun a' w' => wpMix P l.toArray Q S (pickX l (toX ((t, 1) :: is))) a' w') ho hh.2)
      rintro a' w' ⟨h3, h4⟩
      have h5 := wpAnyH_mix (md := md) Q hs (toX ((t, 1) :: is)) _ a' w' hB2 h3 h4
      rw [toX_len] at h5
      exact ⟨h3, h5⟩
  | (t, k + 2) :: is, listed, a, w, hB, hS, h => by
    simp only [mixA, Bool.and_eq_true, decide_eq_true_eq] at hB
    refine ⟨fun h1 => (by rw [hB.1] at h1; cases h1), fun i hi => ?_⟩
    obtain ⟨o, ho⟩ := mem_ready_lt hi
    rw [hB.1] at hi
    obtain rfl : i = al := by simpa using hi
    have hh := h o (by simpa using ho)
    refine wpOp_mono ?_ (op_of_list (R := fun a' w' => wpMix P l.toArray Q S (pickX l (toX ((t, k + 2) :: is))) a' w') ho hh)
    rintro a' w' ⟨h3, h4⟩
    have h5 := wpAnyH_mix (md := md) Q hs (toX ((t, k + 2) :: is)) _ a' w' hB.2 h3 h4
    rw [toX_len] at h5
    exact ⟨h3, h5⟩
theorem c_region_mixA (S : World → Prop) (al : Nat) (is : List (Nat × Nat)) (id : Nat) {l' : List Oper} {a : Act} {w : World} (hm : P.follows .mixedOrders = true) (hB : mixAB .any l'.toArray al is = true) (hS : S (w.drewN 1))
    (h : ∀ ao, l'[al]? = some ao → wpMixA P l'.toArray Q S ao l' is a (w.drewN 1)) : (Code.region id l'.toArray true).wp P Q a w := by
  simp only [mixAB, Bool.and_eq_true, decide_eq_true_eq] at hB
  obtain ⟨⟨h1, h2⟩, h3⟩ := hB
  have := wpAnyH_mixA (md := .any) (S := S) Q al h1 is _ a _ h3 hS h
  rw [h2] at this
  refine wp_region_any hm (wpAny_monoQ ?_ _ _ _ _ (wpAny_of_held _ _ _ _ this))
  rintro e a w ⟨rfl, h⟩
  exact h
end
end Go.Proofs.YtjomihhpglojpaaGreatDoor
end
section
/- A place in the text where all ways meet; a slice against nil; a slice from some place on. Plain lemmas over any program. -/
namespace Go.Proofs.YtjomihhpglojpaaGreatDoor
open Go.RowKit
section
variable {P : Program} {ops : Array Oper} {Q : Exit → Act → World → Prop} {rest : List Oper} {a : Act} {w : World} {N : Nat} {l : List (Nat × Value)}
/-- All ways through x come to I. -/
theorem c_cut {x y : Code} (I : Act → World → Prop) (h1 : x.wp P (Exit.then (fun a' w' => I a' w') Q) a w) (h2 : ∀ a' w', I a' w' → y.wp P Q a' w') : (Code.seq x y).wp P Q a w :=
  wp_seq (wp_mono h1 fun e a' w' h => by cases e <;> first | exact h2 _ _ h | exact h)
/-- .. x the text that begins with region id. -/
theorem c_cutR (id : Nat) {ops : Array Oper} {b : Bool} {c y : Code} (I : Act → World → Prop) (h1 : (Code.seq (Code.region id ops b) c).wp P (Exit.then (fun a' w' => I a' w') Q) a w) (h2 : ∀ a' w', I a' w' → y.wp P Q a' w') : (Code.seq (Code.seq (Code.region id ops b) c) y).wp P Q a w := c_cut I h1 h2
/-- .. x the block id. -/
theorem c_cutB (id : Nat) {c y : Code} (I : Act → World → Prop) (h1 : (Code.block id c).wp P (Exit.then (fun a' w' => I a' w') Q) a w) (h2 : ∀ a' w', I a' w' → y.wp P Q a' w') : (Code.seq (Code.block id c) y).wp P Q a w := c_cut I h1 h2
/-- A goal that the walk leaves alone. -/
structure Hold (p : Prop) : Prop where
  out : p
theorem c_cutH (id : Nat) {ops : Array Oper} {b : Bool} {y : Code} (I : Act → World → Prop) (h1 : Hold ((Code.region id ops b).wp P (Exit.then (fun a' w' => I a' w') Q) a w)) (h2 : ∀ a' w', I a' w' → y.wp P Q a' w') : (Code.seq (Code.region id ops b) y).wp P Q a w := c_cut I h1.out h2
theorem d_neSl {x : Operand} {ao : Option Addr} {n c : Nat} {t t' e ty : TypeId} (hU : P.underlying t = some (.slice e)) (hx : Ev l x (.slice ao n c) := by exact rfl) : Does P l w (.binOp .neq t x (.const (.slice none 0 0)) t') ty (.bool (!ao.isNone)) w := by
  intro ρ hρ d pos af g
  have e1 : ρ (.const (.slice none 0 0)) = .slice none 0 0 := hρ _ _ rfl
  have h : (Op.equal t (.slice ao n c) (.slice none 0 0)).run P w = .ok ao.isNone w := run_equal_slice_nil w t e ao n c hU
  have e2 : (eqGuard .neq t x (.const (.slice none 0 0)) (.slice ao n c) (.slice none 0 0)).run P w = .ok () w := rfl
  simp only [execOp, hρ _ _ hx, e1, Sem.run_bind, e2, Result.andThen_ok]
  show ((do pure (Value.bool (!(← Op.equal t (.slice ao n c) (.slice none 0 0)))) : Sem Value).run P w).andThen _ = _
  rw [Sem.run_bind, h]; rfl
/-- Two texts, one behind the other. -/
theorem d_addS {x y : Operand} {s u : ByteArray} {t t' ty : TypeId} (hx : Ev l x (.string s) := by exact rfl) (hy : Ev l y (.string u) := by exact rfl) (h : s.size + u.size ≤ 9223372036854775807) : Does P l w (.binOp .add t x y t') ty (.string (s ++ u)) w := by
  intro ρ hρ d pos af g
  have e2 : (eqGuard .add t x y (.string s) (.string u)).run P w = .ok () w := rfl
  have e3 : (binOp .add t (.string s) (.string u)).run P w = .ok (.string (s ++ u)) w := run_string_add_sum w s u h
  simp only [execOp, hρ _ _ hx, hρ _ _ hy, Sem.run_bind, e2, Result.andThen_ok, e3]
  rfl
theorem d_sliceR {x lo : Operand} {g n c j : Nat} {k'' : IntKind} {q'' : Int} {t e ty : TypeId} (hU : P.underlying t = some (.slice e)) (hs : (P.info? e).map (·.size) = some 1)
    (hx : Ev l x (.slice (some ⟨g, 0, none⟩) n c) := by exact rfl) (hl : Ev l lo (.int k'' q'') := by exact rfl) (hq'' : q'' = (j : Int) := by exact rfl) (hj : j ≤ n := by omega) (hc : j < c := by omega) :
    Does P l w (.slice t x (some lo) none none) ty (.slice (some ⟨g, j, none⟩) (n - j) (c - j)) w := by
  have h := d_sliceL (P := P) (w := w) (ty := ty) hU hs hx hl hq'' hj
  rw [if_neg (by omega)] at h
  simpa [addr_add] using h
end
theorem row_set (l : List Value) (m : Nat) (z v : Value) (h : 0 < m) : (l ++ List.replicate m z).set l.length v = (l ++ [v]) ++ List.replicate (m - 1) z := by
  obtain ⟨k, rfl⟩ : ∃ k, m = k + 1 := ⟨m - 1, by omega⟩
  rw [List.replicate_succ, List.set_append_right _ _ (Nat.le_refl _)]
  simp
theorem row_put (l cs : List Value) (m : Nat) (z : Value) : (l ++ List.replicate m z).take l.length ++ (cs ++ (l ++ List.replicate m z).drop (l.length + cs.length)) = (l ++ cs) ++ List.replicate (m - cs.length) z := by
  rw [List.take_left, List.drop_append]
  simp
end Go.Proofs.YtjomihhpglojpaaGreatDoor
end
section
/- The reference's fractions: Of, opposite, sum, Cmp, Above: walked. -/
namespace Go.Proofs.YtjomihhpglojpaaGreatDoor
open Go.RowKit
set_option linter.unusedSimpArgs false
set_option linter.unusedVariables false
attribute [local irreducible] wpList wpQuiet wpStill Code.wp Exit.then Exit.inBlock bodyPost Calls Does Does0
open Nn
def fracC (b : Bool) (nv dv : Value) : Array Value := #[.bool b, nv, dv]
theorem natV_one {B0 : Nat} {w : World} {v : Value} {x : Nat} (h : NatV B0 w v x) : v.oneCell' = true := by
  obtain ⟨_, _, _, rfl, _⟩ := h; rfl
theorem frac_one {B1 B2 : Nat} {w : World} {b : Bool} {nv dv : Value} {x y : Nat} (h1 : NatV B1 w nv x) (h2 : NatV B2 w dv y) : ∀ v ∈ fracC b nv dv, v.oneCell' = true := by
  intro v hv
  simp [fracC] at hv
  rcases hv with rfl | rfl | rfl
  · rfl
  · exact natV_one h1
  · exact natV_one h2
theorem fracInf : (Tryz.prog.info? 187).map (fun i => (i.zero, i.size, i.bytes)) = some (some (.agg (fracC false (.slice none 0 0) (.slice none 0 0))), 3, 56) := by kernel_rfl
set_option maxHeartbeats 2000000 in
theorem of_ok (w : World) (n d : Int) (hn : -9223372036854775808 ≤ n ∧ n ≤ 9223372036854775807) (hd : -9223372036854775808 ≤ d ∧ d ≤ 9223372036854775807) :
    Ret Tryz.prog 107 [.agg #[.int .i64 n, .int .i64 d]].toArray w (fun v w' => (∃ nv dv, v = .agg (fracC (decide (n < 0)) nv dv) ∧ NatV w.heap.size w' nv n.natAbs ∧ NatV w.heap.size w' dv d.natAbs) ∧ Below w.heap.size w w') := by
  refine enter1 Tryz.func107 rfl 14 rfl 15 rfl (fun a hF => ?_)
  repeat (first | refine c_seq ?_ | refine c_region _ ?_)
  refine st_box hF (cs := #[.int .i64 n, .int .i64 d]) rfl (k := fun a w1 hg1 hgr1 hsz1 hF => ?_)
  refine st_alloc hF fracInf (k := fun a w2 hf2 hgr2 hsz2 hF => ?_)
  have hg2 := blk_kept hg1 hgr2 (by simp)
  have hb2 : Below w.heap.size w w2 := ((Below.refl _ w).grown hgr1 (Nat.le_refl _) (fun k hk => by cases hk)).grown hgr2 (by omega) (fun k hk => by cases hk)
  have c0 : ∀ wq : World, (wq.heap[w.heap.size]? = some (.cells #[.int .i64 n, .int .i64 d] 60 (0, 0)) ∧ w2.heap.size ≤ wq.heap.size) → wq.cell? ⟨w.heap.size, 0 + 0, none⟩ = some (.int .i64 n) := fun wq h => cell_at h.1 rfl
  have c1 : ∀ wq : World, (wq.heap[w.heap.size]? = some (.cells #[.int .i64 n, .int .i64 d] 60 (0, 0)) ∧ w2.heap.size ≤ wq.heap.size) → wq.cell? ⟨w.heap.size, 0 + 1, none⟩ = some (.int .i64 d) := fun wq h => cell_at h.1 rfl
  have hmul : (0 : Nat) = 0 := rfl
  repeat (first | (refine c_region_mix (fun wq => wq.heap[w.heap.size]? = some (.cells #[.int .i64 n, .int .i64 d] 60 (0, 0)) ∧ w2.heap.size ≤ wq.heap.size) [(0, true), (1, true), (2, true), (3, true), (4, true), (7, true), (8, true), (5, false), (6, false), (9, false), (10, false), (11, true), (12, false)] 1 mixed (by kernel_rfl) ⟨hg2, Nat.le_refl _⟩ ?_; simp only [pickX, List.filterMap_cons, List.getElem?_cons_zero, List.getElem?_cons_succ, List.filterMap_nil, Option.map_some]) | refine c_seq ?_ | refine wpList_nil ?_ | refine c_then ?_)
  have hgD : (w2.drewN 1).heap[w.heap.size]? = some (.cells #[.int .i64 n, .int .i64 d] 60 (0, 0)) := hg2
  have hfD : (w2.drewN 1).heap[w1.heap.size]? = some (.cells (fracC false (.slice none 0 0) (.slice none 0 0)) 187 (0, 0)) := hf2
  have hdb : Below w.heap.size w (w2.drewN 1) := below_more hb2 1
  have hzD : (w2.drewN 1).heap.size = w.heap.size + 2 := by show w2.heap.size = _; omega
  have hz2 : w2.heap.size = w.heap.size + 2 := by omega
  generalize w2.drewN 1 = w3 at *
  repeat (((apply x_step hF); intro wq hwq; (first | exact d_cmp | exact d_fieldAddr (fld _ _ _ _ rfl) (isz _ _ rfl) | exact d_load (und _ _ rfl) (c0 wq hwq) | exact d_load (und _ _ rfl) (c1 wq hwq)); clear hF; clear a; intro a hF))
  refine x_one ?_
  refine stc hF (rsize_ok _ n hn) cal81 ⟨rfl, trivial⟩ (k := fun a v w4 hR hF => ?_)
  obtain ⟨rfl, rfl⟩ := hR
  refine wpList_nil ⟨rfl, ⟨hgD, by omega⟩, x_one ?_⟩
  refine stc hF (from_ok _ n.natAbs (by omega)) cal80 ⟨rfl, trivial⟩ (k := fun a v1 w5 hR hF => ?_)
  obtain ⟨hN1, hb5⟩ := hR
  have z5 := hb5.size
  have hg5 := (hb5.block _ (by omega)).trans hgD
  have hf5 := (hb5.block _ (by omega)).trans hfD
  refine wpList_nil ⟨rfl, ⟨hg5, by omega⟩, x_one ?_⟩
  refine stc hF (rsize_ok _ d hd) cal81 ⟨rfl, trivial⟩ (k := fun a v w6 hR hF => ?_)
  obtain ⟨rfl, rfl⟩ := hR
  refine wpList_nil ⟨rfl, ⟨hg5, by omega⟩, x_one ?_⟩
  refine stc hF (from_ok _ d.natAbs (by omega)) cal80 ⟨rfl, trivial⟩ (k := fun a v2 w7 hR hF => ?_)
  obtain ⟨hN2, hb7⟩ := hR
  have z7 := hb7.size
  have hg7 := (hb7.block _ (by omega)).trans hg5
  have hf7 := (hb7.block _ (by omega)).trans hf5
  refine wpList_nil ⟨rfl, ⟨hg7, by omega⟩, ?_⟩
  obtain ⟨p1, k1, l1, rfl, _⟩ := nat_pos hN1
  obtain ⟨p2, k2, l2, rfl, _⟩ := nat_pos hN2
  repeat (((apply x_step hF); intro wq hwq; (exact d_build (vs := [(0, .bool (decide (n < 0))), (1, .slice p1 l1 k1), (2, .slice p2 l2 k2)]) (cells := fracC (decide (n < 0)) (.slice p1 l1 k1) (.slice p2 l2 k2)) (by kernel_rfl) ⟨rfl, rfl, rfl, rfl, rfl, rfl, trivial⟩); clear hF; clear a; intro a hF))
  refine x_one ?_
  have hN1' := hN1.below hb7
  refine st_storeAgg hF (cs := fracC (decide (n < 0)) (.slice p1 l1 k1) (.slice p2 l2 k2)) (isz _ _ rfl) rfl rfl hf7 (frac_one hN1' hN2) (k := fun a w8 hf8 hgr8 hsz8 hF => ?_)
  have hg8 := blk_kept hg7 hgr8 (by simp; omega)
  refine wpList_nil ⟨rfl, ⟨hg8, by omega⟩, x_nil ?_⟩
  repeat (first | refine c_then ?_ | refine wp_ret ?_)
  have hM1 := ((hN1'.mono (B' := w.heap.size + 2) (by omega)).kept hgr8 (by omega)).mono (B' := w.heap.size) (by omega)
  have hM2 := ((hN2.mono (B' := w.heap.size + 2) (by omega)).kept hgr8 (by omega)).mono (B' := w.heap.size) (by omega)
  exact ret_c hF rfl (agg _ rfl) (isz _ _ rfl) hf8 rfl ⟨⟨_, _, rfl, hM1, hM2⟩, ((hdb.trans (hb5.mono (by omega))).trans (hb7.mono (by omega))).grown hgr8 (by omega) (fun q e => by cases e; omega)⟩
set_option maxHeartbeats 2000000 in
theorem opp_ok (w : World) (B1 B2 : Nat) (b : Bool) (nv dv : Value) (x y : Nat) (h1 : NatV B1 w nv x) (h2 : NatV B2 w dv y) :
    Ret Tryz.prog 108 [.agg (fracC b nv dv)].toArray w (fun v w' => v = .agg (fracC (!b) nv dv) ∧ Below w.heap.size w w') := by
  obtain ⟨p1, k1, l1, rfl, _⟩ := nat_pos h1
  obtain ⟨p2, k2, l2, rfl, _⟩ := nat_pos h2
  refine enter1 Tryz.func108 rfl 10 rfl 11 rfl (fun a hF => ?_)
  repeat (first | refine c_seq ?_ | refine c_region _ ?_)
  refine st_box hF (cs := fracC b (.slice p1 l1 k1) (.slice p2 l2 k2)) rfl (k := fun a w1 hg1 hgr1 hsz1 hF => ?_)
  refine st_alloc hF fracInf (k := fun a w2 hf2 hgr2 hsz2 hF => ?_)
  have hg2 := blk_kept hg1 hgr2 (by simp)
  have c0 : w2.cell? ⟨w.heap.size, 0 + 0, none⟩ = some (.bool b) := cell_at hg2 rfl
  have c1 : w2.cell? ⟨w.heap.size, 0 + 1, none⟩ = some (.slice p1 l1 k1) := cell_at hg2 rfl
  have c2 : w2.cell? ⟨w.heap.size, 0 + 2, none⟩ = some (.slice p2 l2 k2) := cell_at hg2 rfl
  have hb2 : Below w.heap.size w w2 := ((Below.refl _ w).grown hgr1 (Nat.le_refl _) (fun k hk => by cases hk)).grown hgr2 (by omega) (fun k hk => by cases hk)
  repeat (first | refine c_seq ?_ | refine c_region _ ?_ | refine wpList_nil ?_ | refine c_then ?_ | ((apply st hF); (first | exact d_not | exact d_fieldAddr (fld _ _ _ _ rfl) (isz _ _ rfl) | exact d_build (vs := [(0, .bool (!b)), (1, .slice p1 l1 k1), (2, .slice p2 l2 k2)]) (cells := fracC (!b) (.slice p1 l1 k1) (.slice p2 l2 k2)) (by kernel_rfl) ⟨rfl, rfl, rfl, rfl, rfl, rfl, trivial⟩ | exact d_load (und _ _ rfl) c0 | exact d_load (und _ _ rfl) c1 | exact d_load (und _ _ rfl) c2); clear hF; clear a; intro a hF))
  refine st_storeAgg hF (cs := fracC (!b) (.slice p1 l1 k1) (.slice p2 l2 k2)) (isz _ _ rfl) rfl rfl hf2 (frac_one h1 h2) (k := fun a w8 hf8 hgr8 hsz8 hF => ?_)
  repeat (first | refine wpList_nil ?_ | refine c_then ?_ | refine wp_ret ?_)
  exact ret_c hF rfl (agg _ rfl) (isz _ _ rfl) hf8 rfl ⟨rfl, hb2.grown hgr8 (by omega) (fun q e => by cases e; omega)⟩
end Go.Proofs.YtjomihhpglojpaaGreatDoor
end
section
/- The reference's fractions: sum, Cmp, Above: walked. -/
namespace Go.Proofs.YtjomihhpglojpaaGreatDoor
open Go.RowKit
section
variable {P : Program} {ops : Array Oper} {Q : Exit → Act → World → Prop} {S : World → Prop} {al : Oper} {L : List Oper} {is : List (Nat × Nat)} {N : Nat} {l : List (Nat × Value)} {a : Act} {w : World}
theorem a_step (h : Fr N l a) {i d : Nat} {op : Op} {ty : TypeId} {pos : String} {af : Array Edge} {v : Value} (ho : L[i]? = some ⟨some d, op, ty, pos, af, none⟩) (hr : ∀ w, S w → Does P l w op ty v w) (hd : Nat.blt d N = true := by exact rfl)
    (k : ∀ a', Fr N ((d, v) :: l) a' → wpMixA P ops Q S al L is a' w) : wpMixA P ops Q S al L ((i, 0) :: is) a w := fun o ho' => by
  rw [ho] at ho'
  cases ho'
  exact ⟨v, .inl ⟨by simp [Region.wanted], fun w hw => hr w hw a.eval h.eval _ _ _ _⟩, k _ (h.put hd v)⟩
theorem a_two {t : Nat} {o : Oper} (ho : L[t]? = some o) (h1 : wpList P ops (fun e a' w' => e = .normal ∧ S w' ∧ wpMixA P ops Q S al L is a' w') [o] a w) (h2 : wpList P ops (fun e a' w' => e = .normal ∧ S w' ∧ wpMix P ops Q S (pickX L (toX ((t, 1) :: is))) a' w') [al] a w) : wpMixA P ops Q S al L ((t, 1) :: is) a w :=
  ⟨fun o' ho' => by rw [ho] at ho'; cases ho'; exact h1, h2⟩
theorem a_al {t k : Nat} (h2 : wpList P ops (fun e a' w' => e = .normal ∧ S w' ∧ wpMix P ops Q S (pickX L (toX ((t, k + 2) :: is))) a' w') [al] a w) : wpMixA P ops Q S al L ((t, k + 2) :: is) a w := h2
end
open Go.RowKit
set_option linter.unusedSimpArgs false
set_option linter.unusedVariables false
attribute [local irreducible] wpList wpQuiet wpStill Code.wp Exit.then Exit.inBlock bodyPost Calls Does Does0
open Nn
set_option maxHeartbeats 8000000 in
theorem sum_ok (w : World) (n1 n2 : Bool) (B1 B2 B3 B4 : Nat) (u1 e1 u2 e2 : Value) (N1 D1 N2 D2 : Nat) (h1 : NatV B1 w u1 N1) (h2 : NatV B2 w e1 D1) (h3 : NatV B3 w u2 N2) (h4 : NatV B4 w e2 D2) (b1 : N1 < B 3) (b2 : D1 < B 3) (b3 : N2 < B 3) (b4 : D2 < B 3) :
    Ret Tryz.prog 106 [.agg (fracC n1 u1 e1), .agg (fracC n2 u2 e2)].toArray w (fun v w' => (∃ rv dv, v = .agg (fracC (diffS n1 (N1 * D2) n2 (N2 * D1)) rv dv) ∧ NatV 0 w' rv (diffN n1 (N1 * D2) n2 (N2 * D1)) ∧ ∃ y, NatV 0 w' dv y) ∧ Below w.heap.size w w') := by
  have hB50 : ∀ z : Nat, z < B 3 → z < B 50 := fun z hz => Nat.lt_of_lt_of_le hz (B_le (by decide))
  have hmul : ∀ p q : Nat, p < B 3 → q < B 3 → p * q < B 6 := fun p q hp hq => by
    rw [show (6 : Nat) = 3 + 3 by rfl, B_add]
    exact Nat.mul_lt_mul'' hp hq
  have h6 : ∀ z : Nat, z < B 6 → z < B 100 := fun z hz => Nat.lt_of_lt_of_le hz (B_le (by decide))
  obtain ⟨pu1, ku1, lu1, rfl, _⟩ := nat_pos h1
  obtain ⟨pe1, ke1, le1, rfl, _⟩ := nat_pos h2
  obtain ⟨pu2, ku2, lu2, rfl, _⟩ := nat_pos h3
  obtain ⟨pe2, ke2, le2, rfl, _⟩ := nat_pos h4
  have hx6 := hmul N1 D2 b1 b4
  have hy6 := hmul N2 D1 b3 b2
  refine enter2 Tryz.func106 rfl 51 rfl 53 rfl (fun a hF => ?_)
  repeat (first | refine c_seq ?_ | refine c_region _ ?_)
  refine st_box hF (cs := fracC n1 (.slice pu1 lu1 ku1) (.slice pe1 le1 ke1)) rfl (k := fun a w1 hg1 hgr1 hsz1 hF => ?_)
  refine st_box hF (cs := fracC n2 (.slice pu2 lu2 ku2) (.slice pe2 le2 ke2)) rfl (k := fun a w2 hg2 hgr2 hsz2 hF => ?_)
  refine st_alloc hF fracInf (k := fun a w3 hg3 hgr3 hsz3 hF => ?_)
  have hb3 : Below w.heap.size w w3 := (((Below.refl _ w).grown hgr1 (Nat.le_refl _) (fun k hk => by cases hk)).grown hgr2 (by omega) (fun k hk => by cases hk)).grown hgr3 (by omega) (fun k hk => by cases hk)
  replace hg1 := blk_kept (blk_kept hg1 hgr2 (by simp)) hgr3 (by simp)
  replace hg2 := blk_kept hg2 hgr3 (by simp)
  have hz3 : w3.heap.size = w.heap.size + 3 := by omega
  rw [show w1.heap.size = w.heap.size + 1 by omega] at hg2 hF
  rw [show w2.heap.size = w.heap.size + 2 by omega] at hg3 hF
  replace h1 := h1.below hb3
  replace h2 := h2.below hb3
  replace h3 := h3.below hb3
  replace h4 := h4.below hb3
  clear hgr1 hgr2 hgr3 hsz1 hsz2 hsz3
  have q1 : w3.cell? ⟨w.heap.size, 0 + 1, none⟩ = some (.slice pu1 lu1 ku1) := cell_at hg1 rfl
  have q2 : w3.cell? ⟨w.heap.size + 1, 0 + 2, none⟩ = some (.slice pe2 le2 ke2) := cell_at hg2 rfl
  repeat (first | refine c_seq ?_ | refine c_region _ ?_ | refine wpList_nil ?_ | refine c_then ?_ | ((apply st hF); (first | exact d_fieldAddr (fld _ _ _ _ rfl) (isz _ _ rfl) | exact d_load (und _ _ rfl) q1 | exact d_load (und _ _ rfl) q2); clear hF; clear a; intro a hF))
  refine stc hF (times_ok w3 _ _ _ _ N1 D2 h1 h4 (hB50 _ b1) (hB50 _ b4)) cal119 ⟨rfl, rfl, trivial⟩ (k := fun a vx w4 hR hF => ?_)
  obtain ⟨hX, hb4⟩ := hR
  have z4 := hb4.size
  replace hg1 := (hb4.block _ (by omega)).trans hg1
  replace hg2 := (hb4.block _ (by omega)).trans hg2
  replace hg3 := (hb4.block _ (by omega)).trans hg3
  have q3 : w4.cell? ⟨w.heap.size + 1, 0 + 1, none⟩ = some (.slice pu2 lu2 ku2) := cell_at hg2 rfl
  have q4 : w4.cell? ⟨w.heap.size, 0 + 2, none⟩ = some (.slice pe1 le1 ke1) := cell_at hg1 rfl
  repeat (first | refine c_seq ?_ | refine c_region _ ?_ | refine wpList_nil ?_ | refine c_then ?_ | ((apply st hF); (first | exact d_assign | exact d_fieldAddr (fld _ _ _ _ rfl) (isz _ _ rfl) | exact d_load (und _ _ rfl) q3 | exact d_load (und _ _ rfl) q4); clear hF; clear a; intro a hF))
  refine stc hF (times_ok w4 _ _ _ _ N2 D1 (h3.below hb4) (h2.below hb4) (hB50 _ b3) (hB50 _ b2)) cal119 ⟨rfl, rfl, trivial⟩ (k := fun a vy w5 hR hF => ?_)
  obtain ⟨hY, hb5⟩ := hR
  have z5 := hb5.size
  replace hg1 := (hb5.block _ (by omega)).trans hg1
  replace hg2 := (hb5.block _ (by omega)).trans hg2
  replace hg3 := (hb5.block _ (by omega)).trans hg3
  have q5 : w5.cell? ⟨w.heap.size, 0 + 2, none⟩ = some (.slice pe1 le1 ke1) := cell_at hg1 rfl
  have q6 : w5.cell? ⟨w.heap.size + 1, 0 + 2, none⟩ = some (.slice pe2 le2 ke2) := cell_at hg2 rfl
  repeat (first | refine c_seq ?_ | refine c_region _ ?_ | refine wpList_nil ?_ | refine c_then ?_ | ((apply st hF); (first | exact d_assign | exact d_fieldAddr (fld _ _ _ _ rfl) (isz _ _ rfl) | exact d_load (und _ _ rfl) q5 | exact d_load (und _ _ rfl) q6); clear hF; clear a; intro a hF))
  refine stc hF (times_ok w5 _ _ _ _ D1 D2 ((h2.below hb4).below hb5) ((h4.below hb4).below hb5) (hB50 _ b2) (hB50 _ b4)) cal119 ⟨rfl, rfl, trivial⟩ (k := fun a vd w6 hR hF => ?_)
  obtain ⟨hD, hb6⟩ := hR
  have z6 := hb6.size
  replace hg1 := (hb6.block _ (by omega)).trans hg1
  replace hg2 := (hb6.block _ (by omega)).trans hg2
  replace hg3 := (hb6.block _ (by omega)).trans hg3
  replace hX := ((hX.below hb5).below hb6).mono (B' := w.heap.size + 3) (by omega)
  replace hY := (hY.below hb6).mono (B' := w.heap.size + 3) (by omega)
  replace hD := hD.mono (B' := w.heap.size + 3) (by omega)
  have hbe : Below w.heap.size w w6 := ((hb3.trans (hb4.mono (by omega))).trans (hb5.mono (by omega))).trans (hb6.mono (by omega))
  have hz6 : w.heap.size + 3 ≤ w6.heap.size := by omega
  clear h1 h2 h3 h4 hb3 hb4 hb5 hb6 q1 q2 q3 q4 q5 q6 z4 z5 z6
  obtain ⟨pd, kd, ld, rfl, _⟩ := nat_pos hD
  have c1 : w6.cell? ⟨w.heap.size, 0 + 0, none⟩ = some (.bool n1) := cell_at hg1 rfl
  have c2 : w6.cell? ⟨w.heap.size + 1, 0 + 0, none⟩ = some (.bool n2) := cell_at hg2 rfl
  have fin : ∀ (a : Act) (l : List (Nat × Value)) (w8 : World) (s : Bool) (rv : Value) (x : Nat), Fr 53 l a → look l 4 = some (.pointer (some ⟨w.heap.size + 2, 0, none⟩)) → w8.heap[w.heap.size + 2]? = some (.cells (fracC s rv (.slice pd ld kd)) 187 (0, 0)) →
      s = diffS n1 (N1 * D2) n2 (N2 * D1) → x = diffN n1 (N1 * D2) n2 (N2 * D1) → NatV (w.heap.size + 3) w8 rv x → NatV (w.heap.size + 3) w8 (.slice pd ld kd) (D1 * D2) → Below w.heap.size w w8 →
      bodyPost Tryz.prog Tryz.f106 (fun e w' => ∃ v, e = .returned v ∧ ((∃ rv dv, v = .agg (fracC (diffS n1 (N1 * D2) n2 (N2 * D1)) rv dv) ∧ NatV 0 w' rv (diffN n1 (N1 * D2) n2 (N2 * D1)) ∧ ∃ y, NatV 0 w' dv y) ∧ Below w.heap.size w w')) .ret a w8 := by
    intro a l w8 s rv x hF hl hg es ex hr hd hb
    subst es; subst ex
    exact ret_c hF rfl (agg _ rfl) (isz _ _ rfl) hg hl ⟨⟨rv, _, rfl, hr.mono (Nat.zero_le _), _, hd.mono (Nat.zero_le _)⟩, hb⟩
  by_cases hn : n1 = n2
  · subst hn
    have es : n1 = diffS n1 (N1 * D2) n1 (N2 * D1) := by unfold diffS; rw [if_pos rfl]
    have ex : N1 * D2 + N2 * D1 = diffN n1 (N1 * D2) n1 (N2 * D1) := by unfold diffN; rw [if_pos rfl]
    repeat (first | (refine c_region_mix (fun wq => wq.heap[w.heap.size]? = some (.cells (fracC n1 (.slice pu1 lu1 ku1) (.slice pe1 le1 ke1)) 187 (0, 0))) [(0, true), (1, true), (2, true), (3, true), (5, true), (4, false), (6, true), (7, false)] 5 mixed (by kernel_rfl) hg1 ?_; simp only [pickX, List.filterMap_cons, List.getElem?_cons_zero, List.getElem?_cons_succ, List.filterMap_nil, Option.map_some]) | refine c_seq ?_ | refine c_region _ ?_ | refine wpList_nil ?_ | refine c_then ?_ | ((apply st hF); (first | exact d_assign | exact d_eqbT (und _ _ rfl) | exact d_fieldAddr (fld _ _ _ _ rfl) (isz _ _ rfl) | exact d_load (und _ _ rfl) c1 | exact d_load (und _ _ rfl) c2); clear hF; clear a; intro a hF) | (apply c_cond_t hF; exact rfl; first | exact rfl | assumption))
    repeat (((apply x_step hF); intro wq hwq; (first | exact d_move | exact d_fieldAddr (fld _ _ _ _ rfl) (isz _ _ rfl) | exact d_load (und _ _ rfl) ((show wq.cell? ⟨w.heap.size, 0 + 0, none⟩ = some (.bool n1) from cell_at hwq rfl))); clear hF; clear a; intro a hF))
    refine x_one ?_
    have hXd : NatV (w.heap.size + 3) (w6.drewN 1) vx (N1 * D2) := hX
    have hYd : NatV (w.heap.size + 3) (w6.drewN 1) vy (N2 * D1) := hY
    have hDd : NatV (w.heap.size + 3) (w6.drewN 1) (.slice pd ld kd) (D1 * D2) := hD
    have hbd : Below w.heap.size w (w6.drewN 1) := below_more hbe 1
    have hg1d : (w6.drewN 1).heap[w.heap.size]? = some (.cells (fracC n1 (.slice pu1 lu1 ku1) (.slice pe1 le1 ke1)) 187 (0, 0)) := hg1
    have hg3d : (w6.drewN 1).heap[w.heap.size + 2]? = some (.cells (fracC false (.slice none 0 0) (.slice none 0 0)) 187 (0, 0)) := hg3
    have hzd : w.heap.size + 3 ≤ (w6.drewN 1).heap.size := hz6
    generalize w6.drewN 1 = w7 at *
    refine stc hF (plus_ok w7 _ _ vx vy _ _ hXd hYd (h6 _ hx6) (h6 _ hy6)) cal116 ⟨rfl, rfl, trivial⟩ (k := fun a vr w8 hR hF => ?_)
    obtain ⟨hV, hb8⟩ := hR
    have z8 := hb8.size
    have hg18 := (hb8.block _ (by omega)).trans hg1d
    have hg38 := (hb8.block _ (by omega)).trans hg3d
    replace hV := hV.mono (B' := w.heap.size + 3) (by omega)
    have hD8 := hDd.below hb8
    obtain ⟨pr, kr, lr, rfl, _⟩ := nat_pos hV
    refine wpList_nil ⟨rfl, hg18, ?_⟩
    repeat (((apply x_step hF); intro wq hwq; (exact d_build (vs := [(0, .bool n1), (1, .slice pr lr kr), (2, .slice pd ld kd)]) (cells := fracC n1 (.slice pr lr kr) (.slice pd ld kd)) (by kernel_rfl) ⟨rfl, rfl, rfl, rfl, rfl, rfl, trivial⟩); clear hF; clear a; intro a hF))
    refine x_one ?_
    refine st_storeAgg hF (cs := fracC n1 (.slice pr lr kr) (.slice pd ld kd)) (isz _ _ rfl) rfl rfl hg38 (frac_one hV hD8) (k := fun a w9 hf9 hgr9 hsz9 hF => ?_)
    refine wpList_nil ⟨rfl, blk_kept hg18 hgr9 (by simp), x_nil ?_⟩
    repeat (first | refine c_then ?_ | refine c_then_ret ?_ | refine wp_ret ?_)
    exact fin _ _ _ _ _ _ hF rfl hf9 es ex (hV.kept hgr9 (by omega)) (hD8.kept hgr9 (by omega)) ((hbd.trans (hb8.mono (by omega))).grown hgr9 (by omega) (fun q e => by cases e; omega))
  · have hbf : (n1 == n2) = false := by simpa using hn
    repeat (first | refine c_seq ?_ | refine c_region _ ?_ | refine wpList_nil ?_ | refine c_then ?_ | refine wp_skip ?_ | ((apply st hF); (first | exact d_move | exact d_assign | exact d_eqbF (und _ _ rfl) | exact d_fieldAddr (fld _ _ _ _ rfl) (isz _ _ rfl) | exact d_load (und _ _ rfl) c1 | exact d_load (und _ _ rfl) c2); clear hF; clear a; intro a hF) | (apply c_cond_f hF; exact rfl; first | exact rfl | assumption))
    refine stc hF (held_ok w6 _ _ vx vy _ _ hX hY (h6 _ hx6) (h6 _ hy6)) cal117 ⟨rfl, rfl, trivial⟩ (k := fun a v w7 hR hF => ?_)
    obtain ⟨rfl, rfl⟩ := hR
    by_cases hge : N2 * D1 ≤ N1 * D2
    · obtain ⟨z, hz, hz0⟩ := heldI_ge hge
      rw [hz] at hF
      have es : n1 = diffS n1 (N1 * D2) n2 (N2 * D1) := by unfold diffS; rw [if_neg hn, if_pos hge]
      have ex : N1 * D2 - N2 * D1 = diffN n1 (N1 * D2) n2 (N2 * D1) := by unfold diffN; rw [if_neg hn, if_pos hge]
      repeat (first | (refine c_region_mix (fun wq => wq.heap[w.heap.size]? = some (.cells (fracC n1 (.slice pu1 lu1 ku1) (.slice pe1 le1 ke1)) 187 (0, 0))) [(0, true), (1, true), (2, true), (3, true), (5, true), (4, false), (6, true), (7, false)] 7 mixed (by kernel_rfl) hg1 ?_; simp only [pickX, List.filterMap_cons, List.getElem?_cons_zero, List.getElem?_cons_succ, List.filterMap_nil, Option.map_some]) | refine c_seq ?_ | refine wpList_nil ?_ | refine c_then ?_ | ((apply st hF); (exact d_cmpT); clear hF; clear a; intro a hF) | (apply c_cond_t hF; exact rfl; first | exact rfl | assumption))
      repeat (((apply x_step hF); intro wq hwq; (first | exact d_move | exact d_fieldAddr (fld _ _ _ _ rfl) (isz _ _ rfl) | exact d_load (und _ _ rfl) ((show wq.cell? ⟨w.heap.size, 0 + 0, none⟩ = some (.bool n1) from cell_at hwq rfl))); clear hF; clear a; intro a hF))
      refine x_one ?_
      have hXd : NatV (w.heap.size + 3) (w7.drewN 1) vx (N1 * D2) := hX
      have hYd : NatV (w.heap.size + 3) (w7.drewN 1) vy (N2 * D1) := hY
      have hDd : NatV (w.heap.size + 3) (w7.drewN 1) (.slice pd ld kd) (D1 * D2) := hD
      have hbd : Below w.heap.size w (w7.drewN 1) := below_more hbe 1
      have hg1d : (w7.drewN 1).heap[w.heap.size]? = some (.cells (fracC n1 (.slice pu1 lu1 ku1) (.slice pe1 le1 ke1)) 187 (0, 0)) := hg1
      have hg3d : (w7.drewN 1).heap[w.heap.size + 2]? = some (.cells (fracC false (.slice none 0 0) (.slice none 0 0)) 187 (0, 0)) := hg3
      have hzd : w.heap.size + 3 ≤ (w7.drewN 1).heap.size := hz6
      generalize w7.drewN 1 = w7 at *
      refine stc hF (less_ok w7 _ _ vx vy _ _ hXd hYd (h6 _ hx6) hge) cal118 ⟨rfl, rfl, trivial⟩ (k := fun a vr w8 hR hF => ?_)
      obtain ⟨hV, hb8⟩ := hR
      have z8 := hb8.size
      have hg18 := (hb8.block _ (by omega)).trans hg1d
      have hg38 := (hb8.block _ (by omega)).trans hg3d
      replace hV := hV.mono (B' := w.heap.size + 3) (by omega)
      have hD8 := hDd.below hb8
      obtain ⟨pr, kr, lr, rfl, _⟩ := nat_pos hV
      refine wpList_nil ⟨rfl, hg18, ?_⟩
      repeat (((apply x_step hF); intro wq hwq; (exact d_build (vs := [(0, .bool n1), (1, .slice pr lr kr), (2, .slice pd ld kd)]) (cells := fracC n1 (.slice pr lr kr) (.slice pd ld kd)) (by kernel_rfl) ⟨rfl, rfl, rfl, rfl, rfl, rfl, trivial⟩); clear hF; clear a; intro a hF))
      refine x_one ?_
      refine st_storeAgg hF (cs := fracC n1 (.slice pr lr kr) (.slice pd ld kd)) (isz _ _ rfl) rfl rfl hg38 (frac_one hV hD8) (k := fun a w9 hf9 hgr9 hsz9 hF => ?_)
      refine wpList_nil ⟨rfl, blk_kept hg18 hgr9 (by simp), x_nil ?_⟩
      repeat (first | refine c_then ?_ | refine c_then_ret ?_ | refine wp_ret ?_)
      exact fin _ _ _ _ _ _ hF rfl hf9 es ex (hV.kept hgr9 (by omega)) (hD8.kept hgr9 (by omega)) ((hbd.trans (hb8.mono (by omega))).grown hgr9 (by omega) (fun q e => by cases e; omega))
    · have hlt : N1 * D2 < N2 * D1 := by omega
      rw [heldI_lt hlt] at hF
      have es : n2 = diffS n1 (N1 * D2) n2 (N2 * D1) := by unfold diffS; rw [if_neg hn, if_neg hge]
      have ex : N2 * D1 - N1 * D2 = diffN n1 (N1 * D2) n2 (N2 * D1) := by unfold diffN; rw [if_neg hn, if_neg hge]
      repeat (first | (refine c_region_mix (fun wq => wq.heap[w.heap.size + 1]? = some (.cells (fracC n2 (.slice pu2 lu2 ku2) (.slice pe2 le2 ke2)) 187 (0, 0))) [(0, true), (1, true), (2, true), (3, true), (5, true), (4, false), (6, true), (7, false)] 8 mixed (by kernel_rfl) hg2 ?_; simp only [pickX, List.filterMap_cons, List.getElem?_cons_zero, List.getElem?_cons_succ, List.filterMap_nil, Option.map_some]) | refine c_seq ?_ | refine wpList_nil ?_ | refine c_then ?_ | refine wp_skip ?_ | ((apply st hF); (exact d_cmpF); clear hF; clear a; intro a hF) | (apply c_cond_f hF; exact rfl; first | exact rfl | assumption))
      repeat (((apply x_step hF); intro wq hwq; (first | exact d_move | exact d_fieldAddr (fld _ _ _ _ rfl) (isz _ _ rfl) | exact d_load (und _ _ rfl) ((show wq.cell? ⟨w.heap.size + 1, 0 + 0, none⟩ = some (.bool n2) from cell_at hwq rfl))); clear hF; clear a; intro a hF))
      refine x_one ?_
      have hXd : NatV (w.heap.size + 3) (w7.drewN 1) vx (N1 * D2) := hX
      have hYd : NatV (w.heap.size + 3) (w7.drewN 1) vy (N2 * D1) := hY
      have hDd : NatV (w.heap.size + 3) (w7.drewN 1) (.slice pd ld kd) (D1 * D2) := hD
      have hbd : Below w.heap.size w (w7.drewN 1) := below_more hbe 1
      have hg2d : (w7.drewN 1).heap[w.heap.size + 1]? = some (.cells (fracC n2 (.slice pu2 lu2 ku2) (.slice pe2 le2 ke2)) 187 (0, 0)) := hg2
      have hg3d : (w7.drewN 1).heap[w.heap.size + 2]? = some (.cells (fracC false (.slice none 0 0) (.slice none 0 0)) 187 (0, 0)) := hg3
      have hzd : w.heap.size + 3 ≤ (w7.drewN 1).heap.size := hz6
      generalize w7.drewN 1 = w7 at *
      refine stc hF (less_ok w7 _ _ vy vx _ _ hYd hXd (h6 _ hy6) (by omega)) cal118 ⟨rfl, rfl, trivial⟩ (k := fun a vr w8 hR hF => ?_)
      obtain ⟨hV, hb8⟩ := hR
      have z8 := hb8.size
      have hg28 := (hb8.block _ (by omega)).trans hg2d
      have hg38 := (hb8.block _ (by omega)).trans hg3d
      replace hV := hV.mono (B' := w.heap.size + 3) (by omega)
      have hD8 := hDd.below hb8
      obtain ⟨pr, kr, lr, rfl, _⟩ := nat_pos hV
      refine wpList_nil ⟨rfl, hg28, ?_⟩
      repeat (((apply x_step hF); intro wq hwq; (exact d_build (vs := [(0, .bool n2), (1, .slice pr lr kr), (2, .slice pd ld kd)]) (cells := fracC n2 (.slice pr lr kr) (.slice pd ld kd)) (by kernel_rfl) ⟨rfl, rfl, rfl, rfl, rfl, rfl, trivial⟩); clear hF; clear a; intro a hF))
      refine x_one ?_
      refine st_storeAgg hF (cs := fracC n2 (.slice pr lr kr) (.slice pd ld kd)) (isz _ _ rfl) rfl rfl hg38 (frac_one hV hD8) (k := fun a w9 hf9 hgr9 hsz9 hF => ?_)
      refine wpList_nil ⟨rfl, blk_kept hg28 hgr9 (by simp), x_nil ?_⟩
      repeat (first | refine c_then ?_ | refine wp_ret ?_)
      exact fin _ _ _ _ _ _ hF rfl hf9 es ex (hV.kept hgr9 (by omega)) (hD8.kept hgr9 (by omega)) ((hbd.trans (hb8.mono (by omega))).grown hgr9 (by omega) (fun q e => by cases e; omega))
end Go.Proofs.YtjomihhpglojpaaGreatDoor
end
