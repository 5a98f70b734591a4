/- Laid together by a program of mine: Pp Pl Bits RefB Arr Byt Bp. -/
import Derived.Test.YtjomihhpglojpaaDoorSumLawKnownCS3
import Derived.Ground.NamesProg
import Derived.Shelf.Lay
import Derived.Shelf.Slices.Reverse
import Derived.Sort.OwnSortedInts
import Derived.Test.YtjomihhpglojpaaDoorSumLawKnownCS2
import Derived.ChangeKeysEq
import Derived.Laws.StructEq
import Derived.Laws.ResultCell
import Derived.Laws.BitsLemmas
set_option linter.unusedSimpArgs false
set_option linter.unusedVariables false
section
/- The plain laws of places: bits of a signal; no program in sight. -/
namespace Go.Proofs.YtjomihhpglojpaaDoor.Pl

def nextB (mot : Bool) (b : Int) : Int := if mot = false then b + 1 else if b % 8 = 0 then b + 15 else b - 1
def seqB (mot : Bool) : Int → Nat → List Int
  | _, 0 => []
  | b, n + 1 => b :: seqB mot (nextB mot b) n
/-- The row that may be, or the error's number. -/
def bitsOfSig (start size : Int) (mot : Bool) : Except Int (List Int) :=
  if size < 1 ∨ 64 < size then .error 15
  else if start < 0 ∨ 63 < start then .error 16
  else if (seqB mot start size.toNat).all (· ≤ 63) then .ok (if mot then (seqB mot start size.toNat).reverse else seqB mot start size.toNat)
  else .error 16
theorem seqB_len (mot : Bool) : ∀ n b, (seqB mot b n).length = n
  | 0, _ => rfl
  | n + 1, b => by simp [seqB, seqB_len mot n]

/-- A bit in a mirror, byte by byte. -/
def mir (b : Int) : Int := 8 * (b / 8) + 7 - b % 8
def pos (mot : Bool) (b : Int) : Int := if mot then mir b else b
theorem mir_mir (b : Int) : mir (mir b) = b := by unfold mir; omega
theorem pos_pos (mot : Bool) (b : Int) : pos mot (pos mot b) = b := by unfold pos; cases mot <;> simp [mir_mir]
theorem pos_next (mot : Bool) (b : Int) : pos mot (nextB mot b) = pos mot b + 1 := by
  unfold pos nextB mir
  cases mot
  · simp
  · simp; split <;> omega
theorem pos_ge (mot : Bool) (b : Int) : 0 ≤ pos mot b ↔ 0 ≤ b := by unfold pos mir; cases mot <;> simp; omega
theorem seqB_get (mot : Bool) : ∀ n b i (h : i < (seqB mot b n).length), (seqB mot b n)[i] = pos mot (pos mot b + i)
  | 0, _, _, h => by simp [seqB] at h
  | n + 1, b, 0, _ => by simp [seqB, pos_pos]
  | n + 1, b, i + 1, h => by
    have h' : i < (seqB mot (nextB mot b) n).length := by simpa [seqB] using h
    have := seqB_get mot n (nextB mot b) i h'
    simp only [seqB, List.getElem_cons_succ, this, pos_next]
    congr 1
    push_cast
    omega
theorem seqB_mem {mot : Bool} {n : Nat} {b x : Int} (h : x ∈ seqB mot b n) : ∃ i, i < n ∧ x = pos mot (pos mot b + i) := by
  obtain ⟨i, hi, rfl⟩ := List.getElem_of_mem h
  exact ⟨i, by rw [seqB_len] at hi; exact hi, seqB_get mot n b i hi⟩
theorem seqB_mem_of {mot : Bool} {n : Nat} {b : Int} {i : Nat} (h : i < n) : pos mot (pos mot b + i) ∈ seqB mot b n := by
  rw [← seqB_get mot n b i (by rw [seqB_len]; exact h)]
  exact List.getElem_mem _
theorem nextB_bounds {mot : Bool} {b : Int} (h0 : 0 ≤ b) (h1 : b ≤ 63) : 0 ≤ nextB mot b ∧ nextB mot b ≤ 78 := by
  unfold nextB; cases mot <;> simp <;> (try split) <;> omega
theorem seqB_snoc (mot : Bool) : ∀ n b, seqB mot b (n + 1) = seqB mot b n ++ [pos mot (pos mot b + n)]
  | 0, b => by simp [seqB, pos_pos]
  | n + 1, b => by
    rw [seqB, seqB_snoc mot n (nextB mot b), seqB, pos_next]
    simp only [List.cons_append]
    congr 4
    push_cast
    omega
theorem all_snoc (l : List Int) (x : Int) : (l ++ [x]).all (· ≤ 63) = (l.all (· ≤ 63) && decide (x ≤ 63)) := by simp
/-- What comes behind so many. -/
def nth (mot : Bool) (b : Int) : Nat → Int
  | 0 => b
  | n + 1 => nextB mot (nth mot b n)
theorem nth_pos (mot : Bool) (b : Int) : ∀ n, nth mot b n = pos mot (pos mot b + n)
  | 0 => by simp [nth, pos_pos]
  | n + 1 => by
    have := pos_next mot (nth mot b n)
    have h2 := nth_pos mot b n
    rw [nth, ← pos_pos mot (nextB mot (nth mot b n)), this, h2, pos_pos]
    congr 1
    push_cast
    omega
theorem seqB_snoc' (mot : Bool) (n : Nat) (b : Int) : seqB mot b (n + 1) = seqB mot b n ++ [nth mot b n] := by rw [seqB_snoc, nth_pos]
theorem all_take {mot : Bool} {b : Int} {n k : Nat} (h : k < n) (hb : 63 < nth mot b k) : (seqB mot b n).all (· ≤ 63) = false := by
  rw [List.all_eq_false]
  refine ⟨nth mot b k, ?_, by simp; omega⟩
  rw [nth_pos]
  exact seqB_mem_of h

/-- What is a row that may be. -/
theorem bits_ok {start size : Int} {mot : Bool} {l : List Int} (h : bitsOfSig start size mot = .ok l) :
    1 ≤ size ∧ size ≤ 64 ∧ 0 ≤ start ∧ start ≤ 63 ∧ (l.length : Int) = size ∧ (∀ x ∈ l, 0 ≤ x ∧ x ≤ 63) ∧ (∀ x, x ∈ l ↔ x ∈ seqB mot start size.toNat) ∧ l = (if mot then (seqB mot start size.toNat).reverse else seqB mot start size.toNat) := by
  unfold bitsOfSig at h
  split at h
  · cases h
  split at h
  · cases h
  split at h
  · rename_i h1 h2 h3
    cases h
    have hm : ∀ x, x ∈ (if mot then (seqB mot start size.toNat).reverse else seqB mot start size.toNat) ↔ x ∈ seqB mot start size.toNat := by intro x; cases mot <;> simp
    refine ⟨by omega, by omega, by omega, by omega, ?_, fun x hx => ?_, hm, rfl⟩
    · cases mot <;> simp [seqB_len] <;> omega
    · have hx' := (hm x).1 hx
      have h4 := List.all_eq_true.1 h3 x hx'
      obtain ⟨i, hi, rfl⟩ := seqB_mem hx'
      have h5 : 0 ≤ pos mot (pos mot start + i) := (pos_ge _ _).2 (by have := (pos_ge mot start).2 (by omega); omega)
      exact ⟨h5, by simpa using h4⟩
  · cases h

end Go.Proofs.YtjomihhpglojpaaDoor.Pl
end
section
/- place: what the program computes. -/
namespace Go.Proofs.YtjomihhpglojpaaDoor
open Go.RowKit
set_option linter.unusedSimpArgs false
set_option linter.unusedVariables false
attribute [local irreducible] wpList wpQuiet wpStill Code.wp Exit.then Exit.inBlock bodyPost Calls Does Does0

/-- A signal's cells, as far as its place goes. -/
structure SigAt (cs : Array Value) (start size : Int) (mot : Bool) : Prop where
  len : cs.size = 19
  st : cs[5]? = some (.int .i64 start)
  sz : cs[6]? = some (.int .i64 size)
  mo : cs[7]? = some (.bool mot)

end Go.Proofs.YtjomihhpglojpaaDoor
namespace Go.Proofs
open Go.Shelf
def Tryd.laysRev_ren : Go.Shelf.Ren := ⟨fun | 112 => 66 | n => n, fun | 28 => 81 | 3 => 3 | 4 => 4 | 0 => 0 | n => n, fun | n => n⟩
theorem Tryd.laysRev : Go.Proofs.Lays.n112 Tryd.prog Tryd.laysRev_ren := {
  mixed := by kernel_rfl
  f112 := Tryd.func66.trans (congrArg some (by kernel_rfl))
  t0 := Tryd.underlying0
  a0 := Tryd.isAgg0
  z0 := Tryd.sizeOf0
  v0 := Tryd.zeroValue0
  t3 := Tryd.underlying3
  a3 := Tryd.isAgg3
  z3 := Tryd.sizeOf3
  v3 := Tryd.zeroValue3
  t4 := Tryd.underlying4
  a4 := Tryd.isAgg4
  z4 := Tryd.sizeOf4
  v4 := Tryd.zeroValue4
  t28 := Tryd.underlying81
  a28 := Tryd.isAgg81
  z28 := Tryd.sizeOf81
  v28 := Tryd.zeroValue81 }
end Go.Proofs
namespace Go.Proofs.YtjomihhpglojpaaDoor
open Go.RowKit
set_option linter.unusedSimpArgs false
set_option linter.unusedVariables false
attribute [local irreducible] wpList wpQuiet wpStill Code.wp Exit.then Exit.inBlock bodyPost Calls Does Does0
open Go.Sort Go.Shelf
theorem reverse_ok (w : World) (xs : List Int) (base g n c : Nat) (hown : w.ownsRow base 3 1 (.slice (some ⟨g, 0, none⟩) n c) n (xs.map (.int .i64))) (hb : n ≤ 9223372036854775807) :
    Ret Tryd.prog 66 #[.slice (some ⟨g, 0, none⟩) n c] w (fun v w' => w'.ownsRow base 3 1 (.slice (some ⟨g, 0, none⟩) n c) n (xs.reverse.map (.int .i64)) ∧ w.grownBy w' (some g)) := by
  have hn : xs.length = n := by simpa using hown.1
  subst hn
  rcases hown.2 with ⟨h0, _⟩ | ⟨g', cap', cur, h0, hbg, hg, hle, hm, hsz, htk⟩
  · cases h0
  obtain ⟨rfl, rfl⟩ : g' = g ∧ cap' = c := by cases h0; exact ⟨rfl, rfl⟩
  rw [Nat.mul_one] at htk
  have h := Any.slices_Reverse_int Tryd.laysRev g' 0 cap' xs w (holds_of_blockI hg htk) (by omega)
  refine Calls.mono h ?_
  rintro e w' ⟨rfl, n, rfl⟩
  refine ⟨_, rfl, ?_, ?_⟩
  · have := ownsRow_sortedI (w := w) (n := n) (os := #[]) (ts := xs.reverse) (ss := xs) (by simp) hbg hg hle hm hsz
    rwa [grow_empty] at this
  · have := grownBy_sortedI (w := w) (g := g') (n := n) (os := #[]) xs.reverse.toArray
    rwa [grow_empty] at this
end Go.Proofs.YtjomihhpglojpaaDoor
end
section
/- place.Bits and place.Within: what they compute. -/
namespace Go.Proofs.YtjomihhpglojpaaDoor
open Go.RowKit
set_option linter.unusedSimpArgs false
set_option linter.unusedVariables false
attribute [local irreducible] wpList wpQuiet wpStill Code.wp Exit.then Exit.inBlock bodyPost Calls Does Does0

set_option maxHeartbeats 2000000 in
theorem next_ok (w : World) (nb sb : Nat) (cs : Array Value) (start size b : Int) (mot : Bool) (e : TypeId) (hs : SigAt cs start size mot) (hsb : w.heap[sb]? = some (.cells cs 38 (0, 0))) (hnb : w.heap[nb]? = some (.cells #[.int .i64 b] 3 (0, 0)))
    (h0 : 0 ≤ b) (h1 : b ≤ 100) :
    Ret Tryd.prog 87 #[.pointer (some ⟨nb, 0, none⟩), .pointer (some ⟨sb, 0, none⟩)] w (fun v w' => v = .int .i64 b ∧ w'.heap[nb]? = some (.cells #[.int .i64 (Pl.nextB mot b)] 3 (0, 0)) ∧ w.grownBy w' (some nb)) := by
  have c0 : w.cell? ⟨nb, 0, none⟩ = some (.int .i64 b) := cell_at hnb rfl
  have c7 : w.cell? ⟨sb, 7, none⟩ = some (.bool mot) := cell_at hsb hs.mo
  refine enter2 Tryd.func87 rfl 18 rfl 20 rfl (fun a hF => ?_)
  cases mot with
  | false =>
    have hx : Pl.nextB false b = b + 1 := rfl
    rw [hx]
    repeat (first | refine c_seq ?_ | refine c_block ?_ | refine c_region _ ?_ | refine wpList_nil ?_ | refine c_then ?_ | ((apply st hF); (first | exact d_assign | exact d_not | exact d_add | exact d_fieldAddr (fld _ _ _ _ rfl) (isz _ _ rfl) | exact d_load (und _ _ rfl) c0 | exact d_load (und _ _ rfl) c7); clear hF; clear a; intro a hF) | (apply c_cond_t hF; exact rfl; first | exact rfl | assumption))
    refine st_store hF (isz _ _ rfl) hnb (i := 0) (by simp) rfl rfl rfl fun a w' hg' hgr hsz hF => ?_
    repeat (first | refine c_seq ?_ | refine c_region _ ?_ | refine wpList_nil ?_ | refine c_then ?_ | refine c_in ?_ | refine wp_ret ?_ | ((apply st hF); (first | exact d_move | exact d_assign); clear hF; clear a; intro a hF))
    exact ret1 hF rfl rfl ⟨rfl, hg', hgr⟩
  | true =>
    by_cases h8 : b % 8 = 0
    · have hx : Pl.nextB true b = b + 15 := by simp [Pl.nextB, h8]
      rw [hx]
      repeat (first | refine c_seq ?_ | refine c_block ?_ | refine c_region _ ?_ | refine wpList_nil ?_ | refine c_then ?_ | ((apply st hF); (first | exact d_move | exact d_assign | exact d_not | exact d_add | exact d_rem | exact d_cmpT | exact d_fieldAddr (fld _ _ _ _ rfl) (isz _ _ rfl) | exact d_load (und _ _ rfl) c0 | exact d_load (und _ _ rfl) c7); clear hF; clear a; intro a hF) | (apply c_cond_t hF; exact rfl; first | exact rfl | assumption) | (apply c_cond_f hF; exact rfl; first | exact rfl | assumption))
      refine st_store hF (isz _ _ rfl) hnb (i := 0) (by simp) rfl rfl rfl fun a w' hg' hgr hsz hF => ?_
      repeat (first | refine c_seq ?_ | refine c_region _ ?_ | refine wpList_nil ?_ | refine c_then ?_ | refine c_in ?_ | refine wp_ret ?_ | ((apply st hF); (first | exact d_move | exact d_assign); clear hF; clear a; intro a hF))
      exact ret1 hF rfl rfl ⟨rfl, hg', hgr⟩
    · have hx : Pl.nextB true b = b - 1 := by simp [Pl.nextB, h8]
      rw [hx]
      repeat (first | refine c_seq ?_ | refine c_block ?_ | refine c_region _ ?_ | refine wpList_nil ?_ | refine c_then ?_ | ((apply st hF); (first | exact d_move | exact d_assign | exact d_not | exact d_sub | exact d_rem | exact d_cmpF | exact d_fieldAddr (fld _ _ _ _ rfl) (isz _ _ rfl) | exact d_load (und _ _ rfl) c0 | exact d_load (und _ _ rfl) c7); clear hF; clear a; intro a hF) | (apply c_cond_f hF; exact rfl; first | exact rfl | assumption))
      refine st_store hF (isz _ _ rfl) hnb (i := 0) (by simp) rfl rfl rfl fun a w' hg' hgr hsz hF => ?_
      repeat (first | refine c_seq ?_ | refine c_region _ ?_ | refine wpList_nil ?_ | refine c_then ?_ | refine c_in ?_ | refine wp_ret ?_ | ((apply st hF); (first | exact d_move | exact d_assign); clear hF; clear a; intro a hF))
      exact ret1 hF rfl rfl ⟨rfl, hg', hgr⟩

set_option maxHeartbeats 2000000 in
theorem counter_ok (w : World) (cs : Array Value) (start size : Int) (mot : Bool) (hs : SigAt cs start size mot) :
    Ret Tryd.prog 65 #[.agg cs] w (fun v w' => ∃ nb sb, w.heap.size ≤ nb ∧ w.heap.size ≤ sb ∧ nb ≠ sb ∧ v = .func (.func 87) #[] [.pointer (some ⟨nb, 0, none⟩), .pointer (some ⟨sb, 0, none⟩)].toArray ∧
      w'.heap[sb]? = some (.cells cs 38 (0, 0)) ∧ w'.heap[nb]? = some (.cells #[.int .i64 start] 3 (0, 0)) ∧ w.grownBy w' none) := by
  refine enter1 Tryd.func65 rfl 6 rfl 7 rfl (fun a hF => ?_)
  repeat (first | refine c_seq ?_ | refine c_region _ ?_)
  refine st_box hF (cs := cs) rfl (k := fun a w1 hsb hgr hsz hF => ?_)
  have c5 : w1.cell? ⟨w.heap.size, 5, none⟩ = some (.int .i64 start) := cell_at hsb hs.st
  repeat (first | refine c_seq ?_ | refine c_region _ ?_ | refine wpList_nil ?_ | refine c_then ?_ | ((apply st hF); (first | exact d_assign | exact d_fieldAddr (fld _ _ _ _ rfl) (isz _ _ rfl) | exact d_load (und _ _ rfl) c5); clear hF; clear a; intro a hF))
  refine st_alloc hF inf3 (k := fun a w2 hnb hgr2 hsz2 hF => ?_)
  have hnb : w2.heap[w1.heap.size]? = some (.cells #[.int .i64 0] 3 (0, 0)) := hnb
  have hsb2 := blk_kept hsb hgr2 (by simp)
  skip
  refine st_store hF (isz _ _ rfl) hnb (i := 0) (by simp) rfl rfl rfl fun a w3 hnb3 hgr3 hsz3 hF => ?_
  have hsb3 := blk_kept hsb2 hgr3 (by simp; omega)
  repeat (first | refine c_seq ?_ | refine c_region _ ?_ | refine wpList_nil ?_ | refine c_then ?_ | refine wp_ret ?_ | ((apply st hF); (first | exact d_assign | exact d_makeFunc (vs := [.pointer (some ⟨w1.heap.size, 0, none⟩), .pointer (some ⟨w.heap.size, 0, none⟩)]) ⟨rfl, rfl, trivial⟩); clear hF; clear a; intro a hF))
  refine ret1 hF rfl rfl ⟨w1.heap.size, w.heap.size, by omega, by omega, by omega, rfl, hsb3, hnb3, ?_⟩
  refine ⟨?_, ?_, ?_, ?_, ?_⟩
  · exact hgr3.os.trans (hgr2.os.trans hgr.os)
  · exact hgr3.tape.trans (hgr2.tape.trans hgr.tape)
  · exact hgr3.output.trans (hgr2.output.trans hgr.output)
  · omega
  · intro k hk hne
    rw [hgr3.block k (by omega) (by simp; omega), hgr2.block k (by omega) (by simp), hgr.block k hk (by simp)]

/-- The two results of place.Bits. -/
def BitsRes (base : Nat) (w : World) (v : Value) : Except Int (List Int) → Prop
  | .ok l => ∃ g cap, v = .tuple #[.slice (some ⟨g, 0, none⟩) l.length cap, .nilIface] ∧ base ≤ g ∧ w.ownsRow base 3 1 (.slice (some ⟨g, 0, none⟩) l.length cap) l.length (l.map (.int .i64))
  | .error e => v = .tuple #[.slice none 0 0, .iface 73 (.int .i64 e)]

set_option maxHeartbeats 4000000 in
theorem bits_of (w : World) (cs : Array Value) (start size : Int) (mot : Bool) (hs : SigAt cs start size mot) :
    Ret Tryd.prog 38 #[.agg cs] w (fun v w' => BitsRes w.heap.size w' v (Pl.bitsOfSig start size mot) ∧ Below w.heap.size w w') := by
  refine enter1 Tryd.func38 rfl 48 rfl 49 rfl (fun a hF => ?_)
  repeat (first | refine c_seq ?_ | refine c_region _ ?_)
  refine st_box hF (cs := cs) rfl (k := fun a w1 hsb hgr hsz1 hF => ?_)
  have c5 : w1.cell? ⟨w.heap.size, 5, none⟩ = some (.int .i64 start) := cell_at hsb hs.st
  have c6 : w1.cell? ⟨w.heap.size, 6, none⟩ = some (.int .i64 size) := cell_at hsb hs.sz
  have hb1 : Below w.heap.size w w1 := (Below.refl _ w).grown hgr (Nat.le_refl _) (fun k hk => by cases hk)
  by_cases h1 : size < 1 ∨ 64 < size
  · have hE : Pl.bitsOfSig start size mot = .error 15 := by unfold Pl.bitsOfSig; rw [if_pos h1]
    by_cases h2 : size < 1
    all_goals
      repeat (first | refine c_seq ?_ | refine c_region _ ?_ | refine wpList_nil ?_ | refine c_then ?_ | refine c_then_ret ?_ | refine wp_ret ?_ | ((first | apply st hF | apply stg hF); (first | exact d_move | exact d_assign | exact d_pickT | exact d_pickF | exact d_cmpT | exact d_cmpF | exact d_fieldAddr (fld _ _ _ _ rfl) (isz _ _ rfl) | exact d_makeI (con _ rfl) | exact d_load (und _ _ rfl) c6); clear hF; clear a; intro a hF) | ((apply stm hF); clear hF; clear a; intro a hF) | (apply c_cond_t hF; exact rfl; first | exact rfl | assumption))
      refine ret2 hF rfl rfl rfl ⟨?_, hb1⟩
      rw [hE]
      rfl
  by_cases h3 : start < 0 ∨ 63 < start
  · have hE : Pl.bitsOfSig start size mot = .error 16 := by unfold Pl.bitsOfSig; rw [if_neg h1, if_pos h3]
    by_cases h2 : start < 0
    all_goals
      repeat (first | refine c_seq ?_ | refine c_region _ ?_ | refine wpList_nil ?_ | refine c_then ?_ | refine c_then_ret ?_ | refine wp_skip ?_ | refine wp_ret ?_ | ((first | apply st hF | apply stg hF); (first | exact d_move | exact d_assign | exact d_pickT | exact d_pickF | exact d_cmpT | exact d_cmpF | exact d_fieldAddr (fld _ _ _ _ rfl) (isz _ _ rfl) | exact d_makeI (con _ rfl) | exact d_load (und _ _ rfl) c5 | exact d_load (und _ _ rfl) c6); clear hF; clear a; intro a hF) | ((apply stm hF); clear hF; clear a; intro a hF) | (apply c_cond_t hF; exact rfl; first | exact rfl | assumption) | (apply c_cond_f hF; exact rfl; first | exact rfl | assumption))
      refine ret2 hF rfl rfl rfl ⟨?_, hb1⟩
      rw [hE]
      rfl
  have hE : Pl.bitsOfSig start size mot = if (Pl.seqB mot start size.toNat).all (· ≤ 63) then .ok (if mot then (Pl.seqB mot start size.toNat).reverse else Pl.seqB mot start size.toNat) else .error 16 := by unfold Pl.bitsOfSig; rw [if_neg h1, if_neg h3]
  obtain ⟨S, hS⟩ : ∃ S : Nat, size = (S : Int) := ⟨size.toNat, by omega⟩
  subst hS
  rw [Int.toNat_natCast] at hE
  repeat (first | refine c_seq ?_ | refine c_region _ ?_ | refine wpList_nil ?_ | refine c_then ?_ | refine wp_skip ?_ | ((first | apply st hF | apply stg hF); (first | exact d_move | exact d_assign | exact d_pickF | exact d_cmpF | exact d_fieldAddr (fld _ _ _ _ rfl) (isz _ _ rfl) | exact d_load (und _ _ rfl) c5 | exact d_load (und _ _ rfl) c6); clear hF; clear a; intro a hF) | (apply c_cond_f hF; exact rfl; first | exact rfl | assumption))
  refine st_make0 hF (und _ _ rfl) inf3 (c := S) (base := w.heap.size) (by omega) (by unfold maxLen; omega) hb1.size rfl (k := fun a w2 hown2 hgr2 hF => ?_)
  have hsb2 := blk_kept hsb hgr2 (by simp)
  have hb2 : Below w.heap.size w w2 := hb1.grown hgr2 hb1.size (fun k hk => by cases hk)
  repeat (first | refine c_seq ?_ | refine c_region _ ?_ | refine wpList_nil ?_ | refine c_then ?_ | ((apply st hF); (first | exact d_assign | exact d_loadAgg (agg _ rfl) (isz _ _ rfl) hs.len (cells_at hsb2)); clear hF; clear a; intro a hF))
  refine stc hF (counter_ok w2 cs start S mot hs) cal65 ⟨rfl, trivial⟩ (k := fun a v w3 hR hF => ?_)
  obtain ⟨nb, sb, hnbsz, hsbsz, hne, rfl, hcb3, hnb3, hgr3⟩ := hR
  have hsb3 := blk_kept hsb2 hgr3 (by simp)
  have hown3 := own_grown hown2 hgr3
  have hb3 : Below w.heap.size w w3 := hb2.grown hgr3 hb2.size (fun k hk => by cases hk)
  have hz2 := hb2.size
  have hz1 := hgr2.size
  have hlt2 : w1.heap.size < w2.heap.size := (hown2.lt _ rfl).2
  clear hown2 hb2 hb1 hsb hsb2 c5 c6
  repeat (first | refine c_block ?_ | refine wpList_nil ?_ | refine c_then ?_ | ((apply st hF); (exact d_assign); clear hF; clear a; intro a hF))
  refine c_loop (fun n a wr => ∃ k ao' cap', k ≤ S ∧ n = S - k ∧ Fr 49 [(1, .pointer (some ⟨w.heap.size, 0, none⟩)), (4, .slice ao' k cap'), (5, .func (.func 87) #[] [.pointer (some ⟨nb, 0, none⟩), .pointer (some ⟨sb, 0, none⟩)].toArray)] a ∧
    (Pl.seqB mot start k).all (· ≤ 63) = true ∧ 0 ≤ Pl.nth mot start k ∧ Pl.nth mot start k ≤ 78 ∧
    wr.ownsRow w.heap.size 3 1 (.slice ao' k cap') k ((Pl.seqB mot start k).map (.int .i64)) ∧ wr.heap[w.heap.size]? = some (.cells cs 38 (0, 0)) ∧ wr.heap[sb]? = some (.cells cs 38 (0, 0)) ∧ wr.heap[nb]? = some (.cells #[.int .i64 (Pl.nth mot start k)] 3 (0, 0)) ∧
    (∀ q, (Value.slice ao' k cap').ownBlock = some q → q ≠ nb) ∧ nb < wr.heap.size ∧ Below w.heap.size w wr) S
    ⟨0, _, _, by omega, rfl, hF.keep' ⟨rfl, rfl, rfl, trivial⟩, rfl, by simp only [Pl.nth]; omega, by simp only [Pl.nth]; omega, hown3, hsb3, hcb3, hnb3, ?_, lt_at hnb3, hb3⟩ ?_
  · intro q hq
    simp only [Value.ownBlock, Option.some.injEq] at hq
    omega
  clear hF a hown3 hsb3 hcb3 hnb3 hb3 hgr3
  rintro n a wr ⟨k, ao', cap', hk, rfl, hF, hall, hn0, hn1, hown, hsb0, hsb3, hnb3, hnq, hnlt, hbel⟩
  have hz := hbel.size
  have c6 : wr.cell? ⟨w.heap.size, 6, none⟩ = some (.int .i64 (S : Int)) := cell_at hsb0 hs.sz
  have c7 : wr.cell? ⟨w.heap.size, 7, none⟩ = some (.bool mot) := cell_at hsb0 hs.mo
  by_cases hlt : k < S
  · repeat (first | refine c_seq ?_ | refine c_block ?_ | refine c_region _ ?_ | refine wpList_nil ?_ | refine c_then ?_ | refine wp_skip ?_ | ((apply st hF); (first | exact d_move | exact d_cmpT | exact d_len (und _ _ rfl) | exact d_fieldAddr (fld _ _ _ _ rfl) (isz _ _ rfl) | exact d_load (und _ _ rfl) c6); clear hF; clear a; intro a hF) | (apply c_cond_t hF; exact rfl; first | exact rfl | assumption))
    refine stcv hF (next_ok wr nb sb cs start S _ mot 3 hs hsb3 hnb3 hn0 (by omega)) cal87 (vs := []) (cs := [.pointer (some ⟨nb, 0, none⟩), .pointer (some ⟨sb, 0, none⟩)]) trivial (k := fun a v w4 hR hF => ?_)
    obtain ⟨rfl, hnb4, hgr4⟩ := hR
    have hown4 := own_kept hown hgr4 (fun e => hnq nb e rfl)
    have hb4 : Below w.heap.size w w4 := hbel.grown hgr4 hz (fun k hk => by cases hk; omega)
    have hsb04 := blk_kept hsb0 hgr4 (by simp; omega)
    have hsb4 := blk_kept hsb3 hgr4 (by simp; omega)
    by_cases hbig : 63 < Pl.nth mot start k
    · repeat (first | refine c_seq ?_ | refine c_region _ ?_ | refine wpList_nil ?_ | refine c_then ?_ | refine c_then_ret ?_ | refine c_in_ret ?_ | refine wp_ret ?_ | ((apply st hF); (first | exact d_move | exact d_assign | exact d_cmpT | exact d_makeI (con _ rfl)); clear hF; clear a; intro a hF) | (apply c_cond_t hF; exact rfl; first | exact rfl | assumption))
      refine ret2 hF rfl rfl rfl ⟨?_, hb4⟩
      rw [hE, Pl.all_take hlt hbig]
      rfl
    · have hbb := Pl.nextB_bounds (mot := mot) hn0 (by omega)
      repeat (first | refine c_seq ?_ | refine c_region _ ?_ | refine wpList_nil ?_ | refine c_then ?_ | refine wp_skip ?_ | ((apply st hF); (first | exact d_move | exact d_assign | exact d_cmpF); clear hF; clear a; intro a hF) | (apply c_cond_f hF; exact rfl; first | exact rfl | assumption))
      refine st_push' hF (und _ _ rfl) inf3 rfl hown4 (by omega) (by unfold maxLen; omega) hb4.size (k := fun a ao2 cap2 w5 hown5 hgr5 hbk hF => ?_)
      have hsn : (Pl.seqB mot start k).map (Value.int .i64) ++ [.int .i64 (Pl.nth mot start k)] = (Pl.seqB mot start (k + 1)).map (.int .i64) := by rw [Pl.seqB_snoc']; simp
      rw [hsn] at hown5
      have hb5 := below_own hb4 hb4.size hown4 hgr5
      have hq4 : some nb ≠ (Value.slice ao' k cap').ownBlock := fun e => hnq nb e.symm rfl
      repeat (first | refine wpList_nil ?_ | refine c_then ?_ | refine c_in ?_ | ((apply st hF); (exact d_assign); clear hF; clear a; intro a hF))
      refine ⟨S - (k + 1), by omega, k + 1, ao2, cap2, by omega, rfl, hF.keep' ⟨rfl, rfl, rfl, trivial⟩, ?_, hbb.1, hbb.2, hown5,
        blk_kept hsb04 hgr5 (own_ne hown4 hsb04 (by decide)), blk_kept hsb4 hgr5 (own_ne hown4 hsb4 (by decide)), blk_kept hnb4 hgr5 hq4, ?_, ?_, hb5⟩
      · rw [Pl.seqB_snoc', Pl.all_snoc, hall, decide_eq_true (by omega)]; rfl
      · intro q hq
        rcases hbk with e | e
        · rw [e] at hq; exact hnq q hq
        · rw [e] at hq
          have := hgr4.size
          simp only [Option.some.injEq] at hq
          omega
      · have := hgr4.size; have := hgr5.size; omega
  · obtain rfl : k = S := by omega
    have hg := hown.1
    rw [List.length_map, Pl.seqB_len] at hg
    obtain ⟨g, rfl, hbg⟩ := own_some hown (by omega)
    rw [hall] at hE
    simp only [if_true] at hE
    cases mot with
    | false =>
      repeat (first | refine c_seq ?_ | refine c_region _ ?_ | refine wpList_nil ?_ | refine c_then ?_ | refine c_then_exit ?_ | refine c_in_hit ?_ | refine wp_skip ?_ | refine wp_exit ?_ | refine wp_ret ?_ | ((apply st hF); (first | exact d_move | exact d_assign | exact d_cmpF | exact d_len (und _ _ rfl) | exact d_fieldAddr (fld _ _ _ _ rfl) (isz _ _ rfl) | exact d_load (und _ _ rfl) c6 | exact d_load (und _ _ rfl) c7); clear hF; clear a; intro a hF) | (apply c_cond_f hF; exact rfl; first | exact rfl | assumption))
      refine ret2 hF rfl rfl rfl ⟨?_, hbel⟩
      rw [hE]
      simp only [Bool.false_eq_true, if_false]
      refine ⟨g, cap', by rw [Pl.seqB_len], hbg, ?_⟩
      rw [Pl.seqB_len]; exact hown
    | true =>
      repeat (first | refine c_seq ?_ | refine c_region _ ?_ | refine wpList_nil ?_ | refine c_then ?_ | refine c_then_exit ?_ | refine c_in_hit ?_ | refine wp_exit ?_ | ((apply st hF); (first | exact d_move | exact d_cmpF | exact d_len (und _ _ rfl) | exact d_fieldAddr (fld _ _ _ _ rfl) (isz _ _ rfl) | exact d_load (und _ _ rfl) c6 | exact d_load (und _ _ rfl) c7); clear hF; clear a; intro a hF) | (apply c_cond_t hF; exact rfl; first | exact rfl | assumption) | (apply c_cond_f hF; exact rfl; first | exact rfl | assumption))
      refine stc hF (reverse_ok wr (Pl.seqB true start k) w.heap.size g k cap' hown (by omega)) cal66 ⟨rfl, trivial⟩ (k := fun a v w5 hR hF => ?_)
      obtain ⟨hown5, hgr5⟩ := hR
      repeat (first | refine c_seq ?_ | refine c_region _ ?_ | refine wpList_nil ?_ | refine c_then ?_ | refine wp_ret ?_ | ((apply st hF); (first | exact d_move | exact d_assign); clear hF; clear a; intro a hF))
      refine ret2 hF rfl rfl rfl ⟨?_, hbel.grown hgr5 hz (fun k hk => by cases hk; omega)⟩
      rw [hE]
      simp only [if_true]
      refine ⟨g, cap', by rw [List.length_reverse, Pl.seqB_len], hbg, ?_⟩
      rw [List.length_reverse, Pl.seqB_len]; exact hown5
end Go.Proofs.YtjomihhpglojpaaDoor
end
section
/- The reference's Bits and Within: what they compute. -/
namespace Go.Proofs.YtjomihhpglojpaaDoor
open Go.RowKit
set_option linter.unusedSimpArgs false
set_option linter.unusedVariables false
attribute [local irreducible] wpList wpQuiet wpStill Code.wp Exit.then Exit.inBlock bodyPost Calls Does Does0

end Go.Proofs.YtjomihhpglojpaaDoor
end
section
/- Arrays of bools: sets of bits. Plain lemmas over any program. -/
namespace Go.Proofs.YtjomihhpglojpaaDoor
open Go.RowKit

/-- The cells of a set. -/
def setC (xs : List Bool) : Array Value := (xs.map Value.bool).toArray
theorem setC_size (xs : List Bool) : (setC xs).size = xs.length := by simp [setC]
theorem setC_get {xs : List Bool} {j : Nat} (h : j < xs.length) : (setC xs)[j]? = some (.bool xs[j]) := by simp [setC, h]
theorem setC_set (xs : List Bool) (j : Nat) (b : Bool) : (setC xs).setIfInBounds (0 + j) (.bool b) = setC (xs.set j b) := by
  rw [Nat.zero_add]
  apply Array.toList_inj.1
  simp [setC, List.map_set]
theorem setC_cells (xs : List Bool) : ∀ v ∈ setC xs, v.oneCell' = true := by
  intro v hv
  simp [setC] at hv
  rcases hv with ⟨_, rfl⟩ | ⟨_, rfl⟩ <;> rfl

section
variable {P : Program} {ops : Array Oper} {Q : Exit → Act → World → Prop} {a : Act} {w w' : World} {rest : List Oper} {N : Nat} {l : List (Nat × Value)}

theorem run_eqItems_bools (d : Nat) {e : TypeId} (he : P.underlying e = some .bool) (xs ys : List Bool) (hl : xs.length = ys.length) : ∀ is : List Nat, (∀ i ∈ is, i < xs.length) →
    (Op.eqItems (d + 1) e 1 (setC xs) (setC ys) is).run P w = .ok (is.all fun i => xs.getD i false == ys.getD i false) w
  | [], _ => by simp [Op.eqItems]
  | i :: is, h => by
    have hi := h i (by simp)
    have px : (part e (setC xs) (i * 1)).run P w = .ok (.bool (xs.getD i false)) w := by
      simp [part, isAgg, run_underlying he, setC, List.getD, hi]
    have py : (part e (setC ys) (i * 1)).run P w = .ok (.bool (ys.getD i false)) w := by
      simp [part, isAgg, run_underlying he, setC, List.getD, show i < ys.length by omega]
    have pe : (Op.equalIn (d + 1) e (.bool (xs.getD i false)) (.bool (ys.getD i false))).run P w = .ok (xs.getD i false == ys.getD i false) w := run_equalIn_bool d he _ _
    simp only [Op.eqItems, Sem.run_bind, px, py, pe, Result.andThen_ok, List.all_cons]
    cases hq : (xs.getD i false == ys.getD i false) with
    | false => simp
    | true => simpa using run_eqItems_bools d he xs ys hl is (fun j hj => h j (by simp [hj]))
theorem all_range (xs ys : List Bool) (h : xs.length = ys.length) : ((List.range xs.length).all fun i => xs.getD i false == ys.getD i false) = decide (xs = ys) := by
  rw [Bool.eq_iff_iff]
  simp only [List.all_eq_true, List.mem_range, beq_iff_eq, decide_eq_true_eq]
  constructor
  · intro hh
    apply List.ext_getElem h
    intro i h1 h2
    have := hh i h1
    simpa [List.getD, h1, h2] using this
  · rintro rfl i _; rfl
theorem run_equalIn_set (d : Nat) {t e : TypeId} {n : Nat} {i : TypeInfo} (hu : P.underlying t = some (.array n e)) (he : P.underlying e = some .bool) (hi : P.info? e = some i) (hc : P.cellsOf e = 1) (xs ys : List Bool) (hx : xs.length = n) (hy : ys.length = n) :
    (Op.equalIn (d + 2) t (.agg (setC xs)) (.agg (setC ys))).run P w = .ok (decide (xs = ys)) w := by
  rw [run_equalIn_array (P := P) w (d + 1) (setC xs) (setC ys) hu hi, hc, run_eqItems_bools d he xs ys (by omega) _ (by intro j hj; simp at hj; omega), ← hx, all_range xs ys (by omega)]
/-- Sets held against each other. -/
theorem d_eqSet {op : BinOp} {x y : Operand} {xs ys : List Bool} {r : Bool} {t t' ty e : TypeId} {n : Nat} (hu : P.underlying t = some (.array n e)) (he : P.underlying e = some .bool) (hi : (P.info? e).map (·.size) = some 1) (hc : P.cellsOf e = 1) (hm : P.eqGuardType P.depth t = false) (hxl : xs.length = n) (hyl : ys.length = n)
    (hx : Ev l x (.agg (setC xs)) := by exact rfl) (hy : Ev l y (.agg (setC ys)) := by exact rfl) (hr : (match op with | .eql => some (decide (xs = ys)) | .neq => some (!decide (xs = ys)) | _ => none) = some r := by exact rfl) : Does P l w (.binOp op t x y t') ty (.bool r) w := by
  obtain ⟨i, h1, h2⟩ := Option.map_eq_some_iff.1 hi
  intro ρ hρ d pos af g
  have key := run_equalIn_set (P := P) (w := w) 9998 hu he h1 hc xs ys hxl hyl
  cases op <;> simp only [Option.some.injEq, reduceCtorEq] at hr <;> subst hr
  · simp only [execOp, hρ _ _ hx, hρ _ _ hy, Sem.run_bind, run_eqGuard_agg w _ t x y _ _ hm, Result.andThen_ok, run_eql_struct, key]
    rfl
  · simp only [execOp, hρ _ _ hx, hρ _ _ hy, Sem.run_bind, run_eqGuard_agg w _ t x y _ _ hm, Result.andThen_ok, run_neq_struct, key]
    rfl

/-- An element's address in an array. -/
theorem d_indexAddrA {x i : Operand} {b o n : Nat} {k : IntKind} {j : Nat} {q : Int} {t e ty : TypeId} (hU : P.underlying t = some (.array n e)) (hs : (P.info? e).map (·.size) = some 1)
    (hx : Ev l x (.pointer (some ⟨b, o, none⟩)) := by exact rfl) (hi : Ev l i (.int k q) := by exact rfl) (hq : q = (j : Int) := by exact rfl) (hj : j < n := by omega) :
    Does P l w (.indexAddr t x i) ty (.pointer (some ⟨b, o + j, none⟩)) w := by
  intro ρ hρ d pos af g
  subst hq
  obtain ⟨ti, h1, h2⟩ := Option.map_eq_some_iff.1 hs
  have h3 : (0 : Int) ≤ (j : Int) ∧ (j : Int) < (n : Int) := by omega
  simp [execOp, Instr.indexAt, Instr.sureAddr, asIntOf, hρ _ _ hx, hρ _ _ hi, run_underlying hU, sizeOf, typeInfo, h1, h2, hj, addr_add]
/-- An element of an array that is no variable. -/
theorem d_indexA {x i : Operand} {cs : Array Value} {n : Nat} {v : Value} {k : IntKind} {j : Nat} {q : Int} {t e ty : TypeId} {dd : TypeDesc} (hU : P.underlying t = some (.array n e)) (hE : P.underlying e = some dd) (h1' : oneCellType dd = true) (hs : (P.info? e).map (·.size) = some 1) (hv : cs[j]? = some v)
    (hx : Ev l x (.agg cs) := by exact rfl) (hi : Ev l i (.int k q) := by exact rfl) (hq : q = (j : Int) := by exact rfl) (hj : j < n := by omega) :
    Does P l w (.index t x i) ty v w := by
  intro ρ hρ d pos af g
  subst hq
  obtain ⟨ti, h1, h2⟩ := Option.map_eq_some_iff.1 hs
  have h3 : (0 : Int) ≤ (j : Int) ∧ (j : Int) < (n : Int) := by omega
  cases dd <;> simp [oneCellType] at h1' <;> simp [execOp, Instr.index, asIntOf, hρ _ _ hx, hρ _ _ hi, run_underlying hU, sizeOf, typeInfo, h1, h2, hj, part, isAgg, run_underlying hE, hv]

/-! ### results in boxes -/
theorem run_loadVar_agg {t : TypeId} {g : Nat} {cs : Array Value} {e : TypeId} {fr : Nat × Nat} (hU : (P.underlying t).map aggB = some true) (hs : (P.info? t).map (·.size) = some cs.size) (hg : w.heap[g]? = some (.cells cs e fr)) : (loadVar t ⟨g, 0, none⟩).run P w = .ok (.agg cs) w := by
  obtain ⟨ti, h1, h2⟩ := Option.map_eq_some_iff.1 hs
  obtain ⟨dd, h3, h4⟩ := Option.map_eq_some_iff.1 hU
  have hr : (loadCells ⟨g, 0, none⟩ cs.size).run P w = .ok cs w := by
    have := run_loadCells_list (P := P) (w := w) ⟨g, 0, none⟩ cs.toList (fun j v hj => by rw [addr_add]; exact cells_at hg j v (by simpa using hj))
    simpa using this
  cases dd <;> simp [aggB] at h4 <;> simp [loadVar, isAgg, run_underlying h3, sizeOf, typeInfo, h1, h2, hr]
theorem ret_ct {fn : Func} {R : Value → World → Prop} (h : Fr N l a) {p u : Nat} {ty : TypeId} (hres : fn.results = #[.cell p ty, .tmp u]) {g : Nat} {cs : Array Value} {e : TypeId} {fr : Nat × Nat} {y : Value} (hU : (P.underlying ty).map aggB = some true) (hs : (P.info? ty).map (·.size) = some cs.size) (hg : w.heap[g]? = some (.cells cs e fr))
    (hv : look l p = some (.pointer (some ⟨g, 0, none⟩))) (hx : look l u = some y) (hR : R (.tuple #[.agg cs, y]) w) :
    bodyPost P fn (fun e w' => ∃ v, e = .returned v ∧ R v w') .ret a w := by
  refine bodyPost_ret (v := .tuple #[.agg cs, y]) ?_ h.defers ⟨_, rfl, hR⟩
  rw [results_cell_tmp hres, getD_at h hv, getD_at h hx]
  simp [asAddr, run_loadVar_agg hU hs hg]
theorem ret_c {fn : Func} {R : Value → World → Prop} (h : Fr N l a) {p : Nat} {ty : TypeId} (hres : fn.results = #[.cell p ty]) {g : Nat} {cs : Array Value} {e : TypeId} {fr : Nat × Nat} (hU : (P.underlying ty).map aggB = some true) (hs : (P.info? ty).map (·.size) = some cs.size) (hg : w.heap[g]? = some (.cells cs e fr))
    (hv : look l p = some (.pointer (some ⟨g, 0, none⟩))) (hR : R (.agg cs) w) :
    bodyPost P fn (fun e w' => ∃ v, e = .returned v ∧ R v w') .ret a w := by
  refine bodyPost_ret (v := .agg cs) ?_ h.defers ⟨_, rfl, hR⟩
  have e1 : a.tmps[p]? = some (.pointer (some ⟨g, 0, none⟩)) := h.at_ _ _ hv
  simp [results, hres, e1, asAddr, run_loadVar_agg hU hs hg]
end
end Go.Proofs.YtjomihhpglojpaaDoor
end
section
/- Shifts and bits of unsigned numbers. Plain lemmas over any program. -/
namespace Go.Proofs.YtjomihhpglojpaaDoor
open Go.RowKit

/-- A number without some bits of another. -/
def andNotN (a b : Nat) : Nat := Nat.bitwise (fun x y => x && !y) a b
theorem andNotN_bit (a b i : Nat) : (andNotN a b).testBit i = (a.testBit i && !b.testBit i) := Nat.testBit_bitwise rfl _ _ _
theorem andNotN_lt {a b n : Nat} (ha : a < 2 ^ n) : andNotN a b < 2 ^ n := by
  refine Nat.lt_pow_two_of_testBit _ fun i hi => ?_
  rw [andNotN_bit, Nat.testBit_lt_two_pow (Nat.lt_of_lt_of_le ha (Nat.pow_le_pow_right (by decide) hi))]
  rfl
theorem wrap_un {k : IntKind} (hs : k.signed = false) {n : Nat} (h : n < 2 ^ k.bits) : k.wrap (n : Int) = (n : Int) := by
  unfold IntKind.wrap
  have h' : (n : Int) % (2 : Int) ^ k.bits = n := by
    rw [Int.emod_eq_of_lt (by omega)]
    exact_mod_cast h
  simp [hs, h']

section
variable {P : Program} {w : World} {l : List (Nat × Value)}
theorem run_shr {k : IntKind} {a b : Nat} {ky : IntKind} (hb : b ≤ k.bits) : (Op.shift .shr k (a : Int) ky (b : Int)).run P w = .ok (.int k ((a / 2 ^ b : Nat) : Int)) w := by
  have h1 : ¬ ((b : Int) < 0) := by omega
  simp only [Op.shift, h1, if_false, Int.toNat_natCast, Nat.min_eq_left hb]
  have : Int.fdiv (a : Int) (2 ^ b) = ((a / 2 ^ b : Nat) : Int) := by
    rw [Int.fdiv_eq_ediv_of_nonneg _ (Int.le_of_lt (Int.pow_pos (by decide)))]
    push_cast
    rfl
  rw [this]; rfl
theorem run_bits {op : BinOp} {k : IntKind} {a b r : Nat} (hs : k.signed = false) (ha : a < 2 ^ k.bits) (hb : b < 2 ^ k.bits) (hr : (match op with | .and => some (a &&& b) | .or => some (a ||| b) | .andNot => some (andNotN a b) | _ => none) = some r) : (Op.intBits op k (a : Int) (b : Int)).run P w = .ok (.int k (r : Int)) w := by
  have ha' : a % 2 ^ k.bits = a := Nat.mod_eq_of_lt ha
  have hb' : b % 2 ^ k.bits = b := Nat.mod_eq_of_lt hb
  cases op <;> simp only [Option.some.injEq, reduceCtorEq] at hr <;> subst hr
  · simp only [Op.intBits, BitVec.ofInt_natCast, BitVec.toNat_and, BitVec.toNat_ofNat, ha', hb']
    rw [wrap_un hs (Nat.and_lt_two_pow _ hb)]; rfl
  · simp only [Op.intBits, BitVec.ofInt_natCast, BitVec.toNat_or, BitVec.toNat_ofNat, ha', hb']
    rw [wrap_un hs (Nat.or_lt_two_pow ha hb)]; rfl
  · have e : (BitVec.ofNat k.bits a &&& ~~~BitVec.ofNat k.bits b).toNat = andNotN a b := by
      apply Nat.eq_of_testBit_eq
      intro i
      rw [andNotN_bit, BitVec.testBit_toNat]
      simp only [BitVec.getLsbD_and, BitVec.getLsbD_not, BitVec.getLsbD_ofNat]
      by_cases hi : i < k.bits
      · simp [hi]
      · have : a.testBit i = false := Nat.testBit_lt_two_pow (Nat.lt_of_lt_of_le ha (Nat.pow_le_pow_right (by decide) (by omega)))
        simp [hi, this]
    simp only [Op.intBits, BitVec.ofInt_natCast]
    rw [e, wrap_un hs (andNotN_lt ha)]; rfl

theorem d_shr {x y : Operand} {k ky : IntKind} {a b : Nat} {p q : Int} {t t' ty : TypeId} (hx : Ev l x (.int k p) := by exact rfl) (hy : Ev l y (.int ky q) := by exact rfl) (hp : p = (a : Int) := by exact rfl) (hq : q = (b : Int) := by exact rfl) (hb : b ≤ k.bits) :
    Does P l w (.binOp .shr t x y t') ty (.int k ((a / 2 ^ b : Nat) : Int)) w := by
  intro ρ hρ d pos af g
  subst hp; subst hq
  have e : (eqGuard .shr t x y (.int k a) (.int ky b)).run P w = .ok () w := rfl
  have e2 : (binOp .shr t (.int k a) (.int ky b)).run P w = .ok (.int k ((a / 2 ^ b : Nat) : Int)) w := run_shr (ky := ky) hb
  simp only [execOp, hρ _ _ hx, hρ _ _ hy, Sem.run_bind, e, Result.andThen_ok, e2]
  rfl
theorem d_bits {op : BinOp} {x y : Operand} {k : IntKind} {a b r : Nat} {p q : Int} {t t' ty : TypeId} (hx : Ev l x (.int k p) := by exact rfl) (hy : Ev l y (.int k q) := by exact rfl) (hs : k.signed = false := by exact rfl) (hp : p = (a : Int) := by exact rfl) (hq : q = (b : Int) := by exact rfl) (ha : a < 2 ^ k.bits) (hb : b < 2 ^ k.bits)
    (hr : (match op with | .and => some (a &&& b) | .or => some (a ||| b) | .andNot => some (andNotN a b) | _ => none) = some r := by exact rfl) :
    Does P l w (.binOp op t x y t') ty (.int k (r : Int)) w := by
  intro ρ hρ d pos af g
  subst hp; subst hq
  have e : (eqGuard op t x y (.int k a) (.int k b)).run P w = .ok () w := by cases op <;> rfl
  have e2 : (binOp op t (.int k a) (.int k b)).run P w = .ok (.int k (r : Int)) w := by
    have := run_bits (P := P) (w := w) (op := op) hs ha hb hr
    cases op <;> simp only [reduceCtorEq] at hr <;> simpa [binOp] using this
  simp only [execOp, hρ _ _ hx, hρ _ _ hy, Sem.run_bind, e, Result.andThen_ok, e2]
  rfl
end
end Go.Proofs.YtjomihhpglojpaaDoor
end
section
/- The plain laws of bits and sets: lists alone; no program in sight. -/
namespace Go.Proofs.YtjomihhpglojpaaDoor.Pl

/-! ### payloads -/
/-! ### sets -/
def emptyS : List Bool := List.replicate 64 false
def addAll : List Int → List Bool → Except Int (List Bool)
  | [], s => .ok s
  | i :: r, s => if i < 0 ∨ 64 ≤ i then .error 16 else if s.getD i.toNat false = true then .error 12 else addAll r (s.set i.toNat true)
def setOf (l : List Int) : Except Int (List Bool) := addAll l emptyS
def cntT (s : List Bool) : Nat := s.countP (· = true)

theorem addAll_ok : ∀ {l : List Int} {s s' : List Bool}, s.length = 64 → addAll l s = .ok s' →
    s'.length = 64 ∧ cntT s' = cntT s + l.length ∧ (∀ x ∈ l, 0 ≤ x ∧ x < 64) ∧ ∀ i : Nat, s'.getD i false = (s.getD i false || decide ((i : Int) ∈ l))
  | [], s, s', hl, h => by
    simp only [addAll, Except.ok.injEq] at h
    subst h
    exact ⟨hl, by simp, by simp, by simp⟩
  | i :: r, s, s', hl, h => by
    simp only [addAll] at h
    split at h
    · cases h
    · rename_i h1
      split at h
      · cases h
      · rename_i h2
        obtain ⟨a1, a2, a3, a4⟩ := addAll_ok (l := r) (s := s.set i.toNat true) (by simpa using hl) h
        have hi : i.toNat < s.length := by omega
        refine ⟨a1, ?_, ?_, ?_⟩
        · rw [a2]
          unfold cntT
          rw [List.countP_set hi]
          have : s[i.toNat] = false := by
            have : s.getD i.toNat false = s[i.toNat] := by simp [List.getD, hi]
            rw [this] at h2
            simpa using h2
          simp [this]
          omega
        · intro x hx
          rcases List.mem_cons.1 hx with rfl | hx
          · omega
          · exact a3 x hx
        · intro j
          rw [a4 j]
          by_cases e : i.toNat = j
          · subst e
            have e2 : ((i.toNat : Nat) : Int) = i := by omega
            rw [e2]
            simp [List.getD, hi]
          · have e2 : ¬ (j : Int) = i := by omega
            have e3 : (s.set i.toNat true).getD j false = s.getD j false := by simp [List.getD, List.getElem?_set_ne e]
            rw [e3]
            simp [e2]
theorem addAll_can : ∀ {l : List Int} {s : List Bool}, s.length = 64 → l.Nodup → (∀ x ∈ l, 0 ≤ x ∧ x < 64 ∧ s.getD x.toNat false = false) → ∃ s', addAll l s = .ok s'
  | [], s, _, _, _ => ⟨s, rfl⟩
  | i :: r, s, hl, hn, h => by
    have hi := h i (by simp)
    have hn' := List.nodup_cons.1 hn
    obtain ⟨s', hs'⟩ := addAll_can (l := r) (s := s.set i.toNat true) (by simpa using hl) hn'.2 (fun x hx => by
      have hx' := h x (by simp [hx])
      refine ⟨hx'.1, hx'.2.1, ?_⟩
      have hne : ¬ i.toNat = x.toNat := by
        intro e
        have : i = x := by omega
        subst this
        exact hn'.1 hx
      have e3 : (s.set i.toNat true).getD x.toNat false = s.getD x.toNat false := by simp [List.getD, List.getElem?_set_ne hne]
      rw [e3]; exact hx'.2.2)
    refine ⟨s', ?_⟩
    rw [addAll, if_neg (by omega), if_neg (by rw [hi.2.2]; simp), hs']
theorem emptyS_get (i : Nat) : emptyS.getD i false = false := by
  unfold emptyS
  simp only [List.getD_eq_getElem?_getD, List.getElem?_replicate]
  split <;> rfl
theorem bools_ext {s t : List Bool} (h1 : s.length = 64) (h2 : t.length = 64) (h : ∀ i : Nat, i < 64 → s.getD i false = t.getD i false) : s = t := by
  apply List.ext_getElem (by omega)
  intro i g1 g2
  have := h i (by omega)
  simpa [List.getD, g1, g2] using this
/-! ### one set, made of two, bit by bit -/
def zipS (f : Bool → Bool → Bool) (a b : List Bool) : List Bool := (List.range 64).map fun i => f (a.getD i false) (b.getD i false)
def zipTo (f : Bool → Bool → Bool) (a b : List Bool) (k : Nat) : List Bool := (List.range 64).map fun i => if i < k then f (a.getD i false) (b.getD i false) else a.getD i false
theorem zipTo_len (f : Bool → Bool → Bool) (a b : List Bool) (k : Nat) : (zipTo f a b k).length = 64 := by simp [zipTo]
theorem zipTo_get (f : Bool → Bool → Bool) (a b : List Bool) (k i : Nat) (h : i < 64) : (zipTo f a b k)[i]'(by rw [zipTo_len]; exact h) = if i < k then f (a.getD i false) (b.getD i false) else a.getD i false := by simp [zipTo]
theorem zipTo_zero (f : Bool → Bool → Bool) {a : List Bool} (b : List Bool) (ha : a.length = 64) : zipTo f a b 0 = a := by
  apply List.ext_getElem (by rw [zipTo_len, ha])
  intro i h1 h2
  rw [zipTo_get _ _ _ _ _ (by omega), if_neg (by omega)]
  simp [List.getD, h2]
theorem zipTo_end (f : Bool → Bool → Bool) (a b : List Bool) : zipTo f a b 64 = zipS f a b := by
  unfold zipTo zipS
  apply List.map_congr_left
  intro i hi
  simp at hi
  simp [hi]
theorem zipTo_succ (f : Bool → Bool → Bool) (a b : List Bool) (k : Nat) (h : k < 64) : (zipTo f a b k).set k (f (a.getD k false) (b.getD k false)) = zipTo f a b (k + 1) := by
  apply List.ext_getElem (by simp [zipTo])
  intro i h1 h2
  rw [zipTo_len] at h2
  rw [zipTo_get _ _ _ _ _ h2, List.getElem_set]
  by_cases e : k = i
  · subst e; simp
  · rw [if_neg e, zipTo_get _ _ _ _ _ h2]
    by_cases e2 : i < k
    · rw [if_pos e2, if_pos (by omega)]
    · rw [if_neg e2, if_neg (by omega)]
theorem zipS_len (f : Bool → Bool → Bool) (a b : List Bool) : (zipS f a b).length = 64 := by simp [zipS]
theorem zipS_get (f : Bool → Bool → Bool) (a b : List Bool) (i : Nat) (h : i < 64) : (zipS f a b).getD i false = f (a.getD i false) (b.getD i false) := by simp [zipS, List.getD, h]
end Go.Proofs.YtjomihhpglojpaaDoor.Pl
end
