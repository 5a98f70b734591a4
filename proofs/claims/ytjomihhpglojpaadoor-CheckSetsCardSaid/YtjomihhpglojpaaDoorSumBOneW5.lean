/- Laid together by a program of mine: Pp Pl Bits. -/
import Derived.Test.YtjomihhpglojpaaDoorSumBOneW4
import Derived.Ground.NamesProg
import Derived.Shelf.Lay
import Derived.Shelf.Slices.Reverse
import Derived.Sort.OwnSortedInts
set_option linter.unusedSimpArgs false
set_option linter.unusedVariables false
section
/- The plain laws of places: bits of a signal; no program in sight. -/
namespace Go.Proofs.YtjomihhpglojpaaDoor.Pl

def nextB (mot : Bool) (b : Int) : Int := if mot = false then b + 1 else if b % 8 = 0 then b + 15 else b - 1
def seqB (mot : Bool) : Int → Nat → List Int
  | _, 0 => []
  | b, n + 1 => b :: seqB mot (nextB mot b) n
/-- The row that may be, or the error's number. -/
def bitsOfSig (start size : Int) (mot : Bool) : Except Int (List Int) :=
  if size < 1 ∨ 64 < size then .error 15
  else if start < 0 ∨ 63 < start then .error 16
  else if (seqB mot start size.toNat).all (· ≤ 63) then .ok (if mot then (seqB mot start size.toNat).reverse else seqB mot start size.toNat)
  else .error 16
def withinS (start size : Int) (mot : Bool) (n : Int) : Bool :=
  match bitsOfSig start size mot with
  | .ok l => decide (0 ≤ n ∧ n ≤ 8 ∧ ∀ x ∈ l, x < 8 * n)
  | .error _ => false

theorem seqB_len (mot : Bool) : ∀ n b, (seqB mot b n).length = n
  | 0, _ => rfl
  | n + 1, b => by simp [seqB, seqB_len mot n]

/-- A bit in a mirror, byte by byte. -/
def mir (b : Int) : Int := 8 * (b / 8) + 7 - b % 8
def pos (mot : Bool) (b : Int) : Int := if mot then mir b else b
theorem mir_mir (b : Int) : mir (mir b) = b := by unfold mir; omega
theorem pos_pos (mot : Bool) (b : Int) : pos mot (pos mot b) = b := by unfold pos; cases mot <;> simp [mir_mir]
theorem pos_next (mot : Bool) (b : Int) : pos mot (nextB mot b) = pos mot b + 1 := by
  unfold pos nextB mir
  cases mot
  · simp
  · simp; split <;> omega
theorem pos_lt (mot : Bool) (b n : Int) : pos mot b < 8 * n ↔ b < 8 * n := by unfold pos mir; cases mot <;> simp; omega
theorem pos_ge (mot : Bool) (b : Int) : 0 ≤ pos mot b ↔ 0 ≤ b := by unfold pos mir; cases mot <;> simp; omega
theorem seqB_get (mot : Bool) : ∀ n b i (h : i < (seqB mot b n).length), (seqB mot b n)[i] = pos mot (pos mot b + i)
  | 0, _, _, h => by simp [seqB] at h
  | n + 1, b, 0, _ => by simp [seqB, pos_pos]
  | n + 1, b, i + 1, h => by
    have h' : i < (seqB mot (nextB mot b) n).length := by simpa [seqB] using h
    have := seqB_get mot n (nextB mot b) i h'
    simp only [seqB, List.getElem_cons_succ, this, pos_next]
    congr 1
    push_cast
    omega
theorem seqB_mem {mot : Bool} {n : Nat} {b x : Int} (h : x ∈ seqB mot b n) : ∃ i, i < n ∧ x = pos mot (pos mot b + i) := by
  obtain ⟨i, hi, rfl⟩ := List.getElem_of_mem h
  exact ⟨i, by rw [seqB_len] at hi; exact hi, seqB_get mot n b i hi⟩
theorem seqB_mem_of {mot : Bool} {n : Nat} {b : Int} {i : Nat} (h : i < n) : pos mot (pos mot b + i) ∈ seqB mot b n := by
  rw [← seqB_get mot n b i (by rw [seqB_len]; exact h)]
  exact List.getElem_mem _
theorem nextB_bounds {mot : Bool} {b : Int} (h0 : 0 ≤ b) (h1 : b ≤ 63) : 0 ≤ nextB mot b ∧ nextB mot b ≤ 78 := by
  unfold nextB; cases mot <;> simp <;> (try split) <;> omega
theorem seqB_snoc (mot : Bool) : ∀ n b, seqB mot b (n + 1) = seqB mot b n ++ [pos mot (pos mot b + n)]
  | 0, b => by simp [seqB, pos_pos]
  | n + 1, b => by
    rw [seqB, seqB_snoc mot n (nextB mot b), seqB, pos_next]
    simp only [List.cons_append]
    congr 4
    push_cast
    omega
theorem seqB_take (mot : Bool) : ∀ n k b, k ≤ n → (seqB mot b n).take k = seqB mot b k
  | n, 0, b, _ => by simp [seqB]
  | 0, k + 1, _, h => by omega
  | n + 1, k + 1, b, h => by simp [seqB, seqB_take mot n k (nextB mot b) (by omega)]
theorem all_snoc (l : List Int) (x : Int) : (l ++ [x]).all (· ≤ 63) = (l.all (· ≤ 63) && decide (x ≤ 63)) := by simp
/-- What comes behind so many. -/
def nth (mot : Bool) (b : Int) : Nat → Int
  | 0 => b
  | n + 1 => nextB mot (nth mot b n)
theorem nth_pos (mot : Bool) (b : Int) : ∀ n, nth mot b n = pos mot (pos mot b + n)
  | 0 => by simp [nth, pos_pos]
  | n + 1 => by
    have := pos_next mot (nth mot b n)
    have h2 := nth_pos mot b n
    rw [nth, ← pos_pos mot (nextB mot (nth mot b n)), this, h2, pos_pos]
    congr 1
    push_cast
    omega
theorem seqB_snoc' (mot : Bool) (n : Nat) (b : Int) : seqB mot b (n + 1) = seqB mot b n ++ [nth mot b n] := by rw [seqB_snoc, nth_pos]
theorem all_take {mot : Bool} {b : Int} {n k : Nat} (h : k < n) (hb : 63 < nth mot b k) : (seqB mot b n).all (· ≤ 63) = false := by
  rw [List.all_eq_false]
  refine ⟨nth mot b k, ?_, by simp; omega⟩
  rw [nth_pos]
  exact seqB_mem_of h

/-- The greatest. -/
def maxL : List Int → Int
  | [] => 0
  | x :: r => r.foldl (fun m n => if m < n then n else m) x
theorem foldl_max_lt (l : List Int) : ∀ x m, l.foldl (fun m n => if m < n then n else m) x < m ↔ x < m ∧ ∀ y ∈ l, y < m := by
  induction l with
  | nil => intro x m; simp
  | cons y r ih =>
    intro x m
    rw [List.foldl_cons, ih]
    simp only [List.mem_cons, forall_eq_or_imp]
    split <;> constructor <;> rintro ⟨h1, h2⟩
    · exact ⟨by omega, h1, h2⟩
    · exact ⟨h2.1, h2.2⟩
    · exact ⟨h1, by omega, h2⟩
    · exact ⟨h1, h2.2⟩
theorem maxL_lt {l : List Int} (hl : l ≠ []) (m : Int) : maxL l < m ↔ ∀ y ∈ l, y < m := by
  cases l with
  | nil => exact absurd rfl hl
  | cons x r => simp only [maxL, foldl_max_lt, List.mem_cons, forall_eq_or_imp]
theorem maxL_snoc {l : List Int} (hl : l ≠ []) (x : Int) : maxL (l ++ [x]) = if maxL l < x then x else maxL l := by
  cases l with
  | nil => exact absurd rfl hl
  | cons y r =>
    show List.foldl _ y (r ++ [x]) = _
    rw [List.foldl_append]
    rfl

/-- What is a row that may be. -/
theorem bits_ok {start size : Int} {mot : Bool} {l : List Int} (h : bitsOfSig start size mot = .ok l) :
    1 ≤ size ∧ size ≤ 64 ∧ 0 ≤ start ∧ start ≤ 63 ∧ (l.length : Int) = size ∧ (∀ x ∈ l, 0 ≤ x ∧ x ≤ 63) ∧ (∀ x, x ∈ l ↔ x ∈ seqB mot start size.toNat) ∧ l = (if mot then (seqB mot start size.toNat).reverse else seqB mot start size.toNat) := by
  unfold bitsOfSig at h
  split at h
  · cases h
  split at h
  · cases h
  split at h
  · rename_i h1 h2 h3
    cases h
    have hm : ∀ x, x ∈ (if mot then (seqB mot start size.toNat).reverse else seqB mot start size.toNat) ↔ x ∈ seqB mot start size.toNat := by intro x; cases mot <;> simp
    refine ⟨by omega, by omega, by omega, by omega, ?_, fun x hx => ?_, hm, rfl⟩
    · cases mot <;> simp [seqB_len] <;> omega
    · have hx' := (hm x).1 hx
      have h4 := List.all_eq_true.1 h3 x hx'
      obtain ⟨i, hi, rfl⟩ := seqB_mem hx'
      have h5 : 0 ≤ pos mot (pos mot start + i) := (pos_ge _ _).2 (by have := (pos_ge mot start).2 (by omega); omega)
      exact ⟨h5, by simpa using h4⟩
  · cases h

theorem within_size {start size : Int} {mot : Bool} {n : Int} (h : withinS start size mot n = true) : size ≤ 8 * n := by
  unfold withinS at h
  split at h
  · rename_i l hl
    obtain ⟨g1, g2, g3, g4, g5, g6, g7, _⟩ := bits_ok hl
    have h' := of_decide_eq_true h
    have hmem : pos mot (pos mot start + ((size.toNat - 1 : Nat) : Int)) ∈ l := (g7 _).2 (seqB_mem_of (by omega))
    have := (pos_lt mot _ n).2 (h'.2.2 _ hmem)
    rw [pos_pos] at this
    have h0 := (pos_ge mot start).2 g3
    omega
  · cases h
theorem within_more {start size : Int} {mot : Bool} {n : Int} (h : withinS start size mot n = true) (hn : n ≠ 8) : withinS start size mot (n + 1) = true := by
  unfold withinS at h ⊢
  split at h
  · have h' := of_decide_eq_true h
    exact decide_eq_true ⟨by omega, by omega, fun x hx => by have := h'.2.2 x hx; omega⟩
  · cases h
theorem within_8 (start size : Int) (mot : Bool) : withinS start size mot 8 = (match bitsOfSig start size mot with | .ok _ => true | .error _ => false) := by
  unfold withinS
  split
  · rename_i l hl
    obtain ⟨_, _, _, _, _, g6, _, _⟩ := bits_ok hl
    exact decide_eq_true ⟨by omega, by omega, fun x hx => by have := g6 x hx; omega⟩
  · rfl
theorem within_out {start size : Int} {mot : Bool} {n : Int} (h : n < 0 ∨ 8 < n) : withinS start size mot n = false := by
  unfold withinS
  split
  · exact decide_eq_false (by omega)
  · rfl
end Go.Proofs.YtjomihhpglojpaaDoor.Pl
end
section
/- place: what the program computes. -/
namespace Go.Proofs.YtjomihhpglojpaaDoor
open Go.RowKit
set_option linter.unusedSimpArgs false
set_option linter.unusedVariables false
attribute [local irreducible] wpList wpQuiet wpStill Code.wp Exit.then Exit.inBlock bodyPost Calls Does Does0

/-- A signal's cells, as far as its place goes. -/
structure SigAt (cs : Array Value) (start size : Int) (mot : Bool) : Prop where
  len : cs.size = 19
  st : cs[5]? = some (.int .i64 start)
  sz : cs[6]? = some (.int .i64 size)
  mo : cs[7]? = some (.bool mot)

end Go.Proofs.YtjomihhpglojpaaDoor
namespace Go.Proofs
open Go.Shelf
def Tryd.laysRev_ren : Go.Shelf.Ren := ⟨fun | 112 => 66 | n => n, fun | 28 => 81 | 3 => 3 | 4 => 4 | 0 => 0 | n => n, fun | n => n⟩
theorem Tryd.laysRev : Go.Proofs.Lays.n112 Tryd.prog Tryd.laysRev_ren := {
  mixed := by kernel_rfl
  f112 := Tryd.func66.trans (congrArg some (by kernel_rfl))
  t0 := Tryd.underlying0
  a0 := Tryd.isAgg0
  z0 := Tryd.sizeOf0
  v0 := Tryd.zeroValue0
  t3 := Tryd.underlying3
  a3 := Tryd.isAgg3
  z3 := Tryd.sizeOf3
  v3 := Tryd.zeroValue3
  t4 := Tryd.underlying4
  a4 := Tryd.isAgg4
  z4 := Tryd.sizeOf4
  v4 := Tryd.zeroValue4
  t28 := Tryd.underlying81
  a28 := Tryd.isAgg81
  z28 := Tryd.sizeOf81
  v28 := Tryd.zeroValue81 }
end Go.Proofs
namespace Go.Proofs.YtjomihhpglojpaaDoor
open Go.RowKit
set_option linter.unusedSimpArgs false
set_option linter.unusedVariables false
attribute [local irreducible] wpList wpQuiet wpStill Code.wp Exit.then Exit.inBlock bodyPost Calls Does Does0
open Go.Sort Go.Shelf
theorem reverse_ok (w : World) (xs : List Int) (base g n c : Nat) (hown : w.ownsRow base 3 1 (.slice (some ⟨g, 0, none⟩) n c) n (xs.map (.int .i64))) (hb : n ≤ 9223372036854775807) :
    Ret Tryd.prog 66 #[.slice (some ⟨g, 0, none⟩) n c] w (fun v w' => w'.ownsRow base 3 1 (.slice (some ⟨g, 0, none⟩) n c) n (xs.reverse.map (.int .i64)) ∧ w.grownBy w' (some g)) := by
  have hn : xs.length = n := by simpa using hown.1
  subst hn
  rcases hown.2 with ⟨h0, _⟩ | ⟨g', cap', cur, h0, hbg, hg, hle, hm, hsz, htk⟩
  · cases h0
  obtain ⟨rfl, rfl⟩ : g' = g ∧ cap' = c := by cases h0; exact ⟨rfl, rfl⟩
  rw [Nat.mul_one] at htk
  have h := Any.slices_Reverse_int Tryd.laysRev g' 0 cap' xs w (holds_of_blockI hg htk) (by omega)
  refine Calls.mono h ?_
  rintro e w' ⟨rfl, n, rfl⟩
  refine ⟨_, rfl, ?_, ?_⟩
  · have := ownsRow_sortedI (w := w) (n := n) (os := #[]) (ts := xs.reverse) (ss := xs) (by simp) hbg hg hle hm hsz
    rwa [grow_empty] at this
  · have := grownBy_sortedI (w := w) (g := g') (n := n) (os := #[]) xs.reverse.toArray
    rwa [grow_empty] at this
end Go.Proofs.YtjomihhpglojpaaDoor
end
section
/- place.Bits and place.Within: what they compute. -/
namespace Go.Proofs.YtjomihhpglojpaaDoor
open Go.RowKit
set_option linter.unusedSimpArgs false
set_option linter.unusedVariables false
attribute [local irreducible] wpList wpQuiet wpStill Code.wp Exit.then Exit.inBlock bodyPost Calls Does Does0

set_option maxHeartbeats 2000000 in
theorem next_ok (w : World) (nb sb : Nat) (cs : Array Value) (start size b : Int) (mot : Bool) (e : TypeId) (hs : SigAt cs start size mot) (hsb : w.heap[sb]? = some (.cells cs 38 (0, 0))) (hnb : w.heap[nb]? = some (.cells #[.int .i64 b] 3 (0, 0)))
    (h0 : 0 ≤ b) (h1 : b ≤ 100) :
    Ret Tryd.prog 87 #[.pointer (some ⟨nb, 0, none⟩), .pointer (some ⟨sb, 0, none⟩)] w (fun v w' => v = .int .i64 b ∧ w'.heap[nb]? = some (.cells #[.int .i64 (Pl.nextB mot b)] 3 (0, 0)) ∧ w.grownBy w' (some nb)) := by
  have c0 : w.cell? ⟨nb, 0, none⟩ = some (.int .i64 b) := cell_at hnb rfl
  have c7 : w.cell? ⟨sb, 7, none⟩ = some (.bool mot) := cell_at hsb hs.mo
  refine enter2 Tryd.func87 rfl 18 rfl 20 rfl (fun a hF => ?_)
  cases mot with
  | false =>
    have hx : Pl.nextB false b = b + 1 := rfl
    rw [hx]
    repeat (first | refine c_seq ?_ | refine c_block ?_ | refine c_region _ ?_ | refine wpList_nil ?_ | refine c_then ?_ | refine c_then_exit ?_ | refine c_then_ret ?_ | refine c_in ?_ | refine c_in_ret ?_ | refine c_in_hit ?_ | refine wp_skip ?_ | refine wp_exit ?_ | refine wp_ret ?_ | refine c_in_miss rfl ?_ | ((first | apply st hF | apply stg hF | apply s_step hF | apply s_stg hF); (first | exact d_move | exact d_assign | exact d_not | exact d_add | exact d_sub | exact d_rem | exact d_cmpT | exact d_cmpF | exact d_cmp | exact d_eqbT (und _ _ rfl) | exact d_eqbF (und _ _ rfl) | exact d_eqb (und _ _ rfl) | exact d_eqST | exact d_eqSF | exact d_eqS | exact d_fieldAddr (fld _ _ _ _ rfl) (isz _ _ rfl) | exact d_eqN (ifc _ rfl) | exact d_neN (ifc _ rfl) | exact d_load (und _ _ rfl) c0 | exact d_load (und _ _ rfl) c7); clear hF; clear a; intro a hF) | ((first | apply stm hF | apply stu hF); clear hF; clear a; intro a hF) | (apply c_cond_t hF; exact rfl; first | exact rfl | assumption) | (apply c_cond_f hF; exact rfl; first | exact rfl | assumption) | refine s_nil ?_)
    refine st_store hF (isz _ _ rfl) hnb (i := 0) (by simp) rfl rfl rfl fun a w' hg' hgr hsz hF => ?_
    repeat (first | refine c_seq ?_ | refine c_block ?_ | refine c_region _ ?_ | refine wpList_nil ?_ | refine c_then ?_ | refine c_then_exit ?_ | refine c_then_ret ?_ | refine c_in ?_ | refine c_in_ret ?_ | refine c_in_hit ?_ | refine wp_skip ?_ | refine wp_exit ?_ | refine wp_ret ?_ | refine c_in_miss rfl ?_ | ((first | apply st hF | apply stg hF | apply s_step hF | apply s_stg hF); (first | exact d_move | exact d_assign | exact d_not | exact d_add | exact d_sub | exact d_rem | exact d_cmpT | exact d_cmpF | exact d_cmp | exact d_eqbT (und _ _ rfl) | exact d_eqbF (und _ _ rfl) | exact d_eqb (und _ _ rfl) | exact d_eqST | exact d_eqSF | exact d_eqS | exact d_fieldAddr (fld _ _ _ _ rfl) (isz _ _ rfl) | exact d_eqN (ifc _ rfl) | exact d_neN (ifc _ rfl)); clear hF; clear a; intro a hF) | ((first | apply stm hF | apply stu hF); clear hF; clear a; intro a hF) | (apply c_cond_t hF; exact rfl; first | exact rfl | assumption) | (apply c_cond_f hF; exact rfl; first | exact rfl | assumption) | refine s_nil ?_)
    exact ret1 hF rfl rfl ⟨rfl, hg', hgr⟩
  | true =>
    by_cases h8 : b % 8 = 0
    · have hx : Pl.nextB true b = b + 15 := by simp [Pl.nextB, h8]
      rw [hx]
      repeat (first | refine c_seq ?_ | refine c_block ?_ | refine c_region _ ?_ | refine wpList_nil ?_ | refine c_then ?_ | refine c_then_exit ?_ | refine c_then_ret ?_ | refine c_in ?_ | refine c_in_ret ?_ | refine c_in_hit ?_ | refine wp_skip ?_ | refine wp_exit ?_ | refine wp_ret ?_ | refine c_in_miss rfl ?_ | ((first | apply st hF | apply stg hF | apply s_step hF | apply s_stg hF); (first | exact d_move | exact d_assign | exact d_not | exact d_add | exact d_sub | exact d_rem | exact d_cmpT | exact d_cmpF | exact d_cmp | exact d_eqbT (und _ _ rfl) | exact d_eqbF (und _ _ rfl) | exact d_eqb (und _ _ rfl) | exact d_eqST | exact d_eqSF | exact d_eqS | exact d_fieldAddr (fld _ _ _ _ rfl) (isz _ _ rfl) | exact d_eqN (ifc _ rfl) | exact d_neN (ifc _ rfl) | exact d_load (und _ _ rfl) c0 | exact d_load (und _ _ rfl) c7); clear hF; clear a; intro a hF) | ((first | apply stm hF | apply stu hF); clear hF; clear a; intro a hF) | (apply c_cond_t hF; exact rfl; first | exact rfl | assumption) | (apply c_cond_f hF; exact rfl; first | exact rfl | assumption) | refine s_nil ?_)
      refine st_store hF (isz _ _ rfl) hnb (i := 0) (by simp) rfl rfl rfl fun a w' hg' hgr hsz hF => ?_
      repeat (first | refine c_seq ?_ | refine c_block ?_ | refine c_region _ ?_ | refine wpList_nil ?_ | refine c_then ?_ | refine c_then_exit ?_ | refine c_then_ret ?_ | refine c_in ?_ | refine c_in_ret ?_ | refine c_in_hit ?_ | refine wp_skip ?_ | refine wp_exit ?_ | refine wp_ret ?_ | refine c_in_miss rfl ?_ | ((first | apply st hF | apply stg hF | apply s_step hF | apply s_stg hF); (first | exact d_move | exact d_assign | exact d_not | exact d_add | exact d_sub | exact d_rem | exact d_cmpT | exact d_cmpF | exact d_cmp | exact d_eqbT (und _ _ rfl) | exact d_eqbF (und _ _ rfl) | exact d_eqb (und _ _ rfl) | exact d_eqST | exact d_eqSF | exact d_eqS | exact d_fieldAddr (fld _ _ _ _ rfl) (isz _ _ rfl) | exact d_eqN (ifc _ rfl) | exact d_neN (ifc _ rfl)); clear hF; clear a; intro a hF) | ((first | apply stm hF | apply stu hF); clear hF; clear a; intro a hF) | (apply c_cond_t hF; exact rfl; first | exact rfl | assumption) | (apply c_cond_f hF; exact rfl; first | exact rfl | assumption) | refine s_nil ?_)
      exact ret1 hF rfl rfl ⟨rfl, hg', hgr⟩
    · have hx : Pl.nextB true b = b - 1 := by simp [Pl.nextB, h8]
      rw [hx]
      repeat (first | refine c_seq ?_ | refine c_block ?_ | refine c_region _ ?_ | refine wpList_nil ?_ | refine c_then ?_ | refine c_then_exit ?_ | refine c_then_ret ?_ | refine c_in ?_ | refine c_in_ret ?_ | refine c_in_hit ?_ | refine wp_skip ?_ | refine wp_exit ?_ | refine wp_ret ?_ | refine c_in_miss rfl ?_ | ((first | apply st hF | apply stg hF | apply s_step hF | apply s_stg hF); (first | exact d_move | exact d_assign | exact d_not | exact d_add | exact d_sub | exact d_rem | exact d_cmpT | exact d_cmpF | exact d_cmp | exact d_eqbT (und _ _ rfl) | exact d_eqbF (und _ _ rfl) | exact d_eqb (und _ _ rfl) | exact d_eqST | exact d_eqSF | exact d_eqS | exact d_fieldAddr (fld _ _ _ _ rfl) (isz _ _ rfl) | exact d_eqN (ifc _ rfl) | exact d_neN (ifc _ rfl) | exact d_load (und _ _ rfl) c0 | exact d_load (und _ _ rfl) c7); clear hF; clear a; intro a hF) | ((first | apply stm hF | apply stu hF); clear hF; clear a; intro a hF) | (apply c_cond_t hF; exact rfl; first | exact rfl | assumption) | (apply c_cond_f hF; exact rfl; first | exact rfl | assumption) | refine s_nil ?_)
      refine st_store hF (isz _ _ rfl) hnb (i := 0) (by simp) rfl rfl rfl fun a w' hg' hgr hsz hF => ?_
      repeat (first | refine c_seq ?_ | refine c_block ?_ | refine c_region _ ?_ | refine wpList_nil ?_ | refine c_then ?_ | refine c_then_exit ?_ | refine c_then_ret ?_ | refine c_in ?_ | refine c_in_ret ?_ | refine c_in_hit ?_ | refine wp_skip ?_ | refine wp_exit ?_ | refine wp_ret ?_ | refine c_in_miss rfl ?_ | ((first | apply st hF | apply stg hF | apply s_step hF | apply s_stg hF); (first | exact d_move | exact d_assign | exact d_not | exact d_add | exact d_sub | exact d_rem | exact d_cmpT | exact d_cmpF | exact d_cmp | exact d_eqbT (und _ _ rfl) | exact d_eqbF (und _ _ rfl) | exact d_eqb (und _ _ rfl) | exact d_eqST | exact d_eqSF | exact d_eqS | exact d_fieldAddr (fld _ _ _ _ rfl) (isz _ _ rfl) | exact d_eqN (ifc _ rfl) | exact d_neN (ifc _ rfl)); clear hF; clear a; intro a hF) | ((first | apply stm hF | apply stu hF); clear hF; clear a; intro a hF) | (apply c_cond_t hF; exact rfl; first | exact rfl | assumption) | (apply c_cond_f hF; exact rfl; first | exact rfl | assumption) | refine s_nil ?_)
      exact ret1 hF rfl rfl ⟨rfl, hg', hgr⟩

set_option maxHeartbeats 2000000 in
theorem counter_ok (w : World) (cs : Array Value) (start size : Int) (mot : Bool) (hs : SigAt cs start size mot) :
    Ret Tryd.prog 65 #[.agg cs] w (fun v w' => ∃ nb sb, w.heap.size ≤ nb ∧ w.heap.size ≤ sb ∧ nb ≠ sb ∧ v = .func (.func 87) #[] [.pointer (some ⟨nb, 0, none⟩), .pointer (some ⟨sb, 0, none⟩)].toArray ∧
      w'.heap[sb]? = some (.cells cs 38 (0, 0)) ∧ w'.heap[nb]? = some (.cells #[.int .i64 start] 3 (0, 0)) ∧ w.grownBy w' none) := by
  refine enter1 Tryd.func65 rfl 6 rfl 7 rfl (fun a hF => ?_)
  repeat (first | refine c_seq ?_ | refine c_block ?_ | refine c_region _ ?_ | refine wpList_nil ?_ | refine c_then ?_ | refine c_then_exit ?_ | refine c_then_ret ?_ | refine c_in ?_ | refine c_in_ret ?_ | refine c_in_hit ?_ | refine wp_skip ?_ | refine wp_exit ?_ | refine wp_ret ?_ | refine c_in_miss rfl ?_ | ((first | apply st hF | apply stg hF | apply s_step hF | apply s_stg hF); (first | exact d_assign | exact d_fieldAddr (fld _ _ _ _ rfl) (isz _ _ rfl)); clear hF; clear a; intro a hF) | ((first | apply stm hF | apply stu hF); clear hF; clear a; intro a hF) | (apply c_cond_t hF; exact rfl; first | exact rfl | assumption) | (apply c_cond_f hF; exact rfl; first | exact rfl | assumption) | refine s_nil ?_)
  refine st_box hF (cs := cs) rfl (k := fun a w1 hsb hgr hsz hF => ?_)
  have c5 : w1.cell? ⟨w.heap.size, 5, none⟩ = some (.int .i64 start) := cell_at hsb hs.st
  repeat (first | refine c_seq ?_ | refine c_block ?_ | refine c_region _ ?_ | refine wpList_nil ?_ | refine c_then ?_ | refine c_then_exit ?_ | refine c_then_ret ?_ | refine c_in ?_ | refine c_in_ret ?_ | refine c_in_hit ?_ | refine wp_skip ?_ | refine wp_exit ?_ | refine wp_ret ?_ | refine c_in_miss rfl ?_ | ((first | apply st hF | apply stg hF | apply s_step hF | apply s_stg hF); (first | exact d_assign | exact d_fieldAddr (fld _ _ _ _ rfl) (isz _ _ rfl) | exact d_load (und _ _ rfl) c5); clear hF; clear a; intro a hF) | ((first | apply stm hF | apply stu hF); clear hF; clear a; intro a hF) | (apply c_cond_t hF; exact rfl; first | exact rfl | assumption) | (apply c_cond_f hF; exact rfl; first | exact rfl | assumption) | refine s_nil ?_)
  refine st_alloc hF inf3 (k := fun a w2 hnb hgr2 hsz2 hF => ?_)
  have hnb : w2.heap[w1.heap.size]? = some (.cells #[.int .i64 0] 3 (0, 0)) := hnb
  have hsb2 := blk_kept hsb hgr2 (by simp)
  repeat (first | refine c_seq ?_ | refine c_block ?_ | refine c_region _ ?_ | refine wpList_nil ?_ | refine c_then ?_ | refine c_then_exit ?_ | refine c_then_ret ?_ | refine c_in ?_ | refine c_in_ret ?_ | refine c_in_hit ?_ | refine wp_skip ?_ | refine wp_exit ?_ | refine wp_ret ?_ | refine c_in_miss rfl ?_ | ((first | apply st hF | apply stg hF | apply s_step hF | apply s_stg hF); (first | exact d_assign | exact d_fieldAddr (fld _ _ _ _ rfl) (isz _ _ rfl)); clear hF; clear a; intro a hF) | ((first | apply stm hF | apply stu hF); clear hF; clear a; intro a hF) | (apply c_cond_t hF; exact rfl; first | exact rfl | assumption) | (apply c_cond_f hF; exact rfl; first | exact rfl | assumption) | refine s_nil ?_)
  refine st_store hF (isz _ _ rfl) hnb (i := 0) (by simp) rfl rfl rfl fun a w3 hnb3 hgr3 hsz3 hF => ?_
  have hsb3 := blk_kept hsb2 hgr3 (by simp; omega)
  repeat (first | refine c_seq ?_ | refine c_block ?_ | refine c_region _ ?_ | refine wpList_nil ?_ | refine c_then ?_ | refine c_then_exit ?_ | refine c_then_ret ?_ | refine c_in ?_ | refine c_in_ret ?_ | refine c_in_hit ?_ | refine wp_skip ?_ | refine wp_exit ?_ | refine wp_ret ?_ | refine c_in_miss rfl ?_ | ((first | apply st hF | apply stg hF | apply s_step hF | apply s_stg hF); (first | exact d_assign | exact d_fieldAddr (fld _ _ _ _ rfl) (isz _ _ rfl) | exact d_makeFunc (vs := [.pointer (some ⟨w1.heap.size, 0, none⟩), .pointer (some ⟨w.heap.size, 0, none⟩)]) ⟨rfl, rfl, trivial⟩); clear hF; clear a; intro a hF) | ((first | apply stm hF | apply stu hF); clear hF; clear a; intro a hF) | (apply c_cond_t hF; exact rfl; first | exact rfl | assumption) | (apply c_cond_f hF; exact rfl; first | exact rfl | assumption) | refine s_nil ?_)
  refine ret1 hF rfl rfl ⟨w1.heap.size, w.heap.size, by omega, by omega, by omega, rfl, hsb3, hnb3, ?_⟩
  refine ⟨?_, ?_, ?_, ?_, ?_⟩
  · exact hgr3.os.trans (hgr2.os.trans hgr.os)
  · exact hgr3.tape.trans (hgr2.tape.trans hgr.tape)
  · exact hgr3.output.trans (hgr2.output.trans hgr.output)
  · omega
  · intro k hk hne
    rw [hgr3.block k (by omega) (by simp; omega), hgr2.block k (by omega) (by simp), hgr.block k hk (by simp)]

/-- The two results of place.Bits. -/
def BitsRes (base : Nat) (w : World) (v : Value) : Except Int (List Int) → Prop
  | .ok l => ∃ g cap, v = .tuple #[.slice (some ⟨g, 0, none⟩) l.length cap, .nilIface] ∧ base ≤ g ∧ w.ownsRow base 3 1 (.slice (some ⟨g, 0, none⟩) l.length cap) l.length (l.map (.int .i64))
  | .error e => v = .tuple #[.slice none 0 0, .iface 73 (.int .i64 e)]

set_option maxHeartbeats 4000000 in
theorem bits_of (w : World) (cs : Array Value) (start size : Int) (mot : Bool) (hs : SigAt cs start size mot) :
    Ret Tryd.prog 38 #[.agg cs] w (fun v w' => BitsRes w.heap.size w' v (Pl.bitsOfSig start size mot) ∧ Below w.heap.size w w') := by
  refine enter1 Tryd.func38 rfl 48 rfl 49 rfl (fun a hF => ?_)
  repeat (first | refine c_seq ?_ | refine c_block ?_ | refine c_region _ ?_ | refine wpList_nil ?_ | refine c_then ?_ | refine c_then_exit ?_ | refine c_then_ret ?_ | refine c_in ?_ | refine c_in_ret ?_ | refine c_in_hit ?_ | refine wp_skip ?_ | refine wp_exit ?_ | refine wp_ret ?_ | refine c_in_miss rfl ?_ | ((first | apply st hF | apply stg hF | apply s_step hF | apply s_stg hF); (first | exact d_move | exact d_assign | exact d_pickT | exact d_pickF | exact d_cmpT | exact d_cmpF | exact d_cmp | exact d_len (und _ _ rfl) | exact d_lens (und _ _ rfl) | exact d_fieldAddr (fld _ _ _ _ rfl) (isz _ _ rfl) | exact d_makeI (con _ rfl)); clear hF; clear a; intro a hF) | ((first | apply stm hF | apply stu hF); clear hF; clear a; intro a hF) | (apply c_cond_t hF; exact rfl; first | exact rfl | assumption) | (apply c_cond_f hF; exact rfl; first | exact rfl | assumption) | refine s_nil ?_)
  refine st_box hF (cs := cs) rfl (k := fun a w1 hsb hgr hsz1 hF => ?_)
  have c5 : w1.cell? ⟨w.heap.size, 5, none⟩ = some (.int .i64 start) := cell_at hsb hs.st
  have c6 : w1.cell? ⟨w.heap.size, 6, none⟩ = some (.int .i64 size) := cell_at hsb hs.sz
  have hb1 : Below w.heap.size w w1 := (Below.refl _ w).grown hgr (Nat.le_refl _) (fun k hk => by cases hk)
  by_cases h1 : size < 1 ∨ 64 < size
  · have hE : Pl.bitsOfSig start size mot = .error 15 := by unfold Pl.bitsOfSig; rw [if_pos h1]
    by_cases h2 : size < 1
    all_goals
      repeat (first | refine c_seq ?_ | refine c_block ?_ | refine c_region _ ?_ | refine wpList_nil ?_ | refine c_then ?_ | refine c_then_exit ?_ | refine c_then_ret ?_ | refine c_in ?_ | refine c_in_ret ?_ | refine c_in_hit ?_ | refine wp_skip ?_ | refine wp_exit ?_ | refine wp_ret ?_ | refine c_in_miss rfl ?_ | ((first | apply st hF | apply stg hF | apply s_step hF | apply s_stg hF); (first | exact d_move | exact d_assign | exact d_pickT | exact d_pickF | exact d_cmpT | exact d_cmpF | exact d_cmp | exact d_len (und _ _ rfl) | exact d_lens (und _ _ rfl) | exact d_fieldAddr (fld _ _ _ _ rfl) (isz _ _ rfl) | exact d_makeI (con _ rfl) | exact d_load (und _ _ rfl) c5 | exact d_load (und _ _ rfl) c6); clear hF; clear a; intro a hF) | ((first | apply stm hF | apply stu hF); clear hF; clear a; intro a hF) | (apply c_cond_t hF; exact rfl; first | exact rfl | assumption) | (apply c_cond_f hF; exact rfl; first | exact rfl | assumption) | refine s_nil ?_)
      refine ret2 hF rfl rfl rfl ⟨?_, hb1⟩
      rw [hE]
      rfl
  by_cases h3 : start < 0 ∨ 63 < start
  · have hE : Pl.bitsOfSig start size mot = .error 16 := by unfold Pl.bitsOfSig; rw [if_neg h1, if_pos h3]
    by_cases h2 : start < 0
    all_goals
      repeat (first | refine c_seq ?_ | refine c_block ?_ | refine c_region _ ?_ | refine wpList_nil ?_ | refine c_then ?_ | refine c_then_exit ?_ | refine c_then_ret ?_ | refine c_in ?_ | refine c_in_ret ?_ | refine c_in_hit ?_ | refine wp_skip ?_ | refine wp_exit ?_ | refine wp_ret ?_ | refine c_in_miss rfl ?_ | ((first | apply st hF | apply stg hF | apply s_step hF | apply s_stg hF); (first | exact d_move | exact d_assign | exact d_pickT | exact d_pickF | exact d_cmpT | exact d_cmpF | exact d_cmp | exact d_len (und _ _ rfl) | exact d_lens (und _ _ rfl) | exact d_fieldAddr (fld _ _ _ _ rfl) (isz _ _ rfl) | exact d_makeI (con _ rfl) | exact d_load (und _ _ rfl) c5 | exact d_load (und _ _ rfl) c6); clear hF; clear a; intro a hF) | ((first | apply stm hF | apply stu hF); clear hF; clear a; intro a hF) | (apply c_cond_t hF; exact rfl; first | exact rfl | assumption) | (apply c_cond_f hF; exact rfl; first | exact rfl | assumption) | refine s_nil ?_)
      refine ret2 hF rfl rfl rfl ⟨?_, hb1⟩
      rw [hE]
      rfl
  have hE : Pl.bitsOfSig start size mot = if (Pl.seqB mot start size.toNat).all (· ≤ 63) then .ok (if mot then (Pl.seqB mot start size.toNat).reverse else Pl.seqB mot start size.toNat) else .error 16 := by unfold Pl.bitsOfSig; rw [if_neg h1, if_neg h3]
  obtain ⟨S, hS⟩ : ∃ S : Nat, size = (S : Int) := ⟨size.toNat, by omega⟩
  subst hS
  rw [Int.toNat_natCast] at hE
  repeat (first | refine c_seq ?_ | refine c_block ?_ | refine c_region _ ?_ | refine wpList_nil ?_ | refine c_then ?_ | refine c_then_exit ?_ | refine c_then_ret ?_ | refine c_in ?_ | refine c_in_ret ?_ | refine c_in_hit ?_ | refine wp_skip ?_ | refine wp_exit ?_ | refine wp_ret ?_ | refine c_in_miss rfl ?_ | ((first | apply st hF | apply stg hF | apply s_step hF | apply s_stg hF); (first | exact d_move | exact d_assign | exact d_pickT | exact d_pickF | exact d_cmpT | exact d_cmpF | exact d_cmp | exact d_len (und _ _ rfl) | exact d_lens (und _ _ rfl) | exact d_fieldAddr (fld _ _ _ _ rfl) (isz _ _ rfl) | exact d_makeI (con _ rfl) | exact d_load (und _ _ rfl) c5 | exact d_load (und _ _ rfl) c6); clear hF; clear a; intro a hF) | ((first | apply stm hF | apply stu hF); clear hF; clear a; intro a hF) | (apply c_cond_t hF; exact rfl; first | exact rfl | assumption) | (apply c_cond_f hF; exact rfl; first | exact rfl | assumption) | refine s_nil ?_)
  refine st_make0 hF (und _ _ rfl) inf3 (c := S) (base := w.heap.size) (by omega) (by unfold maxLen; omega) hb1.size rfl (k := fun a w2 hown2 hgr2 hF => ?_)
  have hsb2 := blk_kept hsb hgr2 (by simp)
  have hb2 : Below w.heap.size w w2 := hb1.grown hgr2 hb1.size (fun k hk => by cases hk)
  repeat (first | refine c_seq ?_ | refine c_block ?_ | refine c_region _ ?_ | refine wpList_nil ?_ | refine c_then ?_ | refine c_then_exit ?_ | refine c_then_ret ?_ | refine c_in ?_ | refine c_in_ret ?_ | refine c_in_hit ?_ | refine wp_skip ?_ | refine wp_exit ?_ | refine wp_ret ?_ | refine c_in_miss rfl ?_ | ((first | apply st hF | apply stg hF | apply s_step hF | apply s_stg hF); (first | exact d_move | exact d_assign | exact d_pickT | exact d_pickF | exact d_cmpT | exact d_cmpF | exact d_cmp | exact d_len (und _ _ rfl) | exact d_lens (und _ _ rfl) | exact d_fieldAddr (fld _ _ _ _ rfl) (isz _ _ rfl) | exact d_makeI (con _ rfl) | exact d_loadAgg (agg _ rfl) (isz _ _ rfl) hs.len (cells_at hsb2)); clear hF; clear a; intro a hF) | ((first | apply stm hF | apply stu hF); clear hF; clear a; intro a hF) | (apply c_cond_t hF; exact rfl; first | exact rfl | assumption) | (apply c_cond_f hF; exact rfl; first | exact rfl | assumption) | refine s_nil ?_)
  refine stc hF (counter_ok w2 cs start S mot hs) cal65 ⟨rfl, trivial⟩ (k := fun a v w3 hR hF => ?_)
  obtain ⟨nb, sb, hnbsz, hsbsz, hne, rfl, hcb3, hnb3, hgr3⟩ := hR
  have hsb3 := blk_kept hsb2 hgr3 (by simp)
  have hown3 := own_grown hown2 hgr3
  have hb3 : Below w.heap.size w w3 := hb2.grown hgr3 hb2.size (fun k hk => by cases hk)
  have hz2 := hb2.size
  have hz1 := hgr2.size
  have hlt2 : w1.heap.size < w2.heap.size := (hown2.lt _ rfl).2
  clear hown2 hb2 hb1 hsb hsb2 c5 c6
  repeat (first | refine c_seq ?_ | refine c_block ?_ | refine c_region _ ?_ | refine wpList_nil ?_ | refine c_then ?_ | refine c_then_exit ?_ | refine c_then_ret ?_ | refine c_in ?_ | refine c_in_ret ?_ | refine c_in_hit ?_ | refine wp_skip ?_ | refine wp_exit ?_ | refine wp_ret ?_ | refine c_in_miss rfl ?_ | ((first | apply st hF | apply stg hF | apply s_step hF | apply s_stg hF); (first | exact d_move | exact d_assign | exact d_pickT | exact d_pickF | exact d_cmpT | exact d_cmpF | exact d_cmp | exact d_len (und _ _ rfl) | exact d_lens (und _ _ rfl) | exact d_fieldAddr (fld _ _ _ _ rfl) (isz _ _ rfl) | exact d_makeI (con _ rfl)); clear hF; clear a; intro a hF) | ((first | apply stm hF | apply stu hF); clear hF; clear a; intro a hF) | (apply c_cond_t hF; exact rfl; first | exact rfl | assumption) | (apply c_cond_f hF; exact rfl; first | exact rfl | assumption) | refine s_nil ?_)
  refine c_loop (fun n a wr => ∃ k ao' cap', k ≤ S ∧ n = S - k ∧ Fr 49 [(1, .pointer (some ⟨w.heap.size, 0, none⟩)), (4, .slice ao' k cap'), (5, .func (.func 87) #[] [.pointer (some ⟨nb, 0, none⟩), .pointer (some ⟨sb, 0, none⟩)].toArray)] a ∧
    (Pl.seqB mot start k).all (· ≤ 63) = true ∧ 0 ≤ Pl.nth mot start k ∧ Pl.nth mot start k ≤ 78 ∧
    wr.ownsRow w.heap.size 3 1 (.slice ao' k cap') k ((Pl.seqB mot start k).map (.int .i64)) ∧ wr.heap[w.heap.size]? = some (.cells cs 38 (0, 0)) ∧ wr.heap[sb]? = some (.cells cs 38 (0, 0)) ∧ wr.heap[nb]? = some (.cells #[.int .i64 (Pl.nth mot start k)] 3 (0, 0)) ∧
    (∀ q, (Value.slice ao' k cap').ownBlock = some q → q ≠ nb) ∧ nb < wr.heap.size ∧ Below w.heap.size w wr) S
    ⟨0, _, _, by omega, rfl, hF.keep' ⟨rfl, rfl, rfl, trivial⟩, rfl, by simp only [Pl.nth]; omega, by simp only [Pl.nth]; omega, hown3, hsb3, hcb3, hnb3, ?_, lt_at hnb3, hb3⟩ ?_
  · intro q hq
    simp only [Value.ownBlock, Option.some.injEq] at hq
    omega
  clear hF a hown3 hsb3 hcb3 hnb3 hb3 hgr3
  rintro n a wr ⟨k, ao', cap', hk, rfl, hF, hall, hn0, hn1, hown, hsb0, hsb3, hnb3, hnq, hnlt, hbel⟩
  have hz := hbel.size
  have c6 : wr.cell? ⟨w.heap.size, 6, none⟩ = some (.int .i64 (S : Int)) := cell_at hsb0 hs.sz
  have c7 : wr.cell? ⟨w.heap.size, 7, none⟩ = some (.bool mot) := cell_at hsb0 hs.mo
  by_cases hlt : k < S
  · repeat (first | refine c_seq ?_ | refine c_block ?_ | refine c_region _ ?_ | refine wpList_nil ?_ | refine c_then ?_ | refine c_then_exit ?_ | refine c_then_ret ?_ | refine c_in ?_ | refine c_in_ret ?_ | refine c_in_hit ?_ | refine wp_skip ?_ | refine wp_exit ?_ | refine wp_ret ?_ | refine c_in_miss rfl ?_ | ((first | apply st hF | apply stg hF | apply s_step hF | apply s_stg hF); (first | exact d_move | exact d_assign | exact d_pickT | exact d_pickF | exact d_cmpT | exact d_cmpF | exact d_cmp | exact d_len (und _ _ rfl) | exact d_lens (und _ _ rfl) | exact d_fieldAddr (fld _ _ _ _ rfl) (isz _ _ rfl) | exact d_makeI (con _ rfl) | exact d_load (und _ _ rfl) c6); clear hF; clear a; intro a hF) | ((first | apply stm hF | apply stu hF); clear hF; clear a; intro a hF) | (apply c_cond_t hF; exact rfl; first | exact rfl | assumption) | (apply c_cond_f hF; exact rfl; first | exact rfl | assumption) | refine s_nil ?_)
    refine stcv hF (next_ok wr nb sb cs start S _ mot 3 hs hsb3 hnb3 hn0 (by omega)) cal87 (vs := []) (cs := [.pointer (some ⟨nb, 0, none⟩), .pointer (some ⟨sb, 0, none⟩)]) trivial (k := fun a v w4 hR hF => ?_)
    obtain ⟨rfl, hnb4, hgr4⟩ := hR
    have hown4 := own_kept hown hgr4 (fun e => hnq nb e rfl)
    have hb4 : Below w.heap.size w w4 := hbel.grown hgr4 hz (fun k hk => by cases hk; omega)
    have hsb04 := blk_kept hsb0 hgr4 (by simp; omega)
    have hsb4 := blk_kept hsb3 hgr4 (by simp; omega)
    by_cases hbig : 63 < Pl.nth mot start k
    · repeat (first | refine c_seq ?_ | refine c_block ?_ | refine c_region _ ?_ | refine wpList_nil ?_ | refine c_then ?_ | refine c_then_exit ?_ | refine c_then_ret ?_ | refine c_in ?_ | refine c_in_ret ?_ | refine c_in_hit ?_ | refine wp_skip ?_ | refine wp_exit ?_ | refine wp_ret ?_ | refine c_in_miss rfl ?_ | ((first | apply st hF | apply stg hF | apply s_step hF | apply s_stg hF); (first | exact d_move | exact d_assign | exact d_pickT | exact d_pickF | exact d_cmpT | exact d_cmpF | exact d_cmp | exact d_len (und _ _ rfl) | exact d_lens (und _ _ rfl) | exact d_fieldAddr (fld _ _ _ _ rfl) (isz _ _ rfl) | exact d_makeI (con _ rfl)); clear hF; clear a; intro a hF) | ((first | apply stm hF | apply stu hF); clear hF; clear a; intro a hF) | (apply c_cond_t hF; exact rfl; first | exact rfl | assumption) | (apply c_cond_f hF; exact rfl; first | exact rfl | assumption) | refine s_nil ?_)
      refine ret2 hF rfl rfl rfl ⟨?_, hb4⟩
      rw [hE, Pl.all_take hlt hbig]
      rfl
    · have hbb := Pl.nextB_bounds (mot := mot) hn0 (by omega)
      repeat (first | refine c_seq ?_ | refine c_block ?_ | refine c_region _ ?_ | refine wpList_nil ?_ | refine c_then ?_ | refine c_then_exit ?_ | refine c_then_ret ?_ | refine c_in ?_ | refine c_in_ret ?_ | refine c_in_hit ?_ | refine wp_skip ?_ | refine wp_exit ?_ | refine wp_ret ?_ | refine c_in_miss rfl ?_ | ((first | apply st hF | apply stg hF | apply s_step hF | apply s_stg hF); (first | exact d_move | exact d_assign | exact d_pickT | exact d_pickF | exact d_cmpT | exact d_cmpF | exact d_cmp | exact d_len (und _ _ rfl) | exact d_lens (und _ _ rfl) | exact d_fieldAddr (fld _ _ _ _ rfl) (isz _ _ rfl) | exact d_makeI (con _ rfl)); clear hF; clear a; intro a hF) | ((first | apply stm hF | apply stu hF); clear hF; clear a; intro a hF) | (apply c_cond_t hF; exact rfl; first | exact rfl | assumption) | (apply c_cond_f hF; exact rfl; first | exact rfl | assumption) | refine s_nil ?_)
      refine st_push' hF (und _ _ rfl) inf3 rfl hown4 (by omega) (by unfold maxLen; omega) hb4.size (k := fun a ao2 cap2 w5 hown5 hgr5 hbk hF => ?_)
      have hsn : (Pl.seqB mot start k).map (Value.int .i64) ++ [.int .i64 (Pl.nth mot start k)] = (Pl.seqB mot start (k + 1)).map (.int .i64) := by rw [Pl.seqB_snoc']; simp
      rw [hsn] at hown5
      have hb5 := below_own hb4 hb4.size hown4 hgr5
      have hq4 : some nb ≠ (Value.slice ao' k cap').ownBlock := fun e => hnq nb e.symm rfl
      repeat (first | refine c_seq ?_ | refine c_block ?_ | refine c_region _ ?_ | refine wpList_nil ?_ | refine c_then ?_ | refine c_then_exit ?_ | refine c_then_ret ?_ | refine c_in ?_ | refine c_in_ret ?_ | refine c_in_hit ?_ | refine wp_skip ?_ | refine wp_exit ?_ | refine wp_ret ?_ | refine c_in_miss rfl ?_ | ((first | apply st hF | apply stg hF | apply s_step hF | apply s_stg hF); (first | exact d_move | exact d_assign | exact d_pickT | exact d_pickF | exact d_cmpT | exact d_cmpF | exact d_cmp | exact d_len (und _ _ rfl) | exact d_lens (und _ _ rfl) | exact d_fieldAddr (fld _ _ _ _ rfl) (isz _ _ rfl) | exact d_makeI (con _ rfl)); clear hF; clear a; intro a hF) | ((first | apply stm hF | apply stu hF); clear hF; clear a; intro a hF) | (apply c_cond_t hF; exact rfl; first | exact rfl | assumption) | (apply c_cond_f hF; exact rfl; first | exact rfl | assumption) | refine s_nil ?_)
      refine ⟨S - (k + 1), by omega, k + 1, ao2, cap2, by omega, rfl, hF.keep' ⟨rfl, rfl, rfl, trivial⟩, ?_, hbb.1, hbb.2, hown5,
        blk_kept hsb04 hgr5 (own_ne hown4 hsb04 (by decide)), blk_kept hsb4 hgr5 (own_ne hown4 hsb4 (by decide)), blk_kept hnb4 hgr5 hq4, ?_, ?_, hb5⟩
      · rw [Pl.seqB_snoc', Pl.all_snoc, hall, decide_eq_true (by omega)]; rfl
      · intro q hq
        rcases hbk with e | e
        · rw [e] at hq; exact hnq q hq
        · rw [e] at hq
          have := hgr4.size
          simp only [Option.some.injEq] at hq
          omega
      · have := hgr4.size; have := hgr5.size; omega
  · obtain rfl : k = S := by omega
    have hg := hown.1
    rw [List.length_map, Pl.seqB_len] at hg
    obtain ⟨g, rfl, hbg⟩ := own_some hown (by omega)
    rw [hall] at hE
    simp only [if_true] at hE
    cases mot with
    | false =>
      repeat (first | refine c_seq ?_ | refine c_block ?_ | refine c_region _ ?_ | refine wpList_nil ?_ | refine c_then ?_ | refine c_then_exit ?_ | refine c_then_ret ?_ | refine c_in ?_ | refine c_in_ret ?_ | refine c_in_hit ?_ | refine wp_skip ?_ | refine wp_exit ?_ | refine wp_ret ?_ | refine c_in_miss rfl ?_ | ((first | apply st hF | apply stg hF | apply s_step hF | apply s_stg hF); (first | exact d_move | exact d_assign | exact d_pickT | exact d_pickF | exact d_cmpT | exact d_cmpF | exact d_cmp | exact d_len (und _ _ rfl) | exact d_lens (und _ _ rfl) | exact d_fieldAddr (fld _ _ _ _ rfl) (isz _ _ rfl) | exact d_makeI (con _ rfl) | exact d_load (und _ _ rfl) c6 | exact d_load (und _ _ rfl) c7); clear hF; clear a; intro a hF) | ((first | apply stm hF | apply stu hF); clear hF; clear a; intro a hF) | (apply c_cond_t hF; exact rfl; first | exact rfl | assumption) | (apply c_cond_f hF; exact rfl; first | exact rfl | assumption) | refine s_nil ?_)
      refine ret2 hF rfl rfl rfl ⟨?_, hbel⟩
      rw [hE]
      simp only [Bool.false_eq_true, if_false]
      refine ⟨g, cap', by rw [Pl.seqB_len], hbg, ?_⟩
      rw [Pl.seqB_len]; exact hown
    | true =>
      repeat (first | refine c_seq ?_ | refine c_block ?_ | refine c_region _ ?_ | refine wpList_nil ?_ | refine c_then ?_ | refine c_then_exit ?_ | refine c_then_ret ?_ | refine c_in ?_ | refine c_in_ret ?_ | refine c_in_hit ?_ | refine wp_skip ?_ | refine wp_exit ?_ | refine wp_ret ?_ | refine c_in_miss rfl ?_ | ((first | apply st hF | apply stg hF | apply s_step hF | apply s_stg hF); (first | exact d_move | exact d_assign | exact d_pickT | exact d_pickF | exact d_cmpT | exact d_cmpF | exact d_cmp | exact d_len (und _ _ rfl) | exact d_lens (und _ _ rfl) | exact d_fieldAddr (fld _ _ _ _ rfl) (isz _ _ rfl) | exact d_makeI (con _ rfl) | exact d_load (und _ _ rfl) c6 | exact d_load (und _ _ rfl) c7); clear hF; clear a; intro a hF) | ((first | apply stm hF | apply stu hF); clear hF; clear a; intro a hF) | (apply c_cond_t hF; exact rfl; first | exact rfl | assumption) | (apply c_cond_f hF; exact rfl; first | exact rfl | assumption) | refine s_nil ?_)
      refine stc hF (reverse_ok wr (Pl.seqB true start k) w.heap.size g k cap' hown (by omega)) cal66 ⟨rfl, trivial⟩ (k := fun a v w5 hR hF => ?_)
      obtain ⟨hown5, hgr5⟩ := hR
      repeat (first | refine c_seq ?_ | refine c_block ?_ | refine c_region _ ?_ | refine wpList_nil ?_ | refine c_then ?_ | refine c_then_exit ?_ | refine c_then_ret ?_ | refine c_in ?_ | refine c_in_ret ?_ | refine c_in_hit ?_ | refine wp_skip ?_ | refine wp_exit ?_ | refine wp_ret ?_ | refine c_in_miss rfl ?_ | ((first | apply st hF | apply stg hF | apply s_step hF | apply s_stg hF); (first | exact d_move | exact d_assign | exact d_pickT | exact d_pickF | exact d_cmpT | exact d_cmpF | exact d_cmp | exact d_len (und _ _ rfl) | exact d_lens (und _ _ rfl) | exact d_fieldAddr (fld _ _ _ _ rfl) (isz _ _ rfl) | exact d_makeI (con _ rfl)); clear hF; clear a; intro a hF) | ((first | apply stm hF | apply stu hF); clear hF; clear a; intro a hF) | (apply c_cond_t hF; exact rfl; first | exact rfl | assumption) | (apply c_cond_f hF; exact rfl; first | exact rfl | assumption) | refine s_nil ?_)
      refine ret2 hF rfl rfl rfl ⟨?_, hbel.grown hgr5 hz (fun k hk => by cases hk; omega)⟩
      rw [hE]
      simp only [if_true]
      refine ⟨g, cap', by rw [List.length_reverse, Pl.seqB_len], hbg, ?_⟩
      rw [List.length_reverse, Pl.seqB_len]; exact hown5
end Go.Proofs.YtjomihhpglojpaaDoor
end
