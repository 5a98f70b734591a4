/- Laid together by a program of mine: Bp Sets Is. -/
import Derived.Test.YtjomihhpglojpaaGreatDoorSumLawDatabaseS7
import Derived.Test.YtjomihhpglojpaaGreatDoorSumLawDatabaseS4
import Derived.Test.YtjomihhpglojpaaGreatDoorSumLawDatabaseS6
import Derived.Test.YtjomihhpglojpaaGreatDoorChecked
import Derived.WalkKit
import Derived.LaidEql
import Derived.Stop.Asserts
import Derived.RowKitTokens
import Derived.Lib.IfaceEq
set_option linter.unusedSimpArgs false
set_option linter.unusedVariables false
section
/- The plain laws of bits and sets: lists alone; no program in sight. -/
namespace Go.Proofs.YtjomihhpglojpaaGreatDoor.Pl

/-! ### payloads -/
def setBit (b k : Nat) (on : Bool) : Nat := if on then andNotN b (2 ^ k) ||| 2 ^ k else andNotN b (2 ^ k)
theorem setBit_bit (b k j : Nat) (on : Bool) : (setBit b k on).testBit j = if j = k then on else b.testBit j := by
  unfold setBit
  cases on
  · simp only [Bool.false_eq_true, if_false, andNotN_bit, Nat.testBit_two_pow]
    by_cases e : k = j
    · subst e; simp
    · have : ¬ j = k := fun x => e x.symm
      simp [e, this]
  · simp only [if_true, Nat.testBit_or, andNotN_bit, Nat.testBit_two_pow]
    by_cases e : k = j
    · subst e; simp
    · have : ¬ j = k := fun x => e x.symm
      simp [e, this]
theorem setBit_lt {b k : Nat} {on : Bool} (hb : b < 256) (hk : k < 8) : setBit b k on < 256 := by
  have h1 : andNotN b (2 ^ k) < 2 ^ 8 := andNotN_lt hb
  have h2 : 2 ^ k < 2 ^ 8 := Nat.pow_lt_pow_right (by decide) hk
  unfold setBit
  cases on
  · exact h1
  · exact Nat.or_lt_two_pow h1 h2
def bitAt (p : List Nat) (i : Nat) : Bool := (p.getD (i / 8) 0).testBit (i % 8)
def getB (p : List Nat) (i : Int) : Except Int Bool :=
  if 8 < p.length then .error 15 else if 0 ≤ i ∧ i < 8 * p.length then .ok (bitAt p i.toNat) else .error 16
def putB (p : List Nat) (i : Nat) (on : Bool) : List Nat := p.set (i / 8) (setBit (p.getD (i / 8) 0) (i % 8) on)
theorem putB_len (p : List Nat) (i : Nat) (on : Bool) : (putB p i on).length = p.length := by simp [putB]
theorem putB_lt {p : List Nat} {i : Nat} {on : Bool} (hp : ∀ x ∈ p, x < 256) (hi : i < 8 * p.length) : ∀ x ∈ putB p i on, x < 256 := by
  intro x hx
  unfold putB at hx
  rcases List.mem_or_eq_of_mem_set hx with h | rfl
  · exact hp x h
  · refine setBit_lt ?_ (Nat.mod_lt _ (by decide))
    have : i / 8 < p.length := by omega
    rw [List.getD_eq_getElem?_getD, List.getElem?_eq_getElem this]
    exact hp _ (List.getElem_mem _)
theorem bitAt_putB {p : List Nat} {i j : Nat} {on : Bool} (hi : i < 8 * p.length) : bitAt (putB p i on) j = if j = i then on else bitAt p j := by
  unfold bitAt putB
  have hlt : i / 8 < p.length := by omega
  by_cases e : i / 8 = j / 8
  · rw [List.getD_eq_getElem?_getD, ← e, List.getElem?_set_self hlt]
    simp only [Option.getD_some, setBit_bit]
    by_cases e2 : j = i
    · subst e2; simp
    · have : ¬ j % 8 = i % 8 := by omega
      simp only [if_neg e2, if_neg this]
  · have : ¬ j = i := by intro x; subst x; exact e rfl
    rw [List.getD_eq_getElem?_getD, List.getElem?_set_ne e, if_neg this, List.getD_eq_getElem?_getD]
theorem bytes_ext {p q : List Nat} (hl : p.length = q.length) (hp : ∀ x ∈ p, x < 256) (hq : ∀ x ∈ q, x < 256) (h : ∀ i, i < 8 * p.length → bitAt p i = bitAt q i) : p = q := by
  apply List.ext_getElem hl
  intro k h1 h2
  apply Nat.eq_of_testBit_eq
  intro j
  by_cases hj : j < 8
  · have := h (8 * k + j) (by omega)
    unfold bitAt at this
    rw [show (8 * k + j) / 8 = k by omega, show (8 * k + j) % 8 = j by omega] at this
    simpa [List.getD, h1, h2] using this
  · have a1 : p[k].testBit j = false := Nat.testBit_lt_two_pow (Nat.lt_of_lt_of_le (hp _ (List.getElem_mem _)) (by have := Nat.pow_le_pow_right (show 0 < 2 by decide) (show 8 ≤ j by omega); simpa using this))
    have a2 : q[k].testBit j = false := Nat.testBit_lt_two_pow (Nat.lt_of_lt_of_le (hq _ (List.getElem_mem _)) (by have := Nat.pow_le_pow_right (show 0 < 2 by decide) (show 8 ≤ j by omega); simpa using this))
    rw [a1, a2]

/-! ### sets -/
def emptyS : List Bool := List.replicate 64 false
def addAll : List Int → List Bool → Except Int (List Bool)
  | [], s => .ok s
  | i :: r, s => if i < 0 ∨ 64 ≤ i then .error 16 else if s.getD i.toNat false = true then .error 12 else addAll r (s.set i.toNat true)
def setOf (l : List Int) : Except Int (List Bool) := addAll l emptyS
def listOf (s : List Bool) : List Int := ((List.range 64).filter fun i => s.getD i false).map fun i : Nat => (i : Int)
def cntT (s : List Bool) : Nat := s.countP (· = true)

theorem addAll_ok : ∀ {l : List Int} {s s' : List Bool}, s.length = 64 → addAll l s = .ok s' →
    s'.length = 64 ∧ cntT s' = cntT s + l.length ∧ (∀ x ∈ l, 0 ≤ x ∧ x < 64) ∧ ∀ i : Nat, s'.getD i false = (s.getD i false || decide ((i : Int) ∈ l))
  | [], s, s', hl, h => by
    simp only [addAll, Except.ok.injEq] at h
    subst h
    exact ⟨hl, by simp, by simp, by simp⟩
  | i :: r, s, s', hl, h => by
    simp only [addAll] at h
    split at h
    · cases h
    · rename_i h1
      split at h
      · cases h
      · rename_i h2
        obtain ⟨a1, a2, a3, a4⟩ := addAll_ok (l := r) (s := s.set i.toNat true) (by simpa using hl) h
        have hi : i.toNat < s.length := by omega
        refine ⟨a1, ?_, ?_, ?_⟩
        · rw [a2]
          unfold cntT
          rw [List.countP_set hi]
          have : s[i.toNat] = false := by
            have : s.getD i.toNat false = s[i.toNat] := by simp [List.getD, hi]
            rw [this] at h2
            simpa using h2
          simp [this]
          omega
        · intro x hx
          rcases List.mem_cons.1 hx with rfl | hx
          · omega
          · exact a3 x hx
        · intro j
          rw [a4 j]
          by_cases e : i.toNat = j
          · subst e
            have e2 : ((i.toNat : Nat) : Int) = i := by omega
            rw [e2]
            simp [List.getD, hi]
          · have e2 : ¬ (j : Int) = i := by omega
            have e3 : (s.set i.toNat true).getD j false = s.getD j false := by simp [List.getD, List.getElem?_set_ne e]
            rw [e3]
            simp [e2]
theorem addAll_can : ∀ {l : List Int} {s : List Bool}, s.length = 64 → l.Nodup → (∀ x ∈ l, 0 ≤ x ∧ x < 64 ∧ s.getD x.toNat false = false) → ∃ s', addAll l s = .ok s'
  | [], s, _, _, _ => ⟨s, rfl⟩
  | i :: r, s, hl, hn, h => by
    have hi := h i (by simp)
    have hn' := List.nodup_cons.1 hn
    obtain ⟨s', hs'⟩ := addAll_can (l := r) (s := s.set i.toNat true) (by simpa using hl) hn'.2 (fun x hx => by
      have hx' := h x (by simp [hx])
      refine ⟨hx'.1, hx'.2.1, ?_⟩
      have hne : ¬ i.toNat = x.toNat := by
        intro e
        have : i = x := by omega
        subst this
        exact hn'.1 hx
      have e3 : (s.set i.toNat true).getD x.toNat false = s.getD x.toNat false := by simp [List.getD, List.getElem?_set_ne hne]
      rw [e3]; exact hx'.2.2)
    refine ⟨s', ?_⟩
    rw [addAll, if_neg (by omega), if_neg (by rw [hi.2.2]; simp), hs']
theorem listOf_mem {s : List Bool} {x : Int} : x ∈ listOf s ↔ 0 ≤ x ∧ x < 64 ∧ s.getD x.toNat false = true := by
  unfold listOf
  simp only [List.mem_map, List.mem_filter, List.mem_range]
  constructor
  · rintro ⟨i, ⟨h1, h2⟩, rfl⟩
    exact ⟨by omega, by omega, by simpa using h2⟩
  · rintro ⟨h1, h2, h3⟩
    exact ⟨x.toNat, ⟨by omega, h3⟩, by omega⟩
theorem listOf_nodup (s : List Bool) : (listOf s).Nodup := by
  unfold listOf
  refine List.Pairwise.map _ ?_ (List.nodup_range.filter _)
  intro a b h e
  exact h (by omega)
theorem emptyS_get (i : Nat) : emptyS.getD i false = false := by
  unfold emptyS
  simp only [List.getD_eq_getElem?_getD, List.getElem?_replicate]
  split <;> rfl
theorem bools_ext {s t : List Bool} (h1 : s.length = 64) (h2 : t.length = 64) (h : ∀ i : Nat, i < 64 → s.getD i false = t.getD i false) : s = t := by
  apply List.ext_getElem (by omega)
  intro i g1 g2
  have := h i (by omega)
  simpa [List.getD, g1, g2] using this
theorem setOf_listOf {s : List Bool} (hs : s.length = 64) : setOf (listOf s) = .ok s := by
  obtain ⟨s', h'⟩ := addAll_can (l := listOf s) (s := emptyS) (by simp [emptyS]) (listOf_nodup s) (fun x hx => ⟨(listOf_mem.1 hx).1, (listOf_mem.1 hx).2.1, emptyS_get _⟩)
  obtain ⟨a1, _, _, a4⟩ := addAll_ok (by simp [emptyS]) h'
  unfold setOf
  rw [h']
  congr 1
  refine bools_ext a1 hs fun i hi => ?_
  rw [a4 i, emptyS_get, Bool.false_or, Bool.eq_iff_iff, decide_eq_true_eq, listOf_mem]
  simp
  omega
theorem cntT_empty : cntT emptyS = 0 := by decide
theorem setOf_ok {l : List Int} {s : List Bool} (h : setOf l = .ok s) : s.length = 64 ∧ cntT s = l.length ∧ (∀ x ∈ l, 0 ≤ x ∧ x < 64 ∧ s.getD x.toNat false = true) := by
  obtain ⟨a1, a2, a3, a4⟩ := addAll_ok (by simp [emptyS]) h
  refine ⟨a1, by rw [a2, cntT_empty]; omega, fun x hx => ⟨(a3 x hx).1, (a3 x hx).2, ?_⟩⟩
  rw [a4, emptyS_get]
  have : ((x.toNat : Nat) : Int) = x := by have := (a3 x hx).1; omega
  rw [this]
  simp [hx]
theorem listOf_len {s : List Bool} (hs : s.length = 64) : (listOf s).length = cntT s := by
  have := setOf_ok (setOf_listOf hs)
  exact this.2.1.symm

/-! ### one set, made of two, bit by bit -/
def zipS (f : Bool → Bool → Bool) (a b : List Bool) : List Bool := (List.range 64).map fun i => f (a.getD i false) (b.getD i false)
def zipTo (f : Bool → Bool → Bool) (a b : List Bool) (k : Nat) : List Bool := (List.range 64).map fun i => if i < k then f (a.getD i false) (b.getD i false) else a.getD i false
theorem zipTo_len (f : Bool → Bool → Bool) (a b : List Bool) (k : Nat) : (zipTo f a b k).length = 64 := by simp [zipTo]
theorem zipTo_get (f : Bool → Bool → Bool) (a b : List Bool) (k i : Nat) (h : i < 64) : (zipTo f a b k)[i]'(by rw [zipTo_len]; exact h) = if i < k then f (a.getD i false) (b.getD i false) else a.getD i false := by simp [zipTo]
theorem zipTo_zero (f : Bool → Bool → Bool) {a : List Bool} (b : List Bool) (ha : a.length = 64) : zipTo f a b 0 = a := by
  apply List.ext_getElem (by rw [zipTo_len, ha])
  intro i h1 h2
  rw [zipTo_get _ _ _ _ _ (by omega), if_neg (by omega)]
  simp [List.getD, h2]
theorem zipTo_end (f : Bool → Bool → Bool) (a b : List Bool) : zipTo f a b 64 = zipS f a b := by
  unfold zipTo zipS
  apply List.map_congr_left
  intro i hi
  simp at hi
  simp [hi]
theorem zipTo_succ (f : Bool → Bool → Bool) (a b : List Bool) (k : Nat) (h : k < 64) : (zipTo f a b k).set k (f (a.getD k false) (b.getD k false)) = zipTo f a b (k + 1) := by
  apply List.ext_getElem (by simp [zipTo])
  intro i h1 h2
  rw [zipTo_len] at h2
  rw [zipTo_get _ _ _ _ _ h2, List.getElem_set]
  by_cases e : k = i
  · subst e; simp
  · rw [if_neg e, zipTo_get _ _ _ _ _ h2]
    by_cases e2 : i < k
    · rw [if_pos e2, if_pos (by omega)]
    · rw [if_neg e2, if_neg (by omega)]
theorem zipS_len (f : Bool → Bool → Bool) (a b : List Bool) : (zipS f a b).length = 64 := by simp [zipS]
theorem zipS_get (f : Bool → Bool → Bool) (a b : List Bool) (i : Nat) (h : i < 64) : (zipS f a b).getD i false = f (a.getD i false) (b.getD i false) := by simp [zipS, List.getD, h]
theorem zipS_comm (f : Bool → Bool → Bool) (hf : ∀ x y, f x y = f y x) (a b : List Bool) : zipS f a b = zipS f b a := by
  unfold zipS
  apply List.map_congr_left
  intro i _
  exact hf _ _
theorem zipS_self (f : Bool → Bool → Bool) (hf : ∀ x, f x x = x) {a : List Bool} (ha : a.length = 64) : zipS f a a = a := by
  refine bools_ext (zipS_len _ _ _) ha fun i hi => ?_
  rw [zipS_get _ _ _ _ hi, hf]
end Go.Proofs.YtjomihhpglojpaaGreatDoor.Pl
end
section
/- Sets of bits: what the program computes. -/
namespace Go.Proofs.YtjomihhpglojpaaGreatDoor
open Go.RowKit
set_option linter.unusedSimpArgs false
set_option linter.unusedVariables false
attribute [local irreducible] wpList wpQuiet wpStill Code.wp Exit.then Exit.inBlock bodyPost Calls Does Does0

theorem cellsB : Tryz.prog.cellsOf 4 = 1 := by kernel_rfl
theorem eqGSet : Tryz.prog.eqGuardType Tryz.prog.depth 102 = false := by kernel_rfl
theorem eqSet {w : World} {l : List (Nat × Value)} {op : BinOp} {x y : Operand} {xs ys : List Bool} {r : Bool} {t' ty : TypeId} (hxl : xs.length = 64) (hyl : ys.length = 64)
    (hx : Ev l x (.agg (setC xs)) := by exact rfl) (hy : Ev l y (.agg (setC ys)) := by exact rfl) (hr : (match op with | .eql => some (decide (xs = ys)) | .neq => some (!decide (xs = ys)) | _ => none) = some r := by exact rfl) : Does Tryz.prog l w (.binOp op 102 x y t') ty (.bool r) w :=
  d_eqSet (und _ _ rfl) (und _ _ rfl) (isz _ _ rfl) cellsB eqGSet hxl hyl hx hy hr
theorem zeroSet : (Value.agg (setC Pl.emptyS)).cells = setC Pl.emptyS := rfl
theorem emptyS_len : Pl.emptyS.length = 64 := by decide

/-- A set's block. -/
def SetIn (w : World) (g : Nat) (s : List Bool) : Prop := w.heap[g]? = some (.cells (setC s) 102 (0, 0))

/-- The two results of SetOf. -/
def SetRes (v : Value) : Except Int (List Bool) → Prop
  | .ok s => v = .tuple #[.agg (setC s), .nilIface]
  | .error e => v = .tuple #[.agg (setC Pl.emptyS), .iface 54 (.int .i64 e)]

set_option maxHeartbeats 4000000 in
theorem setOf_of (w : World) (xs : List Int) (ao : Option Addr) (n c : Nat) (hn : xs.length = n) (h : Rd w ao (.int .i64) xs) (hb : n ≤ 9223372036854775807) :
    Ret Tryz.prog 75 #[.slice ao n c] w (fun v w' => SetRes v (Pl.setOf xs) ∧ Below w.heap.size w w') := by
  subst hn
  refine enter1 Tryz.func75 rfl 29 rfl 30 rfl (fun a hF => ?_)
  repeat (first | refine c_seq ?_ | refine c_region _ ?_)
  refine st_alloc hF inf102 (k := fun a w1 hg2 hgr1 hsz1 hF => ?_)
  replace hg2 : SetIn w1 w.heap.size Pl.emptyS := hg2
  have hb1 : Below w.heap.size w w1 := (Below.refl _ w).grown hgr1 (Nat.le_refl _) (fun k hk => by cases hk)
  repeat (first | refine c_seq ?_ | refine c_region _ ?_ | refine wpList_nil ?_ | refine c_then ?_ | ((apply st hF); (exact d_assign); clear hF; clear a; intro a hF))
  refine st_alloc hF inf102 (k := fun a w2 hg4 hgr2 hsz2 hF => ?_)
  replace hg4 : SetIn w2 w1.heap.size Pl.emptyS := hg4
  replace hg2 : SetIn w2 w.heap.size Pl.emptyS := blk_kept hg2 hgr2 (by simp)
  have hb2 : Below w.heap.size w w2 := hb1.grown hgr2 hb1.size (fun k hk => by cases hk)
  repeat (first | refine c_seq ?_ | refine c_block ?_ | refine c_region _ ?_ | refine wpList_nil ?_ | refine c_then ?_ | ((apply st hF); (first | exact d_move | exact d_len (und _ _ rfl)); clear hF; clear a; intro a hF))
  refine c_loop (fun n a wr => ∃ k s, k ≤ xs.length ∧ n = xs.length - k ∧ s.length = 64 ∧ Pl.setOf xs = Pl.addAll (xs.drop k) s ∧
    Fr 30 [(2, .pointer (some ⟨w.heap.size, 0, none⟩)), (4, .pointer (some ⟨w1.heap.size, 0, none⟩)), (7, .slice ao xs.length c), (8, .int .i64 xs.length), (9, .int .i64 (k : Nat))] a ∧
    SetIn wr w.heap.size Pl.emptyS ∧ SetIn wr w1.heap.size s ∧ Below w.heap.size w wr) xs.length
    ⟨0, Pl.emptyS, by omega, rfl, emptyS_len, rfl, hF.keep' ⟨rfl, rfl, rfl, rfl, rfl, trivial⟩, hg2, hg4, hb2⟩ ?_
  clear hF a hg2 hg4 hb2 hsz2 hgr2 w2
  rintro n a wr ⟨k, s, hk, rfl, hsl, hE, hF, hg2, hg4, hbel⟩
  have hz := hbel.size
  by_cases hlt : k < xs.length
  · obtain ⟨b, o, rfl, hc⟩ := h k hlt
    have hc' : wr.cell? ⟨b, o + k, none⟩ = some (.int .i64 xs[k]) := (hbel.cell (p := ⟨b, o + k, none⟩) (World.block_lt_of_cell? w _ hc)).trans hc
    rw [List.drop_eq_getElem_cons hlt, Pl.addAll] at hE
    generalize xs[k] = x at *
    by_cases h1 : x < 0 ∨ 64 ≤ x
    · rw [if_pos h1] at hE
      by_cases h2 : x < 0
      all_goals
        repeat (first | refine c_seq ?_ | refine c_block ?_ | refine c_region _ ?_ | refine wpList_nil ?_ | refine c_then ?_ | refine wp_skip ?_ | ((first | apply st hF | apply stg hF); (first | exact d_move | exact d_assign | exact d_pickT | exact d_pickF | exact d_cmpT | exact d_cmpF | exact d_indexAddr1 (und _ _ rfl) (isz _ _ rfl) | exact d_makeI (con _ rfl) | exact d_build (vs := []) (cells := setC Pl.emptyS) (by kernel_rfl) trivial | exact d_load (und _ _ rfl) hc'); clear hF; clear a; intro a hF) | ((apply stm hF); clear hF; clear a; intro a hF) | (apply c_cond_t hF; exact rfl; first | exact rfl | assumption))
        refine st_storeAgg hF (cs := setC Pl.emptyS) (isz _ _ rfl) rfl rfl hg2 (setC_cells _) (k := fun a w5 hg5 hgr5 hsz5 hF => ?_)
        repeat (first | refine wpList_nil ?_ | refine c_then ?_ | refine c_then_ret ?_ | refine c_in_ret ?_ | refine wp_ret ?_ | ((apply st hF); (exact d_assign); clear hF; clear a; intro a hF))
        refine ret_ct hF rfl (agg _ rfl) (isz _ _ rfl) hg5 rfl rfl ⟨?_, hbel.grown hgr5 hz (fun k hk => by cases hk; omega)⟩
        rw [hE]; rfl
    · rw [if_neg h1] at hE
      obtain ⟨j, rfl⟩ : ∃ j : Nat, x = (j : Int) := ⟨x.toNat, by omega⟩
      have hj : j < s.length := by omega
      rw [Int.toNat_natCast] at hE
      have hsj : s.getD j false = s[j] := by simp [List.getD, hj]
      rw [hsj] at hE
      have c4 : wr.cell? ⟨w1.heap.size, 0 + j, none⟩ = some (.bool s[j]) := cells_at hg4 _ _ (setC_get hj)
      by_cases h2 : s[j] = true
      · rw [if_pos h2] at hE
        rw [h2] at c4
        repeat (first | refine c_seq ?_ | refine c_block ?_ | refine c_region _ ?_ | refine wpList_nil ?_ | refine c_then ?_ | refine wp_skip ?_ | ((first | apply st hF | apply stg hF); (first | exact d_move | exact d_assign | exact d_pickF | exact d_cmpT | exact d_cmpF | exact d_indexAddr1 (und _ _ rfl) (isz _ _ rfl) | exact d_makeI (con _ rfl) | exact d_indexAddrA (und _ _ rfl) (isz _ _ rfl) | exact d_build (vs := []) (cells := setC Pl.emptyS) (by kernel_rfl) trivial | exact d_load (und _ _ rfl) hc' | exact d_load (und _ _ rfl) c4); clear hF; clear a; intro a hF) | (apply c_cond_t hF; exact rfl; first | exact rfl | assumption) | (apply c_cond_f hF; exact rfl; first | exact rfl | assumption))
        refine st_storeAgg hF (cs := setC Pl.emptyS) (isz _ _ rfl) rfl rfl hg2 (setC_cells _) (k := fun a w5 hg5 hgr5 hsz5 hF => ?_)
        repeat (first | refine wpList_nil ?_ | refine c_then ?_ | refine c_then_ret ?_ | refine c_in_ret ?_ | refine wp_ret ?_ | ((apply st hF); (exact d_assign); clear hF; clear a; intro a hF))
        refine ret_ct hF rfl (agg _ rfl) (isz _ _ rfl) hg5 rfl rfl ⟨?_, hbel.grown hgr5 hz (fun k hk => by cases hk; omega)⟩
        rw [hE]; rfl
      · rw [if_neg h2] at hE
        have h2' : s[j] = false := by simpa using h2
        rw [h2'] at c4
        repeat (first | refine c_seq ?_ | refine c_block ?_ | refine c_region _ ?_ | refine wpList_nil ?_ | refine c_then ?_ | refine wp_skip ?_ | ((first | apply st hF | apply stg hF); (first | exact d_move | exact d_assign | exact d_pickF | exact d_cmpT | exact d_cmpF | exact d_indexAddr1 (und _ _ rfl) (isz _ _ rfl) | exact d_indexAddrA (und _ _ rfl) (isz _ _ rfl) | exact d_load (und _ _ rfl) hc' | exact d_load (und _ _ rfl) c4); clear hF; clear a; intro a hF) | (apply c_cond_t hF; exact rfl; first | exact rfl | assumption) | (apply c_cond_f hF; exact rfl; first | exact rfl | assumption))
        refine st_store hF (isz _ _ rfl) hg4 (i := 0 + j) (by rw [setC_size]; omega) rfl rfl rfl fun a w5 hg5 hgr5 hsz5 hF => ?_
        rw [setC_set] at hg5
        repeat (first | refine c_region _ ?_ | refine wpList_nil ?_ | refine c_then ?_ | refine c_in ?_ | ((apply st hF); (first | exact d_move | exact d_add); clear hF; clear a; intro a hF))
        exact ⟨xs.length - (k + 1), by omega, k + 1, s.set j true, by omega, rfl, by simpa using hsl, hE, hF.keep' ⟨rfl, rfl, rfl, rfl, rfl, trivial⟩, blk_kept hg2 hgr5 (by simp; omega), hg5, hbel.grown hgr5 hz (fun k hk => by cases hk; omega)⟩
  · obtain rfl : k = xs.length := by omega
    rw [List.drop_length, Pl.addAll] at hE
    repeat (first | refine c_seq ?_ | refine c_region _ ?_ | refine wpList_nil ?_ | refine c_then ?_ | refine c_then_exit ?_ | refine c_in_hit ?_ | refine wp_exit ?_ | ((apply st hF); (first | exact d_cmpF | exact d_loadAgg (agg _ rfl) (isz _ _ rfl) ((setC_size s).trans hsl) (cells_at hg4)); clear hF; clear a; intro a hF) | (apply c_cond_f hF; exact rfl; first | exact rfl | assumption))
    refine st_storeAgg hF (cs := setC s) (isz _ _ rfl) ((setC_size s).trans hsl) rfl hg2 (setC_cells _) (k := fun a w5 hg5 hgr5 hsz5 hF => ?_)
    repeat (first | refine wpList_nil ?_ | refine c_then ?_ | refine wp_ret ?_ | ((apply st hF); (exact d_assign); clear hF; clear a; intro a hF))
    refine ret_ct hF rfl (agg _ rfl) (by rw [setC_size, hsl]; exact isz _ _ rfl) hg5 rfl rfl ⟨?_, hbel.grown hgr5 hz (fun k hk => by cases hk; omega)⟩
    rw [hE]; rfl
end Go.Proofs.YtjomihhpglojpaaGreatDoor
end
section
/- errors.Is over two numbers of errors: they are the same, or not. -/
namespace Go.Proofs.YtjomihhpglojpaaGreatDoor
open Go.RowKit Go.Extern.Stop Go.Stop Go.Extern

theorem isTypeOf (v : Value) (w : World) : (Extern.ReflectliteType.typeOf #[.iface 54 v]).run Tryz.prog w = .ok (.iface 194 (.agg #[.pointer (some ⟨3, 54, none⟩)])) w := by kernel_rfl
theorem isComparable (w : World) : (callFunc 152 #[.agg #[.pointer (some ⟨3, 54, none⟩)]]).run Tryz.prog w = .ok (.value (.bool true)) w := by kernel_rfl
theorem isMethodComparable (v : Value) (w : World) : (Go.method 342 194 v "Comparable").run Tryz.prog w = .ok (152, v) w := by kernel_rfl
theorem isCompE : (Tryz.prog.info? 54).map (·.comparable) = some true := by kernel_rfl
theorem noIsE (v : Value) (xT : TypeId) (w : World) : (Instr.typeAssert (.iface 54 v) xT 206 true).run Tryz.prog w = .ok (.tuple #[.nilIface, .bool false]) w := run_typeAssert_lacksB Tryz.underlying206 (by kernel_rfl) (by kernel_rfl) v xT w
theorem noUnwrapE (v : Value) (xT : TypeId) (w : World) : (Instr.typeAssert (.iface 54 v) xT 201 true).run Tryz.prog w = .ok (.tuple #[.nilIface, .bool false]) w := run_typeAssert_lacksB Tryz.underlying201 (by kernel_rfl) (by kernel_rfl) v xT w
theorem noUnwrapsE (v : Value) (xT : TypeId) (w : World) : (Instr.typeAssert (.iface 54 v) xT 203 true).run Tryz.prog w = .ok (.tuple #[.nilIface, .bool false]) w := run_typeAssert_lacksB Tryz.underlying203 (by kernel_rfl) (by kernel_rfl) v xT w

theorem is_calls (a b : Int) (w : World) :
    Calls Tryz.prog 72 #[.iface 54 (.int .i64 a), .iface 54 (.int .i64 b)] w fun e w' => e = .returned (.bool (a == b)) ∧ w' = w := by
  have h8 := @run_callFunc_extern Tryz.prog 97 _ Extern.ReflectliteType.typeOf Tryz.func97 (by kernel_rfl) (by kernel_rfl) (by kernel_rfl) (by kernel_rfl)
  have tT := isTypeOf
  have cT := isComparable
  have mR := isMethodComparable
  have nE := noIsE
  have uE := noUnwrapE
  have vE := noUnwrapsE
  have heq := Go.Lib.run_eql_iface_int (P := Tryz.prog) w (t := 31) (tx := 54) (k := .i64) a b Tryz.underlying31 isCompE Tryz.underlying54
  cases hab : (a == b) with
  | true =>
    rw [hab] at heq
    go_enter Tryz.func72, Tryz.ntmps72
    go_wp2
    refine wp_loop_rounds 1 ?_
    rw [rounds_succ]
    go_wp2
    go_ret
    exact ⟨rfl, rfl⟩
  | false =>
    rw [hab] at heq
    go_enter Tryz.func72, Tryz.ntmps72
    go_wp2
    refine wp_loop_rounds 1 ?_
    rw [rounds_succ]
    go_wp2
    go_ret
    exact ⟨rfl, rfl⟩
theorem is_ok (w : World) (a b : Int) : Ret Tryz.prog 72 #[.iface 54 (.int .i64 a), .iface 54 (.int .i64 b)] w (fun v w' => v = .bool (a == b) ∧ w' = w) :=
  Calls.mono (is_calls a b w) fun e w' h => ⟨_, h.1, rfl, h.2⟩
end Go.Proofs.YtjomihhpglojpaaGreatDoor
end
