/- Laid together by a program of mine: SigsS MsgC MsgS Nn RatL Byt. -/
import Derived.Test.YtjomihhpglojpaaGreatDoorSumLawDatabaseS6
import Derived.Test.YtjomihhpglojpaaGreatDoorSumLawDatabaseS4
import Derived.Test.YtjomihhpglojpaaGreatDoorSumLawDatabaseS3
import Derived.Test.YtjomihhpglojpaaGreatDoorSumLawDatabaseS2
import Derived.Laws.BitsLemmas
set_option linter.unusedSimpArgs false
set_option linter.unusedVariables false
section
/- Lists of signals: what they are. -/
namespace Go.Proofs.YtjomihhpglojpaaGreatDoor
open Go.RowKit
set_option linter.unusedSimpArgs false
set_option linter.unusedVariables false
attribute [local irreducible] wpList wpQuiet wpStill Code.wp Exit.then Exit.inBlock bodyPost Calls Does Does0

theorem sigc_len (s : Sig) : (Sig.cells s).length = 19 := rfl
theorem LentT.below {base : Nat} {w w' : World} {v : Value} {xs : List ByteArray} (h : LentT base w v xs) (hb : Below w.heap.size w w') : LentT base w' v xs := by
  obtain ⟨g, cap, e, hown⟩ := h
  exact ⟨g, cap, e, own_below hown hb⟩
theorem LentT.rebase {base base' : Nat} {w : World} {v : Value} {xs : List ByteArray} (h : LentT base w v xs) (hb : base' ≤ base) : LentT base' w v xs := by
  obtain ⟨g, cap, e, hown⟩ := h
  refine ⟨g, cap, e, own_rebase hown fun k hk => ?_⟩
  simp only [Value.ownBlock, Option.some.injEq] at hk
  have := own_base' hown
  omega

/-- A signal with its texts. -/
abbrev SigT := Sig × List ByteArray
/-- A signal whose list of texts lies elsewhere. -/
def Sig.at (s : Sig) (g c : Nat) : Sig := { s with toA := some ⟨g, 0, none⟩, toC := c }
/-- The mark in the spare room. -/
def sigM : Sig := ⟨0, 0, ⟨#[]⟩, 0, 0, -7, 0, false, false, 0, 0, 0, 0, 0, 0, 0, 0, ⟨#[]⟩, none, 0, 0⟩
/-- A list of signals that is there. -/
structure SigsIn (w : World) (ao : Option Addr) (n c : Nat) (ps : List SigT) : Prop where
  len : ps.length = n
  rd : RdS w ao 19 Sig.cells (ps.map (·.1))
  each : ∀ p ∈ ps, SigIn w p.1 p.2
  cap : n ≤ c
  bytes : n * 176 ≤ 140737488351232
theorem SigsIn.below {w w' : World} {ao : Option Addr} {n c : Nat} {ps : List SigT} (h : SigsIn w ao n c ps) (hb : Below w.heap.size w w') : SigsIn w' ao n c ps :=
  ⟨h.len, h.rd.below hb, fun p hp => (h.each p hp).below hb, h.cap, h.bytes⟩
/-- Signal number i, lent. -/
def LentOk (base : Nat) (w : World) (ps : List SigT) (ls : List Sig) (i : Nat) : Prop :=
  ∃ p g c, ps[i]? = some p ∧ ls[i]? = some (p.1.at g c) ∧ LentT base w (.slice (some ⟨g, 0, none⟩) p.1.toN c) p.2
theorem LentOk.below {base : Nat} {w w' : World} {ps : List SigT} {ls : List Sig} {i : Nat} (h : LentOk base w ps ls i) (hb : Below w.heap.size w w') : LentOk base w' ps ls i := by
  obtain ⟨p, g, c, h1, h2, h3⟩ := h
  exact ⟨p, g, c, h1, h2, h3.below hb⟩
/-- It stays while a row of another type is written. -/
theorem LentOk.keptO {base : Nat} {w w' : World} {ps : List SigT} {ls : List Sig} {i : Nat} (h : LentOk base w ps ls i) {base' e' s' n' : Nat} {v' : Value} {xs' : List Value} (h' : w.ownsRow base' e' s' v' n' xs') (hne : 9 ≠ e') (hgr : w.grownBy w' v'.ownBlock) : LentOk base w' ps ls i := by
  obtain ⟨p, g, c, h1, h2, g', c', e, hown⟩ := h
  exact ⟨p, g, c, h1, h2, g', c', e, own_keptO hown h' hne hgr⟩
/-- A lent list of signals: so many, the marks behind. -/
def LentS (base : Nat) (w : World) (v : Value) (ps : List SigT) : Prop :=
  ∃ g cap ls, v = .slice (some ⟨g, 0, none⟩) ps.length cap ∧ ls.length = ps.length ∧
    w.ownsRow base 62 19 (.slice (some ⟨g, 0, none⟩) (ps.length + 16) cap) (ps.length + 16) ((ls ++ List.replicate 16 sigM).flatMap Sig.cells) ∧ ∀ i, i < ps.length → LentOk base w ps ls i
theorem LentS.below {base : Nat} {w w' : World} {v : Value} {ps : List SigT} (h : LentS base w v ps) (hb : Below w.heap.size w w') : LentS base w' v ps := by
  obtain ⟨g, cap, ls, e, hl, hown, hok⟩ := h
  exact ⟨g, cap, ls, e, hl, own_below hown hb, fun i hi => (hok i hi).below hb⟩
theorem arr_cells {w : World} {b o : Nat} {cs : List Value} (h : ∀ q v, cs[q]? = some v → w.cell? ⟨b, o + q, none⟩ = some v) : ∀ j v, cs.toArray[j]? = some v → w.cell? ⟨b, o + j, none⟩ = some v := fun j v hj => h j v (by simpa using hj)
theorem at_map {ps : List SigT} {i : Nat} (h : i < ps.length) : (ps.map (·.1))[i]'(by simpa using h) = ps[i].1 := by simp
end Go.Proofs.YtjomihhpglojpaaGreatDoor
end
section
/- Messages: their cells. -/
namespace Go.Proofs.YtjomihhpglojpaaGreatDoor
open Go.RowKit
set_option linter.unusedSimpArgs false
set_option linter.unusedVariables false
attribute [local irreducible] wpList wpQuiet wpStill Code.wp Exit.then Exit.inBlock bodyPost Calls Does Does0

/-- A message's fields. -/
structure Msg where
  line : Int
  col : Int
  id : Int
  wide : Bool
  name : ByteArray
  size : Int
  sender : ByteArray
  sg : Option Addr
  sgN : Nat
  sgC : Nat
def Msg.cells (m : Msg) : List Value := [.int .i64 m.line, .int .i64 m.col, .int .u32 m.id, .bool m.wide, .string m.name, .int .i64 m.size, .string m.sender, .slice m.sg m.sgN m.sgC]
def Msg.at (m : Msg) (g c : Nat) : Msg := { m with sg := some ⟨g, 0, none⟩, sgC := c }
theorem msg_cells (m : Msg) : ∀ v ∈ (Msg.cells m).toArray, v.oneCell' = true := by
  intro v hv
  simp [Msg.cells] at hv
  rcases hv with rfl | rfl | rfl | rfl | rfl | rfl | rfl | rfl <;> rfl
end Go.Proofs.YtjomihhpglojpaaGreatDoor
end
section
/- Messages: what they are. -/
namespace Go.Proofs.YtjomihhpglojpaaGreatDoor
open Go.RowKit
set_option linter.unusedSimpArgs false
set_option linter.unusedVariables false
attribute [local irreducible] wpList wpQuiet wpStill Code.wp Exit.then Exit.inBlock bodyPost Calls Does Does0

/-- A message that is there. -/
def MsgIn (w : World) (m : Msg) (ps : List SigT) : Prop := SigsIn w m.sg m.sgN m.sgC ps
end Go.Proofs.YtjomihhpglojpaaGreatDoor
end
section
/- Natural numbers as rows of digits to the base 2^32: plain laws. -/
namespace Go.Proofs.YtjomihhpglojpaaGreatDoor.Nn

def valN : List Nat → Nat
  | [] => 0
  | d :: l => d + 4294967296 * valN l
def Dig (l : List Nat) : Prop := ∀ d ∈ l, d < 4294967296
def Norm (l : List Nat) : Prop := ∀ d, l.getLast? = some d → d ≠ 0
def B (k : Nat) : Nat := 4294967296 ^ k
def dgt (l : List Nat) (i : Nat) : Nat := l.getD i 0
theorem B_zero : B 0 = 1 := rfl
theorem B_succ (k : Nat) : B (k + 1) = 4294967296 * B k := by unfold B; rw [Nat.pow_succ, Nat.mul_comm]
theorem B_pos (k : Nat) : 0 < B k := Nat.pos_of_ne_zero (by unfold B; exact Nat.ne_of_gt (Nat.pow_pos (by decide)))
theorem B_add (j k : Nat) : B (j + k) = B j * B k := Nat.pow_add ..
theorem B_le {j k : Nat} (h : j ≤ k) : B j ≤ B k := Nat.pow_le_pow_right (by decide) h
theorem B_two (k : Nat) : B k = 2 ^ (32 * k) := by
  show (2 ^ 32) ^ k = _
  rw [← Nat.pow_mul]
attribute [irreducible] B
theorem valN_append : ∀ (l m : List Nat), valN (l ++ m) = valN l + B l.length * valN m
  | [], m => by simp [valN, B_zero]
  | d :: l, m => by
    simp only [List.cons_append, valN, valN_append l m, List.length_cons, B_succ]
    rw [Nat.mul_add, ← Nat.mul_assoc, Nat.add_assoc]
theorem valN_snoc (l : List Nat) (d : Nat) : valN (l ++ [d]) = valN l + B l.length * d := by
  rw [valN_append]; simp [valN]
theorem Dig.tail {d : Nat} {l : List Nat} (h : Dig (d :: l)) : Dig l := fun x hx => h x (List.mem_cons_of_mem _ hx)
theorem Dig.take {l : List Nat} (h : Dig l) (k : Nat) : Dig (l.take k) := fun x hx => h x (List.mem_of_mem_take hx)
theorem Dig.drop {l : List Nat} (h : Dig l) (k : Nat) : Dig (l.drop k) := fun x hx => h x (List.mem_of_mem_drop hx)
theorem Dig.snoc {l : List Nat} (h : Dig l) {d : Nat} (hd : d < 4294967296) : Dig (l ++ [d]) := by
  intro x hx
  rcases List.mem_append.1 hx with h1 | h1
  · exact h x h1
  · rw [List.mem_singleton.1 h1]; exact hd
theorem Dig.set {l : List Nat} (h : Dig l) (i : Nat) {d : Nat} (hd : d < 4294967296) : Dig (l.set i d) := by
  intro x hx
  rcases List.mem_or_eq_of_mem_set hx with h1 | h1
  · exact h x h1
  · rw [h1]; exact hd
theorem valN_lt : ∀ {l : List Nat}, Dig l → valN l < B l.length
  | [], _ => by simp [valN, B_zero]
  | d :: l, h => by
    have h1 := valN_lt h.tail
    have h2 := h d List.mem_cons_self
    simp only [valN, List.length_cons, B_succ]
    omega
theorem dgt_lt {l : List Nat} (h : Dig l) (i : Nat) : dgt l i < 4294967296 := by
  unfold dgt
  rw [List.getD_eq_getElem?_getD]
  cases e : l[i]? with
  | none => simp
  | some d => exact h d (List.mem_of_getElem? e)
theorem dgt_of {l : List Nat} {i : Nat} (h : i < l.length) : dgt l i = l[i] := by simp [dgt, h]
theorem dgt_out {l : List Nat} {i : Nat} (h : l.length ≤ i) : dgt l i = 0 := by simp [dgt, h]
theorem take_succ_val (l : List Nat) (k : Nat) : valN (l.take (k + 1)) = valN (l.take k) + B k * dgt l k := by
  by_cases h : k < l.length
  · rw [List.take_succ_eq_append_getElem h, valN_snoc, dgt_of h, List.length_take, Nat.min_eq_left (Nat.le_of_lt h)]
  · rw [List.take_of_length_le (by omega), List.take_of_length_le (by omega), dgt_out (by omega)]; simp
theorem take_val_lt {l : List Nat} (h : Dig l) (k : Nat) : valN (l.take k) < B k := by
  have h1 := valN_lt (h.take k)
  exact Nat.lt_of_lt_of_le h1 (B_le (by simp; omega))
theorem drop_val (l : List Nat) (k : Nat) : valN (l.drop k) = dgt l k + 4294967296 * valN (l.drop (k + 1)) := by
  by_cases h : k < l.length
  · rw [List.drop_eq_getElem_cons h, dgt_of h]; rfl
  · rw [List.drop_of_length_le (by omega), List.drop_of_length_le (by omega), dgt_out (by omega)]; rfl
theorem split_val (l : List Nat) : ∀ k, valN l = valN (l.take k) + B k * valN (l.drop k)
  | 0 => by simp [valN, B_zero]
  | k + 1 => by
    rw [split_val l k, take_succ_val, drop_val l k, B_succ, Nat.mul_add, Nat.mul_comm 4294967296 (B k), Nat.mul_assoc, Nat.add_assoc]
theorem take_all {l : List Nat} {k : Nat} (h : l.length ≤ k) : valN (l.take k) = valN l := by rw [List.take_of_length_le h]
/-- A row whose last digit is no 0 is as long as its number wants. -/
theorem norm_ge {l : List Nat} (hn : Norm l) (h : l ≠ []) : B (l.length - 1) ≤ valN l := by
  obtain ⟨m, d, rfl⟩ : ∃ m d, l = m ++ [d] := ⟨l.dropLast, l.getLast h, (List.dropLast_concat_getLast h).symm⟩
  have hd : d ≠ 0 := hn d (by simp)
  rw [valN_snoc]
  simp only [List.length_append, List.length_singleton, Nat.add_sub_cancel]
  have : B m.length * 1 ≤ B m.length * d := Nat.mul_le_mul_left _ (by omega)
  omega
theorem norm_len {l : List Nat} (hn : Norm l) {k : Nat} (h : valN l < B k) : l.length ≤ k := by
  by_cases e : l = []
  · subst e; simp
  · have h1 := norm_ge hn e
    apply Decidable.byContradiction
    intro h2
    have h3 : B k ≤ B (l.length - 1) := B_le (by omega)
    omega
theorem norm_zero {l : List Nat} (hn : Norm l) : l.length = 0 ↔ valN l = 0 := by
  constructor
  · intro h; rw [List.length_eq_zero_iff.1 h]; rfl
  · intro h
    have := norm_len hn (k := 0) (by rw [h, B_zero]; omega)
    omega
/-- Held digit by digit, from the highest one. -/
theorem lt_of_drop {a b : List Nat} (ha : Dig a) {i : Nat} (h : valN (a.drop i) < valN (b.drop i)) : valN a < valN b := by
  have h1 := take_val_lt ha i
  rw [split_val a i, split_val b i]
  have h2 : B i * (valN (a.drop i) + 1) ≤ B i * valN (b.drop i) := Nat.mul_le_mul_left _ h
  rw [Nat.mul_add] at h2
  omega
theorem drop_lt {a b : List Nat} {i : Nat} (he : valN (a.drop (i + 1)) = valN (b.drop (i + 1))) (h : dgt a i < dgt b i) : valN (a.drop i) < valN (b.drop i) := by
  rw [drop_val a, drop_val b, he]; omega
theorem drop_eq {a b : List Nat} {i : Nat} (he : valN (a.drop (i + 1)) = valN (b.drop (i + 1))) (h : dgt a i = dgt b i) : valN (a.drop i) = valN (b.drop i) := by
  rw [drop_val a, drop_val b, he, h]
theorem drop_end {a : List Nat} {i : Nat} (h : a.length ≤ i) : valN (a.drop i) = 0 := by rw [List.drop_of_length_le h]; rfl
/-! ### the sum -/
theorem plus_core {b Bk n r q pa pb va vb c vl : Nat} (e1 : n = va + vb + c) (e2 : r + b * q = n) (h4 : vl + Bk * c = pa + pb) : vl + Bk * r + b * Bk * q = pa + Bk * va + (pb + Bk * vb) := by
  have h1 : Bk * n = Bk * va + Bk * vb + Bk * c := by rw [e1, Nat.mul_add, Nat.mul_add]
  have h2 : Bk * n = Bk * r + b * Bk * q := by rw [← e2, Nat.mul_add, Nat.mul_comm b Bk, Nat.mul_assoc]
  omega
theorem less_core {b Bk n r q pa pb va vb c vl : Nat} (e1 : n + vb + c = b + va) (e2 : r + b * q = n) (hq : q ≤ 1) (h4 : vl + pb = pa + Bk * c) : vl + Bk * r + (pb + Bk * vb) = pa + Bk * va + b * Bk * (1 - q) := by
  have h1 : Bk * n + Bk * vb + Bk * c = b * Bk + Bk * va := by rw [← Nat.mul_add, ← Nat.mul_add, e1, Nat.mul_add, Nat.mul_comm Bk b]
  have h2 : Bk * n = Bk * r + b * Bk * q := by rw [← e2, Nat.mul_add, Nat.mul_comm b Bk, Nat.mul_assoc]
  have h3 : b * Bk = b * Bk * q + b * Bk * (1 - q) := by rw [← Nat.mul_add, Nat.add_sub_cancel' hq, Nat.mul_one]
  omega
def PlusAt (a b l : List Nat) (k c : Nat) : Prop := l.length = k ∧ Dig l ∧ c ≤ 1 ∧ valN l + B k * c = valN (a.take k) + valN (b.take k)
theorem plus_zero (a b : List Nat) : PlusAt a b [] 0 0 := ⟨rfl, fun _ h => (by cases h), by omega, by simp [valN]⟩
theorem plus_val {a b l : List Nat} {k c n : Nat} (h1 : l.length = k) (h4 : valN l + B k * c = valN (a.take k) + valN (b.take k)) (hn : n = dgt a k + dgt b k + c) : valN (l ++ [n % 4294967296]) + B (k + 1) * (n / 4294967296) = valN (a.take (k + 1)) + valN (b.take (k + 1)) := by
  rw [valN_snoc, h1, take_succ_val, take_succ_val, B_succ]
  have e2 := Nat.mod_add_div n 4294967296
  generalize n % 4294967296 = r at *
  generalize n / 4294967296 = q at *
  exact plus_core hn e2 h4
theorem plus_step {a b l : List Nat} {k c n : Nat} (ha : Dig a) (hb : Dig b) (h : PlusAt a b l k c) (hn : n = dgt a k + dgt b k + c) : n < 8589934592 ∧ PlusAt a b (l ++ [n % 4294967296]) (k + 1) (n / 4294967296) := by
  obtain ⟨h1, h2, h3, h4⟩ := h
  have da := dgt_lt ha k
  have db := dgt_lt hb k
  have hq : n / 4294967296 ≤ 1 := by omega
  exact ⟨by omega, by simp [h1], h2.snoc (by omega), hq, plus_val h1 h4 hn⟩
theorem plus_full {a b l : List Nat} {k c : Nat} (h4 : valN l + B (k + 1) * c = valN (a.take (k + 1)) + valN (b.take (k + 1))) (hka : a.length ≤ k) (hkb : b.length ≤ k) : valN l + B (k + 1) * c = valN a + valN b := by
  have e1 : valN (a.take (k + 1)) = valN a := take_all (by omega)
  have e2 : valN (b.take (k + 1)) = valN b := take_all (by omega)
  rw [e1, e2] at h4
  exact h4
theorem plus_one {a b l : List Nat} {k : Nat} (h4 : valN l + B (k + 1) * 1 = valN a + valN b) (l1 : valN a < B k) (l2 : valN b < B k) : False := by
  rw [B_succ, Nat.mul_one] at h4
  generalize B k = x at *
  generalize valN a = y at *
  generalize valN b = z at *
  generalize valN l = t at *
  omega
theorem plus_end {a b l : List Nat} {k c : Nat} (ha : Dig a) (hb : Dig b) (h : PlusAt a b l (k + 1) c) (hka : a.length ≤ k) (hkb : b.length ≤ k) : valN l = valN a + valN b := by
  obtain ⟨h1, h2, h3, h4⟩ := h
  have h5 := plus_full h4 hka hkb
  rcases Nat.le_one_iff_eq_zero_or_eq_one.1 h3 with rfl | rfl
  · rw [Nat.mul_zero, Nat.add_zero] at h5; exact h5
  · exact (plus_one h5 (Nat.lt_of_lt_of_le (valN_lt ha) (B_le hka)) (Nat.lt_of_lt_of_le (valN_lt hb) (B_le hkb))).elim
/-! ### the difference -/
def LessAt (a b l : List Nat) (k c : Nat) : Prop := l.length = k ∧ Dig l ∧ c ≤ 1 ∧ valN l + valN (b.take k) = valN (a.take k) + B k * c
theorem less_zero (a b : List Nat) : LessAt a b [] 0 0 := ⟨rfl, fun _ h => (by cases h), by omega, by simp [valN]⟩
theorem less_val {a b l : List Nat} {k c n : Nat} (h1 : l.length = k) (hq : n / 4294967296 ≤ 1) (h4 : valN l + valN (b.take k) = valN (a.take k) + B k * c) (hn : n + dgt b k + c = 4294967296 + dgt a k) : valN (l ++ [n % 4294967296]) + valN (b.take (k + 1)) = valN (a.take (k + 1)) + B (k + 1) * (1 - n / 4294967296) := by
  rw [valN_snoc, h1, take_succ_val, take_succ_val, B_succ]
  have e2 := Nat.mod_add_div n 4294967296
  generalize n % 4294967296 = r at *
  generalize n / 4294967296 = q at *
  exact less_core hn e2 hq h4
theorem less_step {a b l : List Nat} {k c n : Nat} (ha : Dig a) (hb : Dig b) (h : LessAt a b l k c) (hn : n + dgt b k + c = 4294967296 + dgt a k) : n < 8589934592 ∧ n / 4294967296 ≤ 1 ∧ LessAt a b (l ++ [n % 4294967296]) (k + 1) (1 - n / 4294967296) := by
  obtain ⟨h1, h2, h3, h4⟩ := h
  have da := dgt_lt ha k
  have db := dgt_lt hb k
  have hq : n / 4294967296 ≤ 1 := by omega
  exact ⟨by omega, hq, by simp [h1], h2.snoc (by omega), by omega, less_val h1 hq h4 hn⟩
theorem less_high {a b : List Nat} (hle : valN b ≤ valN a) (ha : Dig a) : valN (b.take a.length) = valN b := by
  have h1 := split_val b a.length
  have l1 := valN_lt ha
  rcases Nat.eq_zero_or_pos (valN (b.drop a.length)) with h0 | h0
  · rw [h0, Nat.mul_zero, Nat.add_zero] at h1; exact h1.symm
  · have h2 : B a.length * 1 ≤ B a.length * valN (b.drop a.length) := Nat.mul_le_mul_left _ h0
    rw [Nat.mul_one] at h2
    generalize B a.length * valN (b.drop a.length) = x at *
    generalize B a.length = y at *
    generalize valN (b.take a.length) = z at *
    omega
theorem less_end {a b l : List Nat} {c : Nat} (ha : Dig a) (hle : valN b ≤ valN a) (h : LessAt a b l a.length c) : valN l + valN b = valN a := by
  obtain ⟨h1, h2, h3, h4⟩ := h
  rw [List.take_length, less_high hle ha] at h4
  have l2 := valN_lt h2
  rw [h1] at l2
  rcases Nat.le_one_iff_eq_zero_or_eq_one.1 h3 with rfl | rfl
  · rw [Nat.mul_zero, Nat.add_zero] at h4; exact h4
  · rw [Nat.mul_one] at h4
    generalize B a.length = y at *
    generalize valN l = z at *
    omega
/-! ### the rest of a row -/
theorem trim_step {l : List Nat} {n : Nat} (h : n < l.length) (h0 : dgt l n = 0) (hv : valN (l.take (n + 1)) = valN l) : valN (l.take n) = valN l := by
  rw [take_succ_val, h0] at hv; simpa using hv
theorem norm_take {l : List Nat} {n : Nat} (hn : n ≤ l.length) (h : n = 0 ∨ dgt l (n - 1) ≠ 0) : Norm (l.take n) := by
  intro d hd
  rcases h with h | h
  · subst h; simp at hd
  · rcases Nat.eq_zero_or_pos n with h0 | h0
    · subst h0; simp at hd
    · rw [List.getLast?_eq_getElem?, List.length_take, Nat.min_eq_left hn, List.getElem?_take_of_lt (by omega)] at hd
      rw [dgt, List.getD_eq_getElem?_getD, hd] at h
      exact h
/-! ### the product -/
theorem set_val : ∀ {l : List Nat} {j : Nat} (d : Nat), j < l.length → valN (l.set j d) + B j * dgt l j = valN l + B j * d
  | [], _, _, h => absurd h (Nat.not_lt_zero _)
  | x :: l, 0, d, _ => by simp only [List.set_cons_zero, valN, B_zero, dgt, List.getD_cons_zero, Nat.one_mul]; omega
  | x :: l, j + 1, d, h => by
    have ih := set_val (l := l) (j := j) d (by simpa using h)
    have e : dgt (x :: l) (j + 1) = dgt l j := rfl
    rw [e]
    simp only [List.set_cons_succ, valN, B_succ, Nat.mul_assoc]
    generalize B j * dgt l j = u at *
    generalize B j * d = v at *
    omega
theorem dgt_set {l : List Nat} {j : Nat} (d i : Nat) (h : j < l.length) : dgt (l.set j d) i = if i = j then d else dgt l i := by
  unfold dgt
  rw [List.getD_eq_getElem?_getD, List.getD_eq_getElem?_getD, List.getElem?_set]
  by_cases e : j = i
  · subst e; simp [h]
  · rw [if_neg e, if_neg (fun h => e h.symm)]
/-- The product's row: i digits of a are done, and k digits of b for the next one. -/
structure TimesAt (a b l : List Nat) (i k c : Nat) : Prop where
  len : l.length = a.length + b.length
  dig : Dig l
  car : c < 4294967296
  out : ∀ j, i + b.length ≤ j → dgt l j = 0
  val : valN l + B (i + k) * c = valN (a.take i) * valN b + B i * dgt a i * valN (b.take k)
theorem times_core {n x y z c r q bt Bik Bi vl vl' p w b2 : Nat} (hn : n = x * y + z + c) (e2 : r + bt * q = n) (hs : vl' + Bik * z = vl + Bik * r) (h4 : vl + Bik * c = p + Bi * x * w) (hB : Bik = Bi * b2) : vl' + bt * Bik * q = p + Bi * x * (w + b2 * y) := by
  have h1 : Bik * n = Bik * (x * y) + Bik * z + Bik * c := by rw [hn, Nat.mul_add, Nat.mul_add]
  have h2 : Bik * n = Bik * r + bt * Bik * q := by rw [← e2, Nat.mul_add, Nat.mul_comm bt Bik, Nat.mul_assoc]
  have h3 : Bi * x * (w + b2 * y) = Bi * x * w + Bik * (x * y) := by rw [Nat.mul_add, hB]; congr 1; ac_rfl
  omega
theorem prod_lt {x y z c : Nat} (hx : x < 4294967296) (hy : y < 4294967296) (hz : z < 4294967296) (hc : c < 4294967296) : x * y + z + c < 18446744073709551616 := by
  have : x * y ≤ 4294967295 * 4294967295 := Nat.mul_le_mul (by omega) (by omega)
  omega
theorem times_val {a b l : List Nat} {i k c n : Nat} (hjl : i + k < l.length) (hv : valN l + B (i + k) * c = valN (a.take i) * valN b + B i * dgt a i * valN (b.take k)) (hn : n = dgt a i * dgt b k + dgt l (i + k) + c) : valN (l.set (i + k) (n % 4294967296)) + B (i + (k + 1)) * (n / 4294967296) = valN (a.take i) * valN b + B i * dgt a i * valN (b.take (k + 1)) := by
  rw [take_succ_val, ← Nat.add_assoc, B_succ]
  have e2 := Nat.mod_add_div n 4294967296
  have e3 := set_val (n % 4294967296) hjl
  generalize n % 4294967296 = r at *
  generalize n / 4294967296 = q at *
  exact times_core hn e2 e3 hv (B_add i k)
theorem times_step {a b l : List Nat} {i k c n : Nat} (ha : Dig a) (hb : Dig b) (h : TimesAt a b l i k c) (hi : i < a.length) (hk : k < b.length) (hn : n = dgt a i * dgt b k + dgt l (i + k) + c) : n < 18446744073709551616 ∧ TimesAt a b (l.set (i + k) (n % 4294967296)) i (k + 1) (n / 4294967296) := by
  have da := dgt_lt ha i
  have db := dgt_lt hb k
  have dl := dgt_lt h.dig (i + k)
  have hlt := prod_lt da db dl h.car
  rw [← hn] at hlt
  have hjl : i + k < l.length := by rw [h.len]; omega
  exact ⟨hlt, by rw [List.length_set]; exact h.len, h.dig.set _ (Nat.mod_lt _ (by decide)), by omega, fun j hj => by rw [dgt_set _ _ hjl, if_neg (by omega)]; exact h.out j hj, times_val hjl h.val hn⟩
theorem valN_nil : valN [] = 0 := rfl
theorem times_nval {a b l : List Nat} {i c : Nat} (hjl : i + b.length < l.length) (h0 : dgt l (i + b.length) = 0) (hv : valN l + B (i + b.length) * c = valN (a.take i) * valN b + B i * dgt a i * valN (b.take b.length)) : valN (l.set (i + b.length) c) = valN (a.take (i + 1)) * valN b := by
  have hs := set_val c hjl
  rw [h0, Nat.mul_zero, Nat.add_zero] at hs
  rw [List.take_length] at hv
  rw [hs, hv, take_succ_val, Nat.add_mul]
theorem times_next {a b l : List Nat} {i c : Nat} (h : TimesAt a b l i b.length c) (hi : i < a.length) : TimesAt a b (l.set (i + b.length) c) (i + 1) 0 0 := by
  have hjl : i + b.length < l.length := by rw [h.len]; omega
  have h0 := h.out (i + b.length) (Nat.le_refl _)
  have hn := times_nval hjl h0 h.val
  exact ⟨by rw [List.length_set]; exact h.len, h.dig.set _ h.car, Nat.zero_lt_succ _, fun j hj => by rw [dgt_set _ _ hjl, if_neg (by omega)]; exact h.out j (by omega), by rw [hn, List.take_zero, valN_nil, Nat.mul_zero, Nat.mul_zero]⟩
theorem times_end {a b l : List Nat} (h : TimesAt a b l a.length 0 0) : valN l = valN a * valN b := by
  have := h.val
  rw [List.take_length, List.take_zero] at this
  simpa [valN] using this
theorem zeros_val : ∀ n, valN (List.replicate n 0) = 0
  | 0 => rfl
  | n + 1 => by rw [List.replicate_succ]; simp only [valN, zeros_val n]
theorem zeros_dig (n : Nat) : Dig (List.replicate n 0) := by
  intro d hd
  rw [(List.mem_replicate.1 hd).2]; decide
theorem zeros_dgt (n i : Nat) : dgt (List.replicate n 0) i = 0 := by
  unfold dgt
  rw [List.getD_eq_getElem?_getD, List.getElem?_replicate]
  split <;> rfl
theorem times_zero (a b : List Nat) : TimesAt a b (List.replicate (a.length + b.length) 0) 0 0 0 :=
  ⟨by simp, zeros_dig _, by decide, fun j _ => zeros_dgt _ j, by rw [zeros_val]; simp [valN]⟩
/-! ### the whole part and what is left -/
theorem bit_val : ∀ (l : List Nat) (i : Nat), Dig l → (valN l).testBit i = (dgt l (i / 32)).testBit (i % 32)
  | [], i, _ => by simp [valN, dgt]
  | d :: l, i, h => by
    have hd : d < 2 ^ 32 := h d List.mem_cons_self
    have e : valN (d :: l) = 2 ^ 32 * valN l + d := by show d + 4294967296 * valN l = _; rw [Nat.add_comm]
    rw [e, Nat.testBit_two_pow_mul_add _ hd]
    by_cases hi : i < 32
    · rw [if_pos hi, Nat.div_eq_of_lt hi, Nat.mod_eq_of_lt hi]; rfl
    · rw [if_neg hi, bit_val l (i - 32) h.tail]
      have e1 : i / 32 = (i - 32) / 32 + 1 := by omega
      have e2 : i % 32 = (i - 32) % 32 := by omega
      rw [e1, e2]; rfl
structure DivAt (a q : List Nat) (b r i : Nat) : Prop where
  len : q.length = a.length
  dig : Dig q
  lt : r < b
  val : ∃ Q, valN q = 2 ^ i * Q ∧ valN a / 2 ^ i = Q * b + r
theorem div_zero {a : List Nat} {b : Nat} (ha : Dig a) (hb : 0 < b) : DivAt a (List.replicate a.length 0) b 0 (32 * a.length) := by
  refine ⟨by simp, zeros_dig _, hb, 0, by rw [zeros_val]; simp, ?_⟩
  rw [Nat.div_eq_of_lt (by rw [← B_two]; exact valN_lt ha)]
  simp
theorem or_add {d k : Nat} (h : 2 ^ (k + 1) ∣ d) : d ||| 2 ^ k = d + 2 ^ k := by
  obtain ⟨m, rfl⟩ := h
  exact (Nat.two_pow_add_eq_or_of_lt (Nat.pow_lt_pow_right (by decide) (Nat.lt_succ_self k)) m).symm
theorem digit_dvd {q : List Nat} {i : Nat} (hq : Dig q) (h : 2 ^ (i + 1) ∣ valN q) : 2 ^ (i % 32 + 1) ∣ dgt q (i / 32) := by
  apply Nat.dvd_of_mod_eq_zero
  apply Nat.eq_of_testBit_eq
  intro j
  rw [Nat.zero_testBit, Nat.testBit_mod_two_pow]
  by_cases hj : j < i % 32 + 1
  · have e := bit_val q (32 * (i / 32) + j) hq
    have e1 : (32 * (i / 32) + j) / 32 = i / 32 := by omega
    have e2 : (32 * (i / 32) + j) % 32 = j := by omega
    rw [e1, e2] at e
    rw [← e]
    obtain ⟨m, hm⟩ := h
    rw [hm, Nat.testBit_two_pow_mul]
    have : ¬ (i + 1 ≤ 32 * (i / 32) + j) := by omega
    simp [this]
  · simp [hj]
theorem div_half (n i : Nat) : n / 2 ^ i = 2 * (n / 2 ^ (i + 1)) + (n.testBit i).toNat := by
  rw [Nat.pow_succ, ← Nat.div_div_eq_div_mul]
  have : (n.testBit i).toNat = n / 2 ^ i % 2 := by
    rw [Nat.testBit_eq_decide_div_mod_eq]
    have : n / 2 ^ i % 2 < 2 := Nat.mod_lt _ (by decide)
    by_cases h : n / 2 ^ i % 2 = 1
    · simp [h]
    · simp [h]; omega
  rw [this]
  omega
theorem div_keep {a q : List Nat} {b r i : Nat} (h : DivAt a q b r (i + 1)) (hlt : 2 * r + ((valN a).testBit i).toNat < b) : DivAt a q b (2 * r + ((valN a).testBit i).toNat) i := by
  obtain ⟨Q, h1, h2⟩ := h.val
  refine ⟨h.len, h.dig, hlt, 2 * Q, by rw [h1, Nat.pow_succ, Nat.mul_assoc], ?_⟩
  rw [div_half, h2, Nat.mul_add, Nat.mul_assoc, Nat.add_assoc]
theorem div_take {a q : List Nat} {b r i : Nat} (h : DivAt a q b r (i + 1)) (hi : i < 32 * a.length) (hge : b ≤ 2 * r + ((valN a).testBit i).toNat) :
    dgt q (i / 32) ||| 2 ^ (i % 32) < 4294967296 ∧ DivAt a (q.set (i / 32) (dgt q (i / 32) ||| 2 ^ (i % 32))) b (2 * r + ((valN a).testBit i).toNat - b) i := by
  obtain ⟨Q, h1, h2⟩ := h.val
  have hb1 : ((valN a).testBit i).toNat ≤ 1 := by cases (valN a).testBit i <;> decide
  have hr := h.lt
  have hjl : i / 32 < q.length := by rw [h.len]; omega
  have hd : dgt q (i / 32) ||| 2 ^ (i % 32) < 4294967296 := Nat.or_lt_two_pow (n := 32) (dgt_lt h.dig _) (Nat.pow_lt_pow_right (by decide) (Nat.mod_lt _ (by decide)))
  have hor := or_add (digit_dvd h.dig (i := i) ⟨Q, h1⟩)
  refine ⟨hd, by rw [List.length_set]; exact h.len, h.dig.set _ hd, by omega, 2 * Q + 1, ?_, ?_⟩
  · have hs := set_val (dgt q (i / 32) ||| 2 ^ (i % 32)) hjl
    rw [hor, Nat.mul_add] at hs
    have e : B (i / 32) * 2 ^ (i % 32) = 2 ^ i := by rw [B_two, ← Nat.pow_add, Nat.div_add_mod]
    rw [e] at hs
    rw [hor, Nat.mul_add, Nat.mul_one, ← Nat.mul_assoc, ← Nat.pow_succ, ← h1]
    omega
  · have h3 := div_half (valN a) i
    rw [h2, Nat.mul_add] at h3
    rw [h3, Nat.add_mul, Nat.one_mul, Nat.mul_assoc]
    omega
theorem div_end {a q : List Nat} {b r : Nat} (h : DivAt a q b r 0) : valN q = valN a / b ∧ r = valN a % b := by
  obtain ⟨Q, h1, h2⟩ := h.val
  have hr := h.lt
  simp only [Nat.pow_zero, Nat.one_mul, Nat.div_one] at h1 h2
  rw [h1, h2]
  constructor
  · rw [Nat.mul_comm, Nat.mul_add_div (by omega), Nat.div_eq_of_lt hr]; rfl
  · rw [Nat.mul_comm, Nat.mul_add_mod, Nat.mod_eq_of_lt hr]
/-! ### the greatest common divisor -/
structure GcdAt (a0 b0 M a b i : Nat) : Prop where
  gcd : Nat.gcd a b = Nat.gcd a0 b0
  ord : i = 0 ∨ b < a
  low : 2 ^ (i - 1) * (a * b) < 2 ^ M
theorem gcd_zero {a b M : Nat} (h : a * b < 2 ^ M) : GcdAt a b M a b 0 := ⟨rfl, .inl rfl, by simpa using h⟩
theorem gcd_step {a0 b0 M a b i : Nat} (h : GcdAt a0 b0 M a b i) (hb : 0 < b) : GcdAt a0 b0 M b (a % b) (i + 1) := by
  have hlt := Nat.mod_lt a hb
  refine ⟨by rw [← h.gcd, Nat.gcd_comm b, ← Nat.gcd_rec, Nat.gcd_comm], .inr hlt, ?_⟩
  have h3 := h.low
  rw [Nat.add_sub_cancel]
  rcases h.ord with rfl | h2
  · have : b * (a % b) ≤ a * b := by rw [Nat.mul_comm a b]; exact Nat.mul_le_mul_left _ (Nat.mod_le a b)
    simp only [Nat.zero_sub, Nat.pow_zero, Nat.one_mul] at h3 ⊢
    omega
  · rcases Nat.eq_zero_or_pos i with rfl | hi
    · have : b * (a % b) ≤ a * b := by rw [Nat.mul_comm a b]; exact Nat.mul_le_mul_left _ (Nat.mod_le a b)
      simp only [Nat.zero_sub, Nat.pow_zero, Nat.one_mul] at h3 ⊢
      omega
    · have e1 : a % b + b ≤ a := by
        have e2 := Nat.div_add_mod a b
        have e3 : 1 ≤ a / b := (Nat.one_le_div_iff hb).2 (by omega)
        have e4 : b * 1 ≤ b * (a / b) := Nat.mul_le_mul_left _ e3
        omega
      have e5 : 2 * (a % b) ≤ a := by omega
      have e6 : 2 * (b * (a % b)) ≤ a * b := by
        have := Nat.mul_le_mul_left b e5
        rw [Nat.mul_comm a b]
        calc 2 * (b * (a % b)) = b * (2 * (a % b)) := by ac_rfl
          _ ≤ b * a := this
      have e7 : (2 : Nat) ^ i = 2 ^ (i - 1) * 2 := by rw [← Nat.pow_succ]; congr 1; omega
      rw [e7, Nat.mul_assoc]
      exact Nat.lt_of_le_of_lt (Nat.mul_le_mul_left _ e6) h3
theorem gcd_fuel {a0 b0 M a b i : Nat} (h : GcdAt a0 b0 M a b i) (hb : 0 < b) (ha : i = 0 → 0 < a) : i ≤ M := by
  have hapos : 0 < a := by
    rcases h.ord with e | e
    · exact ha e
    · omega
  have h1 : 1 ≤ a * b := Nat.mul_pos hapos hb
  have h2 := h.low
  have h3 : 2 ^ (i - 1) * 1 ≤ 2 ^ (i - 1) * (a * b) := Nat.mul_le_mul_left _ h1
  have h4 : (2 : Nat) ^ (i - 1) < 2 ^ M := by omega
  have := (Nat.pow_lt_pow_iff_right (by decide)).1 h4
  omega
end Go.Proofs.YtjomihhpglojpaaGreatDoor.Nn
end
section
/- Fractions: plain laws. -/
namespace Go.Proofs.YtjomihhpglojpaaGreatDoor
/-- Is a fraction right? -/
def rightB (n d : Int) : Bool := decide (1 ≤ d ∧ Nat.gcd n.natAbs d.natAbs = 1)
/-- Is one above another? -/
def aboveP (n1 d1 n2 d2 : Int) : Prop := n2 * d1 < n1 * d2
theorem natAbs_mul_pos {n d : Int} (hd : 1 ≤ d) : ((n.natAbs * d.natAbs : Nat) : Int) = if n < 0 then -(n * d) else n * d := by
  have h2 : (d.natAbs : Int) = d := by omega
  push_cast
  rw [h2]
  split
  · have h1 : (n.natAbs : Int) = -n := by omega
    rw [h1, Int.neg_mul]
  · have h1 : (n.natAbs : Int) = n := by omega
    rw [h1]
theorem mul_sign {n d : Int} (hd : 1 ≤ d) : (n < 0 → n * d < 0) ∧ (0 ≤ n → 0 ≤ n * d) :=
  ⟨fun h => Int.mul_neg_of_neg_of_pos h (by omega), fun h => Int.mul_nonneg h (by omega)⟩
/-- The reference's difference: its sign and its size. -/
def diffS (n1 : Bool) (x : Nat) (n2 : Bool) (y : Nat) : Bool := if n1 = n2 then n1 else if y ≤ x then n1 else n2
def diffN (n1 : Bool) (x : Nat) (n2 : Bool) (y : Nat) : Nat := if n1 = n2 then x + y else if y ≤ x then x - y else y - x
/-- Held against each other by the difference. -/
theorem above_diff {n1 d1 n2 d2 : Int} (h1 : 1 ≤ d1) (h2 : 1 ≤ d2) :
    (diffN (decide (n1 < 0)) (n1.natAbs * d2.natAbs) (!decide (n2 < 0)) (n2.natAbs * d1.natAbs) ≠ 0 ∧ diffS (decide (n1 < 0)) (n1.natAbs * d2.natAbs) (!decide (n2 < 0)) (n2.natAbs * d1.natAbs) = false) ↔ aboveP n1 d1 n2 d2 := by
  have e1 := natAbs_mul_pos (n := n1) h2
  have e2 := natAbs_mul_pos (n := n2) h1
  have s1 := mul_sign (n := n1) h2
  have s2 := mul_sign (n := n2) h1
  unfold aboveP diffN diffS
  generalize n1.natAbs * d2.natAbs = x at *
  generalize n2.natAbs * d1.natAbs = y at *
  generalize n1 * d2 = p at *
  generalize n2 * d1 = q at *
  by_cases a : n1 < 0 <;> by_cases b : n2 < 0 <;> simp only [a, b, decide_true, decide_false, Bool.not_true, Bool.not_false, if_true, if_false, true_implies, false_implies, reduceCtorEq] at e1 e2 s1 s2 ⊢
  · split <;> simp <;> omega
  · have := s1.1; have := s2.2 (by omega); simp; omega
  · have := s1.2 (by omega); have := s2.1; simp; omega
  · have := s1.2 (by omega); have := s2.2 (by omega)
    split <;> simp <;> omega
/-- The whole product of two words, in two words. -/
theorem cmp_words {h i l m x y : Nat} (hx : x = h * 18446744073709551616 + l) (hy : y = i * 18446744073709551616 + m) (hl : l < 18446744073709551616) (hm : m < 18446744073709551616) :
    ((h < i ∨ h = i ∧ l < m) ↔ x < y) ∧ ((h = i ∧ l = m) ↔ x = y) := by
  subst hx; subst hy
  constructor <;> constructor <;> intro h <;> omega
theorem mul_words {x y : Nat} (hx : x < 18446744073709551616) (hy : y < 18446744073709551616) :
    let x0 := x % 4294967296; let x1 := x / 4294967296; let y0 := y % 4294967296; let y1 := y / 4294967296
    let w0 := x0 * y0; let t := x1 * y0 + w0 / 4294967296; let w1 := t % 4294967296 + x0 * y1
    w0 < 18446744073709551616 ∧ x1 * y0 < 18446744073709551616 ∧ t < 18446744073709551616 ∧ x0 * y1 < 18446744073709551616 ∧ w1 < 18446744073709551616 ∧ x1 * y1 < 18446744073709551616 ∧ x1 * y1 + t / 4294967296 < 18446744073709551616 ∧ x1 * y1 + t / 4294967296 + w1 / 4294967296 < 18446744073709551616 ∧
    x * y = (x1 * y1 + t / 4294967296 + w1 / 4294967296) * 18446744073709551616 + x * y % 18446744073709551616 := by
  intro x0 x1 y0 y1 w0 t w1
  have a0 : x0 < 4294967296 := Nat.mod_lt _ (by decide)
  have b0 : y0 < 4294967296 := Nat.mod_lt _ (by decide)
  have a1 : x1 < 4294967296 := by show x / 4294967296 < _; omega
  have b1 : y1 < 4294967296 := by show y / 4294967296 < _; omega
  have ex : x = x1 * 4294967296 + x0 := by show x = x / 4294967296 * 4294967296 + x % 4294967296; omega
  have ey : y = y1 * 4294967296 + y0 := by show y = y / 4294967296 * 4294967296 + y % 4294967296; omega
  have p00 : x0 * y0 ≤ 4294967295 * 4294967295 := Nat.mul_le_mul (by omega) (by omega)
  have p10 : x1 * y0 ≤ 4294967295 * 4294967295 := Nat.mul_le_mul (by omega) (by omega)
  have p01 : x0 * y1 ≤ 4294967295 * 4294967295 := Nat.mul_le_mul (by omega) (by omega)
  have p11 : x1 * y1 ≤ 4294967295 * 4294967295 := Nat.mul_le_mul (by omega) (by omega)
  have exy : x * y = x1 * y1 * 18446744073709551616 + (x1 * y0 + x0 * y1) * 4294967296 + x0 * y0 := by
    rw [ex, ey, Nat.add_mul, Nat.mul_add, Nat.mul_add]
    have q1 : x1 * 4294967296 * (y1 * 4294967296) = x1 * y1 * 18446744073709551616 := by
      rw [show (18446744073709551616 : Nat) = 4294967296 * 4294967296 by decide]; ac_rfl
    have q2 : x1 * 4294967296 * y0 = x1 * y0 * 4294967296 := by ac_rfl
    have q3 : x0 * (y1 * 4294967296) = x0 * y1 * 4294967296 := by ac_rfl
    rw [q1, q2, q3, Nat.add_mul]; omega
  clear_value x0 x1 y0 y1
  have hw0 : w0 = x0 * y0 := rfl
  have ht : t = x1 * y0 + w0 / 4294967296 := rfl
  have hw1 : w1 = t % 4294967296 + x0 * y1 := rfl
  clear_value w0 t w1
  rw [exy]
  generalize x0 * y0 = u00 at *
  generalize x1 * y0 = u10 at *
  generalize x0 * y1 = u01 at *
  generalize x1 * y1 = u11 at *
  clear ex ey exy hx hy
  omega
end Go.Proofs.YtjomihhpglojpaaGreatDoor
end
section
/- Shifts and bits of unsigned numbers. Plain lemmas over any program. -/
namespace Go.Proofs.YtjomihhpglojpaaGreatDoor
open Go.RowKit

/-- A number without some bits of another. -/
def andNotN (a b : Nat) : Nat := Nat.bitwise (fun x y => x && !y) a b
theorem andNotN_bit (a b i : Nat) : (andNotN a b).testBit i = (a.testBit i && !b.testBit i) := Nat.testBit_bitwise rfl _ _ _
theorem andNotN_lt {a b n : Nat} (ha : a < 2 ^ n) : andNotN a b < 2 ^ n := by
  refine Nat.lt_pow_two_of_testBit _ fun i hi => ?_
  rw [andNotN_bit, Nat.testBit_lt_two_pow (Nat.lt_of_lt_of_le ha (Nat.pow_le_pow_right (by decide) hi))]
  rfl
theorem wrap_un {k : IntKind} (hs : k.signed = false) {n : Nat} (h : n < 2 ^ k.bits) : k.wrap (n : Int) = (n : Int) := by
  unfold IntKind.wrap
  have h' : (n : Int) % (2 : Int) ^ k.bits = n := by
    rw [Int.emod_eq_of_lt (by omega)]
    exact_mod_cast h
  simp [hs, h']

section
variable {P : Program} {w : World} {l : List (Nat × Value)}
theorem run_shr {k : IntKind} {a b : Nat} {ky : IntKind} (hb : b ≤ k.bits) : (Op.shift .shr k (a : Int) ky (b : Int)).run P w = .ok (.int k ((a / 2 ^ b : Nat) : Int)) w := by
  have h1 : ¬ ((b : Int) < 0) := by omega
  simp only [Op.shift, h1, if_false, Int.toNat_natCast, Nat.min_eq_left hb]
  have : Int.fdiv (a : Int) (2 ^ b) = ((a / 2 ^ b : Nat) : Int) := by
    rw [Int.fdiv_eq_ediv_of_nonneg _ (Int.le_of_lt (Int.pow_pos (by decide)))]
    push_cast
    rfl
  rw [this]; rfl
theorem run_shl1 {k : IntKind} {b : Nat} {ky : IntKind} (hs : k.signed = false) (hb : b < k.bits) : (Op.shift .shl k 1 ky (b : Int)).run P w = .ok (.int k ((2 ^ b : Nat) : Int)) w := by
  have h1 : ¬ ((b : Int) < 0) := by omega
  simp only [Op.shift, h1, if_false, Int.toNat_natCast, Nat.min_eq_left (Nat.le_of_lt hb)]
  have : k.wrap (1 * 2 ^ b) = ((2 ^ b : Nat) : Int) := by
    rw [← wrap_un hs (Nat.pow_lt_pow_right (by decide) hb)]
    congr 1
    push_cast
    omega
  rw [this]; rfl
theorem run_bits {op : BinOp} {k : IntKind} {a b r : Nat} (hs : k.signed = false) (ha : a < 2 ^ k.bits) (hb : b < 2 ^ k.bits) (hr : (match op with | .and => some (a &&& b) | .or => some (a ||| b) | .andNot => some (andNotN a b) | _ => none) = some r) : (Op.intBits op k (a : Int) (b : Int)).run P w = .ok (.int k (r : Int)) w := by
  have ha' : a % 2 ^ k.bits = a := Nat.mod_eq_of_lt ha
  have hb' : b % 2 ^ k.bits = b := Nat.mod_eq_of_lt hb
  cases op <;> simp only [Option.some.injEq, reduceCtorEq] at hr <;> subst hr
  · simp only [Op.intBits, BitVec.ofInt_natCast, BitVec.toNat_and, BitVec.toNat_ofNat, ha', hb']
    rw [wrap_un hs (Nat.and_lt_two_pow _ hb)]; rfl
  · simp only [Op.intBits, BitVec.ofInt_natCast, BitVec.toNat_or, BitVec.toNat_ofNat, ha', hb']
    rw [wrap_un hs (Nat.or_lt_two_pow ha hb)]; rfl
  · have e : (BitVec.ofNat k.bits a &&& ~~~BitVec.ofNat k.bits b).toNat = andNotN a b := by
      apply Nat.eq_of_testBit_eq
      intro i
      rw [andNotN_bit, BitVec.testBit_toNat]
      simp only [BitVec.getLsbD_and, BitVec.getLsbD_not, BitVec.getLsbD_ofNat]
      by_cases hi : i < k.bits
      · simp [hi]
      · have : a.testBit i = false := Nat.testBit_lt_two_pow (Nat.lt_of_lt_of_le ha (Nat.pow_le_pow_right (by decide) (by omega)))
        simp [hi, this]
    simp only [Op.intBits, BitVec.ofInt_natCast]
    rw [e, wrap_un hs (andNotN_lt ha)]; rfl

theorem d_shr {x y : Operand} {k ky : IntKind} {a b : Nat} {p q : Int} {t t' ty : TypeId} (hx : Ev l x (.int k p) := by exact rfl) (hy : Ev l y (.int ky q) := by exact rfl) (hp : p = (a : Int) := by exact rfl) (hq : q = (b : Int) := by exact rfl) (hb : b ≤ k.bits) :
    Does P l w (.binOp .shr t x y t') ty (.int k ((a / 2 ^ b : Nat) : Int)) w := by
  intro ρ hρ d pos af g
  subst hp; subst hq
  have e : (eqGuard .shr t x y (.int k a) (.int ky b)).run P w = .ok () w := rfl
  have e2 : (binOp .shr t (.int k a) (.int ky b)).run P w = .ok (.int k ((a / 2 ^ b : Nat) : Int)) w := run_shr (ky := ky) hb
  simp only [execOp, hρ _ _ hx, hρ _ _ hy, Sem.run_bind, e, Result.andThen_ok, e2]
  rfl
theorem d_shl1 {x y : Operand} {k ky : IntKind} {b : Nat} {q : Int} {t t' ty : TypeId} (hx : Ev l x (.int k 1) := by exact rfl) (hy : Ev l y (.int ky q) := by exact rfl) (hs : k.signed = false := by exact rfl) (hq : q = (b : Int) := by exact rfl) (hb : b < k.bits) :
    Does P l w (.binOp .shl t x y t') ty (.int k ((2 ^ b : Nat) : Int)) w := by
  intro ρ hρ d pos af g
  subst hq
  have e : (eqGuard .shl t x y (.int k 1) (.int ky b)).run P w = .ok () w := rfl
  have e2 : (binOp .shl t (.int k 1) (.int ky b)).run P w = .ok (.int k ((2 ^ b : Nat) : Int)) w := run_shl1 (ky := ky) hs hb
  simp only [execOp, hρ _ _ hx, hρ _ _ hy, Sem.run_bind, e, Result.andThen_ok, e2]
  rfl
theorem d_bits {op : BinOp} {x y : Operand} {k : IntKind} {a b r : Nat} {p q : Int} {t t' ty : TypeId} (hx : Ev l x (.int k p) := by exact rfl) (hy : Ev l y (.int k q) := by exact rfl) (hs : k.signed = false := by exact rfl) (hp : p = (a : Int) := by exact rfl) (hq : q = (b : Int) := by exact rfl) (ha : a < 2 ^ k.bits) (hb : b < 2 ^ k.bits)
    (hr : (match op with | .and => some (a &&& b) | .or => some (a ||| b) | .andNot => some (andNotN a b) | _ => none) = some r := by exact rfl) :
    Does P l w (.binOp op t x y t') ty (.int k (r : Int)) w := by
  intro ρ hρ d pos af g
  subst hp; subst hq
  have e : (eqGuard op t x y (.int k a) (.int k b)).run P w = .ok () w := by cases op <;> rfl
  have e2 : (binOp op t (.int k a) (.int k b)).run P w = .ok (.int k (r : Int)) w := by
    have := run_bits (P := P) (w := w) (op := op) hs ha hb hr
    cases op <;> simp only [reduceCtorEq] at hr <;> simpa [binOp] using this
  simp only [execOp, hρ _ _ hx, hρ _ _ hy, Sem.run_bind, e, Result.andThen_ok, e2]
  rfl
end
end Go.Proofs.YtjomihhpglojpaaGreatDoor
end
