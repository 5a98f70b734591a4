/- Texts gone through rune by rune; tests that are split by what they say. Plain lemmas over any program. -/
import Derived.Test.YtnohefaifbghiaaGreatDoorIfc
import Derived.Laws.RangeAny
namespace Go.Proofs.YtnohefaifbghiaaGreatDoor
open Go.RowKit

/-- An iterator over a text. -/
def IterAt (w : World) (r : Nat) (s : ByteArray) (pos : Nat) : Prop := w.heap[r]? = some (.stringIter s pos)
theorem iter_kept {w w' : World} {r : Nat} {s : ByteArray} {pos : Nat} {q : Option Nat} (h : IterAt w r s pos) (hgr : w.grownBy w' q) (hne : some r ≠ q) : IterAt w' r s pos := blk_kept h hgr hne
theorem width_pos (s : ByteArray) (pos : Nat) (h : pos < s.size) : 1 ≤ (Utf8.decode s pos).2 := by
  by_cases ha : (s[pos]'h).toNat < 128
  · rw [decode_ascii s pos h ha]; exact Nat.le_refl _
  · exact (decode_high s pos h (by omega)).2

section
variable {P : Program} {ops : Array Oper} {Q : Exit → Act → World → Prop} {a : Act} {w w' : World} {rest : List Oper} {N : Nat} {l : List (Nat × Value)}

theorem st_range (h : Fr N l a) {d : Nat} {x : Operand} {t ty : TypeId} {pos : String} {af : Array Edge} {s : ByteArray} (hU : P.underlying t = some .string) (hx : Ev l x (.string s) := by exact rfl) (hd : Nat.blt d N = true := by exact rfl)
    (k : ∀ a' w', IterAt w' w.heap.size s 0 → w.grownBy w' none → w'.heap.size = w.heap.size + 1 → Fr N ((d, .pointer (some ⟨w.heap.size, 0, none⟩)) :: l) a' → wpList P ops Q rest a' w') :
    wpList P ops Q (⟨some d, .range t x, ty, pos, af, none⟩ :: rest) a w :=
  st h (v := .pointer (some ⟨w.heap.size, 0, none⟩)) (w' := w.iter s 0) (by intro ρ hρ d pos af g; simp [execOp, hρ _ _ hx, run_range_string w t s hU]) hd
    fun a' hF => k a' _ (World.iter_heap w s 0) (World.grownBy_alloc _ _ _) (by simp [World.iter]) hF

theorem setObj_heap (w : World) (r : Nat) (o o' : Obj) (h : w.heap[r]? = some o') : ({ w with heap := w.heap.setIfInBounds r o } : World).heap[r]? = some o := by
  have := lt_at h
  simp [this]
theorem st_next (h : Fr N l a) {d : Nat} {x : Operand} {r : Nat} {ty : TypeId} {pos : String} {af : Array Edge} {s : ByteArray} {p : Nat} (hg : IterAt w r s p) (hp : p < s.size) (hx : Ev l x (.pointer (some ⟨r, 0, none⟩)) := by exact rfl) (hd : Nat.blt d N = true := by exact rfl)
    (k : ∀ a' w', IterAt w' r s (p + (Utf8.decode s p).2) → w.grownBy w' (some r) → w'.heap.size = w.heap.size → Fr N ((d, .tuple #[.bool true, .int .i64 p, .int .i32 (Utf8.decode s p).1]) :: l) a' → wpList P ops Q rest a' w') :
    wpList P ops Q (⟨some d, .next x true, ty, pos, af, none⟩ :: rest) a w := by
  have hg' : w.heap[r]? = some (.stringIter s p) := hg
  refine st h (v := .tuple #[.bool true, .int .i64 p, .int .i32 (Utf8.decode s p).1]) (w' := { w with heap := w.heap.setIfInBounds r (.stringIter s (p + (Utf8.decode s p).2)) }) ?_ hd
    fun a' hF => k a' _ (setObj_heap w r _ _ hg') ⟨rfl, rfl, rfl, by simp, fun k _ hne => by
      show (w.heap.setIfInBounds r _)[k]? = _
      rw [Array.getElem?_setIfInBounds_ne (fun e => hne (by rw [e]))]⟩ (by simp) hF
  intro ρ hρ d pos af g
  simp only [execOp, hρ _ _ hx, Instr.next, getObj, setObj, Sem.run_bind, Sem.run, hg', Result.andThen, hp, if_true]
  simp [goInt]
theorem st_nextE (h : Fr N l a) {d : Nat} {x : Operand} {r : Nat} {ty : TypeId} {pos : String} {af : Array Edge} {s : ByteArray} {p : Nat} (hg : IterAt w r s p) (hp : ¬ p < s.size) (hx : Ev l x (.pointer (some ⟨r, 0, none⟩)) := by exact rfl) (hd : Nat.blt d N = true := by exact rfl)
    (k : ∀ a', Fr N ((d, .tuple #[.bool false]) :: l) a' → wpList P ops Q rest a' w) :
    wpList P ops Q (⟨some d, .next x true, ty, pos, af, none⟩ :: rest) a w := by
  have hg' : w.heap[r]? = some (.stringIter s p) := hg
  refine st h (v := .tuple #[.bool false]) (w' := w) ?_ hd fun a' hF => k a' hF
  intro ρ hρ d pos af g
  simp [execOp, hρ _ _ hx, Instr.next, getObj, Sem.run, hg', hp]

/-- A text held against the empty one. -/
theorem eq_str (s u : ByteArray) : (s.toList == u.toList) = decide (s = u) := by
  rw [Go.ByteArray.toList_eq, Go.ByteArray.toList_eq, Bool.eq_iff_iff]
  simp [ByteArray.ext_iff, Array.toList_inj]
theorem run_eql_str (t : TypeId) (s u : ByteArray) : (binOp .eql t (.string s) (.string u)).run P w = .ok (.bool (decide (s = u))) w := by rw [binOp_string_eql, eq_str]; rfl
theorem run_neq_str (t : TypeId) (s u : ByteArray) : (binOp .neq t (.string s) (.string u)).run P w = .ok (.bool (!decide (s = u))) w := by rw [binOp_string_neq, eq_str]; rfl
theorem d_eqS {op : BinOp} {x y : Operand} {s u : ByteArray} {b : Bool} {t t' ty : TypeId} (hx : Ev l x (.string s) := by exact rfl) (hy : Ev l y (.string u) := by exact rfl) (hb : (match op with | .eql => some (decide (s = u)) | .neq => some (!decide (s = u)) | _ => none) = some b := by exact rfl) : Does P l w (.binOp op t x y t') ty (.bool b) w := by
  intro ρ hρ d pos af g
  cases op <;> simp only [Option.some.injEq, reduceCtorEq] at hb <;> subst hb
  · simp only [execOp, hρ _ _ hx, hρ _ _ hy, Sem.run_bind]
    have e : (eqGuard .eql t x y (.string s) (.string u)).run P w = .ok () w := rfl
    rw [e, Result.andThen_ok, run_eql_str]; rfl
  · simp only [execOp, hρ _ _ hx, hρ _ _ hy, Sem.run_bind]
    have e : (eqGuard .neq t x y (.string s) (.string u)).run P w = .ok () w := rfl
    rw [e, Result.andThen_ok, run_neq_str]; rfl
theorem d_eqST {op : BinOp} {x y : Operand} {s u : ByteArray} {b : Bool} {t t' ty : TypeId} (hx : Ev l x (.string s) := by exact rfl) (hy : Ev l y (.string u) := by exact rfl) (hb : (match op with | .eql => some (decide (s = u)) | .neq => some (!decide (s = u)) | _ => none) = some b := by exact rfl)
    (h : b = true := by first | exact rfl | exact decide_eq_true rfl | assumption) : Does P l w (.binOp op t x y t') ty (.bool true) w := d_to (d_eqS hx hy hb) h
theorem d_eqSF {op : BinOp} {x y : Operand} {s u : ByteArray} {b : Bool} {t t' ty : TypeId} (hx : Ev l x (.string s) := by exact rfl) (hy : Ev l y (.string u) := by exact rfl) (hb : (match op with | .eql => some (decide (s = u)) | .neq => some (!decide (s = u)) | _ => none) = some b := by exact rfl)
    (h : b = false := by first | exact rfl | assumption) : Does P l w (.binOp op t x y t') ty (.bool false) w := d_to (d_eqS hx hy hb) h

/-! ### a test, split -/
theorem st_split (h : Fr N l a) {d : Nat} {op : BinOp} {x y : Operand} {t t' ty : TypeId} {pos : String} {af : Array Edge} {k : IntKind} {m n : Int} {c : Bool} (hx : Ev l x (.int k m) := by exact rfl) (hy : Ev l y (.int k n) := by exact rfl) (hc : cmpOf op m n = some c := by exact rfl) (hd : Nat.blt d N = true := by exact rfl)
    (kT : c = true → ∀ a', Fr N ((d, .bool true) :: l) a' → wpList P ops Q rest a' w) (kF : c = false → ∀ a', Fr N ((d, .bool false) :: l) a' → wpList P ops Q rest a' w) :
    wpList P ops Q (⟨some d, .binOp op t x y t', ty, pos, af, none⟩ :: rest) a w := by
  cases e : c with
  | true => exact st h (d_to (d_cmp hx hy hc) e) hd (kT e)
  | false => exact st h (d_to (d_cmp hx hy hc) e) hd (kF e)
theorem stg_split (h : Fr N l a) {d : Nat} {op : BinOp} {x y : Operand} {t t' ty : TypeId} {pos : String} {af : Array Edge} {k : IntKind} {m n : Int} {c : Bool} {j e : Nat} {b : Bool} (hj : (ops[j]?).bind (·.dst) = some e := by exact rfl) (hb : look l e = some (.bool b) := by exact rfl) (hx : Ev l x (.int k m) := by exact rfl) (hy : Ev l y (.int k n) := by exact rfl) (hc : cmpOf op m n = some c := by exact rfl) (hd : Nat.blt d N = true := by exact rfl)
    (kT : c = true → ∀ a', Fr N ((d, .bool true) :: l) a' → wpList P ops Q rest a' w) (kF : c = false → ∀ a', Fr N ((d, .bool false) :: l) a' → wpList P ops Q rest a' w) :
    wpList P ops Q (⟨some d, .binOp op t x y t', ty, pos, af, some (j, b)⟩ :: rest) a w := by
  cases e : c with
  | true => exact stg h hj hb (d_to (d_cmp hx hy hc) e) hd (kT e)
  | false => exact stg h hj hb (d_to (d_cmp hx hy hc) e) hd (kF e)
end
end Go.Proofs.YtnohefaifbghiaaGreatDoor
