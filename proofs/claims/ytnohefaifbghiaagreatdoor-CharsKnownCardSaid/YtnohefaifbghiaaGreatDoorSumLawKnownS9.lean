/- Laid together by a program of mine: UnqL. -/
import Derived.Test.YtnohefaifbghiaaGreatDoorSumLawKnownS8
import Derived.Lib.ValidLaws
import Derived.Lib.TrimUEq
import Derived.Laws.BytesArg
import Derived.Laws.IdiomStrings
import Derived.Lib.UnsafeStr
set_option linter.unusedSimpArgs false
set_option linter.unusedVariables false
section
/- What may be quoted, and what Unquote answers: plain laws. -/
namespace Go.Proofs.YtnohefaifbghiaaGreatDoor
open Go.RowKit

theorem ill_iff {s : ByteArray} {i : Nat} : ((Utf8.decode s i).1 = 65533 ∧ (Utf8.decode s i).2 = 1) ↔ illB s i = true := by
  by_cases h : (Utf8.decode s i).1 = 65533
  · obtain ⟨h1, h2⟩ := wide_ill h
    rw [h1, h2]
    cases fffd s i <;> simp [h]
  · rw [ill_no h]; simp [h]
theorem valid_from (s : ByteArray) : ∀ (m k : Nat), s.size - (uSt s k).1 ≤ m → (Lib.validD (s.data.toList.drop (uSt s k).1) = true ↔ ∀ j, k ≤ j → (uSt s j).1 < s.size → illB s (uSt s j).1 = false) := by
  intro m
  induction m with
  | zero =>
    intro k hm
    have hd : s.data.toList.drop (uSt s k).1 = [] := List.drop_eq_nil_of_le (by show s.data.toList.length ≤ _; rw [Array.length_toList]; show s.size ≤ _; omega)
    rw [hd]
    refine ⟨fun _ j hj hlt => ?_, fun _ => rfl⟩
    have := uMono s k (j - k)
    rw [Nat.add_sub_cancel' hj] at this
    omega
  | succ m ih =>
    intro k hm
    by_cases hlt : (uSt s k).1 < s.size
    · have hne : s.data.toList.drop (uSt s k).1 ≠ [] := by
        intro e
        have := congrArg List.length e
        simp only [List.length_drop, Array.length_toList, List.length_nil] at this
        have e2 : s.data.size = s.size := rfl
        omega
      rw [Lib.validD_step _ hne, Lib.decodeL_drop, List.drop_drop, ← uSt_fst]
      have hstep := uSt_lt s k hlt
      have ihk := ih (k + 1) (by omega)
      by_cases hb : illB s (uSt s k).1 = true
      · rw [if_pos (ill_iff.2 hb)]
        constructor
        · intro h; cases h
        · intro h; have := h k (Nat.le_refl _) hlt; rw [hb] at this; cases this
      · rw [if_neg (fun h => hb (ill_iff.1 h)), ihk]
        constructor
        · intro h j hj hl
          by_cases e : j = k
          · subst e; exact Bool.eq_false_iff.2 hb
          · exact h j (by omega) hl
        · intro h j hj hl; exact h j (by omega) hl
    · have hd : s.data.toList.drop (uSt s k).1 = [] := List.drop_eq_nil_of_le (by rw [Array.length_toList]; show s.size ≤ _; omega)
      rw [hd]
      refine ⟨fun _ j hj hl => ?_, fun _ => rfl⟩
      have := uMono s k (j - k)
      rw [Nat.add_sub_cancel' hj] at this
      omega
/-- A text without bytes that are no rune. -/
theorem valid_iff (s : ByteArray) : Lib.validD s.data.toList = true ↔ ∀ j, (uSt s j).1 < s.size → illB s (uSt s j).1 = false := by
  have := valid_from s s.size 0 (by omega)
  rw [show (uSt s 0).1 = 0 from rfl, List.drop_zero] at this
  rw [this]
  exact ⟨fun h j hl => h j (Nat.zero_le _) hl, fun h j _ hl => h j hl⟩
/-- Every unit may be in a text that is quoted. -/
def AllOk (s : ByteArray) : Prop := ∀ k, (uSt s k).1 < s.size → illB s (uSt s k).1 = false ∧ ctl (uR s k) = false
def MayR (s : ByteArray) (n : Int) : Prop := (1024 < s.size ∧ n = 5) ∨ (s.size ≤ 1024 ∧ ((AllOk s ∧ n = 0) ∨ (¬ AllOk s ∧ n = 6)))
theorem may_one {s : ByteArray} {m n : Int} (h : MayR s m) (k : MayR s n) : m = n := by
  rcases h with ⟨h1, h2⟩ | ⟨h1, ⟨h2, h3⟩ | ⟨h2, h3⟩⟩ <;> rcases k with ⟨k1, k2⟩ | ⟨k1, ⟨k2, k3⟩ | ⟨k2, k3⟩⟩ <;> first | omega | exact absurd h2 k2 | exact absurd k2 h2
/-- The walk over what is quoted: the byte, and what was read. -/
def sc (s : ByteArray) : Nat → Nat × List UInt8
  | 0 => (1, [])
  | k + 1 => if (s.get! (sc s k).1).toNat = 92 then ((sc s k).1 + 2, (sc s k).2 ++ [s.get! ((sc s k).1 + 1)]) else ((sc s k).1 + 1, (sc s k).2 ++ [s.get! (sc s k).1])
def goP (s : ByteArray) (i : Nat) : Prop := i < s.size ∧ (s.get! i).toNat ≠ 34 ∧ ((s.get! i).toNat = 92 → i + 1 < s.size ∧ ((s.get! (i + 1)).toNat = 34 ∨ (s.get! (i + 1)).toNat = 92))
def FinR (s : ByteArray) (i : Nat) (l : List UInt8) (n : Int) (t : ByteArray) : Prop :=
  (s.size ≤ i ∧ n = 2 ∧ t = ⟨#[]⟩) ∨ (i < s.size ∧ (s.get! i).toNat = 34 ∧ i + 1 < s.size ∧ n = 3 ∧ t = ⟨#[]⟩) ∨
  (i < s.size ∧ (s.get! i).toNat = 34 ∧ s.size ≤ i + 1 ∧ MayR ⟨l.toArray⟩ n ∧ ((n = 0 ∧ t = ⟨l.toArray⟩) ∨ (n ≠ 0 ∧ t = ⟨#[]⟩))) ∨ (i < s.size ∧ (s.get! i).toNat = 92 ∧ n = 4 ∧ t = ⟨#[]⟩)
def UnqR (s : ByteArray) (n : Int) (t : ByteArray) : Prop :=
  (s.size < 2 ∧ n = 2 ∧ t = ⟨#[]⟩) ∨ (2 ≤ s.size ∧ (s.get! 0).toNat ≠ 34 ∧ n = 4 ∧ t = ⟨#[]⟩) ∨
  (2 ≤ s.size ∧ (s.get! 0).toNat = 34 ∧ ∃ k, (∀ j, j < k → goP s (sc s j).1) ∧ ¬ goP s (sc s k).1 ∧ FinR s (sc s k).1 (sc s k).2 n t)
theorem fin_one {s : ByteArray} {i : Nat} {l : List UInt8} {m n : Int} {t u : ByteArray} (h : FinR s i l m t) (k : FinR s i l n u) : m = n ∧ t = u := by
  rcases h with ⟨h1, h2, h3⟩ | ⟨h0, h1, h2, h3, h4⟩ | ⟨h0, h1, h2, h3, h4⟩ | ⟨h0, h1, h2, h3⟩ <;> rcases k with ⟨k1, k2, k3⟩ | ⟨k0, k1, k2, k3, k4⟩ | ⟨k0, k1, k2, k3, k4⟩ | ⟨k0, k1, k2, k3⟩ <;> first
    | (exfalso; omega)
    | exact ⟨by omega, by simp [*]⟩
    | skip
  have e := may_one h3 k3
  subst e
  refine ⟨rfl, ?_⟩
  rcases h4 with ⟨a, b⟩ | ⟨a, b⟩ <;> rcases k4 with ⟨c, d⟩ | ⟨c, d⟩ <;> first | exact absurd a c | exact absurd c a | rw [b, d]
theorem unq_one {s : ByteArray} {m n : Int} {t u : ByteArray} (h : UnqR s m t) (k : UnqR s n u) : m = n ∧ t = u := by
  rcases h with ⟨h1, h2, h3⟩ | ⟨h1, h2, h3, h4⟩ | ⟨h1, h2, a, h3, h4, h5⟩ <;> rcases k with ⟨k1, k2, k3⟩ | ⟨k1, k2, k3, k4⟩ | ⟨k1, k2, b, k3, k4, k5⟩ <;> first
    | (exfalso; omega)
    | exact ⟨by omega, by simp [*]⟩
    | skip
  have e : a = b := by
    rcases Nat.lt_trichotomy a b with h | h | h
    · exact absurd (k3 a h) h4
    · exact h
    · exact absurd (h3 b h) k4
  subst e
  exact fin_one h5 k5
theorem sc_bnd (s : ByteArray) : ∀ k, (∀ j, j < k → goP s (sc s j).1) → 1 ≤ s.size → k + 1 ≤ (sc s k).1 ∧ (sc s k).1 ≤ s.size ∧ (sc s k).2.length = k
  | 0, _, h => ⟨Nat.le_refl _, h, rfl⟩
  | k + 1, h, h1 => by
    obtain ⟨a, b, c⟩ := sc_bnd s k (fun j hj => h j (by omega)) h1
    obtain ⟨g1, g2, g3⟩ := h k (by omega)
    by_cases e : (s.get! (sc s k).1).toNat = 92
    · have := (g3 e).1
      simp only [sc, if_pos e]
      exact ⟨by omega, by omega, by simp [c]⟩
    · simp only [sc, if_neg e]
      exact ⟨by omega, by omega, by simp [c]⟩
/-- The bytes of a row of the call's own, as a text. -/
theorem d_convOwn {P : Program} {w : World} {l : List (Nat × Value)} {x : Operand} {src dst e ty : TypeId} {base : Nat} {ao : Option Addr} {cap n : Nat} (bs : List UInt8) (hs : P.underlying src = some (.slice e)) (he : P.underlying e = some (.int .u8)) (hd : P.underlying dst = some .string)
    (hown : w.ownsRow base e 1 (.slice ao n cap) n (Lib.byteCells bs)) (hn : bs.length = n) (hx : Ev l x (.slice ao n cap) := by exact rfl) : Does P l w (.convert src dst x) ty (.string ⟨bs.toArray⟩) w := by
  intro ρ hρ d pos af g
  subst hn
  have key : (convert src dst (.slice ao bs.length cap)).run P w = .ok (.string ⟨bs.toArray⟩) w := by
    rcases hown.2 with ⟨h0, _⟩ | ⟨g', cap', cur, h0, _⟩
    · injection h0 with h1 h2 h3
      have hnil : bs = [] := List.length_eq_zero_iff.1 h2
      subst hnil
      rw [h1]
      exact run_convert_bytes_nil w src e hs he _ _ dst hd
    · cases h0
      exact run_convert_bytes_back w src dst e ⟨g', 0, none⟩ cap bs hs he hd (fun j hj => by
        have hj' : j < (Lib.byteCells bs).length := by rw [Lib.byteCells_length]; exact hj
        have := own_cells hown hj'
        rw [addr_add, this]
        simp [Lib.byteCells])
  simp [execOp, hρ _ _ hx, key]
theorem goP_no {s : ByteArray} {i : Nat} (h : ¬ goP s i) (hi : i < s.size) (hq : ¬ (s.get! i).toNat = 34) : (s.get! i).toNat = 92 ∧ ¬ (i + 1 < s.size ∧ ((s.get! (i + 1)).toNat = 34 ∨ (s.get! (i + 1)).toNat = 92)) := by
  by_cases e : (s.get! i).toNat = 92
  · exact ⟨e, fun h2 => h ⟨hi, hq, fun _ => h2⟩⟩
  · exact absurd ⟨hi, hq, fun h2 => absurd h2 e⟩ h
theorem sc_bs {s : ByteArray} {k : Nat} (h : (s.get! (sc s k).1).toNat = 92) : (sc s (k + 1)).1 = (sc s k).1 + 2 ∧ Lib.byteCells (sc s (k + 1)).2 = Lib.byteCells (sc s k).2 ++ [.int .u8 (s.get! ((sc s k).1 + 1)).toNat] := by
  simp only [sc, if_pos h]
  exact ⟨trivial, by simp [Lib.byteCells]⟩
theorem sc_pl {s : ByteArray} {k : Nat} (h : ¬ (s.get! (sc s k).1).toNat = 92) : (sc s (k + 1)).1 = (sc s k).1 + 1 ∧ Lib.byteCells (sc s (k + 1)).2 = Lib.byteCells (sc s k).2 ++ [.int .u8 (s.get! (sc s k).1).toNat] := by
  simp only [sc, if_neg h]
  exact ⟨trivial, by simp [Lib.byteCells]⟩
end Go.Proofs.YtnohefaifbghiaaGreatDoor
end
