/- Laid together by a program of mine: Dec UnqL TFunc As Door ShV Door3 ValD. -/
import Derived.Test.YtjomihhpglojpaaGreatDoorSumLawMessageS13
import Derived.Lib.ValidLaws
import Derived.Lib.TrimUEq
import Derived.Laws.BytesArg
import Derived.Laws.IdiomStrings
import Derived.Lib.UnsafeStr
import Derived.Test.YtjomihhpglojpaaGreatDoorSumLawMessageS4
import Derived.Test.YtjomihhpglojpaaGreatDoorChecked
import Derived.WalkKit
import Derived.LaidEql
import Derived.Stop.Asserts
import Derived.RowKitTokens
import Derived.Test.YtjomihhpglojpaaGreatDoorRows
import Derived.ChangeSame
import Derived.ChangeVars
import Derived.JoinedOf
import Derived.RowKit
import Derived.LaidLaws
import Derived.LaidHandle
import Derived.Stop.Joined
import Derived.Shelf.Unicode.ValidAny
import Derived.Test.YtjomihhpglojpaaGreatDoorProg
import Derived.KernelRfl
import Derived.Lib.LaidIn
import Derived.Lib.LaidU8T
import Derived.PinnedBridge
set_option linter.unusedSimpArgs false
set_option linter.unusedVariables false
section
/- How wide a rune is that was read, and when a source is bad: plain laws. -/
namespace Go.Proofs.YtjomihhpglojpaaGreatDoor
open Go.RowKit

def rl (r : Int) : Int := if r < 0 then -1 else if r ≤ 127 then 1 else if r ≤ 2047 then 2 else if 55296 ≤ r ∧ r ≤ 57343 then -1 else if r ≤ 65535 then 3 else if r ≤ 1114111 then 4 else -1
def dec4 (b0 b1 b2 b3 : Nat) (c1 c2 c3 : Bool) : Nat × Nat :=
  if b0 < 0x80 then (b0, 1)
  else if b0 / 32 == 6 && c1 then
    let c := (b0 % 32) * 64 + b1 % 64
    if c ≥ 0x80 then (c, 2) else (65533, 1)
  else if b0 / 16 == 14 && c1 && c2 then
    let c := (b0 % 16) * 4096 + (b1 % 64) * 64 + b2 % 64
    if c ≥ 0x800 && Utf8.valid c then (c, 3) else (65533, 1)
  else if b0 / 8 == 30 && c1 && c2 && c3 then
    let c := (b0 % 8) * 262144 + (b1 % 64) * 4096 + (b2 % 64) * 64 + b3 % 64
    if c ≥ 0x10000 && Utf8.valid c then (c, 4) else (65533, 1)
  else (65533, 1)
def cnt (s : ByteArray) (i k : Nat) : Bool := i + k < s.size && (s.get! (i + k)).toNat / 64 == 2
theorem decode_4 (s : ByteArray) (i : Nat) : Utf8.decode s i = dec4 (s.get! (i + 0)).toNat (s.get! (i + 1)).toNat (s.get! (i + 2)).toNat (s.get! (i + 3)).toNat (cnt s i 1) (cnt s i 2) (cnt s i 3) := rfl
set_option maxHeartbeats 4000000 in
theorem rl_dec4 (b0 b1 b2 b3 : Nat) (c1 c2 c3 : Bool) (h : (dec4 b0 b1 b2 b3 c1 c2 c3).1 ≠ 65533) : rl ((dec4 b0 b1 b2 b3 c1 c2 c3).1 : Nat) = ((dec4 b0 b1 b2 b3 c1 c2 c3).2 : Nat) := by
  revert h
  unfold dec4
  simp only
  split
  · intro h; simp only [rl]; repeat' split
    all_goals omega
  split
  · split
    · intro h; simp only [rl]; repeat' split
      all_goals omega
    · intro h; exact absurd rfl h
  split
  · split
    · rename_i hv
      intro h
      simp only [ge_iff_le, Utf8.valid, Bool.and_eq_true, Bool.or_eq_true, decide_eq_true_eq] at hv
      simp only [rl]; repeat' split
      all_goals omega
    · intro h; exact absurd rfl h
  split
  · split
    · rename_i hv
      intro h
      simp only [ge_iff_le, Utf8.valid, Bool.and_eq_true, Bool.or_eq_true, decide_eq_true_eq] at hv
      simp only [rl]; repeat' split
      all_goals omega
    · intro h; exact absurd rfl h
  · intro h; exact absurd rfl h
theorem rl_decode (s : ByteArray) (i : Nat) (h : (Utf8.decode s i).1 ≠ 65533) : rl ((Utf8.decode s i).1 : Nat) = ((Utf8.decode s i).2 : Nat) := by
  rw [decode_4] at h ⊢
  exact rl_dec4 _ _ _ _ _ _ _ h
set_option maxHeartbeats 4000000 in
theorem ill_dec4 (n i b0 b1 b2 b3 : Nat) (c1 c2 c3 : Bool) (h1 : c1 = (decide (i + 1 < n) && b1 / 64 == 2)) (h2 : c2 = (decide (i + 2 < n) && b2 / 64 == 2)) (h : (dec4 b0 b1 b2 b3 c1 c2 c3).1 = 65533) :
    (dec4 b0 b1 b2 b3 c1 c2 c3).2 = if i + 2 < n ∧ b0 = 239 ∧ b1 = 191 ∧ b2 = 189 then 3 else 1 := by
  subst h1 h2
  revert h
  unfold dec4
  simp only [Bool.and_eq_true, decide_eq_true_eq, beq_iff_eq]
  split
  · intro h; simp only at h; rw [if_neg (by omega)]
  split
  · split
    · intro h; simp only at h; omega
    · intro h; rw [if_neg (by omega)]
  split
  · rename_i hc
    split
    · intro h; simp only at h; rw [if_pos (by omega)]
    · rename_i hv
      intro h
      rw [if_neg]
      rintro ⟨h1, rfl, rfl, rfl⟩
      exact hv (by decide)
  split
  · split
    · intro h; simp only at h; omega
    · intro h; rw [if_neg (by omega)]
  · rename_i h1 h2 h3 h4
    intro h
    rw [if_neg]
    rintro ⟨h5, rfl, rfl, rfl⟩
    exact h3 ⟨⟨by decide, by omega, by decide⟩, by omega, by decide⟩
theorem ill_w (s : ByteArray) (i : Nat) (h : (Utf8.decode s i).1 = 65533) : (Utf8.decode s i).2 = if i + 2 < s.size ∧ (s.get! i).toNat = 239 ∧ (s.get! (i + 1)).toNat = 191 ∧ (s.get! (i + 2)).toNat = 189 then 3 else 1 := by
  rw [decode_4] at h ⊢
  exact ill_dec4 s.size i _ _ _ _ _ _ _ rfl rfl h
def ctl (r : Int) : Bool := decide (r < 32 ∨ r = 127)
def blk (r : Int) : Bool := decide (r = 32 ∨ r = 9 ∨ r = 10 ∨ r = 13)
/-- Is unit k bad? -/
def badB (s : ByteArray) (k : Nat) : Bool := illB s (uSt s k).1 || (ctl (uR s k) && !blk (uR s k))
/-- The first bad unit, if one is. -/
def Out (s : ByteArray) : Option Nat → Prop
  | none => ∃ K, (∀ j, j < K → (uSt s j).1 < s.size ∧ badB s j = false) ∧ ¬ (uSt s K).1 < s.size
  | some k => (∀ j, j < k → (uSt s j).1 < s.size ∧ badB s j = false) ∧ (uSt s k).1 < s.size ∧ badB s k = true
theorem uMono (s : ByteArray) (i : Nat) : ∀ d, (uSt s i).1 ≤ (uSt s (i + d)).1
  | 0 => Nat.le_refl _
  | d + 1 => Nat.le_trans (uMono s i d) (by rw [← Nat.add_assoc, uSt_fst]; omega)
theorem uEnd {s : ByteArray} {K k : Nat} (hK : ¬ (uSt s K).1 < s.size) (hk : (uSt s k).1 < s.size) : k < K := by
  rcases Nat.lt_or_ge k K with h | h
  · exact h
  · have := uMono s K (k - K)
    rw [Nat.add_sub_cancel' h] at this
    omega
theorem out_one {s : ByteArray} : ∀ {a b : Option Nat}, Out s a → Out s b → a = b
  | none, none, _, _ => rfl
  | none, some k, ⟨K, h1, h2⟩, ⟨_, h4, h5⟩ => by have := (h1 k (uEnd h2 h4)).2; rw [this] at h5; cases h5
  | some k, none, ⟨_, h4, h5⟩, ⟨K, h1, h2⟩ => by have := (h1 k (uEnd h2 h4)).2; rw [this] at h5; cases h5
  | some j, some k, ⟨h1, h2, h3⟩, ⟨h4, h5, h6⟩ => by
    rcases Nat.lt_trichotomy j k with h | h | h
    · have := (h4 j h).2; rw [this] at h3; cases h3
    · rw [h]
    · have := (h1 k h).2; rw [this] at h6; cases h6
/-- Does the text from i begin so? -/
theorem extract_get (s : ByteArray) (i j : Nat) (hj : j ≤ s.size) (k : Nat) (hk : i + k < j) : (s.extract i j).get! k = s.get! (i + k) := by
  have h1 : k < (s.extract i j).size := by simp [ByteArray.size_extract]; omega
  have e1 := get_at h1
  have e2 := get_at (s := s) (j := i + k) (by omega)
  have e3 : (s.extract i j)[k] = s[i + k]'(by omega) := by simp [ByteArray.getElem_extract]
  have e4 : (s.extract i j)[k]? = some (s.extract i j)[k] := by simp [h1]
  have e5 : s[i + k]? = some (s[i + k]'(by omega)) := by simp [show i + k < s.size by omega]
  rw [e4] at e1; rw [e5] at e2
  have f1 := Option.some.inj e1
  have f2 := Option.some.inj e2
  rw [← f1, ← f2, e3]
theorem pre3g (s : ByteArray) (i : Nat) (b0 b1 b2 : UInt8) (h : i + 2 < s.size) : ((s.extract i s.size).extract 0 3 = ⟨#[b0, b1, b2]⟩) ↔ (s.get! i = b0 ∧ s.get! (i + 1) = b1 ∧ s.get! (i + 2) = b2) := by
  have hz : (s.extract i s.size).size = s.size - i := by simp [ByteArray.size_extract]
  have hz3 : ((s.extract i s.size).extract 0 3).size = 3 := by simp [ByteArray.size_extract]; omega
  have g : ∀ k, k < 3 → ((s.extract i s.size).extract 0 3).get! k = s.get! (i + k) := fun k hk => by
    rw [extract_get _ 0 3 (by omega) k (by omega), Nat.zero_add, extract_get _ _ _ (Nat.le_refl _) k (by omega)]
  have g0 := g 0 (by decide)
  have g1 := g 1 (by decide)
  have g2 := g 2 (by decide)
  rw [Nat.add_zero] at g0
  constructor
  · intro e
    rw [e] at g0 g1 g2
    exact ⟨g0.symm, g1.symm, g2.symm⟩
  · rintro ⟨h0, h1, h2⟩
    rw [← h0, ← h1, ← h2, ← g0, ← g1, ← g2]
    generalize (s.extract i s.size).extract 0 3 = u at hz3
    rcases u with ⟨d⟩
    have hd : d.size = 3 := hz3
    rcases d with ⟨l⟩
    match l, hd with
    | [x, y, z], _ => rfl
theorem u8eq (b : UInt8) (n : Nat) (c : UInt8) (hc : c.toNat = n) : b = c ↔ b.toNat = n := by
  rw [← hc]; exact UInt8.toNat_inj.symm
theorem pre3 (s : ByteArray) (i : Nat) (h : i + 2 < s.size) : ((s.extract i s.size).extract 0 3 = ⟨#[239, 191, 189]⟩) ↔ ((s.get! i).toNat = 239 ∧ (s.get! (i + 1)).toNat = 191 ∧ (s.get! (i + 2)).toNat = 189) := by
  rw [pre3g s i 239 191 189 h, u8eq _ 239 239 (by decide), u8eq _ 191 191 (by decide), u8eq _ 189 189 (by decide)]
/-- The text from i begins with the sign for bytes that are none, spelt out. -/
def fffd (s : ByteArray) (i : Nat) : Bool := decide (3 ≤ (s.extract i s.size).size) && decide ((s.extract i s.size).extract 0 3 = ⟨#[239, 191, 189]⟩)
theorem fffd_iff (s : ByteArray) (i : Nat) : fffd s i = true ↔ (i + 2 < s.size ∧ (s.get! i).toNat = 239 ∧ (s.get! (i + 1)).toNat = 191 ∧ (s.get! (i + 2)).toNat = 189) := by
  have hz : (s.extract i s.size).size = s.size - i := by simp [ByteArray.size_extract]
  unfold fffd
  rw [Bool.and_eq_true, decide_eq_true_eq, decide_eq_true_eq, hz]
  constructor
  · rintro ⟨h1, h2⟩
    have h : i + 2 < s.size := by omega
    exact ⟨h, (pre3 s i h).1 h2⟩
  · rintro ⟨h1, h2⟩
    exact ⟨by omega, (pre3 s i h1).2 h2⟩
theorem wide_ill {s : ByteArray} {i : Nat} (h : (Utf8.decode s i).1 = 65533) : (Utf8.decode s i).2 = (if fffd s i = true then 3 else 1) ∧ illB s i = !fffd s i := by
  constructor
  · rw [ill_w s i h]
    simp only [fffd_iff]
  · rw [Bool.eq_iff_iff, Bool.not_eq_true', ← Bool.not_eq_true, fffd_iff]
    unfold illB
    rw [h]
    simp only [Bool.and_eq_true, Bool.or_eq_true, decide_eq_true_eq, bne_iff_ne, ne_eq, beq_iff_eq]
    omega
theorem ill_no {s : ByteArray} {i : Nat} (h : (Utf8.decode s i).1 ≠ 65533) : illB s i = false := by
  unfold illB
  have : ((((Utf8.decode s i).1 : Nat) : Int) == 65533) = false := beq_eq_false_iff_ne.2 (by omega)
  rw [this]; rfl
section
variable {P : Program} {w : World} {l : List (Nat × Value)}
theorem d_sliceSH {x hi : Operand} {s : ByteArray} {j : Nat} {k : IntKind} {q : Int} {t ty : TypeId} (hU : P.underlying t = some .string)
    (hx : Ev l x (.string s) := by exact rfl) (hh : Ev l hi (.int k q) := by exact rfl) (hq : q = (j : Int) := by exact rfl) (hj : j ≤ s.size := by omega) :
    Does P l w (.slice t x none (some hi) none) ty (.string (s.extract 0 j)) w := by
  intro ρ hρ d pos af g
  subst hq
  simp [execOp, Instr.sliceAt, Instr.slice, Instr.sliceBounds, run_sliceBound hj, hρ _ _ hx, hρ _ _ hh, run_underlying hU]
end
end Go.Proofs.YtjomihhpglojpaaGreatDoor
end
section
/- What may be quoted, and what Unquote answers: plain laws. -/
namespace Go.Proofs.YtjomihhpglojpaaGreatDoor
open Go.RowKit

theorem ill_iff {s : ByteArray} {i : Nat} : ((Utf8.decode s i).1 = 65533 ∧ (Utf8.decode s i).2 = 1) ↔ illB s i = true := by
  by_cases h : (Utf8.decode s i).1 = 65533
  · obtain ⟨h1, h2⟩ := wide_ill h
    rw [h1, h2]
    cases fffd s i <;> simp [h]
  · rw [ill_no h]; simp [h]
theorem valid_from (s : ByteArray) : ∀ (m k : Nat), s.size - (uSt s k).1 ≤ m → (Lib.validD (s.data.toList.drop (uSt s k).1) = true ↔ ∀ j, k ≤ j → (uSt s j).1 < s.size → illB s (uSt s j).1 = false) := by
  intro m
  induction m with
  | zero =>
    intro k hm
    have hd : s.data.toList.drop (uSt s k).1 = [] := List.drop_eq_nil_of_le (by show s.data.toList.length ≤ _; rw [Array.length_toList]; show s.size ≤ _; omega)
    rw [hd]
    refine ⟨fun _ j hj hlt => ?_, fun _ => rfl⟩
    have := uMono s k (j - k)
    rw [Nat.add_sub_cancel' hj] at this
    omega
  | succ m ih =>
    intro k hm
    by_cases hlt : (uSt s k).1 < s.size
    · have hne : s.data.toList.drop (uSt s k).1 ≠ [] := by
        intro e
        have := congrArg List.length e
        simp only [List.length_drop, Array.length_toList, List.length_nil] at this
        have e2 : s.data.size = s.size := rfl
        omega
      rw [Lib.validD_step _ hne, Lib.decodeL_drop, List.drop_drop, ← uSt_fst]
      have hstep := uSt_lt s k hlt
      have ihk := ih (k + 1) (by omega)
      by_cases hb : illB s (uSt s k).1 = true
      · rw [if_pos (ill_iff.2 hb)]
        constructor
        · intro h; cases h
        · intro h; have := h k (Nat.le_refl _) hlt; rw [hb] at this; cases this
      · rw [if_neg (fun h => hb (ill_iff.1 h)), ihk]
        constructor
        · intro h j hj hl
          by_cases e : j = k
          · subst e; exact Bool.eq_false_iff.2 hb
          · exact h j (by omega) hl
        · intro h j hj hl; exact h j (by omega) hl
    · have hd : s.data.toList.drop (uSt s k).1 = [] := List.drop_eq_nil_of_le (by rw [Array.length_toList]; show s.size ≤ _; omega)
      rw [hd]
      refine ⟨fun _ j hj hl => ?_, fun _ => rfl⟩
      have := uMono s k (j - k)
      rw [Nat.add_sub_cancel' hj] at this
      omega
/-- A text without bytes that are no rune. -/
theorem valid_iff (s : ByteArray) : Lib.validD s.data.toList = true ↔ ∀ j, (uSt s j).1 < s.size → illB s (uSt s j).1 = false := by
  have := valid_from s s.size 0 (by omega)
  rw [show (uSt s 0).1 = 0 from rfl, List.drop_zero] at this
  rw [this]
  exact ⟨fun h j hl => h j (Nat.zero_le _) hl, fun h j _ hl => h j hl⟩
/-- Every unit may be in a text that is quoted. -/
def AllOk (s : ByteArray) : Prop := ∀ k, (uSt s k).1 < s.size → illB s (uSt s k).1 = false ∧ ctl (uR s k) = false
def MayR (s : ByteArray) (n : Int) : Prop := (1024 < s.size ∧ n = 5) ∨ (s.size ≤ 1024 ∧ ((AllOk s ∧ n = 0) ∨ (¬ AllOk s ∧ n = 6)))
theorem may_one {s : ByteArray} {m n : Int} (h : MayR s m) (k : MayR s n) : m = n := by
  rcases h with ⟨h1, h2⟩ | ⟨h1, ⟨h2, h3⟩ | ⟨h2, h3⟩⟩ <;> rcases k with ⟨k1, k2⟩ | ⟨k1, ⟨k2, k3⟩ | ⟨k2, k3⟩⟩ <;> first | omega | exact absurd h2 k2 | exact absurd k2 h2
/-- The walk over what is quoted: the byte, and what was read. -/
def sc (s : ByteArray) : Nat → Nat × List UInt8
  | 0 => (1, [])
  | k + 1 => if (s.get! (sc s k).1).toNat = 92 then ((sc s k).1 + 2, (sc s k).2 ++ [s.get! ((sc s k).1 + 1)]) else ((sc s k).1 + 1, (sc s k).2 ++ [s.get! (sc s k).1])
def goP (s : ByteArray) (i : Nat) : Prop := i < s.size ∧ (s.get! i).toNat ≠ 34 ∧ ((s.get! i).toNat = 92 → i + 1 < s.size ∧ ((s.get! (i + 1)).toNat = 34 ∨ (s.get! (i + 1)).toNat = 92))
def FinR (s : ByteArray) (i : Nat) (l : List UInt8) (n : Int) (t : ByteArray) : Prop :=
  (s.size ≤ i ∧ n = 2 ∧ t = ⟨#[]⟩) ∨ (i < s.size ∧ (s.get! i).toNat = 34 ∧ i + 1 < s.size ∧ n = 3 ∧ t = ⟨#[]⟩) ∨
  (i < s.size ∧ (s.get! i).toNat = 34 ∧ s.size ≤ i + 1 ∧ MayR ⟨l.toArray⟩ n ∧ ((n = 0 ∧ t = ⟨l.toArray⟩) ∨ (n ≠ 0 ∧ t = ⟨#[]⟩))) ∨ (i < s.size ∧ (s.get! i).toNat = 92 ∧ n = 4 ∧ t = ⟨#[]⟩)
def UnqR (s : ByteArray) (n : Int) (t : ByteArray) : Prop :=
  (s.size < 2 ∧ n = 2 ∧ t = ⟨#[]⟩) ∨ (2 ≤ s.size ∧ (s.get! 0).toNat ≠ 34 ∧ n = 4 ∧ t = ⟨#[]⟩) ∨
  (2 ≤ s.size ∧ (s.get! 0).toNat = 34 ∧ ∃ k, (∀ j, j < k → goP s (sc s j).1) ∧ ¬ goP s (sc s k).1 ∧ FinR s (sc s k).1 (sc s k).2 n t)
theorem fin_one {s : ByteArray} {i : Nat} {l : List UInt8} {m n : Int} {t u : ByteArray} (h : FinR s i l m t) (k : FinR s i l n u) : m = n ∧ t = u := by
  rcases h with ⟨h1, h2, h3⟩ | ⟨h0, h1, h2, h3, h4⟩ | ⟨h0, h1, h2, h3, h4⟩ | ⟨h0, h1, h2, h3⟩ <;> rcases k with ⟨k1, k2, k3⟩ | ⟨k0, k1, k2, k3, k4⟩ | ⟨k0, k1, k2, k3, k4⟩ | ⟨k0, k1, k2, k3⟩ <;> first
    | (exfalso; omega)
    | exact ⟨by omega, by simp [*]⟩
    | skip
  have e := may_one h3 k3
  subst e
  refine ⟨rfl, ?_⟩
  rcases h4 with ⟨a, b⟩ | ⟨a, b⟩ <;> rcases k4 with ⟨c, d⟩ | ⟨c, d⟩ <;> first | exact absurd a c | exact absurd c a | rw [b, d]
theorem unq_one {s : ByteArray} {m n : Int} {t u : ByteArray} (h : UnqR s m t) (k : UnqR s n u) : m = n ∧ t = u := by
  rcases h with ⟨h1, h2, h3⟩ | ⟨h1, h2, h3, h4⟩ | ⟨h1, h2, a, h3, h4, h5⟩ <;> rcases k with ⟨k1, k2, k3⟩ | ⟨k1, k2, k3, k4⟩ | ⟨k1, k2, b, k3, k4, k5⟩ <;> first
    | (exfalso; omega)
    | exact ⟨by omega, by simp [*]⟩
    | skip
  have e : a = b := by
    rcases Nat.lt_trichotomy a b with h | h | h
    · exact absurd (k3 a h) h4
    · exact h
    · exact absurd (h3 b h) k4
  subst e
  exact fin_one h5 k5
theorem sc_bnd (s : ByteArray) : ∀ k, (∀ j, j < k → goP s (sc s j).1) → 1 ≤ s.size → k + 1 ≤ (sc s k).1 ∧ (sc s k).1 ≤ s.size ∧ (sc s k).2.length = k
  | 0, _, h => ⟨Nat.le_refl _, h, rfl⟩
  | k + 1, h, h1 => by
    obtain ⟨a, b, c⟩ := sc_bnd s k (fun j hj => h j (by omega)) h1
    obtain ⟨g1, g2, g3⟩ := h k (by omega)
    by_cases e : (s.get! (sc s k).1).toNat = 92
    · have := (g3 e).1
      simp only [sc, if_pos e]
      exact ⟨by omega, by omega, by simp [c]⟩
    · simp only [sc, if_neg e]
      exact ⟨by omega, by omega, by simp [c]⟩
/-- The bytes of a row of the call's own, as a text. -/
theorem d_convOwn {P : Program} {w : World} {l : List (Nat × Value)} {x : Operand} {src dst e ty : TypeId} {base : Nat} {ao : Option Addr} {cap n : Nat} (bs : List UInt8) (hs : P.underlying src = some (.slice e)) (he : P.underlying e = some (.int .u8)) (hd : P.underlying dst = some .string)
    (hown : w.ownsRow base e 1 (.slice ao n cap) n (Lib.byteCells bs)) (hn : bs.length = n) (hx : Ev l x (.slice ao n cap) := by exact rfl) : Does P l w (.convert src dst x) ty (.string ⟨bs.toArray⟩) w := by
  intro ρ hρ d pos af g
  subst hn
  have key : (convert src dst (.slice ao bs.length cap)).run P w = .ok (.string ⟨bs.toArray⟩) w := by
    rcases hown.2 with ⟨h0, _⟩ | ⟨g', cap', cur, h0, _⟩
    · injection h0 with h1 h2 h3
      have hnil : bs = [] := List.length_eq_zero_iff.1 h2
      subst hnil
      rw [h1]
      exact run_convert_bytes_nil w src e hs he _ _ dst hd
    · cases h0
      exact run_convert_bytes_back w src dst e ⟨g', 0, none⟩ cap bs hs he hd (fun j hj => by
        have hj' : j < (Lib.byteCells bs).length := by rw [Lib.byteCells_length]; exact hj
        have := own_cells hown hj'
        rw [addr_add, this]
        simp [Lib.byteCells])
  simp [execOp, hρ _ _ hx, key]
theorem goP_no {s : ByteArray} {i : Nat} (h : ¬ goP s i) (hi : i < s.size) (hq : ¬ (s.get! i).toNat = 34) : (s.get! i).toNat = 92 ∧ ¬ (i + 1 < s.size ∧ ((s.get! (i + 1)).toNat = 34 ∨ (s.get! (i + 1)).toNat = 92)) := by
  by_cases e : (s.get! i).toNat = 92
  · exact ⟨e, fun h2 => h ⟨hi, hq, fun _ => h2⟩⟩
  · exact absurd ⟨hi, hq, fun h2 => absurd h2 e⟩ h
theorem sc_bs {s : ByteArray} {k : Nat} (h : (s.get! (sc s k).1).toNat = 92) : (sc s (k + 1)).1 = (sc s k).1 + 2 ∧ Lib.byteCells (sc s (k + 1)).2 = Lib.byteCells (sc s k).2 ++ [.int .u8 (s.get! ((sc s k).1 + 1)).toNat] := by
  simp only [sc, if_pos h]
  exact ⟨trivial, by simp [Lib.byteCells]⟩
theorem sc_pl {s : ByteArray} {k : Nat} (h : ¬ (s.get! (sc s k).1).toNat = 92) : (sc s (k + 1)).1 = (sc s k).1 + 1 ∧ Lib.byteCells (sc s (k + 1)).2 = Lib.byteCells (sc s k).2 ++ [.int .u8 (s.get! (sc s k).1).toNat] := by
  simp only [sc, if_neg h]
  exact ⟨trivial, by simp [Lib.byteCells]⟩
end Go.Proofs.YtjomihhpglojpaaGreatDoor
end
section
/- strings.ContainsFunc at check.text's function: walked. -/
namespace Go.Proofs.YtjomihhpglojpaaGreatDoor
open Go.RowKit
set_option linter.unusedSimpArgs false
set_option linter.unusedVariables false
attribute [local irreducible] wpList wpQuiet wpStill Code.wp Exit.then Exit.inBlock bodyPost Calls Does Does0

theorem text1_ok (w : World) (r : Int) : Ret Tryz.prog 62 #[.int .i32 r] w (fun v w' => v = .bool (ctl r) ∧ w' = w) := by
  refine enter1 Tryz.func62 rfl 8 rfl 9 rfl (fun a hF => ?_)
  unfold ctl
  by_cases h1 : r < 32
  · repeat (first | refine c_seq ?_ | refine c_region _ ?_ | refine wpList_nil ?_ | refine c_then ?_ | refine wp_ret ?_ | ((apply st hF); (first | exact d_move | exact d_assign | exact d_pickT | exact d_cmpT); clear hF; clear a; intro a hF) | ((apply stm hF); clear hF; clear a; intro a hF))
    exact ret1 hF rfl rfl ⟨by rw [decide_eq_true (.inl h1)], rfl⟩
  · by_cases h2 : r = 127
    · repeat (first | refine c_seq ?_ | refine c_region _ ?_ | refine wpList_nil ?_ | refine c_then ?_ | refine wp_ret ?_ | ((first | apply st hF | apply stg hF); (first | exact d_move | exact d_assign | exact d_pickF | exact d_cmpT | exact d_cmpF); clear hF; clear a; intro a hF))
      exact ret1 hF rfl rfl ⟨by rw [decide_eq_true (.inr h2)], rfl⟩
    · repeat (first | refine c_seq ?_ | refine c_region _ ?_ | refine wpList_nil ?_ | refine c_then ?_ | refine wp_ret ?_ | ((first | apply st hF | apply stg hF); (first | exact d_move | exact d_assign | exact d_pickF | exact d_cmpF); clear hF; clear a; intro a hF))
      exact ret1 hF rfl rfl ⟨by rw [decide_eq_false (by omega)], rfl⟩
set_option maxHeartbeats 4000000 in
theorem idx_ok (w : World) (s : ByteArray) : Ret Tryz.prog 111 #[.string s, .func (.func 62) #[] #[], .bool true] w (fun v w' => (∃ p : Int, v = .int .i64 p ∧ ((0 ≤ p ∧ ∃ k, (uSt s k).1 < s.size ∧ ctl (uR s k) = true) ∨ (p = -1 ∧ ∀ k, (uSt s k).1 < s.size → ctl (uR s k) = false))) ∧ Below w.heap.size w w') := by
  refine enter3 Tryz.func111 rfl 18 rfl 21 rfl (fun a hF => ?_)
  repeat (first | refine c_seq ?_ | refine c_region _ ?_ | refine wpList_nil ?_ | refine c_then ?_ | ((apply st hF); (first | exact d_move | exact d_assign); clear hF; clear a; intro a hF))
  refine st_range hF (und _ _ rfl) (k := fun a w1 hit hgr1 hsz1 hF => ?_)
  have hb1 : Below w.heap.size w w1 := (Below.refl _ w).grown hgr1 (Nat.le_refl _) (fun k hk => by cases hk)
  repeat (first | refine c_block ?_ | refine wpList_nil ?_ | refine c_then ?_)
  refine c_loop (fun q a wr => ∃ k : Nat, (∀ j, j < k → (uSt s j).1 < s.size ∧ ctl (uR s j) = false) ∧ q = s.size - (uSt s k).1 ∧ Fr 21 [(0, .string s), (1, .func (.func 62) #[] #[]), (2, .bool true), (10, .pointer (some ⟨w.heap.size, 0, none⟩))] a ∧ IterAt wr w.heap.size s (uSt s k).1 ∧ Below w.heap.size w wr) s.size
    ⟨0, fun j hj => absurd hj (Nat.not_lt_zero _), rfl, hF.keep' ⟨rfl, rfl, rfl, rfl, trivial⟩, hit, hb1⟩ ?_
  clear hF a hit hb1
  rintro q a wr ⟨k, hpre, rfl, hF, hit, hbel⟩
  have hsz := hbel.size
  by_cases hlt : (uSt s k).1 < s.size
  · have hstep := uSt_fst s k
    have hlt2 := uSt_lt s k hlt
    repeat (first | refine c_seq ?_ | refine c_region _ ?_)
    refine st_next hF hit hlt (k := fun a w2 hit2 hgr2 hsz2 hF => ?_)
    rw [← hstep] at hit2
    have hbel2 : Below w.heap.size w w2 := hbel.grown hgr2 hsz (fun k hk => by cases hk; exact Nat.le_refl _)
    repeat (first | refine c_seq ?_ | refine c_block ?_ | refine c_region _ ?_ | refine wpList_nil ?_ | refine c_then ?_ | refine wp_skip ?_ | ((apply st hF); (first | exact d_move | exact d_assign | exact d_extract); clear hF; clear a; intro a hF) | (apply c_cond_t hF; exact rfl; first | exact rfl | assumption))
    refine stcv hF (cs := []) (vs := [.int .i32 (uR s k)]) (text1_ok w2 (uR s k)) cal62 ⟨rfl, trivial⟩ (k := fun a v w3 hR hF => ?_)
    obtain ⟨rfl, rfl⟩ := hR
    cases hc : ctl (uR s k) with
    | true =>
      rw [hc] at hF
      repeat (first | refine c_seq ?_ | refine c_region _ ?_ | refine wpList_nil ?_ | refine c_then ?_ | refine c_then_ret ?_ | refine c_in_ret ?_ | refine wp_ret ?_ | ((apply st hF); (first | exact d_move | exact d_assign | exact d_eqbT (und _ _ rfl)); clear hF; clear a; intro a hF) | (apply c_cond_t hF; exact rfl; first | exact rfl | assumption))
      exact ret1 hF rfl rfl ⟨⟨_, rfl, .inl ⟨Int.natCast_nonneg _, k, hlt, hc⟩⟩, hbel2⟩
    | false =>
      rw [hc] at hF
      repeat (first | refine wpList_nil ?_ | refine c_then ?_ | refine c_in ?_ | refine wp_skip ?_ | ((apply st hF); (first | exact d_move | exact d_eqbF (und _ _ rfl)); clear hF; clear a; intro a hF) | (apply c_cond_f hF; exact rfl; first | exact rfl | assumption))
      exact ⟨s.size - (uSt s (k + 1)).1, by omega, k + 1, fun j hj => by
        by_cases e : j = k
        · subst e; exact ⟨hlt, hc⟩
        · exact hpre j (by omega), rfl, hF.keep' ⟨rfl, rfl, rfl, rfl, trivial⟩, hit2, hbel2⟩
  · repeat (first | refine c_seq ?_ | refine c_region _ ?_)
    refine st_nextE hF hit hlt (k := fun a hF => ?_)
    repeat (first | refine c_seq ?_ | refine c_region _ ?_ | refine wpList_nil ?_ | refine c_then ?_ | refine c_then_exit ?_ | refine c_in_hit ?_ | refine wp_exit ?_ | refine wp_ret ?_ | ((apply st hF); (first | exact d_assign | exact d_extract); clear hF; clear a; intro a hF) | (apply c_cond_f hF; exact rfl; first | exact rfl | assumption))
    exact ret1 hF rfl rfl ⟨⟨_, rfl, .inr ⟨rfl, fun j hj => (hpre j (uEnd hlt hj)).2⟩⟩, hbel⟩
theorem idxF_ok (w : World) (s : ByteArray) : Ret Tryz.prog 88 #[.string s, .func (.func 62) #[] #[]] w (fun v w' => (∃ p : Int, v = .int .i64 p ∧ ((0 ≤ p ∧ ∃ k, (uSt s k).1 < s.size ∧ ctl (uR s k) = true) ∨ (p = -1 ∧ ∀ k, (uSt s k).1 < s.size → ctl (uR s k) = false))) ∧ Below w.heap.size w w') := by
  refine enter2 Tryz.func88 rfl 6 rfl 8 rfl (fun a hF => ?_)
  repeat (first | refine c_seq ?_ | refine c_region _ ?_ | refine wpList_nil ?_ | refine c_then ?_ | ((apply st hF); (first | exact d_move | exact d_assign); clear hF; clear a; intro a hF))
  refine stc hF (idx_ok w s) cal111 ⟨rfl, rfl, rfl, trivial⟩ (k := fun a v w1 hR hF => ?_)
  obtain ⟨⟨p, rfl, hp⟩, hb⟩ := hR
  repeat (first | refine wpList_nil ?_ | refine c_then ?_ | refine wp_ret ?_ | ((apply st hF); (exact d_assign); clear hF; clear a; intro a hF))
  exact ret1 hF rfl rfl ⟨⟨_, rfl, hp⟩, hb⟩
theorem contF_ok (w : World) (s : ByteArray) : Ret Tryz.prog 61 #[.string s, .func (.func 62) #[] #[]] w (fun v w' => (∃ b, v = .bool b ∧ (b = true → ∃ k, (uSt s k).1 < s.size ∧ ctl (uR s k) = true) ∧ (b = false → ∀ k, (uSt s k).1 < s.size → ctl (uR s k) = false)) ∧ Below w.heap.size w w') := by
  refine enter2 Tryz.func61 rfl 7 rfl 9 rfl (fun a hF => ?_)
  repeat (first | refine c_seq ?_ | refine c_region _ ?_ | refine wpList_nil ?_ | refine c_then ?_ | ((apply st hF); (first | exact d_move | exact d_assign); clear hF; clear a; intro a hF))
  refine stc hF (idxF_ok w s) cal88 ⟨rfl, rfl, trivial⟩ (k := fun a v w1 hR hF => ?_)
  obtain ⟨⟨p, rfl, hp⟩, hb⟩ := hR
  rcases hp with ⟨h0, hk⟩ | ⟨rfl, hk⟩
  · repeat (first | refine wpList_nil ?_ | refine c_then ?_ | refine wp_ret ?_ | ((apply st hF); (first | exact d_assign | exact d_cmpT); clear hF; clear a; intro a hF))
    exact ret1 hF rfl rfl ⟨⟨true, rfl, fun _ => hk, fun h => by cases h⟩, hb⟩
  · repeat (first | refine wpList_nil ?_ | refine c_then ?_ | refine wp_ret ?_ | ((apply st hF); (first | exact d_assign | exact d_cmpF); clear hF; clear a; intro a hF))
    exact ret1 hF rfl rfl ⟨⟨false, rfl, fun h => (by cases h), fun _ => hk⟩, hb⟩

end Go.Proofs.YtjomihhpglojpaaGreatDoor
end
section
/- errors.As at a target of type *api.Fault: over a plain number of an error it finds none. -/
namespace Go.Proofs.YtjomihhpglojpaaGreatDoor
set_option maxRecDepth 100000
open Go.RowKit Go.Extern.Stop Go.Stop Go.Extern

theorem asValueOf (t : Addr) (w : World) : (ReflectliteValue.unpack (.iface 132 (.pointer (some t)))).run Tryz.prog w
    = .ok (.agg #[.pointer (some ⟨3, 132, none⟩), .pointer (some ⟨w.heap.size, 0, none⟩), .int .u64 150]) (w.alloc (.cells #[.pointer (some t)] 132)) := by kernel_rfl
theorem asType (a : Addr) (w : World) : (ReflectliteValue.methodAny (ReflectliteValue.valueError "reflectlite.Value.Type" 0) (fun t _ _ _ => ReflectliteType.toType t) #[.agg #[.pointer (some ⟨3, 132, none⟩), .pointer (some a), .int .u64 150]]).run Tryz.prog w
    = .ok (.iface 194 (.agg #[.pointer (some ⟨3, 132, none⟩)])) w := by kernel_rfl
theorem asMethodKind (h : Value) (w : World) : (Go.method 342 194 (.agg #[h]) "Kind").run Tryz.prog w = .ok (137, h) w := by kernel_rfl
theorem asKindP (w : World) : ((ReflectliteType.abiMethod fun t => Functor.map (fun a : Nat => Value.int IntKind.u8 (a : Int)) (Rtype.kind t)) #[.pointer (some ⟨3, 132, none⟩)]).run Tryz.prog w = .ok (.int .u8 22) w := by kernel_rfl
theorem asKindF (w : World) : ((ReflectliteType.abiMethod fun t => Functor.map (fun a : Nat => Value.int IntKind.u8 (a : Int)) (Rtype.kind t)) #[.pointer (some ⟨3, 100, none⟩)]).run Tryz.prog w = .ok (.int .u8 25) w := by kernel_rfl
theorem rlmV (z : Sem Value) (f : TypeId → Addr → Nat → Nat → Sem Value) (v : Value) :
    ReflectliteValue.method z f #[v] = (do match ← ReflectliteValue.parts v with | none => z | some (t, a, fl) => f t a fl (fl % 32)) := rfl
theorem asPartsP (a : Addr) (w : World) : (ReflectliteValue.parts (.agg #[.pointer (some ⟨3, 132, none⟩), .pointer (some a), .int .u64 150])).run Tryz.prog w = .ok (some (132, a, 150)) w := by kernel_rfl
theorem asIsNil (a p : Addr) (W : World) (ha : W.cell? a = some (.pointer (some p))) :
    (ReflectliteValue.method (ReflectliteValue.valueError "reflectlite.Value.IsNil" 0) ReflectliteValue.isNil #[.agg #[.pointer (some ⟨3, 132, none⟩), .pointer (some a), .int .u64 150]]).run Tryz.prog W = .ok (.bool false) W := by
  rw [rlmV]
  simp only [Sem.run_bind, asPartsP, Result.andThen]
  simp [ReflectliteValue.isNil, loadVar, isAgg, underlying, Tryz.underlying132, ha, Result.andThen]
theorem asMethodElem (h : Value) (w : World) : (Go.method 342 194 (.agg #[h]) "Elem").run Tryz.prog w = .ok (153, .agg #[h]) w := by kernel_rfl
theorem asMethodImplements (h : Value) (w : World) : (Go.method 342 194 (.agg #[h]) "Implements").run Tryz.prog w = .ok (154, .agg #[h]) w := by kernel_rfl
theorem asMethodAssignableTo (h : Value) (w : World) : (Go.method 342 194 (.agg #[h]) "AssignableTo").run Tryz.prog w = .ok (151, .agg #[h]) w := by kernel_rfl
theorem asElem (w : World) : (ReflectliteType.method ReflectliteType.elem #[.agg #[.pointer (some ⟨3, 132, none⟩)]]).run Tryz.prog w = .ok (.iface 194 (.agg #[.pointer (some ⟨3, 100, none⟩)])) w := by kernel_rfl
theorem asImplements (w : World) : (ReflectliteType.relation "Implements" ReflectliteType.implements_ #[.agg #[.pointer (some ⟨3, 100, none⟩)], .iface 194 (.agg #[.pointer (some ⟨3, 31, none⟩)])]).run Tryz.prog w = .ok (.bool true) w := by kernel_rfl
theorem asTypeOfE (v : Value) (w : World) : (ReflectliteType.typeOf #[.iface 54 v]).run Tryz.prog w = .ok (.iface 194 (.agg #[.pointer (some ⟨3, 54, none⟩)])) w := by kernel_rfl
theorem asAssignE (w : World) : (ReflectliteType.relation "AssignableTo" ReflectliteType.assignableTo #[.agg #[.pointer (some ⟨3, 54, none⟩)], .iface 194 (.agg #[.pointer (some ⟨3, 100, none⟩)])]).run Tryz.prog w = .ok (.bool false) w := by kernel_rfl
theorem asNoAsE (v : Value) (xT : TypeId) (w : World) : (Instr.typeAssert (.iface 54 v) xT 198 true).run Tryz.prog w = .ok (.tuple #[.nilIface, .bool false]) w := run_typeAssert_lacksB Tryz.underlying198 (by kernel_rfl) (by kernel_rfl) v xT w
theorem asNoUnwrapE (v : Value) (xT : TypeId) (w : World) : (Instr.typeAssert (.iface 54 v) xT 201 true).run Tryz.prog w = .ok (.tuple #[.nilIface, .bool false]) w := run_typeAssert_lacksB Tryz.underlying201 (by kernel_rfl) (by kernel_rfl) v xT w
theorem asNoUnwrapsE (v : Value) (xT : TypeId) (w : World) : (Instr.typeAssert (.iface 54 v) xT 203 true).run Tryz.prog w = .ok (.tuple #[.nilIface, .bool false]) w := run_typeAssert_lacksB Tryz.underlying203 (by kernel_rfl) (by kernel_rfl) v xT w

/-- What the row's condition says of the library's variable: the handle of 'error' lies in it. -/
def Handle (w : World) : Prop := w.cell? ⟨2, 0, none⟩ = some (.iface 194 (.agg #[.pointer (some ⟨3, 31, none⟩)]))

set_option maxHeartbeats 4000000 in
theorem as_miss_calls (n : Int) (t : Addr) (w : World) (hg : w.cell? ⟨2, 0, none⟩ = some (.iface 194 (.agg #[.pointer (some ⟨3, 31, none⟩)]))) :
    Calls Tryz.prog 71 #[.iface 54 (.int .i64 n), .iface 132 (.pointer (some t))] w fun ev w' => ev = .returned (.bool false) ∧ Below w.heap.size w w' := by
  have h6 := @run_callFunc_extern Tryz.prog 93 _ (fun args => ReflectliteValue.unpack (args.getD 0 (.tuple #[]))) Tryz.func93 (by kernel_rfl) (by kernel_rfl) (by kernel_rfl) (by kernel_rfl)
  have h7 := @run_callFunc_extern Tryz.prog 94 _ (ReflectliteValue.methodAny (ReflectliteValue.valueError "reflectlite.Value.Type" 0) (fun t _ _ _ => ReflectliteType.toType t)) Tryz.func94 (by kernel_rfl) (by kernel_rfl) (by kernel_rfl) (by kernel_rfl)
  have h8 := @run_callFunc_extern Tryz.prog 95 _ (ReflectliteValue.method (ReflectliteValue.valueError "reflectlite.Value.IsNil" 0) ReflectliteValue.isNil) Tryz.func95 (by kernel_rfl) (by kernel_rfl) (by kernel_rfl) (by kernel_rfl)
  have h27 := @run_callFunc_extern Tryz.prog 137 _ (ReflectliteType.abiMethod fun t => do pure (.int .u8 (← Rtype.kind t))) Tryz.func137 (by kernel_rfl) (by kernel_rfl) (by kernel_rfl) (by kernel_rfl)
  have h37 := @run_callFunc_extern Tryz.prog 153 _ (ReflectliteType.method ReflectliteType.elem) Tryz.func153 (by kernel_rfl) (by kernel_rfl) (by kernel_rfl) (by kernel_rfl)
  have h38 := @run_callFunc_extern Tryz.prog 154 _ (ReflectliteType.relation "Implements" ReflectliteType.implements_) Tryz.func154 (by kernel_rfl) (by kernel_rfl) (by kernel_rfl) (by kernel_rfl)
  have h10 := @run_callFunc_extern Tryz.prog 97 _ ReflectliteType.typeOf Tryz.func97 (by kernel_rfl) (by kernel_rfl) (by kernel_rfl) (by kernel_rfl)
  have h35 := @run_callFunc_extern Tryz.prog 151 _ (ReflectliteType.relation "AssignableTo" ReflectliteType.assignableTo) Tryz.func151 (by kernel_rfl) (by kernel_rfl) (by kernel_rfl) (by kernel_rfl)
  have tO := asTypeOfE
  have mA := asMethodAssignableTo
  have aE := asAssignE
  have f6 := asValueOf
  have f7 := asType
  have mK := asMethodKind
  have mE := asMethodElem
  have mI := asMethodImplements
  have kP := asKindP
  have kF := asKindF
  have eP := asElem
  have iF := asImplements
  have nA := asNoAsE
  have nU := asNoUnwrapE
  have nV := asNoUnwrapsE
  have n8 := asIsNil ⟨w.heap.size, 0, none⟩ t ((w.alloc (.cells #[.pointer (some t)] 132)).alloc (.cells #[.pointer (some ⟨3, 132, none⟩), .pointer (some ⟨w.heap.size, 0, none⟩), .int .u64 150] 164)) (by simp)
  have hlt : 2 < w.heap.size := World.block_lt_of_cell? w _ hg
  have hg2 : ((w.alloc (.cells #[.pointer (some t)] 132)).alloc (.cells #[.pointer (some ⟨3, 132, none⟩), .pointer (some ⟨w.heap.size, 0, none⟩), .int .u64 150] 164)).cell? ⟨2, 0, none⟩ = some (.iface 194 (.agg #[.pointer (some ⟨3, 31, none⟩)])) := by
    rw [World.cell?_alloc_lt _ _ ⟨2, 0, none⟩ (Nat.lt_of_lt_of_le hlt (by simp)), World.cell?_alloc_lt _ _ ⟨2, 0, none⟩ hlt]; exact hg
  have bl : ∀ (W : World) (o : Obj), Below w.heap.size w W → Below w.heap.size w (W.alloc o) := fun W o h => h.grown (World.grownBy_alloc _ _ none) h.size (fun k hk => by cases hk)
  go_enter Tryz.func71, Tryz.ntmps71
  go_wp2
  refine wp_loop_rounds 1 ?_
  rw [rounds_succ]
  go_wp2
  go_ret
  exact ⟨rfl, bl _ _ (bl _ _ (bl _ _ (Below.refl _ _)))⟩
theorem as_miss (w : World) (n : Int) (t : Addr) (hg : Handle w) : Ret Tryz.prog 71 #[.iface 54 (.int .i64 n), .iface 132 (.pointer (some t))] w (fun v w' => v = .bool false ∧ Below w.heap.size w w') :=
  Calls.mono (as_miss_calls n t w hg) fun e w' h => ⟨_, h.1, rfl, h.2⟩
end Go.Proofs.YtjomihhpglojpaaGreatDoor
end
section
/- The condition of a door's row: what it gives a walk, and a world that meets it. -/
namespace Go.Proofs.YtjomihhpglojpaaGreatDoor
open Go.ChangeShapes Go.WideShapes Go.RowKit

def theLaid : List (String × DataW Unit) := [("errors.errorType", Rows.laid_errors_errorType)]
theorem doorEt : Tryz.prog.globalNamed "errors.errorType" = some 2 := by kernel_rfl
theorem doorRt : (Tryz.prog.cutTypes.find? (·.1 == "internal/reflectlite.rtype")).map (·.2) = some 194 := by kernel_rfl
theorem doorOne : ((List.range Tryz.prog.types.size).filter fun t => Tryz.prog.rowNamed t [101, 114, 114, 111, 114]) = [31] := by kernel_rfl

theorem handle_of_laid {W : World} (h : laidMetH Tryz.prog theLaid W) : Handle W := by
  have h' : laidMet Tryz.prog [] W ∧ handlesMet Tryz.prog theLaid W := h
  obtain ⟨name, u, ty, e1, e2, e3, e4, e5⟩ := h'.2 _ (List.mem_singleton.2 rfl)
  have en : name = [101, 114, 114, 111, 114] := (Option.some.inj e1).symm
  subst en
  obtain rfl := Option.some.inj (doorRt.symm.trans e2)
  have hm : ty ∈ (List.range Tryz.prog.types.size).filter fun t => Tryz.prog.rowNamed t [101, 114, 114, 111, 114] := List.mem_filter.2 ⟨List.mem_range.2 e3, e4⟩
  rw [doorOne] at hm
  obtain rfl := List.mem_singleton.1 hm
  have hh : typeHandle Tryz.prog 31 = .pointer (some ⟨3, 31, none⟩) := by kernel_rfl
  rw [hh] at e5
  have := World.var?_cell doorEt e5 0
  simpa [Handle] using this
theorem Handle.below {w w' : World} (h : Handle w) (hb : Below w.heap.size w w') : Handle w' :=
  (hb.cell (p := ⟨2, 0, none⟩) (World.block_lt_of_cell? w _ h)).trans h

/-- A world that meets the condition: the settled one, the variable's cell laid. -/
noncomputable def laidWorld (os : Os) : World :=
  let w0 := World.holding Tryz.prog os ⟨#[], #[], []⟩
  { w0 with heap := w0.heap.modify 2 fun
      | .cells _ t frozen => .cells #[.iface 194 (.agg #[.pointer (some ⟨3, 31, none⟩)])] t frozen
      | o => o }
theorem laidWorld_met (os : Os) (args : Array Value) : laidMetH Tryz.prog theLaid ((laidWorld os).forCall (fun _ _ => 0) ⟨#[], args, []⟩).memory :=
  laidMetH_of_parts (laidMet_nil _ _) (by kernel_rfl)
end Go.Proofs.YtjomihhpglojpaaGreatDoor
end
section
/- The library's utf8.ValidString at this program. -/
namespace Go.Proofs
open Go.Shelf Go.RowKit
def Tryz.lays196_ren : Go.Shelf.Ren := ⟨fun | 196 => 60 | 259 => 87 | n => n, fun | 0 => 0 | 3 => 3 | 4 => 4 | 5 => 5 | 9 => 9 | 12 => 12 | 46 => 111 | 53 => 58 | 119 => 154 | 138 => 156 | 139 => 157 | n => n, fun | 3 => 0 | 4 => 1 | n => n⟩
theorem Tryz.lays196 : Go.Proofs.Lays.n196 Tryz.prog Tryz.lays196_ren := {
  mixed := by kernel_rfl
  f196 := Tryz.func60.trans (congrArg some (by kernel_rfl))
  f259 := Tryz.func87.trans (congrArg some (by kernel_rfl))
  t0 := Tryz.underlying0
  a0 := Tryz.isAgg0
  z0 := Tryz.sizeOf0
  v0 := Tryz.zeroValue0
  t3 := Tryz.underlying3
  a3 := Tryz.isAgg3
  z3 := Tryz.sizeOf3
  v3 := Tryz.zeroValue3
  t4 := Tryz.underlying4
  a4 := Tryz.isAgg4
  z4 := Tryz.sizeOf4
  v4 := Tryz.zeroValue4
  t5 := Tryz.underlying5
  a5 := Tryz.isAgg5
  z5 := Tryz.sizeOf5
  v5 := Tryz.zeroValue5
  t9 := Tryz.underlying9
  a9 := Tryz.isAgg9
  z9 := Tryz.sizeOf9
  v9 := Tryz.zeroValue9
  t12 := Tryz.underlying12
  a12 := Tryz.isAgg12
  z12 := Tryz.sizeOf12
  v12 := Tryz.zeroValue12
  t46 := Tryz.underlying111
  a46 := Tryz.isAgg111
  z46 := Tryz.sizeOf111
  v46 := Tryz.zeroValue111
  t53 := Tryz.underlying58
  a53 := Tryz.isAgg58
  z53 := Tryz.sizeOf58
  v53 := Tryz.zeroValue58
  t119 := Tryz.underlying154
  a119 := Tryz.isAgg154
  z119 := Tryz.sizeOf154
  t138 := Tryz.underlying156
  a138 := Tryz.isAgg156
  z138 := Tryz.sizeOf156
  v138 := Tryz.zeroValue156
  t139 := Tryz.underlying157
  a139 := Tryz.isAgg157
  z139 := Tryz.sizeOf157
  v139 := Tryz.zeroValue157
  g3 := by kernel_rfl
  g4 := by kernel_rfl }
theorem Tryz.utf8_ValidString (s : ByteArray) (w : World) (hs : s.size ≤ 9223372036854775807) (hT : Lib.Utf8Tabs (Tryz.lays196_ren.g 3) (Tryz.lays196_ren.g 4) w) :
    Calls Tryz.prog 60 #[.string s] w fun e w' => e = .returned (.bool (Lib.validD s.data.toList)) ∧ Below w.heap.size w w' := Any.utf8_ValidString Tryz.lays196 s w hs hT
end Go.Proofs
end
section
/- The condition of CharsUnquotes: the handle and utf8's two tables; a world that meets it. -/
namespace Go.Proofs.YtjomihhpglojpaaGreatDoor
open Go.ChangeShapes Go.WideShapes Go.RowKit Go.Shelf

def laid3 : List (String × DataW Unit) := [("unicode/utf8.acceptRanges", Rows.laid_unicode_utf8_acceptRanges), ("errors.errorType", Rows.laid_errors_errorType), ("unicode/utf8.first", Rows.laid_unicode_utf8_first)]
def tabs2 : List (String × DataW Unit) := [("unicode/utf8.acceptRanges", Rows.laid_unicode_utf8_acceptRanges), ("unicode/utf8.first", Rows.laid_unicode_utf8_first)]
def handle1 : List (String × DataW Unit) := [("errors.errorType", Rows.laid_errors_errorType)]
theorem filt_no : (laid3.filter fun x => x.2.handleName?.isNone) = tabs2 := rfl
theorem filt_yes : (laid3.filter fun x => x.2.handleName?.isSome) = handle1 := rfl
theorem laid3_parts {W : World} (h : laidMetH Tryz.prog laid3 W) : laidMet Tryz.prog tabs2 W ∧ handlesMet Tryz.prog handle1 W := by
  unfold laidMetH at h
  rw [filt_yes] at h
  rw [← filt_no]
  exact h
theorem handle_of_laid3 {W : World} (h : laidMetH Tryz.prog laid3 W) : Handle W := by
  refine handle_of_laid (show laidMet Tryz.prog [] W ∧ handlesMet Tryz.prog theLaid W from ⟨?_, (laid3_parts h).2⟩)
  exact laidMet_nil _ _
def Tabs (w : World) : Prop := Lib.Utf8Tabs (Tryz.lays196_ren.g 3) (Tryz.lays196_ren.g 4) w
theorem acc_eq : (Rows.laid_unicode_utf8_acceptRanges : DataW Unit) = Lib.acceptData := by kernel_rfl
theorem fst_eq : Rows.laid_unicode_utf8_first = Lib.firstData := Pinned.utf8First_eq
theorem tabs_of_laid3 {W : World} (h : laidMetH Tryz.prog laid3 W) : Tabs W := by
  have h2 := (laid3_parts h).1
  unfold tabs2 at h2
  rw [acc_eq, fst_eq] at h2
  exact utf8Tabs_of_readsT (U8Types.of196 Tryz.lays196) ⟨by kernel_rfl, by kernel_rfl, by kernel_rfl, by kernel_rfl, by kernel_rfl, by kernel_rfl, by kernel_rfl⟩ (Lib.laidMet.reads h2 (.tail _ (.head _))) (Lib.laidMet.reads h2 (.head _))
theorem Tabs.below {w w' : World} (h : Tabs w) (hb : Below w.heap.size w w') : Tabs w' :=
  ⟨fun c hc => (hb.cell (World.block_lt_of_cell? w _ (h.1 c hc))).trans (h.1 c hc), fun i hi => ⟨(hb.cell (World.block_lt_of_cell? w _ (h.2 i hi).1)).trans (h.2 i hi).1, (hb.cell (World.block_lt_of_cell? w _ (h.2 i hi).2)).trans (h.2 i hi).2⟩⟩

/-- A world that meets the condition: the settled one, the three variables laid. -/
noncomputable def laidWorld3 (os : Os) : World :=
  let w0 := laidWorld os
  let put (h : Array Obj) (g : Nat) (cs : Array Value) : Array Obj := h.modify g fun
    | .cells _ t frozen => .cells cs t frozen
    | o => o
  let h1 := put w0.heap 0 (Lib.firstTab.map fun z => Value.int .u8 z).toArray
  let h2 := put h1 1 ((List.range 16).flatMap fun i => [Value.int .u8 (Lib.accLo i), Value.int .u8 (Lib.accHi i)]).toArray
  { w0 with heap := h2 }
theorem laidWorld3_met (os : Os) (args : Array Value) : laidMetH Tryz.prog laid3 ((laidWorld3 os).forCall (fun _ _ => 0) ⟨#[], args, []⟩).memory := by
  refine laidMetH_of_parts ?_ (by kernel_rfl)
  rw [filt_no]
  exact (LaidIn.of_run (l := tabs2) [1, 0] 8 (by kernel_rfl) (by kernel_rfl) (by kernel_rfl) (by kernel_rfl)).met
end Go.Proofs.YtjomihhpglojpaaGreatDoor
end
section
/- utf8.ValidString at this program. -/
namespace Go.Proofs.YtjomihhpglojpaaGreatDoor
open Go.RowKit
set_option linter.unusedSimpArgs false
set_option linter.unusedVariables false
attribute [local irreducible] wpList wpQuiet wpStill Code.wp Exit.then Exit.inBlock bodyPost Calls Does Does0
theorem valid_ok (w : World) (s : ByteArray) (hs : s.size ≤ 16777216) (hT : Tabs w) : Ret Tryz.prog 60 #[.string s] w (fun v w' => v = .bool (Lib.validD s.data.toList) ∧ Below w.heap.size w w') :=
  Calls.mono (Tryz.utf8_ValidString s w (by omega) hT) (by rintro e w' ⟨rfl, hb⟩; exact ⟨_, rfl, rfl, hb⟩)
end Go.Proofs.YtjomihhpglojpaaGreatDoor
end
