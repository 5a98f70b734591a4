/- How wide a rune is that was read, and when a source is bad: plain laws. -/
import Derived.Test.YtnohefaifbghiaaGreatDoorUnits
namespace Go.Proofs.YtnohefaifbghiaaGreatDoor
open Go.RowKit

def rl (r : Int) : Int := if r < 0 then -1 else if r ≤ 127 then 1 else if r ≤ 2047 then 2 else if 55296 ≤ r ∧ r ≤ 57343 then -1 else if r ≤ 65535 then 3 else if r ≤ 1114111 then 4 else -1
def dec4 (b0 b1 b2 b3 : Nat) (c1 c2 c3 : Bool) : Nat × Nat :=
  if b0 < 0x80 then (b0, 1)
  else if b0 / 32 == 6 && c1 then
    let c := (b0 % 32) * 64 + b1 % 64
    if c ≥ 0x80 then (c, 2) else (65533, 1)
  else if b0 / 16 == 14 && c1 && c2 then
    let c := (b0 % 16) * 4096 + (b1 % 64) * 64 + b2 % 64
    if c ≥ 0x800 && Utf8.valid c then (c, 3) else (65533, 1)
  else if b0 / 8 == 30 && c1 && c2 && c3 then
    let c := (b0 % 8) * 262144 + (b1 % 64) * 4096 + (b2 % 64) * 64 + b3 % 64
    if c ≥ 0x10000 && Utf8.valid c then (c, 4) else (65533, 1)
  else (65533, 1)
def cnt (s : ByteArray) (i k : Nat) : Bool := i + k < s.size && (s.get! (i + k)).toNat / 64 == 2
theorem decode_4 (s : ByteArray) (i : Nat) : Utf8.decode s i = dec4 (s.get! (i + 0)).toNat (s.get! (i + 1)).toNat (s.get! (i + 2)).toNat (s.get! (i + 3)).toNat (cnt s i 1) (cnt s i 2) (cnt s i 3) := rfl
set_option maxHeartbeats 4000000 in
theorem rl_dec4 (b0 b1 b2 b3 : Nat) (c1 c2 c3 : Bool) (h : (dec4 b0 b1 b2 b3 c1 c2 c3).1 ≠ 65533) : rl ((dec4 b0 b1 b2 b3 c1 c2 c3).1 : Nat) = ((dec4 b0 b1 b2 b3 c1 c2 c3).2 : Nat) := by
  revert h
  unfold dec4
  simp only
  split
  · intro h; simp only [rl]; repeat' split
    all_goals omega
  split
  · split
    · intro h; simp only [rl]; repeat' split
      all_goals omega
    · intro h; exact absurd rfl h
  split
  · split
    · rename_i hv
      intro h
      simp only [ge_iff_le, Utf8.valid, Bool.and_eq_true, Bool.or_eq_true, decide_eq_true_eq] at hv
      simp only [rl]; repeat' split
      all_goals omega
    · intro h; exact absurd rfl h
  split
  · split
    · rename_i hv
      intro h
      simp only [ge_iff_le, Utf8.valid, Bool.and_eq_true, Bool.or_eq_true, decide_eq_true_eq] at hv
      simp only [rl]; repeat' split
      all_goals omega
    · intro h; exact absurd rfl h
  · intro h; exact absurd rfl h
theorem rl_decode (s : ByteArray) (i : Nat) (h : (Utf8.decode s i).1 ≠ 65533) : rl ((Utf8.decode s i).1 : Nat) = ((Utf8.decode s i).2 : Nat) := by
  rw [decode_4] at h ⊢
  exact rl_dec4 _ _ _ _ _ _ _ h
set_option maxHeartbeats 4000000 in
theorem ill_dec4 (n i b0 b1 b2 b3 : Nat) (c1 c2 c3 : Bool) (h1 : c1 = (decide (i + 1 < n) && b1 / 64 == 2)) (h2 : c2 = (decide (i + 2 < n) && b2 / 64 == 2)) (h : (dec4 b0 b1 b2 b3 c1 c2 c3).1 = 65533) :
    (dec4 b0 b1 b2 b3 c1 c2 c3).2 = if i + 2 < n ∧ b0 = 239 ∧ b1 = 191 ∧ b2 = 189 then 3 else 1 := by
  subst h1 h2
  revert h
  unfold dec4
  simp only [Bool.and_eq_true, decide_eq_true_eq, beq_iff_eq]
  split
  · intro h; simp only at h; rw [if_neg (by omega)]
  split
  · split
    · intro h; simp only at h; omega
    · intro h; rw [if_neg (by omega)]
  split
  · rename_i hc
    split
    · intro h; simp only at h; rw [if_pos (by omega)]
    · rename_i hv
      intro h
      rw [if_neg]
      rintro ⟨h1, rfl, rfl, rfl⟩
      exact hv (by decide)
  split
  · split
    · intro h; simp only at h; omega
    · intro h; rw [if_neg (by omega)]
  · rename_i h1 h2 h3 h4
    intro h
    rw [if_neg]
    rintro ⟨h5, rfl, rfl, rfl⟩
    exact h3 ⟨⟨by decide, by omega, by decide⟩, by omega, by decide⟩
theorem ill_w (s : ByteArray) (i : Nat) (h : (Utf8.decode s i).1 = 65533) : (Utf8.decode s i).2 = if i + 2 < s.size ∧ (s.get! i).toNat = 239 ∧ (s.get! (i + 1)).toNat = 191 ∧ (s.get! (i + 2)).toNat = 189 then 3 else 1 := by
  rw [decode_4] at h ⊢
  exact ill_dec4 s.size i _ _ _ _ _ _ _ rfl rfl h
def ctl (r : Int) : Bool := decide (r < 32 ∨ r = 127)
def blk (r : Int) : Bool := decide (r = 32 ∨ r = 9 ∨ r = 10 ∨ r = 13)
/-- Is unit k bad? -/
def badB (s : ByteArray) (k : Nat) : Bool := illB s (uSt s k).1 || (ctl (uR s k) && !blk (uR s k))
/-- The first bad unit, if one is. -/
def Out (s : ByteArray) : Option Nat → Prop
  | none => ∃ K, (∀ j, j < K → (uSt s j).1 < s.size ∧ badB s j = false) ∧ ¬ (uSt s K).1 < s.size
  | some k => (∀ j, j < k → (uSt s j).1 < s.size ∧ badB s j = false) ∧ (uSt s k).1 < s.size ∧ badB s k = true
theorem uMono (s : ByteArray) (i : Nat) : ∀ d, (uSt s i).1 ≤ (uSt s (i + d)).1
  | 0 => Nat.le_refl _
  | d + 1 => Nat.le_trans (uMono s i d) (by rw [← Nat.add_assoc, uSt_fst]; omega)
theorem uEnd {s : ByteArray} {K k : Nat} (hK : ¬ (uSt s K).1 < s.size) (hk : (uSt s k).1 < s.size) : k < K := by
  rcases Nat.lt_or_ge k K with h | h
  · exact h
  · have := uMono s K (k - K)
    rw [Nat.add_sub_cancel' h] at this
    omega
theorem out_one {s : ByteArray} : ∀ {a b : Option Nat}, Out s a → Out s b → a = b
  | none, none, _, _ => rfl
  | none, some k, ⟨K, h1, h2⟩, ⟨_, h4, h5⟩ => by have := (h1 k (uEnd h2 h4)).2; rw [this] at h5; cases h5
  | some k, none, ⟨_, h4, h5⟩, ⟨K, h1, h2⟩ => by have := (h1 k (uEnd h2 h4)).2; rw [this] at h5; cases h5
  | some j, some k, ⟨h1, h2, h3⟩, ⟨h4, h5, h6⟩ => by
    rcases Nat.lt_trichotomy j k with h | h | h
    · have := (h4 j h).2; rw [this] at h3; cases h3
    · rw [h]
    · have := (h1 k h).2; rw [this] at h6; cases h6
/-- Does the text from i begin so? -/
theorem extract_get (s : ByteArray) (i j : Nat) (hj : j ≤ s.size) (k : Nat) (hk : i + k < j) : (s.extract i j).get! k = s.get! (i + k) := by
  have h1 : k < (s.extract i j).size := by simp [ByteArray.size_extract]; omega
  have e1 := get_at h1
  have e2 := get_at (s := s) (j := i + k) (by omega)
  have e3 : (s.extract i j)[k] = s[i + k]'(by omega) := by simp [ByteArray.getElem_extract]
  have e4 : (s.extract i j)[k]? = some (s.extract i j)[k] := by simp [h1]
  have e5 : s[i + k]? = some (s[i + k]'(by omega)) := by simp [show i + k < s.size by omega]
  rw [e4] at e1; rw [e5] at e2
  have f1 := Option.some.inj e1
  have f2 := Option.some.inj e2
  rw [← f1, ← f2, e3]
theorem pre3g (s : ByteArray) (i : Nat) (b0 b1 b2 : UInt8) (h : i + 2 < s.size) : ((s.extract i s.size).extract 0 3 = ⟨#[b0, b1, b2]⟩) ↔ (s.get! i = b0 ∧ s.get! (i + 1) = b1 ∧ s.get! (i + 2) = b2) := by
  have hz : (s.extract i s.size).size = s.size - i := by simp [ByteArray.size_extract]
  have hz3 : ((s.extract i s.size).extract 0 3).size = 3 := by simp [ByteArray.size_extract]; omega
  have g : ∀ k, k < 3 → ((s.extract i s.size).extract 0 3).get! k = s.get! (i + k) := fun k hk => by
    rw [extract_get _ 0 3 (by omega) k (by omega), Nat.zero_add, extract_get _ _ _ (Nat.le_refl _) k (by omega)]
  have g0 := g 0 (by decide)
  have g1 := g 1 (by decide)
  have g2 := g 2 (by decide)
  rw [Nat.add_zero] at g0
  constructor
  · intro e
    rw [e] at g0 g1 g2
    exact ⟨g0.symm, g1.symm, g2.symm⟩
  · rintro ⟨h0, h1, h2⟩
    rw [← h0, ← h1, ← h2, ← g0, ← g1, ← g2]
    generalize (s.extract i s.size).extract 0 3 = u at hz3
    rcases u with ⟨d⟩
    have hd : d.size = 3 := hz3
    rcases d with ⟨l⟩
    match l, hd with
    | [x, y, z], _ => rfl
theorem u8eq (b : UInt8) (n : Nat) (c : UInt8) (hc : c.toNat = n) : b = c ↔ b.toNat = n := by
  rw [← hc]; exact UInt8.toNat_inj.symm
theorem pre3 (s : ByteArray) (i : Nat) (h : i + 2 < s.size) : ((s.extract i s.size).extract 0 3 = ⟨#[239, 191, 189]⟩) ↔ ((s.get! i).toNat = 239 ∧ (s.get! (i + 1)).toNat = 191 ∧ (s.get! (i + 2)).toNat = 189) := by
  rw [pre3g s i 239 191 189 h, u8eq _ 239 239 (by decide), u8eq _ 191 191 (by decide), u8eq _ 189 189 (by decide)]
/-- The text from i begins with the sign for bytes that are none, spelt out. -/
def fffd (s : ByteArray) (i : Nat) : Bool := decide (3 ≤ (s.extract i s.size).size) && decide ((s.extract i s.size).extract 0 3 = ⟨#[239, 191, 189]⟩)
theorem fffd_iff (s : ByteArray) (i : Nat) : fffd s i = true ↔ (i + 2 < s.size ∧ (s.get! i).toNat = 239 ∧ (s.get! (i + 1)).toNat = 191 ∧ (s.get! (i + 2)).toNat = 189) := by
  have hz : (s.extract i s.size).size = s.size - i := by simp [ByteArray.size_extract]
  unfold fffd
  rw [Bool.and_eq_true, decide_eq_true_eq, decide_eq_true_eq, hz]
  constructor
  · rintro ⟨h1, h2⟩
    have h : i + 2 < s.size := by omega
    exact ⟨h, (pre3 s i h).1 h2⟩
  · rintro ⟨h1, h2⟩
    exact ⟨by omega, (pre3 s i h1).2 h2⟩
theorem wide_ill {s : ByteArray} {i : Nat} (h : (Utf8.decode s i).1 = 65533) : (Utf8.decode s i).2 = (if fffd s i = true then 3 else 1) ∧ illB s i = !fffd s i := by
  constructor
  · rw [ill_w s i h]
    simp only [fffd_iff]
  · rw [Bool.eq_iff_iff, Bool.not_eq_true', ← Bool.not_eq_true, fffd_iff]
    unfold illB
    rw [h]
    simp only [Bool.and_eq_true, Bool.or_eq_true, decide_eq_true_eq, bne_iff_ne, ne_eq, beq_iff_eq]
    omega
theorem ill_no {s : ByteArray} {i : Nat} (h : (Utf8.decode s i).1 ≠ 65533) : illB s i = false := by
  unfold illB
  have : ((((Utf8.decode s i).1 : Nat) : Int) == 65533) = false := beq_eq_false_iff_ne.2 (by omega)
  rw [this]; rfl
section
variable {P : Program} {w : World} {l : List (Nat × Value)}
theorem d_sliceSH {x hi : Operand} {s : ByteArray} {j : Nat} {k : IntKind} {q : Int} {t ty : TypeId} (hU : P.underlying t = some .string)
    (hx : Ev l x (.string s) := by exact rfl) (hh : Ev l hi (.int k q) := by exact rfl) (hq : q = (j : Int) := by exact rfl) (hj : j ≤ s.size := by omega) :
    Does P l w (.slice t x none (some hi) none) ty (.string (s.extract 0 j)) w := by
  intro ρ hρ d pos af g
  subst hq
  simp [execOp, Instr.sliceAt, Instr.slice, Instr.sliceBounds, run_sliceBound hj, hρ _ _ hx, hρ _ _ hh, run_underlying hU]
end
end Go.Proofs.YtnohefaifbghiaaGreatDoor
