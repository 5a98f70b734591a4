/- Laid together by a program of mine: Dec UnqL TFunc ValD TextW Nm. -/
import Derived.Test.YtjomihhpglojpaaDoorSumLawFewerS14
import Derived.Lib.ValidLaws
import Derived.Lib.TrimUEq
import Derived.Laws.BytesArg
import Derived.Laws.IdiomStrings
import Derived.Lib.UnsafeStr
import Derived.Test.YtjomihhpglojpaaDoorSumLawFewerS4
import Derived.Test.YtjomihhpglojpaaDoorSumLawFewerS5
set_option linter.unusedSimpArgs false
set_option linter.unusedVariables false
section
/- How wide a rune is that was read, and when a source is bad: plain laws. -/
namespace Go.Proofs.YtjomihhpglojpaaDoor
open Go.RowKit

def rl (r : Int) : Int := if r < 0 then -1 else if r ≤ 127 then 1 else if r ≤ 2047 then 2 else if 55296 ≤ r ∧ r ≤ 57343 then -1 else if r ≤ 65535 then 3 else if r ≤ 1114111 then 4 else -1
def dec4 (b0 b1 b2 b3 : Nat) (c1 c2 c3 : Bool) : Nat × Nat :=
  if b0 < 0x80 then (b0, 1)
  else if b0 / 32 == 6 && c1 then
    let c := (b0 % 32) * 64 + b1 % 64
    if c ≥ 0x80 then (c, 2) else (65533, 1)
  else if b0 / 16 == 14 && c1 && c2 then
    let c := (b0 % 16) * 4096 + (b1 % 64) * 64 + b2 % 64
    if c ≥ 0x800 && Utf8.valid c then (c, 3) else (65533, 1)
  else if b0 / 8 == 30 && c1 && c2 && c3 then
    let c := (b0 % 8) * 262144 + (b1 % 64) * 4096 + (b2 % 64) * 64 + b3 % 64
    if c ≥ 0x10000 && Utf8.valid c then (c, 4) else (65533, 1)
  else (65533, 1)
def cnt (s : ByteArray) (i k : Nat) : Bool := i + k < s.size && (s.get! (i + k)).toNat / 64 == 2
theorem decode_4 (s : ByteArray) (i : Nat) : Utf8.decode s i = dec4 (s.get! (i + 0)).toNat (s.get! (i + 1)).toNat (s.get! (i + 2)).toNat (s.get! (i + 3)).toNat (cnt s i 1) (cnt s i 2) (cnt s i 3) := rfl
set_option maxHeartbeats 4000000 in
theorem rl_dec4 (b0 b1 b2 b3 : Nat) (c1 c2 c3 : Bool) (h : (dec4 b0 b1 b2 b3 c1 c2 c3).1 ≠ 65533) : rl ((dec4 b0 b1 b2 b3 c1 c2 c3).1 : Nat) = ((dec4 b0 b1 b2 b3 c1 c2 c3).2 : Nat) := by
  revert h
  unfold dec4
  simp only
  split
  · intro h; simp only [rl]; repeat' split
    all_goals omega
  split
  · split
    · intro h; simp only [rl]; repeat' split
      all_goals omega
    · intro h; exact absurd rfl h
  split
  · split
    · rename_i hv
      intro h
      simp only [ge_iff_le, Utf8.valid, Bool.and_eq_true, Bool.or_eq_true, decide_eq_true_eq] at hv
      simp only [rl]; repeat' split
      all_goals omega
    · intro h; exact absurd rfl h
  split
  · split
    · rename_i hv
      intro h
      simp only [ge_iff_le, Utf8.valid, Bool.and_eq_true, Bool.or_eq_true, decide_eq_true_eq] at hv
      simp only [rl]; repeat' split
      all_goals omega
    · intro h; exact absurd rfl h
  · intro h; exact absurd rfl h
theorem rl_decode (s : ByteArray) (i : Nat) (h : (Utf8.decode s i).1 ≠ 65533) : rl ((Utf8.decode s i).1 : Nat) = ((Utf8.decode s i).2 : Nat) := by
  rw [decode_4] at h ⊢
  exact rl_dec4 _ _ _ _ _ _ _ h
set_option maxHeartbeats 4000000 in
theorem ill_dec4 (n i b0 b1 b2 b3 : Nat) (c1 c2 c3 : Bool) (h1 : c1 = (decide (i + 1 < n) && b1 / 64 == 2)) (h2 : c2 = (decide (i + 2 < n) && b2 / 64 == 2)) (h : (dec4 b0 b1 b2 b3 c1 c2 c3).1 = 65533) :
    (dec4 b0 b1 b2 b3 c1 c2 c3).2 = if i + 2 < n ∧ b0 = 239 ∧ b1 = 191 ∧ b2 = 189 then 3 else 1 := by
  subst h1 h2
  revert h
  unfold dec4
  simp only [Bool.and_eq_true, decide_eq_true_eq, beq_iff_eq]
  split
  · intro h; simp only at h; rw [if_neg (by omega)]
  split
  · split
    · intro h; simp only at h; omega
    · intro h; rw [if_neg (by omega)]
  split
  · rename_i hc
    split
    · intro h; simp only at h; rw [if_pos (by omega)]
    · rename_i hv
      intro h
      rw [if_neg]
      rintro ⟨h1, rfl, rfl, rfl⟩
      exact hv (by decide)
  split
  · split
    · intro h; simp only at h; omega
    · intro h; rw [if_neg (by omega)]
  · rename_i h1 h2 h3 h4
    intro h
    rw [if_neg]
    rintro ⟨h5, rfl, rfl, rfl⟩
    exact h3 ⟨⟨by decide, by omega, by decide⟩, by omega, by decide⟩
theorem ill_w (s : ByteArray) (i : Nat) (h : (Utf8.decode s i).1 = 65533) : (Utf8.decode s i).2 = if i + 2 < s.size ∧ (s.get! i).toNat = 239 ∧ (s.get! (i + 1)).toNat = 191 ∧ (s.get! (i + 2)).toNat = 189 then 3 else 1 := by
  rw [decode_4] at h ⊢
  exact ill_dec4 s.size i _ _ _ _ _ _ _ rfl rfl h
def ctl (r : Int) : Bool := decide (r < 32 ∨ r = 127)
def blk (r : Int) : Bool := decide (r = 32 ∨ r = 9 ∨ r = 10 ∨ r = 13)
/-- Is unit k bad? -/
def badB (s : ByteArray) (k : Nat) : Bool := illB s (uSt s k).1 || (ctl (uR s k) && !blk (uR s k))
/-- The first bad unit, if one is. -/
def Out (s : ByteArray) : Option Nat → Prop
  | none => ∃ K, (∀ j, j < K → (uSt s j).1 < s.size ∧ badB s j = false) ∧ ¬ (uSt s K).1 < s.size
  | some k => (∀ j, j < k → (uSt s j).1 < s.size ∧ badB s j = false) ∧ (uSt s k).1 < s.size ∧ badB s k = true
theorem uMono (s : ByteArray) (i : Nat) : ∀ d, (uSt s i).1 ≤ (uSt s (i + d)).1
  | 0 => Nat.le_refl _
  | d + 1 => Nat.le_trans (uMono s i d) (by rw [← Nat.add_assoc, uSt_fst]; omega)
theorem uEnd {s : ByteArray} {K k : Nat} (hK : ¬ (uSt s K).1 < s.size) (hk : (uSt s k).1 < s.size) : k < K := by
  rcases Nat.lt_or_ge k K with h | h
  · exact h
  · have := uMono s K (k - K)
    rw [Nat.add_sub_cancel' h] at this
    omega
theorem out_one {s : ByteArray} : ∀ {a b : Option Nat}, Out s a → Out s b → a = b
  | none, none, _, _ => rfl
  | none, some k, ⟨K, h1, h2⟩, ⟨_, h4, h5⟩ => by have := (h1 k (uEnd h2 h4)).2; rw [this] at h5; cases h5
  | some k, none, ⟨_, h4, h5⟩, ⟨K, h1, h2⟩ => by have := (h1 k (uEnd h2 h4)).2; rw [this] at h5; cases h5
  | some j, some k, ⟨h1, h2, h3⟩, ⟨h4, h5, h6⟩ => by
    rcases Nat.lt_trichotomy j k with h | h | h
    · have := (h4 j h).2; rw [this] at h3; cases h3
    · rw [h]
    · have := (h1 k h).2; rw [this] at h6; cases h6
/-- Does the text from i begin so? -/
theorem extract_get (s : ByteArray) (i j : Nat) (hj : j ≤ s.size) (k : Nat) (hk : i + k < j) : (s.extract i j).get! k = s.get! (i + k) := by
  have h1 : k < (s.extract i j).size := by simp [ByteArray.size_extract]; omega
  have e1 := get_at h1
  have e2 := get_at (s := s) (j := i + k) (by omega)
  have e3 : (s.extract i j)[k] = s[i + k]'(by omega) := by simp [ByteArray.getElem_extract]
  have e4 : (s.extract i j)[k]? = some (s.extract i j)[k] := by simp [h1]
  have e5 : s[i + k]? = some (s[i + k]'(by omega)) := by simp [show i + k < s.size by omega]
  rw [e4] at e1; rw [e5] at e2
  have f1 := Option.some.inj e1
  have f2 := Option.some.inj e2
  rw [← f1, ← f2, e3]
theorem pre3g (s : ByteArray) (i : Nat) (b0 b1 b2 : UInt8) (h : i + 2 < s.size) : ((s.extract i s.size).extract 0 3 = ⟨#[b0, b1, b2]⟩) ↔ (s.get! i = b0 ∧ s.get! (i + 1) = b1 ∧ s.get! (i + 2) = b2) := by
  have hz : (s.extract i s.size).size = s.size - i := by simp [ByteArray.size_extract]
  have hz3 : ((s.extract i s.size).extract 0 3).size = 3 := by simp [ByteArray.size_extract]; omega
  have g : ∀ k, k < 3 → ((s.extract i s.size).extract 0 3).get! k = s.get! (i + k) := fun k hk => by
    rw [extract_get _ 0 3 (by omega) k (by omega), Nat.zero_add, extract_get _ _ _ (Nat.le_refl _) k (by omega)]
  have g0 := g 0 (by decide)
  have g1 := g 1 (by decide)
  have g2 := g 2 (by decide)
  rw [Nat.add_zero] at g0
  constructor
  · intro e
    rw [e] at g0 g1 g2
    exact ⟨g0.symm, g1.symm, g2.symm⟩
  · rintro ⟨h0, h1, h2⟩
    rw [← h0, ← h1, ← h2, ← g0, ← g1, ← g2]
    generalize (s.extract i s.size).extract 0 3 = u at hz3
    rcases u with ⟨d⟩
    have hd : d.size = 3 := hz3
    rcases d with ⟨l⟩
    match l, hd with
    | [x, y, z], _ => rfl
theorem u8eq (b : UInt8) (n : Nat) (c : UInt8) (hc : c.toNat = n) : b = c ↔ b.toNat = n := by
  rw [← hc]; exact UInt8.toNat_inj.symm
theorem pre3 (s : ByteArray) (i : Nat) (h : i + 2 < s.size) : ((s.extract i s.size).extract 0 3 = ⟨#[239, 191, 189]⟩) ↔ ((s.get! i).toNat = 239 ∧ (s.get! (i + 1)).toNat = 191 ∧ (s.get! (i + 2)).toNat = 189) := by
  rw [pre3g s i 239 191 189 h, u8eq _ 239 239 (by decide), u8eq _ 191 191 (by decide), u8eq _ 189 189 (by decide)]
/-- The text from i begins with the sign for bytes that are none, spelt out. -/
def fffd (s : ByteArray) (i : Nat) : Bool := decide (3 ≤ (s.extract i s.size).size) && decide ((s.extract i s.size).extract 0 3 = ⟨#[239, 191, 189]⟩)
theorem fffd_iff (s : ByteArray) (i : Nat) : fffd s i = true ↔ (i + 2 < s.size ∧ (s.get! i).toNat = 239 ∧ (s.get! (i + 1)).toNat = 191 ∧ (s.get! (i + 2)).toNat = 189) := by
  have hz : (s.extract i s.size).size = s.size - i := by simp [ByteArray.size_extract]
  unfold fffd
  rw [Bool.and_eq_true, decide_eq_true_eq, decide_eq_true_eq, hz]
  constructor
  · rintro ⟨h1, h2⟩
    have h : i + 2 < s.size := by omega
    exact ⟨h, (pre3 s i h).1 h2⟩
  · rintro ⟨h1, h2⟩
    exact ⟨by omega, (pre3 s i h1).2 h2⟩
theorem wide_ill {s : ByteArray} {i : Nat} (h : (Utf8.decode s i).1 = 65533) : (Utf8.decode s i).2 = (if fffd s i = true then 3 else 1) ∧ illB s i = !fffd s i := by
  constructor
  · rw [ill_w s i h]
    simp only [fffd_iff]
  · rw [Bool.eq_iff_iff, Bool.not_eq_true', ← Bool.not_eq_true, fffd_iff]
    unfold illB
    rw [h]
    simp only [Bool.and_eq_true, Bool.or_eq_true, decide_eq_true_eq, bne_iff_ne, ne_eq, beq_iff_eq]
    omega
theorem ill_no {s : ByteArray} {i : Nat} (h : (Utf8.decode s i).1 ≠ 65533) : illB s i = false := by
  unfold illB
  have : ((((Utf8.decode s i).1 : Nat) : Int) == 65533) = false := beq_eq_false_iff_ne.2 (by omega)
  rw [this]; rfl
section
variable {P : Program} {w : World} {l : List (Nat × Value)}
theorem d_sliceSH {x hi : Operand} {s : ByteArray} {j : Nat} {k : IntKind} {q : Int} {t ty : TypeId} (hU : P.underlying t = some .string)
    (hx : Ev l x (.string s) := by exact rfl) (hh : Ev l hi (.int k q) := by exact rfl) (hq : q = (j : Int) := by exact rfl) (hj : j ≤ s.size := by omega) :
    Does P l w (.slice t x none (some hi) none) ty (.string (s.extract 0 j)) w := by
  intro ρ hρ d pos af g
  subst hq
  simp [execOp, Instr.sliceAt, Instr.slice, Instr.sliceBounds, run_sliceBound hj, hρ _ _ hx, hρ _ _ hh, run_underlying hU]
end
end Go.Proofs.YtjomihhpglojpaaDoor
end
section
/- What may be quoted, and what Unquote answers: plain laws. -/
namespace Go.Proofs.YtjomihhpglojpaaDoor
open Go.RowKit

theorem ill_iff {s : ByteArray} {i : Nat} : ((Utf8.decode s i).1 = 65533 ∧ (Utf8.decode s i).2 = 1) ↔ illB s i = true := by
  by_cases h : (Utf8.decode s i).1 = 65533
  · obtain ⟨h1, h2⟩ := wide_ill h
    rw [h1, h2]
    cases fffd s i <;> simp [h]
  · rw [ill_no h]; simp [h]
theorem valid_from (s : ByteArray) : ∀ (m k : Nat), s.size - (uSt s k).1 ≤ m → (Lib.validD (s.data.toList.drop (uSt s k).1) = true ↔ ∀ j, k ≤ j → (uSt s j).1 < s.size → illB s (uSt s j).1 = false) := by
  intro m
  induction m with
  | zero =>
    intro k hm
    have hd : s.data.toList.drop (uSt s k).1 = [] := List.drop_eq_nil_of_le (by show s.data.toList.length ≤ _; rw [Array.length_toList]; show s.size ≤ _; omega)
    rw [hd]
    refine ⟨fun _ j hj hlt => ?_, fun _ => rfl⟩
    have := uMono s k (j - k)
    rw [Nat.add_sub_cancel' hj] at this
    omega
  | succ m ih =>
    intro k hm
    by_cases hlt : (uSt s k).1 < s.size
    · have hne : s.data.toList.drop (uSt s k).1 ≠ [] := by
        intro e
        have := congrArg List.length e
        simp only [List.length_drop, Array.length_toList, List.length_nil] at this
        have e2 : s.data.size = s.size := rfl
        omega
      rw [Lib.validD_step _ hne, Lib.decodeL_drop, List.drop_drop, ← uSt_fst]
      have hstep := uSt_lt s k hlt
      have ihk := ih (k + 1) (by omega)
      by_cases hb : illB s (uSt s k).1 = true
      · rw [if_pos (ill_iff.2 hb)]
        constructor
        · intro h; cases h
        · intro h; have := h k (Nat.le_refl _) hlt; rw [hb] at this; cases this
      · rw [if_neg (fun h => hb (ill_iff.1 h)), ihk]
        constructor
        · intro h j hj hl
          by_cases e : j = k
          · subst e; exact Bool.eq_false_iff.2 hb
          · exact h j (by omega) hl
        · intro h j hj hl; exact h j (by omega) hl
    · have hd : s.data.toList.drop (uSt s k).1 = [] := List.drop_eq_nil_of_le (by rw [Array.length_toList]; show s.size ≤ _; omega)
      rw [hd]
      refine ⟨fun _ j hj hl => ?_, fun _ => rfl⟩
      have := uMono s k (j - k)
      rw [Nat.add_sub_cancel' hj] at this
      omega
/-- A text without bytes that are no rune. -/
theorem valid_iff (s : ByteArray) : Lib.validD s.data.toList = true ↔ ∀ j, (uSt s j).1 < s.size → illB s (uSt s j).1 = false := by
  have := valid_from s s.size 0 (by omega)
  rw [show (uSt s 0).1 = 0 from rfl, List.drop_zero] at this
  rw [this]
  exact ⟨fun h j hl => h j (Nat.zero_le _) hl, fun h j _ hl => h j hl⟩
/-- Every unit may be in a text that is quoted. -/
def AllOk (s : ByteArray) : Prop := ∀ k, (uSt s k).1 < s.size → illB s (uSt s k).1 = false ∧ ctl (uR s k) = false
def MayR (s : ByteArray) (n : Int) : Prop := (1024 < s.size ∧ n = 5) ∨ (s.size ≤ 1024 ∧ ((AllOk s ∧ n = 0) ∨ (¬ AllOk s ∧ n = 6)))
theorem may_one {s : ByteArray} {m n : Int} (h : MayR s m) (k : MayR s n) : m = n := by
  rcases h with ⟨h1, h2⟩ | ⟨h1, ⟨h2, h3⟩ | ⟨h2, h3⟩⟩ <;> rcases k with ⟨k1, k2⟩ | ⟨k1, ⟨k2, k3⟩ | ⟨k2, k3⟩⟩ <;> first | omega | exact absurd h2 k2 | exact absurd k2 h2
/-- The walk over what is quoted: the byte, and what was read. -/
def sc (s : ByteArray) : Nat → Nat × List UInt8
  | 0 => (1, [])
  | k + 1 => if (s.get! (sc s k).1).toNat = 92 then ((sc s k).1 + 2, (sc s k).2 ++ [s.get! ((sc s k).1 + 1)]) else ((sc s k).1 + 1, (sc s k).2 ++ [s.get! (sc s k).1])
def goP (s : ByteArray) (i : Nat) : Prop := i < s.size ∧ (s.get! i).toNat ≠ 34 ∧ ((s.get! i).toNat = 92 → i + 1 < s.size ∧ ((s.get! (i + 1)).toNat = 34 ∨ (s.get! (i + 1)).toNat = 92))
def FinR (s : ByteArray) (i : Nat) (l : List UInt8) (n : Int) (t : ByteArray) : Prop :=
  (s.size ≤ i ∧ n = 2 ∧ t = ⟨#[]⟩) ∨ (i < s.size ∧ (s.get! i).toNat = 34 ∧ i + 1 < s.size ∧ n = 3 ∧ t = ⟨#[]⟩) ∨
  (i < s.size ∧ (s.get! i).toNat = 34 ∧ s.size ≤ i + 1 ∧ MayR ⟨l.toArray⟩ n ∧ ((n = 0 ∧ t = ⟨l.toArray⟩) ∨ (n ≠ 0 ∧ t = ⟨#[]⟩))) ∨ (i < s.size ∧ (s.get! i).toNat = 92 ∧ n = 4 ∧ t = ⟨#[]⟩)
def UnqR (s : ByteArray) (n : Int) (t : ByteArray) : Prop :=
  (s.size < 2 ∧ n = 2 ∧ t = ⟨#[]⟩) ∨ (2 ≤ s.size ∧ (s.get! 0).toNat ≠ 34 ∧ n = 4 ∧ t = ⟨#[]⟩) ∨
  (2 ≤ s.size ∧ (s.get! 0).toNat = 34 ∧ ∃ k, (∀ j, j < k → goP s (sc s j).1) ∧ ¬ goP s (sc s k).1 ∧ FinR s (sc s k).1 (sc s k).2 n t)
theorem fin_one {s : ByteArray} {i : Nat} {l : List UInt8} {m n : Int} {t u : ByteArray} (h : FinR s i l m t) (k : FinR s i l n u) : m = n ∧ t = u := by
  rcases h with ⟨h1, h2, h3⟩ | ⟨h0, h1, h2, h3, h4⟩ | ⟨h0, h1, h2, h3, h4⟩ | ⟨h0, h1, h2, h3⟩ <;> rcases k with ⟨k1, k2, k3⟩ | ⟨k0, k1, k2, k3, k4⟩ | ⟨k0, k1, k2, k3, k4⟩ | ⟨k0, k1, k2, k3⟩ <;> first
    | (exfalso; omega)
    | exact ⟨by omega, by simp [*]⟩
    | skip
  have e := may_one h3 k3
  subst e
  refine ⟨rfl, ?_⟩
  rcases h4 with ⟨a, b⟩ | ⟨a, b⟩ <;> rcases k4 with ⟨c, d⟩ | ⟨c, d⟩ <;> first | exact absurd a c | exact absurd c a | rw [b, d]
theorem unq_one {s : ByteArray} {m n : Int} {t u : ByteArray} (h : UnqR s m t) (k : UnqR s n u) : m = n ∧ t = u := by
  rcases h with ⟨h1, h2, h3⟩ | ⟨h1, h2, h3, h4⟩ | ⟨h1, h2, a, h3, h4, h5⟩ <;> rcases k with ⟨k1, k2, k3⟩ | ⟨k1, k2, k3, k4⟩ | ⟨k1, k2, b, k3, k4, k5⟩ <;> first
    | (exfalso; omega)
    | exact ⟨by omega, by simp [*]⟩
    | skip
  have e : a = b := by
    rcases Nat.lt_trichotomy a b with h | h | h
    · exact absurd (k3 a h) h4
    · exact h
    · exact absurd (h3 b h) k4
  subst e
  exact fin_one h5 k5
theorem sc_bnd (s : ByteArray) : ∀ k, (∀ j, j < k → goP s (sc s j).1) → 1 ≤ s.size → k + 1 ≤ (sc s k).1 ∧ (sc s k).1 ≤ s.size ∧ (sc s k).2.length = k
  | 0, _, h => ⟨Nat.le_refl _, h, rfl⟩
  | k + 1, h, h1 => by
    obtain ⟨a, b, c⟩ := sc_bnd s k (fun j hj => h j (by omega)) h1
    obtain ⟨g1, g2, g3⟩ := h k (by omega)
    by_cases e : (s.get! (sc s k).1).toNat = 92
    · have := (g3 e).1
      simp only [sc, if_pos e]
      exact ⟨by omega, by omega, by simp [c]⟩
    · simp only [sc, if_neg e]
      exact ⟨by omega, by omega, by simp [c]⟩
/-- The bytes of a row of the call's own, as a text. -/
theorem d_convOwn {P : Program} {w : World} {l : List (Nat × Value)} {x : Operand} {src dst e ty : TypeId} {base : Nat} {ao : Option Addr} {cap n : Nat} (bs : List UInt8) (hs : P.underlying src = some (.slice e)) (he : P.underlying e = some (.int .u8)) (hd : P.underlying dst = some .string)
    (hown : w.ownsRow base e 1 (.slice ao n cap) n (Lib.byteCells bs)) (hn : bs.length = n) (hx : Ev l x (.slice ao n cap) := by exact rfl) : Does P l w (.convert src dst x) ty (.string ⟨bs.toArray⟩) w := by
  intro ρ hρ d pos af g
  subst hn
  have key : (convert src dst (.slice ao bs.length cap)).run P w = .ok (.string ⟨bs.toArray⟩) w := by
    rcases hown.2 with ⟨h0, _⟩ | ⟨g', cap', cur, h0, _⟩
    · injection h0 with h1 h2 h3
      have hnil : bs = [] := List.length_eq_zero_iff.1 h2
      subst hnil
      rw [h1]
      exact run_convert_bytes_nil w src e hs he _ _ dst hd
    · cases h0
      exact run_convert_bytes_back w src dst e ⟨g', 0, none⟩ cap bs hs he hd (fun j hj => by
        have hj' : j < (Lib.byteCells bs).length := by rw [Lib.byteCells_length]; exact hj
        have := own_cells hown hj'
        rw [addr_add, this]
        simp [Lib.byteCells])
  simp [execOp, hρ _ _ hx, key]
theorem goP_no {s : ByteArray} {i : Nat} (h : ¬ goP s i) (hi : i < s.size) (hq : ¬ (s.get! i).toNat = 34) : (s.get! i).toNat = 92 ∧ ¬ (i + 1 < s.size ∧ ((s.get! (i + 1)).toNat = 34 ∨ (s.get! (i + 1)).toNat = 92)) := by
  by_cases e : (s.get! i).toNat = 92
  · exact ⟨e, fun h2 => h ⟨hi, hq, fun _ => h2⟩⟩
  · exact absurd ⟨hi, hq, fun h2 => absurd h2 e⟩ h
theorem sc_bs {s : ByteArray} {k : Nat} (h : (s.get! (sc s k).1).toNat = 92) : (sc s (k + 1)).1 = (sc s k).1 + 2 ∧ Lib.byteCells (sc s (k + 1)).2 = Lib.byteCells (sc s k).2 ++ [.int .u8 (s.get! ((sc s k).1 + 1)).toNat] := by
  simp only [sc, if_pos h]
  exact ⟨trivial, by simp [Lib.byteCells]⟩
theorem sc_pl {s : ByteArray} {k : Nat} (h : ¬ (s.get! (sc s k).1).toNat = 92) : (sc s (k + 1)).1 = (sc s k).1 + 1 ∧ Lib.byteCells (sc s (k + 1)).2 = Lib.byteCells (sc s k).2 ++ [.int .u8 (s.get! (sc s k).1).toNat] := by
  simp only [sc, if_neg h]
  exact ⟨trivial, by simp [Lib.byteCells]⟩
end Go.Proofs.YtjomihhpglojpaaDoor
end
section
/- strings.ContainsFunc at check.text's function: walked. -/
namespace Go.Proofs.YtjomihhpglojpaaDoor
open Go.RowKit
set_option linter.unusedSimpArgs false
set_option linter.unusedVariables false
attribute [local irreducible] wpList wpQuiet wpStill Code.wp Exit.then Exit.inBlock bodyPost Calls Does Does0

theorem text1_ok (w : World) (r : Int) : Ret Tryd.prog 77 #[.int .i32 r] w (fun v w' => v = .bool (ctl r) ∧ w' = w) := by
  refine enter1 Tryd.func77 rfl 8 rfl 9 rfl (fun a hF => ?_)
  unfold ctl
  by_cases h1 : r < 32
  · repeat (first | refine c_seq ?_ | refine c_region _ ?_ | refine wpList_nil ?_ | refine c_then ?_ | refine wp_ret ?_ | ((apply st hF); (first | exact d_move | exact d_assign | exact d_pickT | exact d_cmpT); clear hF; clear a; intro a hF) | ((apply stm hF); clear hF; clear a; intro a hF))
    exact ret1 hF rfl rfl ⟨by rw [decide_eq_true (.inl h1)], rfl⟩
  · by_cases h2 : r = 127
    · repeat (first | refine c_seq ?_ | refine c_region _ ?_ | refine wpList_nil ?_ | refine c_then ?_ | refine wp_ret ?_ | ((first | apply st hF | apply stg hF); (first | exact d_move | exact d_assign | exact d_pickF | exact d_cmpT | exact d_cmpF); clear hF; clear a; intro a hF))
      exact ret1 hF rfl rfl ⟨by rw [decide_eq_true (.inr h2)], rfl⟩
    · repeat (first | refine c_seq ?_ | refine c_region _ ?_ | refine wpList_nil ?_ | refine c_then ?_ | refine wp_ret ?_ | ((first | apply st hF | apply stg hF); (first | exact d_move | exact d_assign | exact d_pickF | exact d_cmpF); clear hF; clear a; intro a hF))
      exact ret1 hF rfl rfl ⟨by rw [decide_eq_false (by omega)], rfl⟩
set_option maxHeartbeats 4000000 in
theorem idx_ok (w : World) (s : ByteArray) : Ret Tryd.prog 114 #[.string s, .func (.func 77) #[] #[], .bool true] w (fun v w' => (∃ p : Int, v = .int .i64 p ∧ ((0 ≤ p ∧ ∃ k, (uSt s k).1 < s.size ∧ ctl (uR s k) = true) ∨ (p = -1 ∧ ∀ k, (uSt s k).1 < s.size → ctl (uR s k) = false))) ∧ Below w.heap.size w w') := by
  refine enter3 Tryd.func114 rfl 18 rfl 21 rfl (fun a hF => ?_)
  repeat (first | refine c_seq ?_ | refine c_region _ ?_ | refine wpList_nil ?_ | refine c_then ?_ | ((apply st hF); (first | exact d_move | exact d_assign); clear hF; clear a; intro a hF))
  refine st_range hF (und _ _ rfl) (k := fun a w1 hit hgr1 hsz1 hF => ?_)
  have hb1 : Below w.heap.size w w1 := (Below.refl _ w).grown hgr1 (Nat.le_refl _) (fun k hk => by cases hk)
  repeat (first | refine c_block ?_ | refine wpList_nil ?_ | refine c_then ?_)
  refine c_loop (fun q a wr => ∃ k : Nat, (∀ j, j < k → (uSt s j).1 < s.size ∧ ctl (uR s j) = false) ∧ q = s.size - (uSt s k).1 ∧ Fr 21 [(0, .string s), (1, .func (.func 77) #[] #[]), (2, .bool true), (10, .pointer (some ⟨w.heap.size, 0, none⟩))] a ∧ IterAt wr w.heap.size s (uSt s k).1 ∧ Below w.heap.size w wr) s.size
    ⟨0, fun j hj => absurd hj (Nat.not_lt_zero _), rfl, hF.keep' ⟨rfl, rfl, rfl, rfl, trivial⟩, hit, hb1⟩ ?_
  clear hF a hit hb1
  rintro q a wr ⟨k, hpre, rfl, hF, hit, hbel⟩
  have hsz := hbel.size
  by_cases hlt : (uSt s k).1 < s.size
  · have hstep := uSt_fst s k
    have hlt2 := uSt_lt s k hlt
    repeat (first | refine c_seq ?_ | refine c_region _ ?_)
    refine st_next hF hit hlt (k := fun a w2 hit2 hgr2 hsz2 hF => ?_)
    rw [← hstep] at hit2
    have hbel2 : Below w.heap.size w w2 := hbel.grown hgr2 hsz (fun k hk => by cases hk; exact Nat.le_refl _)
    repeat (first | refine c_seq ?_ | refine c_block ?_ | refine c_region _ ?_ | refine wpList_nil ?_ | refine c_then ?_ | refine wp_skip ?_ | ((apply st hF); (first | exact d_move | exact d_assign | exact d_extract); clear hF; clear a; intro a hF) | (apply c_cond_t hF; exact rfl; first | exact rfl | assumption))
    refine stcv hF (cs := []) (vs := [.int .i32 (uR s k)]) (text1_ok w2 (uR s k)) cal77 ⟨rfl, trivial⟩ (k := fun a v w3 hR hF => ?_)
    obtain ⟨rfl, rfl⟩ := hR
    cases hc : ctl (uR s k) with
    | true =>
      rw [hc] at hF
      repeat (first | refine c_seq ?_ | refine c_region _ ?_ | refine wpList_nil ?_ | refine c_then ?_ | refine c_then_ret ?_ | refine c_in_ret ?_ | refine wp_ret ?_ | ((apply st hF); (first | exact d_move | exact d_assign | exact d_eqbT (und _ _ rfl)); clear hF; clear a; intro a hF) | (apply c_cond_t hF; exact rfl; first | exact rfl | assumption))
      exact ret1 hF rfl rfl ⟨⟨_, rfl, .inl ⟨Int.natCast_nonneg _, k, hlt, hc⟩⟩, hbel2⟩
    | false =>
      rw [hc] at hF
      repeat (first | refine wpList_nil ?_ | refine c_then ?_ | refine c_in ?_ | refine wp_skip ?_ | ((apply st hF); (first | exact d_move | exact d_eqbF (und _ _ rfl)); clear hF; clear a; intro a hF) | (apply c_cond_f hF; exact rfl; first | exact rfl | assumption))
      exact ⟨s.size - (uSt s (k + 1)).1, by omega, k + 1, fun j hj => by
        by_cases e : j = k
        · subst e; exact ⟨hlt, hc⟩
        · exact hpre j (by omega), rfl, hF.keep' ⟨rfl, rfl, rfl, rfl, trivial⟩, hit2, hbel2⟩
  · repeat (first | refine c_seq ?_ | refine c_region _ ?_)
    refine st_nextE hF hit hlt (k := fun a hF => ?_)
    repeat (first | refine c_seq ?_ | refine c_region _ ?_ | refine wpList_nil ?_ | refine c_then ?_ | refine c_then_exit ?_ | refine c_in_hit ?_ | refine wp_exit ?_ | refine wp_ret ?_ | ((apply st hF); (first | exact d_assign | exact d_extract); clear hF; clear a; intro a hF) | (apply c_cond_f hF; exact rfl; first | exact rfl | assumption))
    exact ret1 hF rfl rfl ⟨⟨_, rfl, .inr ⟨rfl, fun j hj => (hpre j (uEnd hlt hj)).2⟩⟩, hbel⟩
theorem idxF_ok (w : World) (s : ByteArray) : Ret Tryd.prog 99 #[.string s, .func (.func 77) #[] #[]] w (fun v w' => (∃ p : Int, v = .int .i64 p ∧ ((0 ≤ p ∧ ∃ k, (uSt s k).1 < s.size ∧ ctl (uR s k) = true) ∨ (p = -1 ∧ ∀ k, (uSt s k).1 < s.size → ctl (uR s k) = false))) ∧ Below w.heap.size w w') := by
  refine enter2 Tryd.func99 rfl 6 rfl 8 rfl (fun a hF => ?_)
  repeat (first | refine c_seq ?_ | refine c_region _ ?_ | refine wpList_nil ?_ | refine c_then ?_ | ((apply st hF); (first | exact d_move | exact d_assign); clear hF; clear a; intro a hF))
  refine stc hF (idx_ok w s) cal114 ⟨rfl, rfl, rfl, trivial⟩ (k := fun a v w1 hR hF => ?_)
  obtain ⟨⟨p, rfl, hp⟩, hb⟩ := hR
  repeat (first | refine wpList_nil ?_ | refine c_then ?_ | refine wp_ret ?_ | ((apply st hF); (exact d_assign); clear hF; clear a; intro a hF))
  exact ret1 hF rfl rfl ⟨⟨_, rfl, hp⟩, hb⟩
theorem contF_ok (w : World) (s : ByteArray) : Ret Tryd.prog 76 #[.string s, .func (.func 77) #[] #[]] w (fun v w' => (∃ b, v = .bool b ∧ (b = true → ∃ k, (uSt s k).1 < s.size ∧ ctl (uR s k) = true) ∧ (b = false → ∀ k, (uSt s k).1 < s.size → ctl (uR s k) = false)) ∧ Below w.heap.size w w') := by
  refine enter2 Tryd.func76 rfl 7 rfl 9 rfl (fun a hF => ?_)
  repeat (first | refine c_seq ?_ | refine c_region _ ?_ | refine wpList_nil ?_ | refine c_then ?_ | ((apply st hF); (first | exact d_move | exact d_assign); clear hF; clear a; intro a hF))
  refine stc hF (idxF_ok w s) cal99 ⟨rfl, rfl, trivial⟩ (k := fun a v w1 hR hF => ?_)
  obtain ⟨⟨p, rfl, hp⟩, hb⟩ := hR
  rcases hp with ⟨h0, hk⟩ | ⟨rfl, hk⟩
  · repeat (first | refine wpList_nil ?_ | refine c_then ?_ | refine wp_ret ?_ | ((apply st hF); (first | exact d_assign | exact d_cmpT); clear hF; clear a; intro a hF))
    exact ret1 hF rfl rfl ⟨⟨true, rfl, fun _ => hk, fun h => by cases h⟩, hb⟩
  · repeat (first | refine wpList_nil ?_ | refine c_then ?_ | refine wp_ret ?_ | ((apply st hF); (first | exact d_assign | exact d_cmpF); clear hF; clear a; intro a hF))
    exact ret1 hF rfl rfl ⟨⟨false, rfl, fun h => (by cases h), fun _ => hk⟩, hb⟩

end Go.Proofs.YtjomihhpglojpaaDoor
end
section
/- utf8.ValidString at this program. -/
namespace Go.Proofs.YtjomihhpglojpaaDoor
open Go.RowKit
set_option linter.unusedSimpArgs false
set_option linter.unusedVariables false
attribute [local irreducible] wpList wpQuiet wpStill Code.wp Exit.then Exit.inBlock bodyPost Calls Does Does0
theorem valid_ok (w : World) (s : ByteArray) (hs : s.size ≤ 16777216) (hT : Tabs w) : Ret Tryd.prog 75 #[.string s] w (fun v w' => v = .bool (Lib.validD s.data.toList) ∧ Below w.heap.size w w') :=
  Calls.mono (Tryd.utf8_ValidString s w (by omega) hT) (by rintro e w' ⟨rfl, hb⟩; exact ⟨_, rfl, rfl, hb⟩)
end Go.Proofs.YtjomihhpglojpaaDoor
end
section
/- check.text, walked. -/
namespace Go.Proofs.YtjomihhpglojpaaDoor
open Go.RowKit
set_option linter.unusedSimpArgs false
set_option linter.unusedVariables false
attribute [local irreducible] wpList wpQuiet wpStill Code.wp Exit.then Exit.inBlock bodyPost Calls Does Does0
theorem text_ok (w : World) (s : ByteArray) (hT : Tabs w) : Ret Tryd.prog 48 [.string s].toArray w (fun v w' => (∃ n, MayR s n ∧ v = .int .i64 n) ∧ Below w.heap.size w w') := by
  refine enter1 Tryd.func48 rfl 14 rfl 15 rfl (fun a hF => ?_)
  by_cases hbig : (s.size : Int) > 1024
  · repeat (first | refine c_seq ?_ | refine c_block ?_ | refine c_region _ ?_ | refine wpList_nil ?_ | refine c_then ?_ | refine c_then_ret ?_ | refine c_in_ret ?_ | refine wp_ret ?_ | ((apply st hF); (first | exact d_move | exact d_assign | exact d_cmpT | exact d_lens (und _ _ rfl)); clear hF; clear a; intro a hF) | (apply c_cond_t hF; exact rfl; first | exact rfl | assumption))
    exact ret1 hF rfl rfl ⟨⟨5, .inl ⟨by omega, rfl⟩, rfl⟩, Below.refl _ w⟩
  repeat (first | refine c_seq ?_ | refine c_block ?_ | refine c_region _ ?_ | refine wpList_nil ?_ | refine c_then ?_ | ((apply st hF); (first | exact d_move | exact d_assign | exact d_cmpF | exact d_lens (und _ _ rfl)); clear hF; clear a; intro a hF) | (apply c_cond_f hF; exact rfl; first | exact rfl | assumption))
  refine stc hF (valid_ok w s (by omega) hT) cal75 ⟨rfl, trivial⟩ (k := fun a v w1 hR hF => ?_)
  obtain ⟨rfl, hb1⟩ := hR
  cases hv : Lib.validD s.data.toList with
  | false =>
    rw [hv] at hF
    repeat (first | refine c_seq ?_ | refine c_region _ ?_ | refine wpList_nil ?_ | refine c_then ?_ | refine c_then_ret ?_ | refine c_in_ret ?_ | refine wp_ret ?_ | ((apply st hF); (first | exact d_move | exact d_assign | exact d_not | exact d_pickT); clear hF; clear a; intro a hF) | ((apply stm hF); clear hF; clear a; intro a hF) | (apply c_cond_t hF; exact rfl; first | exact rfl | assumption))
    have hno : ¬ AllOk s := fun h => by
      have := (valid_iff s).2 (fun j hj => (h j hj).1)
      rw [hv] at this; cases this
    exact ret1 hF rfl rfl ⟨⟨6, .inr ⟨by omega, .inr ⟨hno, rfl⟩⟩, rfl⟩, hb1⟩
  | true =>
    rw [hv] at hF
    repeat (((first | apply st hF | apply stg hF); (first | exact d_move | exact d_not); clear hF; clear a; intro a hF))
    refine stcg hF (contF_ok w1 s) cal76 ⟨rfl, rfl, trivial⟩ (k := fun a v w2 hR hF => ?_)
    obtain ⟨⟨b, rfl, h1, h2⟩, hb2⟩ := hR
    have hb := hb1.trans (hb2.mono hb1.size)
    cases b with
    | true =>
      repeat (first | refine c_seq ?_ | refine c_region _ ?_ | refine wpList_nil ?_ | refine c_then ?_ | refine c_then_ret ?_ | refine c_in_ret ?_ | refine wp_ret ?_ | ((apply st hF); (first | exact d_assign | exact d_pickF); clear hF; clear a; intro a hF) | (apply c_cond_t hF; exact rfl; first | exact rfl | assumption))
      have hno : ¬ AllOk s := fun h => by
        obtain ⟨k, hk, hc⟩ := h1 rfl
        have := (h k hk).2
        rw [hc] at this; cases this
      exact ret1 hF rfl rfl ⟨⟨6, .inr ⟨by omega, .inr ⟨hno, rfl⟩⟩, rfl⟩, hb⟩
    | false =>
      repeat (first | refine c_seq ?_ | refine c_region _ ?_ | refine wpList_nil ?_ | refine c_then ?_ | refine c_in ?_ | refine wp_skip ?_ | refine wp_ret ?_ | ((apply st hF); (first | exact d_assign | exact d_pickF); clear hF; clear a; intro a hF) | (apply c_cond_f hF; exact rfl; first | exact rfl | assumption))
      exact ret1 hF rfl rfl ⟨⟨0, .inr ⟨by omega, .inl ⟨fun k hk => ⟨(valid_iff s).1 hv k hk, h2 rfl k hk⟩, rfl⟩⟩, rfl⟩, hb⟩
end Go.Proofs.YtjomihhpglojpaaDoor
end
section
/- Names: what the program's Name and the reference's compute. -/
namespace Go.Proofs.YtjomihhpglojpaaDoor
open Go.RowKit
set_option linter.unusedSimpArgs false
set_option linter.unusedVariables false
attribute [local irreducible] wpList wpQuiet wpStill Code.wp Exit.then Exit.inBlock bodyPost Calls Does Does0

namespace Pl
/-- May a unit begin a name? -/
def letter (r : Int) : Bool := decide ((97 ≤ r ∧ r ≤ 122) ∨ (65 ≤ r ∧ r ≤ 90) ∨ r = 95)
/-- May it stand there? -/
def okAt (first : Bool) (r : Int) : Bool := letter r || (!first && decide (48 ≤ r ∧ r ≤ 57))
def okName (s : ByteArray) : Prop := ∀ j (h : j < s.size), okAt (decide (j = 0)) (s[j].toNat : Int) = true
instance (s : ByteArray) : Decidable (okName s) := by unfold okName; infer_instance
def name (s : ByteArray) : Bool := decide (1 ≤ s.size ∧ s.size ≤ 64 ∧ okName s)
theorem name_false {s : ByteArray} (j : Nat) (h : j < s.size) (hb : okAt (decide (j = 0)) (s[j].toNat : Int) = false) : name s = false := by
  unfold name
  refine decide_eq_false fun x => ?_
  have := x.2.2 j h
  rw [hb] at this
  cases this
end Pl

set_option maxHeartbeats 2000000 in
theorem letter_ok (w : World) (r : Int) : Ret Tryd.prog 100 #[.int .i32 r] w (fun v w' => v = .bool (Pl.letter r) ∧ w' = w) := by
  refine enter1 Tryd.func100 rfl 20 rfl 21 rfl (fun a hF => ?_)
  repeat' (first | refine ret1 hF rfl rfl ⟨by unfold Pl.letter; first | rw [decide_eq_true (by omega)] | rw [decide_eq_false (by omega)], rfl⟩ | refine c_seq ?_ | refine c_region _ ?_ | refine wpList_nil ?_ | refine c_then ?_ | refine wp_ret ?_ | ((first | apply st hF | apply stg hF); (first | exact d_move | exact d_assign | exact d_pickT | exact d_pickF | exact d_cmpT | exact d_cmpF); clear hF; clear a; intro a hF) | ((first | apply stm hF | apply stu hF); clear hF; clear a; intro a hF) | ((first | refine st_split hF (kT := ?_) (kF := ?_) | refine stg_split hF (kT := ?_) (kF := ?_)) <;> (intro hsp; simp only [decide_eq_true_eq, decide_eq_false_iff_not, beq_iff_eq, beq_eq_false_iff_ne, bne_iff_ne, ne_eq, bne_eq_false_iff_eq] at hsp; clear hF; clear a; intro a hF)))

set_option maxHeartbeats 2000000 in
theorem name_ok (w : World) (s : ByteArray) : Ret Tryd.prog 78 #[.string s] w (fun v w' => v = .bool (Pl.name s) ∧ Below w.heap.size w w') := by
  refine enter1 Tryd.func78 rfl 32 rfl 33 rfl (fun a hF => ?_)
  repeat (first | refine c_seq ?_ | refine c_region _ ?_ | refine wpList_nil ?_ | refine c_then ?_ | ((apply st hF); (first | exact d_move | exact d_assign); clear hF; clear a; intro a hF))
  refine st_range hF (und _ _ rfl) (k := fun a w1 hit hgr hsz1 hF => ?_)
  have hb1 : Below w.heap.size w w1 := (Below.refl _ w).grown hgr (Nat.le_refl _) (fun k hk => by cases hk)
  obtain ⟨r, hr⟩ : ∃ r, r = w.heap.size := ⟨_, rfl⟩
  rw [← hr] at hit hF
  repeat (first | refine c_block ?_ | refine wpList_nil ?_ | refine c_then ?_)
  refine c_loop (fun n a wr => ∃ k, k ≤ s.size ∧ n = s.size - k ∧ Fr 33 [(0, .string s), (6, .pointer (some ⟨r, 0, none⟩))] a ∧ IterAt wr r s k ∧
    (∀ j (h : j < s.size), j < k → Pl.okAt (decide (j = 0)) (s[j].toNat : Int) = true) ∧ Below w.heap.size w wr) s.size
    ⟨0, by omega, rfl, hF.keep' ⟨rfl, rfl, trivial⟩, hit, fun j _ h => absurd h (Nat.not_lt_zero _), hb1⟩ ?_
  clear hF a hit hb1 hgr hsz1 w1
  rintro n a wr ⟨k, hk, rfl, hF, hit, hok, hbel⟩
  by_cases hlt : k < s.size
  · repeat (first | refine c_seq ?_ | refine c_region _ ?_)
    refine st_next hF hit hlt (k := fun a w2 hit2 hgr2 hsz2 hF => ?_)
    have hb2 : Below w.heap.size w w2 := hbel.grown hgr2 hbel.size (fun k hk => by cases hk; omega)
    repeat (first | refine c_seq ?_ | refine c_block ?_ | refine c_region _ ?_ | refine wpList_nil ?_ | refine c_then ?_ | refine wp_skip ?_ | ((apply st hF); (first | exact d_move | exact d_assign | exact d_extract); clear hF; clear a; intro a hF) | (apply c_cond_t hF; exact rfl; first | exact rfl | assumption))
    refine stc hF (letter_ok w2 _) cal100 ⟨rfl, trivial⟩ (k := fun a v w3 hR hF => ?_)
    obtain ⟨rfl, rfl⟩ := hR
    by_cases ha : (s[k]'hlt).toNat < 128
    · rw [decode_ascii s k hlt ha] at hF hit2
      simp only at hF hit2
      generalize hc : ((s[k]'hlt).toNat : Int) = c at hF
      cases hL : Pl.letter c with
      | true =>
        rw [hL] at hF
        repeat (first | refine wpList_nil ?_ | refine c_then ?_ | refine c_in ?_ | refine wp_skip ?_ | ((apply st hF); (first | exact d_move | exact d_not | exact d_pickF); clear hF; clear a; intro a hF) | ((first | apply stm hF | apply stu hF); clear hF; clear a; intro a hF) | (apply c_cond_f hF; exact rfl; first | exact rfl | assumption))
        refine ⟨s.size - (k + 1), by omega, k + 1, by omega, rfl, hF.keep' ⟨rfl, rfl, trivial⟩, hit2, fun j hj hjk => ?_, hb2⟩
        by_cases e : j = k
        · subst e; rw [hc]; unfold Pl.okAt; rw [hL]; rfl
        · exact hok j hj (by omega)
      | false =>
        rw [hL] at hF
        by_cases hgood : k ≠ 0 ∧ 48 ≤ c ∧ c ≤ 57
        · repeat (first | refine wpList_nil ?_ | refine c_then ?_ | refine c_in ?_ | refine wp_skip ?_ | ((first | apply st hF | apply stg hF); (first | exact d_move | exact d_not | exact d_pickT | exact d_pickF | exact d_cmpF); clear hF; clear a; intro a hF) | (apply c_cond_f hF; exact rfl; first | exact rfl | assumption))
          refine ⟨s.size - (k + 1), by omega, k + 1, by omega, rfl, hF.keep' ⟨rfl, rfl, trivial⟩, hit2, fun j hj hjk => ?_, hb2⟩
          by_cases e : j = k
          · subst e; rw [hc]; unfold Pl.okAt; rw [hL, decide_eq_false hgood.1, decide_eq_true hgood.2]; rfl
          · exact hok j hj (by omega)
        · have hbad : Pl.name s = false := by
            refine Pl.name_false k hlt ?_
            rw [hc]; unfold Pl.okAt; rw [hL]
            by_cases e : k = 0
            · subst e; rfl
            · rw [decide_eq_false e, decide_eq_false (fun x => hgood ⟨e, x⟩)]; rfl
          repeat' (first | refine ret1 hF rfl rfl ⟨by rw [hbad], hb2⟩ | refine c_seq ?_ | refine c_region _ ?_ | refine wpList_nil ?_ | refine c_then ?_ | refine c_then_ret ?_ | refine c_in_ret ?_ | refine wp_ret ?_ | ((first | apply st hF | apply stg hF); (first | exact d_move | exact d_assign | exact d_not | exact d_pickT | exact d_pickF | exact d_cmpT); clear hF; clear a; intro a hF) | ((apply stm hF); clear hF; clear a; intro a hF) | (apply c_cond_t hF; exact rfl; first | exact rfl | assumption) | ((refine stg_split hF (kT := ?_) (kF := ?_)) <;> (intro hsp; simp only [decide_eq_true_eq, decide_eq_false_iff_not, beq_iff_eq, beq_eq_false_iff_ne, bne_iff_ne, ne_eq, bne_eq_false_iff_eq] at hsp; clear hF; clear a; intro a hF)))
    · have hh := decode_high s k hlt (by omega)
      have hnl : Pl.letter ((Utf8.decode s k).1 : Int) = false := by unfold Pl.letter; exact decide_eq_false (by omega)
      rw [hnl] at hF
      have hbad : Pl.name s = false := by
        refine Pl.name_false k hlt ?_
        unfold Pl.okAt Pl.letter
        rw [decide_eq_false (by omega), decide_eq_false (show ¬ (48 ≤ (s[k].toNat : Int) ∧ (s[k].toNat : Int) ≤ 57) by omega)]
        simp
      by_cases hk0 : k = 0
      all_goals
        repeat (first | refine c_seq ?_ | refine c_region _ ?_ | refine wpList_nil ?_ | refine c_then ?_ | refine c_then_ret ?_ | refine c_in_ret ?_ | refine wp_ret ?_ | ((first | apply st hF | apply stg hF); (first | exact d_move | exact d_assign | exact d_not | exact d_pickT | exact d_pickF | exact d_cmpT | exact d_cmpF); clear hF; clear a; intro a hF) | ((apply stm hF); clear hF; clear a; intro a hF) | (apply c_cond_t hF; exact rfl; first | exact rfl | assumption))
        exact ret1 hF rfl rfl ⟨by rw [hbad], hb2⟩
  · obtain rfl : k = s.size := by omega
    repeat (first | refine c_seq ?_ | refine c_region _ ?_)
    refine st_nextE hF hit hlt (k := fun a hF => ?_)
    have hn : Pl.name s = decide (1 ≤ s.size ∧ s.size ≤ 64) := by
      unfold Pl.name
      have : Pl.okName s := fun j h => hok j h h
      simp [this]
    by_cases h0 : s = ⟨#[]⟩
    · have hq : (!decide (s = ⟨#[]⟩)) = false := by rw [decide_eq_true h0]; rfl
      repeat (first | refine c_seq ?_ | refine c_region _ ?_ | refine wpList_nil ?_ | refine c_then ?_ | refine c_then_exit ?_ | refine c_in_hit ?_ | refine wp_exit ?_ | refine wp_ret ?_ | ((apply st hF); (first | exact d_move | exact d_assign | exact d_pickF | exact d_eqSF | exact d_extract); clear hF; clear a; intro a hF) | ((apply stm hF); clear hF; clear a; intro a hF) | (apply c_cond_f hF; exact rfl; first | exact rfl | assumption))
      refine ret1 hF rfl rfl ⟨?_, hbel⟩
      rw [hn]; subst h0; rfl
    · have hq : (!decide (s = ⟨#[]⟩)) = true := by rw [decide_eq_false h0]; rfl
      have hs : 1 ≤ s.size := by
        rcases Nat.eq_zero_or_pos s.size with e | e
        · exact absurd (ByteArray.ext (Array.eq_empty_of_size_eq_zero e)) h0
        · exact e
      repeat (first | refine c_seq ?_ | refine c_region _ ?_ | refine wpList_nil ?_ | refine c_then ?_ | refine c_then_exit ?_ | refine c_in_hit ?_ | refine wp_exit ?_ | refine wp_ret ?_ | ((first | apply st hF | apply stg hF); (first | exact d_move | exact d_assign | exact d_pickT | exact d_cmp | exact d_eqST | exact d_lens (und _ _ rfl) | exact d_extract); clear hF; clear a; intro a hF) | (apply c_cond_f hF; exact rfl; first | exact rfl | assumption))
      refine ret1 hF rfl rfl ⟨?_, hbel⟩
      rw [hn]
      congr 1
      exact decide_eq_decide.2 (by omega)

end Go.Proofs.YtjomihhpglojpaaDoor
end
