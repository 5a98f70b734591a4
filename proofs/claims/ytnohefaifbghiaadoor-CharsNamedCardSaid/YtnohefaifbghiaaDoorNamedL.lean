/- Names and their quoting: plain laws. -/
import Derived.Test.YtnohefaifbghiaaDoorRep
import Derived.Test.YtnohefaifbghiaaDoorNm
namespace Go.Proofs.YtnohefaifbghiaaDoor
open Go.RowKit

theorem ba_get {s : ByteArray} {i : Nat} (h : i < s.size) : s.data.toList[i]? = some (s.get! i) := byte_at h
theorem ba_size (s : ByteArray) : s.data.toList.length = s.size := Array.length_toList
theorem ba_app (s t : ByteArray) : (s ++ t).data.toList = s.data.toList ++ t.data.toList := by rw [ByteArray.data_append, Array.toList_append]
theorem get_left {s t : ByteArray} {i : Nat} (h : i < s.size) : (s ++ t).get! i = s.get! i := by
  have h1 : i < (s ++ t).size := by rw [ByteArray.size_append]; omega
  have e := ba_get h1
  rw [ba_app, List.getElem?_append_left (by rw [ba_size]; exact h), ba_get h] at e
  exact (Option.some.inj e).symm
theorem get_right {s t : ByteArray} {i : Nat} (h : i < t.size) : (s ++ t).get! (s.size + i) = t.get! i := by
  have h1 : s.size + i < (s ++ t).size := by rw [ByteArray.size_append]; omega
  have e := ba_get h1
  rw [ba_app, List.getElem?_append_right (by rw [ba_size]; omega), ba_size, Nat.add_sub_cancel_left, ba_get h] at e
  exact (Option.some.inj e).symm
theorem get_idx {s : ByteArray} {j : Nat} (h : j < s.size) : s[j] = s.get! j := by
  have := get_at h
  rw [getElem?_pos s j h] at this
  exact Option.some.inj this
def okB (s : ByteArray) : Prop := ∀ j, j < s.size → Pl.okAt (decide (j = 0)) ((s.get! j).toNat : Int) = true
theorem ok_iff (s : ByteArray) : Pl.okName s ↔ okB s := by
  constructor
  · intro h j hj
    have := h j hj
    rwa [get_idx hj] at this
  · intro h j hj
    rw [get_idx hj]; exact h j hj
theorem name_iff (s : ByteArray) : Pl.name s = true ↔ 1 ≤ s.size ∧ s.size ≤ 64 ∧ okB s := by
  unfold Pl.name
  rw [decide_eq_true_eq, ok_iff]
theorem okAt_plain {f : Bool} {r : Int} (h : Pl.okAt f r = true) : 48 ≤ r ∧ r ≤ 122 ∧ r ≠ 92 := by
  unfold Pl.okAt Pl.letter at h
  rw [Bool.or_eq_true, Bool.and_eq_true, decide_eq_true_eq, decide_eq_true_eq] at h
  omega
theorem okAt_more {f : Bool} {r : Int} (h : Pl.okAt f r = true) : Pl.okAt false r = true := by
  unfold Pl.okAt at h ⊢
  rw [Bool.or_eq_true, Bool.and_eq_true] at h ⊢
  rcases h with h | h
  · exact .inl h
  · exact .inr ⟨rfl, h.2⟩
theorem name_bytes {s : ByteArray} (h : Pl.name s = true) {j : Nat} (hj : j < s.size) : 48 ≤ (s.get! j).toNat ∧ (s.get! j).toNat ≤ 122 ∧ (s.get! j).toNat ≠ 92 := by
  have := okAt_plain (((name_iff s).1 h).2.2 j hj)
  omega
/-! ### a name's units -/
theorem ascii_ust {s : ByteArray} (h : ∀ j, j < s.size → (s.get! j).toNat < 128) : ∀ k, k ≤ s.size → (uSt s k).1 = k
  | 0, _ => rfl
  | k + 1, hk => by
    have ih := ascii_ust h k (by omega)
    have hlt : k < s.size := by omega
    have e := decode_ascii s k hlt (by rw [get_idx hlt]; exact h k hlt)
    rw [uSt_fst, ih, e]
theorem ascii_ur {s : ByteArray} (h : ∀ j, j < s.size → (s.get! j).toNat < 128) {k : Nat} (hk : k < s.size) : (Utf8.decode s (uSt s k).1).1 = (s.get! k).toNat := by
  have e := decode_ascii s k hk (by rw [get_idx hk]; exact h k hk)
  rw [ascii_ust h k (by omega), e, get_idx hk]
theorem name_ok' {s : ByteArray} (h : Pl.name s = true) : AllOk s := by
  have ha : ∀ j, j < s.size → (s.get! j).toNat < 128 := fun j hj => by have := name_bytes h hj; omega
  intro k hk
  have hks : k < s.size := by
    apply Decidable.byContradiction
    intro hn
    have h1 := uMono s s.size (k - s.size)
    rw [Nat.add_sub_cancel' (by omega), ascii_ust ha s.size (Nat.le_refl _)] at h1
    omega
  have e := ascii_ur ha hks
  have hb := name_bytes h hks
  refine ⟨ill_no (by rw [e]; omega), ?_⟩
  unfold uR ctl
  rw [e]
  exact decide_eq_false (by omega)
/-! ### a name's quoting -/
theorem name_nsp {s : ByteArray} (h : Pl.name s = true) : ∀ k, k ≤ s.size → nsp s k = 0
  | 0, _ => rfl
  | k + 1, hk => by
    have hb := name_bytes h (j := k) (by omega)
    simp only [nsp, name_nsp h k (by omega), spc]
    rw [if_neg (by omega)]
def inQ (s : ByteArray) : ByteArray := ((⟨#[34]⟩ : ByteArray) ++ s) ++ ⟨#[34]⟩
theorem name_quote {s : ByteArray} (h : Pl.name s = true) : (⟨(quoteL s).toArray⟩ : ByteArray) = inQ s := by
  have hn := name_nsp h s.size (Nat.le_refl _)
  apply ByteArray.ext
  apply Array.toList_inj.1
  rw [inQ, ba_app, ba_app, quote_re, re_same s s.size (Nat.le_refl _) hn, List.take_of_length_le (by rw [ba_size]; exact Nat.le_refl _)]
  rfl
theorem inQ_size (s : ByteArray) : (inQ s).size = s.size + 2 := by
  rw [inQ, ByteArray.size_append, ByteArray.size_append]
  show 1 + s.size + 1 = _
  omega
theorem inQ_0 (s : ByteArray) : (inQ s).get! 0 = 34 := by
  rw [inQ, get_left (by rw [ByteArray.size_append]; show 0 < 1 + _; omega), get_left (by decide)]
  rfl
theorem inQ_mid {s : ByteArray} {j : Nat} (h : j < s.size) : (inQ s).get! (1 + j) = s.get! j := by
  rw [inQ, get_left (by rw [ByteArray.size_append]; show 1 + j < 1 + _; omega)]
  exact get_right (s := ⟨#[34]⟩) h
theorem inQ_end (s : ByteArray) : (inQ s).get! (1 + s.size) = 34 := by
  have e : ((⟨#[34]⟩ : ByteArray) ++ s).size = 1 + s.size := by rw [ByteArray.size_append]; rfl
  have := get_right (s := (⟨#[34]⟩ : ByteArray) ++ s) (t := ⟨#[34]⟩) (i := 0) (by decide)
  rw [Nat.add_zero, e] at this
  rw [inQ, this]; rfl
theorem name_sc {s : ByteArray} (h : Pl.name s = true) : ∀ k, k ≤ s.size → sc (inQ s) k = (1 + k, s.data.toList.take k)
  | 0, _ => rfl
  | k + 1, hk => by
    have hks : k < s.size := by omega
    have hb := name_bytes h hks
    have e1 : (sc (inQ s) k).1 = 1 + k := by rw [name_sc h k (by omega)]
    have e2 : (sc (inQ s) k).2 = s.data.toList.take k := by rw [name_sc h k (by omega)]
    show (if ((inQ s).get! (sc (inQ s) k).1).toNat = 92 then _ else _) = _
    rw [e1, e2, inQ_mid hks, if_neg hb.2.2, take_byte hks]
    rfl
theorem name_unq {s : ByteArray} (h : Pl.name s = true) : UnqR (inQ s) 0 s := by
  have hz := inQ_size s
  have h34 : ((34 : UInt8)).toNat = 34 := rfl
  obtain ⟨n1, n2, n3⟩ := (name_iff s).1 h
  refine .inr (.inr ⟨by omega, by rw [inQ_0]; exact h34, s.size, fun j hj => ?_, ?_, ?_⟩)
  · rw [name_sc h j (by omega)]
    have hb := name_bytes h hj
    refine ⟨by show 1 + j < _; omega, by rw [inQ_mid hj]; omega, fun e => ?_⟩
    rw [inQ_mid hj] at e
    exact absurd e hb.2.2
  · rw [name_sc h s.size (Nat.le_refl _)]
    intro g
    exact g.2.1 (by rw [inQ_end]; exact h34)
  · rw [name_sc h s.size (Nat.le_refl _), List.take_of_length_le (by rw [ba_size]; exact Nat.le_refl _)]
    have e : (⟨s.data.toList.toArray⟩ : ByteArray) = s := rfl
    exact .inr (.inr (.inl ⟨by show 1 + s.size < _; omega, by rw [inQ_end]; exact h34, by show _ ≤ 1 + s.size + 1; omega, by rw [e]; exact .inr ⟨by omega, .inl ⟨name_ok' h, rfl⟩⟩, .inl ⟨rfl, e.symm⟩⟩))
/-! ### one that goes on -/
theorem name_more {s m : ByteArray} (h : Pl.name s = true) (hm : Pl.name ((⟨#[95]⟩ : ByteArray) ++ m) = true) : Pl.name (s ++ m) = decide (s.size + m.size ≤ 64) := by
  obtain ⟨s1, s2, s3⟩ := (name_iff s).1 h
  obtain ⟨m1, m2, m3⟩ := (name_iff _).1 hm
  rw [Bool.eq_iff_iff, decide_eq_true_eq, name_iff, ByteArray.size_append]
  constructor
  · intro x; exact x.2.1
  · intro hle
    refine ⟨by omega, hle, fun j hj => ?_⟩
    rw [ByteArray.size_append] at hj
    by_cases e : j < s.size
    · rw [get_left e]; exact s3 j e
    · obtain ⟨i, rfl⟩ : ∃ i, j = s.size + i := ⟨j - s.size, by omega⟩
      have hi : i < m.size := by omega
      rw [get_right hi, decide_eq_false (by omega)]
      have h1 := m3 (1 + i) (by rw [ByteArray.size_append]; show 1 + i < 1 + _; omega)
      have h2 : (((⟨#[95]⟩ : ByteArray) ++ m).get! (1 + i)) = m.get! i := get_right (s := ⟨#[95]⟩) hi
      rw [h2] at h1
      exact okAt_more h1
end Go.Proofs.YtnohefaifbghiaaDoor
