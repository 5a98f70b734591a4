/- Two sources, one behind the other: plain laws. -/
import Derived.Test.YtnohefaifbghiaaGreatDoorUnqL
namespace Go.Proofs.YtnohefaifbghiaaGreatDoor
open Go.RowKit

theorem jget {s : ByteArray} {i : Nat} (h : i < s.size) : s.data.toList[i]? = some (s.get! i) := by
  have := get_at h
  rw [← this]
  cases s with
  | mk d =>
    have h' : i < d.size := h
    show d.toList[i]? = (ByteArray.mk d)[i]?
    rw [Array.getElem?_toList]
    simp only [getElem?_def]
    rfl
theorem jsize (s : ByteArray) : s.data.toList.length = s.size := Array.length_toList
theorem japp (s t : ByteArray) : (s ++ t).data.toList = s.data.toList ++ t.data.toList := by rw [ByteArray.data_append, Array.toList_append]
theorem jleft {s t : ByteArray} {i : Nat} (h : i < s.size) : (s ++ t).get! i = s.get! i := by
  have h1 : i < (s ++ t).size := by rw [ByteArray.size_append]; omega
  have e := jget h1
  rw [japp, List.getElem?_append_left (by rw [jsize]; exact h), jget h] at e
  exact (Option.some.inj e).symm
theorem jright {s t : ByteArray} {i : Nat} (h : i < t.size) : (s ++ t).get! (s.size + i) = t.get! i := by
  have h1 : s.size + i < (s ++ t).size := by rw [ByteArray.size_append]; omega
  have e := jget h1
  rw [japp, List.getElem?_append_right (by rw [jsize]; omega), jsize, Nat.add_sub_cancel_left, jget h] at e
  exact (Option.some.inj e).symm
/-! ### what decides a unit -/
theorem dec4_congr {b0 b1 b2 b3 d1 d2 d3 : Nat} {c1 c2 c3 e1 e2 e3 : Bool} (h1 : c1 = e1) (g1 : c1 = true → b1 = d1) (h2 : (c1 && c2) = (e1 && e2)) (g2 : (c1 && c2) = true → b2 = d2) (h3 : (c1 && c2 && c3) = (e1 && e2 && e3)) (g3 : (c1 && c2 && c3) = true → b3 = d3) :
    dec4 b0 b1 b2 b3 c1 c2 c3 = dec4 b0 d1 d2 d3 e1 e2 e3 := by
  subst h1
  cases c1 with
  | false => simp [dec4]
  | true =>
    obtain rfl := g1 rfl
    simp only [Bool.true_and] at h2 g2 h3 g3
    subst h2
    cases c2 with
    | false => simp [dec4]
    | true =>
      obtain rfl := g2 rfl
      simp only [Bool.true_and] at h3 g3
      subst h3
      cases c3 with
      | false => simp [dec4]
      | true =>
        obtain rfl := g3 rfl
        rfl
theorem cnt_lt {s : ByteArray} {i k : Nat} (h : cnt s i k = true) : i + k < s.size := by
  unfold cnt at h
  rw [Bool.and_eq_true, decide_eq_true_eq] at h
  exact h.1
theorem cnt_hi {s : ByteArray} {i k : Nat} (h : cnt s i k = true) : 128 ≤ (s.get! (i + k)).toNat := by
  unfold cnt at h
  rw [Bool.and_eq_true, beq_iff_eq] at h
  omega
/-- A source with a line's end and more behind it. -/
def joinB (a b : ByteArray) : ByteArray := (a ++ ⟨#[10]⟩) ++ b
theorem join_size (a b : ByteArray) : (joinB a b).size = a.size + 1 + b.size := by
  rw [joinB, ByteArray.size_append, ByteArray.size_append]; rfl
theorem join_a {a b : ByteArray} {i : Nat} (h : i < a.size) : (joinB a b).get! i = a.get! i := by
  rw [joinB, jleft (by rw [ByteArray.size_append]; omega), jleft h]
theorem join_n (a b : ByteArray) : (joinB a b).get! a.size = 10 := by
  have e : (a ++ (⟨#[10]⟩ : ByteArray)).size = a.size + 1 := by rw [ByteArray.size_append]; rfl
  rw [joinB, jleft (by omega)]
  have := jright (s := a) (t := ⟨#[10]⟩) (i := 0) (by decide)
  rw [Nat.add_zero] at this
  rw [this]; rfl
theorem join_b {a b : ByteArray} {i : Nat} (h : i < b.size) : (joinB a b).get! (a.size + 1 + i) = b.get! i := by
  have e : (a ++ (⟨#[10]⟩ : ByteArray)).size = a.size + 1 := by rw [ByteArray.size_append]; rfl
  have := jright (s := a ++ ⟨#[10]⟩) h
  rw [e] at this
  exact this
theorem cnt_a {a b : ByteArray} {i k : Nat} (h : i + k ≤ a.size) : cnt (joinB a b) i k = cnt a i k := by
  have hz := join_size a b
  unfold cnt
  by_cases e : i + k < a.size
  · rw [join_a e, decide_eq_true e, decide_eq_true (by omega)]
  · have e2 : i + k = a.size := by omega
    have e3 : ((10 : UInt8).toNat / 64 == 2) = false := rfl
    rw [e2, join_n, e3, Bool.and_false]
    simp
theorem cnt_out {a : ByteArray} {i k : Nat} (h : a.size ≤ i + k) : cnt a i k = false := by
  unfold cnt
  rw [decide_eq_false (by omega), Bool.false_and]
theorem cnt_end {a b : ByteArray} {i k : Nat} (h : i + k = a.size) : cnt (joinB a b) i k = false := by rw [cnt_a (by omega), cnt_out (by omega)]
theorem dec_a {a b : ByteArray} {i : Nat} (h : i < a.size) : Utf8.decode (joinB a b) i = Utf8.decode a i := by
  rw [decode_4, decode_4, Nat.add_zero, join_a h]
  have k1 : cnt (joinB a b) i 1 = cnt a i 1 := cnt_a (by omega)
  have k2 : (cnt (joinB a b) i 1 && cnt (joinB a b) i 2) = (cnt a i 1 && cnt a i 2) := by
    by_cases e : i + 2 ≤ a.size
    · rw [k1, cnt_a e]
    · rw [cnt_end (by omega), cnt_out (i := i) (k := 1) (by omega)]; rfl
  refine dec4_congr k1 (fun g => join_a (cnt_lt (k1 ▸ g)) ▸ rfl) k2 (fun g => ?_) ?_ (fun g => ?_)
  · rw [k2, Bool.and_eq_true] at g
    rw [join_a (cnt_lt g.2)]
  · by_cases e : i + 3 ≤ a.size
    · rw [k2, cnt_a e]
    · by_cases e2 : i + 2 = a.size
      · rw [cnt_end e2, cnt_out (i := i) (k := 2) (by omega)]; simp
      · rw [cnt_end (i := i) (k := 1) (by omega), cnt_out (i := i) (k := 1) (by omega)]; simp
  · by_cases e : i + 3 ≤ a.size
    · rw [k2, cnt_a e, Bool.and_eq_true] at g
      rw [join_a (cnt_lt g.2)]
    · exfalso
      by_cases e2 : i + 2 = a.size
      · rw [cnt_end e2] at g; simp at g
      · rw [cnt_end (i := i) (k := 1) (by omega)] at g; simp at g
theorem cnt_b {a b : ByteArray} {i k : Nat} : cnt (joinB a b) (a.size + 1 + i) k = cnt b i k := by
  have hz := join_size a b
  unfold cnt
  rw [Nat.add_assoc (a.size + 1)]
  by_cases e : i + k < b.size
  · rw [join_b e, decide_eq_true e, decide_eq_true (by omega)]
  · rw [decide_eq_false (by omega), decide_eq_false e, Bool.false_and, Bool.false_and]
theorem dec_b {a b : ByteArray} {i : Nat} (h : i < b.size) : Utf8.decode (joinB a b) (a.size + 1 + i) = Utf8.decode b i := by
  rw [decode_4, decode_4, Nat.add_zero, Nat.add_zero, join_b h]
  have hb : ∀ k, cnt b i k = true → (joinB a b).get! (a.size + 1 + i + k) = b.get! (i + k) := fun k g => by
    rw [Nat.add_assoc (a.size + 1)]; exact join_b (cnt_lt g)
  refine dec4_congr cnt_b (fun g => by rw [cnt_b] at g; rw [hb 1 g]) (by rw [cnt_b, cnt_b]) (fun g => ?_) (by rw [cnt_b, cnt_b, cnt_b]) (fun g => ?_)
  · rw [cnt_b, cnt_b, Bool.and_eq_true] at g
    rw [hb 2 g.2]
  · rw [cnt_b, cnt_b, cnt_b, Bool.and_eq_true] at g
    rw [hb 3 g.2]
theorem dec_n (a b : ByteArray) : Utf8.decode (joinB a b) a.size = (10, 1) := by
  rw [decode_4, Nat.add_zero, join_n]
  rfl
/-! ### a unit's bytes -/
theorem dec_shape (s : ByteArray) (i : Nat) (h : i < s.size) : i + (Utf8.decode s i).2 ≤ s.size ∧ (((Utf8.decode s i).1 = 10 ∧ (Utf8.decode s i).2 = 1 ∧ (s.get! i).toNat = 10) ∨ ((Utf8.decode s i).1 ≠ 10 ∧ ∀ j, j < (Utf8.decode s i).2 → (s.get! (i + j)).toNat ≠ 10)) := by
  rw [decode_4, Nat.add_zero]
  have hl := fun k => @cnt_lt s i k
  have hh := fun k => @cnt_hi s i k
  generalize hb0 : (s.get! i).toNat = b0
  generalize (s.get! (i + 1)).toNat = b1 at *
  unfold dec4
  by_cases h0 : b0 < 128
  · rw [if_pos h0]
    refine ⟨by show i + 1 ≤ _; omega, ?_⟩
    by_cases e : b0 = 10
    · exact .inl ⟨e, rfl, e⟩
    · refine .inr ⟨e, fun j hj => ?_⟩
      obtain rfl : j = 0 := by have : j < 1 := hj; omega
      rw [Nat.add_zero, hb0]; exact e
  rw [if_neg h0]
  have bad : i + ((65533, 1) : Nat × Nat).2 ≤ s.size ∧ ((((65533, 1) : Nat × Nat).1 = 10 ∧ ((65533, 1) : Nat × Nat).2 = 1 ∧ b0 = 10) ∨ (((65533, 1) : Nat × Nat).1 ≠ 10 ∧ ∀ j, j < ((65533, 1) : Nat × Nat).2 → (s.get! (i + j)).toNat ≠ 10)) := by
    refine ⟨by show i + 1 ≤ _; omega, .inr ⟨by decide, fun j hj => ?_⟩⟩
    obtain rfl : j = 0 := by have : j < 1 := hj; omega
    rw [Nat.add_zero, hb0]; omega
  have good : ∀ (c w : Nat), 128 ≤ c → 1 ≤ w → (∀ k, 1 ≤ k → k < w → cnt s i k = true) → i + ((c, w) : Nat × Nat).2 ≤ s.size ∧ ((((c, w) : Nat × Nat).1 = 10 ∧ ((c, w) : Nat × Nat).2 = 1 ∧ b0 = 10) ∨ (((c, w) : Nat × Nat).1 ≠ 10 ∧ ∀ j, j < ((c, w) : Nat × Nat).2 → (s.get! (i + j)).toNat ≠ 10)) := by
    intro c w hc hw hk
    refine ⟨?_, .inr ⟨by show c ≠ 10; omega, fun j hj => ?_⟩⟩
    · show i + w ≤ _
      by_cases e : w = 1
      · omega
      · have := hl (w - 1) (hk (w - 1) (by omega) (by omega))
        omega
    · have hj' : j < w := hj
      rcases Nat.eq_zero_or_pos j with rfl | hj0
      · rw [Nat.add_zero, hb0]; omega
      · have := hh j (hk j hj0 hj'); omega
  split
  · rename_i h1
    rw [Bool.and_eq_true] at h1
    simp only
    split
    · rename_i h2
      exact good _ 2 (by omega) (by decide) (fun k k1 k2 => by
        have e : k = 1 := by omega
        rw [e]; exact h1.2)
    · exact bad
  split
  · rename_i h1
    simp only [Bool.and_eq_true] at h1
    simp only
    split
    · rename_i h2
      rw [Bool.and_eq_true, decide_eq_true_eq] at h2
      exact good _ 3 (by omega) (by decide) (fun k k1 k2 => by
        have : k = 1 ∨ k = 2 := by omega
        rcases this with rfl | rfl
        · exact h1.1.2
        · exact h1.2)
    · exact bad
  split
  · rename_i h1
    simp only [Bool.and_eq_true] at h1
    simp only
    split
    · rename_i h2
      rw [Bool.and_eq_true, decide_eq_true_eq] at h2
      exact good _ 4 (by omega) (by decide) (fun k k1 k2 => by
        have : k = 1 ∨ k = 2 ∨ k = 3 := by omega
        rcases this with rfl | rfl | rfl
        · exact h1.1.1.2
        · exact h1.1.2
        · exact h1.2)
    · exact bad
  · exact bad
/-- How many of the first bytes end a line. -/
def nlTo (s : ByteArray) : Nat → Nat
  | 0 => 0
  | k + 1 => nlTo s k + if (s.get! k).toNat = 10 then 1 else 0
theorem nlTo_none (s : ByteArray) (p : Nat) : ∀ m, (∀ j, j < m → (s.get! (p + j)).toNat ≠ 10) → nlTo s (p + m) = nlTo s p
  | 0, _ => rfl
  | m + 1, h => by
    rw [← Nat.add_assoc]
    simp only [nlTo, nlTo_none s p m (fun j hj => h j (by omega))]
    rw [if_neg (h m (by omega))]; rfl
theorem line_of (s : ByteArray) : ∀ k, (∀ j, j < k → (uSt s j).1 < s.size) → (uSt s k).1 ≤ s.size ∧ (uSt s k).2.1 = 1 + (nlTo s (uSt s k).1 : Int)
  | 0, _ => ⟨Nat.zero_le _, rfl⟩
  | k + 1, h => by
    obtain ⟨h1, h2⟩ := line_of s k (fun j hj => h j (by omega))
    obtain ⟨d1, d2⟩ := dec_shape s (uSt s k).1 (h k (by omega))
    show (uStep s (uSt s k)).1 ≤ _ ∧ (uStep s (uSt s k)).2.1 = 1 + (nlTo s (uStep s (uSt s k)).1 : Int)
    unfold uStep
    rcases d2 with ⟨e1, e2, e3⟩ | ⟨e1, e2⟩
    · rw [if_pos e1]
      refine ⟨d1, ?_⟩
      show (uSt s k).2.1 + 1 = 1 + (nlTo s ((uSt s k).1 + (Utf8.decode s (uSt s k).1).2) : Int)
      rw [e2, h2]
      simp only [nlTo]
      rw [if_pos e3]; omega
    · rw [if_neg e1]
      refine ⟨d1, ?_⟩
      show (uSt s k).2.1 = 1 + (nlTo s ((uSt s k).1 + (Utf8.decode s (uSt s k).1).2) : Int)
      rw [nlTo_none s _ _ e2, h2]
/-! ### the units of the whole -/
theorem ust_a {a b : ByteArray} : ∀ k, (∀ j, j < k → (uSt a j).1 < a.size) → uSt (joinB a b) k = uSt a k
  | 0, _ => rfl
  | k + 1, h => by
    have ih := ust_a (b := b) k (fun j hj => h j (by omega))
    show uStep (joinB a b) (uSt (joinB a b) k) = uStep a (uSt a k)
    rw [ih]
    unfold uStep
    rw [dec_a (h k (by omega))]
theorem bad_of {s t : ByteArray} {j k : Nat} (h : Utf8.decode s (uSt s j).1 = Utf8.decode t (uSt t k).1) : badB s j = badB t k := by
  have e1 : uR s j = uR t k := by unfold uR; rw [h]
  have e2 : illB s (uSt s j).1 = illB t (uSt t k).1 := by
    rw [Bool.eq_iff_iff, ← ill_iff, ← ill_iff, h]
  unfold badB
  rw [e1, e2]
theorem bad_a {a b : ByteArray} {k : Nat} (h : ∀ j, j < k → (uSt a j).1 < a.size) (hk : (uSt a k).1 < a.size) : badB (joinB a b) k = badB a k := by
  apply bad_of
  rw [ust_a k h, dec_a hk]
theorem join_bad {a b : ByteArray} {k : Nat} (h : Out a (some k)) : Out (joinB a b) (some k) ∧ uSt (joinB a b) k = uSt a k := by
  obtain ⟨h1, h2, h3⟩ := h
  have hz := join_size a b
  have hu : uSt (joinB a b) k = uSt a k := ust_a k (fun j hj => (h1 j hj).1)
  refine ⟨⟨fun j hj => ?_, by rw [hu]; omega, by rw [bad_a (fun j hj => (h1 j hj).1) h2]; exact h3⟩, hu⟩
  have hj1 : ∀ i, i < j → (uSt a i).1 < a.size := fun i hi => (h1 i (by omega)).1
  exact ⟨by rw [ust_a j hj1]; have := (h1 j hj).1; omega, by rw [bad_a hj1 (h1 j hj).1]; exact (h1 j hj).2⟩
/-- Behind a source that is right: where the other one's units stand. -/
theorem ust_b {a b : ByteArray} {K : Nat} (hK : ∀ j, j < K → (uSt a j).1 < a.size) (he : (uSt a K).1 = a.size) : ∀ j, (∀ i, i < j → (uSt b i).1 < b.size) →
    uSt (joinB a b) (K + 1 + j) = (a.size + 1 + (uSt b j).1, 1 + (nlTo a a.size : Int) + (uSt b j).2.1, (uSt b j).2.2)
  | 0, _ => by
    have h1 := (line_of a K hK).2
    show uStep (joinB a b) (uSt (joinB a b) K) = _
    rw [ust_a K hK]
    unfold uStep
    rw [he, dec_n, if_pos rfl, h1, he]; rfl
  | j + 1, h => by
    have ih := ust_b hK he j (fun i hi => h i (by omega))
    show uStep (joinB a b) (uSt (joinB a b) (K + 1 + j)) = _
    rw [ih]
    show _ = (a.size + 1 + (uStep b (uSt b j)).1, 1 + (nlTo a a.size : Int) + (uStep b (uSt b j)).2.1, (uStep b (uSt b j)).2.2)
    unfold uStep
    rw [dec_b (h j (by omega))]
    split
    · simp only [Nat.add_assoc, Int.add_assoc]
    · simp only [Nat.add_assoc]
theorem out_end {a : ByteArray} (h : Out a none) : ∃ K, (∀ j, j < K → (uSt a j).1 < a.size ∧ badB a j = false) ∧ (uSt a K).1 = a.size := by
  obtain ⟨K, h1, h2⟩ := h
  have := (line_of a K (fun j hj => (h1 j hj).1)).1
  exact ⟨K, h1, by omega⟩
theorem join_pre {a b : ByteArray} {K : Nat} (hK : ∀ j, j < K → (uSt a j).1 < a.size ∧ badB a j = false) (he : (uSt a K).1 = a.size) : ∀ j, j < K + 1 → (uSt (joinB a b) j).1 < (joinB a b).size ∧ badB (joinB a b) j = false := by
  have hz := join_size a b
  intro j hj
  have hj1 : ∀ i, i < j → (uSt a i).1 < a.size := fun i hi => (hK i (by omega)).1
  by_cases e : j < K
  · exact ⟨by rw [ust_a j hj1]; have := (hK j e).1; omega, by rw [bad_a hj1 (hK j e).1]; exact (hK j e).2⟩
  · obtain rfl : j = K := by omega
    have hu := ust_a (b := b) j hj1
    refine ⟨by rw [hu, he]; omega, ?_⟩
    have hd : Utf8.decode (joinB a b) (uSt (joinB a b) j).1 = (10, 1) := by rw [hu, he, dec_n]
    have hr : uR (joinB a b) j = 10 := by unfold uR; rw [hd]; rfl
    unfold badB
    rw [ill_no (by rw [hd]; decide), hr]
    rfl
theorem join_all {a b : ByteArray} (ha : Out a none) : (Out b none → Out (joinB a b) none) ∧ ∀ k, Out b (some k) → ∃ m, Out (joinB a b) (some m) ∧ (uSt (joinB a b) m).2 = (1 + (nlTo a a.size : Int) + (uSt b k).2.1, (uSt b k).2.2) := by
  obtain ⟨K, hK, he⟩ := out_end ha
  have hz := join_size a b
  have hK1 : ∀ j, j < K → (uSt a j).1 < a.size := fun j hj => (hK j hj).1
  have pre := join_pre (b := b) hK he
  have step : ∀ j, (∀ i, i < j → (uSt b i).1 < b.size) → (uSt b j).1 < b.size → (uSt (joinB a b) (K + 1 + j)).1 < (joinB a b).size ∧ badB (joinB a b) (K + 1 + j) = badB b j := by
    intro j h1 h2
    have hu := ust_b hK1 he j h1
    refine ⟨by rw [hu]; show a.size + 1 + (uSt b j).1 < _; omega, bad_of ?_⟩
    rw [hu]
    exact dec_b h2
  constructor
  · rintro ⟨M, h1, h2⟩
    refine ⟨K + 1 + M, fun j hj => ?_, ?_⟩
    · by_cases e : j < K + 1
      · exact pre j e
      · obtain ⟨i, rfl⟩ : ∃ i, j = K + 1 + i := ⟨j - (K + 1), by omega⟩
        have := step i (fun q hq => (h1 q (by omega)).1) (h1 i (by omega)).1
        exact ⟨this.1, this.2.trans (h1 i (by omega)).2⟩
    · rw [ust_b hK1 he M (fun i hi => (h1 i hi).1)]
      show ¬ a.size + 1 + (uSt b M).1 < _
      omega
  · rintro k ⟨h1, h2, h3⟩
    have hk := step k (fun q hq => (h1 q hq).1) h2
    refine ⟨K + 1 + k, ⟨fun j hj => ?_, hk.1, hk.2.trans h3⟩, by rw [ust_b hK1 he k (fun i hi => (h1 i hi).1)]⟩
    by_cases e : j < K + 1
    · exact pre j e
    · obtain ⟨i, rfl⟩ : ∃ i, j = K + 1 + i := ⟨j - (K + 1), by omega⟩
      have := step i (fun q hq => (h1 q (by omega)).1) (h1 i (by omega)).1
      exact ⟨this.1, this.2.trans (h1 i (by omega)).2⟩
end Go.Proofs.YtnohefaifbghiaaGreatDoor
