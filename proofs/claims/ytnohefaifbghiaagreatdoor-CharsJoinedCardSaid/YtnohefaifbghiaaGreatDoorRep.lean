/- What the Replacer of Quote answers: plain laws; a copy into a row of the call's own. -/
import Derived.Test.YtnohefaifbghiaaGreatDoorReplR
import Derived.Test.YtnohefaifbghiaaGreatDoorQuoteL
import Derived.Lib.Bytealg
namespace Go.Proofs.YtnohefaifbghiaaGreatDoor
open Go.RowKit

/-- The first k bytes, each behind a backslash that wants one. -/
def re (s : ByteArray) : Nat → List UInt8
  | 0 => []
  | k + 1 => re s k ++ qb (s.get! k)
theorem qs_re (s : ByteArray) : ∀ k, qs s k = 34 :: re s k
  | 0 => rfl
  | k + 1 => by simp [qs, re, qs_re s k]
def spc (c : UInt8) : Nat := if c.toNat = 34 ∨ c.toNat = 92 then 1 else 0
def nsp (s : ByteArray) : Nat → Nat
  | 0 => 0
  | k + 1 => nsp s k + spc (s.get! k)
theorem qb_len (c : UInt8) : (qb c).length = 1 + spc c := by
  unfold qb spc
  split <;> rfl
theorem re_len (s : ByteArray) : ∀ k, (re s k).length = k + nsp s k
  | 0 => rfl
  | k + 1 => by simp only [re, nsp, List.length_append, re_len s k, qb_len]; omega
theorem spc_le (c : UInt8) : spc c ≤ 1 := by unfold spc; split <;> omega
theorem nsp_le (s : ByteArray) : ∀ k, nsp s k ≤ k
  | 0 => Nat.le_refl _
  | k + 1 => by have := nsp_le s k; have := spc_le (s.get! k); simp only [nsp]; omega
theorem nsp_mono (s : ByteArray) (k : Nat) : ∀ m, nsp s k ≤ nsp s (k + m)
  | 0 => Nat.le_refl _
  | m + 1 => by have := nsp_mono s k m; show _ ≤ nsp s (k + m + 1); simp only [nsp]; omega
theorem re_mono (s : ByteArray) {k n : Nat} (h : k ≤ n) : k + nsp s k ≤ n + nsp s n := by
  have := nsp_mono s k (n - k)
  rw [Nat.add_sub_cancel' h] at this
  omega
theorem byte_at {s : ByteArray} {k : Nat} (h : k < s.size) : s.data.toList[k]? = some (s.get! k) := by
  have := get_at h
  rw [← this]
  cases s with
  | mk d =>
    have h' : k < d.size := h
    show d.toList[k]? = (ByteArray.mk d)[k]?
    rw [Array.getElem?_toList]
    simp only [getElem?_def]
    rfl
theorem take_byte {s : ByteArray} {k : Nat} (h : k < s.size) : s.data.toList.take (k + 1) = s.data.toList.take k ++ [s.get! k] := by
  rw [List.take_add_one, byte_at h]; rfl
theorem eq34 (c : UInt8) : c = 34 ↔ c.toNat = 34 := by rw [← UInt8.toNat_inj]; rfl
theorem eq92 (c : UInt8) : c = 92 ↔ c.toNat = 92 := by rw [← UInt8.toNat_inj]; rfl
theorem nsp_count (s : ByteArray) : ∀ k, k ≤ s.size → nsp s k = Lib.countByte (s.data.toList.take k) 34 + Lib.countByte (s.data.toList.take k) 92
  | 0, _ => rfl
  | k + 1, h => by
    rw [take_byte h]
    simp only [nsp, nsp_count s k (by omega), Lib.countByte, List.count_append, List.count_singleton, spc, beq_iff_eq, eq34, eq92]
    split <;> split <;> split <;> omega
theorem all_count (s : ByteArray) : nsp s s.size = Lib.countByte s.data.toList 34 + Lib.countByte s.data.toList 92 := by
  have h := nsp_count s s.size (Nat.le_refl _)
  rwa [List.take_of_length_le (by rw [Array.length_toList]; exact Nat.le_refl _)] at h
theorem re_same (s : ByteArray) : ∀ k, k ≤ s.size → nsp s k = 0 → re s k = s.data.toList.take k
  | 0, _, _ => rfl
  | k + 1, h, h0 => by
    simp only [nsp] at h0
    rw [take_byte h, re, re_same s k (by omega) (by omega), qb, if_neg]
    intro e
    have : spc (s.get! k) = 1 := if_pos e
    omega
theorem re_all (s : ByteArray) (h : nsp s s.size = 0) : (⟨(re s s.size).toArray⟩ : ByteArray) = s := by
  rw [re_same s s.size (Nat.le_refl _) h, List.take_of_length_le (by rw [Array.length_toList]; exact Nat.le_refl _)]
theorem quote_re (s : ByteArray) : quoteL s = 34 :: re s s.size ++ [34] := by rw [quoteL, qs_re]

section
variable {P : Program} {ops : Array Oper} {Q : Exit → Act → World → Prop} {rest : List Oper} {a : Act} {w : World} {N : Nat} {l : List (Nat × Value)}
/-- 'copy(b[j:], x)', b a row of the call's own. -/
theorem st_copyRow (h : Fr N l a) {d : Nat} {x y : Operand} {g j base : Nat} {e t t2 ty : TypeId} {n c dLen dCap sLen sCap : Nat} {xs cs : List Value} {ad : Addr} {pos : String} {af : Array Edge}
    (hU : P.underlying t = some (.slice e)) (hs : (P.info? e).map (·.size) = some 1) (hown : w.ownsRow base e 1 (.slice (some ⟨g, 0, none⟩) n c) n xs)
    (hsrc : ∀ i v, cs[i]? = some v → w.cell? (ad.add i) = some v) (h1 : ∀ v ∈ cs, v.oneCell' = true) (hfit : j + cs.length ≤ n) (hcs : cs.length = Nat.min sLen dLen) {m : Nat} (hm : cs.length = m)
    (hx : Ev l x (.slice (some ⟨g, j, none⟩) dLen dCap) := by exact rfl) (hy : Ev l y (.slice (some ad) sLen sCap) := by exact rfl) (hd : Nat.blt d N = true := by exact rfl)
    (k : ∀ a' w', w'.ownsRow base e 1 (.slice (some ⟨g, 0, none⟩) n c) n (xs.take j ++ (cs ++ xs.drop (j + cs.length))) → w.grownBy w' (some g) → w'.heap.size = w.heap.size → Fr N ((d, .int .i64 (m : Int)) :: l) a' → wpList P ops Q rest a' w') :
    wpList P ops Q (⟨some d, .call { callee := .builtin .copy, args := [x, y].toArray, argTypes := [t, t2].toArray }, ty, pos, af, none⟩ :: rest) a w := by
  subst hm
  have hl := hown.1
  rw [Nat.mul_one] at hl
  rcases hown.2 with ⟨h0, _⟩ | ⟨g', cap', cur, h0, hb, hg, hle, hm, hsz, htk⟩
  · cases h0
  · obtain ⟨rfl, rfl⟩ : g' = g ∧ cap' = c := by cases h0; exact ⟨rfl, rfl⟩
    rw [Nat.mul_one] at htk hsz
    refine wpList_copy_own rfl x y t t2 rfl e hU hs g' j dLen dCap ad sLen sCap (h.eval _ _ hx) (h.eval _ _ hy) cur e hg cs hcs hsrc (by omega) h1 ?_
    have hg2 := setRow_heap w g' cur (cur.toList.take j ++ (cs ++ cur.toList.drop (j + cs.length))).toArray e _ hg
    refine k _ _ ⟨by simp; omega, .inr ⟨g', cap', _, rfl, hb, hg2, hle, hm, by simp; omega, ?_⟩⟩ ⟨rfl, rfl, rfl, by simp [World.setRow], fun q hq hne => setRow_other w g' q _ (fun e => hne (by rw [e]))⟩ (by simp [World.setRow]) (h.put hd _)
    rw [Nat.mul_one]
    have e1 : (cur.toList.take j ++ (cs ++ cur.toList.drop (j + cs.length))).toArray.toList.take n = (cur.toList.take n).take j ++ (cs ++ (cur.toList.take n).drop (j + cs.length)) := by
      apply List.ext_getElem?
      intro i
      simp only [List.getElem?_take, List.getElem?_append, List.getElem?_drop, List.length_take, Array.length_toList]
      have hjn : min j (cur.size) = j := by omega
      have hjn2 : min j (min n cur.size) = j := by omega
      rw [hjn, hjn2]
      by_cases h1 : i < j
      · simp [h1, show i < n by omega]
      · by_cases h2 : i - j < cs.length
        · simp [h1, h2, show i < n by omega]
        · by_cases h3 : i < n
          · simp [h1, h2, h3, show j + cs.length + (i - j - cs.length) < n by omega]
          · simp [h1, h2, h3, show ¬ j + cs.length + (i - j - cs.length) < n by omega]
    rw [e1, htk]
end
end Go.Proofs.YtnohefaifbghiaaGreatDoor
