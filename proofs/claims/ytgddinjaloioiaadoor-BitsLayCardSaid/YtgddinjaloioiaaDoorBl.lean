/- The plain laws of rows and of what is laid; no program in sight. -/
import Derived.Test.YtgddinjaloioiaaDoorBp
namespace Go.Proofs.YtgddinjaloioiaaDoor.Pl

def rowGo (p : List Nat) : List Int → Nat → Nat → Except Int Nat
  | [], _, v => .ok v
  | i :: r, k, v => match getB p i with
    | .error e => .error e
    | .ok b => rowGo p r (k + 1) (if b then v ||| 2 ^ k else v)
def rowE (p : List Nat) (l : List Int) : Except Int Nat :=
  if 8 < p.length then .error 15 else if 64 < l.length then .error 5 else rowGo p l 0 0
def layGo (p : List Nat) (v : Nat) : List Int → Nat → List Nat → List Bool → Except Int (List Nat)
  | [], _, q, _ => .ok q
  | i :: r, k, q, s => if ¬ (0 ≤ i ∧ i < 8 * p.length) then .error 16 else if s.getD i.toNat false = true then .error 12
    else layGo p v r (k + 1) (putB q i.toNat (v.testBit k)) (s.set i.toNat true)
def layE (p : List Nat) (l : List Int) (v : Nat) : Except Int (List Nat) :=
  if 8 < p.length then .error 15 else if 64 < l.length then .error 5 else layGo p v l 0 p emptyS

/-- All bits are there: the row is a number. -/
theorem rowGo_ok {p : List Nat} (h8 : p.length ≤ 8) : ∀ {l : List Int} {k v : Nat}, (∀ x ∈ l, 0 ≤ x ∧ x < 8 * p.length) → v < 2 ^ k →
    ∃ u, rowGo p l k v = .ok u ∧ u < 2 ^ (k + l.length) ∧ (∀ j, j < k → u.testBit j = v.testBit j) ∧ ∀ t (h : t < l.length), u.testBit (k + t) = bitAt p (l[t]).toNat
  | [], k, v, _, hv => ⟨v, rfl, by simpa using hv, fun _ _ => rfl, fun t h => absurd h (Nat.not_lt_zero _)⟩
  | i :: r, k, v, hl, hv => by
    have hi := hl i (by simp)
    have hg : getB p i = .ok (bitAt p i.toNat) := by
      unfold getB
      rw [if_neg (by omega), if_pos (by omega)]
    have hp : 2 ^ k < 2 ^ (k + 1) := Nat.pow_lt_pow_right (by decide) (by omega)
    have hv2 : (if bitAt p i.toNat then v ||| 2 ^ k else v) < 2 ^ (k + 1) := by
      split
      · exact Nat.or_lt_two_pow (by omega) hp
      · omega
    obtain ⟨u, h1, h2, h3, h4⟩ := rowGo_ok h8 (l := r) (k := k + 1) (v := if bitAt p i.toNat then v ||| 2 ^ k else v) (fun x hx => hl x (by simp [hx])) hv2
    have hvk : v.testBit k = false := Nat.testBit_lt_two_pow hv
    refine ⟨u, by rw [rowGo, hg]; exact h1, by rw [List.length_cons]; rw [show k + (r.length + 1) = k + 1 + r.length by omega]; exact h2, fun j hj => ?_, fun t ht => ?_⟩
    · rw [h3 j (by omega)]
      split
      · rw [Nat.testBit_or, Nat.testBit_two_pow]
        have : ¬ k = j := by omega
        simp [this]
      · rfl
    · cases t with
      | zero =>
        rw [Nat.add_zero, h3 k (by omega)]
        simp only [List.getElem_cons_zero]
        split
        · rename_i hb
          rw [Nat.testBit_or, Nat.testBit_two_pow_self]
          simp [hb]
        · rename_i hb
          rw [hvk]
          cases hc : bitAt p i.toNat with
          | true => exact absurd hc hb
          | false => rfl
      | succ t =>
        have := h4 t (by simpa using ht)
        rw [show k + 1 + t = k + (t + 1) by omega] at this
        rw [this]
        rfl

/-- What is laid. -/
theorem layGo_ok {p : List Nat} {v : Nat} (h8 : p.length ≤ 8) : ∀ {l : List Int} {k : Nat} {q q' : List Nat} {s : List Bool}, s.length = 64 → q.length = p.length → (∀ x ∈ q, x < 256) → layGo p v l k q s = .ok q' →
    q'.length = p.length ∧ (∀ x ∈ q', x < 256) ∧ l.Nodup ∧ (∀ x ∈ l, 0 ≤ x ∧ x < 8 * p.length ∧ s.getD x.toNat false = false) ∧
    (∀ j : Nat, (j : Int) ∉ l → bitAt q' j = bitAt q j) ∧ ∀ t (h : t < l.length), bitAt q' (l[t]).toNat = v.testBit (k + t)
  | [], k, q, q', s, _, hq, hb, h => by
    simp only [layGo, Except.ok.injEq] at h
    subst h
    exact ⟨hq, hb, List.nodup_nil, by simp, fun _ _ => rfl, fun t h => absurd h (Nat.not_lt_zero _)⟩
  | i :: r, k, q, q', s, hs, hq, hb, h => by
    simp only [layGo] at h
    split at h
    · cases h
    · rename_i h1
      split at h
      · cases h
      · rename_i h2
        have hi : 0 ≤ i ∧ i < 8 * p.length := by omega
        have hit : i.toNat < s.length := by omega
        have hiq : i.toNat < 8 * q.length := by omega
        obtain ⟨a1, a2, a3, a4, a5, a6⟩ := layGo_ok h8 (l := r) (s := s.set i.toNat true) (by simpa using hs) (by rw [putB_len]; exact hq) (putB_lt hb hiq) h
        have hnot : i ∉ r := by
          intro hm
          have := (a4 i hm).2.2
          simp [List.getD, hit] at this
        have hback : ((i.toNat : Nat) : Int) = i := by omega
        refine ⟨a1, a2, List.nodup_cons.2 ⟨hnot, a3⟩, ?_, ?_, ?_⟩
        · intro x hx
          rcases List.mem_cons.1 hx with rfl | hx
          · exact ⟨hi.1, hi.2, by simpa using h2⟩
          · obtain ⟨b1, b2, b3⟩ := a4 x hx
            refine ⟨b1, b2, ?_⟩
            have hne : i.toNat ≠ x.toNat := by
              intro e
              have : i = x := by omega
              subst this
              exact hnot hx
            simpa [List.getD, List.getElem?_set_ne hne] using b3
        · intro j hj
          rw [a5 j (fun hm => hj (List.mem_cons_of_mem _ hm)), bitAt_putB hiq, if_neg]
          intro e
          subst e
          exact hj (by rw [hback]; simp)
        · intro t ht
          cases t with
          | zero =>
            simp only [List.getElem_cons_zero, Nat.add_zero]
            rw [a5 i.toNat (by rw [hback]; exact hnot), bitAt_putB hiq, if_pos rfl]
          | succ t =>
            have := a6 t (by simpa using ht)
            rw [show k + 1 + t = k + (t + 1) by omega] at this
            simpa using this
theorem layE_ok {p : List Nat} {l : List Int} {v : Nat} {q : List Nat} (hp : ∀ x ∈ p, x < 256) (h : layE p l v = .ok q) : p.length ≤ 8 ∧ l.length ≤ 64 ∧ q.length = p.length ∧ (∀ x ∈ q, x < 256) ∧ l.Nodup ∧ (∀ x ∈ l, 0 ≤ x ∧ x < 8 * p.length) ∧
    (∀ j : Nat, (j : Int) ∉ l → bitAt q j = bitAt p j) ∧ ∀ t (h : t < l.length), bitAt q (l[t]).toNat = v.testBit t := by
  unfold layE at h
  split at h
  · cases h
  · split at h
    · cases h
    · rename_i h1 h2
      obtain ⟨a1, a2, a3, a4, a5, a6⟩ := layGo_ok (by omega) (by decide) rfl hp h
      exact ⟨by omega, by omega, a1, a2, a3, fun x hx => ⟨(a4 x hx).1, (a4 x hx).2.1⟩, a5, fun t ht => by rw [a6 t ht, Nat.zero_add]⟩
/-- One bit. -/
theorem rowE_one {p : List Nat} {i : Nat} (h8 : p.length ≤ 8) (hi : i < 8 * p.length) : rowE p [(i : Int)] = .ok (if bitAt p i then 1 else 0) := by
  unfold rowE
  rw [if_neg (by omega), if_neg (by simp)]
  have hg : getB p (i : Int) = .ok (bitAt p i) := by
    unfold getB
    rw [if_neg (by omega), if_pos (by omega)]
    rfl
  rw [rowGo, hg]
  cases bitAt p i <;> rfl
theorem layE_one {p : List Nat} {i v : Nat} (h8 : p.length ≤ 8) (hi : i < 8 * p.length) : layE p [(i : Int)] v = .ok (putB p i (v.testBit 0)) := by
  unfold layE
  rw [if_neg (by omega), if_neg (by simp)]
  have h0 : emptyS.getD i false = false := by
    have : i < 64 := by omega
    unfold emptyS
    rw [List.getD_eq_getElem?_getD, List.getElem?_replicate, if_pos this]
    rfl
  rw [layGo, if_neg (by omega), if_neg (by rw [Int.toNat_natCast, h0]; decide), layGo]
  rfl
end Go.Proofs.YtgddinjaloioiaaDoor.Pl
