/- The plain laws of places: bits of a signal; no program in sight. -/
namespace Go.Proofs.YtbindknkjbckhaaDoor.Pl

def nextB (mot : Bool) (b : Int) : Int := if mot = false then b + 1 else if b % 8 = 0 then b + 15 else b - 1
def seqB (mot : Bool) : Int → Nat → List Int
  | _, 0 => []
  | b, n + 1 => b :: seqB mot (nextB mot b) n
/-- The row that may be, or the error's number. -/
def bitsOfSig (start size : Int) (mot : Bool) : Except Int (List Int) :=
  if size < 1 ∨ 64 < size then .error 15
  else if start < 0 ∨ 63 < start then .error 16
  else if (seqB mot start size.toNat).all (· ≤ 63) then .ok (if mot then (seqB mot start size.toNat).reverse else seqB mot start size.toNat)
  else .error 16
def withinS (start size : Int) (mot : Bool) (n : Int) : Bool :=
  match bitsOfSig start size mot with
  | .ok l => decide (0 ≤ n ∧ n ≤ 8 ∧ ∀ x ∈ l, x < 8 * n)
  | .error _ => false

theorem seqB_len (mot : Bool) : ∀ n b, (seqB mot b n).length = n
  | 0, _ => rfl
  | n + 1, b => by simp [seqB, seqB_len mot n]

/-- A bit in a mirror, byte by byte. -/
def mir (b : Int) : Int := 8 * (b / 8) + 7 - b % 8
def pos (mot : Bool) (b : Int) : Int := if mot then mir b else b
theorem mir_mir (b : Int) : mir (mir b) = b := by unfold mir; omega
theorem pos_pos (mot : Bool) (b : Int) : pos mot (pos mot b) = b := by unfold pos; cases mot <;> simp [mir_mir]
theorem pos_next (mot : Bool) (b : Int) : pos mot (nextB mot b) = pos mot b + 1 := by
  unfold pos nextB mir
  cases mot
  · simp
  · simp; split <;> omega
theorem pos_lt (mot : Bool) (b n : Int) : pos mot b < 8 * n ↔ b < 8 * n := by unfold pos mir; cases mot <;> simp; omega
theorem pos_ge (mot : Bool) (b : Int) : 0 ≤ pos mot b ↔ 0 ≤ b := by unfold pos mir; cases mot <;> simp; omega
theorem seqB_get (mot : Bool) : ∀ n b i (h : i < (seqB mot b n).length), (seqB mot b n)[i] = pos mot (pos mot b + i)
  | 0, _, _, h => by simp [seqB] at h
  | n + 1, b, 0, _ => by simp [seqB, pos_pos]
  | n + 1, b, i + 1, h => by
    have h' : i < (seqB mot (nextB mot b) n).length := by simpa [seqB] using h
    have := seqB_get mot n (nextB mot b) i h'
    simp only [seqB, List.getElem_cons_succ, this, pos_next]
    congr 1
    push_cast
    omega
theorem seqB_mem {mot : Bool} {n : Nat} {b x : Int} (h : x ∈ seqB mot b n) : ∃ i, i < n ∧ x = pos mot (pos mot b + i) := by
  obtain ⟨i, hi, rfl⟩ := List.getElem_of_mem h
  exact ⟨i, by rw [seqB_len] at hi; exact hi, seqB_get mot n b i hi⟩
theorem seqB_mem_of {mot : Bool} {n : Nat} {b : Int} {i : Nat} (h : i < n) : pos mot (pos mot b + i) ∈ seqB mot b n := by
  rw [← seqB_get mot n b i (by rw [seqB_len]; exact h)]
  exact List.getElem_mem _
theorem nextB_bounds {mot : Bool} {b : Int} (h0 : 0 ≤ b) (h1 : b ≤ 63) : 0 ≤ nextB mot b ∧ nextB mot b ≤ 78 := by
  unfold nextB; cases mot <;> simp <;> (try split) <;> omega
theorem seqB_snoc (mot : Bool) : ∀ n b, seqB mot b (n + 1) = seqB mot b n ++ [pos mot (pos mot b + n)]
  | 0, b => by simp [seqB, pos_pos]
  | n + 1, b => by
    rw [seqB, seqB_snoc mot n (nextB mot b), seqB, pos_next]
    simp only [List.cons_append]
    congr 4
    push_cast
    omega
theorem seqB_take (mot : Bool) : ∀ n k b, k ≤ n → (seqB mot b n).take k = seqB mot b k
  | n, 0, b, _ => by simp [seqB]
  | 0, k + 1, _, h => by omega
  | n + 1, k + 1, b, h => by simp [seqB, seqB_take mot n k (nextB mot b) (by omega)]
theorem all_snoc (l : List Int) (x : Int) : (l ++ [x]).all (· ≤ 63) = (l.all (· ≤ 63) && decide (x ≤ 63)) := by simp
/-- What comes behind so many. -/
def nth (mot : Bool) (b : Int) : Nat → Int
  | 0 => b
  | n + 1 => nextB mot (nth mot b n)
theorem nth_pos (mot : Bool) (b : Int) : ∀ n, nth mot b n = pos mot (pos mot b + n)
  | 0 => by simp [nth, pos_pos]
  | n + 1 => by
    have := pos_next mot (nth mot b n)
    have h2 := nth_pos mot b n
    rw [nth, ← pos_pos mot (nextB mot (nth mot b n)), this, h2, pos_pos]
    congr 1
    push_cast
    omega
theorem seqB_snoc' (mot : Bool) (n : Nat) (b : Int) : seqB mot b (n + 1) = seqB mot b n ++ [nth mot b n] := by rw [seqB_snoc, nth_pos]
theorem all_take {mot : Bool} {b : Int} {n k : Nat} (h : k < n) (hb : 63 < nth mot b k) : (seqB mot b n).all (· ≤ 63) = false := by
  rw [List.all_eq_false]
  refine ⟨nth mot b k, ?_, by simp; omega⟩
  rw [nth_pos]
  exact seqB_mem_of h

/-- The greatest. -/
def maxL : List Int → Int
  | [] => 0
  | x :: r => r.foldl (fun m n => if m < n then n else m) x
theorem foldl_max_lt (l : List Int) : ∀ x m, l.foldl (fun m n => if m < n then n else m) x < m ↔ x < m ∧ ∀ y ∈ l, y < m := by
  induction l with
  | nil => intro x m; simp
  | cons y r ih =>
    intro x m
    rw [List.foldl_cons, ih]
    simp only [List.mem_cons, forall_eq_or_imp]
    split <;> constructor <;> rintro ⟨h1, h2⟩
    · exact ⟨by omega, h1, h2⟩
    · exact ⟨h2.1, h2.2⟩
    · exact ⟨h1, by omega, h2⟩
    · exact ⟨h1, h2.2⟩
theorem maxL_lt {l : List Int} (hl : l ≠ []) (m : Int) : maxL l < m ↔ ∀ y ∈ l, y < m := by
  cases l with
  | nil => exact absurd rfl hl
  | cons x r => simp only [maxL, foldl_max_lt, List.mem_cons, forall_eq_or_imp]
theorem maxL_snoc {l : List Int} (hl : l ≠ []) (x : Int) : maxL (l ++ [x]) = if maxL l < x then x else maxL l := by
  cases l with
  | nil => exact absurd rfl hl
  | cons y r =>
    show List.foldl _ y (r ++ [x]) = _
    rw [List.foldl_append]
    rfl

/-- What is a row that may be. -/
theorem bits_ok {start size : Int} {mot : Bool} {l : List Int} (h : bitsOfSig start size mot = .ok l) :
    1 ≤ size ∧ size ≤ 64 ∧ 0 ≤ start ∧ start ≤ 63 ∧ (l.length : Int) = size ∧ (∀ x ∈ l, 0 ≤ x ∧ x ≤ 63) ∧ (∀ x, x ∈ l ↔ x ∈ seqB mot start size.toNat) ∧ l = (if mot then (seqB mot start size.toNat).reverse else seqB mot start size.toNat) := by
  unfold bitsOfSig at h
  split at h
  · cases h
  split at h
  · cases h
  split at h
  · rename_i h1 h2 h3
    cases h
    have hm : ∀ x, x ∈ (if mot then (seqB mot start size.toNat).reverse else seqB mot start size.toNat) ↔ x ∈ seqB mot start size.toNat := by intro x; cases mot <;> simp
    refine ⟨by omega, by omega, by omega, by omega, ?_, fun x hx => ?_, hm, rfl⟩
    · cases mot <;> simp [seqB_len] <;> omega
    · have hx' := (hm x).1 hx
      have h4 := List.all_eq_true.1 h3 x hx'
      obtain ⟨i, hi, rfl⟩ := seqB_mem hx'
      have h5 : 0 ≤ pos mot (pos mot start + i) := (pos_ge _ _).2 (by have := (pos_ge mot start).2 (by omega); omega)
      exact ⟨h5, by simpa using h4⟩
  · cases h

theorem within_size {start size : Int} {mot : Bool} {n : Int} (h : withinS start size mot n = true) : size ≤ 8 * n := by
  unfold withinS at h
  split at h
  · rename_i l hl
    obtain ⟨g1, g2, g3, g4, g5, g6, g7, _⟩ := bits_ok hl
    have h' := of_decide_eq_true h
    have hmem : pos mot (pos mot start + ((size.toNat - 1 : Nat) : Int)) ∈ l := (g7 _).2 (seqB_mem_of (by omega))
    have := (pos_lt mot _ n).2 (h'.2.2 _ hmem)
    rw [pos_pos] at this
    have h0 := (pos_ge mot start).2 g3
    omega
  · cases h
theorem within_more {start size : Int} {mot : Bool} {n : Int} (h : withinS start size mot n = true) (hn : n ≠ 8) : withinS start size mot (n + 1) = true := by
  unfold withinS at h ⊢
  split at h
  · have h' := of_decide_eq_true h
    exact decide_eq_true ⟨by omega, by omega, fun x hx => by have := h'.2.2 x hx; omega⟩
  · cases h
theorem within_8 (start size : Int) (mot : Bool) : withinS start size mot 8 = (match bitsOfSig start size mot with | .ok _ => true | .error _ => false) := by
  unfold withinS
  split
  · rename_i l hl
    obtain ⟨_, _, _, _, _, g6, _, _⟩ := bits_ok hl
    exact decide_eq_true ⟨by omega, by omega, fun x hx => by have := g6 x hx; omega⟩
  · rfl
theorem within_out {start size : Int} {mot : Bool} {n : Int} (h : n < 0 ∨ 8 < n) : withinS start size mot n = false := by
  unfold withinS
  split
  · exact decide_eq_false (by omega)
  · rfl
end Go.Proofs.YtbindknkjbckhaaDoor.Pl
