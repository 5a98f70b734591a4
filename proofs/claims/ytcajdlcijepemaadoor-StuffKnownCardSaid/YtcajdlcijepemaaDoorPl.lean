/- The plain laws of stuffing: lists of bits alone; no program in sight. -/
namespace Go.Proofs.YtcajdlcijepemaaDoor.Pl

theorem snoc_ind {α : Type} {p : List α → Prop} (h0 : p []) (h1 : ∀ l x, p l → p (l ++ [x])) : ∀ l, p l := by
  have key : ∀ n (l : List α), l.length = n → p l := by
    intro n
    induction n with
    | zero => intro l hl; rw [List.eq_nil_of_length_eq_zero hl]; exact h0
    | succ n ih =>
      intro l hl
      have hne : l ≠ [] := by intro e; subst e; simp at hl
      rw [← List.dropLast_concat_getLast hne]
      exact h1 _ _ (ih _ (by simp [hl]))
  exact fun l => key _ l rfl

theorem take_snoc {α : Type} (l : List α) (k : Nat) (h : k < l.length) : l.take (k + 1) = l.take k ++ [l[k]] := by
  rw [List.take_succ_eq_append_getElem h]

/-- How many are alike with one bit more. -/
def nxt (la : Bool) (a : Nat) (b : Bool) : Nat := if 0 < a ∧ la = b then a + 1 else 1

/-- One bit more: what is out, the last bit, how many are alike. -/
def stp (s : List Bool × Bool × Nat) (b : Bool) : List Bool × Bool × Nat :=
  if nxt s.2.1 s.2.2 b = 5 then (s.1 ++ [b, !b], !b, 1) else (s.1 ++ [b], b, nxt s.2.1 s.2.2 b)

def run (l : List Bool) : List Bool × Bool × Nat := l.foldl stp ([], false, 0)
def stuff (l : List Bool) : List Bool := (run l).1

theorem run_snoc (l : List Bool) (b : Bool) : run (l ++ [b]) = stp (run l) b := by
  simp [run, List.foldl_append]

theorem run_take (l : List Bool) (k : Nat) (h : k < l.length) : run (l.take (k + 1)) = stp (run (l.take k)) l[k] := by
  rw [take_snoc l k h, run_snoc]

/-- What always holds of the state. -/
structure Inv (n : Nat) (s : List Bool × Bool × Nat) : Prop where
  le : s.2.2 ≤ 4
  zero : s.2.2 = 0 ↔ s.1 = []
  zero' : s.2.2 = 0 ↔ n = 0
  last : 0 < s.2.2 → s.1.getLast? = some s.2.1
  lo : n ≤ s.1.length
  hi : 4 * (s.1.length - n) + s.2.2 ≤ n

theorem inv_run : ∀ l : List Bool, Inv l.length (run l) := by
  refine snoc_ind ?_ ?_
  · exact ⟨by simp [run], by simp [run], by simp [run], by simp [run], by simp [run], by simp [run]⟩
  · intro l b ih
    rw [run_snoc]
    obtain ⟨h1, h2, h2', h3, h4, h5⟩ := ih
    generalize run l = s at *
    obtain ⟨o, la, a⟩ := s
    simp only at *
    unfold stp
    simp only
    have hn : nxt la a b = a + 1 ∨ nxt la a b = 1 := by unfold nxt; split <;> simp
    have hn1 : 1 ≤ nxt la a b := by omega
    generalize nxt la a b = q at *
    by_cases h6 : q = 5
    · rw [if_pos h6]
      exact ⟨by simp, by simp, by simp, by simp, by simp; omega, by simp; omega⟩
    · rw [if_neg h6]
      exact ⟨by simp; omega, by simp; omega, by simp; omega, by simp, by simp; omega, by simp; omega⟩

theorem stuff_len (l : List Bool) : l.length ≤ (stuff l).length ∧ 4 * ((stuff l).length - l.length) ≤ l.length - 1 := by
  have h := inv_run l
  unfold stuff
  have h1 := h.lo
  have h2 := h.hi
  have h3 := h.zero'
  refine ⟨h1, ?_⟩
  by_cases e : (run l).2.2 = 0
  · have := h3.1 e; omega
  · omega

/-! ### by recursion -/
def stf : List Bool → Bool → Nat → List Bool
  | [], _, _ => []
  | b :: r, la, a => if nxt la a b = 5 then b :: (!b) :: stf r (!b) 1 else b :: stf r b (nxt la a b)

theorem foldl_stf (l : List Bool) : ∀ o la a, (l.foldl stp (o, la, a)).1 = o ++ stf l la a := by
  induction l with
  | nil => intro o la a; simp [stf]
  | cons b r ih =>
    intro o la a
    rw [List.foldl_cons]
    have e : stp (o, la, a) b = if nxt la a b = 5 then (o ++ [b, !b], !b, 1) else (o ++ [b], b, nxt la a b) := rfl
    rw [e, stf]
    split
    · rw [ih]; simp
    · rw [ih]; simp

theorem stuff_stf (l : List Bool) : stuff l = stf l false 0 := by
  unfold stuff run; rw [foldl_stf]; simp

/-- Taken out again. -/
def unst : List Bool → Bool → Nat → Option (List Bool)
  | [], _, _ => some []
  | [b], la, a => if nxt la a b = 5 then none else some [b]
  | b :: c :: r, la, a =>
    if nxt la a b = 5 then (if c = b then none else (unst r (!b) 1).map (b :: ·))
    else (unst (c :: r) b (nxt la a b)).map (b :: ·)

theorem unst_stf (l : List Bool) : ∀ la a, unst (stf l la a) la a = some l := by
  induction l with
  | nil => intro la a; simp [stf, unst]
  | cons b r ih =>
    intro la a
    unfold stf
    by_cases h : nxt la a b = 5
    · rw [if_pos h, unst, if_pos h, if_neg (by cases b <;> simp), ih]; rfl
    · rw [if_neg h]
      have := ih b (nxt la a b)
      cases e : stf r b (nxt la a b) with
      | nil =>
        rw [e] at this
        simp only [unst, Option.some.injEq] at this
        subst this
        simp [unst, h]
      | cons c t =>
        rw [unst, if_neg h, ← e, this]; rfl

theorem stf_unst : ∀ (m : List Bool) (la : Bool) (a : Nat) (x : List Bool), unst m la a = some x → stf x la a = m
  | [], la, a, x, h => by simp [unst] at h; subst h; rfl
  | [b], la, a, x, h => by
    simp only [unst] at h
    split at h
    · cases h
    · rename_i hn
      simp at h; subst h
      simp [stf, hn]
  | b :: c :: r, la, a, x, h => by
    simp only [unst] at h
    by_cases hn : nxt la a b = 5
    · rw [if_pos hn] at h
      by_cases hc : c = b
      · rw [if_pos hc] at h; cases h
      · rw [if_neg hc] at h
        obtain ⟨y, h1, rfl⟩ := Option.map_eq_some_iff.1 h
        have := stf_unst r (!b) 1 y h1
        have hc' : c = !b := by cases b <;> cases c <;> simp_all
        simp [stf, hn, this, hc']
    · rw [if_neg hn] at h
      obtain ⟨y, h1, rfl⟩ := Option.map_eq_some_iff.1 h
      have := stf_unst (c :: r) b (nxt la a b) y h1
      simp [stf, hn, this]

/-! ### beginnings; turned -/
theorem run_append_pre (l m : List Bool) : ∃ t, (run (l ++ m)).1 = (run l).1 ++ t := by
  refine snoc_ind (p := fun m => ∃ t, (run (l ++ m)).1 = (run l).1 ++ t) ⟨[], by simp⟩ ?_ m
  rintro m x ⟨t, ht⟩
  rw [← List.append_assoc, run_snoc]
  unfold stp
  split
  · exact ⟨t ++ [x, !x], by simp [ht]⟩
  · exact ⟨t ++ [x], by simp [ht]⟩

theorem stuff_take (l : List Bool) (k : Nat) : (stuff l).take (stuff (l.take k)).length = stuff (l.take k) ∧ (stuff (l.take k)).length ≤ (stuff l).length := by
  obtain ⟨t, ht⟩ := run_append_pre (l.take k) (l.drop k)
  rw [List.take_append_drop] at ht
  unfold stuff
  rw [ht]
  simp

theorem nxt_not (la : Bool) (a : Nat) (b : Bool) : nxt (!la) a (!b) = nxt la a b := by
  unfold nxt; cases la <;> cases b <;> simp

theorem stf_not (l : List Bool) : ∀ la a, stf (l.map (!·)) (!la) a = (stf l la a).map (!·) := by
  induction l with
  | nil => intro la a; rfl
  | cons b r ih =>
    intro la a
    simp only [List.map_cons, stf, nxt_not]
    split
    · rw [ih]; simp
    · rw [ih]; simp

theorem nxt_zero (la la' b : Bool) : nxt la 0 b = nxt la' 0 b := by simp [nxt]
theorem stf_zero (l : List Bool) (la la' : Bool) : stf l la 0 = stf l la' 0 := by
  cases l with
  | nil => rfl
  | cons b r => simp only [stf, nxt_zero la la']
theorem stuff_not (l : List Bool) : stuff (l.map (!·)) = (stuff l).map (!·) := by
  rw [stuff_stf, stuff_stf, ← stf_not, stf_zero _ false (!false)]

/-! ### never six alike -/
/-- How many alike end at the place ahead of i (as the law's loop counts). -/
def cnt (s : List Bool) : Nat → Nat
  | 0 => 0
  | i + 1 => if 0 < i ∧ s[i]? = s[i - 1]? then cnt s i + 1 else 1

theorem cnt_append (s t : List Bool) : ∀ i, i ≤ s.length → cnt (s ++ t) i = cnt s i
  | 0, _ => rfl
  | i + 1, h => by
    simp only [cnt]
    rw [cnt_append s t i (by omega), List.getElem?_append_left (by omega), List.getElem?_append_left (by omega)]

theorem cnt_run : ∀ l : List Bool, cnt (run l).1 (run l).1.length = (run l).2.2 ∧ ∀ i, i ≤ (run l).1.length → cnt (run l).1 i ≤ 5 := by
  refine snoc_ind ?_ ?_
  · simp [run, cnt]
  · rintro l b ⟨h1, h2⟩
    have hi := inv_run l
    rw [run_snoc]
    generalize run l = s at *
    obtain ⟨o, la, a⟩ := s
    obtain ⟨g1, g2, _, g3, _, _⟩ := hi
    simp only at *
    -- one bit behind o
    have one : cnt (o ++ [b]) (o.length + 1) = nxt la a b := by
      simp only [cnt]
      rw [cnt_append o [b] _ (Nat.le_refl _), h1]
      unfold nxt
      by_cases ha : 0 < a
      · have hl := g3 ha
        have ho : 0 < o.length := by
          rcases Nat.eq_zero_or_pos o.length with e | e
          · have : o = [] := List.eq_nil_of_length_eq_zero e
            have := g2.2 this
            omega
          · exact e
        rw [List.getLast?_eq_getElem?] at hl
        have e1 : (o ++ [b])[o.length]? = some b := by simp
        have e2 : (o ++ [b])[o.length - 1]? = some la := by rw [List.getElem?_append_left (by omega)]; exact hl
        rw [e1, e2]
        by_cases e : la = b
        · simp [ha, ho, e]
        · have e' : ¬ b = la := fun x => e x.symm
          simp [ha, e, e']
      · have ha0 : a = 0 := by omega
        have := g2.1 ha0
        subst this
        simp [ha0]
    have hle : nxt la a b ≤ 5 := by unfold nxt; split <;> omega
    unfold stp
    simp only
    split
    · rename_i h5
      have e3 : cnt (o ++ [b, !b]) (o.length + 1) = 5 := by
        have := cnt_append (o ++ [b]) [!b] (o.length + 1) (by simp)
        rw [List.append_assoc] at this
        simp only [List.cons_append, List.nil_append] at this
        rw [this, one, h5]
      have e4 : cnt (o ++ [b, !b]) (o.length + 2) = 1 := by
        rw [cnt]
        have x1 : (o ++ [b, !b])[o.length + 1]? = some (!b) := by simp
        have x2 : (o ++ [b, !b])[o.length + 1 - 1]? = some b := by simp
        rw [x1, x2]
        simp
      refine ⟨by simpa using e4, ?_⟩
      intro i hi
      simp only [List.length_append, List.length_cons, List.length_nil] at hi
      by_cases c1 : i ≤ o.length
      · rw [cnt_append _ _ _ c1]; exact h2 i c1
      · by_cases c2 : i = o.length + 1
        · subst c2; simp only [e3]; decide
        · have : i = o.length + 2 := by omega
          subst this; simp only [e4]; decide
    · refine ⟨by simpa using one, ?_⟩
      intro i hi
      simp only [List.length_append, List.length_cons, List.length_nil] at hi
      by_cases c1 : i ≤ o.length
      · rw [cnt_append _ _ _ c1]; exact h2 i c1
      · have : i = o.length + 1 := by omega
        subst this; simp only [one]; exact hle

end Go.Proofs.YtcajdlcijepemaaDoor.Pl
