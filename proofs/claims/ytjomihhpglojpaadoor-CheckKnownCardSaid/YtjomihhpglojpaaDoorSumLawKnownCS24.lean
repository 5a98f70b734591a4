/- Laid together by a program of mine: KnL. -/
import Derived.Test.YtjomihhpglojpaaDoorSumLawKnownCS23
set_option linter.unusedSimpArgs false
set_option linter.unusedVariables false
section
/- CheckKnown's limits, plain. -/
namespace Go.Proofs.YtjomihhpglojpaaDoor
open Go.RowKit
set_option linter.unusedSimpArgs false
set_option linter.unusedVariables false
attribute [local irreducible] wpList wpQuiet wpStill Code.wp Exit.then Exit.inBlock bodyPost Calls Does Does0
set_option maxRecDepth 100000
def decN (s : ByteArray) : Nat := ((s.get! 2).toNat - 97) * 676 + ((s.get! 0).toNat - 97) * 26 + ((s.get! 1).toNat - 97)
theorem dec_nm : ∀ i, i < 600 → decN (nmB i) = i := by
  have h : (List.range 600).all (fun i => decide (decN (nmB i) = i)) = true := by kernel_rfl
  intro i hi
  exact of_decide_eq_true (List.all_eq_true.1 h i (List.mem_range.2 hi))
theorem nm_inj {i k : Nat} (hi : i < 600) (hk : k < 600) (h : nmB i = nmB k) : i = k := by
  rw [← dec_nm i hi, ← dec_nm k hk, h]
/-- The names. -/
def nmL (n : Nat) : List ByteArray := (List.range n).map nmB
theorem nmL_len (n : Nat) : (nmL n).length = n := by simp [nmL]
theorem nmL_succ (n : Nat) : nmL (n + 1) = nmL n ++ [nmB n] := by simp [nmL, List.range_succ]
/-- Signals of one bit each. -/
structure Sig64 (ps : List SigT) : Prop where
  len : ps.length = 64
  sig : ∀ i, i < 64 → ∃ g, sg ps i = oneS (nmB i) (i : Int) 1 g ∧ tx ps i = txA
theorem where64 : ∀ i : Nat, i < 64 → Pl.whereE (i : Int) 1 false 8 = 0 := by
  have h : (List.range 64).all (fun i : Nat => decide (Pl.whereE (i : Int) 1 false 8 = 0)) = true := by kernel_rfl
  intro i hi
  exact of_decide_eq_true (List.all_eq_true.1 h i (List.mem_range.2 hi))
theorem share64 : ∀ j : Nat, j < 64 → ∀ k : Nat, k < j → shareN (k : Int) 1 false (j : Int) 1 false = false := by
  have h : (List.range 64).all (fun j : Nat => (List.range j).all fun k : Nat => !shareN (k : Int) 1 false (j : Int) 1 false) = true := by kernel_rfl
  intro j hj k hk
  have := List.all_eq_true.1 (List.all_eq_true.1 h j (List.mem_range.2 hj)) k (List.mem_range.2 hk)
  simpa using this
theorem msg64 {m : Msg} {ps : List SigT} (hh : headE m = 0) (hs : m.size = 8) (h : Sig64 ps) : msgE m ps = (0, none) := by
  have hl := h.len
  refine msgE_ok hh (fun j hj => ?_) (fun j hj hb => ?_) (fun j hj => ?_)
  · obtain ⟨g, e1, e2⟩ := h.sig j (by omega)
    refine one_of ?_ (fun k hk => ?_) (fun e => ?_)
    · rw [e1, e2, hs]
      exact one_alone g (nm_word j (by omega)) (where64 j (by omega))
    · obtain ⟨g', e3, _⟩ := h.sig k (by omega)
      rw [e1, e3]
      intro e
      have := nm_inj (i := k) (k := j) (by omega) (by omega) e
      omega
    · rw [e1] at e; cases e
  · obtain ⟨g, e1, e2⟩ := h.sig j (by omega)
    have e := hb.1
    rw [e1] at e; cases e
  · rintro ⟨k, hk, _, hsh⟩
    obtain ⟨g, e1, _⟩ := h.sig j (by omega)
    obtain ⟨g', e3, _⟩ := h.sig k (by omega)
    rw [share_dec, e1, e3] at hsh
    have h1 : shareN (k : Int) 1 false (j : Int) 1 false = true := hsh
    rw [share64 j (by omega) k hk] at h1
    cases h1
/-! ### many messages -/
def mgL (i : Nat) : Msg := ⟨(i : Int), 3, (i : Int), false, nmB i, 0, ⟨#[65]⟩, none, 0, 0⟩
def mgT (n : Nat) : List MsgT := (List.range n).map fun i => (mgL i, [])
theorem mgT_len (n : Nat) : (mgT n).length = n := by simp [mgT]
theorem mgT_get {n i : Nat} (h : i < n) : ms_ (mgT n) i = mgL i ∧ mp_ (mgT n) i = [] := by
  unfold ms_ mp_ mgT
  simp [List.getD, h]
theorem mgT_map (n : Nat) : (mgT n).map (·.1) = (List.range n).map mgL := by simp [mgT]
theorem wordA : wordB ⟨#[65]⟩ = true := by kernel_rfl
theorem mg_head {i : Nat} (h : i < 513) : headE (mgL i) = 0 := by
  have h1 := nm_word i h
  unfold headE mostE mgL
  dsimp only
  rw [if_neg (by rw [h1]; decide), if_neg (by rw [if_neg (by decide)]; omega), if_neg (by omega), if_neg (by rw [wordA]; decide), if_neg (by omega)]
theorem mg_msg {i : Nat} (h : i < 513) : msgE (mgL i) [] = (0, none) :=
  msgE_ok (mg_head h) (fun j hj => absurd hj (Nat.not_lt_zero _)) (fun j hj => absurd hj (Nat.not_lt_zero _)) (fun j hj => absurd hj (Nat.not_lt_zero _))
theorem staA : ∀ i, i < ([⟨#[65]⟩] : List ByteArray).length → staE [⟨#[65]⟩] i = 0 := fun i hi => by
  obtain rfl : i = 0 := by have : i < 1 := hi; omega
  rw [sta_C]
  kernel_rfl
theorem db_many {d : Db} (hv : d.hasV = false) : dbE d txA (mgT 513) [] = (5, 512, 3) := by
  unfold dbE
  rw [if_neg (by rw [hv]; exact fun h => Bool.noConfusion h.1), if_neg (by decide), firstAt_none (fun i hi e => e (staA i hi))]
  unfold thenE
  dsimp only
  rw [if_pos (by rw [mgT_len]; decide), (mgT_get (by decide)).1]
  rfl
theorem db_512 {d : Db} (hv : d.hasV = false) : dbE d txA (mgT 512) [] = okE := by
  refine dbE_good ⟨by rw [hv]; exact fun h => Bool.noConfusion h.1, by decide, staA, by rw [mgT_len]; decide, fun i hi => ?_, fun i hi => absurd hi (Nat.not_lt_zero _)⟩
  rw [mgT_len] at hi
  obtain ⟨e1, e2⟩ := mgT_get hi
  rw [dm_of]
  · rfl
  · rw [e1, e2, mg_msg (by omega)]
  · intro j hj
    obtain ⟨e3, _⟩ := mgT_get (show j < 512 by omega)
    rw [e1, e3]
    rintro (h | h)
    · have := nm_inj (i := j) (k := i) (by omega) (by omega) h
      omega
    · have h2 : (j : Int) = (i : Int) := h.1
      omega
  · rw [e1]
    exact .inl (by show (⟨#[65]⟩ : ByteArray) ∈ [(⟨#[65]⟩ : ByteArray)]; simp)
  · intro k hk
    rw [e2] at hk
    exact absurd hk (Nat.not_lt_zero _)
/-! ### many rows -/
def rwL (n : Nat) : List RowV := (List.range n).map fun i : Nat => ⟨(i : Int), ⟨#[]⟩⟩
theorem rwL_len (n : Nat) : (rwL n).length = n := by simp [rwL]
theorem rwL_get {n i : Nat} (h : i < n) : rv_ (rwL n) i = ⟨(i : Int), ⟨#[]⟩⟩ := by
  rw [rv_lt (by rw [rwL_len]; exact h)]
  simp [rwL]
theorem rwL_succ (n : Nat) : rwL (n + 1) = rwL n ++ [⟨(n : Int), ⟨#[]⟩⟩] := by simp [rwL, List.range_succ]
theorem has256 (g : Nat) : ∀ i : Nat, i < 256 → hasB (oneS ⟨#[97]⟩ 0 16 g) (i : Int) = true := by
  have h : (List.range 256).all (fun i : Nat => hasB (oneS ⟨#[97]⟩ 0 16 0) (i : Int)) = true := by kernel_rfl
  intro i hi
  exact List.all_eq_true.1 h i (List.mem_range.2 hi)
theorem rows_256 (g : Nat) : rowsE (oneS ⟨#[97]⟩ 0 16 g) (rwL 256) = 0 := by
  unfold rowsE
  rw [rwL_len, if_neg (by decide), firstAt_none]
  · rfl
  · intro i hi h
    apply h
    unfold rowE
    rw [rwL_get hi, if_neg (fun e => e textE_empty), if_neg (by rw [has256 g i hi]; decide), if_neg]
    rintro ⟨k, hk, e⟩
    rw [rwL_get (by omega)] at e
    have : (k : Int) = (i : Int) := e
    omega
theorem rows_257 (s : Sig) : rowsE s (rwL 257) = 5 := by
  unfold rowsE
  rw [rwL_len, if_pos (by decide)]
theorem db_tab0 {d : Db} {ss : List ByteArray} {ms : List MsgT} {ts : List TabT} {e : Int} (hv : ¬ (d.hasV = true ∧ textE d.vtext ≠ 0)) (hf : ss.length ≤ 64) (hs : ∀ i, i < ss.length → staE ss i = 0) (hm : ms.length ≤ 512) (hmm : ∀ i, i < ms.length → (dmE ss ms i).1 = 0) (ht : 0 < ts.length) (h : dtE ms ts 0 = e) (he : e ≠ 0) :
    dbE d ss ms ts = (e, (ts_ ts 0).line, (ts_ ts 0).col) := by
  unfold dbE
  rw [if_neg hv, if_neg (by omega), firstAt_none (fun i hi x => x (hs i hi)), if_neg (by omega), firstAt_none (fun i hi x => x (hmm i hi)), firstAt_some ht (by rw [h]; exact he) (fun j hj => absurd hj (Nat.not_lt_zero _))]
  show (dtE ms ts 0, _, _) = _
  rw [h]
def M16 (b : Nat) : Msg := twoM (some ⟨b, 0, none⟩) 1 1
def ms16 (b g : Nat) : List MsgT := [(M16 b, [(oneS ⟨#[97]⟩ 0 16 g, txA)])]
theorem dm16 (b g : Nat) : ∀ i, i < (ms16 b g).length → (dmE txA (ms16 b g) i).1 = 0 := fun i hi => by
  obtain rfl : i = 0 := by have : i < 1 := hi; omega
  rw [dm_C (fun k hk => by
    obtain rfl : k = 0 := by have : k < 1 := hk; omega
    exact textE_empty)]
  kernel_rfl
theorem id16 (b g : Nat) : ∀ i, i < (ms16 b g).length → 0 ≤ (ms_ (ms16 b g) i).id ∧ (ms_ (ms16 b g) i).id < 4294967296 := fun i hi => by
  obtain rfl : i = 0 := by have : i < 1 := hi; omega
  exact ⟨by show (0 : Int) ≤ 5; decide, by show (5 : Int) < 4294967296; decide⟩
theorem of16 (b g : Nat) : ofB (ms16 b g) 5 false ⟨#[97]⟩ (oneS ⟨#[97]⟩ 0 16 g) := ⟨0, 0, Nat.one_pos, Nat.one_pos, ⟨rfl, rfl⟩, rfl, rfl⟩
theorem ent16 (b g : Nat) : Entered (ms16 b g) (ms16 b g).length := entered (id16 b g) (dm16 b g)
def tabR (rw : Option Addr) (n c : Nat) : Tab := ⟨0, 0, 5, false, ⟨#[97]⟩, rw, n, c⟩
theorem db_256 {d : Db} (hv : d.hasV = false) (b g : Nat) (rw : Option Addr) (c : Nat) : dbE d txA (ms16 b g) [(tabR rw 256 c, rwL 256)] = okE := by
  refine dbE_good ⟨by rw [hv]; exact fun h => Bool.noConfusion h.1, by decide, staA, by show 1 ≤ 512; decide, dm16 b g, fun i hi => ?_⟩
  obtain rfl : i = 0 := by have : i < 1 := hi; omega
  exact (dt_zero (ent16 b g)).2 ⟨⟨_, of16 b g, rows_256 g⟩, fun ⟨k, hk, _⟩ => absurd hk (Nat.not_lt_zero _)⟩
theorem db_257 {d : Db} (hv : d.hasV = false) (b g : Nat) (rw : Option Addr) (c : Nat) : dbE d txA (ms16 b g) [(tabR rw 257 c, rwL 257)] = (5, 0, 0) :=
  db_tab0 (by rw [hv]; exact fun h => Bool.noConfusion h.1) (by decide) staA (by show 1 ≤ 512; decide) (dm16 b g) Nat.one_pos ((dt_rows (ts := [(tabR rw 257 c, rwL 257)]) (i := 0) (s := oneS ⟨#[97]⟩ 0 16 g) (ent16 b g) (of16 b g) (fun ⟨k, hk, _⟩ => absurd hk (Nat.not_lt_zero _))).trans (rows_257 _)) (by decide)
end Go.Proofs.YtjomihhpglojpaaDoor
end
