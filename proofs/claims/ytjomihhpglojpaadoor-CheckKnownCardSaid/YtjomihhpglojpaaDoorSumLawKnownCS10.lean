/- Laid together by a program of mine: MeetL UnionW Num IsF AsF. -/
import Derived.Test.YtjomihhpglojpaaDoorSumLawKnownCS9
import Derived.Test.YtjomihhpglojpaaDoorSumLawKnownCS5
import Derived.Test.YtjomihhpglojpaaDoorSumLawKnownCS6
import Derived.Test.YtjomihhpglojpaaDoorSumLawKnownCS4
set_option linter.unusedSimpArgs false
set_option linter.unusedVariables false
section
/- Sets of bits, kept while the signals are gone through: which meet. Plain. -/
namespace Go.Proofs.YtjomihhpglojpaaDoor
open Go.RowKit
set_option linter.unusedSimpArgs false
set_option linter.unusedVariables false
attribute [local irreducible] wpList wpQuiet wpStill Code.wp Exit.then Exit.inBlock bodyPost Calls Does Does0
/-- Has the signal this bit? -/
def inB (s : Sig) (x : Nat) : Prop := ∃ l, Pl.bitsOfSig s.start s.size s.mot = .ok l ∧ (x : Int) ∈ l
theorem inB_lt {s : Sig} {x : Nat} (h : inB s x) : x < 64 := by
  obtain ⟨l, h1, h2⟩ := h
  have := (Pl.row_set' h1).2.1 _ h2
  omega
theorem share_in {s t : Sig} : shareB s t ↔ ∃ x, inB s x ∧ inB t x := by
  constructor
  · rintro ⟨l, m, x, h1, h2, h3, h4⟩
    have := (Pl.row_set' h1).2.1 _ h3
    obtain ⟨n, rfl⟩ : ∃ n : Nat, x = (n : Int) := ⟨x.toNat, by omega⟩
    exact ⟨n, ⟨l, h1, h3⟩, ⟨m, h2, h4⟩⟩
  · rintro ⟨x, ⟨l, h1, h3⟩, ⟨m, h2, h4⟩⟩
    exact ⟨l, m, x, h1, h2, h3, h4⟩
/-- The set is the signal's bits. -/
structure SetIs (s : Sig) (t : List Bool) : Prop where
  len : t.length = 64
  at_ : ∀ x, x < 64 → (t.getD x false = true ↔ inB s x)
theorem set_is {s : Sig} {l : List Int} {t : List Bool} (h1 : Pl.bitsOfSig s.start s.size s.mot = .ok l) (h2 : Pl.setOf l = .ok t) : SetIs s t := by
  obtain ⟨_, _, t', e, hl, hg⟩ := Pl.row_set' h1
  rw [h2] at e
  cases e
  refine ⟨hl, fun x hx => ?_⟩
  rw [hg x]
  constructor
  · intro h; exact ⟨l, h1, of_decide_eq_true h⟩
  · rintro ⟨l', e, hm⟩
    rw [h1] at e
    cases e
    exact decide_eq_true hm
structure ApI (ps : List SigT) (k : Nat) (sa sn : List Bool) (kv : List (Int × List Bool)) : Prop where
  la : sa.length = 64
  ln : sn.length = 64
  lk : ∀ v, (kvAt v kv).length = 64
  al : ∀ x, x < 64 → (sa.getD x false = true ↔ ∃ j, j < k ∧ (sg ps j).role ≠ 2 ∧ inB (sg ps j) x)
  an : ∀ x, x < 64 → (sn.getD x false = true ↔ ∃ j, j < k ∧ (sg ps j).role = 2 ∧ inB (sg ps j) x)
  br : ∀ v x, x < 64 → ((kvAt v kv).getD x false = true ↔ ∃ j, j < k ∧ (sg ps j).role = 2 ∧ (sg ps j).branch = v ∧ inB (sg ps j) x)
  no : ∀ j, j < k → ¬ meetB ps j
  kl : kv.length ≤ k
theorem ApI.zero (ps : List SigT) : ApI ps 0 Pl.emptyS Pl.emptyS [] := by
  have e : ∀ x, ¬ Pl.emptyS.getD x false = true := fun x => by rw [Pl.emptyS_get]; simp
  exact ⟨emptyS_len, emptyS_len, fun _ => emptyS_len, fun x _ => ⟨fun h => absurd h (e x), fun ⟨j, hj, _⟩ => absurd hj (Nat.not_lt_zero _)⟩, fun x _ => ⟨fun h => absurd h (e x), fun ⟨j, hj, _⟩ => absurd hj (Nat.not_lt_zero _)⟩, fun v x _ => ⟨fun h => absurd h (e x), fun ⟨j, hj, _⟩ => absurd hj (Nat.not_lt_zero _)⟩, fun j hj => absurd hj (Nat.not_lt_zero _), Nat.le_refl _⟩
theorem or_get {s t : List Bool} {x : Nat} (h : x < 64) : (Pl.zipS (· || ·) s t).getD x false = true ↔ (s.getD x false = true ∨ t.getD x false = true) := by
  rw [Pl.zipS_get _ _ _ _ h, Bool.or_eq_true]
theorem and_empty {s t : List Bool} : Pl.zipS (· && ·) s t = Pl.emptyS ↔ ∀ x, x < 64 → ¬ (s.getD x false = true ∧ t.getD x false = true) := by
  constructor
  · intro h x hx ⟨h1, h2⟩
    have := Pl.zipS_get (· && ·) s t x hx
    rw [h, Pl.emptyS_get, h1, h2] at this
    simp at this
  · intro h
    refine Pl.bools_ext (Pl.zipS_len _ _ _) emptyS_len fun x hx => ?_
    rw [Pl.zipS_get _ _ _ _ hx, Pl.emptyS_get]
    have := h x hx
    cases h1 : s.getD x false <;> cases h2 : t.getD x false <;> simp_all
/-- What signal number k must not meet. -/
def withS (ps : List SigT) (k : Nat) (sa sn : List Bool) (kv : List (Int × List Bool)) : List Bool :=
  if (sg ps k).role = 2 then Pl.zipS (· || ·) sa (kvAt (sg ps k).branch kv) else Pl.zipS (· || ·) sa sn
theorem ApI.meet {ps : List SigT} {k : Nat} {sa sn : List Bool} {kv : List (Int × List Bool)} (h : ApI ps k sa sn kv) {t : List Bool} (ht : SetIs (sg ps k) t) : Pl.zipS (· && ·) t (withS ps k sa sn kv) = Pl.emptyS ↔ ¬ meetB ps k := by
  have key : ∀ x, x < 64 → ((withS ps k sa sn kv).getD x false = true ↔ ∃ j, j < k ∧ togB (sg ps j) (sg ps k) = true ∧ inB (sg ps j) x) := by
    intro x hx
    unfold withS togB
    simp only [decide_eq_true_eq]
    by_cases hr : (sg ps k).role = 2
    · rw [if_pos hr, or_get hx, h.al x hx, h.br _ x hx]
      constructor
      · rintro (⟨j, a, b, c⟩ | ⟨j, a, b, c, d⟩)
        · exact ⟨j, a, .inl b, c⟩
        · exact ⟨j, a, .inr (.inr c), d⟩
      · rintro ⟨j, a, b, c⟩
        by_cases e : (sg ps j).role = 2
        · rcases b with b | b | b
          · exact absurd e b
          · exact absurd hr b
          · exact .inr ⟨j, a, e, b, c⟩
        · exact .inl ⟨j, a, e, c⟩
    · rw [if_neg hr, or_get hx, h.al x hx, h.an x hx]
      constructor
      · rintro (⟨j, a, b, c⟩ | ⟨j, a, b, c⟩)
        · exact ⟨j, a, .inl b, c⟩
        · exact ⟨j, a, .inr (.inl hr), c⟩
      · rintro ⟨j, a, b, c⟩
        by_cases e : (sg ps j).role = 2
        · exact .inr ⟨j, a, e, c⟩
        · exact .inl ⟨j, a, e, c⟩
  rw [and_empty]
  constructor
  · rintro hx ⟨j, hj, ht', hs⟩
    obtain ⟨x, h1, h2⟩ := share_in.1 hs
    exact hx x (inB_lt h2) ⟨(ht.at_ x (inB_lt h2)).2 h2, (key x (inB_lt h2)).2 ⟨j, hj, ht', h1⟩⟩
  · rintro hn x hx ⟨h1, h2⟩
    obtain ⟨j, hj, ht', hi⟩ := (key x hx).1 h2
    exact hn ⟨j, hj, ht', share_in.2 ⟨x, hi, (ht.at_ x hx).1 h1⟩⟩
theorem ex_succ {k : Nat} {p : Nat → Prop} : (∃ j, j < k + 1 ∧ p j) ↔ (∃ j, j < k ∧ p j) ∨ p k := by
  constructor
  · rintro ⟨j, hj, hp⟩
    by_cases e : j = k
    · subst e; exact .inr hp
    · exact .inl ⟨j, by omega, hp⟩
  · rintro (⟨j, hj, hp⟩ | hp)
    · exact ⟨j, by omega, hp⟩
    · exact ⟨k, by omega, hp⟩
theorem ApI.always {ps : List SigT} {k : Nat} {sa sn : List Bool} {kv : List (Int × List Bool)} (h : ApI ps k sa sn kv) {t : List Bool} (ht : SetIs (sg ps k) t) (hr : (sg ps k).role ≠ 2) (hn : ¬ meetB ps k) : ApI ps (k + 1) (Pl.zipS (· || ·) sa t) sn kv := by
  refine ⟨Pl.zipS_len _ _ _, h.ln, h.lk, fun x hx => ?_, fun x hx => ?_, fun v x hx => ?_, fun j hj => ?_, Nat.le_succ_of_le h.kl⟩
  · rw [or_get hx, h.al x hx, ht.at_ x hx, ex_succ]
    exact or_congr Iff.rfl ⟨fun e => ⟨hr, e⟩, fun e => e.2⟩
  · rw [h.an x hx, ex_succ]
    exact ⟨.inl, fun e => e.elim id fun e => absurd e.1 hr⟩
  · rw [h.br v x hx, ex_succ]
    exact ⟨.inl, fun e => e.elim id fun e => absurd e.1 hr⟩
  · by_cases e : j = k
    · subst e; exact hn
    · exact h.no j (by omega)
theorem ApI.branch {ps : List SigT} {k : Nat} {sa sn : List Bool} {kv : List (Int × List Bool)} (h : ApI ps k sa sn kv) {t : List Bool} (ht : SetIs (sg ps k) t) (hr : (sg ps k).role = 2) (hn : ¬ meetB ps k) :
    ApI ps (k + 1) sa (Pl.zipS (· || ·) sn t) (((sg ps k).branch, Pl.zipS (· || ·) (kvAt (sg ps k).branch kv) t) :: kv) := by
  refine ⟨h.la, Pl.zipS_len _ _ _, fun v => ?_, fun x hx => ?_, fun x hx => ?_, fun v x hx => ?_, fun j hj => ?_, by simpa using h.kl⟩
  · unfold kvAt
    split
    · exact Pl.zipS_len _ _ _
    · exact h.lk v
  · rw [h.al x hx, ex_succ]
    exact ⟨.inl, fun e => e.elim id fun e => absurd hr e.1⟩
  · rw [or_get hx, h.an x hx, ht.at_ x hx, ex_succ]
    exact or_congr Iff.rfl ⟨fun e => ⟨hr, e⟩, fun e => e.2⟩
  · unfold kvAt
    rw [ex_succ]
    by_cases e : v = (sg ps k).branch
    · subst e
      rw [if_pos rfl, or_get hx, h.br _ x hx, ht.at_ x hx]
      exact or_congr Iff.rfl ⟨fun e => ⟨hr, rfl, e⟩, fun e => e.2.2⟩
    · rw [if_neg e, h.br v x hx]
      exact ⟨.inl, fun e' => e'.elim id fun e' => absurd e'.2.1.symm e⟩
  · by_cases e : j = k
    · subst e; exact hn
    · exact h.no j (by omega)
theorem withS_len {ps : List SigT} {k : Nat} {sa sn : List Bool} {kv : List (Int × List Bool)} : (withS ps k sa sn kv).length = 64 := by
  unfold withS
  split <;> exact Pl.zipS_len _ _ _
end Go.Proofs.YtjomihhpglojpaaDoor
end
section
/- bits.Union and bits.Meet, walked. -/
namespace Go.Proofs.YtjomihhpglojpaaDoor
open Go.RowKit
set_option linter.unusedSimpArgs false
set_option linter.unusedVariables false
attribute [local irreducible] wpList wpQuiet wpStill Code.wp Exit.then Exit.inBlock bodyPost Calls Does Does0

set_option maxHeartbeats 4000000 in
theorem union_of (w : World) (s t : List Bool) (hs : s.length = 64) (ht : t.length = 64) :
    Ret Tryd.prog 42 #[.agg (setC s), .agg (setC t)] w (fun v w' => v = .agg (setC (Pl.zipS (· || ·) s t)) ∧ Below w.heap.size w w') := by
  refine enter2 Tryd.func42 rfl 20 rfl 22 rfl (fun a hF => ?_)
  repeat (first | refine c_seq ?_ | refine c_region _ ?_)
  refine st_box hF (cs := setC s) rfl (k := fun a w1 hg2 hgr1 hsz1 hF => ?_)
  have hb1 : Below w.heap.size w w1 := (Below.refl _ w).grown hgr1 (Nat.le_refl _) (fun k hk => by cases hk)
  skip
  refine st_box hF (cs := setC t) rfl (k := fun a w2 hg3 hgr2 hsz2 hF => ?_)
  have hb2 : Below w.heap.size w w2 := hb1.grown hgr2 hb1.size (fun k hk => by cases hk)
  replace hg2 := blk_kept hg2 hgr2 (by simp)
  skip
  refine st_alloc hF inf85 (k := fun a w3 hg4 hgr3 hsz3 hF => ?_)
  replace hg4 : SetIn w3 w2.heap.size Pl.emptyS := hg4
  have hb3 : Below w.heap.size w w3 := hb2.grown hgr3 hb2.size (fun k hk => by cases hk)
  replace hg2 := blk_kept hg2 hgr3 (by simp)
  replace hg3 := blk_kept hg3 hgr3 (by simp)
  repeat (first | refine c_seq ?_ | refine c_block ?_ | refine c_region _ ?_ | refine wpList_nil ?_ | refine c_then ?_ | ((apply st hF); (first | exact d_move | exact d_loadAgg (agg _ rfl) (isz _ _ rfl) ((setC_size t).trans ht) (cells_at hg3)); clear hF; clear a; intro a hF))
  refine c_loop (fun n a wr => ∃ k, k ≤ 64 ∧ n = 64 - k ∧ Fr 22 [(2, .pointer (some ⟨w.heap.size, 0, none⟩)), (4, .pointer (some ⟨w2.heap.size, 0, none⟩)), (7, .agg (setC t)), (8, .int .i64 (k : Nat))] a ∧
    SetIn wr w.heap.size (Pl.zipTo (· || ·) s t k) ∧ SetIn wr w2.heap.size Pl.emptyS ∧ Below w.heap.size w wr) 64
    ⟨0, by omega, rfl, hF.keep' ⟨rfl, rfl, rfl, rfl, trivial⟩, by rw [Pl.zipTo_zero _ _ hs]; exact hg2, hg4, hb3⟩ ?_
  clear hF a hg2 hg4 hb3 hg3 hgr3 hsz3 w3
  rintro n a wr ⟨k, hk, rfl, hF, hg2, hg4, hbel⟩
  have hz := hbel.size
  have hzl := Pl.zipTo_len (· || ·) s t k
  by_cases hlt : k < 64
  · have hk' : k < t.length := by omega
    have hks : k < s.length := by omega
    have hget := setC_get hk'
    have htk : t.getD k false = t[k] := by simp [List.getD, hk']
    have c2 : wr.cell? ⟨w.heap.size, 0 + k, none⟩ = some (.bool (s.getD k false)) := by
      have := cells_at hg2 k _ (setC_get (by omega))
      rw [Pl.zipTo_get _ _ _ _ _ hlt, if_neg (by omega)] at this
      exact this
    have hsucc := Pl.zipTo_succ (· || ·) s t k hlt
    rw [htk] at hsucc
    cases hb : s.getD k false with
    | true =>
      rw [hb] at c2 hsucc
      repeat (first | refine c_seq ?_ | refine c_block ?_ | refine c_region _ ?_ | refine wpList_nil ?_ | refine c_then ?_ | refine wp_skip ?_ | ((apply st hF); (first | exact d_move | exact d_assign | exact d_pickT | exact d_cmpT | exact d_indexA (und _ _ rfl) (und _ _ rfl) rfl (isz _ _ rfl) hget | exact d_indexAddrA (und _ _ rfl) (isz _ _ rfl) | exact d_load (und _ _ rfl) c2); clear hF; clear a; intro a hF) | ((apply stm hF); clear hF; clear a; intro a hF) | (apply c_cond_t hF; exact rfl; first | exact rfl | assumption))
      refine st_store hF (isz _ _ rfl) hg2 (i := 0 + k) (by rw [setC_size]; omega) rfl rfl rfl fun a w5 hg5 hgr5 hsz5 hF => ?_
      rw [setC_set] at hg5
      repeat (first | refine c_region _ ?_ | refine wpList_nil ?_ | refine c_then ?_ | refine c_in ?_ | ((apply st hF); (first | exact d_move | exact d_add); clear hF; clear a; intro a hF))
      refine ⟨64 - (k + 1), by omega, k + 1, by omega, rfl, hF.keep' ⟨rfl, rfl, rfl, rfl, trivial⟩, ?_, blk_kept hg4 hgr5 (by simp; omega), hbel.grown hgr5 hz (fun k hk => by cases hk; omega)⟩
      rw [← hsucc]; exact hg5
    | false =>
      rw [hb] at c2 hsucc
      repeat (first | refine c_seq ?_ | refine c_block ?_ | refine c_region _ ?_ | refine wpList_nil ?_ | refine c_then ?_ | refine wp_skip ?_ | ((first | apply st hF | apply stg hF); (first | exact d_move | exact d_assign | exact d_pickF | exact d_cmpT | exact d_indexA (und _ _ rfl) (und _ _ rfl) rfl (isz _ _ rfl) hget | exact d_indexAddrA (und _ _ rfl) (isz _ _ rfl) | exact d_load (und _ _ rfl) c2); clear hF; clear a; intro a hF) | (apply c_cond_t hF; exact rfl; first | exact rfl | assumption))
      refine st_store hF (isz _ _ rfl) hg2 (i := 0 + k) (by rw [setC_size]; omega) rfl rfl rfl fun a w5 hg5 hgr5 hsz5 hF => ?_
      rw [setC_set] at hg5
      repeat (first | refine c_region _ ?_ | refine wpList_nil ?_ | refine c_then ?_ | refine c_in ?_ | ((apply st hF); (first | exact d_move | exact d_add); clear hF; clear a; intro a hF))
      refine ⟨64 - (k + 1), by omega, k + 1, by omega, rfl, hF.keep' ⟨rfl, rfl, rfl, rfl, trivial⟩, ?_, blk_kept hg4 hgr5 (by simp; omega), hbel.grown hgr5 hz (fun k hk => by cases hk; omega)⟩
      rw [← hsucc]; unfold SetIn; simpa using hg5
  · obtain rfl : k = 64 := by omega
    rw [Pl.zipTo_end] at hg2
    have hzl := Pl.zipS_len (· || ·) s t
    repeat (first | refine c_seq ?_ | refine c_region _ ?_ | refine wpList_nil ?_ | refine c_then ?_ | refine c_then_exit ?_ | refine c_in_hit ?_ | refine wp_exit ?_ | ((apply st hF); (first | exact d_cmpF | exact d_loadAgg (agg _ rfl) (isz _ _ rfl) ((setC_size _).trans hzl) (cells_at hg2)); clear hF; clear a; intro a hF) | (apply c_cond_f hF; exact rfl; first | exact rfl | assumption))
    refine st_storeAgg hF (cs := setC (Pl.zipS (· || ·) s t)) (isz _ _ rfl) ((setC_size _).trans hzl) rfl hg4 (setC_cells _) (k := fun a w5 hg5 hgr5 hsz5 hF => ?_)
    repeat (first | refine wpList_nil ?_ | refine c_then ?_ | refine wp_ret ?_)
    exact ret_c hF rfl (agg _ rfl) (by rw [setC_size, hzl]; exact isz _ _ rfl) hg5 rfl ⟨rfl, hbel.grown hgr5 hz (fun k hk => by cases hk; omega)⟩

set_option maxHeartbeats 4000000 in
theorem meet_of (w : World) (s t : List Bool) (hs : s.length = 64) (ht : t.length = 64) :
    Ret Tryd.prog 41 #[.agg (setC s), .agg (setC t)] w (fun v w' => v = .agg (setC (Pl.zipS (· && ·) s t)) ∧ Below w.heap.size w w') := by
  refine enter2 Tryd.func41 rfl 20 rfl 22 rfl (fun a hF => ?_)
  repeat (first | refine c_seq ?_ | refine c_region _ ?_)
  refine st_box hF (cs := setC s) rfl (k := fun a w1 hg2 hgr1 hsz1 hF => ?_)
  have hb1 : Below w.heap.size w w1 := (Below.refl _ w).grown hgr1 (Nat.le_refl _) (fun k hk => by cases hk)
  skip
  refine st_box hF (cs := setC t) rfl (k := fun a w2 hg3 hgr2 hsz2 hF => ?_)
  have hb2 : Below w.heap.size w w2 := hb1.grown hgr2 hb1.size (fun k hk => by cases hk)
  replace hg2 := blk_kept hg2 hgr2 (by simp)
  skip
  refine st_alloc hF inf85 (k := fun a w3 hg4 hgr3 hsz3 hF => ?_)
  replace hg4 : SetIn w3 w2.heap.size Pl.emptyS := hg4
  have hb3 : Below w.heap.size w w3 := hb2.grown hgr3 hb2.size (fun k hk => by cases hk)
  replace hg2 := blk_kept hg2 hgr3 (by simp)
  replace hg3 := blk_kept hg3 hgr3 (by simp)
  repeat (first | refine c_seq ?_ | refine c_block ?_ | refine c_region _ ?_ | refine wpList_nil ?_ | refine c_then ?_ | ((apply st hF); (first | exact d_move | exact d_loadAgg (agg _ rfl) (isz _ _ rfl) ((setC_size t).trans ht) (cells_at hg3)); clear hF; clear a; intro a hF))
  refine c_loop (fun n a wr => ∃ k, k ≤ 64 ∧ n = 64 - k ∧ Fr 22 [(2, .pointer (some ⟨w.heap.size, 0, none⟩)), (4, .pointer (some ⟨w2.heap.size, 0, none⟩)), (7, .agg (setC t)), (8, .int .i64 (k : Nat))] a ∧
    SetIn wr w.heap.size (Pl.zipTo (· && ·) s t k) ∧ SetIn wr w2.heap.size Pl.emptyS ∧ Below w.heap.size w wr) 64
    ⟨0, by omega, rfl, hF.keep' ⟨rfl, rfl, rfl, rfl, trivial⟩, by rw [Pl.zipTo_zero _ _ hs]; exact hg2, hg4, hb3⟩ ?_
  clear hF a hg2 hg4 hb3 hg3 hgr3 hsz3 w3
  rintro n a wr ⟨k, hk, rfl, hF, hg2, hg4, hbel⟩
  have hz := hbel.size
  have hzl := Pl.zipTo_len (· && ·) s t k
  by_cases hlt : k < 64
  · have hk' : k < t.length := by omega
    have hks : k < s.length := by omega
    have hget := setC_get hk'
    have htk : t.getD k false = t[k] := by simp [List.getD, hk']
    have c2 : wr.cell? ⟨w.heap.size, 0 + k, none⟩ = some (.bool (s.getD k false)) := by
      have := cells_at hg2 k _ (setC_get (by omega))
      rw [Pl.zipTo_get _ _ _ _ _ hlt, if_neg (by omega)] at this
      exact this
    have hsucc := Pl.zipTo_succ (· && ·) s t k hlt
    rw [htk] at hsucc
    cases hb : s.getD k false with
    | true =>
      rw [hb] at c2 hsucc
      repeat (first | refine c_seq ?_ | refine c_block ?_ | refine c_region _ ?_ | refine wpList_nil ?_ | refine c_then ?_ | refine wp_skip ?_ | ((first | apply st hF | apply stg hF); (first | exact d_move | exact d_assign | exact d_pickT | exact d_cmpT | exact d_indexA (und _ _ rfl) (und _ _ rfl) rfl (isz _ _ rfl) hget | exact d_indexAddrA (und _ _ rfl) (isz _ _ rfl) | exact d_load (und _ _ rfl) c2); clear hF; clear a; intro a hF) | (apply c_cond_t hF; exact rfl; first | exact rfl | assumption))
      refine st_store hF (isz _ _ rfl) hg2 (i := 0 + k) (by rw [setC_size]; omega) rfl rfl rfl fun a w5 hg5 hgr5 hsz5 hF => ?_
      rw [setC_set] at hg5
      repeat (first | refine c_region _ ?_ | refine wpList_nil ?_ | refine c_then ?_ | refine c_in ?_ | ((apply st hF); (first | exact d_move | exact d_add); clear hF; clear a; intro a hF))
      refine ⟨64 - (k + 1), by omega, k + 1, by omega, rfl, hF.keep' ⟨rfl, rfl, rfl, rfl, trivial⟩, ?_, blk_kept hg4 hgr5 (by simp; omega), hbel.grown hgr5 hz (fun k hk => by cases hk; omega)⟩
      rw [← hsucc]; unfold SetIn; simpa using hg5
    | false =>
      rw [hb] at c2 hsucc
      repeat (first | refine c_seq ?_ | refine c_block ?_ | refine c_region _ ?_ | refine wpList_nil ?_ | refine c_then ?_ | refine wp_skip ?_ | ((apply st hF); (first | exact d_move | exact d_assign | exact d_pickF | exact d_cmpT | exact d_indexA (und _ _ rfl) (und _ _ rfl) rfl (isz _ _ rfl) hget | exact d_indexAddrA (und _ _ rfl) (isz _ _ rfl) | exact d_load (und _ _ rfl) c2); clear hF; clear a; intro a hF) | ((apply stm hF); clear hF; clear a; intro a hF) | (apply c_cond_t hF; exact rfl; first | exact rfl | assumption))
      refine st_store hF (isz _ _ rfl) hg2 (i := 0 + k) (by rw [setC_size]; omega) rfl rfl rfl fun a w5 hg5 hgr5 hsz5 hF => ?_
      rw [setC_set] at hg5
      repeat (first | refine c_region _ ?_ | refine wpList_nil ?_ | refine c_then ?_ | refine c_in ?_ | ((apply st hF); (first | exact d_move | exact d_add); clear hF; clear a; intro a hF))
      refine ⟨64 - (k + 1), by omega, k + 1, by omega, rfl, hF.keep' ⟨rfl, rfl, rfl, rfl, trivial⟩, ?_, blk_kept hg4 hgr5 (by simp; omega), hbel.grown hgr5 hz (fun k hk => by cases hk; omega)⟩
      rw [← hsucc]; exact hg5
  · obtain rfl : k = 64 := by omega
    rw [Pl.zipTo_end] at hg2
    have hzl := Pl.zipS_len (· && ·) s t
    repeat (first | refine c_seq ?_ | refine c_region _ ?_ | refine wpList_nil ?_ | refine c_then ?_ | refine c_then_exit ?_ | refine c_in_hit ?_ | refine wp_exit ?_ | ((apply st hF); (first | exact d_cmpF | exact d_loadAgg (agg _ rfl) (isz _ _ rfl) ((setC_size _).trans hzl) (cells_at hg2)); clear hF; clear a; intro a hF) | (apply c_cond_f hF; exact rfl; first | exact rfl | assumption))
    refine st_storeAgg hF (cs := setC (Pl.zipS (· && ·) s t)) (isz _ _ rfl) ((setC_size _).trans hzl) rfl hg4 (setC_cells _) (k := fun a w5 hg5 hgr5 hsz5 hF => ?_)
    repeat (first | refine wpList_nil ?_ | refine c_then ?_ | refine wp_ret ?_)
    exact ret_c hF rfl (agg _ rfl) (by rw [setC_size, hzl]; exact isz _ _ rfl) hg5 rfl ⟨rfl, hbel.grown hgr5 hz (fun k hk => by cases hk; omega)⟩
end Go.Proofs.YtjomihhpglojpaaDoor
end
section
/- busbarkit.Num: an error's number. -/
namespace Go.Proofs.YtjomihhpglojpaaDoor
open Go.RowKit
set_option linter.unusedSimpArgs false
set_option linter.unusedVariables false
attribute [local irreducible] wpList wpQuiet wpStill Code.wp Exit.then Exit.inBlock bodyPost Calls Does Does0

theorem num_nil (w : World) : Ret Tryd.prog 13 #[.nilIface] w (fun v w' => v = .int .i64 0 ∧ w' = w) := by
  refine enter1 Tryd.func13 rfl 25 rfl 26 rfl (fun a hF => ?_)
  repeat (first | refine c_seq ?_ | refine c_region _ ?_ | refine wpList_nil ?_ | refine c_then ?_ | refine c_then_ret ?_ | refine wp_ret ?_ | ((apply st hF); (first | exact d_move | exact d_assign | exact d_eqN (ifc _ rfl)); clear hF; clear a; intro a hF) | (apply c_cond_t hF; exact rfl; first | exact rfl | assumption))
  exact ret1 hF rfl rfl ⟨rfl, rfl⟩

end Go.Proofs.YtjomihhpglojpaaDoor
end
section
/- errors.Is over a fault: an error with a place, which wraps its number. busbarkit.Num of it. -/
namespace Go.Proofs.YtjomihhpglojpaaDoor
open Go.RowKit Go.Extern.Stop Go.Stop Go.Extern

/-- A fault, as an error. -/
def fltV (n x y : Int) : Value := .iface 111 (.agg #[.int .i64 n, .int .i64 x, .int .i64 y])

theorem noIsF (v : Value) (xT : TypeId) (w : World) : (Instr.typeAssert (.iface 111 v) xT 156 true).run Tryd.prog w = .ok (.tuple #[.nilIface, .bool false]) w := run_typeAssert_lacksB Tryd.underlying156 (by kernel_rfl) (by kernel_rfl) v xT w
theorem unwrapF (v : Value) (xT : TypeId) (w : World) : (Instr.typeAssert (.iface 111 v) xT 159 true).run Tryd.prog w = .ok (.tuple #[.iface 111 v, .bool true]) w := run_typeAssert_hasB Tryd.underlying159 (by kernel_rfl) v xT w
theorem isMethodUnwrap (v : Value) (w : World) : (Go.method 338 111 v "Unwrap").run Tryd.prog w = .ok (143, v) w := by kernel_rfl
theorem isNeF (v u : Value) (w : World) : (binOp .eql 30 (.iface 111 v) (.iface 73 u)).run Tryd.prog w = .ok (.bool false) w := run_eql_iface_types _ _ v u Tryd.underlying30 (by decide) w

section
open Go.RowKit
set_option linter.unusedSimpArgs false
set_option linter.unusedVariables false
attribute [local irreducible] wpList wpQuiet wpStill Code.wp Exit.then Exit.inBlock bodyPost Calls Does Does0
theorem unwrapF_ok (w : World) (n x y : Int) : Ret Tryd.prog 143 #[.agg #[.int .i64 n, .int .i64 x, .int .i64 y]] w (fun v w' => v = .iface 73 (.int .i64 n) ∧ w' = w.alloc (.cells #[.int .i64 n, .int .i64 x, .int .i64 y] 111)) := by
  refine enter1 Tryd.func143 rfl 5 rfl 6 rfl (fun a hF => ?_)
  repeat (first | refine c_seq ?_ | refine c_region _ ?_)
  refine st hF (d_box rfl) rfl (fun a hF => ?_)
  have c0 : (w.alloc (.cells (Value.agg #[.int .i64 n, .int .i64 x, .int .i64 y]).cells 111)).cell? ⟨w.heap.size, 0, none⟩ = some (.int .i64 n) := cell_at (heap_alloc_new w _) rfl
  repeat (first | refine c_seq ?_ | refine c_region _ ?_ | refine wpList_nil ?_ | refine c_then ?_ | refine wp_ret ?_ | ((apply st hF); (first | exact d_assign | exact d_fieldAddr (fld _ _ _ _ rfl) (isz _ _ rfl) | exact d_makeI (con _ rfl) | exact d_load (und _ _ rfl) c0); clear hF; clear a; intro a hF))
  exact ret1 hF rfl rfl ⟨rfl, rfl⟩
end

set_option maxRecDepth 100000 in
set_option maxHeartbeats 8000000 in
theorem isF_calls (n x y b : Int) (w : World) :
    Calls Tryd.prog 37 #[fltV n x y, .iface 73 (.int .i64 b)] w fun e w' => e = .returned (.bool (n == b)) ∧ w' = w.alloc (.cells #[.int .i64 n, .int .i64 x, .int .i64 y] 111) := by
  unfold fltV
  have h8 := @run_callFunc_extern Tryd.prog 63 _ Extern.ReflectliteType.typeOf Tryd.func63 (by kernel_rfl) (by kernel_rfl) (by kernel_rfl) (by kernel_rfl)
  have tT := isTypeOf
  have cT := isComparable
  have mR := isMethodComparable
  have nE := noIsE
  have uE := noUnwrapE
  have vE := noUnwrapsE
  have nF := noIsF
  have uF := unwrapF
  have mU := isMethodUnwrap
  have qF := isNeF
  have heq := fun w => Go.Lib.run_eql_iface_int (P := Tryd.prog) w (t := 30) (tx := 73) (k := .i64) n b Tryd.underlying30 isCompE Tryd.underlying73
  cases hab : (n == b) with
  | true =>
    rw [hab] at heq
    go_enter Tryd.func37, Tryd.ntmps37
    go_wp2
    refine wp_loop_rounds 2 ?_
    rw [rounds_succ]
    go_wp2_with (first | (go_at_call 143; refine Calls.mono (unwrapF_ok _ n x y) ?_; rintro e w' ⟨v, rfl, rfl, rfl⟩) | go_in)
    rw [rounds_succ]
    go_wp2
    go_ret
    exact ⟨rfl, rfl⟩
  | false =>
    rw [hab] at heq
    go_enter Tryd.func37, Tryd.ntmps37
    go_wp2
    refine wp_loop_rounds 2 ?_
    rw [rounds_succ]
    go_wp2_with (first | (go_at_call 143; refine Calls.mono (unwrapF_ok _ n x y) ?_; rintro e w' ⟨v, rfl, rfl, rfl⟩) | go_in)
    rw [rounds_succ]
    go_wp2
    go_ret
    exact ⟨rfl, rfl⟩
theorem isF_ok (w : World) (n x y b : Int) : Ret Tryd.prog 37 #[fltV n x y, .iface 73 (.int .i64 b)] w (fun v w' => v = .bool (n == b) ∧ Below w.heap.size w w') :=
  Calls.mono (isF_calls n x y b w) fun e w' h => ⟨_, h.1, rfl, by rw [h.2]; exact (Below.refl _ w).grown (World.grownBy_alloc _ _ none) (Nat.le_refl _) (fun k hk => by cases hk)⟩
end Go.Proofs.YtjomihhpglojpaaDoor
end
section
/- errors.As at a target of type *api.Fault, over a fault: it is found, and lies in the target. -/
namespace Go.Proofs.YtjomihhpglojpaaDoor
set_option maxRecDepth 100000
open Go.RowKit Go.Extern.Stop Go.Stop Go.Extern

theorem asTypeOfF (v : Value) (w : World) : (ReflectliteType.typeOf #[.iface 111 v]).run Tryd.prog w = .ok (.iface 154 (.agg #[.pointer (some ⟨3, 111, none⟩)])) w := by kernel_rfl
theorem asAssignF (w : World) : (ReflectliteType.relation "AssignableTo" ReflectliteType.assignableTo #[.agg #[.pointer (some ⟨3, 111, none⟩)], .iface 154 (.agg #[.pointer (some ⟨3, 111, none⟩)])]).run Tryd.prog w = .ok (.bool true) w := by kernel_rfl
theorem asValueOfF (n x y : Int) (w : World) : (ReflectliteValue.unpack (.iface 111 (.agg #[.int .i64 n, .int .i64 x, .int .i64 y]))).run Tryd.prog w
    = .ok (.agg #[.pointer (some ⟨3, 111, none⟩), .pointer (some ⟨w.heap.size, 0, none⟩), .int .u64 153]) (w.alloc (.cells #[.int .i64 n, .int .i64 x, .int .i64 y] 111)) := by kernel_rfl
theorem asElemOfP (w : World) : (Rtype.elem? 113).run Tryd.prog w = .ok (some 111) w := by kernel_rfl
theorem asMkF (p : Addr) (w : World) : (ReflectliteValue.mk 111 p ReflectliteValue.flagAddr).run Tryd.prog w = .ok (.agg #[.pointer (some ⟨3, 111, none⟩), .pointer (some p), .int .u64 409]) w := by kernel_rfl
theorem asElemV (a p : Addr) (W : World) (ha : W.cell? a = some (.pointer (some p))) :
    (ReflectliteValue.method (ReflectliteValue.valueError "reflectlite.Value.Elem" 0) ReflectliteValue.elem #[.agg #[.pointer (some ⟨3, 113, none⟩), .pointer (some a), .int .u64 150]]).run Tryd.prog W
      = .ok (.agg #[.pointer (some ⟨3, 111, none⟩), .pointer (some p), .int .u64 409]) W := by
  rw [rlmV]
  simp only [Sem.run_bind, asPartsP, Result.andThen]
  simp [ReflectliteValue.elem, loadVar, isAgg, underlying, Tryd.underlying113, ha, Result.andThen, asElemOfP, asMkF]
theorem asRls (v x : Value) : ReflectliteValue.set #[v, x] = (do
    let (some (dst, a, fl), some (src, b, _)) := (← ReflectliteValue.parts v, ← ReflectliteValue.parts x)
      | unsupported (.noEntry "extern/(internal/reflectlite.Value).Set.zeroValue")
    if fl / ReflectliteValue.flagAddr % 2 == 0 then unsupported (.noEntry "extern/(internal/reflectlite.Value).Set.unaddressable")
    let val ← loadVar src b
    if ← Rtype.directlyAssignable dst src then storeVar dst a val
    else if ← Rtype.implements dst src then
      if (← Rtype.kind src) == 20 then
        match val with
        | .nilIface => unsupported (.noEntry "extern/reflectlite: a nil value of one interface type handed on as a value of another")
        | _ => storeVar dst a val
      else storeVar dst a (.iface src val)
    else panicString ("reflectlite.Set: value of type " ++ (← Rtype.spelt src) ++ " is not assignable to type " ++ (← Rtype.spelt dst))
    pure (.tuple #[])) := rfl
theorem asPartsFa (a : Addr) (w : World) : (ReflectliteValue.parts (.agg #[.pointer (some ⟨3, 111, none⟩), .pointer (some a), .int .u64 409])).run Tryd.prog w = .ok (some (111, a, 409)) w := by kernel_rfl
theorem asPartsF (a : Addr) (w : World) : (ReflectliteValue.parts (.agg #[.pointer (some ⟨3, 111, none⟩), .pointer (some a), .int .u64 153])).run Tryd.prog w = .ok (some (111, a, 153)) w := by kernel_rfl
theorem asDirectF (w : World) : (Rtype.directlyAssignable 111 111).run Tryd.prog w = .ok true w := by kernel_rfl
theorem asStoreF (n x y : Int) (g : Nat) (c : Array Value) (W : World) (hc : c.size = 3) (hg : W.heap[g]? = some (.cells c 111 (0, 0))) :
    (storeVar 111 ⟨g, 0, none⟩ (.agg #[.int .i64 n, .int .i64 x, .int .i64 y])).run Tryd.prog W = .ok () (W.setRow g #[.int .i64 n, .int .i64 x, .int .i64 y]) := by
  have hr := run_storeCells_at (P := Tryd.prog) g 0 111 [.int .i64 n, .int .i64 x, .int .i64 y] 0 c W hg (by simp [hc]) (by simp [Value.oneCell'])
  obtain ⟨ti, h1, h2⟩ := Option.map_eq_some_iff.1 (isz 111 3 rfl)
  have hd : List.drop 3 c.toList = [] := List.drop_eq_nil_of_le (by simp [hc])
  simp only [List.length_cons, List.length_nil, Nat.add_zero, Nat.zero_add, List.take_zero, List.nil_append] at hr
  rw [show (0 + 1 + 1 + 1 : Nat) = 3 from rfl] at hr
  rw [hd, List.append_nil] at hr
  have hcs : (Value.agg #[.int .i64 n, .int .i64 x, .int .i64 y]).cells = #[.int .i64 n, .int .i64 x, .int .i64 y] := rfl
  simp [storeVar, sizeOf, typeInfo, h1, h2, hcs, hr]
theorem asSetF (n x y : Int) (s g : Nat) (c : Array Value) (W : World) (hc : c.size = 3) (hs : W.heap[s]? = some (.cells #[.int .i64 n, .int .i64 x, .int .i64 y] 111 (0, 0))) (hg : W.heap[g]? = some (.cells c 111 (0, 0))) :
    (ReflectliteValue.set #[.agg #[.pointer (some ⟨3, 111, none⟩), .pointer (some ⟨g, 0, none⟩), .int .u64 409], .agg #[.pointer (some ⟨3, 111, none⟩), .pointer (some ⟨s, 0, none⟩), .int .u64 153]]).run Tryd.prog W
      = .ok (.tuple #[]) (W.setRow g #[.int .i64 n, .int .i64 x, .int .i64 y]) := by
  have hl := run_loadVar_agg (P := Tryd.prog) (w := W) (t := 111) (cs := #[.int .i64 n, .int .i64 x, .int .i64 y]) (agg _ rfl) (isz 111 3 rfl) hs
  have hst := asStoreF n x y g c W hc hg
  rw [asRls]
  simp only [Sem.run_bind, asPartsFa, asPartsF, Result.andThen]
  simp [ReflectliteValue.flagAddr, hl, Result.andThen, asDirectF, hst]

set_option maxRecDepth 100000 in
set_option maxHeartbeats 8000000 in
theorem as_hit_calls (n x y : Int) (g : Nat) (c : Array Value) (w : World) (hg : Handle w) (hc : c.size = 3) (ht : w.heap[g]? = some (.cells c 111 (0, 0))) :
    Calls Tryd.prog 56 #[.iface 111 (.agg #[.int .i64 n, .int .i64 x, .int .i64 y]), .iface 113 (.pointer (some ⟨g, 0, none⟩))] w fun ev w' => ev = .returned (.bool true) ∧
      w' = ((((w.alloc (.cells #[.pointer (some ⟨g, 0, none⟩)] 113)).alloc (.cells #[.pointer (some ⟨3, 113, none⟩), .pointer (some ⟨w.heap.size, 0, none⟩), .int .u64 150] 141)).alloc (.cells #[.pointer (some ⟨3, 113, none⟩), .pointer (some ⟨w.heap.size, 0, none⟩), .int .u64 150] 141)).alloc (.cells #[.int .i64 n, .int .i64 x, .int .i64 y] 111)).setRow g #[.int .i64 n, .int .i64 x, .int .i64 y] := by
  unfold Handle at hg
  have h6 := @run_callFunc_extern Tryd.prog 80 _ (fun args => ReflectliteValue.unpack (args.getD 0 (.tuple #[]))) Tryd.func80 (by kernel_rfl) (by kernel_rfl) (by kernel_rfl) (by kernel_rfl)
  have h7 := @run_callFunc_extern Tryd.prog 81 _ (ReflectliteValue.methodAny (ReflectliteValue.valueError "reflectlite.Value.Type" 0) (fun t _ _ _ => ReflectliteType.toType t)) Tryd.func81 (by kernel_rfl) (by kernel_rfl) (by kernel_rfl) (by kernel_rfl)
  have h8 := @run_callFunc_extern Tryd.prog 82 _ (ReflectliteValue.method (ReflectliteValue.valueError "reflectlite.Value.IsNil" 0) ReflectliteValue.isNil) Tryd.func82 (by kernel_rfl) (by kernel_rfl) (by kernel_rfl) (by kernel_rfl)
  have h27 := @run_callFunc_extern Tryd.prog 134 _ (ReflectliteType.abiMethod fun t => do pure (.int .u8 (← Rtype.kind t))) Tryd.func134 (by kernel_rfl) (by kernel_rfl) (by kernel_rfl) (by kernel_rfl)
  have h37 := @run_callFunc_extern Tryd.prog 150 _ (ReflectliteType.method ReflectliteType.elem) Tryd.func150 (by kernel_rfl) (by kernel_rfl) (by kernel_rfl) (by kernel_rfl)
  have h38 := @run_callFunc_extern Tryd.prog 151 _ (ReflectliteType.relation "Implements" ReflectliteType.implements_) Tryd.func151 (by kernel_rfl) (by kernel_rfl) (by kernel_rfl) (by kernel_rfl)
  have h10 := @run_callFunc_extern Tryd.prog 63 _ ReflectliteType.typeOf Tryd.func63 (by kernel_rfl) (by kernel_rfl) (by kernel_rfl) (by kernel_rfl)
  have h35 := @run_callFunc_extern Tryd.prog 148 _ (ReflectliteType.relation "AssignableTo" ReflectliteType.assignableTo) Tryd.func148 (by kernel_rfl) (by kernel_rfl) (by kernel_rfl) (by kernel_rfl)
  have h11 := @run_callFunc_extern Tryd.prog 102 _ (ReflectliteValue.method (ReflectliteValue.valueError "reflectlite.Value.Elem" 0) ReflectliteValue.elem) Tryd.func102 (by kernel_rfl) (by kernel_rfl) (by kernel_rfl) (by kernel_rfl)
  have h12 := @run_callFunc_extern Tryd.prog 103 _ ReflectliteValue.set Tryd.func103 (by kernel_rfl) (by kernel_rfl) (by kernel_rfl) (by kernel_rfl)
  have tO := asTypeOfF
  have mA := asMethodAssignableTo
  have aF := asAssignF
  have vF := asValueOfF
  have f6 := asValueOf
  have f7 := asType
  have mK := asMethodKind
  have mE := asMethodElem
  have mI := asMethodImplements
  have kP := asKindP
  have kF := asKindF
  have eP := asElem
  have iF := asImplements
  have n8 := asIsNil ⟨w.heap.size, 0, none⟩ ⟨g, 0, none⟩ ((w.alloc (.cells #[.pointer (some ⟨g, 0, none⟩)] 113)).alloc (.cells #[.pointer (some ⟨3, 113, none⟩), .pointer (some ⟨w.heap.size, 0, none⟩), .int .u64 150] 141)) (by simp)
  have hlt : 0 < w.heap.size := World.block_lt_of_cell? w _ hg
  have hg2 : ((w.alloc (.cells #[.pointer (some ⟨g, 0, none⟩)] 113)).alloc (.cells #[.pointer (some ⟨3, 113, none⟩), .pointer (some ⟨w.heap.size, 0, none⟩), .int .u64 150] 141)).cell? ⟨0, 0, none⟩ = some (.iface 154 (.agg #[.pointer (some ⟨3, 30, none⟩)])) := by
    rw [World.cell?_alloc_lt _ _ ⟨0, 0, none⟩ (Nat.lt_of_lt_of_le hlt (by simp)), World.cell?_alloc_lt _ _ ⟨0, 0, none⟩ hlt]; exact hg
  have htl := lt_at ht
  have el := asElemV ⟨w.heap.size, 0, none⟩ ⟨g, 0, none⟩ (((w.alloc (.cells #[.pointer (some ⟨g, 0, none⟩)] 113)).alloc (.cells #[.pointer (some ⟨3, 113, none⟩), .pointer (some ⟨w.heap.size, 0, none⟩), .int .u64 150] 141)).alloc (.cells #[.pointer (some ⟨3, 113, none⟩), .pointer (some ⟨w.heap.size, 0, none⟩), .int .u64 150] 141)) (by rw [World.cell?_alloc_lt _ _ ⟨w.heap.size, 0, none⟩ (by simp; omega)]; simp)
  have st := asSetF n x y (w.heap.size + 1 + 1 + 1) g c ((((w.alloc (.cells #[.pointer (some ⟨g, 0, none⟩)] 113)).alloc (.cells #[.pointer (some ⟨3, 113, none⟩), .pointer (some ⟨w.heap.size, 0, none⟩), .int .u64 150] 141)).alloc (.cells #[.pointer (some ⟨3, 113, none⟩), .pointer (some ⟨w.heap.size, 0, none⟩), .int .u64 150] 141)).alloc (.cells #[.int .i64 n, .int .i64 x, .int .i64 y] 111)) hc
    (by
      have := heap_alloc_new (((w.alloc (.cells #[.pointer (some ⟨g, 0, none⟩)] 113)).alloc (.cells #[.pointer (some ⟨3, 113, none⟩), .pointer (some ⟨w.heap.size, 0, none⟩), .int .u64 150] 141)).alloc (.cells #[.pointer (some ⟨3, 113, none⟩), .pointer (some ⟨w.heap.size, 0, none⟩), .int .u64 150] 141)) (.cells #[.int .i64 n, .int .i64 x, .int .i64 y] 111)
      simpa using this)
    (by rw [Below.heap_alloc _ _ _ (by simp; omega), Below.heap_alloc _ _ _ (by simp; omega), Below.heap_alloc _ _ _ (by simp; omega), Below.heap_alloc _ _ _ htl]; exact ht)
  clear ht
  go_enter Tryd.func56, Tryd.ntmps56
  go_wp2
  refine wp_loop_rounds 1 ?_
  rw [rounds_succ]
  go_wp2
  go_ret
  exact ⟨rfl, rfl⟩
theorem as_hit (w : World) (n x y : Int) (g : Nat) (c : Array Value) (hg : Handle w) (hc : c.size = 3) (ht : w.heap[g]? = some (.cells c 111 (0, 0))) :
    Ret Tryd.prog 56 #[fltV n x y, .iface 113 (.pointer (some ⟨g, 0, none⟩))] w (fun v w' => v = .bool true ∧ w'.heap[g]? = some (.cells #[.int .i64 n, .int .i64 x, .int .i64 y] 111 (0, 0)) ∧ w.grownBy w' (some g)) := by
  refine Calls.mono (as_hit_calls n x y g c w hg hc ht) ?_
  rintro e w' ⟨rfl, rfl⟩
  have htl := lt_at ht
  have hal : ∀ (W : World) (o : Obj), w.grownBy W (some g) → w.grownBy (W.alloc o) (some g) := fun W o h => grown_trans h (have k := World.grownBy_alloc W o none; ⟨k.os, k.tape, k.output, k.size, fun i hi _ => k.block i hi (by simp)⟩)
  generalize hW : ((((w.alloc (.cells #[.pointer (some ⟨g, 0, none⟩)] 113)).alloc (.cells #[.pointer (some ⟨3, 113, none⟩), .pointer (some ⟨w.heap.size, 0, none⟩), .int .u64 150] 141)).alloc (.cells #[.pointer (some ⟨3, 113, none⟩), .pointer (some ⟨w.heap.size, 0, none⟩), .int .u64 150] 141)).alloc (.cells #[.int .i64 n, .int .i64 x, .int .i64 y] 111)) = W
  have hgr : w.grownBy W (some g) := by
    rw [← hW]; exact hal _ _ (hal _ _ (hal _ _ (hal _ _ (World.grownBy.refl _ _))))
  have hWg : W.heap[g]? = some (.cells c 111 (0, 0)) := by
    rw [← hW, Below.heap_alloc _ _ _ (by simp; omega), Below.heap_alloc _ _ _ (by simp; omega), Below.heap_alloc _ _ _ (by simp; omega), Below.heap_alloc _ _ _ htl]; exact ht
  refine ⟨_, rfl, rfl, setRow_heap W g c _ _ _ hWg, grown_trans hgr ⟨rfl, rfl, rfl, by simp [World.setRow], fun k hk hne => setRow_other W g k _ (by intro e; exact hne (by rw [e]))⟩⟩
end Go.Proofs.YtjomihhpglojpaaDoor
end
