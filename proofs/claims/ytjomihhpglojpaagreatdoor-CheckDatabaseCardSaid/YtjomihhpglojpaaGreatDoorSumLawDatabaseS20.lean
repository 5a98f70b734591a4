/- Laid together by a program of mine: FitsL RFitsW RCtl UncL UnitsW RMay. -/
import Derived.Test.YtjomihhpglojpaaGreatDoorSumLawDatabaseS17
import Derived.Test.YtjomihhpglojpaaGreatDoorSumLawDatabaseS7
import Derived.Test.YtjomihhpglojpaaGreatDoorSumLawDatabaseS14
import Derived.Test.YtjomihhpglojpaaGreatDoorSumLawDatabaseS4
import Derived.Test.YtjomihhpglojpaaGreatDoorSumLawDatabaseS3
import Derived.Test.YtjomihhpglojpaaGreatDoorSumLawDatabaseS6
import Derived.Test.YtjomihhpglojpaaGreatDoorSumLawDatabaseS2
import Derived.Test.YtjomihhpglojpaaGreatDoorSumLawDatabaseS15
set_option linter.unusedSimpArgs false
set_option linter.unusedVariables false
section
/- Fits: the reference's way and the program's. -/
namespace Go.Proofs.YtjomihhpglojpaaGreatDoor
set_option linter.unusedVariables false
theorem fits_ref {v : Int} {b : Nat} (hv : 0 ≤ v ∧ v < 18446744073709551616) (hb : b ≤ 63) :
    (sgn64 v / 2 ^ b = 0 ∨ sgn64 v / 2 ^ b = -1) ↔ (v / 2 ^ b = 0 ∨ v / 2 ^ b = 18446744073709551615 / 2 ^ b) := by
  obtain ⟨p, hp⟩ : ∃ p : Int, p = 2 ^ b := ⟨_, rfl⟩
  obtain ⟨q, hq⟩ : ∃ q : Int, q = 2 ^ (64 - b) := ⟨_, rfl⟩
  have hpq : q * p = 18446744073709551616 := by
    rw [hp, hq, ← Int.pow_add, show 64 - b + b = 64 by omega]; decide
  have hp1 : 1 ≤ p := by rw [hp]; exact Int.pow_pos (by decide)
  have hp63 : p ≤ 9223372036854775808 := by
    have h1 : (2 : Nat) ^ b ≤ 2 ^ 63 := Nat.pow_le_pow_right (by decide) hb
    have e3 : (2 : Int) ^ b = ((2 ^ b : Nat) : Int) := by rw [Int.natCast_pow]; rfl
    rw [hp, e3]
    exact Int.ofNat_le.2 h1
  rw [← hp]
  have hne : p ≠ 0 := by omega
  have eM : (18446744073709551615 : Int) / p = q - 1 := by
    rw [show (18446744073709551615 : Int) = (p - 1) + (q - 1) * p by rw [Int.sub_mul, hpq]; omega, Int.add_mul_ediv_right _ _ hne, Int.ediv_eq_zero_of_lt (by omega) (by omega)]
    omega
  rw [eM]
  have d1 := Int.mul_ediv_add_emod v p
  have d2 := Int.emod_nonneg v hne
  have d3 := Int.emod_lt_of_pos v (show 0 < p by omega)
  unfold sgn64
  by_cases hs : v < 9223372036854775808
  · rw [if_pos hs]
    have hnn : 0 ≤ v / p := Int.ediv_nonneg hv.1 (by omega)
    constructor
    · rintro (h | h)
      · exact .inl h
      · omega
    · rintro (h | h)
      · exact .inl h
      · exfalso
        rw [h, Int.mul_sub, Int.mul_one, Int.mul_comm, hpq] at d1
        omega
  · rw [if_neg hs]
    have e1 : (v - 18446744073709551616) / p = v / p - q := by
      rw [← hpq, show v - q * p = v + (-q) * p by rw [Int.neg_mul]; omega, Int.add_mul_ediv_right _ _ hne]
      omega
    rw [e1]
    have hlt : v / p < q := by
      apply Int.ediv_lt_of_lt_mul (by omega)
      rw [hpq]; exact hv.2
    have hpos : 1 ≤ v / p := by
      have := (Int.le_ediv_iff_mul_le (show 0 < p by omega) (a := 1) (b := v)).2 (by omega)
      exact this
    constructor
    · rintro (h | h)
      · omega
      · exact .inr (by omega)
    · rintro (h | h)
      · omega
      · exact .inr (by omega)
end Go.Proofs.YtjomihhpglojpaaGreatDoor
end
section
/- The reference's Fits, walked. -/
namespace Go.Proofs.YtjomihhpglojpaaGreatDoor
open Go.RowKit
set_option linter.unusedSimpArgs false
set_option linter.unusedVariables false
attribute [local irreducible] wpList wpQuiet wpStill Code.wp Exit.then Exit.inBlock bodyPost Calls Does Does0
set_option maxRecDepth 100000
theorem rfits_ok (w : World) (v size : Int) (sg : Bool) (hv : 0 ≤ v ∧ v < 18446744073709551616) :
    Ret Tryz.prog 25 [.int .u64 v, .int .i64 size, .bool sg].toArray w (fun r w' => r = .bool (fitsB v size sg) ∧ w' = w) := by
  refine enter3 Tryz.func25 rfl 30 rfl 33 rfl (fun a hF => ?_)
  unfold fitsB
  by_cases s1 : size < 1
  · rw [if_pos (.inl s1)]
    repeat (first | refine c_seq ?_ | refine c_region _ ?_ | refine wpList_nil ?_ | refine c_then ?_ | refine c_then_ret ?_ | refine wp_ret ?_ | ((apply st hF); (first | exact d_move | exact d_assign | exact d_pickT | exact d_cmpT); clear hF; clear a; intro a hF) | ((apply stm hF); clear hF; clear a; intro a hF) | (apply c_cond_t hF; exact rfl; first | exact rfl | assumption))
    exact ret1 hF rfl rfl ⟨rfl, rfl⟩
  by_cases s2 : size > 64
  · rw [if_pos (.inr s2)]
    repeat (first | refine c_seq ?_ | refine c_region _ ?_ | refine wpList_nil ?_ | refine c_then ?_ | refine c_then_ret ?_ | refine wp_ret ?_ | ((first | apply st hF | apply stg hF); (first | exact d_move | exact d_assign | exact d_pickF | exact d_cmpT | exact d_cmpF); clear hF; clear a; intro a hF) | (apply c_cond_t hF; exact rfl; first | exact rfl | assumption))
    exact ret1 hF rfl rfl ⟨rfl, rfl⟩
  rw [if_neg (fun h => h.elim s1 s2)]
  obtain ⟨b, hb⟩ : ∃ b : Nat, size - 1 = (b : Int) := ⟨(size - 1).toNat, by omega⟩
  have hb63 : b ≤ 63 := by omega
  have et : (size - 1).toNat = b := by omega
  rw [et]
  have hcv : ∀ (l : List (Nat × Value)) (x : Operand) (ty : TypeId), Ev l x (.int .i64 (size - 1)) → Does Tryz.prog l w (.convert 3 111 x) ty (.int .u64 (b : Int)) w := fun l x ty hx => d_convI (und _ _ rfl) (und _ _ rfl) hx (by rw [hb]; exact wrap_un rfl (by show b < 2 ^ 64; omega))
  obtain ⟨hi, hhi⟩ : ∃ hi, hi = v / 2 ^ b := ⟨_, rfl⟩
  obtain ⟨mx, hmx⟩ : ∃ mx, mx = (18446744073709551615 : Int) / 2 ^ b := ⟨_, rfl⟩
  have hsh : ∀ (l : List (Nat × Value)) (x y : Operand) (t t' ty : TypeId), Ev l x (.int .u64 v) → Ev l y (.int .u64 (b : Int)) → Does Tryz.prog l w (.binOp .shr t x y t') ty (.int .u64 hi) w := fun l x y t t' ty hx hy => by
    rw [hhi]; exact d_shrI hx hy rfl (show b ≤ 64 by omega)
  have hsm : ∀ (l : List (Nat × Value)) (x y : Operand) (t t' ty : TypeId), Ev l x (.int .u64 18446744073709551615) → Ev l y (.int .u64 (b : Int)) → Does Tryz.prog l w (.binOp .shr t x y t') ty (.int .u64 mx) w := fun l x y t t' ty hx hy => by
    rw [hmx]; exact d_shrI hx hy rfl (show b ≤ 64 by omega)
  cases sg with
  | true =>
    have hd : decide (sgn64 v / 2 ^ b = 0 ∨ sgn64 v / 2 ^ b = -1) = decide (hi = 0 ∨ hi = mx) := by rw [hhi, hmx]; exact decide_eq_decide.2 (fits_ref hv hb63)
    rw [if_pos rfl, hd]
    clear hd
    by_cases h0 : hi = 0
    · rw [decide_eq_true (.inl h0)]
      repeat (first | refine c_seq ?_ | refine c_region _ ?_ | refine wpList_nil ?_ | refine c_then ?_ | refine wp_skip ?_ | refine wp_ret ?_ | ((first | apply st hF | apply stg hF); (first | exact d_move | exact d_assign | exact d_not | exact d_pickT | exact d_pickF | exact d_sub | exact d_cmpT | exact d_cmpF | exact hcv _ _ _ rfl | exact hsh _ _ _ _ _ _ rfl rfl); clear hF; clear a; intro a hF) | ((apply stm hF); clear hF; clear a; intro a hF) | (apply c_cond_f hF; exact rfl; first | exact rfl | assumption))
      exact ret1 hF rfl rfl ⟨rfl, rfl⟩
    · by_cases h1 : hi = mx
      · rw [decide_eq_true (.inr h1)]
        repeat (first | refine c_seq ?_ | refine c_region _ ?_ | refine wpList_nil ?_ | refine c_then ?_ | refine wp_skip ?_ | refine wp_ret ?_ | ((first | apply st hF | apply stg hF); (first | exact d_move | exact d_assign | exact d_not | exact d_pickF | exact d_sub | exact d_cmpT | exact d_cmpF | exact hcv _ _ _ rfl | exact hsh _ _ _ _ _ _ rfl rfl | exact hsm _ _ _ _ _ _ rfl rfl); clear hF; clear a; intro a hF) | (apply c_cond_f hF; exact rfl; first | exact rfl | assumption))
        exact ret1 hF rfl rfl ⟨rfl, rfl⟩
      · rw [decide_eq_false (fun h => h.elim h0 h1)]
        repeat (first | refine c_seq ?_ | refine c_region _ ?_ | refine wpList_nil ?_ | refine c_then ?_ | refine wp_skip ?_ | refine wp_ret ?_ | ((first | apply st hF | apply stg hF); (first | exact d_move | exact d_assign | exact d_not | exact d_pickF | exact d_sub | exact d_cmpF | exact hcv _ _ _ rfl | exact hsh _ _ _ _ _ _ rfl rfl | exact hsm _ _ _ _ _ _ rfl rfl); clear hF; clear a; intro a hF) | (apply c_cond_f hF; exact rfl; first | exact rfl | assumption))
        exact ret1 hF rfl rfl ⟨rfl, rfl⟩
  | false =>
    rw [if_neg (by decide), ← hhi]
    by_cases h0 : hi ≤ 1
    · rw [decide_eq_true h0]
      repeat (first | refine c_seq ?_ | refine c_region _ ?_ | refine wpList_nil ?_ | refine c_then ?_ | refine c_then_ret ?_ | refine wp_skip ?_ | refine wp_ret ?_ | ((first | apply st hF | apply stg hF); (first | exact d_move | exact d_assign | exact d_not | exact d_pickF | exact d_sub | exact d_cmpT | exact d_cmpF | exact hcv _ _ _ rfl | exact hsh _ _ _ _ _ _ rfl rfl); clear hF; clear a; intro a hF) | (apply c_cond_t hF; exact rfl; first | exact rfl | assumption) | (apply c_cond_f hF; exact rfl; first | exact rfl | assumption))
      exact ret1 hF rfl rfl ⟨rfl, rfl⟩
    · rw [decide_eq_false h0]
      repeat (first | refine c_seq ?_ | refine c_region _ ?_ | refine wpList_nil ?_ | refine c_then ?_ | refine c_then_ret ?_ | refine wp_skip ?_ | refine wp_ret ?_ | ((first | apply st hF | apply stg hF); (first | exact d_move | exact d_assign | exact d_not | exact d_pickF | exact d_sub | exact d_cmpF | exact hcv _ _ _ rfl | exact hsh _ _ _ _ _ _ rfl rfl); clear hF; clear a; intro a hF) | (apply c_cond_t hF; exact rfl; first | exact rfl | assumption) | (apply c_cond_f hF; exact rfl; first | exact rfl | assumption))
      exact ret1 hF rfl rfl ⟨rfl, rfl⟩
end Go.Proofs.YtjomihhpglojpaaGreatDoor
end
section
/- The reference's Control, walked. -/
namespace Go.Proofs.YtjomihhpglojpaaGreatDoor
open Go.RowKit
set_option linter.unusedSimpArgs false
set_option linter.unusedVariables false
attribute [local irreducible] wpList wpQuiet wpStill Code.wp Exit.then Exit.inBlock bodyPost Calls Does Does0
theorem rcontrol_ok (w : World) (r : Int) : Ret Tryz.prog 65 #[.int .i32 r] w (fun v w' => v = .bool (ctl r) ∧ w' = w) := by
  refine enter1 Tryz.func65 rfl 8 rfl 9 rfl (fun a hF => ?_)
  repeat' (first | refine c_seq ?_ | refine c_region _ ?_ | refine wpList_nil ?_ | refine c_then ?_ | refine wp_ret ?_ | ((first | apply st hF | apply stg hF); (first | exact d_move | exact d_assign | exact d_pickT | exact d_pickF); clear hF; clear a; intro a hF) | ((apply stm hF); clear hF; clear a; intro a hF) | ((first | refine st_split hF (kT := ?_) (kF := ?_) | refine stg_split hF (kT := ?_) (kF := ?_)) <;> (intro hsp; simp only [decide_eq_true_eq, decide_eq_false_iff_not, beq_iff_eq, beq_eq_false_iff_ne, bne_iff_ne, ne_eq, bne_eq_false_iff_eq] at hsp; clear hF; clear a; intro a hF)))
  all_goals exact ret1 hF rfl rfl ⟨by first | exact congrArg Value.bool (decide_eq_true (by omega)).symm | exact congrArg Value.bool (decide_eq_false (by omega)).symm, rfl⟩
end Go.Proofs.YtjomihhpglojpaaGreatDoor
end
section
/- Rows of units: plain laws. -/
namespace Go.Proofs.YtjomihhpglojpaaGreatDoor
open Go.RowKit

theorem unc_cell {w : World} {b o : Nat} {s : ByteArray} {us : List Un} (h : RdS w (some ⟨b, o, none⟩) 5 Un.cells us) (hok : ∀ i (h : i < us.length), UnOk s i us[i]) {k : Nat} (hk : k < us.length) :
    w.cell? ⟨b, o + k * 5 + 0, none⟩ = some (.int .i64 (uSt s k).2.1) ∧ w.cell? ⟨b, o + k * 5 + 1, none⟩ = some (.int .i64 (uSt s k).2.2) ∧ w.cell? ⟨b, o + k * 5 + 2, none⟩ = some (.int .i32 (uR s k)) ∧ w.cell? ⟨b, o + k * 5 + 4, none⟩ = some (.bool (illB s (uSt s k).1)) := by
  obtain ⟨b', o', hb, hc⟩ := h k hk
  cases hb
  obtain ⟨h1, h2, h3, h4⟩ := hok k hk
  refine ⟨hc 0 _ ?_, hc 1 _ ?_, hc 2 _ ?_, hc 4 _ ?_⟩
  · rw [← h1]; rfl
  · rw [← h2]; rfl
  · rw [← h3]; rfl
  · rw [← h4]; rfl
theorem place_at3 {w : World} {b o : Nat} {x y : Value} (h0 : w.cell? ⟨b, o + 0, none⟩ = some x) (h1 : w.cell? ⟨b, o + 1, none⟩ = some y) : ∀ j v, (#[x, y] : Array Value)[j]? = some v → w.cell? ⟨b, o + j, none⟩ = some v := by
  intro j v h
  rcases j with _ | _ | j
  · simp at h; subst h; exact h0
  · simp at h; subst h; exact h1
  · simp at h
theorem own_rdS2 {α : Type} {w : World} {base : Nat} {e : TypeId} {ao : Option Addr} {cap n sz : Nat} {enc : α → List Value} {xs : List α} (he : ∀ x, (enc x).length = sz) (h : w.ownsRow base e sz (.slice ao n cap) n (xs.flatMap enc)) (hn : xs.length = n) : RdS w ao sz enc xs := by
  rcases h.2 with ⟨h0, _⟩ | ⟨g', cap', cur, h0, _⟩
  · cases h0
    intro i hi
    omega
  · cases h0
    exact own_rdS he h hn
theorem ret_tc {P : Program} {a : Act} {w : World} {N : Nat} {l : List (Nat × Value)} {fn : Func} {R : Value → World → Prop} (h : Fr N l a) {p u : Nat} {ty : TypeId} (hres : fn.results = #[.tmp u, .cell p ty]) {g : Nat} {cs : Array Value} {e : TypeId} {fr : Nat × Nat} {y : Value} (hU : (P.underlying ty).map aggB = some true) (hs : (P.info? ty).map (·.size) = some cs.size) (hg : w.heap[g]? = some (.cells cs e fr))
    (hv : look l p = some (.pointer (some ⟨g, 0, none⟩))) (hx : look l u = some y) (hR : R (.tuple #[y, .agg cs]) w) : bodyPost P fn (fun e w' => ∃ v, e = .returned v ∧ R v w') .ret a w := by
  refine bodyPost_ret ?_ h.defers ⟨_, rfl, hR⟩
  have e1 : a.tmps[p]?.getD undef = .pointer (some ⟨g, 0, none⟩) := by have := getD_at h hv; simpa using this
  have e2 : a.tmps[u]?.getD undef = y := by have := getD_at h hx; simpa using this
  have e3 : (loadVar ty ⟨g, 0, none⟩).run P w = .ok (.agg cs) w := run_loadVar_agg hU hs hg
  simp [results, hres, e1, e2, asAddr, e3]
end Go.Proofs.YtjomihhpglojpaaGreatDoor
end
section
/- The reference's Units, walked. -/
namespace Go.Proofs.YtjomihhpglojpaaGreatDoor
open Go.RowKit
set_option linter.unusedSimpArgs false
set_option linter.unusedVariables false
attribute [local irreducible] wpList wpQuiet wpStill Code.wp Exit.then Exit.inBlock bodyPost Calls Does Does0
set_option maxHeartbeats 8000000 in
theorem units_ok (w : World) (s : ByteArray) (hb : s.size ≤ 16777216) :
    Ret Tryz.prog 64 #[.string s] w (fun v w' => ∃ (ao : Option Addr) (cap : Nat) (us : List Un), v = .slice ao us.length cap ∧ (∀ j, j < us.length → (uSt s j).1 < s.size) ∧ ¬ (uSt s us.length).1 < s.size ∧
      w'.ownsRow w.heap.size 125 5 (.slice ao us.length cap) us.length (us.flatMap Un.cells) ∧ (∀ i (h : i < us.length), UnOk s i us[i]) ∧ Below w.heap.size w w') := by
  refine enter1 Tryz.func64 rfl 66 rfl 67 rfl (fun a hF => ?_)
  repeat (first | refine c_seq ?_ | refine c_region _ ?_ | refine wpList_nil ?_ | refine c_then ?_ | ((apply st hF); (first | exact d_move | exact d_assign); clear hF; clear a; intro a hF))
  refine st_range hF (und _ _ rfl) (k := fun a w1 hit hgr1 hsz1 hF => ?_)
  have hb1 : Below w.heap.size w w1 := (Below.refl _ w).grown hgr1 (Nat.le_refl _) (fun k hk => by cases hk)
  repeat (first | refine c_block ?_ | refine wpList_nil ?_ | refine c_then ?_)
  refine c_loop (fun q a wr => ∃ (k : Nat) (ao : Option Addr) (cap : Nat) (us : List Un), (∀ j, j < k → (uSt s j).1 < s.size) ∧ q = s.size - (uSt s k).1 ∧ us.length = k ∧ Fr 67 [(0, .string s), (3, .slice ao k cap), (4, .int .i64 (uSt s k).2.1), (5, .int .i64 (uSt s k).2.2), (11, .pointer (some ⟨w.heap.size, 0, none⟩))] a ∧
    wr.ownsRow w.heap.size 125 5 (.slice ao k cap) k (us.flatMap Un.cells) ∧ (∀ i (h : i < us.length), UnOk s i us[i]) ∧ IterAt wr w.heap.size s (uSt s k).1 ∧ Below w.heap.size w wr) s.size
    ⟨0, none, 0, [], fun j hj => absurd hj (Nat.not_lt_zero _), rfl, rfl, hF.keep' ⟨rfl, rfl, rfl, rfl, rfl, trivial⟩, by simpa using World.ownsRow_nil _ _ _ _, fun i hi => absurd hi (Nat.not_lt_zero _), hit, hb1⟩ ?_
  clear hF a hit hb1
  rintro q a wr ⟨k, ao, cap, us, hpre, rfl, hul, hF, hown, hok, hit, hbel⟩
  have hsz := hbel.size
  have hge := uSt_ge s k hpre
  obtain ⟨q1, q2, q3, q4⟩ := uSt_bnd s k hpre
  by_cases hlt : (uSt s k).1 < s.size
  · have hstep := uSt_fst s k
    have hlt2 := uSt_lt s k hlt
    have hpre2 : ∀ j, j < k + 1 → (uSt s j).1 < s.size := fun j hj => by
      by_cases e : j = k
      · subst e; exact hlt
      · exact hpre j (by omega)
    repeat (first | refine c_seq ?_ | refine c_region _ ?_)
    refine st_next hF hit hlt (k := fun a w2 hit2 hgr2 hsz2 hF => ?_)
    rw [← hstep] at hit2
    have hbel2 : Below w.heap.size w w2 := hbel.grown hgr2 hsz (fun k hk => by cases hk; exact Nat.le_refl _)
    have hne : ∀ b, (Value.slice ao k cap).ownBlock = some b → (some w.heap.size : Option Nat) ≠ some b := fun b hb => own_neI hown (show wr.heap[w.heap.size]? = some (.stringIter s (uSt s k).1) from hit) (fun _ _ _ => by simp) hb
    have hown2 := own_keptB hown hgr2 hne
    obtain ⟨p, hp⟩ : ∃ p, (uSt s k).1 = p := ⟨_, rfl⟩
    obtain ⟨r, hr⟩ : ∃ r : Nat, (Utf8.decode s p).1 = r := ⟨_, rfl⟩
    have hur : uR s k = (r : Int) := by unfold uR; rw [hp, hr]
    have hst : uSt s (k + 1) = if r = 10 then ((uSt s k).1 + (Utf8.decode s (uSt s k).1).2, (uSt s k).2.1 + 1, 1) else ((uSt s k).1 + (Utf8.decode s (uSt s k).1).2, (uSt s k).2.1, (uSt s k).2.2 + 1) := by
      show uStep s (uSt s k) = _
      unfold uStep
      rw [hp, hr]
    have hi2 : w2.heap[w.heap.size]? = some (.stringIter s (uSt s (k + 1)).1) := hit2
    have fin : ∀ (a : Act) (w4 : World) (ao2 : Option Addr) (cap2 : Nat) (u : Un), UnOk s k u → w4.ownsRow w.heap.size 125 5 (.slice ao2 (k + 1) cap2) (k + 1) (us.flatMap Un.cells ++ Un.cells u) → w2.grownBy w4 (Value.slice ao k cap).ownBlock →
        Fr 67 [(0, .string s), (3, .slice ao2 (k + 1) cap2), (4, .int .i64 (uSt s (k + 1)).2.1), (5, .int .i64 (uSt s (k + 1)).2.2), (11, .pointer (some ⟨w.heap.size, 0, none⟩))] a →
        ∃ n', n' < s.size - (uSt s k).1 ∧ ∃ (k : Nat) (ao : Option Addr) (cap : Nat) (us : List Un), (∀ j, j < k → (uSt s j).1 < s.size) ∧ n' = s.size - (uSt s k).1 ∧ us.length = k ∧ Fr 67 [(0, .string s), (3, .slice ao k cap), (4, .int .i64 (uSt s k).2.1), (5, .int .i64 (uSt s k).2.2), (11, .pointer (some ⟨w.heap.size, 0, none⟩))] a ∧
          w4.ownsRow w.heap.size 125 5 (.slice ao k cap) k (us.flatMap Un.cells) ∧ (∀ i (h : i < us.length), UnOk s i us[i]) ∧ IterAt w4 w.heap.size s (uSt s k).1 ∧ Below w.heap.size w w4 := by
      intro a w4 ao2 cap2 u hu hown4 hgr4 hF4
      refine ⟨s.size - (uSt s (k + 1)).1, by omega, k + 1, ao2, cap2, us ++ [u], hpre2, rfl, by simp [hul], hF4, by simpa using hown4, fun i hi => ?_, ?_, below_own hbel2 hbel2.size hown2 hgr4⟩
      · by_cases hik : i < us.length
        · rw [List.getElem_append_left hik]; exact hok i hik
        · obtain rfl : i = k := by simp at hi; omega
          rw [List.getElem_append_right (by omega)]
          simpa [hul] using hu
      · exact blk_kept hi2 hgr4 (fun e => by
          cases hob : (Value.slice ao k cap).ownBlock with
          | none => rw [hob] at e; cases e
          | some b => rw [hob] at e; exact own_neI hown2 hi2 (fun _ _ _ => by simp) hob e)
    rw [hp] at hlt q2 q4 hge hF
    rw [hr] at hF
    have g0 := get_at hlt
    have hill : illB s p = ((((r : Nat) : Int) == 65533) && (decide (s.size ≤ p + 2) || ((s.get! p).toNat != 239) || ((s.get! (p + 1)).toNat != 191) || ((s.get! (p + 2)).toNat != 189))) := by unfold illB; rw [hr]
    by_cases h65 : r = 65533
    · have hst2 : uSt s (k + 1) = ((uSt s k).1 + (Utf8.decode s (uSt s k).1).2, (uSt s k).2.1, (uSt s k).2.2 + 1) := by rw [hst, if_neg (by omega)]
      have hb65 : (((r : Nat) : Int) == 65533) = true := beq_iff_eq.2 (by omega)
      by_cases h2 : s.size ≤ p + 2
      · have hie : true = illB s p := by rw [hill, hb65, decide_eq_true h2]; rfl
        repeat (first | refine c_seq ?_ | refine c_block ?_ | refine c_region _ ?_ | refine wpList_nil ?_ | refine c_then ?_ | refine wp_skip ?_ | ((first | apply st hF | apply stg hF); (first | exact d_move | exact d_assign | exact d_not | exact d_pickT | exact d_add | exact d_cmpT | exact d_lens (und _ _ rfl) | exact d_extract | exact d_build (vs := [(0, .int .i64 (uSt s k).2.1), (1, .int .i64 (uSt s k).2.2)]) (cells := #[.int .i64 (uSt s k).2.1, .int .i64 (uSt s k).2.2]) (by kernel_rfl) ⟨rfl, rfl, rfl, rfl, trivial⟩ | exact d_build (vs := [(0, .agg #[.int .i64 (uSt s k).2.1, .int .i64 (uSt s k).2.2]), (1, .int .i32 (r : Int)), (2, .int .i64 1), (3, .bool true)]) (cells := (Un.cells ⟨(uSt s k).2.1, (uSt s k).2.2, (r : Int), 1, true⟩).toArray) (by kernel_rfl) ⟨rfl, rfl, rfl, rfl, rfl, rfl, rfl, rfl, trivial⟩); clear hF; clear a; intro a hF) | ((apply stm hF); clear hF; clear a; intro a hF) | (apply c_cond_t hF; exact rfl; first | exact rfl | assumption) | (apply c_cond_f hF; exact rfl; first | exact rfl | assumption))
        refine st_pushS hF (us := (Un.cells ⟨(uSt s k).2.1, (uSt s k).2.2, (r : Int), 1, true⟩).toArray) (und _ _ rfl) inf125 rfl (by decide) (by decide) rfl (un_cells _) hown2 (by omega) (by unfold maxLen; omega) hbel2.size (k := fun a ao4 cap4 w4 hown4 hgr4 hat hF => ?_)
        repeat (first | refine c_seq ?_ | refine c_region _ ?_ | refine wpList_nil ?_ | refine c_then ?_ | refine c_in ?_ | refine wp_skip ?_ | ((apply st hF); (first | exact d_move | exact d_assign | exact d_add | exact d_cmpF); clear hF; clear a; intro a hF) | (apply c_cond_f hF; exact rfl; first | exact rfl | assumption))
        exact fin a w4 ao4 cap4 ⟨(uSt s k).2.1, (uSt s k).2.2, (r : Int), 1, true⟩ ⟨rfl, rfl, hur.symm, by rw [hp]; exact hie⟩ (by simpa using hown4) hgr4 (by rw [hst2]; exact hF.keep' ⟨rfl, rfl, rfl, rfl, rfl, trivial⟩)
      · have g1 := get_at (s := s) (j := p + 1) (by omega)
        have g2 := get_at (s := s) (j := p + 2) (by omega)
        have hd2 : decide (s.size ≤ p + 2) = false := decide_eq_false h2
        by_cases hx0 : (s.get! p).toNat = 239
        · by_cases hx1 : (s.get! (p + 1)).toNat = 191
          · by_cases hx2 : (s.get! (p + 2)).toNat = 189
            · have hie : false = illB s p := by rw [hill, hb65, hd2, hx0, hx1, hx2]; rfl
              repeat (first | refine c_seq ?_ | refine c_block ?_ | refine c_region _ ?_ | refine wpList_nil ?_ | refine c_then ?_ | refine wp_skip ?_ | ((first | apply st hF | apply stg hF); (first | exact d_move | exact d_assign | exact d_not | exact d_pickT | exact d_pickF | exact d_add | exact d_cmpT | exact d_cmpF | exact d_lens (und _ _ rfl) | exact d_extract | exact d_indexS (und _ _ rfl) g0 | exact d_indexS (und _ _ rfl) g1 (hq := by omega) | exact d_indexS (und _ _ rfl) g2 (hq := by omega) | exact d_convR (und _ _ rfl) (und _ _ rfl) | exact d_build (vs := [(0, .int .i64 (uSt s k).2.1), (1, .int .i64 (uSt s k).2.2)]) (cells := #[.int .i64 (uSt s k).2.1, .int .i64 (uSt s k).2.2]) (by kernel_rfl) ⟨rfl, rfl, rfl, rfl, trivial⟩ | exact d_build (vs := [(0, .agg #[.int .i64 (uSt s k).2.1, .int .i64 (uSt s k).2.2]), (1, .int .i32 (r : Int)), (2, .int .i64 ((Utf8.encode (r : Int)).size : Nat)), (3, .bool false)]) (cells := (Un.cells ⟨(uSt s k).2.1, (uSt s k).2.2, (r : Int), ((Utf8.encode (r : Int)).size : Nat), false⟩).toArray) (by kernel_rfl) ⟨rfl, rfl, rfl, rfl, rfl, rfl, rfl, rfl, trivial⟩); clear hF; clear a; intro a hF) | (apply c_cond_t hF; exact rfl; first | exact rfl | assumption))
              refine st_pushS hF (us := (Un.cells ⟨(uSt s k).2.1, (uSt s k).2.2, (r : Int), ((Utf8.encode (r : Int)).size : Nat), false⟩).toArray) (und _ _ rfl) inf125 rfl (by decide) (by decide) rfl (un_cells _) hown2 (by omega) (by unfold maxLen; omega) hbel2.size (k := fun a ao4 cap4 w4 hown4 hgr4 hat hF => ?_)
              repeat (first | refine c_seq ?_ | refine c_region _ ?_ | refine wpList_nil ?_ | refine c_then ?_ | refine c_in ?_ | refine wp_skip ?_ | ((apply st hF); (first | exact d_move | exact d_assign | exact d_add | exact d_cmpF); clear hF; clear a; intro a hF) | (apply c_cond_f hF; exact rfl; first | exact rfl | assumption))
              exact fin a w4 ao4 cap4 ⟨(uSt s k).2.1, (uSt s k).2.2, (r : Int), ((Utf8.encode (r : Int)).size : Nat), false⟩ ⟨rfl, rfl, hur.symm, by rw [hp]; exact hie⟩ (by simpa using hown4) hgr4 (by rw [hst2]; exact hF.keep' ⟨rfl, rfl, rfl, rfl, rfl, trivial⟩)
            · have hie : true = illB s p := by rw [hill, hb65, hd2, hx0, hx1, show ((s.get! (p + 2)).toNat != 189) = true from bne_iff_ne.2 hx2]; rfl
              repeat (first | refine c_seq ?_ | refine c_block ?_ | refine c_region _ ?_ | refine wpList_nil ?_ | refine c_then ?_ | refine wp_skip ?_ | ((first | apply st hF | apply stg hF); (first | exact d_move | exact d_assign | exact d_not | exact d_pickT | exact d_pickF | exact d_add | exact d_cmpT | exact d_cmpF | exact d_lens (und _ _ rfl) | exact d_extract | exact d_indexS (und _ _ rfl) g0 | exact d_indexS (und _ _ rfl) g1 (hq := by omega) | exact d_indexS (und _ _ rfl) g2 (hq := by omega) | exact d_build (vs := [(0, .int .i64 (uSt s k).2.1), (1, .int .i64 (uSt s k).2.2)]) (cells := #[.int .i64 (uSt s k).2.1, .int .i64 (uSt s k).2.2]) (by kernel_rfl) ⟨rfl, rfl, rfl, rfl, trivial⟩ | exact d_build (vs := [(0, .agg #[.int .i64 (uSt s k).2.1, .int .i64 (uSt s k).2.2]), (1, .int .i32 (r : Int)), (2, .int .i64 1), (3, .bool true)]) (cells := (Un.cells ⟨(uSt s k).2.1, (uSt s k).2.2, (r : Int), 1, true⟩).toArray) (by kernel_rfl) ⟨rfl, rfl, rfl, rfl, rfl, rfl, rfl, rfl, trivial⟩); clear hF; clear a; intro a hF) | (apply c_cond_t hF; exact rfl; first | exact rfl | assumption) | (apply c_cond_f hF; exact rfl; first | exact rfl | assumption))
              refine st_pushS hF (us := (Un.cells ⟨(uSt s k).2.1, (uSt s k).2.2, (r : Int), 1, true⟩).toArray) (und _ _ rfl) inf125 rfl (by decide) (by decide) rfl (un_cells _) hown2 (by omega) (by unfold maxLen; omega) hbel2.size (k := fun a ao4 cap4 w4 hown4 hgr4 hat hF => ?_)
              repeat (first | refine c_seq ?_ | refine c_region _ ?_ | refine wpList_nil ?_ | refine c_then ?_ | refine c_in ?_ | refine wp_skip ?_ | ((apply st hF); (first | exact d_move | exact d_assign | exact d_add | exact d_cmpF); clear hF; clear a; intro a hF) | (apply c_cond_f hF; exact rfl; first | exact rfl | assumption))
              exact fin a w4 ao4 cap4 ⟨(uSt s k).2.1, (uSt s k).2.2, (r : Int), 1, true⟩ ⟨rfl, rfl, hur.symm, by rw [hp]; exact hie⟩ (by simpa using hown4) hgr4 (by rw [hst2]; exact hF.keep' ⟨rfl, rfl, rfl, rfl, rfl, trivial⟩)
          · have hie : true = illB s p := by rw [hill, hb65, hd2, hx0, show ((s.get! (p + 1)).toNat != 191) = true from bne_iff_ne.2 hx1]; rfl
            repeat (first | refine c_seq ?_ | refine c_block ?_ | refine c_region _ ?_ | refine wpList_nil ?_ | refine c_then ?_ | refine wp_skip ?_ | ((first | apply st hF | apply stg hF); (first | exact d_move | exact d_assign | exact d_not | exact d_pickT | exact d_pickF | exact d_add | exact d_cmpT | exact d_cmpF | exact d_lens (und _ _ rfl) | exact d_extract | exact d_indexS (und _ _ rfl) g0 | exact d_indexS (und _ _ rfl) g1 (hq := by omega) | exact d_build (vs := [(0, .int .i64 (uSt s k).2.1), (1, .int .i64 (uSt s k).2.2)]) (cells := #[.int .i64 (uSt s k).2.1, .int .i64 (uSt s k).2.2]) (by kernel_rfl) ⟨rfl, rfl, rfl, rfl, trivial⟩ | exact d_build (vs := [(0, .agg #[.int .i64 (uSt s k).2.1, .int .i64 (uSt s k).2.2]), (1, .int .i32 (r : Int)), (2, .int .i64 1), (3, .bool true)]) (cells := (Un.cells ⟨(uSt s k).2.1, (uSt s k).2.2, (r : Int), 1, true⟩).toArray) (by kernel_rfl) ⟨rfl, rfl, rfl, rfl, rfl, rfl, rfl, rfl, trivial⟩); clear hF; clear a; intro a hF) | ((apply stm hF); clear hF; clear a; intro a hF) | (apply c_cond_t hF; exact rfl; first | exact rfl | assumption) | (apply c_cond_f hF; exact rfl; first | exact rfl | assumption))
            refine st_pushS hF (us := (Un.cells ⟨(uSt s k).2.1, (uSt s k).2.2, (r : Int), 1, true⟩).toArray) (und _ _ rfl) inf125 rfl (by decide) (by decide) rfl (un_cells _) hown2 (by omega) (by unfold maxLen; omega) hbel2.size (k := fun a ao4 cap4 w4 hown4 hgr4 hat hF => ?_)
            repeat (first | refine c_seq ?_ | refine c_region _ ?_ | refine wpList_nil ?_ | refine c_then ?_ | refine c_in ?_ | refine wp_skip ?_ | ((apply st hF); (first | exact d_move | exact d_assign | exact d_add | exact d_cmpF); clear hF; clear a; intro a hF) | (apply c_cond_f hF; exact rfl; first | exact rfl | assumption))
            exact fin a w4 ao4 cap4 ⟨(uSt s k).2.1, (uSt s k).2.2, (r : Int), 1, true⟩ ⟨rfl, rfl, hur.symm, by rw [hp]; exact hie⟩ (by simpa using hown4) hgr4 (by rw [hst2]; exact hF.keep' ⟨rfl, rfl, rfl, rfl, rfl, trivial⟩)
        · have hie : true = illB s p := by rw [hill, hb65, hd2, show ((s.get! p).toNat != 239) = true from bne_iff_ne.2 hx0]; rfl
          repeat (first | refine c_seq ?_ | refine c_block ?_ | refine c_region _ ?_ | refine wpList_nil ?_ | refine c_then ?_ | refine wp_skip ?_ | ((first | apply st hF | apply stg hF); (first | exact d_move | exact d_assign | exact d_not | exact d_pickT | exact d_pickF | exact d_add | exact d_cmpT | exact d_cmpF | exact d_lens (und _ _ rfl) | exact d_extract | exact d_indexS (und _ _ rfl) g0 | exact d_build (vs := [(0, .int .i64 (uSt s k).2.1), (1, .int .i64 (uSt s k).2.2)]) (cells := #[.int .i64 (uSt s k).2.1, .int .i64 (uSt s k).2.2]) (by kernel_rfl) ⟨rfl, rfl, rfl, rfl, trivial⟩ | exact d_build (vs := [(0, .agg #[.int .i64 (uSt s k).2.1, .int .i64 (uSt s k).2.2]), (1, .int .i32 (r : Int)), (2, .int .i64 1), (3, .bool true)]) (cells := (Un.cells ⟨(uSt s k).2.1, (uSt s k).2.2, (r : Int), 1, true⟩).toArray) (by kernel_rfl) ⟨rfl, rfl, rfl, rfl, rfl, rfl, rfl, rfl, trivial⟩); clear hF; clear a; intro a hF) | ((apply stm hF); clear hF; clear a; intro a hF) | (apply c_cond_t hF; exact rfl; first | exact rfl | assumption) | (apply c_cond_f hF; exact rfl; first | exact rfl | assumption))
          refine st_pushS hF (us := (Un.cells ⟨(uSt s k).2.1, (uSt s k).2.2, (r : Int), 1, true⟩).toArray) (und _ _ rfl) inf125 rfl (by decide) (by decide) rfl (un_cells _) hown2 (by omega) (by unfold maxLen; omega) hbel2.size (k := fun a ao4 cap4 w4 hown4 hgr4 hat hF => ?_)
          repeat (first | refine c_seq ?_ | refine c_region _ ?_ | refine wpList_nil ?_ | refine c_then ?_ | refine c_in ?_ | refine wp_skip ?_ | ((apply st hF); (first | exact d_move | exact d_assign | exact d_add | exact d_cmpF); clear hF; clear a; intro a hF) | (apply c_cond_f hF; exact rfl; first | exact rfl | assumption))
          exact fin a w4 ao4 cap4 ⟨(uSt s k).2.1, (uSt s k).2.2, (r : Int), 1, true⟩ ⟨rfl, rfl, hur.symm, by rw [hp]; exact hie⟩ (by simpa using hown4) hgr4 (by rw [hst2]; exact hF.keep' ⟨rfl, rfl, rfl, rfl, rfl, trivial⟩)
    · have hb65 : (((r : Nat) : Int) == 65533) = false := beq_eq_false_iff_ne.2 (by omega)
      have hie : false = illB s p := by rw [hill, hb65]; rfl
      by_cases h10 : r = 10
      · have hst2 : uSt s (k + 1) = ((uSt s k).1 + (Utf8.decode s (uSt s k).1).2, (uSt s k).2.1 + 1, 1) := by rw [hst, if_pos h10]
        repeat (first | refine c_seq ?_ | refine c_block ?_ | refine c_region _ ?_ | refine wpList_nil ?_ | refine c_then ?_ | refine wp_skip ?_ | ((apply st hF); (first | exact d_move | exact d_assign | exact d_not | exact d_pickF | exact d_cmpF | exact d_lens (und _ _ rfl) | exact d_extract | exact d_convR (und _ _ rfl) (und _ _ rfl) | exact d_build (vs := [(0, .int .i64 (uSt s k).2.1), (1, .int .i64 (uSt s k).2.2)]) (cells := #[.int .i64 (uSt s k).2.1, .int .i64 (uSt s k).2.2]) (by kernel_rfl) ⟨rfl, rfl, rfl, rfl, trivial⟩ | exact d_build (vs := [(0, .agg #[.int .i64 (uSt s k).2.1, .int .i64 (uSt s k).2.2]), (1, .int .i32 (r : Int)), (2, .int .i64 ((Utf8.encode (r : Int)).size : Nat)), (3, .bool false)]) (cells := (Un.cells ⟨(uSt s k).2.1, (uSt s k).2.2, (r : Int), ((Utf8.encode (r : Int)).size : Nat), false⟩).toArray) (by kernel_rfl) ⟨rfl, rfl, rfl, rfl, rfl, rfl, rfl, rfl, trivial⟩); clear hF; clear a; intro a hF) | ((first | apply stm hF | apply stu hF); clear hF; clear a; intro a hF) | (apply c_cond_t hF; exact rfl; first | exact rfl | assumption))
        refine st_pushS hF (us := (Un.cells ⟨(uSt s k).2.1, (uSt s k).2.2, (r : Int), ((Utf8.encode (r : Int)).size : Nat), false⟩).toArray) (und _ _ rfl) inf125 rfl (by decide) (by decide) rfl (un_cells _) hown2 (by omega) (by unfold maxLen; omega) hbel2.size (k := fun a ao4 cap4 w4 hown4 hgr4 hat hF => ?_)
        repeat (first | refine c_seq ?_ | refine c_region _ ?_ | refine wpList_nil ?_ | refine c_then ?_ | refine c_in ?_ | ((apply st hF); (first | exact d_move | exact d_assign | exact d_add | exact d_cmpT); clear hF; clear a; intro a hF) | (apply c_cond_t hF; exact rfl; first | exact rfl | assumption))
        exact fin a w4 ao4 cap4 ⟨(uSt s k).2.1, (uSt s k).2.2, (r : Int), ((Utf8.encode (r : Int)).size : Nat), false⟩ ⟨rfl, rfl, hur.symm, by rw [hp]; exact hie⟩ (by simpa using hown4) hgr4 (by rw [hst2]; exact hF.keep' ⟨rfl, rfl, rfl, rfl, rfl, trivial⟩)
      · have hst2 : uSt s (k + 1) = ((uSt s k).1 + (Utf8.decode s (uSt s k).1).2, (uSt s k).2.1, (uSt s k).2.2 + 1) := by rw [hst, if_neg h10]
        repeat (first | refine c_seq ?_ | refine c_block ?_ | refine c_region _ ?_ | refine wpList_nil ?_ | refine c_then ?_ | refine wp_skip ?_ | ((apply st hF); (first | exact d_move | exact d_assign | exact d_not | exact d_pickF | exact d_cmpF | exact d_lens (und _ _ rfl) | exact d_extract | exact d_convR (und _ _ rfl) (und _ _ rfl) | exact d_build (vs := [(0, .int .i64 (uSt s k).2.1), (1, .int .i64 (uSt s k).2.2)]) (cells := #[.int .i64 (uSt s k).2.1, .int .i64 (uSt s k).2.2]) (by kernel_rfl) ⟨rfl, rfl, rfl, rfl, trivial⟩ | exact d_build (vs := [(0, .agg #[.int .i64 (uSt s k).2.1, .int .i64 (uSt s k).2.2]), (1, .int .i32 (r : Int)), (2, .int .i64 ((Utf8.encode (r : Int)).size : Nat)), (3, .bool false)]) (cells := (Un.cells ⟨(uSt s k).2.1, (uSt s k).2.2, (r : Int), ((Utf8.encode (r : Int)).size : Nat), false⟩).toArray) (by kernel_rfl) ⟨rfl, rfl, rfl, rfl, rfl, rfl, rfl, rfl, trivial⟩); clear hF; clear a; intro a hF) | ((first | apply stm hF | apply stu hF); clear hF; clear a; intro a hF) | (apply c_cond_t hF; exact rfl; first | exact rfl | assumption))
        refine st_pushS hF (us := (Un.cells ⟨(uSt s k).2.1, (uSt s k).2.2, (r : Int), ((Utf8.encode (r : Int)).size : Nat), false⟩).toArray) (und _ _ rfl) inf125 rfl (by decide) (by decide) rfl (un_cells _) hown2 (by omega) (by unfold maxLen; omega) hbel2.size (k := fun a ao4 cap4 w4 hown4 hgr4 hat hF => ?_)
        repeat (first | refine c_seq ?_ | refine c_region _ ?_ | refine wpList_nil ?_ | refine c_then ?_ | refine c_in ?_ | refine wp_skip ?_ | ((apply st hF); (first | exact d_move | exact d_assign | exact d_add | exact d_cmpF); clear hF; clear a; intro a hF) | (apply c_cond_f hF; exact rfl; first | exact rfl | assumption))
        exact fin a w4 ao4 cap4 ⟨(uSt s k).2.1, (uSt s k).2.2, (r : Int), ((Utf8.encode (r : Int)).size : Nat), false⟩ ⟨rfl, rfl, hur.symm, by rw [hp]; exact hie⟩ (by simpa using hown4) hgr4 (by rw [hst2]; exact hF.keep' ⟨rfl, rfl, rfl, rfl, rfl, trivial⟩)
  · have hnd : k = us.length := hul.symm
    subst hnd
    repeat (first | refine c_seq ?_ | refine c_region _ ?_)
    refine st_nextE hF hit hlt (k := fun a hF => ?_)
    repeat (first | refine c_seq ?_ | refine c_region _ ?_ | refine wpList_nil ?_ | refine c_then ?_ | refine c_then_exit ?_ | refine c_in_hit ?_ | refine wp_exit ?_ | refine wp_ret ?_ | ((apply st hF); (first | exact d_move | exact d_assign | exact d_extract); clear hF; clear a; intro a hF) | (apply c_cond_f hF; exact rfl; first | exact rfl | assumption))
    exact ret1 hF rfl rfl ⟨ao, cap, us, rfl, hpre, hlt, hown, hok, hbel⟩
end Go.Proofs.YtjomihhpglojpaaGreatDoor
end
section
/- The reference's May, walked. -/
namespace Go.Proofs.YtjomihhpglojpaaGreatDoor
open Go.RowKit
set_option linter.unusedSimpArgs false
set_option linter.unusedVariables false
attribute [local irreducible] wpList wpQuiet wpStill Code.wp Exit.then Exit.inBlock bodyPost Calls Does Does0
set_option maxHeartbeats 8000000 in
theorem rmay_ok (w : World) (s : ByteArray) : Ret Tryz.prog 37 #[.string s] w (fun v w' => ∃ n, v = .int .i64 n ∧ MayR s n ∧ Below w.heap.size w w') := by
  refine enter1 Tryz.func37 rfl 28 rfl 29 rfl (fun a hF => ?_)
  by_cases hbig : (s.size : Int) > 1024
  · repeat (first | refine c_seq ?_ | refine c_region _ ?_ | refine wpList_nil ?_ | refine c_then ?_ | refine c_then_ret ?_ | refine wp_ret ?_ | ((apply st hF); (first | exact d_move | exact d_assign | exact d_cmpT | exact d_lens (und _ _ rfl)); clear hF; clear a; intro a hF) | (apply c_cond_t hF; exact rfl; first | exact rfl | assumption))
    exact ret1 hF rfl rfl ⟨5, rfl, .inl ⟨by omega, rfl⟩, Below.refl _ w⟩
  repeat (first | refine c_seq ?_ | refine c_region _ ?_ | refine wpList_nil ?_ | refine c_then ?_ | refine wp_skip ?_ | ((apply st hF); (first | exact d_move | exact d_assign | exact d_cmpF | exact d_lens (und _ _ rfl)); clear hF; clear a; intro a hF) | (apply c_cond_f hF; exact rfl; first | exact rfl | assumption))
  refine stc hF (units_ok w s (by omega)) cal64 ⟨rfl, trivial⟩ (k := fun a v w2 hR hF => ?_)
  obtain ⟨ao, cap, us, rfl, hpre, hend, hown, hok, hbel2⟩ := hR
  have hrd := own_rdS2 unc_len hown rfl
  have hul : us.length ≤ 1024 := by
    rcases Nat.eq_zero_or_pos us.length with h | h
    · omega
    · have h1 := uSt_ge s (us.length - 1) (fun j hj => hpre j (by omega))
      have h2 := hpre (us.length - 1) (by omega)
      omega
  repeat (first | refine c_seq ?_ | refine c_block ?_ | refine c_region _ ?_ | refine wpList_nil ?_ | refine c_then ?_ | ((apply st hF); (exact d_assign); clear hF; clear a; intro a hF))
  refine c_loop (fun q a wr => ∃ k : Nat, k ≤ us.length ∧ q = us.length - k ∧ (∀ j, j < k → illB s (uSt s j).1 = false ∧ ctl (uR s j) = false) ∧ Fr 29 [(3, .slice ao us.length cap), (4, .int .i64 (k : Int))] a ∧ wr = w2) us.length
    ⟨0, Nat.zero_le _, rfl, fun j hj => absurd hj (Nat.not_lt_zero _), hF.keep' ⟨rfl, rfl, trivial⟩, rfl⟩ ?_
  clear hF a
  rintro q a wr ⟨k, hkl, rfl, hok2, hF, rfl⟩
  by_cases hk : k < us.length
  · obtain ⟨b, o, hao, _⟩ := hrd k hk
    rw [hao] at hF
    obtain ⟨c0, c1, c2, c4⟩ := unc_cell (hao ▸ hrd) hok hk
    cases hill : illB s (uSt s k).1 with
    | true =>
      rw [hill] at c4
      repeat (first | refine c_seq ?_ | refine c_block ?_ | refine c_region _ ?_ | refine wpList_nil ?_ | refine c_then ?_ | refine c_then_ret ?_ | refine c_in_ret ?_ | refine wp_skip ?_ | refine wp_ret ?_ | ((apply st hF); (first | exact d_move | exact d_assign | exact d_pickT | exact d_cmpT | exact d_len (und _ _ rfl) | exact d_fieldAddr (fld _ _ _ _ rfl) (isz _ _ rfl) | exact d_indexAddrS (und _ _ rfl) (isz _ _ rfl) (j := k) | exact d_load (und _ _ rfl) c4); clear hF; clear a; intro a hF) | ((apply stm hF); clear hF; clear a; intro a hF) | (apply c_cond_t hF; exact rfl; first | exact rfl | assumption))
      exact ret1 hF rfl rfl ⟨6, rfl, .inr ⟨by omega, .inr ⟨fun h => (by have := (h k (hpre k hk)).1; rw [hill] at this; cases this), rfl⟩⟩, hbel2⟩
    | false =>
      rw [hill] at c4
      repeat (first | refine c_seq ?_ | refine c_block ?_ | refine c_region _ ?_ | refine wpList_nil ?_ | refine c_then ?_ | refine wp_skip ?_ | ((first | apply st hF | apply stg hF); (first | exact d_move | exact d_cmpT | exact d_len (und _ _ rfl) | exact d_fieldAddr (fld _ _ _ _ rfl) (isz _ _ rfl) | exact d_indexAddrS (und _ _ rfl) (isz _ _ rfl) (j := k) | exact d_load (und _ _ rfl) c2 | exact d_load (und _ _ rfl) c4); clear hF; clear a; intro a hF) | (apply c_cond_t hF; exact rfl; first | exact rfl | assumption))
      refine stcg hF (rcontrol_ok _ (uR s k)) cal65 ⟨rfl, trivial⟩ (k := fun a v w3 hR hF => ?_)
      obtain ⟨rfl, rfl⟩ := hR
      cases hct : ctl (uR s k) with
      | false =>
        rw [hct] at hF
        repeat (first | refine c_region _ ?_ | refine wpList_nil ?_ | refine c_then ?_ | refine c_in ?_ | refine wp_skip ?_ | ((apply st hF); (first | exact d_move | exact d_assign | exact d_pickF | exact d_add); clear hF; clear a; intro a hF) | (apply c_cond_f hF; exact rfl; first | exact rfl | assumption))
        exact ⟨us.length - (k + 1), by omega, k + 1, by omega, rfl, fun j hj => by
          by_cases e : j = k
          · subst e; exact ⟨hill, hct⟩
          · exact hok2 j (by omega), hao.symm ▸ hF.keep' ⟨rfl, rfl, trivial⟩, rfl⟩
      | true =>
        rw [hct] at hF
        repeat (first | refine c_seq ?_ | refine c_region _ ?_ | refine wpList_nil ?_ | refine c_then ?_ | refine c_then_ret ?_ | refine c_in_ret ?_ | refine wp_ret ?_ | ((apply st hF); (first | exact d_assign | exact d_pickF); clear hF; clear a; intro a hF) | (apply c_cond_t hF; exact rfl; first | exact rfl | assumption))
        exact ret1 hF rfl rfl ⟨6, rfl, .inr ⟨by omega, .inr ⟨fun h => (by have := (h k (hpre k hk)).2; rw [hct] at this; cases this), rfl⟩⟩, hbel2⟩
  · repeat (first | refine c_seq ?_ | refine c_region _ ?_ | refine wpList_nil ?_ | refine c_then ?_ | refine c_then_exit ?_ | refine c_in_hit ?_ | refine wp_exit ?_ | refine wp_ret ?_ | ((apply st hF); (first | exact d_move | exact d_assign | exact d_cmpF | exact d_len (und _ _ rfl)); clear hF; clear a; intro a hF) | (apply c_cond_f hF; exact rfl; first | exact rfl | assumption))
    have hke : k = us.length := by omega
    exact ret1 hF rfl rfl ⟨0, rfl, .inr ⟨by omega, .inl ⟨fun j hj => hok2 j (by have := uEnd hend hj; omega), rfl⟩⟩, hbel2⟩
end Go.Proofs.YtjomihhpglojpaaGreatDoor
end
