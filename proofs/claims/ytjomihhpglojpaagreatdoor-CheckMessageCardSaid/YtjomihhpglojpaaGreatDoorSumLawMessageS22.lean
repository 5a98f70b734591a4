/- Laid together by a program of mine: RMay PermA Cut RefC. -/
import Derived.Test.YtjomihhpglojpaaGreatDoorSumLawMessageS14
import Derived.Test.YtjomihhpglojpaaGreatDoorSumLawMessageS21
import Derived.Test.YtjomihhpglojpaaGreatDoorSumLawMessageS9
import Derived.Test.YtjomihhpglojpaaGreatDoorSumLawMessageS3
import Derived.Laws.IdiomStrings
import Derived.Laws.Cover3
import Derived.Laws.Concat
import Derived.Test.YtjomihhpglojpaaGreatDoorSumLawMessageS10
set_option linter.unusedSimpArgs false
set_option linter.unusedVariables false
section
/- The reference's May, walked. -/
namespace Go.Proofs.YtjomihhpglojpaaGreatDoor
open Go.RowKit
set_option linter.unusedSimpArgs false
set_option linter.unusedVariables false
attribute [local irreducible] wpList wpQuiet wpStill Code.wp Exit.then Exit.inBlock bodyPost Calls Does Does0
set_option maxHeartbeats 8000000 in
theorem rmay_ok (w : World) (s : ByteArray) : Ret Tryz.prog 37 #[.string s] w (fun v w' => ∃ n, v = .int .i64 n ∧ MayR s n ∧ Below w.heap.size w w') := by
  refine enter1 Tryz.func37 rfl 28 rfl 29 rfl (fun a hF => ?_)
  by_cases hbig : (s.size : Int) > 1024
  · repeat (first | refine c_seq ?_ | refine c_region _ ?_ | refine wpList_nil ?_ | refine c_then ?_ | refine c_then_ret ?_ | refine wp_ret ?_ | ((apply st hF); (first | exact d_move | exact d_assign | exact d_cmpT | exact d_lens (und _ _ rfl)); clear hF; clear a; intro a hF) | (apply c_cond_t hF; exact rfl; first | exact rfl | assumption))
    exact ret1 hF rfl rfl ⟨5, rfl, .inl ⟨by omega, rfl⟩, Below.refl _ w⟩
  repeat (first | refine c_seq ?_ | refine c_region _ ?_ | refine wpList_nil ?_ | refine c_then ?_ | refine wp_skip ?_ | ((apply st hF); (first | exact d_move | exact d_assign | exact d_cmpF | exact d_lens (und _ _ rfl)); clear hF; clear a; intro a hF) | (apply c_cond_f hF; exact rfl; first | exact rfl | assumption))
  refine stc hF (units_ok w s (by omega)) cal64 ⟨rfl, trivial⟩ (k := fun a v w2 hR hF => ?_)
  obtain ⟨ao, cap, us, rfl, hpre, hend, hown, hok, hbel2⟩ := hR
  have hrd := own_rdS2 unc_len hown rfl
  have hul : us.length ≤ 1024 := by
    rcases Nat.eq_zero_or_pos us.length with h | h
    · omega
    · have h1 := uSt_ge s (us.length - 1) (fun j hj => hpre j (by omega))
      have h2 := hpre (us.length - 1) (by omega)
      omega
  repeat (first | refine c_seq ?_ | refine c_block ?_ | refine c_region _ ?_ | refine wpList_nil ?_ | refine c_then ?_ | ((apply st hF); (exact d_assign); clear hF; clear a; intro a hF))
  refine c_loop (fun q a wr => ∃ k : Nat, k ≤ us.length ∧ q = us.length - k ∧ (∀ j, j < k → illB s (uSt s j).1 = false ∧ ctl (uR s j) = false) ∧ Fr 29 [(3, .slice ao us.length cap), (4, .int .i64 (k : Int))] a ∧ wr = w2) us.length
    ⟨0, Nat.zero_le _, rfl, fun j hj => absurd hj (Nat.not_lt_zero _), hF.keep' ⟨rfl, rfl, trivial⟩, rfl⟩ ?_
  clear hF a
  rintro q a wr ⟨k, hkl, rfl, hok2, hF, rfl⟩
  by_cases hk : k < us.length
  · obtain ⟨b, o, hao, _⟩ := hrd k hk
    rw [hao] at hF
    obtain ⟨c0, c1, c2, c4⟩ := unc_cell (hao ▸ hrd) hok hk
    cases hill : illB s (uSt s k).1 with
    | true =>
      rw [hill] at c4
      repeat (first | refine c_seq ?_ | refine c_block ?_ | refine c_region _ ?_ | refine wpList_nil ?_ | refine c_then ?_ | refine c_then_ret ?_ | refine c_in_ret ?_ | refine wp_skip ?_ | refine wp_ret ?_ | ((apply st hF); (first | exact d_move | exact d_assign | exact d_pickT | exact d_cmpT | exact d_len (und _ _ rfl) | exact d_fieldAddr (fld _ _ _ _ rfl) (isz _ _ rfl) | exact d_indexAddrS (und _ _ rfl) (isz _ _ rfl) (j := k) | exact d_load (und _ _ rfl) c4); clear hF; clear a; intro a hF) | ((apply stm hF); clear hF; clear a; intro a hF) | (apply c_cond_t hF; exact rfl; first | exact rfl | assumption))
      exact ret1 hF rfl rfl ⟨6, rfl, .inr ⟨by omega, .inr ⟨fun h => (by have := (h k (hpre k hk)).1; rw [hill] at this; cases this), rfl⟩⟩, hbel2⟩
    | false =>
      rw [hill] at c4
      repeat (first | refine c_seq ?_ | refine c_block ?_ | refine c_region _ ?_ | refine wpList_nil ?_ | refine c_then ?_ | refine wp_skip ?_ | ((first | apply st hF | apply stg hF); (first | exact d_move | exact d_cmpT | exact d_len (und _ _ rfl) | exact d_fieldAddr (fld _ _ _ _ rfl) (isz _ _ rfl) | exact d_indexAddrS (und _ _ rfl) (isz _ _ rfl) (j := k) | exact d_load (und _ _ rfl) c2 | exact d_load (und _ _ rfl) c4); clear hF; clear a; intro a hF) | (apply c_cond_t hF; exact rfl; first | exact rfl | assumption))
      refine stcg hF (rcontrol_ok _ (uR s k)) cal65 ⟨rfl, trivial⟩ (k := fun a v w3 hR hF => ?_)
      obtain ⟨rfl, rfl⟩ := hR
      cases hct : ctl (uR s k) with
      | false =>
        rw [hct] at hF
        repeat (first | refine c_region _ ?_ | refine wpList_nil ?_ | refine c_then ?_ | refine c_in ?_ | refine wp_skip ?_ | ((apply st hF); (first | exact d_move | exact d_assign | exact d_pickF | exact d_add); clear hF; clear a; intro a hF) | (apply c_cond_f hF; exact rfl; first | exact rfl | assumption))
        exact ⟨us.length - (k + 1), by omega, k + 1, by omega, rfl, fun j hj => by
          by_cases e : j = k
          · subst e; exact ⟨hill, hct⟩
          · exact hok2 j (by omega), hao.symm ▸ hF.keep' ⟨rfl, rfl, trivial⟩, rfl⟩
      | true =>
        rw [hct] at hF
        repeat (first | refine c_seq ?_ | refine c_region _ ?_ | refine wpList_nil ?_ | refine c_then ?_ | refine c_then_ret ?_ | refine c_in_ret ?_ | refine wp_ret ?_ | ((apply st hF); (first | exact d_assign | exact d_pickF); clear hF; clear a; intro a hF) | (apply c_cond_t hF; exact rfl; first | exact rfl | assumption))
        exact ret1 hF rfl rfl ⟨6, rfl, .inr ⟨by omega, .inr ⟨fun h => (by have := (h k (hpre k hk)).2; rw [hct] at this; cases this), rfl⟩⟩, hbel2⟩
  · repeat (first | refine c_seq ?_ | refine c_region _ ?_ | refine wpList_nil ?_ | refine c_then ?_ | refine c_then_exit ?_ | refine c_in_hit ?_ | refine wp_exit ?_ | refine wp_ret ?_ | ((apply st hF); (first | exact d_move | exact d_assign | exact d_cmpF | exact d_len (und _ _ rfl)); clear hF; clear a; intro a hF) | (apply c_cond_f hF; exact rfl; first | exact rfl | assumption))
    have hke : k = us.length := by omega
    exact ret1 hF rfl rfl ⟨0, rfl, .inr ⟨by omega, .inl ⟨fun j hj => hok2 j (by have := uEnd hend hj; omega), rfl⟩⟩, hbel2⟩
end Go.Proofs.YtjomihhpglojpaaGreatDoor
end
section
/- A region that draws its order: reads, a chain, and one operation more that may come at any time (a variable that is made). -/
namespace Go.Proofs.YtjomihhpglojpaaGreatDoor
open Go.RowKit
section
variable {P : Program} {md : Region.Mode} {Q : Exit → Act → World → Prop} {S : World → Prop}
def toX (is : List (Nat × Nat)) : List (Nat × Bool) := is.map fun i => (i.1, i.2 == 0)
/-- 'al' has not come yet. A read: 0. The chain's next: 1; 2: it waits for 'al'. -/
def wpMixA (P : Program) (ops : Array Oper) (Q : Exit → Act → World → Prop) (S : World → Prop) (al : Oper) (l : List Oper) : List (Nat × Nat) → Act → World → Prop
  | [], a, w => wpList P ops (fun e a' w' => e = .normal ∧ S w' ∧ Q .normal a' w') [al] a w
  | (i, 0) :: is, a, w => ∀ o, l[i]? = some o → ∃ v, YieldsIf P ops S o v a ∧ wpMixA P ops Q S al l is (a.put o.dst v) w
  | (t, 1) :: is, a, w => (∀ o, l[t]? = some o → wpList P ops (fun e a' w' => e = .normal ∧ S w' ∧ wpMixA P ops Q S al l is a' w') [o] a w) ∧
      wpList P ops (fun e a' w' => e = .normal ∧ S w' ∧ wpMix P ops Q S (pickX l (toX ((t, 1) :: is))) a' w') [al] a w
  | (t, k + 2) :: is, a, w => wpList P ops (fun e a' w' => e = .normal ∧ S w' ∧ wpMix P ops Q S (pickX l (toX ((t, k + 2) :: is))) a' w') [al] a w
def mixA (md : Region.Mode) (ops : Array Oper) (al : Nat) : List (Nat × Nat) → Array Bool → Bool
  | [], listed => decide (Region.ready md ops listed = [al]) && mixL md ops [] (listed.setIfInBounds al true)
  | (i, 0) :: is, listed => (Region.ready md ops listed).contains i && Region.free md ops listed i && mixA md ops al is (listed.setIfInBounds i true)
  | (t, 1) :: is, listed => (decide (Region.ready md ops listed = [t, al]) || decide (Region.ready md ops listed = [al, t])) && mixA md ops al is (listed.setIfInBounds t true) && mixL md ops (toX ((t, 1) :: is)) (listed.setIfInBounds al true)
  | (t, k + 2) :: is, listed => decide (Region.ready md ops listed = [al]) && mixL md ops (toX ((t, k + 2) :: is)) (listed.setIfInBounds al true)
def mixAB (md : Region.Mode) (ops : Array Oper) (al : Nat) (is : List (Nat × Nat)) : Bool :=
  Region.noSelect ops && decide (is.length + 1 = ops.size) && mixA md ops al is (Array.replicate ops.size false)
theorem op_of_list {l : List Oper} {i : Nat} {o : Oper} {R : Act → World → Prop} {a : Act} {w : World} (ho : l.toArray[i]? = some o) (h : wpList P l.toArray (fun e a' w' => e = .normal ∧ S w' ∧ R a' w') [o] a w) :
    wpOp P l.toArray (fun e a w => e = .normal ∧ Q .normal a w) i (fun a' w' => S w' ∧ R a' w') a w := by
  simp only [wpList] at h
  unfold wpOp
  simp only [ho]
  split
  · rename_i hw
    rw [if_pos hw] at h
    rcases h with h | ⟨_, x, y, h, _⟩
    · refine .inl (oper_wp_monoQ (Q' := fun e a' w' => e = .normal ∧ S w' ∧ R a' w') (fun e a' w' hn h' => absurd h'.1 hn) (Oper.wp_mono ?_ h))
      rintro a' w' ⟨_, h1, h2⟩
      exact ⟨h1, h2⟩
    · cases h
  · rename_i hw
    rw [if_neg hw] at h
    exact h.2
theorem toX_len (is : List (Nat × Nat)) : (toX is).length = is.length := by simp [toX]
theorem wpAnyH_mixA {l : List Oper} (Q : Exit → Act → World → Prop) (al : Nat) (hs : Region.noSelect l.toArray = true) : ∀ (is : List (Nat × Nat)) (listed : Array Bool) (a : Act) (w : World), mixA md l.toArray al is listed = true → S w →
    (∀ ao, l[al]? = some ao → wpMixA P l.toArray Q S ao l is a w) → wpAnyH P md l.toArray (fun e a w => e = .normal ∧ Q .normal a w) S (is.length + 1) listed a w
  | [], listed, a, w, hB, hS, h => by
    simp only [mixA, Bool.and_eq_true, decide_eq_true_eq] at hB
    refine ⟨fun h1 => (by rw [hB.1] at h1; cases h1), fun i hi => ?_⟩
    obtain ⟨o, ho⟩ := mem_ready_lt hi
    rw [hB.1] at hi
    obtain rfl : i = al := by simpa using hi
    have h2 := h o (by simpa using ho)
    refine wpOp_mono ?_ (op_of_list (R := fun a' w' => Q .normal a' w') ho h2)
    rintro a' w' ⟨h3, h4⟩
    exact ⟨h3, wpAnyH_mix Q hs [] _ a' w' hB.2 h3 (by simpa [pickX, wpMix] using h4)⟩
  | (i, 0) :: is, listed, a, w, hB, hS, h => by
    simp only [mixA, Bool.and_eq_true] at hB
    obtain ⟨⟨hr, hf⟩, hB'⟩ := hB
    obtain ⟨o, ho⟩ := mem_ready_lt (by simpa using hr : i ∈ Region.ready md l.toArray listed)
    cases hal : l[al]? with
    | none => exact wpAnyH_take ho hs hf hr (fun c a w h => by cases h.1) (v := undef) (by
        exfalso
        have : ∀ (is : List (Nat × Nat)) (listed : Array Bool), mixA md l.toArray al is listed = true → (l[al]?).isSome = true := by
          intro is
          induction is with
          | nil =>
            intro listed h
            simp only [mixA, Bool.and_eq_true, decide_eq_true_eq] at h
            obtain ⟨o, ho⟩ := mem_ready_lt (md := md) (ops := l.toArray) (listed := listed) (j := al) (by rw [h.1]; simp)
            simp at ho; simp [ho]
          | cons x is ih =>
            intro listed h
            obtain ⟨t, k⟩ := x
            match k, h with
            | 0, h =>
              simp only [mixA, Bool.and_eq_true] at h
              exact ih _ h.2
            | 1, h =>
              simp only [mixA, Bool.and_eq_true] at h
              exact ih _ h.1.2
            | k + 2, h =>
              simp only [mixA, Bool.and_eq_true, decide_eq_true_eq] at h
              obtain ⟨o, ho⟩ := mem_ready_lt (md := md) (ops := l.toArray) (listed := listed) (j := al) (by rw [h.1]; simp)
              simp at ho; simp [ho]
        have := this is _ hB'
        rw [hal] at this
        cases this) hS (by
        exact wpAnyH_mixA Q al hs is _ _ w hB' hS (fun ao h1 => by rw [hal] at h1; cases h1))
    | some ao =>
      obtain ⟨v, hy, hk⟩ := h ao hal o (by simpa using ho)
      exact wpAnyH_take ho hs hf hr (fun c a w h => by cases h.1) hy hS (wpAnyH_mixA Q al hs is _ _ w hB' hS (fun ao' h1 => by rw [hal] at h1; cases h1; exact hk))
  | (t, 1) :: is, listed, a, w, hB, hS, h => by
    simp only [mixA, Bool.and_eq_true, Bool.or_eq_true, decide_eq_true_eq] at hB
    obtain ⟨⟨hr, hB1⟩, hB2⟩ := hB
    have hmem : ∀ i, i ∈ Region.ready md l.toArray listed → i = t ∨ i = al := fun i hi => by
      rcases hr with e | e <;> rw [e] at hi <;> simp at hi <;> omega
    have hin : al ∈ Region.ready md l.toArray listed := by rcases hr with e | e <;> rw [e] <;> simp
    obtain ⟨ao, hao⟩ := mem_ready_lt hin
    have hh := h ao (by simpa using hao)
    refine ⟨fun h1 => (by rcases hr with e | e <;> (rw [e] at h1; cases h1)), fun i hi => ?_⟩
    obtain ⟨o, ho⟩ := mem_ready_lt hi
    by_cases e : i = t
    · subst e
      refine wpOp_mono ?_ (op_of_list (R := fun a' w' => wpMixA P l.toArray Q S ao l is a' w') ho (hh.1 o (by simpa using ho)))
      rintro a' w' ⟨h3, h4⟩
      exact ⟨h3, wpAnyH_mixA Q al hs is _ a' w' hB1 h3 (fun ao' h1 => by have h2 : l[al]? = some ao := by simpa using hao
                                                                         rw [h2] at h1; cases h1; exact h4)⟩
    · obtain rfl : i = al := by rcases hmem i hi with h1 | h1 <;> first | exact absurd h1 e | exact h1
      obtain rfl : ao = o := by rw [ho] at hao; exact (Option.some.inj hao).symm
      refine wpOp_mono ?_ (op_of_list (R := fun a' w' => wpMix P l.toArray Q S (pickX l (toX ((t, 1) :: is))) a' w') ho hh.2)
      rintro a' w' ⟨h3, h4⟩
      have h5 := wpAnyH_mix (md := md) Q hs (toX ((t, 1) :: is)) _ a' w' hB2 h3 h4
      rw [toX_len] at h5
      exact ⟨h3, h5⟩
  | (t, k + 2) :: is, listed, a, w, hB, hS, h => by
    simp only [mixA, Bool.and_eq_true, decide_eq_true_eq] at hB
    refine ⟨fun h1 => (by rw [hB.1] at h1; cases h1), fun i hi => ?_⟩
    obtain ⟨o, ho⟩ := mem_ready_lt hi
    rw [hB.1] at hi
    obtain rfl : i = al := by simpa using hi
    have hh := h o (by simpa using ho)
    refine wpOp_mono ?_ (op_of_list (R := fun a' w' => wpMix P l.toArray Q S (pickX l (toX ((t, k + 2) :: is))) a' w') ho hh)
    rintro a' w' ⟨h3, h4⟩
    have h5 := wpAnyH_mix (md := md) Q hs (toX ((t, k + 2) :: is)) _ a' w' hB.2 h3 h4
    rw [toX_len] at h5
    exact ⟨h3, h5⟩
theorem c_region_mixA (S : World → Prop) (al : Nat) (is : List (Nat × Nat)) (id : Nat) {l' : List Oper} {a : Act} {w : World} (hm : P.follows .mixedOrders = true) (hB : mixAB .any l'.toArray al is = true) (hS : S (w.drewN 1))
    (h : ∀ ao, l'[al]? = some ao → wpMixA P l'.toArray Q S ao l' is a (w.drewN 1)) : (Code.region id l'.toArray true).wp P Q a w := by
  simp only [mixAB, Bool.and_eq_true, decide_eq_true_eq] at hB
  obtain ⟨⟨h1, h2⟩, h3⟩ := hB
  have := wpAnyH_mixA (md := .any) (S := S) Q al h1 is _ a _ h3 hS h
  rw [h2] at this
  refine wp_region_any hm (wpAny_monoQ ?_ _ _ _ _ (wpAny_of_held _ _ _ _ this))
  rintro e a w ⟨rfl, h⟩
  exact h
end
end Go.Proofs.YtjomihhpglojpaaGreatDoor
end
section
/- A place in the text where all ways meet; a slice against nil; a slice from some place on. Plain lemmas over any program. -/
namespace Go.Proofs.YtjomihhpglojpaaGreatDoor
open Go.RowKit
section
variable {P : Program} {ops : Array Oper} {Q : Exit → Act → World → Prop} {rest : List Oper} {a : Act} {w : World} {N : Nat} {l : List (Nat × Value)}
/-- All ways through x come to I. -/
theorem c_cut {x y : Code} (I : Act → World → Prop) (h1 : x.wp P (Exit.then (fun a' w' => I a' w') Q) a w) (h2 : ∀ a' w', I a' w' → y.wp P Q a' w') : (Code.seq x y).wp P Q a w :=
  wp_seq (wp_mono h1 fun e a' w' h => by cases e <;> first | exact h2 _ _ h | exact h)
/-- .. x the text that begins with region id. -/
theorem c_cutR (id : Nat) {ops : Array Oper} {b : Bool} {c y : Code} (I : Act → World → Prop) (h1 : (Code.seq (Code.region id ops b) c).wp P (Exit.then (fun a' w' => I a' w') Q) a w) (h2 : ∀ a' w', I a' w' → y.wp P Q a' w') : (Code.seq (Code.seq (Code.region id ops b) c) y).wp P Q a w := c_cut I h1 h2
/-- .. x the block id. -/
theorem c_cutB (id : Nat) {c y : Code} (I : Act → World → Prop) (h1 : (Code.block id c).wp P (Exit.then (fun a' w' => I a' w') Q) a w) (h2 : ∀ a' w', I a' w' → y.wp P Q a' w') : (Code.seq (Code.block id c) y).wp P Q a w := c_cut I h1 h2
/-- A goal that the walk leaves alone. -/
structure Hold (p : Prop) : Prop where
  out : p
theorem c_cutH (id : Nat) {ops : Array Oper} {b : Bool} {y : Code} (I : Act → World → Prop) (h1 : Hold ((Code.region id ops b).wp P (Exit.then (fun a' w' => I a' w') Q) a w)) (h2 : ∀ a' w', I a' w' → y.wp P Q a' w') : (Code.seq (Code.region id ops b) y).wp P Q a w := c_cut I h1.out h2
theorem d_neSl {x : Operand} {ao : Option Addr} {n c : Nat} {t t' e ty : TypeId} (hU : P.underlying t = some (.slice e)) (hx : Ev l x (.slice ao n c) := by exact rfl) : Does P l w (.binOp .neq t x (.const (.slice none 0 0)) t') ty (.bool (!ao.isNone)) w := by
  intro ρ hρ d pos af g
  have e1 : ρ (.const (.slice none 0 0)) = .slice none 0 0 := hρ _ _ rfl
  have h : (Op.equal t (.slice ao n c) (.slice none 0 0)).run P w = .ok ao.isNone w := run_equal_slice_nil w t e ao n c hU
  have e2 : (eqGuard .neq t x (.const (.slice none 0 0)) (.slice ao n c) (.slice none 0 0)).run P w = .ok () w := rfl
  simp only [execOp, hρ _ _ hx, e1, Sem.run_bind, e2, Result.andThen_ok]
  show ((do pure (Value.bool (!(← Op.equal t (.slice ao n c) (.slice none 0 0)))) : Sem Value).run P w).andThen _ = _
  rw [Sem.run_bind, h]; rfl
/-- Two texts, one behind the other. -/
theorem d_addS {x y : Operand} {s u : ByteArray} {t t' ty : TypeId} (hx : Ev l x (.string s) := by exact rfl) (hy : Ev l y (.string u) := by exact rfl) (h : s.size + u.size ≤ 9223372036854775807) : Does P l w (.binOp .add t x y t') ty (.string (s ++ u)) w := by
  intro ρ hρ d pos af g
  have e2 : (eqGuard .add t x y (.string s) (.string u)).run P w = .ok () w := rfl
  have e3 : (binOp .add t (.string s) (.string u)).run P w = .ok (.string (s ++ u)) w := run_string_add_sum w s u h
  simp only [execOp, hρ _ _ hx, hρ _ _ hy, Sem.run_bind, e2, Result.andThen_ok, e3]
  rfl
theorem d_sliceR {x lo : Operand} {g n c j : Nat} {k'' : IntKind} {q'' : Int} {t e ty : TypeId} (hU : P.underlying t = some (.slice e)) (hs : (P.info? e).map (·.size) = some 1)
    (hx : Ev l x (.slice (some ⟨g, 0, none⟩) n c) := by exact rfl) (hl : Ev l lo (.int k'' q'') := by exact rfl) (hq'' : q'' = (j : Int) := by exact rfl) (hj : j ≤ n := by omega) (hc : j < c := by omega) :
    Does P l w (.slice t x (some lo) none none) ty (.slice (some ⟨g, j, none⟩) (n - j) (c - j)) w := by
  have h := d_sliceL (P := P) (w := w) (ty := ty) hU hs hx hl hq'' hj
  rw [if_neg (by omega)] at h
  simpa [addr_add] using h
end
theorem row_set (l : List Value) (m : Nat) (z v : Value) (h : 0 < m) : (l ++ List.replicate m z).set l.length v = (l ++ [v]) ++ List.replicate (m - 1) z := by
  obtain ⟨k, rfl⟩ : ∃ k, m = k + 1 := ⟨m - 1, by omega⟩
  rw [List.replicate_succ, List.set_append_right _ _ (Nat.le_refl _)]
  simp
theorem row_put (l cs : List Value) (m : Nat) (z : Value) : (l ++ List.replicate m z).take l.length ++ (cs ++ (l ++ List.replicate m z).drop (l.length + cs.length)) = (l ++ cs) ++ List.replicate (m - cs.length) z := by
  rw [List.take_left, List.drop_append]
  simp
end Go.Proofs.YtjomihhpglojpaaGreatDoor
end
section
/- The reference's fractions: Of, opposite, sum, Cmp, Above: walked. -/
namespace Go.Proofs.YtjomihhpglojpaaGreatDoor
open Go.RowKit
set_option linter.unusedSimpArgs false
set_option linter.unusedVariables false
attribute [local irreducible] wpList wpQuiet wpStill Code.wp Exit.then Exit.inBlock bodyPost Calls Does Does0
open Nn
def fracC (b : Bool) (nv dv : Value) : Array Value := #[.bool b, nv, dv]
theorem natV_one {B0 : Nat} {w : World} {v : Value} {x : Nat} (h : NatV B0 w v x) : v.oneCell' = true := by
  obtain ⟨_, _, _, rfl, _⟩ := h; rfl
theorem frac_one {B1 B2 : Nat} {w : World} {b : Bool} {nv dv : Value} {x y : Nat} (h1 : NatV B1 w nv x) (h2 : NatV B2 w dv y) : ∀ v ∈ fracC b nv dv, v.oneCell' = true := by
  intro v hv
  simp [fracC] at hv
  rcases hv with rfl | rfl | rfl
  · rfl
  · exact natV_one h1
  · exact natV_one h2
theorem fracInf : (Tryz.prog.info? 187).map (fun i => (i.zero, i.size, i.bytes)) = some (some (.agg (fracC false (.slice none 0 0) (.slice none 0 0))), 3, 56) := by kernel_rfl
set_option maxHeartbeats 2000000 in
theorem of_ok (w : World) (n d : Int) (hn : -9223372036854775808 ≤ n ∧ n ≤ 9223372036854775807) (hd : -9223372036854775808 ≤ d ∧ d ≤ 9223372036854775807) :
    Ret Tryz.prog 107 [.agg #[.int .i64 n, .int .i64 d]].toArray w (fun v w' => (∃ nv dv, v = .agg (fracC (decide (n < 0)) nv dv) ∧ NatV w.heap.size w' nv n.natAbs ∧ NatV w.heap.size w' dv d.natAbs) ∧ Below w.heap.size w w') := by
  refine enter1 Tryz.func107 rfl 14 rfl 15 rfl (fun a hF => ?_)
  repeat (first | refine c_seq ?_ | refine c_region _ ?_)
  refine st_box hF (cs := #[.int .i64 n, .int .i64 d]) rfl (k := fun a w1 hg1 hgr1 hsz1 hF => ?_)
  refine st_alloc hF fracInf (k := fun a w2 hf2 hgr2 hsz2 hF => ?_)
  have hg2 := blk_kept hg1 hgr2 (by simp)
  have hb2 : Below w.heap.size w w2 := ((Below.refl _ w).grown hgr1 (Nat.le_refl _) (fun k hk => by cases hk)).grown hgr2 (by omega) (fun k hk => by cases hk)
  have c0 : ∀ wq : World, (wq.heap[w.heap.size]? = some (.cells #[.int .i64 n, .int .i64 d] 60 (0, 0)) ∧ w2.heap.size ≤ wq.heap.size) → wq.cell? ⟨w.heap.size, 0 + 0, none⟩ = some (.int .i64 n) := fun wq h => cell_at h.1 rfl
  have c1 : ∀ wq : World, (wq.heap[w.heap.size]? = some (.cells #[.int .i64 n, .int .i64 d] 60 (0, 0)) ∧ w2.heap.size ≤ wq.heap.size) → wq.cell? ⟨w.heap.size, 0 + 1, none⟩ = some (.int .i64 d) := fun wq h => cell_at h.1 rfl
  have hmul : (0 : Nat) = 0 := rfl
  repeat (first | (refine c_region_mix (fun wq => wq.heap[w.heap.size]? = some (.cells #[.int .i64 n, .int .i64 d] 60 (0, 0)) ∧ w2.heap.size ≤ wq.heap.size) [(0, true), (1, true), (2, true), (3, true), (4, true), (7, true), (8, true), (5, false), (6, false), (9, false), (10, false), (11, true), (12, false)] 1 mixed (by kernel_rfl) ⟨hg2, Nat.le_refl _⟩ ?_; simp only [pickX, List.filterMap_cons, List.getElem?_cons_zero, List.getElem?_cons_succ, List.filterMap_nil, Option.map_some]) | refine c_seq ?_ | refine wpList_nil ?_ | refine c_then ?_)
  have hgD : (w2.drewN 1).heap[w.heap.size]? = some (.cells #[.int .i64 n, .int .i64 d] 60 (0, 0)) := hg2
  have hfD : (w2.drewN 1).heap[w1.heap.size]? = some (.cells (fracC false (.slice none 0 0) (.slice none 0 0)) 187 (0, 0)) := hf2
  have hdb : Below w.heap.size w (w2.drewN 1) := below_more hb2 1
  have hzD : (w2.drewN 1).heap.size = w.heap.size + 2 := by show w2.heap.size = _; omega
  have hz2 : w2.heap.size = w.heap.size + 2 := by omega
  generalize w2.drewN 1 = w3 at *
  repeat (((apply x_step hF); intro wq hwq; (first | exact d_cmp | exact d_fieldAddr (fld _ _ _ _ rfl) (isz _ _ rfl) | exact d_load (und _ _ rfl) (c0 wq hwq) | exact d_load (und _ _ rfl) (c1 wq hwq)); clear hF; clear a; intro a hF))
  refine x_one ?_
  refine stc hF (rsize_ok _ n hn) cal81 ⟨rfl, trivial⟩ (k := fun a v w4 hR hF => ?_)
  obtain ⟨rfl, rfl⟩ := hR
  refine wpList_nil ⟨rfl, ⟨hgD, by omega⟩, x_one ?_⟩
  refine stc hF (from_ok _ n.natAbs (by omega)) cal80 ⟨rfl, trivial⟩ (k := fun a v1 w5 hR hF => ?_)
  obtain ⟨hN1, hb5⟩ := hR
  have z5 := hb5.size
  have hg5 := (hb5.block _ (by omega)).trans hgD
  have hf5 := (hb5.block _ (by omega)).trans hfD
  refine wpList_nil ⟨rfl, ⟨hg5, by omega⟩, x_one ?_⟩
  refine stc hF (rsize_ok _ d hd) cal81 ⟨rfl, trivial⟩ (k := fun a v w6 hR hF => ?_)
  obtain ⟨rfl, rfl⟩ := hR
  refine wpList_nil ⟨rfl, ⟨hg5, by omega⟩, x_one ?_⟩
  refine stc hF (from_ok _ d.natAbs (by omega)) cal80 ⟨rfl, trivial⟩ (k := fun a v2 w7 hR hF => ?_)
  obtain ⟨hN2, hb7⟩ := hR
  have z7 := hb7.size
  have hg7 := (hb7.block _ (by omega)).trans hg5
  have hf7 := (hb7.block _ (by omega)).trans hf5
  refine wpList_nil ⟨rfl, ⟨hg7, by omega⟩, ?_⟩
  obtain ⟨p1, k1, l1, rfl, _⟩ := nat_pos hN1
  obtain ⟨p2, k2, l2, rfl, _⟩ := nat_pos hN2
  repeat (((apply x_step hF); intro wq hwq; (exact d_build (vs := [(0, .bool (decide (n < 0))), (1, .slice p1 l1 k1), (2, .slice p2 l2 k2)]) (cells := fracC (decide (n < 0)) (.slice p1 l1 k1) (.slice p2 l2 k2)) (by kernel_rfl) ⟨rfl, rfl, rfl, rfl, rfl, rfl, trivial⟩); clear hF; clear a; intro a hF))
  refine x_one ?_
  have hN1' := hN1.below hb7
  refine st_storeAgg hF (cs := fracC (decide (n < 0)) (.slice p1 l1 k1) (.slice p2 l2 k2)) (isz _ _ rfl) rfl rfl hf7 (frac_one hN1' hN2) (k := fun a w8 hf8 hgr8 hsz8 hF => ?_)
  have hg8 := blk_kept hg7 hgr8 (by simp; omega)
  refine wpList_nil ⟨rfl, ⟨hg8, by omega⟩, x_nil ?_⟩
  repeat (first | refine c_then ?_ | refine wp_ret ?_)
  have hM1 := ((hN1'.mono (B' := w.heap.size + 2) (by omega)).kept hgr8 (by omega)).mono (B' := w.heap.size) (by omega)
  have hM2 := ((hN2.mono (B' := w.heap.size + 2) (by omega)).kept hgr8 (by omega)).mono (B' := w.heap.size) (by omega)
  exact ret_c hF rfl (agg _ rfl) (isz _ _ rfl) hf8 rfl ⟨⟨_, _, rfl, hM1, hM2⟩, ((hdb.trans (hb5.mono (by omega))).trans (hb7.mono (by omega))).grown hgr8 (by omega) (fun q e => by cases e; omega)⟩
set_option maxHeartbeats 2000000 in
theorem opp_ok (w : World) (B1 B2 : Nat) (b : Bool) (nv dv : Value) (x y : Nat) (h1 : NatV B1 w nv x) (h2 : NatV B2 w dv y) :
    Ret Tryz.prog 108 [.agg (fracC b nv dv)].toArray w (fun v w' => v = .agg (fracC (!b) nv dv) ∧ Below w.heap.size w w') := by
  obtain ⟨p1, k1, l1, rfl, _⟩ := nat_pos h1
  obtain ⟨p2, k2, l2, rfl, _⟩ := nat_pos h2
  refine enter1 Tryz.func108 rfl 10 rfl 11 rfl (fun a hF => ?_)
  repeat (first | refine c_seq ?_ | refine c_region _ ?_)
  refine st_box hF (cs := fracC b (.slice p1 l1 k1) (.slice p2 l2 k2)) rfl (k := fun a w1 hg1 hgr1 hsz1 hF => ?_)
  refine st_alloc hF fracInf (k := fun a w2 hf2 hgr2 hsz2 hF => ?_)
  have hg2 := blk_kept hg1 hgr2 (by simp)
  have c0 : w2.cell? ⟨w.heap.size, 0 + 0, none⟩ = some (.bool b) := cell_at hg2 rfl
  have c1 : w2.cell? ⟨w.heap.size, 0 + 1, none⟩ = some (.slice p1 l1 k1) := cell_at hg2 rfl
  have c2 : w2.cell? ⟨w.heap.size, 0 + 2, none⟩ = some (.slice p2 l2 k2) := cell_at hg2 rfl
  have hb2 : Below w.heap.size w w2 := ((Below.refl _ w).grown hgr1 (Nat.le_refl _) (fun k hk => by cases hk)).grown hgr2 (by omega) (fun k hk => by cases hk)
  repeat (first | refine c_seq ?_ | refine c_region _ ?_ | refine wpList_nil ?_ | refine c_then ?_ | ((apply st hF); (first | exact d_not | exact d_fieldAddr (fld _ _ _ _ rfl) (isz _ _ rfl) | exact d_build (vs := [(0, .bool (!b)), (1, .slice p1 l1 k1), (2, .slice p2 l2 k2)]) (cells := fracC (!b) (.slice p1 l1 k1) (.slice p2 l2 k2)) (by kernel_rfl) ⟨rfl, rfl, rfl, rfl, rfl, rfl, trivial⟩ | exact d_load (und _ _ rfl) c0 | exact d_load (und _ _ rfl) c1 | exact d_load (und _ _ rfl) c2); clear hF; clear a; intro a hF))
  refine st_storeAgg hF (cs := fracC (!b) (.slice p1 l1 k1) (.slice p2 l2 k2)) (isz _ _ rfl) rfl rfl hf2 (frac_one h1 h2) (k := fun a w8 hf8 hgr8 hsz8 hF => ?_)
  repeat (first | refine wpList_nil ?_ | refine c_then ?_ | refine wp_ret ?_)
  exact ret_c hF rfl (agg _ rfl) (isz _ _ rfl) hf8 rfl ⟨rfl, hb2.grown hgr8 (by omega) (fun q e => by cases e; omega)⟩
end Go.Proofs.YtjomihhpglojpaaGreatDoor
end
