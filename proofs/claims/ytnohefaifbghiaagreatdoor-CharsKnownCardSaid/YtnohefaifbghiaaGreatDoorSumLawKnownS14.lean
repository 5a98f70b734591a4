/- Laid together by a program of mine: Unq Cut. -/
import Derived.Test.YtnohefaifbghiaaGreatDoorSumLawKnownS13
import Derived.Test.YtnohefaifbghiaaGreatDoorSumLawKnownS3
import Derived.Laws.IdiomStrings
import Derived.Laws.Cover3
import Derived.Laws.Concat
set_option linter.unusedSimpArgs false
set_option linter.unusedVariables false
section
/- chars.Unquote, walked. -/
namespace Go.Proofs.YtnohefaifbghiaaGreatDoor
open Go.RowKit
set_option linter.unusedSimpArgs false
set_option linter.unusedVariables false
attribute [local irreducible] wpList wpQuiet wpStill Code.wp Exit.then Exit.inBlock bodyPost Calls Does Does0

theorem isB_below {T e : TypeId} {B b : Nat} {bs : List Value} {w w' : World} (h : Lib.IsBuilderF T e B b bs w) (hb : Below w.heap.size w w') : Lib.IsBuilderF T e B b bs w' := by
  have key : ∀ p, Lib.BuilderAtF T e B b p bs w → Lib.BuilderAtF T e B b p bs w' := by
    rintro p ⟨hB, v, hbk, hown, hne⟩
    refine ⟨hB, v, (hb.block _ (lt_at hbk)).trans hbk, ⟨hown.1, ?_⟩, hne⟩
    rcases hown.2 with h | ⟨g, cap, cur, fz, rfl, hbg, hg, rest⟩
    · exact .inl h
    · exact .inr ⟨g, cap, cur, fz, rfl, hbg, (hb.block _ (lt_at hg)).trans hg, rest⟩
  exact h.elim (fun h => .inl (key _ h)) (fun h => .inr (key _ h))
theorem below_grown' {w w' : World} (h : w.grownBy w' none) : Below w.heap.size w w' := (Below.refl _ w).grown h (Nat.le_refl _) (fun k hk => by cases hk)
theorem wb_ok (w : World) {B b : Nat} {bs : List Value} (c : Int) (h : Lib.IsBuilder 54 5 B b bs w) (hl : bs.length + 1 ≤ 140737488355328) (hB : B ≤ w.heap.size) : Ret Tryz.prog 25 #[.pointer (some ⟨b, 0, none⟩), .int .u8 c] w (fun v w' => v = .nilIface ∧ Lib.IsBuilder 54 5 B b (bs ++ [.int .u8 c]) w' ∧ Below B w w') :=
  Calls.mono (Tryz.Builder_WriteByte B b bs c w h hl hB) (by rintro e w' ⟨rfl, h1, h2⟩; exact ⟨_, rfl, rfl, .inr h1, h2⟩)
theorem bs_ok (w : World) {B b : Nat} (l : List UInt8) (h : Lib.IsBuilderF 54 5 B b (Lib.byteCells l) w) (hB : B ≤ w.heap.size) : Ret Tryz.prog 27 #[.pointer (some ⟨b, 0, none⟩)] w (fun v w' => v = .string ⟨l.toArray⟩ ∧ Lib.IsBuilderF 54 5 B b (Lib.byteCells l) w' ∧ Below B w w') :=
  Calls.mono (Tryz.Builder_String_any_f B b l w h hB) (by rintro e w' ⟨rfl, h1, h2⟩; exact ⟨_, rfl, rfl, h1, h2⟩)
/-- An error of the number n, or none. -/
def ErrV (n : Int) (v : Value) : Prop := (n = 0 ∧ v = .nilIface) ∨ (n ≠ 0 ∧ 1 ≤ n ∧ n ≤ 26 ∧ v = .iface 38 (.int .i64 n))

set_option maxHeartbeats 16000000 in
theorem unq_ok (w : World) (s : ByteArray) (hsz : s.size ≤ 16777216) (hT : Tabs w) : Ret Tryz.prog 13 #[.string s] w (fun v w' => ∃ n t ve, v = .tuple #[.string t, ve] ∧ ErrV n ve ∧ UnqR s n t ∧ Below w.heap.size w w') := by
  refine enter1 Tryz.func13 rfl 72 rfl 73 rfl (fun a hF => ?_)
  have eN : ∀ n : Int, 1 ≤ n → n ≤ 26 → ErrV n (.iface 38 (.int .i64 n)) := fun n h1 h2 => .inr ⟨by omega, h1, h2, rfl⟩
  by_cases hs2 : s.size < 2
  · repeat (first | refine c_seq ?_ | refine c_block ?_ | refine c_region _ ?_ | refine wpList_nil ?_ | refine c_then ?_ | refine c_then_exit ?_ | refine c_then_ret ?_ | refine c_in ?_ | refine c_in_ret ?_ | refine c_in_hit ?_ | refine wp_skip ?_ | refine wp_exit ?_ | refine wp_ret ?_ | refine c_in_miss rfl ?_ | ((first | apply st hF | apply stg hF | apply s_step hF | apply s_stg hF); (first | exact d_move | exact d_assign | exact d_pickT | exact d_pickF | exact d_add | exact d_cmpT | exact d_cmpF | exact d_cmp | exact d_eqbT (und _ _ rfl) | exact d_eqbF (und _ _ rfl) | exact d_eqb (und _ _ rfl) | exact d_eqST | exact d_eqSF | exact d_eqS | exact d_len (und _ _ rfl) | exact d_lens (und _ _ rfl) | exact d_eqN (ifc _ rfl) | exact d_neN (ifc _ rfl) | exact d_makeI (con _ rfl)); clear hF; clear a; intro a hF) | ((first | apply stm hF | apply stu hF); clear hF; clear a; intro a hF) | (apply c_cond_t hF; exact rfl; first | exact rfl | assumption) | (apply c_cond_f hF; exact rfl; first | exact rfl | assumption) | refine s_nil ?_)
    exact ret2 hF rfl rfl rfl ⟨2, _, _, rfl, eN 2 (by decide) (by decide), .inl ⟨hs2, rfl, rfl⟩, Below.refl _ w⟩
  have g0 := get_at (s := s) (j := 0) (by omega)
  by_cases hq0 : (s.get! 0).toNat = 34
  · repeat (first | refine c_seq ?_ | refine c_block ?_ | refine c_region _ ?_ | refine wpList_nil ?_ | refine c_then ?_ | refine c_then_exit ?_ | refine c_then_ret ?_ | refine c_in ?_ | refine c_in_ret ?_ | refine c_in_hit ?_ | refine wp_skip ?_ | refine wp_exit ?_ | refine wp_ret ?_ | refine c_in_miss rfl ?_ | ((first | apply st hF | apply stg hF | apply s_step hF | apply s_stg hF); (first | exact d_move | exact d_assign | exact d_pickT | exact d_pickF | exact d_add | exact d_cmpT | exact d_cmpF | exact d_cmp | exact d_eqbT (und _ _ rfl) | exact d_eqbF (und _ _ rfl) | exact d_eqb (und _ _ rfl) | exact d_eqST | exact d_eqSF | exact d_eqS | exact d_len (und _ _ rfl) | exact d_lens (und _ _ rfl) | exact d_eqN (ifc _ rfl) | exact d_neN (ifc _ rfl) | exact d_makeI (con _ rfl) | exact d_indexS (und _ _ rfl) g0); clear hF; clear a; intro a hF) | ((first | apply stm hF | apply stu hF); clear hF; clear a; intro a hF) | (apply c_cond_t hF; exact rfl; first | exact rfl | assumption) | (apply c_cond_f hF; exact rfl; first | exact rfl | assumption) | refine s_nil ?_)
    refine st_alloc hF inf54 (k := fun a w1 hg1 hgr1 hsz1 hF => ?_)
    have hib1 : Lib.IsBuilder 54 5 w.heap.size w.heap.size [] w1 := .inl ⟨Nat.le_refl _, .slice none 0 0, hg1, World.ownsRow_nil _ _ _ _, by simp [Value.ownBlock]⟩
    have hbel1 := below_grown' hgr1
    repeat (first | refine c_seq ?_ | refine c_block ?_ | refine c_region _ ?_ | refine wpList_nil ?_ | refine c_then ?_ | refine c_then_exit ?_ | refine c_then_ret ?_ | refine c_in ?_ | refine c_in_ret ?_ | refine c_in_hit ?_ | refine wp_skip ?_ | refine wp_exit ?_ | refine wp_ret ?_ | refine c_in_miss rfl ?_ | ((first | apply st hF | apply stg hF | apply s_step hF | apply s_stg hF); (first | exact d_move | exact d_assign | exact d_pickT | exact d_pickF | exact d_add | exact d_cmpT | exact d_cmpF | exact d_cmp | exact d_eqbT (und _ _ rfl) | exact d_eqbF (und _ _ rfl) | exact d_eqb (und _ _ rfl) | exact d_eqST | exact d_eqSF | exact d_eqS | exact d_len (und _ _ rfl) | exact d_lens (und _ _ rfl) | exact d_eqN (ifc _ rfl) | exact d_neN (ifc _ rfl) | exact d_makeI (con _ rfl)); clear hF; clear a; intro a hF) | ((first | apply stm hF | apply stu hF); clear hF; clear a; intro a hF) | (apply c_cond_t hF; exact rfl; first | exact rfl | assumption) | (apply c_cond_f hF; exact rfl; first | exact rfl | assumption) | refine s_nil ?_)
    refine c_loop (fun q a wr => ∃ (k : Nat), (∀ j, j < k → goP s (sc s j).1) ∧ q = s.size - (sc s k).1 ∧ Fr 73 [(0, .string s), (4, .pointer (some ⟨w.heap.size, 0, none⟩)), (5, .int .i64 ((sc s k).1 : Int))] a ∧ Lib.IsBuilder 54 5 w.heap.size w.heap.size (Lib.byteCells (sc s k).2) wr ∧ Below w.heap.size w wr) (s.size - 1)
      ⟨0, fun j hj => absurd hj (Nat.not_lt_zero _), rfl, hF.keep' ⟨rfl, rfl, rfl, trivial⟩, hib1, hbel1⟩ ?_
    clear hF a
    rintro q a wr ⟨k, hgo, rfl, hF, hib, hbel⟩
    obtain ⟨b1, b2, b3⟩ := sc_bnd s k hgo (by omega)
    have hsw := hbel.size
    obtain ⟨i, hi⟩ : ∃ i, (sc s k).1 = i := ⟨_, rfl⟩
    rw [hi] at hF b1 b2
    have hgo2 : goP s i → ∀ j, j < k + 1 → goP s (sc s j).1 := fun h j hj => by
      by_cases e : j = k
      · subst e; rw [hi]; exact h
      · exact hgo j (by omega)
    have fin : ∀ {n : Int} {t : ByteArray}, ¬ goP s i → FinR s i (sc s k).2 n t → UnqR s n t := fun {n t} hn hf => .inr (.inr ⟨by omega, hq0, k, hgo, by rw [hi]; exact hn, by rw [hi]; exact hf⟩)
    by_cases hlt : i < s.size
    · have gi := get_at hlt
      by_cases hq : (s.get! i).toNat = 34
      · by_cases hl : i + 1 < s.size
        · repeat (first | refine c_seq ?_ | refine c_block ?_ | refine c_region _ ?_ | refine wpList_nil ?_ | refine c_then ?_ | refine c_then_exit ?_ | refine c_then_ret ?_ | refine c_in ?_ | refine c_in_ret ?_ | refine c_in_hit ?_ | refine wp_skip ?_ | refine wp_exit ?_ | refine wp_ret ?_ | refine c_in_miss rfl ?_ | ((first | apply st hF | apply stg hF | apply s_step hF | apply s_stg hF); (first | exact d_move | exact d_assign | exact d_pickT | exact d_pickF | exact d_add | exact d_cmpT | exact d_cmpF | exact d_cmp | exact d_eqbT (und _ _ rfl) | exact d_eqbF (und _ _ rfl) | exact d_eqb (und _ _ rfl) | exact d_eqST | exact d_eqSF | exact d_eqS | exact d_len (und _ _ rfl) | exact d_lens (und _ _ rfl) | exact d_eqN (ifc _ rfl) | exact d_neN (ifc _ rfl) | exact d_makeI (con _ rfl) | exact d_indexS (und _ _ rfl) gi); clear hF; clear a; intro a hF) | ((first | apply stm hF | apply stu hF); clear hF; clear a; intro a hF) | (apply c_cond_t hF; exact rfl; first | exact rfl | assumption) | (apply c_cond_f hF; exact rfl; first | exact rfl | assumption) | refine s_nil ?_)
          exact ret2 hF rfl rfl rfl ⟨3, _, _, rfl, eN 3 (by decide) (by decide), fin (fun h => h.2.1 hq) (.inr (.inl ⟨hlt, hq, hl, rfl, rfl⟩)), hbel⟩
        · repeat (first | refine c_seq ?_ | refine c_block ?_ | refine c_region _ ?_ | refine wpList_nil ?_ | refine c_then ?_ | refine c_then_exit ?_ | refine c_then_ret ?_ | refine c_in ?_ | refine c_in_ret ?_ | refine c_in_hit ?_ | refine wp_skip ?_ | refine wp_exit ?_ | refine wp_ret ?_ | refine c_in_miss rfl ?_ | ((first | apply st hF | apply stg hF | apply s_step hF | apply s_stg hF); (first | exact d_move | exact d_assign | exact d_pickT | exact d_pickF | exact d_add | exact d_cmpT | exact d_cmpF | exact d_cmp | exact d_eqbT (und _ _ rfl) | exact d_eqbF (und _ _ rfl) | exact d_eqb (und _ _ rfl) | exact d_eqST | exact d_eqSF | exact d_eqS | exact d_len (und _ _ rfl) | exact d_lens (und _ _ rfl) | exact d_eqN (ifc _ rfl) | exact d_neN (ifc _ rfl) | exact d_makeI (con _ rfl) | exact d_indexS (und _ _ rfl) gi); clear hF; clear a; intro a hF) | ((first | apply stm hF | apply stu hF); clear hF; clear a; intro a hF) | (apply c_cond_t hF; exact rfl; first | exact rfl | assumption) | (apply c_cond_f hF; exact rfl; first | exact rfl | assumption) | refine s_nil ?_)
          refine stc hF (bs_ok wr (sc s k).2 (Lib.IsBuilderF.of hib) hsw) cal27 ⟨rfl, trivial⟩ (k := fun a v w2 hR hF => ?_)
          obtain ⟨rfl, hib2, hb2⟩ := hR
          have hbel2 := hbel.trans hb2
          repeat (first | refine c_seq ?_ | refine c_block ?_ | refine c_region _ ?_ | refine wpList_nil ?_ | refine c_then ?_ | refine c_then_exit ?_ | refine c_then_ret ?_ | refine c_in ?_ | refine c_in_ret ?_ | refine c_in_hit ?_ | refine wp_skip ?_ | refine wp_exit ?_ | refine wp_ret ?_ | refine c_in_miss rfl ?_ | ((first | apply st hF | apply stg hF | apply s_step hF | apply s_stg hF); (first | exact d_move | exact d_assign | exact d_pickT | exact d_pickF | exact d_add | exact d_cmpT | exact d_cmpF | exact d_cmp | exact d_eqbT (und _ _ rfl) | exact d_eqbF (und _ _ rfl) | exact d_eqb (und _ _ rfl) | exact d_eqST | exact d_eqSF | exact d_eqS | exact d_len (und _ _ rfl) | exact d_lens (und _ _ rfl) | exact d_eqN (ifc _ rfl) | exact d_neN (ifc _ rfl) | exact d_makeI (con _ rfl)); clear hF; clear a; intro a hF) | ((first | apply stm hF | apply stu hF); clear hF; clear a; intro a hF) | (apply c_cond_t hF; exact rfl; first | exact rfl | assumption) | (apply c_cond_f hF; exact rfl; first | exact rfl | assumption) | refine s_nil ?_)
          refine stc hF (may_ok w2 _ (hT.below hbel2)) cal26 ⟨rfl, trivial⟩ (k := fun a v w3 hR hF => ?_)
          obtain ⟨n, hm, hv, hb3⟩ := hR
          have hbel3 : Below w.heap.size w w3 := hbel2.trans (hb3.mono hbel2.size)
          rcases hv with ⟨rfl, rfl⟩ | ⟨hn0, hn1, hn2, rfl⟩
          · repeat (first | refine c_seq ?_ | refine c_block ?_ | refine c_region _ ?_ | refine wpList_nil ?_ | refine c_then ?_ | refine c_then_exit ?_ | refine c_then_ret ?_ | refine c_in ?_ | refine c_in_ret ?_ | refine c_in_hit ?_ | refine wp_skip ?_ | refine wp_exit ?_ | refine wp_ret ?_ | refine c_in_miss rfl ?_ | ((first | apply st hF | apply stg hF | apply s_step hF | apply s_stg hF); (first | exact d_move | exact d_assign | exact d_pickT | exact d_pickF | exact d_add | exact d_cmpT | exact d_cmpF | exact d_cmp | exact d_eqbT (und _ _ rfl) | exact d_eqbF (und _ _ rfl) | exact d_eqb (und _ _ rfl) | exact d_eqST | exact d_eqSF | exact d_eqS | exact d_len (und _ _ rfl) | exact d_lens (und _ _ rfl) | exact d_eqN (ifc _ rfl) | exact d_neN (ifc _ rfl) | exact d_makeI (con _ rfl)); clear hF; clear a; intro a hF) | ((first | apply stm hF | apply stu hF); clear hF; clear a; intro a hF) | (apply c_cond_t hF; exact rfl; first | exact rfl | assumption) | (apply c_cond_f hF; exact rfl; first | exact rfl | assumption) | refine s_nil ?_)
            refine stc hF (bs_ok w3 (sc s k).2 (isB_below hib2 hb3) hbel3.size) cal27 ⟨rfl, trivial⟩ (k := fun a v w4 hR hF => ?_)
            obtain ⟨rfl, hib4, hb4⟩ := hR
            repeat (first | refine c_seq ?_ | refine c_block ?_ | refine c_region _ ?_ | refine wpList_nil ?_ | refine c_then ?_ | refine c_then_exit ?_ | refine c_then_ret ?_ | refine c_in ?_ | refine c_in_ret ?_ | refine c_in_hit ?_ | refine wp_skip ?_ | refine wp_exit ?_ | refine wp_ret ?_ | refine c_in_miss rfl ?_ | ((first | apply st hF | apply stg hF | apply s_step hF | apply s_stg hF); (first | exact d_move | exact d_assign | exact d_pickT | exact d_pickF | exact d_add | exact d_cmpT | exact d_cmpF | exact d_cmp | exact d_eqbT (und _ _ rfl) | exact d_eqbF (und _ _ rfl) | exact d_eqb (und _ _ rfl) | exact d_eqST | exact d_eqSF | exact d_eqS | exact d_len (und _ _ rfl) | exact d_lens (und _ _ rfl) | exact d_eqN (ifc _ rfl) | exact d_neN (ifc _ rfl) | exact d_makeI (con _ rfl)); clear hF; clear a; intro a hF) | ((first | apply stm hF | apply stu hF); clear hF; clear a; intro a hF) | (apply c_cond_t hF; exact rfl; first | exact rfl | assumption) | (apply c_cond_f hF; exact rfl; first | exact rfl | assumption) | refine s_nil ?_)
            exact ret2 hF rfl rfl rfl ⟨0, _, _, rfl, .inl ⟨rfl, rfl⟩, fin (fun h => h.2.1 hq) (.inr (.inr (.inl ⟨hlt, hq, by omega, hm, .inl ⟨rfl, rfl⟩⟩))), hbel3.trans hb4⟩
          · repeat (first | refine c_seq ?_ | refine c_block ?_ | refine c_region _ ?_ | refine wpList_nil ?_ | refine c_then ?_ | refine c_then_exit ?_ | refine c_then_ret ?_ | refine c_in ?_ | refine c_in_ret ?_ | refine c_in_hit ?_ | refine wp_skip ?_ | refine wp_exit ?_ | refine wp_ret ?_ | refine c_in_miss rfl ?_ | ((first | apply st hF | apply stg hF | apply s_step hF | apply s_stg hF); (first | exact d_move | exact d_assign | exact d_pickT | exact d_pickF | exact d_add | exact d_cmpT | exact d_cmpF | exact d_cmp | exact d_eqbT (und _ _ rfl) | exact d_eqbF (und _ _ rfl) | exact d_eqb (und _ _ rfl) | exact d_eqST | exact d_eqSF | exact d_eqS | exact d_len (und _ _ rfl) | exact d_lens (und _ _ rfl) | exact d_eqN (ifc _ rfl) | exact d_neN (ifc _ rfl) | exact d_makeI (con _ rfl)); clear hF; clear a; intro a hF) | ((first | apply stm hF | apply stu hF); clear hF; clear a; intro a hF) | (apply c_cond_t hF; exact rfl; first | exact rfl | assumption) | (apply c_cond_f hF; exact rfl; first | exact rfl | assumption) | refine s_nil ?_)
            exact ret2 hF rfl rfl rfl ⟨n, _, _, rfl, .inr ⟨hn0, hn1, hn2, rfl⟩, fin (fun h => h.2.1 hq) (.inr (.inr (.inl ⟨hlt, hq, by omega, hm, .inr ⟨hn0, rfl⟩⟩))), hbel3⟩
      · by_cases hbs : (s.get! i).toNat = 92
        · by_cases hlt2 : i + 1 < s.size
          · have gj := get_at hlt2
            by_cases hx : (s.get! (i + 1)).toNat = 34 ∨ (s.get! (i + 1)).toNat = 92
            · have hgk : goP s i := ⟨hlt, hq, fun _ => ⟨hlt2, hx⟩⟩
              rcases hx with hx | hx
              · repeat (first | refine c_seq ?_ | refine c_block ?_ | refine c_region _ ?_ | refine wpList_nil ?_ | refine c_then ?_ | refine c_then_exit ?_ | refine c_then_ret ?_ | refine c_in ?_ | refine c_in_ret ?_ | refine c_in_hit ?_ | refine wp_skip ?_ | refine wp_exit ?_ | refine wp_ret ?_ | refine c_in_miss rfl ?_ | ((first | apply st hF | apply stg hF | apply s_step hF | apply s_stg hF); (first | exact d_move | exact d_assign | exact d_pickT | exact d_pickF | exact d_add | exact d_cmpT | exact d_cmpF | exact d_cmp | exact d_eqbT (und _ _ rfl) | exact d_eqbF (und _ _ rfl) | exact d_eqb (und _ _ rfl) | exact d_eqST | exact d_eqSF | exact d_eqS | exact d_len (und _ _ rfl) | exact d_lens (und _ _ rfl) | exact d_eqN (ifc _ rfl) | exact d_neN (ifc _ rfl) | exact d_makeI (con _ rfl) | exact d_indexS (und _ _ rfl) gi | exact d_indexS (und _ _ rfl) gj (hq := by omega)); clear hF; clear a; intro a hF) | ((first | apply stm hF | apply stu hF); clear hF; clear a; intro a hF) | (apply c_cond_t hF; exact rfl; first | exact rfl | assumption) | (apply c_cond_f hF; exact rfl; first | exact rfl | assumption) | refine s_nil ?_)
                refine stc hF (wb_ok wr (s.get! (i + 1)).toNat hib (by rw [Lib.byteCells_length]; omega) hsw) cal25 ⟨rfl, rfl, trivial⟩ (k := fun a v w2 hR hF => ?_)
                obtain ⟨rfl, hib2, hb2⟩ := hR
                obtain ⟨e1, e2⟩ := sc_bs (s := s) (k := k) (by rw [hi]; exact hbs)
                rw [hi] at e1 e2
                rw [← e2] at hib2
                repeat (first | refine c_seq ?_ | refine c_block ?_ | refine c_region _ ?_ | refine wpList_nil ?_ | refine c_then ?_ | refine c_then_exit ?_ | refine c_then_ret ?_ | refine c_in ?_ | refine c_in_ret ?_ | refine c_in_hit ?_ | refine wp_skip ?_ | refine wp_exit ?_ | refine wp_ret ?_ | refine c_in_miss rfl ?_ | ((first | apply st hF | apply stg hF | apply s_step hF | apply s_stg hF); (first | exact d_move | exact d_assign | exact d_pickT | exact d_pickF | exact d_add | exact d_cmpT | exact d_cmpF | exact d_cmp | exact d_eqbT (und _ _ rfl) | exact d_eqbF (und _ _ rfl) | exact d_eqb (und _ _ rfl) | exact d_eqST | exact d_eqSF | exact d_eqS | exact d_len (und _ _ rfl) | exact d_lens (und _ _ rfl) | exact d_eqN (ifc _ rfl) | exact d_neN (ifc _ rfl) | exact d_makeI (con _ rfl)); clear hF; clear a; intro a hF) | ((first | apply stm hF | apply stu hF); clear hF; clear a; intro a hF) | (apply c_cond_t hF; exact rfl; first | exact rfl | assumption) | (apply c_cond_f hF; exact rfl; first | exact rfl | assumption) | refine s_nil ?_)
                exact ⟨s.size - (sc s (k + 1)).1, by rw [e1]; omega, k + 1, hgo2 hgk, rfl, by rw [e1]; exact hF.keep' ⟨rfl, rfl, rfl, trivial⟩, hib2, hbel.trans hb2⟩
              · repeat (first | refine c_seq ?_ | refine c_block ?_ | refine c_region _ ?_ | refine wpList_nil ?_ | refine c_then ?_ | refine c_then_exit ?_ | refine c_then_ret ?_ | refine c_in ?_ | refine c_in_ret ?_ | refine c_in_hit ?_ | refine wp_skip ?_ | refine wp_exit ?_ | refine wp_ret ?_ | refine c_in_miss rfl ?_ | ((first | apply st hF | apply stg hF | apply s_step hF | apply s_stg hF); (first | exact d_move | exact d_assign | exact d_pickT | exact d_pickF | exact d_add | exact d_cmpT | exact d_cmpF | exact d_cmp | exact d_eqbT (und _ _ rfl) | exact d_eqbF (und _ _ rfl) | exact d_eqb (und _ _ rfl) | exact d_eqST | exact d_eqSF | exact d_eqS | exact d_len (und _ _ rfl) | exact d_lens (und _ _ rfl) | exact d_eqN (ifc _ rfl) | exact d_neN (ifc _ rfl) | exact d_makeI (con _ rfl) | exact d_indexS (und _ _ rfl) gi | exact d_indexS (und _ _ rfl) gj (hq := by omega)); clear hF; clear a; intro a hF) | ((first | apply stm hF | apply stu hF); clear hF; clear a; intro a hF) | (apply c_cond_t hF; exact rfl; first | exact rfl | assumption) | (apply c_cond_f hF; exact rfl; first | exact rfl | assumption) | refine s_nil ?_)
                refine stc hF (wb_ok wr (s.get! (i + 1)).toNat hib (by rw [Lib.byteCells_length]; omega) hsw) cal25 ⟨rfl, rfl, trivial⟩ (k := fun a v w2 hR hF => ?_)
                obtain ⟨rfl, hib2, hb2⟩ := hR
                obtain ⟨e1, e2⟩ := sc_bs (s := s) (k := k) (by rw [hi]; exact hbs)
                rw [hi] at e1 e2
                rw [← e2] at hib2
                repeat (first | refine c_seq ?_ | refine c_block ?_ | refine c_region _ ?_ | refine wpList_nil ?_ | refine c_then ?_ | refine c_then_exit ?_ | refine c_then_ret ?_ | refine c_in ?_ | refine c_in_ret ?_ | refine c_in_hit ?_ | refine wp_skip ?_ | refine wp_exit ?_ | refine wp_ret ?_ | refine c_in_miss rfl ?_ | ((first | apply st hF | apply stg hF | apply s_step hF | apply s_stg hF); (first | exact d_move | exact d_assign | exact d_pickT | exact d_pickF | exact d_add | exact d_cmpT | exact d_cmpF | exact d_cmp | exact d_eqbT (und _ _ rfl) | exact d_eqbF (und _ _ rfl) | exact d_eqb (und _ _ rfl) | exact d_eqST | exact d_eqSF | exact d_eqS | exact d_len (und _ _ rfl) | exact d_lens (und _ _ rfl) | exact d_eqN (ifc _ rfl) | exact d_neN (ifc _ rfl) | exact d_makeI (con _ rfl)); clear hF; clear a; intro a hF) | ((first | apply stm hF | apply stu hF); clear hF; clear a; intro a hF) | (apply c_cond_t hF; exact rfl; first | exact rfl | assumption) | (apply c_cond_f hF; exact rfl; first | exact rfl | assumption) | refine s_nil ?_)
                exact ⟨s.size - (sc s (k + 1)).1, by rw [e1]; omega, k + 1, hgo2 hgk, rfl, by rw [e1]; exact hF.keep' ⟨rfl, rfl, rfl, trivial⟩, hib2, hbel.trans hb2⟩
            · repeat (first | refine c_seq ?_ | refine c_block ?_ | refine c_region _ ?_ | refine wpList_nil ?_ | refine c_then ?_ | refine c_then_exit ?_ | refine c_then_ret ?_ | refine c_in ?_ | refine c_in_ret ?_ | refine c_in_hit ?_ | refine wp_skip ?_ | refine wp_exit ?_ | refine wp_ret ?_ | refine c_in_miss rfl ?_ | ((first | apply st hF | apply stg hF | apply s_step hF | apply s_stg hF); (first | exact d_move | exact d_assign | exact d_pickT | exact d_pickF | exact d_add | exact d_cmpT | exact d_cmpF | exact d_cmp | exact d_eqbT (und _ _ rfl) | exact d_eqbF (und _ _ rfl) | exact d_eqb (und _ _ rfl) | exact d_eqST | exact d_eqSF | exact d_eqS | exact d_len (und _ _ rfl) | exact d_lens (und _ _ rfl) | exact d_eqN (ifc _ rfl) | exact d_neN (ifc _ rfl) | exact d_makeI (con _ rfl) | exact d_indexS (und _ _ rfl) gi | exact d_indexS (und _ _ rfl) gj (hq := by omega)); clear hF; clear a; intro a hF) | ((first | apply stm hF | apply stu hF); clear hF; clear a; intro a hF) | (apply c_cond_t hF; exact rfl; first | exact rfl | assumption) | (apply c_cond_f hF; exact rfl; first | exact rfl | assumption) | refine s_nil ?_)
              exact ret2 hF rfl rfl rfl ⟨4, _, _, rfl, eN 4 (by decide) (by decide), fin (fun h => hx (h.2.2 hbs).2) (.inr (.inr (.inr ⟨hlt, hbs, rfl, rfl⟩))), hbel⟩
          · repeat (first | refine c_seq ?_ | refine c_block ?_ | refine c_region _ ?_ | refine wpList_nil ?_ | refine c_then ?_ | refine c_then_exit ?_ | refine c_then_ret ?_ | refine c_in ?_ | refine c_in_ret ?_ | refine c_in_hit ?_ | refine wp_skip ?_ | refine wp_exit ?_ | refine wp_ret ?_ | refine c_in_miss rfl ?_ | ((first | apply st hF | apply stg hF | apply s_step hF | apply s_stg hF); (first | exact d_move | exact d_assign | exact d_pickT | exact d_pickF | exact d_add | exact d_cmpT | exact d_cmpF | exact d_cmp | exact d_eqbT (und _ _ rfl) | exact d_eqbF (und _ _ rfl) | exact d_eqb (und _ _ rfl) | exact d_eqST | exact d_eqSF | exact d_eqS | exact d_len (und _ _ rfl) | exact d_lens (und _ _ rfl) | exact d_eqN (ifc _ rfl) | exact d_neN (ifc _ rfl) | exact d_makeI (con _ rfl) | exact d_indexS (und _ _ rfl) gi); clear hF; clear a; intro a hF) | ((first | apply stm hF | apply stu hF); clear hF; clear a; intro a hF) | (apply c_cond_t hF; exact rfl; first | exact rfl | assumption) | (apply c_cond_f hF; exact rfl; first | exact rfl | assumption) | refine s_nil ?_)
            exact ret2 hF rfl rfl rfl ⟨4, _, _, rfl, eN 4 (by decide) (by decide), fin (fun h => hlt2 (h.2.2 hbs).1) (.inr (.inr (.inr ⟨hlt, hbs, rfl, rfl⟩))), hbel⟩
        · have hgk : goP s i := ⟨hlt, hq, fun h => absurd h hbs⟩
          repeat (first | refine c_seq ?_ | refine c_block ?_ | refine c_region _ ?_ | refine wpList_nil ?_ | refine c_then ?_ | refine c_then_exit ?_ | refine c_then_ret ?_ | refine c_in ?_ | refine c_in_ret ?_ | refine c_in_hit ?_ | refine wp_skip ?_ | refine wp_exit ?_ | refine wp_ret ?_ | refine c_in_miss rfl ?_ | ((first | apply st hF | apply stg hF | apply s_step hF | apply s_stg hF); (first | exact d_move | exact d_assign | exact d_pickT | exact d_pickF | exact d_add | exact d_cmpT | exact d_cmpF | exact d_cmp | exact d_eqbT (und _ _ rfl) | exact d_eqbF (und _ _ rfl) | exact d_eqb (und _ _ rfl) | exact d_eqST | exact d_eqSF | exact d_eqS | exact d_len (und _ _ rfl) | exact d_lens (und _ _ rfl) | exact d_eqN (ifc _ rfl) | exact d_neN (ifc _ rfl) | exact d_makeI (con _ rfl) | exact d_indexS (und _ _ rfl) gi); clear hF; clear a; intro a hF) | ((first | apply stm hF | apply stu hF); clear hF; clear a; intro a hF) | (apply c_cond_t hF; exact rfl; first | exact rfl | assumption) | (apply c_cond_f hF; exact rfl; first | exact rfl | assumption) | refine s_nil ?_)
          refine stc hF (wb_ok wr (s.get! i).toNat hib (by rw [Lib.byteCells_length]; omega) hsw) cal25 ⟨rfl, rfl, trivial⟩ (k := fun a v w2 hR hF => ?_)
          obtain ⟨rfl, hib2, hb2⟩ := hR
          obtain ⟨e1, e2⟩ := sc_pl (s := s) (k := k) (by rw [hi]; exact hbs)
          rw [hi] at e1 e2
          rw [← e2] at hib2
          repeat (first | refine c_seq ?_ | refine c_block ?_ | refine c_region _ ?_ | refine wpList_nil ?_ | refine c_then ?_ | refine c_then_exit ?_ | refine c_then_ret ?_ | refine c_in ?_ | refine c_in_ret ?_ | refine c_in_hit ?_ | refine wp_skip ?_ | refine wp_exit ?_ | refine wp_ret ?_ | refine c_in_miss rfl ?_ | ((first | apply st hF | apply stg hF | apply s_step hF | apply s_stg hF); (first | exact d_move | exact d_assign | exact d_pickT | exact d_pickF | exact d_add | exact d_cmpT | exact d_cmpF | exact d_cmp | exact d_eqbT (und _ _ rfl) | exact d_eqbF (und _ _ rfl) | exact d_eqb (und _ _ rfl) | exact d_eqST | exact d_eqSF | exact d_eqS | exact d_len (und _ _ rfl) | exact d_lens (und _ _ rfl) | exact d_eqN (ifc _ rfl) | exact d_neN (ifc _ rfl) | exact d_makeI (con _ rfl)); clear hF; clear a; intro a hF) | ((first | apply stm hF | apply stu hF); clear hF; clear a; intro a hF) | (apply c_cond_t hF; exact rfl; first | exact rfl | assumption) | (apply c_cond_f hF; exact rfl; first | exact rfl | assumption) | refine s_nil ?_)
          exact ⟨s.size - (sc s (k + 1)).1, by rw [e1]; omega, k + 1, hgo2 hgk, rfl, by rw [e1]; exact hF.keep' ⟨rfl, rfl, rfl, trivial⟩, hib2, hbel.trans hb2⟩
    · repeat (first | refine c_seq ?_ | refine c_block ?_ | refine c_region _ ?_ | refine wpList_nil ?_ | refine c_then ?_ | refine c_then_exit ?_ | refine c_then_ret ?_ | refine c_in ?_ | refine c_in_ret ?_ | refine c_in_hit ?_ | refine wp_skip ?_ | refine wp_exit ?_ | refine wp_ret ?_ | refine c_in_miss rfl ?_ | ((first | apply st hF | apply stg hF | apply s_step hF | apply s_stg hF); (first | exact d_move | exact d_assign | exact d_pickT | exact d_pickF | exact d_add | exact d_cmpT | exact d_cmpF | exact d_cmp | exact d_eqbT (und _ _ rfl) | exact d_eqbF (und _ _ rfl) | exact d_eqb (und _ _ rfl) | exact d_eqST | exact d_eqSF | exact d_eqS | exact d_len (und _ _ rfl) | exact d_lens (und _ _ rfl) | exact d_eqN (ifc _ rfl) | exact d_neN (ifc _ rfl) | exact d_makeI (con _ rfl)); clear hF; clear a; intro a hF) | ((first | apply stm hF | apply stu hF); clear hF; clear a; intro a hF) | (apply c_cond_t hF; exact rfl; first | exact rfl | assumption) | (apply c_cond_f hF; exact rfl; first | exact rfl | assumption) | refine s_nil ?_)
      exact ret2 hF rfl rfl rfl ⟨2, _, _, rfl, eN 2 (by decide) (by decide), fin (fun h => hlt h.1) (.inl ⟨by omega, rfl, rfl⟩), hbel⟩
  · repeat (first | refine c_seq ?_ | refine c_block ?_ | refine c_region _ ?_ | refine wpList_nil ?_ | refine c_then ?_ | refine c_then_exit ?_ | refine c_then_ret ?_ | refine c_in ?_ | refine c_in_ret ?_ | refine c_in_hit ?_ | refine wp_skip ?_ | refine wp_exit ?_ | refine wp_ret ?_ | refine c_in_miss rfl ?_ | ((first | apply st hF | apply stg hF | apply s_step hF | apply s_stg hF); (first | exact d_move | exact d_assign | exact d_pickT | exact d_pickF | exact d_add | exact d_cmpT | exact d_cmpF | exact d_cmp | exact d_eqbT (und _ _ rfl) | exact d_eqbF (und _ _ rfl) | exact d_eqb (und _ _ rfl) | exact d_eqST | exact d_eqSF | exact d_eqS | exact d_len (und _ _ rfl) | exact d_lens (und _ _ rfl) | exact d_eqN (ifc _ rfl) | exact d_neN (ifc _ rfl) | exact d_makeI (con _ rfl) | exact d_indexS (und _ _ rfl) g0); clear hF; clear a; intro a hF) | ((first | apply stm hF | apply stu hF); clear hF; clear a; intro a hF) | (apply c_cond_t hF; exact rfl; first | exact rfl | assumption) | (apply c_cond_f hF; exact rfl; first | exact rfl | assumption) | refine s_nil ?_)
    exact ret2 hF rfl rfl rfl ⟨4, _, _, rfl, eN 4 (by decide) (by decide), .inr (.inl ⟨by omega, hq0, rfl, rfl⟩), Below.refl _ w⟩
end Go.Proofs.YtnohefaifbghiaaGreatDoor
end
section
/- A place in the text where all ways meet; a slice against nil; a slice from some place on. Plain lemmas over any program. -/
namespace Go.Proofs.YtnohefaifbghiaaGreatDoor
open Go.RowKit
section
variable {P : Program} {ops : Array Oper} {Q : Exit → Act → World → Prop} {rest : List Oper} {a : Act} {w : World} {N : Nat} {l : List (Nat × Value)}
/-- All ways through x come to I. -/
theorem c_cut {x y : Code} (I : Act → World → Prop) (h1 : x.wp P (Exit.then (fun a' w' => I a' w') Q) a w) (h2 : ∀ a' w', I a' w' → y.wp P Q a' w') : (Code.seq x y).wp P Q a w :=
  wp_seq (wp_mono h1 fun e a' w' h => by cases e <;> first | exact h2 _ _ h | exact h)
/-- .. x the text that begins with region id. -/
theorem c_cutR (id : Nat) {ops : Array Oper} {b : Bool} {c y : Code} (I : Act → World → Prop) (h1 : (Code.seq (Code.region id ops b) c).wp P (Exit.then (fun a' w' => I a' w') Q) a w) (h2 : ∀ a' w', I a' w' → y.wp P Q a' w') : (Code.seq (Code.seq (Code.region id ops b) c) y).wp P Q a w := c_cut I h1 h2
/-- .. x the block id. -/
theorem c_cutB (id : Nat) {c y : Code} (I : Act → World → Prop) (h1 : (Code.block id c).wp P (Exit.then (fun a' w' => I a' w') Q) a w) (h2 : ∀ a' w', I a' w' → y.wp P Q a' w') : (Code.seq (Code.block id c) y).wp P Q a w := c_cut I h1 h2
/-- A goal that the walk leaves alone. -/
structure Hold (p : Prop) : Prop where
  out : p
theorem c_cutH (id : Nat) {ops : Array Oper} {b : Bool} {y : Code} (I : Act → World → Prop) (h1 : Hold ((Code.region id ops b).wp P (Exit.then (fun a' w' => I a' w') Q) a w)) (h2 : ∀ a' w', I a' w' → y.wp P Q a' w') : (Code.seq (Code.region id ops b) y).wp P Q a w := c_cut I h1.out h2
theorem d_neSl {x : Operand} {ao : Option Addr} {n c : Nat} {t t' e ty : TypeId} (hU : P.underlying t = some (.slice e)) (hx : Ev l x (.slice ao n c) := by exact rfl) : Does P l w (.binOp .neq t x (.const (.slice none 0 0)) t') ty (.bool (!ao.isNone)) w := by
  intro ρ hρ d pos af g
  have e1 : ρ (.const (.slice none 0 0)) = .slice none 0 0 := hρ _ _ rfl
  have h : (Op.equal t (.slice ao n c) (.slice none 0 0)).run P w = .ok ao.isNone w := run_equal_slice_nil w t e ao n c hU
  have e2 : (eqGuard .neq t x (.const (.slice none 0 0)) (.slice ao n c) (.slice none 0 0)).run P w = .ok () w := rfl
  simp only [execOp, hρ _ _ hx, e1, Sem.run_bind, e2, Result.andThen_ok]
  show ((do pure (Value.bool (!(← Op.equal t (.slice ao n c) (.slice none 0 0)))) : Sem Value).run P w).andThen _ = _
  rw [Sem.run_bind, h]; rfl
/-- Two texts, one behind the other. -/
theorem d_addS {x y : Operand} {s u : ByteArray} {t t' ty : TypeId} (hx : Ev l x (.string s) := by exact rfl) (hy : Ev l y (.string u) := by exact rfl) (h : s.size + u.size ≤ 9223372036854775807) : Does P l w (.binOp .add t x y t') ty (.string (s ++ u)) w := by
  intro ρ hρ d pos af g
  have e2 : (eqGuard .add t x y (.string s) (.string u)).run P w = .ok () w := rfl
  have e3 : (binOp .add t (.string s) (.string u)).run P w = .ok (.string (s ++ u)) w := run_string_add_sum w s u h
  simp only [execOp, hρ _ _ hx, hρ _ _ hy, Sem.run_bind, e2, Result.andThen_ok, e3]
  rfl
theorem d_sliceR {x lo : Operand} {g n c j : Nat} {k'' : IntKind} {q'' : Int} {t e ty : TypeId} (hU : P.underlying t = some (.slice e)) (hs : (P.info? e).map (·.size) = some 1)
    (hx : Ev l x (.slice (some ⟨g, 0, none⟩) n c) := by exact rfl) (hl : Ev l lo (.int k'' q'') := by exact rfl) (hq'' : q'' = (j : Int) := by exact rfl) (hj : j ≤ n := by omega) (hc : j < c := by omega) :
    Does P l w (.slice t x (some lo) none none) ty (.slice (some ⟨g, j, none⟩) (n - j) (c - j)) w := by
  have h := d_sliceL (P := P) (w := w) (ty := ty) hU hs hx hl hq'' hj
  rw [if_neg (by omega)] at h
  simpa [addr_add] using h
end
theorem row_set (l : List Value) (m : Nat) (z v : Value) (h : 0 < m) : (l ++ List.replicate m z).set l.length v = (l ++ [v]) ++ List.replicate (m - 1) z := by
  obtain ⟨k, rfl⟩ : ∃ k, m = k + 1 := ⟨m - 1, by omega⟩
  rw [List.replicate_succ, List.set_append_right _ _ (Nat.le_refl _)]
  simp
theorem row_put (l cs : List Value) (m : Nat) (z : Value) : (l ++ List.replicate m z).take l.length ++ (cs ++ (l ++ List.replicate m z).drop (l.length + cs.length)) = (l ++ cs) ++ List.replicate (m - cs.length) z := by
  rw [List.take_left, List.drop_append]
  simp
end Go.Proofs.YtnohefaifbghiaaGreatDoor
end
