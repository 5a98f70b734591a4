/- Laid together by a program of mine: ReplR QuoteL Rep Nm NamedL KnownL. -/
import Derived.Test.YtnohefaifbghiaaGreatDoorSumLawKnownS10
import Derived.Test.YtnohefaifbghiaaGreatDoorSumLawKnownS9
import Derived.Lib.Bytealg
import Derived.Test.YtnohefaifbghiaaGreatDoorSumLawKnownS4
set_option linter.unusedSimpArgs false
set_option linter.unusedVariables false
section
/- (*strings.Replacer).Replace, over whatever contract the byteStringReplacer's has: walked. -/
namespace Go.Proofs.YtnohefaifbghiaaGreatDoor
section
open Go.RowKit
variable {P : Program} {ops : Array Oper} {Q : Exit → Act → World → Prop} {a : Act} {w : World} {rest : List Oper} {N : Nat} {l : List (Nat × Value)}
theorem d_makeFunc1 {f : Fn} {xs : List Operand} {vs : List Value} {ty : TypeId} (hx : Evs l xs vs) : Does P l w (.makeFunc f xs.toArray #[]) ty (.func f vs.toArray #[]) w := by
  intro ρ hρ d pos af g
  have := Evs.map hρ hx
  simp [execOp, Instr.makeFunc, this]
/-- A call of a method of an interface. -/
theorem sti (h : Fr N l a) {d : Nat} {y : Operand} {name : String} {t : TypeId} {rv : Value} {f : FuncId} {recv : Value} {xs : List Operand} {vs : List Value} {ats : Array TypeId} {ty : TypeId} {pos : String} {af : Array Edge} {R : Value → World → Prop}
    (hm : (invoke (.fn (.method name) #[]) ([Value.iface t rv] ++ vs).toArray).run P w = .ok (.enter f ([recv] ++ vs).toArray) w) (hc : Ret P f ([recv] ++ vs).toArray w R) (hx : Evs l xs vs) (hy : Ev l y (.iface t rv) := by exact rfl) (hd : Nat.blt d N = true := by exact rfl)
    (k : ∀ a' v w', R v w' → Fr N ((d, v) :: l) a' → wpList P ops Q rest a' w') :
    wpList P ops Q (⟨some d, .call { callee := .invoke y name, args := xs.toArray, argTypes := ats }, ty, pos, af, none⟩ :: rest) a w :=
  wpList_plain rfl fun K hK => by
    unfold Oper.wp
    have e1 : a.eval y = .iface t rv := h.eval _ _ hy
    have e2 := Evs.map h.eval hx
    have hr : (execOp a.eval ⟨some d, .call { callee := .invoke y name, args := xs.toArray, argTypes := ats }, ty, pos, af, none⟩).run P w = .ok (.enter f ([recv] ++ vs).toArray) w := by
      have e3 : #[a.eval y] ++ (xs.toArray.map a.eval) = ([Value.iface t rv] ++ vs).toArray := by simp [e1, e2]
      simp only [execOp, resolve, Sem.run_bind, Sem.run_pure, Result.andThen_ok, e3, hm]
    rw [hr]
    refine Calls.mono hc ?_
    rintro e w' ⟨v, rfl, hR⟩
    exact hK _ _ (k _ _ _ hR (h.put hd v))
end
open Go.RowKit
set_option linter.unusedSimpArgs false
set_option linter.unusedVariables false
attribute [local irreducible] wpList wpQuiet wpStill Code.wp Exit.then Exit.inBlock bodyPost Calls Does Does0
theorem inv_ok (p : Nat) (s : ByteArray) (w : World) : (invoke (.fn (.method "Replace") #[]) ([Value.iface 134 (.pointer (some ⟨p, 0, none⟩))] ++ [Value.string s]).toArray).run Tryz.prog w = .ok (.enter 128 ([Value.pointer (some ⟨p, 0, none⟩)] ++ [Value.string s]).toArray) w := by
  have hm : (Go.method (Tryz.prog.types.size + Made.depth) 134 (.pointer (some ⟨p, 0, none⟩)) "Replace").run Tryz.prog w = .ok (128, .pointer (some ⟨p, 0, none⟩)) w := by kernel_rfl
  obtain ⟨fn, h1, h2, h3⟩ := (cal128).out
  show (callMethod (.iface 134 (.pointer (some ⟨p, 0, none⟩))) "Replace" #[.string s]).run Tryz.prog w = _
  simp only [callMethod, Sem.run_bind, run_program, Result.andThen_ok, hm, callFunc, h1, h2, h3]
  simp
end Go.Proofs.YtnohefaifbghiaaGreatDoor
end
section
/- A text, quoted: plain laws. -/
namespace Go.Proofs.YtnohefaifbghiaaGreatDoor

def qb (c : UInt8) : List UInt8 := if c.toNat = 34 ∨ c.toNat = 92 then [92, c] else [c]
def qs (s : ByteArray) : Nat → List UInt8
  | 0 => [34]
  | k + 1 => qs s k ++ qb (s.get! k)
/-- A text, quoted: its bytes. -/
def quoteL (s : ByteArray) : List UInt8 := qs s s.size ++ [34]
theorem qs_len (s : ByteArray) : ∀ k, (qs s k).length ≤ 1 + 2 * k
  | 0 => Nat.le_refl _
  | k + 1 => by
    have := qs_len s k
    simp only [qs, List.length_append]
    unfold qb
    split <;> simp <;> omega
end Go.Proofs.YtnohefaifbghiaaGreatDoor
end
section
/- What the Replacer of Quote answers: plain laws; a copy into a row of the call's own. -/
namespace Go.Proofs.YtnohefaifbghiaaGreatDoor
open Go.RowKit

/-- The first k bytes, each behind a backslash that wants one. -/
def re (s : ByteArray) : Nat → List UInt8
  | 0 => []
  | k + 1 => re s k ++ qb (s.get! k)
theorem qs_re (s : ByteArray) : ∀ k, qs s k = 34 :: re s k
  | 0 => rfl
  | k + 1 => by simp [qs, re, qs_re s k]
def spc (c : UInt8) : Nat := if c.toNat = 34 ∨ c.toNat = 92 then 1 else 0
def nsp (s : ByteArray) : Nat → Nat
  | 0 => 0
  | k + 1 => nsp s k + spc (s.get! k)
theorem qb_len (c : UInt8) : (qb c).length = 1 + spc c := by
  unfold qb spc
  split <;> rfl
theorem re_len (s : ByteArray) : ∀ k, (re s k).length = k + nsp s k
  | 0 => rfl
  | k + 1 => by simp only [re, nsp, List.length_append, re_len s k, qb_len]; omega
theorem spc_le (c : UInt8) : spc c ≤ 1 := by unfold spc; split <;> omega
theorem nsp_le (s : ByteArray) : ∀ k, nsp s k ≤ k
  | 0 => Nat.le_refl _
  | k + 1 => by have := nsp_le s k; have := spc_le (s.get! k); simp only [nsp]; omega
theorem nsp_mono (s : ByteArray) (k : Nat) : ∀ m, nsp s k ≤ nsp s (k + m)
  | 0 => Nat.le_refl _
  | m + 1 => by have := nsp_mono s k m; show _ ≤ nsp s (k + m + 1); simp only [nsp]; omega
theorem re_mono (s : ByteArray) {k n : Nat} (h : k ≤ n) : k + nsp s k ≤ n + nsp s n := by
  have := nsp_mono s k (n - k)
  rw [Nat.add_sub_cancel' h] at this
  omega
theorem byte_at {s : ByteArray} {k : Nat} (h : k < s.size) : s.data.toList[k]? = some (s.get! k) := by
  have := get_at h
  rw [← this]
  cases s with
  | mk d =>
    have h' : k < d.size := h
    show d.toList[k]? = (ByteArray.mk d)[k]?
    rw [Array.getElem?_toList]
    simp only [getElem?_def]
    rfl
theorem take_byte {s : ByteArray} {k : Nat} (h : k < s.size) : s.data.toList.take (k + 1) = s.data.toList.take k ++ [s.get! k] := by
  rw [List.take_add_one, byte_at h]; rfl
theorem eq34 (c : UInt8) : c = 34 ↔ c.toNat = 34 := by rw [← UInt8.toNat_inj]; rfl
theorem eq92 (c : UInt8) : c = 92 ↔ c.toNat = 92 := by rw [← UInt8.toNat_inj]; rfl
theorem nsp_count (s : ByteArray) : ∀ k, k ≤ s.size → nsp s k = Lib.countByte (s.data.toList.take k) 34 + Lib.countByte (s.data.toList.take k) 92
  | 0, _ => rfl
  | k + 1, h => by
    rw [take_byte h]
    simp only [nsp, nsp_count s k (by omega), Lib.countByte, List.count_append, List.count_singleton, spc, beq_iff_eq, eq34, eq92]
    split <;> split <;> split <;> omega
theorem all_count (s : ByteArray) : nsp s s.size = Lib.countByte s.data.toList 34 + Lib.countByte s.data.toList 92 := by
  have h := nsp_count s s.size (Nat.le_refl _)
  rwa [List.take_of_length_le (by rw [Array.length_toList]; exact Nat.le_refl _)] at h
theorem re_same (s : ByteArray) : ∀ k, k ≤ s.size → nsp s k = 0 → re s k = s.data.toList.take k
  | 0, _, _ => rfl
  | k + 1, h, h0 => by
    simp only [nsp] at h0
    rw [take_byte h, re, re_same s k (by omega) (by omega), qb, if_neg]
    intro e
    have : spc (s.get! k) = 1 := if_pos e
    omega
theorem re_all (s : ByteArray) (h : nsp s s.size = 0) : (⟨(re s s.size).toArray⟩ : ByteArray) = s := by
  rw [re_same s s.size (Nat.le_refl _) h, List.take_of_length_le (by rw [Array.length_toList]; exact Nat.le_refl _)]
theorem quote_re (s : ByteArray) : quoteL s = 34 :: re s s.size ++ [34] := by rw [quoteL, qs_re]

section
variable {P : Program} {ops : Array Oper} {Q : Exit → Act → World → Prop} {rest : List Oper} {a : Act} {w : World} {N : Nat} {l : List (Nat × Value)}
/-- 'copy(b[j:], x)', b a row of the call's own. -/
theorem st_copyRow (h : Fr N l a) {d : Nat} {x y : Operand} {g j base : Nat} {e t t2 ty : TypeId} {n c dLen dCap sLen sCap : Nat} {xs cs : List Value} {ad : Addr} {pos : String} {af : Array Edge}
    (hU : P.underlying t = some (.slice e)) (hs : (P.info? e).map (·.size) = some 1) (hown : w.ownsRow base e 1 (.slice (some ⟨g, 0, none⟩) n c) n xs)
    (hsrc : ∀ i v, cs[i]? = some v → w.cell? (ad.add i) = some v) (h1 : ∀ v ∈ cs, v.oneCell' = true) (hfit : j + cs.length ≤ n) (hcs : cs.length = Nat.min sLen dLen) {m : Nat} (hm : cs.length = m)
    (hx : Ev l x (.slice (some ⟨g, j, none⟩) dLen dCap) := by exact rfl) (hy : Ev l y (.slice (some ad) sLen sCap) := by exact rfl) (hd : Nat.blt d N = true := by exact rfl)
    (k : ∀ a' w', w'.ownsRow base e 1 (.slice (some ⟨g, 0, none⟩) n c) n (xs.take j ++ (cs ++ xs.drop (j + cs.length))) → w.grownBy w' (some g) → w'.heap.size = w.heap.size → Fr N ((d, .int .i64 (m : Int)) :: l) a' → wpList P ops Q rest a' w') :
    wpList P ops Q (⟨some d, .call { callee := .builtin .copy, args := [x, y].toArray, argTypes := [t, t2].toArray }, ty, pos, af, none⟩ :: rest) a w := by
  subst hm
  have hl := hown.1
  rw [Nat.mul_one] at hl
  rcases hown.2 with ⟨h0, _⟩ | ⟨g', cap', cur, h0, hb, hg, hle, hm, hsz, htk⟩
  · cases h0
  · obtain ⟨rfl, rfl⟩ : g' = g ∧ cap' = c := by cases h0; exact ⟨rfl, rfl⟩
    rw [Nat.mul_one] at htk hsz
    refine wpList_copy_own rfl x y t t2 rfl e hU hs g' j dLen dCap ad sLen sCap (h.eval _ _ hx) (h.eval _ _ hy) cur e hg cs hcs hsrc (by omega) h1 ?_
    have hg2 := setRow_heap w g' cur (cur.toList.take j ++ (cs ++ cur.toList.drop (j + cs.length))).toArray e _ hg
    refine k _ _ ⟨by simp; omega, .inr ⟨g', cap', _, rfl, hb, hg2, hle, hm, by simp; omega, ?_⟩⟩ ⟨rfl, rfl, rfl, by simp [World.setRow], fun q hq hne => setRow_other w g' q _ (fun e => hne (by rw [e]))⟩ (by simp [World.setRow]) (h.put hd _)
    rw [Nat.mul_one]
    have e1 : (cur.toList.take j ++ (cs ++ cur.toList.drop (j + cs.length))).toArray.toList.take n = (cur.toList.take n).take j ++ (cs ++ (cur.toList.take n).drop (j + cs.length)) := by
      apply List.ext_getElem?
      intro i
      simp only [List.getElem?_take, List.getElem?_append, List.getElem?_drop, List.length_take, Array.length_toList]
      have hjn : min j (cur.size) = j := by omega
      have hjn2 : min j (min n cur.size) = j := by omega
      rw [hjn, hjn2]
      by_cases h1 : i < j
      · simp [h1, show i < n by omega]
      · by_cases h2 : i - j < cs.length
        · simp [h1, h2, show i < n by omega]
        · by_cases h3 : i < n
          · simp [h1, h2, h3, show j + cs.length + (i - j - cs.length) < n by omega]
          · simp [h1, h2, h3, show ¬ j + cs.length + (i - j - cs.length) < n by omega]
    rw [e1, htk]
end
end Go.Proofs.YtnohefaifbghiaaGreatDoor
end
section
/- Names: what the program's Name and the reference's compute. -/
namespace Go.Proofs.YtnohefaifbghiaaGreatDoor
open Go.RowKit
set_option linter.unusedSimpArgs false
set_option linter.unusedVariables false
attribute [local irreducible] wpList wpQuiet wpStill Code.wp Exit.then Exit.inBlock bodyPost Calls Does Does0

namespace Pl
/-- May a unit begin a name? -/
def letter (r : Int) : Bool := decide ((97 ≤ r ∧ r ≤ 122) ∨ (65 ≤ r ∧ r ≤ 90) ∨ r = 95)
/-- May it stand there? -/
def okAt (first : Bool) (r : Int) : Bool := letter r || (!first && decide (48 ≤ r ∧ r ≤ 57))
def okName (s : ByteArray) : Prop := ∀ j (h : j < s.size), okAt (decide (j = 0)) (s[j].toNat : Int) = true
instance (s : ByteArray) : Decidable (okName s) := by unfold okName; infer_instance
def name (s : ByteArray) : Bool := decide (1 ≤ s.size ∧ s.size ≤ 64 ∧ okName s)
theorem name_false {s : ByteArray} (j : Nat) (h : j < s.size) (hb : okAt (decide (j = 0)) (s[j].toNat : Int) = false) : name s = false := by
  unfold name
  refine decide_eq_false fun x => ?_
  have := x.2.2 j h
  rw [hb] at this
  cases this
end Pl

set_option maxHeartbeats 2000000 in
theorem letter_ok (w : World) (r : Int) : Ret Tryz.prog 23 #[.int .i32 r] w (fun v w' => v = .bool (Pl.letter r) ∧ w' = w) := by
  refine enter1 Tryz.func23 rfl 20 rfl 21 rfl (fun a hF => ?_)
  repeat' (first | refine ret1 hF rfl rfl ⟨by unfold Pl.letter; first | rw [decide_eq_true (by omega)] | rw [decide_eq_false (by omega)], rfl⟩ | refine c_seq ?_ | refine c_block ?_ | refine c_region _ ?_ | refine wpList_nil ?_ | refine c_then ?_ | refine c_then_exit ?_ | refine c_then_ret ?_ | refine c_in ?_ | refine c_in_ret ?_ | refine c_in_hit ?_ | refine wp_skip ?_ | refine wp_exit ?_ | refine wp_ret ?_ | refine c_in_miss rfl ?_ | ((first | apply st hF | apply stg hF | apply s_step hF | apply s_stg hF); (first | exact d_move | exact d_assign | exact d_pickT | exact d_pickF | exact d_cmpT | exact d_cmpF | exact d_eqbT (und _ _ rfl) | exact d_eqbF (und _ _ rfl) | exact d_eqb (und _ _ rfl) | exact d_eqST | exact d_eqSF | exact d_eqS | exact d_eqN (ifc _ rfl) | exact d_neN (ifc _ rfl)); clear hF; clear a; intro a hF) | ((first | apply stm hF | apply stu hF); clear hF; clear a; intro a hF) | (apply c_cond_t hF; exact rfl; first | exact rfl | assumption) | (apply c_cond_f hF; exact rfl; first | exact rfl | assumption) | refine s_nil ?_ | ((first | refine st_split hF (kT := ?_) (kF := ?_) | refine stg_split hF (kT := ?_) (kF := ?_)) <;> (intro hsp; simp only [decide_eq_true_eq, decide_eq_false_iff_not, beq_iff_eq, beq_eq_false_iff_ne, bne_iff_ne, ne_eq, bne_eq_false_iff_eq] at hsp; clear hF; clear a; intro a hF)))

set_option maxHeartbeats 2000000 in
theorem name_ok (w : World) (s : ByteArray) : Ret Tryz.prog 11 #[.string s] w (fun v w' => v = .bool (Pl.name s) ∧ Below w.heap.size w w') := by
  refine enter1 Tryz.func11 rfl 32 rfl 33 rfl (fun a hF => ?_)
  repeat (first | refine c_seq ?_ | refine c_block ?_ | refine c_region _ ?_ | refine wpList_nil ?_ | refine c_then ?_ | refine c_then_exit ?_ | refine c_then_ret ?_ | refine c_in ?_ | refine c_in_ret ?_ | refine c_in_hit ?_ | refine wp_skip ?_ | refine wp_exit ?_ | refine wp_ret ?_ | refine c_in_miss rfl ?_ | ((first | apply st hF | apply stg hF | apply s_step hF | apply s_stg hF); (first | exact d_move | exact d_assign | exact d_not | exact d_pickT | exact d_pickF | exact d_cmpT | exact d_cmpF | exact d_cmp | exact d_eqbT (und _ _ rfl) | exact d_eqbF (und _ _ rfl) | exact d_eqb (und _ _ rfl) | exact d_eqST | exact d_eqSF | exact d_eqS | exact d_len (und _ _ rfl) | exact d_lens (und _ _ rfl) | exact d_eqN (ifc _ rfl) | exact d_neN (ifc _ rfl) | exact d_extract); clear hF; clear a; intro a hF) | ((first | apply stm hF | apply stu hF); clear hF; clear a; intro a hF) | (apply c_cond_t hF; exact rfl; first | exact rfl | assumption) | (apply c_cond_f hF; exact rfl; first | exact rfl | assumption) | refine s_nil ?_)
  refine st_range hF (und _ _ rfl) (k := fun a w1 hit hgr hsz1 hF => ?_)
  have hb1 : Below w.heap.size w w1 := (Below.refl _ w).grown hgr (Nat.le_refl _) (fun k hk => by cases hk)
  obtain ⟨r, hr⟩ : ∃ r, r = w.heap.size := ⟨_, rfl⟩
  rw [← hr] at hit hF
  repeat (first | refine c_seq ?_ | refine c_block ?_ | refine c_region _ ?_ | refine wpList_nil ?_ | refine c_then ?_ | refine c_then_exit ?_ | refine c_then_ret ?_ | refine c_in ?_ | refine c_in_ret ?_ | refine c_in_hit ?_ | refine wp_skip ?_ | refine wp_exit ?_ | refine wp_ret ?_ | refine c_in_miss rfl ?_ | ((first | apply st hF | apply stg hF | apply s_step hF | apply s_stg hF); (first | exact d_move | exact d_assign | exact d_not | exact d_pickT | exact d_pickF | exact d_cmpT | exact d_cmpF | exact d_cmp | exact d_eqbT (und _ _ rfl) | exact d_eqbF (und _ _ rfl) | exact d_eqb (und _ _ rfl) | exact d_eqST | exact d_eqSF | exact d_eqS | exact d_len (und _ _ rfl) | exact d_lens (und _ _ rfl) | exact d_eqN (ifc _ rfl) | exact d_neN (ifc _ rfl) | exact d_extract); clear hF; clear a; intro a hF) | ((first | apply stm hF | apply stu hF); clear hF; clear a; intro a hF) | (apply c_cond_t hF; exact rfl; first | exact rfl | assumption) | (apply c_cond_f hF; exact rfl; first | exact rfl | assumption) | refine s_nil ?_)
  refine c_loop (fun n a wr => ∃ k, k ≤ s.size ∧ n = s.size - k ∧ Fr 33 [(0, .string s), (6, .pointer (some ⟨r, 0, none⟩))] a ∧ IterAt wr r s k ∧
    (∀ j (h : j < s.size), j < k → Pl.okAt (decide (j = 0)) (s[j].toNat : Int) = true) ∧ Below w.heap.size w wr) s.size
    ⟨0, by omega, rfl, hF.keep' ⟨rfl, rfl, trivial⟩, hit, fun j _ h => absurd h (Nat.not_lt_zero _), hb1⟩ ?_
  clear hF a hit hb1 hgr hsz1 w1
  rintro n a wr ⟨k, hk, rfl, hF, hit, hok, hbel⟩
  by_cases hlt : k < s.size
  · repeat (first | refine c_seq ?_ | refine c_block ?_ | refine c_region _ ?_ | refine wpList_nil ?_ | refine c_then ?_ | refine c_then_exit ?_ | refine c_then_ret ?_ | refine c_in ?_ | refine c_in_ret ?_ | refine c_in_hit ?_ | refine wp_skip ?_ | refine wp_exit ?_ | refine wp_ret ?_ | refine c_in_miss rfl ?_ | ((first | apply st hF | apply stg hF | apply s_step hF | apply s_stg hF); (first | exact d_move | exact d_assign | exact d_not | exact d_pickT | exact d_pickF | exact d_cmpT | exact d_cmpF | exact d_cmp | exact d_eqbT (und _ _ rfl) | exact d_eqbF (und _ _ rfl) | exact d_eqb (und _ _ rfl) | exact d_eqST | exact d_eqSF | exact d_eqS | exact d_len (und _ _ rfl) | exact d_lens (und _ _ rfl) | exact d_eqN (ifc _ rfl) | exact d_neN (ifc _ rfl) | exact d_extract); clear hF; clear a; intro a hF) | ((first | apply stm hF | apply stu hF); clear hF; clear a; intro a hF) | (apply c_cond_t hF; exact rfl; first | exact rfl | assumption) | (apply c_cond_f hF; exact rfl; first | exact rfl | assumption) | refine s_nil ?_)
    refine st_next hF hit hlt (k := fun a w2 hit2 hgr2 hsz2 hF => ?_)
    have hb2 : Below w.heap.size w w2 := hbel.grown hgr2 hbel.size (fun k hk => by cases hk; omega)
    repeat (first | refine c_seq ?_ | refine c_block ?_ | refine c_region _ ?_ | refine wpList_nil ?_ | refine c_then ?_ | refine c_then_exit ?_ | refine c_then_ret ?_ | refine c_in ?_ | refine c_in_ret ?_ | refine c_in_hit ?_ | refine wp_skip ?_ | refine wp_exit ?_ | refine wp_ret ?_ | refine c_in_miss rfl ?_ | ((first | apply st hF | apply stg hF | apply s_step hF | apply s_stg hF); (first | exact d_move | exact d_assign | exact d_not | exact d_pickT | exact d_pickF | exact d_cmpT | exact d_cmpF | exact d_cmp | exact d_eqbT (und _ _ rfl) | exact d_eqbF (und _ _ rfl) | exact d_eqb (und _ _ rfl) | exact d_eqST | exact d_eqSF | exact d_eqS | exact d_len (und _ _ rfl) | exact d_lens (und _ _ rfl) | exact d_eqN (ifc _ rfl) | exact d_neN (ifc _ rfl) | exact d_extract); clear hF; clear a; intro a hF) | ((first | apply stm hF | apply stu hF); clear hF; clear a; intro a hF) | (apply c_cond_t hF; exact rfl; first | exact rfl | assumption) | (apply c_cond_f hF; exact rfl; first | exact rfl | assumption) | refine s_nil ?_)
    refine stc hF (letter_ok w2 _) cal23 ⟨rfl, trivial⟩ (k := fun a v w3 hR hF => ?_)
    obtain ⟨rfl, rfl⟩ := hR
    by_cases ha : (s[k]'hlt).toNat < 128
    · rw [decode_ascii s k hlt ha] at hF hit2
      simp only at hF hit2
      generalize hc : ((s[k]'hlt).toNat : Int) = c at hF
      cases hL : Pl.letter c with
      | true =>
        rw [hL] at hF
        repeat (first | refine c_seq ?_ | refine c_block ?_ | refine c_region _ ?_ | refine wpList_nil ?_ | refine c_then ?_ | refine c_then_exit ?_ | refine c_then_ret ?_ | refine c_in ?_ | refine c_in_ret ?_ | refine c_in_hit ?_ | refine wp_skip ?_ | refine wp_exit ?_ | refine wp_ret ?_ | refine c_in_miss rfl ?_ | ((first | apply st hF | apply stg hF | apply s_step hF | apply s_stg hF); (first | exact d_move | exact d_assign | exact d_not | exact d_pickT | exact d_pickF | exact d_cmpT | exact d_cmpF | exact d_cmp | exact d_eqbT (und _ _ rfl) | exact d_eqbF (und _ _ rfl) | exact d_eqb (und _ _ rfl) | exact d_eqST | exact d_eqSF | exact d_eqS | exact d_len (und _ _ rfl) | exact d_lens (und _ _ rfl) | exact d_eqN (ifc _ rfl) | exact d_neN (ifc _ rfl) | exact d_extract); clear hF; clear a; intro a hF) | ((first | apply stm hF | apply stu hF); clear hF; clear a; intro a hF) | (apply c_cond_t hF; exact rfl; first | exact rfl | assumption) | (apply c_cond_f hF; exact rfl; first | exact rfl | assumption) | refine s_nil ?_)
        refine ⟨s.size - (k + 1), by omega, k + 1, by omega, rfl, hF.keep' ⟨rfl, rfl, trivial⟩, hit2, fun j hj hjk => ?_, hb2⟩
        by_cases e : j = k
        · subst e; rw [hc]; unfold Pl.okAt; rw [hL]; rfl
        · exact hok j hj (by omega)
      | false =>
        rw [hL] at hF
        by_cases hgood : k ≠ 0 ∧ 48 ≤ c ∧ c ≤ 57
        · repeat (first | refine c_seq ?_ | refine c_block ?_ | refine c_region _ ?_ | refine wpList_nil ?_ | refine c_then ?_ | refine c_then_exit ?_ | refine c_then_ret ?_ | refine c_in ?_ | refine c_in_ret ?_ | refine c_in_hit ?_ | refine wp_skip ?_ | refine wp_exit ?_ | refine wp_ret ?_ | refine c_in_miss rfl ?_ | ((first | apply st hF | apply stg hF | apply s_step hF | apply s_stg hF); (first | exact d_move | exact d_assign | exact d_not | exact d_pickT | exact d_pickF | exact d_cmpT | exact d_cmpF | exact d_cmp | exact d_eqbT (und _ _ rfl) | exact d_eqbF (und _ _ rfl) | exact d_eqb (und _ _ rfl) | exact d_eqST | exact d_eqSF | exact d_eqS | exact d_len (und _ _ rfl) | exact d_lens (und _ _ rfl) | exact d_eqN (ifc _ rfl) | exact d_neN (ifc _ rfl) | exact d_extract); clear hF; clear a; intro a hF) | ((first | apply stm hF | apply stu hF); clear hF; clear a; intro a hF) | (apply c_cond_t hF; exact rfl; first | exact rfl | assumption) | (apply c_cond_f hF; exact rfl; first | exact rfl | assumption) | refine s_nil ?_)
          refine ⟨s.size - (k + 1), by omega, k + 1, by omega, rfl, hF.keep' ⟨rfl, rfl, trivial⟩, hit2, fun j hj hjk => ?_, hb2⟩
          by_cases e : j = k
          · subst e; rw [hc]; unfold Pl.okAt; rw [hL, decide_eq_false hgood.1, decide_eq_true hgood.2]; rfl
          · exact hok j hj (by omega)
        · have hbad : Pl.name s = false := by
            refine Pl.name_false k hlt ?_
            rw [hc]; unfold Pl.okAt; rw [hL]
            by_cases e : k = 0
            · subst e; rfl
            · rw [decide_eq_false e, decide_eq_false (fun x => hgood ⟨e, x⟩)]; rfl
          repeat' (first | refine ret1 hF rfl rfl ⟨by rw [hbad], hb2⟩ | refine c_seq ?_ | refine c_block ?_ | refine c_region _ ?_ | refine wpList_nil ?_ | refine c_then ?_ | refine c_then_exit ?_ | refine c_then_ret ?_ | refine c_in ?_ | refine c_in_ret ?_ | refine c_in_hit ?_ | refine wp_skip ?_ | refine wp_exit ?_ | refine wp_ret ?_ | refine c_in_miss rfl ?_ | ((first | apply st hF | apply stg hF | apply s_step hF | apply s_stg hF); (first | exact d_move | exact d_assign | exact d_not | exact d_pickT | exact d_pickF | exact d_cmpT | exact d_cmpF | exact d_eqbT (und _ _ rfl) | exact d_eqbF (und _ _ rfl) | exact d_eqb (und _ _ rfl) | exact d_eqST | exact d_eqSF | exact d_eqS | exact d_len (und _ _ rfl) | exact d_lens (und _ _ rfl) | exact d_eqN (ifc _ rfl) | exact d_neN (ifc _ rfl) | exact d_extract); clear hF; clear a; intro a hF) | ((first | apply stm hF | apply stu hF); clear hF; clear a; intro a hF) | (apply c_cond_t hF; exact rfl; first | exact rfl | assumption) | (apply c_cond_f hF; exact rfl; first | exact rfl | assumption) | refine s_nil ?_ | ((first | refine st_split hF (kT := ?_) (kF := ?_) | refine stg_split hF (kT := ?_) (kF := ?_)) <;> (intro hsp; simp only [decide_eq_true_eq, decide_eq_false_iff_not, beq_iff_eq, beq_eq_false_iff_ne, bne_iff_ne, ne_eq, bne_eq_false_iff_eq] at hsp; clear hF; clear a; intro a hF)))
    · have hh := decode_high s k hlt (by omega)
      have hnl : Pl.letter ((Utf8.decode s k).1 : Int) = false := by unfold Pl.letter; exact decide_eq_false (by omega)
      rw [hnl] at hF
      have hbad : Pl.name s = false := by
        refine Pl.name_false k hlt ?_
        unfold Pl.okAt Pl.letter
        rw [decide_eq_false (by omega), decide_eq_false (show ¬ (48 ≤ (s[k].toNat : Int) ∧ (s[k].toNat : Int) ≤ 57) by omega)]
        simp
      by_cases hk0 : k = 0
      all_goals
        repeat (first | refine c_seq ?_ | refine c_block ?_ | refine c_region _ ?_ | refine wpList_nil ?_ | refine c_then ?_ | refine c_then_exit ?_ | refine c_then_ret ?_ | refine c_in ?_ | refine c_in_ret ?_ | refine c_in_hit ?_ | refine wp_skip ?_ | refine wp_exit ?_ | refine wp_ret ?_ | refine c_in_miss rfl ?_ | ((first | apply st hF | apply stg hF | apply s_step hF | apply s_stg hF); (first | exact d_move | exact d_assign | exact d_not | exact d_pickT | exact d_pickF | exact d_cmpT | exact d_cmpF | exact d_cmp | exact d_eqbT (und _ _ rfl) | exact d_eqbF (und _ _ rfl) | exact d_eqb (und _ _ rfl) | exact d_eqST | exact d_eqSF | exact d_eqS | exact d_len (und _ _ rfl) | exact d_lens (und _ _ rfl) | exact d_eqN (ifc _ rfl) | exact d_neN (ifc _ rfl) | exact d_extract); clear hF; clear a; intro a hF) | ((first | apply stm hF | apply stu hF); clear hF; clear a; intro a hF) | (apply c_cond_t hF; exact rfl; first | exact rfl | assumption) | (apply c_cond_f hF; exact rfl; first | exact rfl | assumption) | refine s_nil ?_)
        exact ret1 hF rfl rfl ⟨by rw [hbad], hb2⟩
  · obtain rfl : k = s.size := by omega
    repeat (first | refine c_seq ?_ | refine c_block ?_ | refine c_region _ ?_ | refine wpList_nil ?_ | refine c_then ?_ | refine c_then_exit ?_ | refine c_then_ret ?_ | refine c_in ?_ | refine c_in_ret ?_ | refine c_in_hit ?_ | refine wp_skip ?_ | refine wp_exit ?_ | refine wp_ret ?_ | refine c_in_miss rfl ?_ | ((first | apply st hF | apply stg hF | apply s_step hF | apply s_stg hF); (first | exact d_move | exact d_assign | exact d_not | exact d_pickT | exact d_pickF | exact d_cmpT | exact d_cmpF | exact d_cmp | exact d_eqbT (und _ _ rfl) | exact d_eqbF (und _ _ rfl) | exact d_eqb (und _ _ rfl) | exact d_eqST | exact d_eqSF | exact d_eqS | exact d_len (und _ _ rfl) | exact d_lens (und _ _ rfl) | exact d_eqN (ifc _ rfl) | exact d_neN (ifc _ rfl) | exact d_extract); clear hF; clear a; intro a hF) | ((first | apply stm hF | apply stu hF); clear hF; clear a; intro a hF) | (apply c_cond_t hF; exact rfl; first | exact rfl | assumption) | (apply c_cond_f hF; exact rfl; first | exact rfl | assumption) | refine s_nil ?_)
    refine st_nextE hF hit hlt (k := fun a hF => ?_)
    have hn : Pl.name s = decide (1 ≤ s.size ∧ s.size ≤ 64) := by
      unfold Pl.name
      have : Pl.okName s := fun j h => hok j h h
      simp [this]
    by_cases h0 : s = ⟨#[]⟩
    · have hq : (!decide (s = ⟨#[]⟩)) = false := by rw [decide_eq_true h0]; rfl
      repeat (first | refine c_seq ?_ | refine c_block ?_ | refine c_region _ ?_ | refine wpList_nil ?_ | refine c_then ?_ | refine c_then_exit ?_ | refine c_then_ret ?_ | refine c_in ?_ | refine c_in_ret ?_ | refine c_in_hit ?_ | refine wp_skip ?_ | refine wp_exit ?_ | refine wp_ret ?_ | refine c_in_miss rfl ?_ | ((first | apply st hF | apply stg hF | apply s_step hF | apply s_stg hF); (first | exact d_move | exact d_assign | exact d_not | exact d_pickT | exact d_pickF | exact d_cmpT | exact d_cmpF | exact d_cmp | exact d_eqbT (und _ _ rfl) | exact d_eqbF (und _ _ rfl) | exact d_eqb (und _ _ rfl) | exact d_eqST | exact d_eqSF | exact d_eqS | exact d_len (und _ _ rfl) | exact d_lens (und _ _ rfl) | exact d_eqN (ifc _ rfl) | exact d_neN (ifc _ rfl) | exact d_extract); clear hF; clear a; intro a hF) | ((first | apply stm hF | apply stu hF); clear hF; clear a; intro a hF) | (apply c_cond_t hF; exact rfl; first | exact rfl | assumption) | (apply c_cond_f hF; exact rfl; first | exact rfl | assumption) | refine s_nil ?_)
      refine ret1 hF rfl rfl ⟨?_, hbel⟩
      rw [hn]; subst h0; rfl
    · have hq : (!decide (s = ⟨#[]⟩)) = true := by rw [decide_eq_false h0]; rfl
      have hs : 1 ≤ s.size := by
        rcases Nat.eq_zero_or_pos s.size with e | e
        · exact absurd (ByteArray.ext (Array.eq_empty_of_size_eq_zero e)) h0
        · exact e
      repeat (first | refine c_seq ?_ | refine c_block ?_ | refine c_region _ ?_ | refine wpList_nil ?_ | refine c_then ?_ | refine c_then_exit ?_ | refine c_then_ret ?_ | refine c_in ?_ | refine c_in_ret ?_ | refine c_in_hit ?_ | refine wp_skip ?_ | refine wp_exit ?_ | refine wp_ret ?_ | refine c_in_miss rfl ?_ | ((first | apply st hF | apply stg hF | apply s_step hF | apply s_stg hF); (first | exact d_move | exact d_assign | exact d_not | exact d_pickT | exact d_pickF | exact d_cmpT | exact d_cmpF | exact d_cmp | exact d_eqbT (und _ _ rfl) | exact d_eqbF (und _ _ rfl) | exact d_eqb (und _ _ rfl) | exact d_eqST | exact d_eqSF | exact d_eqS | exact d_len (und _ _ rfl) | exact d_lens (und _ _ rfl) | exact d_eqN (ifc _ rfl) | exact d_neN (ifc _ rfl) | exact d_extract); clear hF; clear a; intro a hF) | ((first | apply stm hF | apply stu hF); clear hF; clear a; intro a hF) | (apply c_cond_t hF; exact rfl; first | exact rfl | assumption) | (apply c_cond_f hF; exact rfl; first | exact rfl | assumption) | refine s_nil ?_)
      refine ret1 hF rfl rfl ⟨?_, hbel⟩
      rw [hn]
      congr 1
      exact decide_eq_decide.2 (by omega)

end Go.Proofs.YtnohefaifbghiaaGreatDoor
end
section
/- Names and their quoting: plain laws. -/
namespace Go.Proofs.YtnohefaifbghiaaGreatDoor
open Go.RowKit

theorem ba_get {s : ByteArray} {i : Nat} (h : i < s.size) : s.data.toList[i]? = some (s.get! i) := byte_at h
theorem ba_size (s : ByteArray) : s.data.toList.length = s.size := Array.length_toList
theorem ba_app (s t : ByteArray) : (s ++ t).data.toList = s.data.toList ++ t.data.toList := by rw [ByteArray.data_append, Array.toList_append]
theorem get_left {s t : ByteArray} {i : Nat} (h : i < s.size) : (s ++ t).get! i = s.get! i := by
  have h1 : i < (s ++ t).size := by rw [ByteArray.size_append]; omega
  have e := ba_get h1
  rw [ba_app, List.getElem?_append_left (by rw [ba_size]; exact h), ba_get h] at e
  exact (Option.some.inj e).symm
theorem get_right {s t : ByteArray} {i : Nat} (h : i < t.size) : (s ++ t).get! (s.size + i) = t.get! i := by
  have h1 : s.size + i < (s ++ t).size := by rw [ByteArray.size_append]; omega
  have e := ba_get h1
  rw [ba_app, List.getElem?_append_right (by rw [ba_size]; omega), ba_size, Nat.add_sub_cancel_left, ba_get h] at e
  exact (Option.some.inj e).symm
theorem get_idx {s : ByteArray} {j : Nat} (h : j < s.size) : s[j] = s.get! j := by
  have := get_at h
  rw [getElem?_pos s j h] at this
  exact Option.some.inj this
def okB (s : ByteArray) : Prop := ∀ j, j < s.size → Pl.okAt (decide (j = 0)) ((s.get! j).toNat : Int) = true
theorem ok_iff (s : ByteArray) : Pl.okName s ↔ okB s := by
  constructor
  · intro h j hj
    have := h j hj
    rwa [get_idx hj] at this
  · intro h j hj
    rw [get_idx hj]; exact h j hj
theorem name_iff (s : ByteArray) : Pl.name s = true ↔ 1 ≤ s.size ∧ s.size ≤ 64 ∧ okB s := by
  unfold Pl.name
  rw [decide_eq_true_eq, ok_iff]
theorem okAt_plain {f : Bool} {r : Int} (h : Pl.okAt f r = true) : 48 ≤ r ∧ r ≤ 122 ∧ r ≠ 92 := by
  unfold Pl.okAt Pl.letter at h
  rw [Bool.or_eq_true, Bool.and_eq_true, decide_eq_true_eq, decide_eq_true_eq] at h
  omega
theorem okAt_more {f : Bool} {r : Int} (h : Pl.okAt f r = true) : Pl.okAt false r = true := by
  unfold Pl.okAt at h ⊢
  rw [Bool.or_eq_true, Bool.and_eq_true] at h ⊢
  rcases h with h | h
  · exact .inl h
  · exact .inr ⟨rfl, h.2⟩
theorem name_bytes {s : ByteArray} (h : Pl.name s = true) {j : Nat} (hj : j < s.size) : 48 ≤ (s.get! j).toNat ∧ (s.get! j).toNat ≤ 122 ∧ (s.get! j).toNat ≠ 92 := by
  have := okAt_plain (((name_iff s).1 h).2.2 j hj)
  omega
/-! ### a name's units -/
theorem ascii_ust {s : ByteArray} (h : ∀ j, j < s.size → (s.get! j).toNat < 128) : ∀ k, k ≤ s.size → (uSt s k).1 = k
  | 0, _ => rfl
  | k + 1, hk => by
    have ih := ascii_ust h k (by omega)
    have hlt : k < s.size := by omega
    have e := decode_ascii s k hlt (by rw [get_idx hlt]; exact h k hlt)
    rw [uSt_fst, ih, e]
theorem ascii_ur {s : ByteArray} (h : ∀ j, j < s.size → (s.get! j).toNat < 128) {k : Nat} (hk : k < s.size) : (Utf8.decode s (uSt s k).1).1 = (s.get! k).toNat := by
  have e := decode_ascii s k hk (by rw [get_idx hk]; exact h k hk)
  rw [ascii_ust h k (by omega), e, get_idx hk]
theorem name_ok' {s : ByteArray} (h : Pl.name s = true) : AllOk s := by
  have ha : ∀ j, j < s.size → (s.get! j).toNat < 128 := fun j hj => by have := name_bytes h hj; omega
  intro k hk
  have hks : k < s.size := by
    apply Decidable.byContradiction
    intro hn
    have h1 := uMono s s.size (k - s.size)
    rw [Nat.add_sub_cancel' (by omega), ascii_ust ha s.size (Nat.le_refl _)] at h1
    omega
  have e := ascii_ur ha hks
  have hb := name_bytes h hks
  refine ⟨ill_no (by rw [e]; omega), ?_⟩
  unfold uR ctl
  rw [e]
  exact decide_eq_false (by omega)
/-! ### a name's quoting -/
theorem name_nsp {s : ByteArray} (h : Pl.name s = true) : ∀ k, k ≤ s.size → nsp s k = 0
  | 0, _ => rfl
  | k + 1, hk => by
    have hb := name_bytes h (j := k) (by omega)
    simp only [nsp, name_nsp h k (by omega), spc]
    rw [if_neg (by omega)]
def inQ (s : ByteArray) : ByteArray := ((⟨#[34]⟩ : ByteArray) ++ s) ++ ⟨#[34]⟩
theorem name_quote {s : ByteArray} (h : Pl.name s = true) : (⟨(quoteL s).toArray⟩ : ByteArray) = inQ s := by
  have hn := name_nsp h s.size (Nat.le_refl _)
  apply ByteArray.ext
  apply Array.toList_inj.1
  rw [inQ, ba_app, ba_app, quote_re, re_same s s.size (Nat.le_refl _) hn, List.take_of_length_le (by rw [ba_size]; exact Nat.le_refl _)]
  rfl
theorem inQ_size (s : ByteArray) : (inQ s).size = s.size + 2 := by
  rw [inQ, ByteArray.size_append, ByteArray.size_append]
  show 1 + s.size + 1 = _
  omega
theorem inQ_0 (s : ByteArray) : (inQ s).get! 0 = 34 := by
  rw [inQ, get_left (by rw [ByteArray.size_append]; show 0 < 1 + _; omega), get_left (by decide)]
  rfl
theorem inQ_mid {s : ByteArray} {j : Nat} (h : j < s.size) : (inQ s).get! (1 + j) = s.get! j := by
  rw [inQ, get_left (by rw [ByteArray.size_append]; show 1 + j < 1 + _; omega)]
  exact get_right (s := ⟨#[34]⟩) h
theorem inQ_end (s : ByteArray) : (inQ s).get! (1 + s.size) = 34 := by
  have e : ((⟨#[34]⟩ : ByteArray) ++ s).size = 1 + s.size := by rw [ByteArray.size_append]; rfl
  have := get_right (s := (⟨#[34]⟩ : ByteArray) ++ s) (t := ⟨#[34]⟩) (i := 0) (by decide)
  rw [Nat.add_zero, e] at this
  rw [inQ, this]; rfl
theorem name_sc {s : ByteArray} (h : Pl.name s = true) : ∀ k, k ≤ s.size → sc (inQ s) k = (1 + k, s.data.toList.take k)
  | 0, _ => rfl
  | k + 1, hk => by
    have hks : k < s.size := by omega
    have hb := name_bytes h hks
    have e1 : (sc (inQ s) k).1 = 1 + k := by rw [name_sc h k (by omega)]
    have e2 : (sc (inQ s) k).2 = s.data.toList.take k := by rw [name_sc h k (by omega)]
    show (if ((inQ s).get! (sc (inQ s) k).1).toNat = 92 then _ else _) = _
    rw [e1, e2, inQ_mid hks, if_neg hb.2.2, take_byte hks]
    rfl
theorem name_unq {s : ByteArray} (h : Pl.name s = true) : UnqR (inQ s) 0 s := by
  have hz := inQ_size s
  have h34 : ((34 : UInt8)).toNat = 34 := rfl
  obtain ⟨n1, n2, n3⟩ := (name_iff s).1 h
  refine .inr (.inr ⟨by omega, by rw [inQ_0]; exact h34, s.size, fun j hj => ?_, ?_, ?_⟩)
  · rw [name_sc h j (by omega)]
    have hb := name_bytes h hj
    refine ⟨by show 1 + j < _; omega, by rw [inQ_mid hj]; omega, fun e => ?_⟩
    rw [inQ_mid hj] at e
    exact absurd e hb.2.2
  · rw [name_sc h s.size (Nat.le_refl _)]
    intro g
    exact g.2.1 (by rw [inQ_end]; exact h34)
  · rw [name_sc h s.size (Nat.le_refl _), List.take_of_length_le (by rw [ba_size]; exact Nat.le_refl _)]
    have e : (⟨s.data.toList.toArray⟩ : ByteArray) = s := rfl
    exact .inr (.inr (.inl ⟨by show 1 + s.size < _; omega, by rw [inQ_end]; exact h34, by show _ ≤ 1 + s.size + 1; omega, by rw [e]; exact .inr ⟨by omega, .inl ⟨name_ok' h, rfl⟩⟩, .inl ⟨rfl, e.symm⟩⟩))
/-! ### one that goes on -/
theorem name_more {s m : ByteArray} (h : Pl.name s = true) (hm : Pl.name ((⟨#[95]⟩ : ByteArray) ++ m) = true) : Pl.name (s ++ m) = decide (s.size + m.size ≤ 64) := by
  obtain ⟨s1, s2, s3⟩ := (name_iff s).1 h
  obtain ⟨m1, m2, m3⟩ := (name_iff _).1 hm
  rw [Bool.eq_iff_iff, decide_eq_true_eq, name_iff, ByteArray.size_append]
  constructor
  · intro x; exact x.2.1
  · intro hle
    refine ⟨by omega, hle, fun j hj => ?_⟩
    rw [ByteArray.size_append] at hj
    by_cases e : j < s.size
    · rw [get_left e]; exact s3 j e
    · obtain ⟨i, rfl⟩ : ∃ i, j = s.size + i := ⟨j - s.size, by omega⟩
      have hi : i < m.size := by omega
      rw [get_right hi, decide_eq_false (by omega)]
      have h1 := m3 (1 + i) (by rw [ByteArray.size_append]; show 1 + i < 1 + _; omega)
      have h2 : (((⟨#[95]⟩ : ByteArray) ++ m).get! (1 + i)) = m.get! i := get_right (s := ⟨#[95]⟩) hi
      rw [h2] at h1
      exact okAt_more h1
end Go.Proofs.YtnohefaifbghiaaGreatDoor
end
section
/- CharsKnown: plain laws about the texts it asks for. -/
namespace Go.Proofs.YtnohefaifbghiaaGreatDoor
open Go.RowKit
set_option linter.unusedSimpArgs false
set_option linter.unusedVariables false
def NoQ (s : ByteArray) : Prop := ∀ j, j < s.size → (s.get! j).toNat ≠ 34 ∧ (s.get! j).toNat ≠ 92
theorem nq_nsp {s : ByteArray} (h : NoQ s) : ∀ k, k ≤ s.size → nsp s k = 0
  | 0, _ => rfl
  | k + 1, hk => by
    have hb := h k (by omega)
    simp only [nsp, nq_nsp h k (by omega), spc]
    rw [if_neg (by omega)]
theorem nq_quote {s : ByteArray} (h : NoQ s) : (⟨(quoteL s).toArray⟩ : ByteArray) = inQ s := by
  have hn := nq_nsp h s.size (Nat.le_refl _)
  apply ByteArray.ext
  apply Array.toList_inj.1
  rw [inQ, ba_app, ba_app, quote_re, re_same s s.size (Nat.le_refl _) hn, List.take_of_length_le (by rw [ba_size]; exact Nat.le_refl _)]
  rfl
theorem nq_sc {s : ByteArray} (h : NoQ s) : ∀ k, k ≤ s.size → sc (inQ s) k = (1 + k, s.data.toList.take k)
  | 0, _ => rfl
  | k + 1, hk => by
    have hks : k < s.size := by omega
    have hb := h k hks
    have e1 : (sc (inQ s) k).1 = 1 + k := by rw [nq_sc h k (by omega)]
    have e2 : (sc (inQ s) k).2 = s.data.toList.take k := by rw [nq_sc h k (by omega)]
    show (if ((inQ s).get! (sc (inQ s) k).1).toNat = 92 then _ else _) = _
    rw [e1, e2, inQ_mid hks, if_neg hb.2, take_byte hks]
    rfl
def outT (s : ByteArray) (n : Int) : ByteArray := if n = 0 then s else ⟨#[]⟩
theorem nq_unq {s : ByteArray} {n : Int} (h : NoQ s) (hM : MayR s n) : UnqR (inQ s) n (outT s n) := by
  have hz := inQ_size s
  have h34 : ((34 : UInt8)).toNat = 34 := rfl
  refine .inr (.inr ⟨by omega, by rw [inQ_0]; exact h34, s.size, fun j hj => ?_, ?_, ?_⟩)
  · rw [nq_sc h j (by omega)]
    have hb := h j hj
    refine ⟨by show 1 + j < _; omega, by rw [inQ_mid hj]; exact hb.1, fun e => ?_⟩
    rw [inQ_mid hj] at e
    exact absurd e hb.2
  · rw [nq_sc h s.size (Nat.le_refl _)]
    intro g
    exact g.2.1 (by rw [inQ_end]; exact h34)
  · rw [nq_sc h s.size (Nat.le_refl _), List.take_of_length_le (by rw [ba_size]; exact Nat.le_refl _)]
    have e : (⟨s.data.toList.toArray⟩ : ByteArray) = s := rfl
    refine .inr (.inr (.inl ⟨by show 1 + s.size < _; omega, by rw [inQ_end]; exact h34, by show _ ≤ 1 + s.size + 1; omega, by rw [e]; exact hM, ?_⟩))
    unfold outT
    by_cases h0 : n = 0
    · rw [if_pos h0]; exact .inl ⟨h0, e.symm⟩
    · rw [if_neg h0]; exact .inr ⟨h0, rfl⟩
/-! ### texts of plain bytes -/
def Vis (s : ByteArray) : Prop := ∀ j, j < s.size → 32 ≤ (s.get! j).toNat ∧ (s.get! j).toNat ≤ 126
theorem vis_lt {s : ByteArray} (h : Vis s) {k : Nat} (hk : (uSt s k).1 < s.size) : k < s.size := by
  have ha : ∀ j, j < s.size → (s.get! j).toNat < 128 := fun j hj => by have := h j hj; omega
  apply Decidable.byContradiction
  intro hn
  have h1 := uMono s s.size (k - s.size)
  rw [Nat.add_sub_cancel' (by omega), ascii_ust ha s.size (Nat.le_refl _)] at h1
  omega
theorem vis_ok {s : ByteArray} (h : Vis s) : AllOk s := by
  have ha : ∀ j, j < s.size → (s.get! j).toNat < 128 := fun j hj => by have := h j hj; omega
  intro k hk
  have hks := vis_lt h hk
  have e := ascii_ur ha hks
  have hb := h k hks
  refine ⟨ill_no (by rw [e]; omega), ?_⟩
  unfold uR ctl
  rw [e]
  exact decide_eq_false (by omega)
theorem all_out {s : ByteArray} (K : Nat) (h : AllOk s) (hK : ∀ j, j < K → (uSt s j).1 < s.size) (he : ¬ (uSt s K).1 < s.size) : Out s none :=
  ⟨K, fun j hj => ⟨hK j hj, by unfold badB; rw [(h j (hK j hj)).1, (h j (hK j hj)).2]; rfl⟩, he⟩
theorem vis_out {s : ByteArray} (h : Vis s) : Out s none := by
  have ha : ∀ j, j < s.size → (s.get! j).toNat < 128 := fun j hj => by have := h j hj; omega
  exact all_out s.size (vis_ok h) (fun j hj => by rw [ascii_ust ha j (by omega)]; exact hj) (by rw [ascii_ust ha s.size (Nat.le_refl _)]; omega)
theorem vis_app {s t : ByteArray} (h : Vis s) (k : Vis t) : Vis (s ++ t) := by
  intro j hj
  rw [ByteArray.size_append] at hj
  by_cases e : j < s.size
  · rw [get_left e]; exact h j e
  · have := get_right (s := s) (t := t) (i := j - s.size) (by omega)
    rw [Nat.add_sub_cancel' (by omega)] at this
    rw [this]; exact k _ (by omega)
theorem nq_app {s t : ByteArray} (h : NoQ s) (k : NoQ t) : NoQ (s ++ t) := by
  intro j hj
  rw [ByteArray.size_append] at hj
  by_cases e : j < s.size
  · rw [get_left e]; exact h j e
  · have := get_right (s := s) (t := t) (i := j - s.size) (by omega)
    rw [Nat.add_sub_cancel' (by omega)] at this
    rw [this]; exact k _ (by omega)
theorem may_of {s : ByteArray} (h : AllOk s) (hz : s.size ≤ 1024) : MayR s 0 := .inr ⟨hz, .inl ⟨h, rfl⟩⟩
theorem may_no {s : ByteArray} (h : ¬ AllOk s) (hz : s.size ≤ 1024) : MayR s 6 := .inr ⟨hz, .inr ⟨h, rfl⟩⟩
/-! ### the part that a loop cuts -/
theorem cut3 {s : ByteArray} {i : Nat} (hi : i < s.size) : (s.extract i (min s.size (i + 3)) = ⟨#[239, 191, 189]⟩) ↔ fffd s i = true := by
  rw [fffd_iff]
  by_cases h : i + 2 < s.size
  · have e : s.extract i (min s.size (i + 3)) = (s.extract i s.size).extract 0 3 := by
      rw [ByteArray.extract_extract]
      congr 1
      omega
    rw [e, pre3 s i h]
    exact ⟨fun x => ⟨h, x⟩, fun x => x.2⟩
  · constructor
    · intro e
      have := congrArg ByteArray.size e
      rw [ByteArray.size_extract] at this
      have h3 : (⟨#[239, 191, 189]⟩ : ByteArray).size = 3 := rfl
      omega
    · rintro ⟨x, _⟩; omega
/-! ### the texts themselves -/
def c0 : ByteArray := ⟨#[97, 32, 195, 169]⟩
def c2 : ByteArray := ⟨#[9, 13, 10, 32]⟩
def c3 : ByteArray := ⟨#[255]⟩
def c4 : ByteArray := ⟨#[120, 10, 97, 98, 1]⟩
def c5 : ByteArray := ⟨#[127]⟩
theorem out_c0 : Out c0 none := ⟨3, by decide +kernel, by decide +kernel⟩
theorem out_e : Out ⟨#[]⟩ none := ⟨0, by decide +kernel, by decide +kernel⟩
theorem out_c2 : Out c2 none := ⟨4, by decide +kernel, by decide +kernel⟩
theorem out_c3 : Out c3 (some 0) ∧ (uSt c3 0).2 = (1, 1) := ⟨⟨by decide +kernel, by decide +kernel, by decide +kernel⟩, by decide +kernel⟩
theorem out_c4 : Out c4 (some 4) ∧ (uSt c4 4).2 = (2, 3) := ⟨⟨by decide +kernel, by decide +kernel, by decide +kernel⟩, by decide +kernel⟩
theorem out_c5 : Out c5 (some 0) ∧ (uSt c5 0).2 = (1, 1) := ⟨⟨by decide +kernel, by decide +kernel, by decide +kernel⟩, by decide +kernel⟩
def b0 : ByteArray := ⟨#[239]⟩
def b1 : ByteArray := ⟨#[97, 239, 191, 98]⟩
def b2 : ByteArray := ⟨#[239, 191, 189]⟩
theorem nq_b0 : NoQ b0 := by unfold NoQ; decide +kernel
theorem nq_b1 : NoQ b1 := by unfold NoQ; decide +kernel
theorem nq_b2 : NoQ b2 := by unfold NoQ; decide +kernel
theorem nq_c3 : NoQ c3 := by unfold NoQ; decide +kernel
theorem may_b0 : MayR b0 6 := may_no (fun h => Bool.noConfusion ((h 0 (by decide +kernel)).1.symm.trans (show illB b0 (uSt b0 0).1 = true by decide +kernel))) (by decide)
theorem may_b1 : MayR b1 6 := may_no (fun h => Bool.noConfusion ((h 1 (by decide +kernel)).1.symm.trans (show illB b1 (uSt b1 1).1 = true by decide +kernel))) (by decide)
theorem may_c3 : MayR c3 6 := may_no (fun h => Bool.noConfusion ((h 0 (by decide +kernel)).1.symm.trans (show illB c3 (uSt c3 0).1 = true by decide +kernel))) (by decide)
theorem may_b2 : MayR b2 0 := may_of (fun k hk => by
  have : k = 0 := by
    rcases k with _ | k
    · rfl
    · have h1 := uMono b2 1 k
      have h3 : (uSt b2 1).1 = 3 := by decide +kernel
      have hz : b2.size = 3 := rfl
      rw [Nat.add_comm 1 k] at h1
      omega
  subst this
  exact ⟨by decide +kernel, by decide +kernel⟩) (by decide)
end Go.Proofs.YtnohefaifbghiaaGreatDoor
end
