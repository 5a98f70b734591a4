/- Laid together by a program of mine: Sets Is BuildR Cnv N64 WhereW Ust Push Own2. -/
import Derived.Test.YtjomihhpglojpaaDoorSumLawKnownCS3
import Derived.Test.YtjomihhpglojpaaDoorSumLawKnownCS4
import Derived.Test.YtjomihhpglojpaaDoorChecked
import Derived.WalkKit
import Derived.LaidEql
import Derived.Stop.Asserts
import Derived.RowKitTokens
import Derived.Lib.IfaceEq
import Derived.Test.YtjomihhpglojpaaDoorSumLawKnownCS2
import Derived.Laws.BytesArg
set_option linter.unusedSimpArgs false
set_option linter.unusedVariables false
section
/- Sets of bits: what the program computes. -/
namespace Go.Proofs.YtjomihhpglojpaaDoor
open Go.RowKit
set_option linter.unusedSimpArgs false
set_option linter.unusedVariables false
attribute [local irreducible] wpList wpQuiet wpStill Code.wp Exit.then Exit.inBlock bodyPost Calls Does Does0

theorem cellsB : Tryd.prog.cellsOf 4 = 1 := by kernel_rfl
theorem eqGSet : Tryd.prog.eqGuardType Tryd.prog.depth 85 = false := by kernel_rfl
theorem eqSet {w : World} {l : List (Nat × Value)} {op : BinOp} {x y : Operand} {xs ys : List Bool} {r : Bool} {t' ty : TypeId} (hxl : xs.length = 64) (hyl : ys.length = 64)
    (hx : Ev l x (.agg (setC xs)) := by exact rfl) (hy : Ev l y (.agg (setC ys)) := by exact rfl) (hr : (match op with | .eql => some (decide (xs = ys)) | .neq => some (!decide (xs = ys)) | _ => none) = some r := by exact rfl) : Does Tryd.prog l w (.binOp op 85 x y t') ty (.bool r) w :=
  d_eqSet (und _ _ rfl) (und _ _ rfl) (isz _ _ rfl) cellsB eqGSet hxl hyl hx hy hr
theorem emptyS_len : Pl.emptyS.length = 64 := by decide

/-- A set's block. -/
def SetIn (w : World) (g : Nat) (s : List Bool) : Prop := w.heap[g]? = some (.cells (setC s) 85 (0, 0))

/-- The two results of SetOf. -/
def SetRes (v : Value) : Except Int (List Bool) → Prop
  | .ok s => v = .tuple #[.agg (setC s), .nilIface]
  | .error e => v = .tuple #[.agg (setC Pl.emptyS), .iface 73 (.int .i64 e)]

set_option maxHeartbeats 4000000 in
theorem setOf_of (w : World) (xs : List Int) (ao : Option Addr) (n c : Nat) (hn : xs.length = n) (h : Rd w ao (.int .i64) xs) (hb : n ≤ 9223372036854775807) :
    Ret Tryd.prog 39 #[.slice ao n c] w (fun v w' => SetRes v (Pl.setOf xs) ∧ Below w.heap.size w w') := by
  subst hn
  refine enter1 Tryd.func39 rfl 29 rfl 30 rfl (fun a hF => ?_)
  repeat (first | refine c_seq ?_ | refine c_region _ ?_)
  refine st_alloc hF inf85 (k := fun a w1 hg2 hgr1 hsz1 hF => ?_)
  replace hg2 : SetIn w1 w.heap.size Pl.emptyS := hg2
  have hb1 : Below w.heap.size w w1 := (Below.refl _ w).grown hgr1 (Nat.le_refl _) (fun k hk => by cases hk)
  repeat (first | refine c_seq ?_ | refine c_region _ ?_ | refine wpList_nil ?_ | refine c_then ?_ | ((apply st hF); (exact d_assign); clear hF; clear a; intro a hF))
  refine st_alloc hF inf85 (k := fun a w2 hg4 hgr2 hsz2 hF => ?_)
  replace hg4 : SetIn w2 w1.heap.size Pl.emptyS := hg4
  replace hg2 : SetIn w2 w.heap.size Pl.emptyS := blk_kept hg2 hgr2 (by simp)
  have hb2 : Below w.heap.size w w2 := hb1.grown hgr2 hb1.size (fun k hk => by cases hk)
  repeat (first | refine c_seq ?_ | refine c_block ?_ | refine c_region _ ?_ | refine wpList_nil ?_ | refine c_then ?_ | ((apply st hF); (first | exact d_move | exact d_len (und _ _ rfl)); clear hF; clear a; intro a hF))
  refine c_loop (fun n a wr => ∃ k s, k ≤ xs.length ∧ n = xs.length - k ∧ s.length = 64 ∧ Pl.setOf xs = Pl.addAll (xs.drop k) s ∧
    Fr 30 [(2, .pointer (some ⟨w.heap.size, 0, none⟩)), (4, .pointer (some ⟨w1.heap.size, 0, none⟩)), (7, .slice ao xs.length c), (8, .int .i64 xs.length), (9, .int .i64 (k : Nat))] a ∧
    SetIn wr w.heap.size Pl.emptyS ∧ SetIn wr w1.heap.size s ∧ Below w.heap.size w wr) xs.length
    ⟨0, Pl.emptyS, by omega, rfl, emptyS_len, rfl, hF.keep' ⟨rfl, rfl, rfl, rfl, rfl, trivial⟩, hg2, hg4, hb2⟩ ?_
  clear hF a hg2 hg4 hb2 hsz2 hgr2 w2
  rintro n a wr ⟨k, s, hk, rfl, hsl, hE, hF, hg2, hg4, hbel⟩
  have hz := hbel.size
  by_cases hlt : k < xs.length
  · obtain ⟨b, o, rfl, hc⟩ := h k hlt
    have hc' : wr.cell? ⟨b, o + k, none⟩ = some (.int .i64 xs[k]) := (hbel.cell (p := ⟨b, o + k, none⟩) (World.block_lt_of_cell? w _ hc)).trans hc
    rw [List.drop_eq_getElem_cons hlt, Pl.addAll] at hE
    generalize xs[k] = x at *
    by_cases h1 : x < 0 ∨ 64 ≤ x
    · rw [if_pos h1] at hE
      by_cases h2 : x < 0
      all_goals
        repeat (first | refine c_seq ?_ | refine c_block ?_ | refine c_region _ ?_ | refine wpList_nil ?_ | refine c_then ?_ | refine wp_skip ?_ | ((first | apply st hF | apply stg hF); (first | exact d_move | exact d_assign | exact d_pickT | exact d_pickF | exact d_cmpT | exact d_cmpF | exact d_indexAddr1 (und _ _ rfl) (isz _ _ rfl) | exact d_makeI (con _ rfl) | exact d_build (vs := []) (cells := setC Pl.emptyS) (by kernel_rfl) trivial | exact d_load (und _ _ rfl) hc'); clear hF; clear a; intro a hF) | ((apply stm hF); clear hF; clear a; intro a hF) | (apply c_cond_t hF; exact rfl; first | exact rfl | assumption))
        refine st_storeAgg hF (cs := setC Pl.emptyS) (isz _ _ rfl) rfl rfl hg2 (setC_cells _) (k := fun a w5 hg5 hgr5 hsz5 hF => ?_)
        repeat (first | refine wpList_nil ?_ | refine c_then ?_ | refine c_then_ret ?_ | refine c_in_ret ?_ | refine wp_ret ?_ | ((apply st hF); (exact d_assign); clear hF; clear a; intro a hF))
        refine ret_ct hF rfl (agg _ rfl) (isz _ _ rfl) hg5 rfl rfl ⟨?_, hbel.grown hgr5 hz (fun k hk => by cases hk; omega)⟩
        rw [hE]; rfl
    · rw [if_neg h1] at hE
      obtain ⟨j, rfl⟩ : ∃ j : Nat, x = (j : Int) := ⟨x.toNat, by omega⟩
      have hj : j < s.length := by omega
      rw [Int.toNat_natCast] at hE
      have hsj : s.getD j false = s[j] := by simp [List.getD, hj]
      rw [hsj] at hE
      have c4 : wr.cell? ⟨w1.heap.size, 0 + j, none⟩ = some (.bool s[j]) := cells_at hg4 _ _ (setC_get hj)
      by_cases h2 : s[j] = true
      · rw [if_pos h2] at hE
        rw [h2] at c4
        repeat (first | refine c_seq ?_ | refine c_block ?_ | refine c_region _ ?_ | refine wpList_nil ?_ | refine c_then ?_ | refine wp_skip ?_ | ((first | apply st hF | apply stg hF); (first | exact d_move | exact d_assign | exact d_pickF | exact d_cmpT | exact d_cmpF | exact d_indexAddr1 (und _ _ rfl) (isz _ _ rfl) | exact d_makeI (con _ rfl) | exact d_indexAddrA (und _ _ rfl) (isz _ _ rfl) | exact d_build (vs := []) (cells := setC Pl.emptyS) (by kernel_rfl) trivial | exact d_load (und _ _ rfl) hc' | exact d_load (und _ _ rfl) c4); clear hF; clear a; intro a hF) | (apply c_cond_t hF; exact rfl; first | exact rfl | assumption) | (apply c_cond_f hF; exact rfl; first | exact rfl | assumption))
        refine st_storeAgg hF (cs := setC Pl.emptyS) (isz _ _ rfl) rfl rfl hg2 (setC_cells _) (k := fun a w5 hg5 hgr5 hsz5 hF => ?_)
        repeat (first | refine wpList_nil ?_ | refine c_then ?_ | refine c_then_ret ?_ | refine c_in_ret ?_ | refine wp_ret ?_ | ((apply st hF); (exact d_assign); clear hF; clear a; intro a hF))
        refine ret_ct hF rfl (agg _ rfl) (isz _ _ rfl) hg5 rfl rfl ⟨?_, hbel.grown hgr5 hz (fun k hk => by cases hk; omega)⟩
        rw [hE]; rfl
      · rw [if_neg h2] at hE
        have h2' : s[j] = false := by simpa using h2
        rw [h2'] at c4
        repeat (first | refine c_seq ?_ | refine c_block ?_ | refine c_region _ ?_ | refine wpList_nil ?_ | refine c_then ?_ | refine wp_skip ?_ | ((first | apply st hF | apply stg hF); (first | exact d_move | exact d_assign | exact d_pickF | exact d_cmpT | exact d_cmpF | exact d_indexAddr1 (und _ _ rfl) (isz _ _ rfl) | exact d_indexAddrA (und _ _ rfl) (isz _ _ rfl) | exact d_load (und _ _ rfl) hc' | exact d_load (und _ _ rfl) c4); clear hF; clear a; intro a hF) | (apply c_cond_t hF; exact rfl; first | exact rfl | assumption) | (apply c_cond_f hF; exact rfl; first | exact rfl | assumption))
        refine st_store hF (isz _ _ rfl) hg4 (i := 0 + j) (by rw [setC_size]; omega) rfl rfl rfl fun a w5 hg5 hgr5 hsz5 hF => ?_
        rw [setC_set] at hg5
        repeat (first | refine c_region _ ?_ | refine wpList_nil ?_ | refine c_then ?_ | refine c_in ?_ | ((apply st hF); (first | exact d_move | exact d_add); clear hF; clear a; intro a hF))
        exact ⟨xs.length - (k + 1), by omega, k + 1, s.set j true, by omega, rfl, by simpa using hsl, hE, hF.keep' ⟨rfl, rfl, rfl, rfl, rfl, trivial⟩, blk_kept hg2 hgr5 (by simp; omega), hg5, hbel.grown hgr5 hz (fun k hk => by cases hk; omega)⟩
  · obtain rfl : k = xs.length := by omega
    rw [List.drop_length, Pl.addAll] at hE
    repeat (first | refine c_seq ?_ | refine c_region _ ?_ | refine wpList_nil ?_ | refine c_then ?_ | refine c_then_exit ?_ | refine c_in_hit ?_ | refine wp_exit ?_ | ((apply st hF); (first | exact d_cmpF | exact d_loadAgg (agg _ rfl) (isz _ _ rfl) ((setC_size s).trans hsl) (cells_at hg4)); clear hF; clear a; intro a hF) | (apply c_cond_f hF; exact rfl; first | exact rfl | assumption))
    refine st_storeAgg hF (cs := setC s) (isz _ _ rfl) ((setC_size s).trans hsl) rfl hg2 (setC_cells _) (k := fun a w5 hg5 hgr5 hsz5 hF => ?_)
    repeat (first | refine wpList_nil ?_ | refine c_then ?_ | refine wp_ret ?_ | ((apply st hF); (exact d_assign); clear hF; clear a; intro a hF))
    refine ret_ct hF rfl (agg _ rfl) (by rw [setC_size, hsl]; exact isz _ _ rfl) hg5 rfl rfl ⟨?_, hbel.grown hgr5 hz (fun k hk => by cases hk; omega)⟩
    rw [hE]; rfl
end Go.Proofs.YtjomihhpglojpaaDoor
end
section
/- errors.Is over two numbers of errors: they are the same, or not. -/
namespace Go.Proofs.YtjomihhpglojpaaDoor
open Go.RowKit Go.Extern.Stop Go.Stop Go.Extern

theorem isTypeOf (v : Value) (w : World) : (Extern.ReflectliteType.typeOf #[.iface 73 v]).run Tryd.prog w = .ok (.iface 154 (.agg #[.pointer (some ⟨3, 73, none⟩)])) w := by kernel_rfl
theorem isComparable (w : World) : (callFunc 149 #[.agg #[.pointer (some ⟨3, 73, none⟩)]]).run Tryd.prog w = .ok (.value (.bool true)) w := by kernel_rfl
theorem isMethodComparable (v : Value) (w : World) : (Go.method 338 154 v "Comparable").run Tryd.prog w = .ok (149, v) w := by kernel_rfl
theorem isCompE : (Tryd.prog.info? 73).map (·.comparable) = some true := by kernel_rfl
theorem noIsE (v : Value) (xT : TypeId) (w : World) : (Instr.typeAssert (.iface 73 v) xT 156 true).run Tryd.prog w = .ok (.tuple #[.nilIface, .bool false]) w := run_typeAssert_lacksB Tryd.underlying156 (by kernel_rfl) (by kernel_rfl) v xT w
theorem noUnwrapE (v : Value) (xT : TypeId) (w : World) : (Instr.typeAssert (.iface 73 v) xT 159 true).run Tryd.prog w = .ok (.tuple #[.nilIface, .bool false]) w := run_typeAssert_lacksB Tryd.underlying159 (by kernel_rfl) (by kernel_rfl) v xT w
theorem noUnwrapsE (v : Value) (xT : TypeId) (w : World) : (Instr.typeAssert (.iface 73 v) xT 161 true).run Tryd.prog w = .ok (.tuple #[.nilIface, .bool false]) w := run_typeAssert_lacksB Tryd.underlying161 (by kernel_rfl) (by kernel_rfl) v xT w

theorem is_calls (a b : Int) (w : World) :
    Calls Tryd.prog 37 #[.iface 73 (.int .i64 a), .iface 73 (.int .i64 b)] w fun e w' => e = .returned (.bool (a == b)) ∧ w' = w := by
  have h8 := @run_callFunc_extern Tryd.prog 63 _ Extern.ReflectliteType.typeOf Tryd.func63 (by kernel_rfl) (by kernel_rfl) (by kernel_rfl) (by kernel_rfl)
  have tT := isTypeOf
  have cT := isComparable
  have mR := isMethodComparable
  have nE := noIsE
  have uE := noUnwrapE
  have vE := noUnwrapsE
  have heq := Go.Lib.run_eql_iface_int (P := Tryd.prog) w (t := 30) (tx := 73) (k := .i64) a b Tryd.underlying30 isCompE Tryd.underlying73
  cases hab : (a == b) with
  | true =>
    rw [hab] at heq
    go_enter Tryd.func37, Tryd.ntmps37
    go_wp2
    refine wp_loop_rounds 1 ?_
    rw [rounds_succ]
    go_wp2
    go_ret
    exact ⟨rfl, rfl⟩
  | false =>
    rw [hab] at heq
    go_enter Tryd.func37, Tryd.ntmps37
    go_wp2
    refine wp_loop_rounds 1 ?_
    rw [rounds_succ]
    go_wp2
    go_ret
    exact ⟨rfl, rfl⟩
theorem is_ok (w : World) (a b : Int) : Ret Tryd.prog 37 #[.iface 73 (.int .i64 a), .iface 73 (.int .i64 b)] w (fun v w' => v = .bool (a == b) ∧ w' = w) :=
  Calls.mono (is_calls a b w) fun e w' h => ⟨_, h.1, rfl, h.2⟩
end Go.Proofs.YtjomihhpglojpaaDoor
end
section
/- A slice of given values, made anew: what it reads as. -/
namespace Go.Proofs.YtjomihhpglojpaaDoor
open Go.RowKit

section
variable {P : Program} {ops : Array Oper} {Q : Exit → Act → World → Prop} {rest : List Oper} {a : Act} {w : World} {N : Nat} {l : List (Nat × Value)}
theorem below_alloc (w : World) (o : Obj) : Below w.heap.size w (w.alloc o) := (Below.refl _ w).grown (World.grownBy_alloc w o none) (Nat.le_refl _) (fun k hk => by cases hk)
theorem rd_alloc {α : Type} (w : World) (enc : α → Value) (xs : List α) (e : TypeId) : Rd (w.alloc (.cells (xs.map enc).toArray e)) (some ⟨w.heap.size, 0, none⟩) enc xs := by
  intro i hi
  refine ⟨_, _, rfl, cell_at (heap_alloc_new w _) ?_⟩
  simp [hi]
theorem st_buildR (h : Fr N l a) {α : Type} (enc : α → Value) (xs : List α) (vs : List (Nat × Value)) {d n : Nat} {ps : List (Nat × Operand)} {t e ty : TypeId} {z : Value} {by_ : Nat} {pos : String} {af : Array Edge} (hU : P.underlying t = some (.slice e)) (hi : (P.info? e).map (fun i => (i.zero, i.size, i.bytes)) = some (some z, 1, by_)) (hz : z.cells = #[z])
    (hb : filled n z vs = some (xs.map enc).toArray) (hv : EvP l ps vs) (hn0 : 0 < n := by decide) (hn : n ≤ 16777216 := by decide) (hd : Nat.blt d N = true := by exact rfl)
    (k : ∀ a' w', w.grownBy w' none → Below w.heap.size w w' → Rd w' (some ⟨w.heap.size, 0, none⟩) enc xs → Fr N ((d, .slice (some ⟨w.heap.size, 0, none⟩) n n) :: l) a' → wpList P ops Q rest a' w') :
    wpList P ops Q (⟨some d, .buildSlice t n ps.toArray, ty, pos, af, none⟩ :: rest) a w :=
  st h (d_buildS hU hi hz hn0 hn hb hv) hd fun a' hF => k a' _ (World.grownBy_alloc _ _ _) (below_alloc w _) (rd_alloc w enc xs e) hF
end
end Go.Proofs.YtjomihhpglojpaaDoor
end
section
/- Conversions: between integers; bytes as a text; a signed number moved to the right. -/
namespace Go.Proofs.YtjomihhpglojpaaDoor
open Go.RowKit

section
variable {P : Program} {w : World} {l : List (Nat × Value)}
theorem d_convI {x : Operand} {k k' : IntKind} {n m : Int} {src dst ty : TypeId} {ds : TypeDesc} (hs : P.underlying src = some ds) (hd : P.underlying dst = some (.int k')) (hx : Ev l x (.int k n) := by exact rfl) (hm : k'.wrap n = m := by exact rfl) :
    Does P l w (.convert src dst x) ty (.int k' m) w := by
  intro ρ hρ d pos af g
  subst hm
  simp [execOp, hρ _ _ hx, convert, run_underlying hs, run_underlying hd, Conv.intToInt]
theorem d_convBS {x : Operand} {src dst e ty : TypeId} {b o len cap : Nat} (xs : List Int) (hs : P.underlying src = some (.slice e)) (he : P.underlying e = some (.int .u8)) (hd : P.underlying dst = some .string) (hlen : xs.length = len)
    (hcell : ∀ i, i < len → w.cell? ⟨b, o + i, none⟩ = some (.int .u8 (xs.getD i 0))) (hx : Ev l x (.slice (some ⟨b, o, none⟩) len cap) := by exact rfl) :
    Does P l w (.convert src dst x) ty (.string (strOfNums xs)) w := by
  intro ρ hρ d pos af g
  simp [execOp, hρ _ _ hx, run_convert_bytes_arg w src e hs he b o len cap xs hlen hcell dst hd]
theorem run_shrI {k ky : IntKind} {a : Int} {b : Nat} (hb : b ≤ k.bits) : (Op.shift .shr k a ky (b : Int)).run P w = .ok (.int k (a / 2 ^ b)) w := by
  have h1 : ¬ ((b : Int) < 0) := by omega
  simp only [Op.shift, h1, if_false, Int.toNat_natCast, Nat.min_eq_left hb]
  rw [Int.fdiv_eq_ediv_of_nonneg _ (Int.le_of_lt (Int.pow_pos (by decide)))]
  rfl
theorem d_shrI {x y : Operand} {k ky : IntKind} {a q : Int} {b : Nat} {t t' ty : TypeId} (hx : Ev l x (.int k a) := by exact rfl) (hy : Ev l y (.int ky q) := by exact rfl) (hq : q = (b : Int) := by exact rfl) (hb : b ≤ k.bits := by decide) :
    Does P l w (.binOp .shr t x y t') ty (.int k (a / 2 ^ b)) w := by
  intro ρ hρ d pos af g
  subst hq
  have e : (eqGuard .shr t x y (.int k a) (.int ky b)).run P w = .ok () w := rfl
  have e2 : (binOp .shr t (.int k a) (.int ky b)).run P w = .ok (.int k (a / 2 ^ b)) w := run_shrI (ky := ky) hb
  simp only [execOp, hρ _ _ hx, hρ _ _ hy, Sem.run_bind, e, Result.andThen_ok, e2]
  rfl
end
end Go.Proofs.YtjomihhpglojpaaDoor
end
section
/- Unsigned numbers that stay within their kind. Plain lemmas over any program. -/
namespace Go.Proofs.YtjomihhpglojpaaDoor
open Go.RowKit
section
variable {P : Program} {w : World} {l : List (Nat × Value)}
theorem wrap_mod {k : IntKind} (hs : k.signed = false) (n : Nat) : k.wrap (n : Int) = ((n % 2 ^ k.bits : Nat) : Int) := by
  unfold IntKind.wrap
  simp [hs]
theorem d_addN {k : IntKind} {x y : Operand} {a b : Nat} {p q : Int} {t t' ty : TypeId} (hx : Ev l x (.int k p) := by exact rfl) (hy : Ev l y (.int k q) := by exact rfl) (hp : p = (a : Int) := by exact rfl) (hq : q = (b : Int) := by exact rfl) (hs : k.signed = false := by exact rfl) (h : a + b < 2 ^ k.bits) :
    Does P l w (.binOp .add t x y t') ty (.int k ((a + b : Nat) : Int)) w := by
  subst hp; subst hq
  have := d_addw (P := P) (w := w) (t := t) (t' := t') (ty := ty) hx hy
  rwa [show (a : Int) + (b : Int) = ((a + b : Nat) : Int) by omega, wrap_un hs h] at this
theorem d_mulN {k : IntKind} {x y : Operand} {a b : Nat} {p q : Int} {t t' ty : TypeId} (hx : Ev l x (.int k p) := by exact rfl) (hy : Ev l y (.int k q) := by exact rfl) (hp : p = (a : Int) := by exact rfl) (hq : q = (b : Int) := by exact rfl) (hs : k.signed = false := by exact rfl) (h : a * b < 2 ^ k.bits) :
    Does P l w (.binOp .mul t x y t') ty (.int k ((a * b : Nat) : Int)) w := by
  subst hp; subst hq
  have := d_mulw (P := P) (w := w) (t := t) (t' := t') (ty := ty) hx hy
  rwa [show (a : Int) * (b : Int) = ((a * b : Nat) : Int) by push_cast; rfl, wrap_un hs h] at this
/-- What is left of an unsigned division. -/
theorem d_remN {k : IntKind} {x y : Operand} {a b : Nat} {p q : Int} {t t' ty : TypeId} (hx : Ev l x (.int k p) := by exact rfl) (hy : Ev l y (.int k q) := by exact rfl) (hp : p = (a : Int) := by exact rfl) (hq : q = (b : Int) := by exact rfl) (hs : k.signed = false := by exact rfl) (ha : a < 2 ^ k.bits) (hb : 0 < b) :
    Does P l w (.binOp .rem t x y t') ty (.int k ((a % b : Nat) : Int)) w := by
  intro ρ hρ d pos af g
  subst hp; subst hq
  have hn : ¬ (b : Int) = 0 := by omega
  have e : (a : Int).tmod (b : Int) = ((a % b : Nat) : Int) := by rw [Int.tmod_eq_emod_of_nonneg (by omega)]; push_cast; rfl
  have e2 : k.wrap ((a % b : Nat) : Int) = ((a % b : Nat) : Int) := wrap_un hs (Nat.lt_of_le_of_lt (Nat.mod_le _ _) ha)
  simp [execOp, eqGuard, binOp, Op.intDiv, hρ _ _ hx, hρ _ _ hy, e]
  intro h0; omega
end
end Go.Proofs.YtjomihhpglojpaaDoor
end
section
/- check.where and the reference's bits: walked. -/
namespace Go.Proofs.YtjomihhpglojpaaDoor
open Go.RowKit
namespace Pl
theorem seqB_nd (mot : Bool) (b : Int) (n : Nat) : (seqB mot b n).Nodup := by
  rw [List.Nodup, List.pairwise_iff_getElem]
  intro i j hi hj hij e
  rw [seqB_get mot n b i hi, seqB_get mot n b j hj] at e
  have := congrArg (pos mot) e
  rw [pos_pos, pos_pos] at this
  omega
/-- A row that may be is a set. -/
theorem row_set' {start size : Int} {mot : Bool} {l : List Int} (h : bitsOfSig start size mot = .ok l) : l.length ≤ 64 ∧ (∀ x ∈ l, 0 ≤ x ∧ x ≤ 63) ∧ ∃ s, setOf l = .ok s ∧ s.length = 64 ∧ ∀ i : Nat, s.getD i false = decide ((i : Int) ∈ l) := by
  obtain ⟨h1, h2, h3, h4, h5, h6, h7, h8⟩ := bits_ok h
  have hn : l.Nodup := by
    rw [h8]
    cases mot
    · exact seqB_nd _ _ _
    · exact List.pairwise_reverse.2 ((seqB_nd true start size.toNat).imp (fun hab e => hab e.symm))
  obtain ⟨s, hs⟩ := addAll_can (l := l) (s := emptyS) (by decide) hn (fun x hx => ⟨(h6 x hx).1, by have := (h6 x hx).2; omega, by
    unfold emptyS
    rw [List.getD_eq_getElem?_getD, List.getElem?_replicate]
    split <;> rfl⟩)
  obtain ⟨a1, _, _, a4⟩ := addAll_ok (by decide) hs
  refine ⟨by omega, h6, s, hs, a1, fun i => ?_⟩
  rw [a4 i]
  unfold emptyS
  rw [List.getD_eq_getElem?_getD, List.getElem?_replicate]
  split <;> simp
/-- Where a signal's bits end, at most. -/
def capN (n : Int) : Int := 8 * (if 8 < (if n < 0 then 0 else n) then 8 else (if n < 0 then 0 else n))
theorem capN_bnd (n : Int) : 0 ≤ capN n ∧ capN n ≤ 64 := by unfold capN; split <;> split <;> omega
def whereE (start size : Int) (mot : Bool) (n : Int) : Int :=
  match bitsOfSig start size mot with
  | .error e => e
  | .ok l => if ∀ x ∈ l, x < capN n then 0 else 16
theorem err_15 {start size : Int} {mot : Bool} {e : Int} (h : bitsOfSig start size mot = .error e) : e = 15 ∨ e = 16 := by
  unfold bitsOfSig at h
  split at h
  · cases h; exact .inl rfl
  · split at h
    · cases h; exact .inr rfl
    · split at h
      · cases h
      · cases h; exact .inr rfl
end Pl
open Go.RowKit
set_option linter.unusedSimpArgs false
set_option linter.unusedVariables false
attribute [local irreducible] wpList wpQuiet wpStill Code.wp Exit.then Exit.inBlock bodyPost Calls Does Does0
theorem number_ok (w : World) (e : Int) (he : e = 15 ∨ e = 16) : Ret Tryd.prog 84 [.iface 73 (.int .i64 e)].toArray w (fun v w' => v = .int .i64 e ∧ Below w.heap.size w w') := by
  refine enter1 Tryd.func84 rfl 16 rfl 17 rfl (fun a hF => ?_)
  repeat (first | refine c_seq ?_ | refine c_region _ ?_ | refine wpList_nil ?_ | refine c_then ?_ | ((apply st hF); (exact d_assign); clear hF; clear a; intro a hF))
  refine st_buildR hF (Value.int .i64) [15, 16] [(0, .int .i64 15), (1, .int .i64 16)] (und _ _ rfl) inf73 rfl (by kernel_rfl) ⟨rfl, rfl, rfl, rfl, trivial⟩ (k := fun a w1 hgr hb1 hR hF => ?_)
  obtain ⟨b, o, e0, c0⟩ := hR 0 (by decide)
  obtain ⟨b', o', e1, c1⟩ := hR 1 (by decide)
  cases e0; cases e1
  replace c0 : w1.cell? ⟨w.heap.size, 0 + 0, none⟩ = some (.int .i64 15) := c0
  replace c1 : w1.cell? ⟨w.heap.size, 0 + 1, none⟩ = some (.int .i64 16) := c1
  repeat (first | refine c_block ?_ | refine wpList_nil ?_ | refine c_then ?_ | ((apply st hF); (first | exact d_move | exact d_len (und _ _ rfl)); clear hF; clear a; intro a hF))
  refine c_loop (fun q a wr => wr = w1 ∧ ((q = 2 ∧ Fr 17 [(0, .iface 73 (.int .i64 e)), (5, .slice (some ⟨w.heap.size, 0, none⟩) 2 2), (6, .int .i64 2), (7, .int .i64 0)] a) ∨ (q = 1 ∧ e = 16 ∧ Fr 17 [(0, .iface 73 (.int .i64 e)), (5, .slice (some ⟨w.heap.size, 0, none⟩) 2 2), (6, .int .i64 2), (7, .int .i64 1)] a))) 2
    ⟨rfl, .inl ⟨rfl, hF.keep' ⟨rfl, rfl, rfl, rfl, trivial⟩⟩⟩ ?_
  clear hF a
  rintro q a wr ⟨hw, ⟨rfl, hF⟩ | ⟨rfl, rfl, hF⟩⟩
  · subst hw
    repeat (first | refine c_seq ?_ | refine c_block ?_ | refine c_region _ ?_ | refine wpList_nil ?_ | refine c_then ?_ | refine wp_skip ?_ | ((apply st hF); (first | exact d_move | exact d_assign | exact d_cmpT | exact d_makeI (con _ rfl) | exact d_indexAddr1 (und _ _ rfl) (isz _ _ rfl) (j := 0) | exact d_load (und _ _ rfl) c0); clear hF; clear a; intro a hF) | (apply c_cond_t hF; exact rfl; first | exact rfl | assumption))
    refine stc hF (is_ok wr e 15) cal37 ⟨rfl, rfl, trivial⟩ (k := fun a v w2 hR hF => ?_)
    obtain ⟨rfl, rfl⟩ := hR
    rcases he with rfl | rfl
    · repeat (first | refine c_seq ?_ | refine c_region _ ?_ | refine wpList_nil ?_ | refine c_then ?_ | refine c_then_ret ?_ | refine c_in_ret ?_ | refine wp_ret ?_ | ((apply st hF); (first | exact d_move | exact d_assign); clear hF; clear a; intro a hF) | (apply c_cond_t hF; exact rfl; first | exact rfl | assumption))
      exact ret1 hF rfl rfl ⟨rfl, hb1⟩
    · repeat (first | refine c_region _ ?_ | refine wpList_nil ?_ | refine c_then ?_ | refine c_in ?_ | refine wp_skip ?_ | ((apply st hF); (first | exact d_move | exact d_add); clear hF; clear a; intro a hF) | (apply c_cond_f hF; exact rfl; first | exact rfl | assumption))
      exact ⟨1, by decide, rfl, .inr ⟨rfl, rfl, hF.keep' ⟨rfl, rfl, rfl, rfl, trivial⟩⟩⟩
  · subst hw
    repeat (first | refine c_seq ?_ | refine c_block ?_ | refine c_region _ ?_ | refine wpList_nil ?_ | refine c_then ?_ | refine wp_skip ?_ | ((apply st hF); (first | exact d_move | exact d_assign | exact d_cmpT | exact d_makeI (con _ rfl) | exact d_indexAddr1 (und _ _ rfl) (isz _ _ rfl) (j := 1) | exact d_load (und _ _ rfl) c1); clear hF; clear a; intro a hF) | (apply c_cond_t hF; exact rfl; first | exact rfl | assumption))
    refine stc hF (is_ok wr 16 16) cal37 ⟨rfl, rfl, trivial⟩ (k := fun a v w2 hR hF => ?_)
    obtain ⟨rfl, rfl⟩ := hR
    repeat (first | refine c_seq ?_ | refine c_region _ ?_ | refine wpList_nil ?_ | refine c_then ?_ | refine c_then_ret ?_ | refine c_in_ret ?_ | refine wp_ret ?_ | ((apply st hF); (first | exact d_move | exact d_assign); clear hF; clear a; intro a hF) | (apply c_cond_t hF; exact rfl; first | exact rfl | assumption))
    exact ret1 hF rfl rfl ⟨rfl, hb1⟩
/-- The answer of where: the set, if nothing is wrong. -/
def WhereV (start size : Int) (mot : Bool) (n : Int) (v : Value) : Prop := ∃ s, s.length = 64 ∧ v = .tuple #[.agg (setC s), .int .i64 (Pl.whereE start size mot n)] ∧ (Pl.whereE start size mot n = 0 → ∃ l, Pl.bitsOfSig start size mot = .ok l ∧ Pl.setOf l = .ok s)
set_option maxHeartbeats 8000000 in
theorem where_ok (w : World) (cs : Array Value) (start size n : Int) (mot : Bool) (hs : SigAt cs start size mot) (h1 : ∀ v ∈ cs, v.oneCell' = true) :
    Ret Tryd.prog 60 [.agg cs, .int .i64 n].toArray w (fun v w' => WhereV start size mot n v ∧ Below w.heap.size w w') := by
  refine enter2 Tryd.func60 rfl 39 rfl 41 rfl (fun a hF => ?_)
  repeat (first | refine c_seq ?_ | refine c_region _ ?_)
  refine st_box hF (cs := cs) rfl (k := fun a w1 hg1 hgr1 hsz1 hF => ?_)
  refine st_alloc hF inf85 (k := fun a w2 hs2 hgr2 hsz2 hF => ?_)
  replace hg1 := blk_kept hg1 hgr2 (by simp)
  have hb2 : Below w.heap.size w w2 := ((Below.refl _ w).grown hgr1 (Nat.le_refl _) (fun k hk => by cases hk)).grown hgr2 (by omega) (fun k hk => by cases hk)
  replace hs2 : w2.heap[w1.heap.size]? = some (.cells (setC Pl.emptyS) 85 (0, 0)) := hs2
  repeat (first | refine c_seq ?_ | refine c_region _ ?_ | refine wpList_nil ?_ | refine c_then ?_ | ((apply st hF); (first | exact d_assign | exact d_loadAgg (agg _ rfl) (isz _ _ rfl) hs.len (cells_at hg1)); clear hF; clear a; intro a hF))
  refine stc hF (bits_of w2 cs start size mot hs) cal38 ⟨rfl, trivial⟩ (k := fun a v w3 hR hF => ?_)
  obtain ⟨hBR, hb3⟩ := hR
  have z3 := hb3.size
  have hs3 := (hb3.block _ (by omega)).trans hs2
  have hB3 : Below w.heap.size w w3 := hb2.trans (hb3.mono (by omega))
  have zset : ∀ (l : List (Nat × Value)) (w : World) (ty : TypeId), Does Tryd.prog l w (.build 85 ([] : List (Nat × Operand)).toArray) ty (.agg (setC Pl.emptyS)) w := fun l w ty => d_build (vs := []) (by kernel_rfl) trivial
  have fin : ∀ (a : Act) (l : List (Nat × Value)) (W : World) (s : List Bool) (e : Int), Fr 41 l a → look l 4 = some (.pointer (some ⟨w1.heap.size, 0, none⟩)) → look l 5 = some (.int .i64 e) → W.heap[w1.heap.size]? = some (.cells (setC s) 85 (0, 0)) → s.length = 64 → e = Pl.whereE start size mot n → (e = 0 → ∃ l, Pl.bitsOfSig start size mot = .ok l ∧ Pl.setOf l = .ok s) → Below w.heap.size w W →
      bodyPost Tryd.prog Tryd.f60 (fun e w' => ∃ v, e = .returned v ∧ (WhereV start size mot n v ∧ Below w.heap.size w w')) .ret a W := by
    intro a l W s e hF h4 h5 hg hl he hz hb
    subst he
    exact ret_ct hF rfl (agg _ rfl) (by rw [isz 85 64 rfl, setC_size, hl]) hg h4 h5 ⟨⟨s, hl, rfl, hz⟩, hb⟩
  have hwe : ∀ e, Pl.bitsOfSig start size mot = .error e → Pl.whereE start size mot n = e := fun e h => by unfold Pl.whereE; rw [h]
  cases hr : Pl.bitsOfSig start size mot with
  | error e =>
    rw [hr] at hBR
    obtain rfl : v = _ := hBR
    have he := Pl.err_15 hr
    repeat (first | refine c_seq ?_ | refine c_region _ ?_ | refine wpList_nil ?_ | refine c_then ?_ | ((apply st hF); (first | exact d_move | exact d_assign | exact d_neN (ifc _ rfl) | exact d_extract); clear hF; clear a; intro a hF) | (apply c_cond_t hF; exact rfl; first | exact rfl | assumption))
    refine st hF (zset _ _ _) rfl (fun a hF => ?_)
    repeat (((apply st hF); (exact d_move); clear hF; clear a; intro a hF))
    refine stc hF (number_ok w3 e he) cal84 ⟨rfl, trivial⟩ (k := fun a v w4 hR hF => ?_)
    obtain ⟨rfl, hb4⟩ := hR
    have hs4 := (hb4.block _ (by omega)).trans hs3
    refine st_storeAgg hF (cs := setC Pl.emptyS) (isz _ _ rfl) rfl rfl hs4 (setC_cells _) (k := fun a w5 hf5 hgr5 hsz5 hF => ?_)
    repeat (first | refine wpList_nil ?_ | refine c_then ?_ | refine c_then_ret ?_ | refine wp_ret ?_ | ((apply st hF); (exact d_assign); clear hF; clear a; intro a hF))
    exact fin _ _ _ _ _ hF rfl rfl hf5 (by decide) (hwe e hr).symm (fun h0 => by omega) ((hB3.trans (hb4.mono (by omega))).grown hgr5 (by have := hb4.size; omega) (fun q e => by cases e; omega))
  | ok l =>
    rw [hr] at hBR
    obtain ⟨g, cap, rfl, hgB, hown⟩ := hBR
    obtain ⟨l64, lr, s, hset, s64, hgetD⟩ := Pl.row_set' hr
    have hrd := (own_rd hown).2
    repeat (first | refine c_seq ?_ | refine c_region _ ?_ | refine wpList_nil ?_ | refine c_then ?_ | refine wp_skip ?_ | ((apply st hF); (first | exact d_move | exact d_assign | exact d_neN (ifc _ rfl) | exact d_extract); clear hF; clear a; intro a hF) | (apply c_cond_f hF; exact rfl; first | exact rfl | assumption))
    refine stc hF (setOf_of w3 l _ _ cap rfl hrd (by omega)) cal39 ⟨rfl, trivial⟩ (k := fun a v w4 hR hF => ?_)
    obtain ⟨hSR, hb4⟩ := hR
    rw [hset] at hSR
    obtain rfl : v = _ := hSR
    have z4 := hb4.size
    have hs4 := (hb4.block _ (by omega)).trans hs3
    have hB4 : Below w.heap.size w w4 := hB3.trans (hb4.mono (by omega))
    repeat (((apply st hF); (first | exact d_move | exact d_extract); clear hF; clear a; intro a hF))
    refine st_alloc hF inf85 (k := fun a w5 ht5 hgr5 hsz5 hF => ?_)
    refine st_storeAgg hF (cs := setC s) (isz _ _ rfl) (by rw [setC_size, s64]) rfl ht5 (setC_cells _) (k := fun a w6 ht6 hgr6 hsz6 hF => ?_)
    have hs6 := blk_kept (blk_kept hs4 hgr5 (by simp)) hgr6 (by simp; omega)
    have hB6 : Below w.heap.size w w6 := (hB4.grown hgr5 (by omega) (fun q e => by cases e)).grown hgr6 (by omega) (fun q e => by cases e; omega)
    have hcb := Pl.capN_bnd n
    obtain ⟨m0, hm0⟩ : ∃ m0, (if n < 0 then 0 else n) = m0 := ⟨_, rfl⟩
    obtain ⟨m1, hm1⟩ : ∃ m1, (if (8 : Int) < m0 then 8 else m0) = m1 := ⟨_, rfl⟩
    have hcap : Pl.capN n = 8 * m1 := by unfold Pl.capN; rw [hm0, hm1]
    obtain ⟨c, hc⟩ : ∃ c : Nat, 8 * m1 = (c : Int) := ⟨(8 * m1).toNat, by omega⟩
    have hmx : ∀ (l : List (Nat × Value)) (x y : Operand) (t t' ty : TypeId) (w : World), Ev l x (.int .i64 n) → Ev l y (.int .i64 0) → Does Tryd.prog l w (.call { callee := .builtin .max, args := [x, y].toArray, argTypes := [t, t'].toArray }) ty (.int .i64 m0) w := fun l x y t t' ty w hx hy => by
      have := d_max (P := Tryd.prog) (w := w) (t := t) (t' := t') (ty := ty) hx hy
      rwa [hm0] at this
    have hmn : ∀ (l : List (Nat × Value)) (x y : Operand) (t t' ty : TypeId) (w : World), Ev l x (.int .i64 m0) → Ev l y (.int .i64 8) → Does Tryd.prog l w (.call { callee := .builtin .min, args := [x, y].toArray, argTypes := [t, t'].toArray }) ty (.int .i64 m1) w := fun l x y t t' ty w hx hy => by
      have := d_min (P := Tryd.prog) (w := w) (t := t) (t' := t') (ty := ty) hx hy
      rwa [hm1] at this
    repeat (first | refine c_seq ?_ | refine c_block ?_ | refine c_region _ ?_ | refine wpList_nil ?_ | refine c_then ?_ | refine wp_skip ?_ | ((apply st hF); (first | exact d_move | exact d_assign | exact d_neN (ifc _ rfl) | exact hmx _ _ _ _ _ _ _ rfl rfl | exact hmn _ _ _ _ _ _ _ rfl rfl | exact d_mul (h := by omega)); clear hF; clear a; intro a hF) | (apply c_cond_f hF; exact rfl; first | exact rfl | assumption))
    rw [hc] at hF
    have hcc : c ≤ 64 := by omega
    have hwl : Pl.whereE start size mot n = if ∀ x ∈ l, x < (c : Int) then 0 else 16 := by unfold Pl.whereE; rw [hr, hcap, hc]
    refine c_loop (fun q a wr => ∃ k : Nat, c ≤ k ∧ k ≤ 64 ∧ q = 64 - k ∧ (∀ j, c ≤ j → j < k → s.getD j false = false) ∧ Fr 41 [(4, .pointer (some ⟨w1.heap.size, 0, none⟩)), (8, .pointer (some ⟨w4.heap.size, 0, none⟩)), (9, .int .i64 (k : Int))] a ∧ wr = w6) (64 - c)
      ⟨c, Nat.le_refl _, hcc, rfl, fun j h1 h2 => by omega, hF.keep' ⟨rfl, rfl, rfl, trivial⟩, rfl⟩ ?_
    clear hF a
    rintro q a wr ⟨k, hck, hk64, rfl, hpre, hF, rfl⟩
    by_cases hlt : k < 64
    · have hget : wr.cell? ⟨w4.heap.size, 0 + k, none⟩ = some (.bool (s.getD k false)) := by
        rw [Nat.zero_add]
        refine cell_at ht6 ?_
        rw [setC_get (by omega)]
        simp [List.getD, show k < s.length by omega]
      cases hb : s.getD k false with
      | true =>
        rw [hb] at hget
        repeat (first | refine c_seq ?_ | refine c_block ?_ | refine c_region _ ?_ | refine wpList_nil ?_ | refine c_then ?_ | refine wp_skip ?_ | ((apply st hF); (first | exact d_move | exact d_cmpT | exact d_indexAddrA (und _ _ rfl) (isz _ _ rfl) (j := k) | exact d_load (und _ _ rfl) hget); clear hF; clear a; intro a hF) | (apply c_cond_t hF; exact rfl; first | exact rfl | assumption))
        refine st hF (zset _ _ _) rfl (fun a hF => ?_)
        refine st_storeAgg hF (cs := setC Pl.emptyS) (isz _ _ rfl) rfl rfl hs6 (setC_cells _) (k := fun a w7 hf7 hgr7 hsz7 hF => ?_)
        repeat (first | refine wpList_nil ?_ | refine c_then ?_ | refine c_then_ret ?_ | refine c_in_ret ?_ | refine wp_ret ?_ | ((apply st hF); (exact d_assign); clear hF; clear a; intro a hF))
        have hm : ((k : Int) ∈ l) := by rw [hgetD] at hb; exact of_decide_eq_true hb
        have hwe2 : Pl.whereE start size mot n = 16 := by rw [hwl, if_neg (fun h => by have := h _ hm; omega)]
        exact fin _ _ _ _ _ hF rfl rfl hf7 (by decide) hwe2.symm (fun h0 => by omega) (hB6.grown hgr7 (by omega) (fun q e => by cases e; omega))
      | false =>
        rw [hb] at hget
        repeat (first | refine c_seq ?_ | refine c_block ?_ | refine c_region _ ?_ | refine wpList_nil ?_ | refine c_then ?_ | refine c_in ?_ | refine wp_skip ?_ | ((apply st hF); (first | exact d_move | exact d_assign | exact d_add | exact d_cmpT | exact d_indexAddrA (und _ _ rfl) (isz _ _ rfl) (j := k) | exact d_load (und _ _ rfl) hget); clear hF; clear a; intro a hF) | (apply c_cond_t hF; exact rfl; first | exact rfl | assumption) | (apply c_cond_f hF; exact rfl; first | exact rfl | assumption))
        exact ⟨64 - (k + 1), by omega, k + 1, by omega, by omega, rfl, fun j h1 h2 => by
          by_cases e : j = k
          · subst e; exact hb
          · exact hpre j h1 (by omega), hF.keep' ⟨rfl, rfl, rfl, trivial⟩, rfl⟩
    · repeat (first | refine c_seq ?_ | refine c_region _ ?_ | refine wpList_nil ?_ | refine c_then ?_ | refine c_then_exit ?_ | refine c_in_hit ?_ | refine wp_exit ?_ | ((apply st hF); (first | exact d_move | exact d_cmpF | exact d_loadAgg (agg _ rfl) (isz _ _ rfl) (by rw [setC_size, s64]) (cells_at ht6)); clear hF; clear a; intro a hF) | (apply c_cond_f hF; exact rfl; first | exact rfl | assumption))
      refine st_storeAgg hF (cs := setC s) (isz _ _ rfl) (by rw [setC_size, s64]) rfl hs6 (setC_cells _) (k := fun a w7 hf7 hgr7 hsz7 hF => ?_)
      repeat (first | refine wpList_nil ?_ | refine c_then ?_ | refine wp_ret ?_ | ((apply st hF); (exact d_assign); clear hF; clear a; intro a hF))
      have hwe2 : Pl.whereE start size mot n = 0 := by
        rw [hwl, if_pos]
        intro x hx
        apply Decidable.byContradiction
        intro hge
        have hx2 := lr x hx
        have := hpre x.toNat (by omega) (by omega)
        rw [hgetD, show ((x.toNat : Nat) : Int) = x by omega, decide_eq_true hx] at this
        cases this
      exact fin _ _ _ _ _ hF rfl rfl hf7 s64 hwe2.symm (fun _ => ⟨l, hr, hset⟩) (hB6.grown hgr7 (by omega) (fun q e => by cases e; omega))
end Go.Proofs.YtjomihhpglojpaaDoor
end
section
/- Where the units of a text stand: plain laws. -/
namespace Go.Proofs.YtjomihhpglojpaaDoor
open Go.RowKit

/-- Where the units of a text stand: the byte, the line, the column. -/
def uStep (s : ByteArray) (t : Nat × Int × Int) : Nat × Int × Int :=
  if (Utf8.decode s t.1).1 = 10 then (t.1 + (Utf8.decode s t.1).2, t.2.1 + 1, 1) else (t.1 + (Utf8.decode s t.1).2, t.2.1, t.2.2 + 1)
def uSt (s : ByteArray) : Nat → Nat × Int × Int
  | 0 => (0, 1, 1)
  | k + 1 => uStep s (uSt s k)
theorem uSt_lt (s : ByteArray) (k : Nat) (h : (uSt s k).1 < s.size) : (uSt s k).1 < (uSt s (k + 1)).1 := by
  have := width_pos s _ h
  show _ < (uStep s (uSt s k)).1
  unfold uStep
  split <;> (simp only; omega)
theorem uSt_fst (s : ByteArray) (k : Nat) : (uSt s (k + 1)).1 = (uSt s k).1 + (Utf8.decode s (uSt s k).1).2 := by
  show (uStep s (uSt s k)).1 = _
  unfold uStep
  split <;> rfl
/-- The rune of unit k. -/
def uR (s : ByteArray) (k : Nat) : Int := (Utf8.decode s (uSt s k).1).1
end Go.Proofs.YtjomihhpglojpaaDoor
end
section
/- An append of one element, and which of its two ways it goes: into the room behind, or into a new block. Plain lemmas over any program. -/
namespace Go.Proofs.YtjomihhpglojpaaDoor
open Go.RowKit

section
variable {P : Program} {ops : Array Oper} {Q : Exit → Act → World → Prop} {a : Act} {w w' : World} {rest : List Oper} {N : Nat} {l : List (Nat × Value)}

end
end Go.Proofs.YtjomihhpglojpaaDoor
end
section
/- More on rows of the call's own. Plain lemmas over any program. -/
namespace Go.Proofs.YtjomihhpglojpaaDoor
open Go.RowKit

/-- A row stays while another of another type is written. -/
theorem own_keptO {w w' : World} {base base' : Nat} {e e' : TypeId} {s s' : Nat} {v v' : Value} {n n' : Nat} {xs xs' : List Value} (h : w.ownsRow base e s v n xs) (h' : w.ownsRow base' e' s' v' n' xs') (hne : e ≠ e') (hgr : w.grownBy w' v'.ownBlock) : w'.ownsRow base e s v n xs := by
  refine h.kept hgr ?_
  rcases h.2 with ⟨rfl, _⟩ | ⟨g, cap, cur, rfl, _, hg, _⟩
  · exact Or.inl rfl
  · right
    rcases h'.2 with ⟨rfl, _⟩ | ⟨g2, cap2, cur2, rfl, _, hg2, _⟩
    · simp [Value.ownBlock]
    · intro x
      simp only [Value.ownBlock, Option.some.injEq] at x
      subst x
      rw [hg] at hg2
      cases hg2
      exact hne rfl
theorem own_rebase {w : World} {base base' : Nat} {e : TypeId} {s : Nat} {v : Value} {n : Nat} {xs : List Value} (h : w.ownsRow base e s v n xs) (hb : ∀ k, v.ownBlock = some k → base' ≤ k) : w.ownsRow base' e s v n xs := by
  refine ⟨h.1, ?_⟩
  rcases h.2 with h0 | ⟨g, cap, cur, rfl, _, r⟩
  · exact .inl h0
  · exact .inr ⟨g, cap, cur, rfl, hb g rfl, r⟩
/-- A row stays while a block is written that is not its own. -/
theorem own_keptB {w w' : World} {base : Nat} {e : TypeId} {s : Nat} {v : Value} {n : Nat} {xs : List Value} (h : w.ownsRow base e s v n xs) {r : Option Nat} (hgr : w.grownBy w' r) (hne : ∀ k, v.ownBlock = some k → r ≠ some k) : w'.ownsRow base e s v n xs := by
  refine h.kept hgr ?_
  cases hv : v.ownBlock with
  | none => exact Or.inl rfl
  | some k => right; intro x; exact hne k hv x.symm
end Go.Proofs.YtjomihhpglojpaaDoor
end
