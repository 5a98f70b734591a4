/- Laid together by a program of mine: N64 BuildR NnW NnP. -/
import Derived.Test.YtjomihhpglojpaaGreatDoorSumLawDatabaseS7
import Derived.Test.YtjomihhpglojpaaGreatDoorSumLawDatabaseS5
import Derived.Test.YtjomihhpglojpaaGreatDoorSumLawDatabaseS3
import Derived.Test.YtjomihhpglojpaaGreatDoorSumLawDatabaseS4
set_option linter.unusedSimpArgs false
set_option linter.unusedVariables false
section
/- Unsigned numbers that stay within their kind. Plain lemmas over any program. -/
namespace Go.Proofs.YtjomihhpglojpaaGreatDoor
open Go.RowKit
section
variable {P : Program} {w : World} {l : List (Nat × Value)}
theorem wrap_mod {k : IntKind} (hs : k.signed = false) (n : Nat) : k.wrap (n : Int) = ((n % 2 ^ k.bits : Nat) : Int) := by
  unfold IntKind.wrap
  simp [hs]
theorem d_addN {k : IntKind} {x y : Operand} {a b : Nat} {p q : Int} {t t' ty : TypeId} (hx : Ev l x (.int k p) := by exact rfl) (hy : Ev l y (.int k q) := by exact rfl) (hp : p = (a : Int) := by exact rfl) (hq : q = (b : Int) := by exact rfl) (hs : k.signed = false := by exact rfl) (h : a + b < 2 ^ k.bits) :
    Does P l w (.binOp .add t x y t') ty (.int k ((a + b : Nat) : Int)) w := by
  subst hp; subst hq
  have := d_addw (P := P) (w := w) (t := t) (t' := t') (ty := ty) hx hy
  rwa [show (a : Int) + (b : Int) = ((a + b : Nat) : Int) by omega, wrap_un hs h] at this
theorem d_subN {k : IntKind} {x y : Operand} {a b : Nat} {p q : Int} {t t' ty : TypeId} (hx : Ev l x (.int k p) := by exact rfl) (hy : Ev l y (.int k q) := by exact rfl) (hp : p = (a : Int) := by exact rfl) (hq : q = (b : Int) := by exact rfl) (hs : k.signed = false := by exact rfl) (h : b ≤ a) (ha : a < 2 ^ k.bits) :
    Does P l w (.binOp .sub t x y t') ty (.int k ((a - b : Nat) : Int)) w := by
  subst hp; subst hq
  have := d_subw (P := P) (w := w) (t := t) (t' := t') (ty := ty) hx hy
  rwa [show (a : Int) - (b : Int) = ((a - b : Nat) : Int) by omega, wrap_un hs (by omega)] at this
theorem d_mulN {k : IntKind} {x y : Operand} {a b : Nat} {p q : Int} {t t' ty : TypeId} (hx : Ev l x (.int k p) := by exact rfl) (hy : Ev l y (.int k q) := by exact rfl) (hp : p = (a : Int) := by exact rfl) (hq : q = (b : Int) := by exact rfl) (hs : k.signed = false := by exact rfl) (h : a * b < 2 ^ k.bits) :
    Does P l w (.binOp .mul t x y t') ty (.int k ((a * b : Nat) : Int)) w := by
  subst hp; subst hq
  have := d_mulw (P := P) (w := w) (t := t) (t' := t') (ty := ty) hx hy
  rwa [show (a : Int) * (b : Int) = ((a * b : Nat) : Int) by push_cast; rfl, wrap_un hs h] at this
/-- To another unsigned kind. -/
theorem d_convN {x : Operand} {k k' : IntKind} {a m : Nat} {p : Int} {src dst ty : TypeId} {ds : TypeDesc} (hs : P.underlying src = some ds) (hd : P.underlying dst = some (.int k')) (hx : Ev l x (.int k p) := by exact rfl) (hp : p = (a : Int) := by exact rfl) (hu : k'.signed = false := by exact rfl) (hm : a % 2 ^ k'.bits = m := by exact rfl) :
    Does P l w (.convert src dst x) ty (.int k' (m : Int)) w := by
  subst hp; subst hm
  exact d_convI hs hd hx (wrap_mod hu a)
theorem run_shlN {k : IntKind} {a b : Nat} {ky : IntKind} (hs : k.signed = false) (hb : b ≤ k.bits) (h : a * 2 ^ b < 2 ^ k.bits) : (Op.shift .shl k (a : Int) ky (b : Int)).run P w = .ok (.int k ((a * 2 ^ b : Nat) : Int)) w := by
  have h1 : ¬ ((b : Int) < 0) := by omega
  simp only [Op.shift, h1, if_false, Int.toNat_natCast, Nat.min_eq_left hb]
  have : k.wrap ((a : Int) * 2 ^ b) = ((a * 2 ^ b : Nat) : Int) := by
    rw [← wrap_un hs h]
    congr 1
  rw [this]; rfl
theorem d_shlN {x y : Operand} {k ky : IntKind} {a b : Nat} {p q : Int} {t t' ty : TypeId} (hx : Ev l x (.int k p) := by exact rfl) (hy : Ev l y (.int ky q) := by exact rfl) (hp : p = (a : Int) := by exact rfl) (hq : q = (b : Int) := by exact rfl) (hs : k.signed = false := by exact rfl) (hb : b ≤ k.bits) (h : a * 2 ^ b < 2 ^ k.bits) :
    Does P l w (.binOp .shl t x y t') ty (.int k ((a * 2 ^ b : Nat) : Int)) w := by
  intro ρ hρ d pos af g
  subst hp; subst hq
  have e : (eqGuard .shl t x y (.int k a) (.int ky b)).run P w = .ok () w := rfl
  have e2 : (binOp .shl t (.int k a) (.int ky b)).run P w = .ok (.int k ((a * 2 ^ b : Nat) : Int)) w := run_shlN (ky := ky) hs hb h
  simp only [execOp, hρ _ _ hx, hρ _ _ hy, Sem.run_bind, e, Result.andThen_ok, e2]
  rfl
/-- What is left of an unsigned division. -/
theorem d_remN {k : IntKind} {x y : Operand} {a b : Nat} {p q : Int} {t t' ty : TypeId} (hx : Ev l x (.int k p) := by exact rfl) (hy : Ev l y (.int k q) := by exact rfl) (hp : p = (a : Int) := by exact rfl) (hq : q = (b : Int) := by exact rfl) (hs : k.signed = false := by exact rfl) (ha : a < 2 ^ k.bits) (hb : 0 < b) :
    Does P l w (.binOp .rem t x y t') ty (.int k ((a % b : Nat) : Int)) w := by
  intro ρ hρ d pos af g
  subst hp; subst hq
  have hn : ¬ (b : Int) = 0 := by omega
  have e : (a : Int).tmod (b : Int) = ((a % b : Nat) : Int) := by rw [Int.tmod_eq_emod_of_nonneg (by omega)]; push_cast; rfl
  have e2 : k.wrap ((a % b : Nat) : Int) = ((a % b : Nat) : Int) := wrap_un hs (Nat.lt_of_le_of_lt (Nat.mod_le _ _) ha)
  simp [execOp, eqGuard, binOp, Op.intDiv, hρ _ _ hx, hρ _ _ hy, e]
  intro h0; omega
end
end Go.Proofs.YtjomihhpglojpaaGreatDoor
end
section
/- A slice of given values, made anew: what it reads as. -/
namespace Go.Proofs.YtjomihhpglojpaaGreatDoor
open Go.RowKit

section
variable {P : Program} {ops : Array Oper} {Q : Exit → Act → World → Prop} {rest : List Oper} {a : Act} {w : World} {N : Nat} {l : List (Nat × Value)}
theorem below_alloc (w : World) (o : Obj) : Below w.heap.size w (w.alloc o) := (Below.refl _ w).grown (World.grownBy_alloc w o none) (Nat.le_refl _) (fun k hk => by cases hk)
theorem rd_alloc {α : Type} (w : World) (enc : α → Value) (xs : List α) (e : TypeId) : Rd (w.alloc (.cells (xs.map enc).toArray e)) (some ⟨w.heap.size, 0, none⟩) enc xs := by
  intro i hi
  refine ⟨_, _, rfl, cell_at (heap_alloc_new w _) ?_⟩
  simp [hi]
theorem st_buildR (h : Fr N l a) {α : Type} (enc : α → Value) (xs : List α) (vs : List (Nat × Value)) {d n : Nat} {ps : List (Nat × Operand)} {t e ty : TypeId} {z : Value} {by_ : Nat} {pos : String} {af : Array Edge} (hU : P.underlying t = some (.slice e)) (hi : (P.info? e).map (fun i => (i.zero, i.size, i.bytes)) = some (some z, 1, by_)) (hz : z.cells = #[z])
    (hb : filled n z vs = some (xs.map enc).toArray) (hv : EvP l ps vs) (hn0 : 0 < n := by decide) (hn : n ≤ 16777216 := by decide) (hd : Nat.blt d N = true := by exact rfl)
    (k : ∀ a' w', w.grownBy w' none → Below w.heap.size w w' → Rd w' (some ⟨w.heap.size, 0, none⟩) enc xs → Fr N ((d, .slice (some ⟨w.heap.size, 0, none⟩) n n) :: l) a' → wpList P ops Q rest a' w') :
    wpList P ops Q (⟨some d, .buildSlice t n ps.toArray, ty, pos, af, none⟩ :: rest) a w :=
  st h (d_buildS hU hi hz hn0 hn hb hv) hd fun a' hF => k a' _ (World.grownBy_alloc _ _ _) (below_alloc w _) (rd_alloc w enc xs e) hF
theorem stg_buildR (h : Fr N l a) {α : Type} (enc : α → Value) (xs : List α) (vs : List (Nat × Value)) {d n : Nat} {ps : List (Nat × Operand)} {t e ty : TypeId} {z : Value} {by_ : Nat} {pos : String} {af : Array Edge} {j q : Nat} {b : Bool} (hU : P.underlying t = some (.slice e)) (hi : (P.info? e).map (fun i => (i.zero, i.size, i.bytes)) = some (some z, 1, by_)) (hz : z.cells = #[z])
    (hb : filled n z vs = some (xs.map enc).toArray) (hv : EvP l ps vs) (hn0 : 0 < n := by decide) (hn : n ≤ 16777216 := by decide) (hj : (ops[j]?).bind (·.dst) = some q := by exact rfl) (hq : look l q = some (.bool b) := by exact rfl) (hd : Nat.blt d N = true := by exact rfl)
    (k : ∀ a' w', w.grownBy w' none → Below w.heap.size w w' → Rd w' (some ⟨w.heap.size, 0, none⟩) enc xs → Fr N ((d, .slice (some ⟨w.heap.size, 0, none⟩) n n) :: l) a' → wpList P ops Q rest a' w') :
    wpList P ops Q (⟨some d, .buildSlice t n ps.toArray, ty, pos, af, some (j, b)⟩ :: rest) a w :=
  stg h hj hq (d_buildS hU hi hz hn0 hn hb hv) hd fun a' hF => k a' _ (World.grownBy_alloc _ _ _) (below_alloc w _) (rd_alloc w enc xs e) hF
end
end Go.Proofs.YtjomihhpglojpaaGreatDoor
end
section
/- The reference's big numbers: trim, from, word, digit, held, plus, less: walked. -/
namespace Go.Proofs.YtjomihhpglojpaaGreatDoor
open Go.RowKit
section
variable {P : Program} {w : World} {l : List (Nat × Value)}
theorem d_maxV {x y : Operand} {k k' : IntKind} {m p v : Int} {t t' ty : TypeId} (hv : (if m < p then p else m) = v) (hx : Ev l x (.int k m) := by exact rfl) (hy : Ev l y (.int k' p) := by exact rfl) : Does P l w (.call { callee := .builtin .max, args := [x, y].toArray, argTypes := [t, t'].toArray }) ty (.int k v) w := by subst hv; exact d_max hx hy
end
open Go.RowKit
set_option linter.unusedSimpArgs false
set_option linter.unusedVariables false
attribute [local irreducible] wpList wpQuiet wpStill Code.wp Exit.then Exit.inBlock bodyPost Calls Does Does0
open Nn
def u32v (d : Nat) : Value := .int .u32 (d : Int)
/-- A value that reads as a number; its row, if it has one, lies behind B. -/
def NatV (B : Nat) (w : World) (v : Value) (x : Nat) : Prop := ∃ ao c ds, v = .slice ao ds.length c ∧ Rd w ao u32v ds ∧ Dig ds ∧ Norm ds ∧ valN ds = x ∧ ∀ ad, ao = some ad → B ≤ ad.block
theorem NatV.below {B : Nat} {w w' : World} {v : Value} {x : Nat} (h : NatV B w v x) (hb : Below w.heap.size w w') : NatV B w' v x := by
  obtain ⟨ao, c, ds, h1, h2, h3, h4, h5, h6⟩ := h
  exact ⟨ao, c, ds, h1, h2.below hb, h3, h4, h5, h6⟩
theorem NatV.mono {B B' : Nat} {w : World} {v : Value} {x : Nat} (h : NatV B w v x) (hb : B' ≤ B) : NatV B' w v x := by
  obtain ⟨ao, c, ds, h1, h2, h3, h4, h5, h6⟩ := h
  exact ⟨ao, c, ds, h1, h2, h3, h4, h5, fun ad e => Nat.le_trans hb (h6 ad e)⟩
theorem NatV.kept {B g : Nat} {w w' : World} {v : Value} {x : Nat} (h : NatV B w v x) (hgr : w.grownBy w' (some g)) (hg : g < B) : NatV B w' v x := by
  obtain ⟨ao, c, ds, h1, h2, h3, h4, h5, h6⟩ := h
  refine ⟨ao, c, ds, h1, fun i hi => ?_, h3, h4, h5, h6⟩
  obtain ⟨b, o, e, hc⟩ := h2 i hi
  refine ⟨b, o, e, ?_⟩
  have hB := h6 _ e
  have e2 := hgr.block b (World.block_lt_of_cell? w _ hc) (fun e => by have := Option.some.inj e; simp only at hB; omega)
  simp only [World.cell?, e2] at hc ⊢
  exact hc
theorem NatV.nil (B : Nat) (w : World) (c : Nat) : NatV B w (.slice none 0 c) 0 := ⟨none, c, [], rfl, fun i hi => absurd hi (Nat.not_lt_zero _), fun _ h => (by cases h), fun _ h => (by cases h), rfl, fun _ h => by cases h⟩
theorem B_2 : B 2 = 18446744073709551616 := by rw [B_two]
theorem nat_len {ds : List Nat} {x k : Nat} (hn : Norm ds) (hv : valN ds = x) (h : x < B k) : ds.length ≤ k := norm_len hn (by rw [hv]; exact h)
theorem rd_u32 {w : World} {ao : Option Addr} {ds : List Nat} (h : Rd w ao u32v ds) {i : Nat} (hi : i < ds.length) : ∃ b o, ao = some ⟨b, o, none⟩ ∧ w.cell? ⟨b, o + i, none⟩ = some (.int .u32 ((dgt ds i : Nat) : Int)) := by
  obtain ⟨b, o, h1, h2⟩ := h i hi
  exact ⟨b, o, h1, by rw [dgt_of hi]; exact h2⟩
theorem trim_ok (w : World) (B : Nat) (ds : List Nat) (ao : Option Addr) (n c : Nat) (hn : ds.length = n) (hc : n ≤ c) (hR : Rd w ao u32v ds) (hd : Dig ds) (hz : n ≤ 1000000) (hB : ∀ ad, ao = some ad → B ≤ ad.block) :
    Ret Tryz.prog 105 [.slice ao n c].toArray w (fun v w' => NatV B w' v (valN ds) ∧ w' = w) := by
  subst hn
  refine enter1 Tryz.func105 rfl 20 rfl 21 rfl (fun a hF => ?_)
  repeat (first | refine c_seq ?_ | refine c_block ?_ | refine c_region _ ?_ | refine wpList_nil ?_ | refine c_then ?_ | ((apply st hF); (first | exact d_move | exact d_assign | exact d_len (und _ _ rfl)); clear hF; clear a; intro a hF))
  refine c_loop (fun q a wr => ∃ k : Nat, k ≤ ds.length ∧ q = k ∧ valN (ds.take k) = valN ds ∧ Fr 21 [(0, .slice ao ds.length c), (3, .int .i64 (k : Int))] a ∧ wr = w) ds.length
    ⟨ds.length, Nat.le_refl _, rfl, by rw [List.take_length], hF.keep' ⟨rfl, rfl, trivial⟩, rfl⟩ ?_
  clear hF a
  rintro q a wr ⟨k, hk, rfl, hv, hF, rfl⟩
  rcases Nat.eq_zero_or_pos q with rfl | hpos
  · repeat (first | refine c_seq ?_ | refine c_region _ ?_ | refine wpList_nil ?_ | refine c_then ?_ | refine c_then_exit ?_ | refine c_in_hit ?_ | refine wp_exit ?_ | refine wp_ret ?_ | ((apply st hF); (first | exact d_move | exact d_assign | exact d_pickF | exact d_cmpF | exact d_slice (und _ _ rfl) (isz _ _ rfl)); clear hF; clear a; intro a hF) | ((apply stm hF); clear hF; clear a; intro a hF) | (apply c_cond_f hF; exact rfl; first | exact rfl | assumption))
    exact ret1 hF rfl rfl ⟨⟨ao, c, [], rfl, fun i hi => absurd hi (Nat.not_lt_zero _), fun _ h => (by cases h), fun _ h => (by cases h), hv, hB⟩, rfl⟩
  · obtain ⟨j, rfl⟩ : ∃ j, q = j + 1 := ⟨q - 1, by omega⟩
    obtain ⟨b, o, rfl, hcell⟩ := rd_u32 hR (i := j) (by omega)
    have e1 : ((j + 1 : Nat) : Int) - 1 = (j : Int) := by omega
    by_cases h0 : dgt ds j = 0
    · repeat (first | refine c_seq ?_ | refine c_block ?_ | refine c_region _ ?_ | refine wpList_nil ?_ | refine c_then ?_ | refine c_in ?_ | refine wp_skip ?_ | ((first | apply st hF | apply stg hF); (first | exact d_move | exact d_assign | exact d_pickT | exact d_sub | exact d_cmpT | exact d_indexAddr1 (und _ _ rfl) (isz _ _ rfl) (j := j) (hq := e1) | exact d_load (und _ _ rfl) hcell); clear hF; clear a; intro a hF) | (apply c_cond_t hF; exact rfl; first | exact rfl | assumption))
      rw [e1] at hF
      exact ⟨j, by omega, j, by omega, rfl, trim_step (by omega) h0 hv, hF.keep' ⟨rfl, rfl, trivial⟩, rfl⟩
    · repeat (first | refine c_seq ?_ | refine c_region _ ?_ | refine wpList_nil ?_ | refine c_then ?_ | refine c_then_exit ?_ | refine c_in_hit ?_ | refine wp_exit ?_ | refine wp_ret ?_ | ((first | apply st hF | apply stg hF); (first | exact d_move | exact d_assign | exact d_pickT | exact d_sub | exact d_cmpT | exact d_cmpF | exact d_slice (und _ _ rfl) (isz _ _ rfl) | exact d_indexAddr1 (und _ _ rfl) (isz _ _ rfl) (j := j) (hq := e1) | exact d_load (und _ _ rfl) hcell); clear hF; clear a; intro a hF) | (apply c_cond_f hF; exact rfl; first | exact rfl | assumption))
      exact ret1 hF rfl rfl ⟨⟨_, c, ds.take (j + 1), by rw [List.length_take, Nat.min_eq_left hk], hR.take _, hd.take _, norm_take hk (.inr h0), hv, hB⟩, rfl⟩
theorem from_ok (w : World) (x : Nat) (hx : x < 18446744073709551616) : Ret Tryz.prog 80 [.int .u64 (x : Int)].toArray w (fun v w' => NatV w.heap.size w' v x ∧ Below w.heap.size w w') := by
  refine enter1 Tryz.func80 rfl 9 rfl 10 rfl (fun a hF => ?_)
  repeat (first | refine c_seq ?_ | refine c_region _ ?_ | refine wpList_nil ?_ | refine c_then ?_ | ((apply st hF); (first | exact d_move | exact d_assign | exact d_convN (und _ _ rfl) (und _ _ rfl) (a := x) (m := x % 4294967296) (hm := rfl) | exact d_shr (a := x) (b := 32) (hb := by decide) | exact d_convN (und _ _ rfl) (und _ _ rfl) (a := x / 2 ^ 32) (m := x / 2 ^ 32 % 4294967296) (hm := rfl)); clear hF; clear a; intro a hF))
  refine st_buildR hF u32v [x % 4294967296, x / 2 ^ 32 % 4294967296] [(0, .int .u32 ((x % 4294967296 : Nat) : Int)), (1, .int .u32 ((x / 2 ^ 32 % 4294967296 : Nat) : Int))] (und _ _ rfl) inf24 rfl rfl ⟨rfl, rfl, rfl, rfl, trivial⟩ (k := fun a w1 hgr hb1 hR hF => ?_)
  have hv : valN [x % 4294967296, x / 2 ^ 32 % 4294967296] = x := by simp only [valN]; omega
  have hd : Dig [x % 4294967296, x / 2 ^ 32 % 4294967296] := by
    intro d hd
    simp only [List.mem_cons, List.mem_nil_iff, or_false] at hd
    rcases hd with rfl | rfl <;> exact Nat.mod_lt _ (by decide)
  skip
  refine stc hF (trim_ok w1 w.heap.size _ _ 2 2 rfl (Nat.le_refl _) hR hd (by decide) (fun ad e => by cases e; exact Nat.le_refl _)) cal105 ⟨rfl, trivial⟩ (k := fun a v w2 hR2 hF => ?_)
  obtain ⟨hv2, rfl⟩ := hR2
  rw [hv] at hv2
  repeat (first | refine wpList_nil ?_ | refine c_then ?_ | refine wp_ret ?_ | ((apply st hF); (exact d_assign); clear hF; clear a; intro a hF))
  exact ret1 hF rfl rfl ⟨hv2, hb1⟩
theorem digit_ok (w : World) (ds : List Nat) (ao : Option Addr) (c i : Nat) (hR : Rd w ao u32v ds) (hd : Dig ds) :
    Ret Tryz.prog 122 [.slice ao ds.length c, .int .i64 (i : Int)].toArray w (fun v w' => v = .int .u64 ((dgt ds i : Nat) : Int) ∧ w' = w) := by
  refine enter2 Tryz.func122 rfl 12 rfl 14 rfl (fun a hF => ?_)
  by_cases hi : i < ds.length
  · obtain ⟨b, o, rfl, hcell⟩ := rd_u32 hR hi
    have hlt : dgt ds i % 2 ^ IntKind.u64.bits = dgt ds i := Nat.mod_eq_of_lt (Nat.lt_trans (dgt_lt hd i) (by decide))
    repeat (first | refine c_seq ?_ | refine c_region _ ?_ | refine wpList_nil ?_ | refine c_then ?_ | refine c_then_ret ?_ | refine wp_ret ?_ | ((apply st hF); (first | exact d_move | exact d_assign | exact d_cmpT | exact d_len (und _ _ rfl) | exact d_indexAddr1 (und _ _ rfl) (isz _ _ rfl) | exact d_convN (und _ _ rfl) (und _ _ rfl) (hm := hlt) | exact d_load (und _ _ rfl) hcell); clear hF; clear a; intro a hF) | (apply c_cond_t hF; exact rfl; first | exact rfl | assumption))
    exact ret1 hF rfl rfl ⟨rfl, rfl⟩
  · repeat (first | refine c_seq ?_ | refine c_region _ ?_ | refine wpList_nil ?_ | refine c_then ?_ | refine wp_skip ?_ | refine wp_ret ?_ | ((apply st hF); (first | exact d_move | exact d_assign | exact d_cmpF | exact d_len (und _ _ rfl)); clear hF; clear a; intro a hF) | (apply c_cond_f hF; exact rfl; first | exact rfl | assumption))
    exact ret1 hF rfl rfl ⟨by rw [dgt_out (by omega)]; rfl, rfl⟩
/-- -1, 0, 1. -/
def heldI (x y : Nat) : Int := if x < y then -1 else if y < x then 1 else 0
theorem held_ok (w : World) (B1 B2 : Nat) (v1 v2 : Value) (x y : Nat) (h1 : NatV B1 w v1 x) (h2 : NatV B2 w v2 y) (hx : x < B 100) (hy : y < B 100) :
    Ret Tryz.prog 117 [v1, v2].toArray w (fun v w' => v = .int .i64 (heldI x y) ∧ w' = w) := by
  obtain ⟨ao, c, xs, rfl, hRa, hda, hna, rfl, _⟩ := h1
  obtain ⟨bo, c', ys, rfl, hRb, hdb, hnb, rfl, _⟩ := h2
  have la := nat_len hna rfl hx
  have lb := nat_len hnb rfl hy
  obtain ⟨M, hM⟩ : ∃ M : Nat, (if (xs.length : Int) < (ys.length : Int) then (ys.length : Int) else (xs.length : Int)) = (M : Int) := by
    by_cases h : (xs.length : Int) < (ys.length : Int)
    · exact ⟨ys.length, if_pos h⟩
    · exact ⟨xs.length, if_neg h⟩
  have hMa : xs.length ≤ M ∧ ys.length ≤ M ∧ M ≤ 100 := by split at hM <;> omega
  refine enter2 Tryz.func117 rfl 28 rfl 30 rfl (fun a hF => ?_)
  repeat (first | refine c_seq ?_ | refine c_block ?_ | refine c_region _ ?_ | refine wpList_nil ?_ | refine c_then ?_ | ((apply st hF); (first | exact d_move | exact d_assign | exact d_sub | exact d_len (und _ _ rfl) | exact d_maxV hM); clear hF; clear a; intro a hF))
  refine c_loop (fun q a wr => ∃ j : Nat, j ≤ M ∧ q = j ∧ valN (xs.drop j) = valN (ys.drop j) ∧ Fr 30 [(0, .slice ao xs.length c), (1, .slice bo ys.length c'), (5, .int .i64 ((j : Int) - 1))] a ∧ wr = w) M
    ⟨M, Nat.le_refl _, rfl, by rw [drop_end hMa.1, drop_end hMa.2.1], hF.keep' ⟨rfl, rfl, rfl, trivial⟩, rfl⟩ ?_
  clear hF a
  rintro q a wr ⟨k, hk, rfl, hv, hF, rfl⟩
  rcases Nat.eq_zero_or_pos q with rfl | hpos
  · repeat (first | refine c_seq ?_ | refine c_region _ ?_ | refine wpList_nil ?_ | refine c_then ?_ | refine c_then_exit ?_ | refine c_in_hit ?_ | refine wp_exit ?_ | refine wp_ret ?_ | ((apply st hF); (first | exact d_move | exact d_assign | exact d_cmpF); clear hF; clear a; intro a hF) | (apply c_cond_f hF; exact rfl; first | exact rfl | assumption))
    have he : valN xs = valN ys := by simpa using hv
    exact ret1 hF rfl rfl ⟨by rw [heldI, he, if_neg (Nat.lt_irrefl _), if_neg (Nat.lt_irrefl _)], rfl⟩
  · obtain ⟨j, rfl⟩ : ∃ j, q = j + 1 := ⟨q - 1, by omega⟩
    have e1 : ((j + 1 : Nat) : Int) - 1 = (j : Int) := by omega
    rw [e1] at hF
    repeat (first | refine c_seq ?_ | refine c_block ?_ | refine c_region _ ?_ | refine wpList_nil ?_ | refine c_then ?_ | refine wp_skip ?_ | ((apply st hF); (first | exact d_move | exact d_cmpT); clear hF; clear a; intro a hF) | (apply c_cond_t hF; exact rfl; first | exact rfl | assumption))
    refine stc hF (digit_ok wr xs ao c j hRa hda) cal122 ⟨rfl, rfl, trivial⟩ (k := fun a v w1 hR hF => ?_)
    obtain ⟨rfl, rfl⟩ := hR
    repeat (first | refine c_seq ?_ | refine c_region _ ?_ | refine wpList_nil ?_ | refine c_then ?_ | ((apply st hF); (first | exact d_move | exact d_assign); clear hF; clear a; intro a hF))
    refine stc hF (digit_ok w1 ys bo c' j hRb hdb) cal122 ⟨rfl, rfl, trivial⟩ (k := fun a v w2 hR hF => ?_)
    obtain ⟨rfl, rfl⟩ := hR
    rcases Nat.lt_trichotomy (dgt xs j) (dgt ys j) with h | h | h
    · repeat (first | refine c_seq ?_ | refine c_region _ ?_ | refine wpList_nil ?_ | refine c_then ?_ | refine c_then_ret ?_ | refine c_in_ret ?_ | refine wp_ret ?_ | ((apply st hF); (first | exact d_move | exact d_assign | exact d_cmpT); clear hF; clear a; intro a hF) | (apply c_cond_t hF; exact rfl; first | exact rfl | assumption))
      have hlt := lt_of_drop hda (drop_lt hv h)
      exact ret1 hF rfl rfl ⟨by rw [heldI, if_pos hlt], rfl⟩
    · repeat (first | refine c_seq ?_ | refine c_region _ ?_ | refine wpList_nil ?_ | refine c_then ?_ | refine c_in ?_ | refine wp_skip ?_ | ((apply st hF); (first | exact d_move | exact d_assign | exact d_sub | exact d_cmpF); clear hF; clear a; intro a hF) | (apply c_cond_f hF; exact rfl; first | exact rfl | assumption))
      exact ⟨j, by omega, j, by omega, rfl, drop_eq hv h, hF.keep' ⟨rfl, rfl, rfl, trivial⟩, rfl⟩
    · repeat (first | refine c_seq ?_ | refine c_region _ ?_ | refine wpList_nil ?_ | refine c_then ?_ | refine c_then_ret ?_ | refine c_in_ret ?_ | refine wp_skip ?_ | refine wp_ret ?_ | ((apply st hF); (first | exact d_move | exact d_assign | exact d_cmpT | exact d_cmpF); clear hF; clear a; intro a hF) | (apply c_cond_t hF; exact rfl; first | exact rfl | assumption) | (apply c_cond_f hF; exact rfl; first | exact rfl | assumption))
      have hlt := lt_of_drop hdb (drop_lt hv.symm h)
      exact ret1 hF rfl rfl ⟨by rw [heldI, if_neg (by omega), if_pos hlt], rfl⟩
end Go.Proofs.YtjomihhpglojpaaGreatDoor
end
section
/- The reference's big numbers: plus, less, word: walked. -/
namespace Go.Proofs.YtjomihhpglojpaaGreatDoor
open Go.RowKit
set_option linter.unusedSimpArgs false
set_option linter.unusedVariables false
attribute [local irreducible] wpList wpQuiet wpStill Code.wp Exit.then Exit.inBlock bodyPost Calls Does Does0
open Nn
theorem own_u32 {w : World} {base : Nat} {ao : Option Addr} {n cap : Nat} {l : List Nat} (h : w.ownsRow base 24 1 (.slice ao n cap) n (l.map u32v)) : l.length = n ∧ n ≤ cap ∧ Rd w ao u32v l ∧ ∀ ad, ao = some ad → base ≤ ad.block := by
  obtain ⟨h1, h2⟩ := own_rd h
  refine ⟨h1, (own_cap h).1, h2, fun ad e => ?_⟩
  subst e
  rcases h.2 with ⟨h0, _⟩ | ⟨g, cap', cur, h0, hb, _⟩
  · cases h0
  · cases h0; exact hb
theorem map_snoc (l : List Nat) (d : Nat) : (l ++ [d]).map u32v = l.map u32v ++ [.int .u32 (d : Int)] := by simp [u32v]
set_option maxHeartbeats 2000000 in
theorem plus_ok (w : World) (B1 B2 : Nat) (v1 v2 : Value) (x y : Nat) (h1 : NatV B1 w v1 x) (h2 : NatV B2 w v2 y) (hx : x < B 100) (hy : y < B 100) :
    Ret Tryz.prog 116 [v1, v2].toArray w (fun v w' => NatV w.heap.size w' v (x + y) ∧ Below w.heap.size w w') := by
  obtain ⟨ao, c, xs, rfl, hRa, hda, hna, rfl, _⟩ := h1
  obtain ⟨bo, c', ys, rfl, hRb, hdb, hnb, rfl, _⟩ := h2
  have la := nat_len hna rfl hx
  have lb := nat_len hnb rfl hy
  obtain ⟨M, hM⟩ : ∃ M : Nat, (if (xs.length : Int) < (ys.length : Int) then (ys.length : Int) else (xs.length : Int)) = (M : Int) := by
    by_cases h : (xs.length : Int) < (ys.length : Int)
    · exact ⟨ys.length, if_pos h⟩
    · exact ⟨xs.length, if_neg h⟩
  have hMa : xs.length ≤ M ∧ ys.length ≤ M ∧ M ≤ 100 := by split at hM <;> omega
  refine enter2 Tryz.func116 rfl 34 rfl 36 rfl (fun a hF => ?_)
  repeat (first | refine c_seq ?_ | refine c_block ?_ | refine c_region _ ?_ | refine wpList_nil ?_ | refine c_then ?_ | ((apply st hF); (exact d_assign); clear hF; clear a; intro a hF))
  refine c_loop (fun q a wr => ∃ (k cc cap : Nat) (ro : Option Addr) (l : List Nat), k ≤ M + 1 ∧ q = M + 1 - k ∧ PlusAt xs ys l k cc ∧ Fr 36 [(0, .slice ao xs.length c), (1, .slice bo ys.length c'), (5, .slice ro k cap), (6, .int .u64 (cc : Int)), (7, .int .i64 (k : Int))] a ∧
      wr.ownsRow w.heap.size 24 1 (.slice ro k cap) k (l.map u32v) ∧ Below w.heap.size w wr) (M + 1)
    ⟨0, 0, 0, none, [], Nat.zero_le _, rfl, plus_zero xs ys, hF.keep' ⟨rfl, rfl, rfl, rfl, rfl, trivial⟩, World.ownsRow_nil _ _ _ _, Below.refl _ w⟩ ?_
  clear hF a
  rintro q a wr ⟨k, cc, cap, ro, l, hk, rfl, hP, hF, hown, hbel⟩
  have hsz := hbel.size
  by_cases hlt : k ≤ M
  · repeat (first | refine c_seq ?_ | refine c_block ?_ | refine c_region _ ?_ | refine wpList_nil ?_ | refine c_then ?_ | refine wp_skip ?_ | ((apply st hF); (first | exact d_move | exact d_cmpT | exact d_len (und _ _ rfl) | exact d_maxV hM); clear hF; clear a; intro a hF) | (apply c_cond_t hF; exact rfl; first | exact rfl | assumption))
    refine stc hF (digit_ok wr xs ao c k (hRa.below hbel) hda) cal122 ⟨rfl, rfl, trivial⟩ (k := fun a v w1 hR hF => ?_)
    obtain ⟨rfl, rfl⟩ := hR
    repeat (((apply st hF); (exact d_move); clear hF; clear a; intro a hF))
    refine stc hF (digit_ok w1 ys bo c' k (hRb.below hbel) hdb) cal122 ⟨rfl, rfl, trivial⟩ (k := fun a v w2 hR hF => ?_)
    obtain ⟨rfl, rfl⟩ := hR
    obtain ⟨hn, hP2⟩ := plus_step hda hdb hP rfl
    have hA1 : dgt xs k + dgt ys k < 2 ^ IntKind.u64.bits := Nat.lt_of_le_of_lt (Nat.le_add_right _ _) (Nat.lt_trans hn (by decide))
    have hA2 : dgt xs k + dgt ys k + cc < 2 ^ IntKind.u64.bits := Nat.lt_trans hn (by decide)
    repeat (first | refine c_seq ?_ | refine c_region _ ?_ | refine wpList_nil ?_ | refine c_then ?_ | ((apply st hF); (first | exact d_move | exact d_assign | exact d_addN (h := hA1) | exact d_addN (h := hA2) | exact d_convN (und _ _ rfl) (und _ _ rfl) (a := dgt xs k + dgt ys k + cc) (m := (dgt xs k + dgt ys k + cc) % 4294967296) (hm := rfl)); clear hF; clear a; intro a hF))
    refine st_push' hF (u := .int .u32 (((dgt xs k + dgt ys k + cc) % 4294967296 : Nat) : Int)) (und _ _ rfl) inf24 rfl hown (by omega) (by unfold maxLen; omega) hsz (k := fun a ro2 cap2 w3 hown3 hgr3 hat3 hF => ?_)
    repeat (first | refine c_region _ ?_ | refine wpList_nil ?_ | refine c_then ?_ | refine c_in ?_ | ((apply st hF); (first | exact d_move | exact d_assign | exact d_add | exact d_shr (a := dgt xs k + dgt ys k + cc) (b := 32) (hb := by decide)); clear hF; clear a; intro a hF))
    exact ⟨M + 1 - (k + 1), by omega, k + 1, _, cap2, ro2, _, by omega, rfl, hP2, hF.keep' ⟨rfl, rfl, rfl, rfl, rfl, trivial⟩, by rw [map_snoc]; exact hown3, below_own hbel hsz hown hgr3⟩
  · obtain rfl : k = M + 1 := by omega
    obtain ⟨o1, o2, o3, o4⟩ := own_u32 hown
    repeat (first | refine c_seq ?_ | refine c_region _ ?_ | refine wpList_nil ?_ | refine c_then ?_ | refine c_then_exit ?_ | refine c_in_hit ?_ | refine wp_exit ?_ | ((apply st hF); (first | exact d_move | exact d_cmpF | exact d_len (und _ _ rfl) | exact d_maxV hM); clear hF; clear a; intro a hF) | (apply c_cond_f hF; exact rfl; first | exact rfl | assumption))
    refine stc hF (trim_ok wr w.heap.size l ro (M + 1) cap o1 o2 o3 hP.2.1 (by omega) o4) cal105 ⟨rfl, trivial⟩ (k := fun a v w1 hR hF => ?_)
    obtain ⟨hv, rfl⟩ := hR
    rw [plus_end hda hdb hP hMa.1 hMa.2.1] at hv
    repeat (first | refine wpList_nil ?_ | refine c_then ?_ | refine wp_ret ?_ | ((apply st hF); (exact d_assign); clear hF; clear a; intro a hF))
    exact ret1 hF rfl rfl ⟨hv, hbel⟩
set_option maxHeartbeats 2000000 in
theorem less_ok (w : World) (B1 B2 : Nat) (v1 v2 : Value) (x y : Nat) (h1 : NatV B1 w v1 x) (h2 : NatV B2 w v2 y) (hx : x < B 100) (hle : y ≤ x) :
    Ret Tryz.prog 118 [v1, v2].toArray w (fun v w' => NatV w.heap.size w' v (x - y) ∧ Below w.heap.size w w') := by
  obtain ⟨ao, c, xs, rfl, hRa, hda, hna, rfl, _⟩ := h1
  obtain ⟨bo, c', ys, rfl, hRb, hdb, hnb, rfl, _⟩ := h2
  have la := nat_len hna rfl hx
  refine enter2 Tryz.func118 rfl 33 rfl 35 rfl (fun a hF => ?_)
  repeat (first | refine c_seq ?_ | refine c_block ?_ | refine c_region _ ?_ | refine wpList_nil ?_ | refine c_then ?_ | ((apply st hF); (exact d_assign); clear hF; clear a; intro a hF))
  refine c_loop (fun q a wr => ∃ (k cc cap : Nat) (ro : Option Addr) (l : List Nat), k ≤ xs.length ∧ q = xs.length - k ∧ LessAt xs ys l k cc ∧ Fr 35 [(0, .slice ao xs.length c), (1, .slice bo ys.length c'), (5, .slice ro k cap), (6, .int .u64 (cc : Int)), (7, .int .i64 (k : Int))] a ∧
      wr.ownsRow w.heap.size 24 1 (.slice ro k cap) k (l.map u32v) ∧ Below w.heap.size w wr) xs.length
    ⟨0, 0, 0, none, [], Nat.zero_le _, rfl, less_zero xs ys, hF.keep' ⟨rfl, rfl, rfl, rfl, rfl, trivial⟩, World.ownsRow_nil _ _ _ _, Below.refl _ w⟩ ?_
  clear hF a
  rintro q a wr ⟨k, cc, cap, ro, l, hk, rfl, hP, hF, hown, hbel⟩
  have hsz := hbel.size
  have d1 := dgt_lt hda k
  have d2 := dgt_lt hdb k
  have d3 := hP.2.2.1
  by_cases hlt : k < xs.length
  · repeat (first | refine c_seq ?_ | refine c_block ?_ | refine c_region _ ?_ | refine wpList_nil ?_ | refine c_then ?_ | refine wp_skip ?_ | ((apply st hF); (first | exact d_move | exact d_cmpT | exact d_len (und _ _ rfl)); clear hF; clear a; intro a hF) | (apply c_cond_t hF; exact rfl; first | exact rfl | assumption))
    refine stc hF (digit_ok wr xs ao c k (hRa.below hbel) hda) cal122 ⟨rfl, rfl, trivial⟩ (k := fun a v w1 hR hF => ?_)
    obtain ⟨rfl, rfl⟩ := hR
    have hA1 : 4294967296 + dgt xs k < 2 ^ IntKind.u64.bits := Nat.lt_trans (show 4294967296 + dgt xs k < 8589934592 by omega) (by decide)
    repeat (((apply st hF); (first | exact d_move | exact d_addN (a := 4294967296) (h := hA1)); clear hF; clear a; intro a hF))
    refine stc hF (digit_ok w1 ys bo c' k (hRb.below hbel) hdb) cal122 ⟨rfl, rfl, trivial⟩ (k := fun a v w2 hR hF => ?_)
    obtain ⟨rfl, rfl⟩ := hR
    obtain ⟨hn, hq, hP2⟩ := less_step (n := 4294967296 + dgt xs k - dgt ys k - cc) hda hdb hP (by omega)
    have hA2 : dgt ys k ≤ 4294967296 + dgt xs k := by omega
    have hA3 : cc ≤ 4294967296 + dgt xs k - dgt ys k := by omega
    have hA4 : 4294967296 + dgt xs k - dgt ys k < 2 ^ IntKind.u64.bits := Nat.lt_of_le_of_lt (Nat.sub_le _ _) hA1
    repeat (first | refine c_seq ?_ | refine c_region _ ?_ | refine wpList_nil ?_ | refine c_then ?_ | ((apply st hF); (first | exact d_move | exact d_assign | exact d_subN (h := hA2) (ha := hA1) | exact d_subN (h := hA3) (ha := hA4) | exact d_convN (und _ _ rfl) (und _ _ rfl) (a := 4294967296 + dgt xs k - dgt ys k - cc) (m := (4294967296 + dgt xs k - dgt ys k - cc) % 4294967296) (hm := rfl)); clear hF; clear a; intro a hF))
    refine st_push' hF (u := .int .u32 (((4294967296 + dgt xs k - dgt ys k - cc) % 4294967296 : Nat) : Int)) (und _ _ rfl) inf24 rfl hown (by omega) (by unfold maxLen; omega) hsz (k := fun a ro2 cap2 w3 hown3 hgr3 hat3 hF => ?_)
    repeat (first | refine c_region _ ?_ | refine wpList_nil ?_ | refine c_then ?_ | refine c_in ?_ | ((apply st hF); (first | exact d_move | exact d_assign | exact d_add | exact d_shr (a := 4294967296 + dgt xs k - dgt ys k - cc) (b := 32) (hb := by decide) | exact d_subN (a := 1) (b := (4294967296 + dgt xs k - dgt ys k - cc) / 2 ^ 32) (h := hq) (ha := by decide)); clear hF; clear a; intro a hF))
    exact ⟨xs.length - (k + 1), by omega, k + 1, _, cap2, ro2, _, by omega, rfl, hP2, hF.keep' ⟨rfl, rfl, rfl, rfl, rfl, trivial⟩, by rw [map_snoc]; exact hown3, below_own hbel hsz hown hgr3⟩
  · obtain rfl : k = xs.length := by omega
    obtain ⟨o1, o2, o3, o4⟩ := own_u32 hown
    repeat (first | refine c_seq ?_ | refine c_region _ ?_ | refine wpList_nil ?_ | refine c_then ?_ | refine c_then_exit ?_ | refine c_in_hit ?_ | refine wp_exit ?_ | ((apply st hF); (first | exact d_move | exact d_cmpF | exact d_len (und _ _ rfl)); clear hF; clear a; intro a hF) | (apply c_cond_f hF; exact rfl; first | exact rfl | assumption))
    refine stc hF (trim_ok wr w.heap.size l ro xs.length cap o1 o2 o3 hP.2.1 (by omega) o4) cal105 ⟨rfl, trivial⟩ (k := fun a v w1 hR hF => ?_)
    obtain ⟨hv, rfl⟩ := hR
    have he : valN l = valN xs - valN ys := by have := less_end hda hle hP; omega
    rw [he] at hv
    repeat (first | refine wpList_nil ?_ | refine c_then ?_ | refine wp_ret ?_ | ((apply st hF); (exact d_assign); clear hF; clear a; intro a hF))
    exact ret1 hF rfl rfl ⟨hv, hbel⟩
theorem or_high {d k n : Nat} (h : d < 2 ^ k) : d ||| n * 2 ^ k = d + n * 2 ^ k := by
  rw [Nat.or_comm, Nat.mul_comm, ← Nat.two_pow_add_eq_or_of_lt h, Nat.add_comm]
theorem word_ok (w : World) (B1 : Nat) (v1 : Value) (x : Nat) (h1 : NatV B1 w v1 x) (hx : x < B 100) :
    Ret Tryz.prog 82 [v1].toArray w (fun v w' => (∃ (m : Nat) (b : Bool), v = .tuple #[.int .u64 (m : Int), .bool b] ∧ (b = true ↔ x < 18446744073709551616) ∧ (b = true → m = x)) ∧ w' = w) := by
  obtain ⟨ao, c, xs, rfl, hRa, hda, hna, rfl, _⟩ := h1
  have la := nat_len hna rfl hx
  have hb : (xs.length ≤ 2 ↔ valN xs < 18446744073709551616) := by
    rw [← B_2]
    exact ⟨fun h => Nat.lt_of_lt_of_le (valN_lt hda) (B_le h), fun h => norm_len hna h⟩
  refine enter1 Tryz.func82 rfl 29 rfl 30 rfl (fun a hF => ?_)
  repeat (first | refine c_seq ?_ | refine c_block ?_ | refine c_region _ ?_ | refine wpList_nil ?_ | refine c_then ?_ | ((apply st hF); (exact d_assign); clear hF; clear a; intro a hF))
  refine c_loop (fun q a wr => ∃ k : Nat, k ≤ 2 ∧ k ≤ xs.length ∧ q = 2 - k ∧ Fr 30 [(0, .slice ao xs.length c), (4, .int .u64 ((valN (xs.take k) : Nat) : Int)), (5, .int .i64 (k : Int))] a ∧ wr = w) 2
    ⟨0, by decide, Nat.zero_le _, rfl, hF.keep' ⟨rfl, rfl, rfl, trivial⟩, rfl⟩ ?_
  clear hF a
  rintro q a wr ⟨k, hk, hkl, rfl, hF, rfl⟩
  by_cases hlt : k < xs.length
  · by_cases h2 : k < 2
    · obtain ⟨b, o, rfl, hcell⟩ := rd_u32 hRa hlt
      have hd := dgt_lt hda k
      have hmod : dgt xs k % 2 ^ IntKind.u64.bits = dgt xs k := Nat.mod_eq_of_lt (Nat.lt_trans hd (by decide))
      have ht := take_succ_val xs k
      have hk1 : k = 0 ∨ k = 1 := by omega
      rcases hk1 with rfl | rfl
      · have hs : dgt xs 0 * 2 ^ 0 < 2 ^ IntKind.u64.bits := by rw [Nat.pow_zero, Nat.mul_one]; exact Nat.lt_trans hd (by decide)
        have e1 : 0 ||| dgt xs 0 * 2 ^ 0 = valN (xs.take (0 + 1)) := by rw [ht, Nat.zero_or, B_zero]; simp [valN]
        have e0 : ((valN (xs.take 0) : Nat) : Int) = ((0 : Nat) : Int) := rfl
        repeat (first | refine c_seq ?_ | refine c_block ?_ | refine c_region _ ?_ | refine wpList_nil ?_ | refine c_then ?_ | refine c_in ?_ | refine wp_skip ?_ | ((first | apply st hF | apply stg hF); (first | exact d_move | exact d_assign | exact d_pickT | exact d_add | exact d_cmpT | exact d_len (und _ _ rfl) | exact d_indexAddr1 (und _ _ rfl) (isz _ _ rfl) | exact d_convN (und _ _ rfl) (und _ _ rfl) (hm := hmod) | exact d_mul (h := ⟨by decide, by decide⟩) | exact d_shlN (a := dgt xs 0) (b := 0) (hb := by decide) (h := hs) | exact d_bits (a := 0) (b := dgt xs 0 * 2 ^ 0) (ha := by decide) (hb := hs) | exact d_load (und _ _ rfl) hcell); clear hF; clear a; intro a hF) | (apply c_cond_t hF; exact rfl; first | exact rfl | assumption))
        rw [e1] at hF
        exact ⟨1, by decide, 1, by decide, hlt, rfl, hF.keep' ⟨rfl, rfl, rfl, trivial⟩, rfl⟩
      · have hs : dgt xs 1 * 2 ^ 32 < 2 ^ IntKind.u64.bits := by
          have : dgt xs 1 * 2 ^ 32 ≤ 4294967295 * 2 ^ 32 := Nat.mul_le_mul_right _ (by omega)
          exact Nat.lt_of_le_of_lt this (by decide)
        have hlow : valN (xs.take 1) < 2 ^ 32 := by have := take_val_lt hda 1; rw [B_two] at this; exact this
        have e1 : valN (xs.take 1) ||| dgt xs 1 * 2 ^ 32 = valN (xs.take (1 + 1)) := by rw [ht, or_high hlow, B_two, Nat.mul_comm]
        have hlow2 : valN (xs.take 1) < 2 ^ IntKind.u64.bits := Nat.lt_trans hlow (by decide)
        repeat (first | refine c_seq ?_ | refine c_block ?_ | refine c_region _ ?_ | refine wpList_nil ?_ | refine c_then ?_ | refine c_in ?_ | refine wp_skip ?_ | ((first | apply st hF | apply stg hF); (first | exact d_move | exact d_assign | exact d_pickT | exact d_add | exact d_cmpT | exact d_len (und _ _ rfl) | exact d_indexAddr1 (und _ _ rfl) (isz _ _ rfl) | exact d_convN (und _ _ rfl) (und _ _ rfl) (hm := hmod) | exact d_mul (h := ⟨by decide, by decide⟩) | exact d_shlN (a := dgt xs 1) (b := 32) (hb := by decide) (h := hs) | exact d_bits (a := valN (xs.take 1)) (b := dgt xs 1 * 2 ^ 32) (ha := hlow2) (hb := hs) | exact d_load (und _ _ rfl) hcell); clear hF; clear a; intro a hF) | (apply c_cond_t hF; exact rfl; first | exact rfl | assumption))
        rw [e1] at hF
        exact ⟨0, by decide, 2, by decide, hlt, rfl, hF.keep' ⟨rfl, rfl, rfl, trivial⟩, rfl⟩
    · repeat (first | refine c_seq ?_ | refine c_region _ ?_ | refine wpList_nil ?_ | refine c_then ?_ | refine c_then_exit ?_ | refine c_in_hit ?_ | refine wp_exit ?_ | refine wp_ret ?_ | ((first | apply st hF | apply stg hF); (first | exact d_move | exact d_assign | exact d_pickT | exact d_cmpT | exact d_cmpF | exact d_len (und _ _ rfl)); clear hF; clear a; intro a hF) | (apply c_cond_f hF; exact rfl; first | exact rfl | assumption))
      exact ret2 hF rfl rfl rfl ⟨⟨_, _, rfl, ⟨fun h => (by cases h), fun h => (by have := hb.2 h; omega)⟩, fun h => by cases h⟩, rfl⟩
  · repeat (first | refine c_seq ?_ | refine c_region _ ?_ | refine wpList_nil ?_ | refine c_then ?_ | refine c_then_exit ?_ | refine c_in_hit ?_ | refine wp_exit ?_ | refine wp_ret ?_ | ((apply st hF); (first | exact d_move | exact d_assign | exact d_pickF | exact d_cmpT | exact d_cmpF | exact d_len (und _ _ rfl)); clear hF; clear a; intro a hF) | ((apply stm hF); clear hF; clear a; intro a hF) | (apply c_cond_f hF; exact rfl; first | exact rfl | assumption))
    refine ret2 hF rfl rfl rfl ⟨⟨_, _, rfl, ⟨fun _ => hb.1 (by omega), fun _ => rfl⟩, fun _ => by rw [take_all (by omega)]⟩, rfl⟩
end Go.Proofs.YtjomihhpglojpaaGreatDoor
end
