/- Laid together by a program of mine: LiftD SigD RangW Pair. -/
import Derived.Test.YtjomihhpglojpaaDoorSumBOneW21
import Derived.SizedLaws
import Derived.Deep.Slices
import Derived.Test.YtjomihhpglojpaaDoorSumBOneW4
import Derived.Test.YtjomihhpglojpaaDoorSumBOneW3
import Derived.Laws.StructEq
set_option linter.unusedSimpArgs false
set_option linter.unusedVariables false
section
/- Nested arguments: what a slice within an argument reads as, and how great it may be. -/
namespace Go.Proofs.YtjomihhpglojpaaDoor
open Go.ChangeShapes Go.WideShapes Go.ChangeAt Go.RowKit Go.Deep

section
variable {H : Type} {enc : TypeId × Value → H} {P : Program} {w : World}

/-- The cells read as a value of the type, and no list or text in it is beyond the reach. -/
def Rdw (enc : TypeId × Value → H) (P : Program) (w : World) (t : TypeId) (cs : List Value) : Prop := ∃ fuel x, DataW.trod enc P w 0 (fun _ => true) true fuel t cs = some x ∧ ∀ n ∈ x.1.weights P t, n ≤ reachBytes
theorem rdw_of {t : TypeId} {v : Value} {d : DataW H} {ps : List MemPlace} (h : DataW.Trod enc P w 0 (fun _ => true) true t v d ps) (hw : ∀ n ∈ d.weights P t, n ≤ reachBytes) : Rdw enc P w t v.cells.toList := by
  obtain ⟨m, hm⟩ := h
  exact ⟨m, _, hm, hw⟩
theorem Rdw.rds {t : TypeId} {cs : List Value} (h : Rdw enc P w t cs) : Rds enc P w t cs := by
  obtain ⟨m, x, hm, _⟩ := h
  exact ⟨m, x, hm⟩
theorem Rdw.fld {s f off ft : Nat} {cs : List Value} (h : Rdw enc P w s cs) (hF : Fld P s f off ft) : Rdw enc P w ft ((cs.drop off).take (P.cellsOf ft)) := by
  obtain ⟨fuel, x, hx, hw⟩ := h
  obtain ⟨fields, fd, h1, h2, rfl, rfl⟩ := hF
  obtain ⟨xs, n, _, rfl, _, hl, hf⟩ := DataW.trod_struct h1 hx
  have h3 := hf f fd h2
  have hlt : f < xs.length := by
    have := (Array.getElem?_eq_some_iff.1 h2).1
    omega
  rw [List.getElem?_eq_getElem hlt] at h3
  refine ⟨n, _, h3, fun m hm => hw m ?_⟩
  rw [show DataW.weights P s (DataW.agg (xs.map (·.1))) = DataW.weightsEach P (fields.toList.map (·.type)) (xs.map (·.1)) by simp [DataW.weights, h1]]
  exact DataW.weights_mem_each (j := f) (t := fd.type) (d := xs[f].1) (by simp [h2]) (by simp [hlt]) m hm
theorem weightsAll_mem {e : TypeId} {n : Nat} : ∀ {ds : List (DataW H)} {d : DataW H}, d ∈ ds → n ∈ d.weights P e → n ∈ DataW.weightsAll P e ds
  | d0 :: ds, d, hd, hn => by
    simp only [DataW.weightsAll, List.mem_append]
    rcases List.mem_cons.1 hd with rfl | hd
    · exact .inl hn
    · exact .inr (weightsAll_mem hd hn)

/-- A slice that reads, element by element. -/
theorem Rdw.slice {t e : TypeId} {cs : List Value} (h : Rdw enc P w t cs) (ht : P.underlying t = some (.slice e)) (hc : 0 < P.cellsOf e) :
    ∃ ao len cap, cs = [.slice ao len cap] ∧ len ≤ cap ∧ cap ≤ maxLen ∧ cap * P.bytesOf e ≤ reachBytes ∧ (∀ i, i < len → ∃ b o cs', ao = some ⟨b, o, none⟩ ∧ cs'.length = P.cellsOf e ∧ (∀ q, q < P.cellsOf e → w.cell? ⟨b, o + i * P.cellsOf e + q, none⟩ = cs'[q]?) ∧ Rdw enc P w e cs') := by
  obtain ⟨fuel, x, hx, hw⟩ := h
  rcases open_slice ht hx with ⟨rfl, _⟩ | ⟨a, len, cap, m, n, D, Pl, rfl, _, hl, hm, hmm, rfl, hel⟩
  · exact ⟨none, 0, 0, rfl, Nat.le_refl _, Nat.zero_le _, by simp, fun i hi => absurd hi (Nat.not_lt_zero _)⟩
  · have hmm' : m = cap := by simpa using hmm
    subst hmm'
    have hws : DataW.weights P t (DataW.slice ((List.range len).map D) ((List.range (m - len)).map fun j => D (len + j))) = (len + (m - len)) * P.bytesOf e :: (DataW.weightsAll P e ((List.range len).map D) ++ DataW.weightsAll P e ((List.range (m - len)).map fun j => D (len + j))) := by
      simp [DataW.weights, ht]
    refine ⟨some a, len, m, rfl, hl, hm, ?_, fun i hi => ?_⟩
    · have := hw ((len + (m - len)) * P.bytesOf e) (by rw [hws]; simp)
      rwa [show len + (m - len) = m by omega] at this
    have h0 : a.spot = none := by
      obtain ⟨cs', h1, _⟩ := hel 0 (by omega)
      obtain ⟨_, hl', hq⟩ := World.cells?_some h1
      have := hq 0 hc
      have e0 : (a.add (0 * P.cellsOf e)).add 0 = a := by simp [Addr.add]
      rw [e0] at this
      have hlt : 0 < cs'.length := by omega
      rw [List.getElem?_eq_getElem hlt] at this
      have := spotless this
      rw [this]
    obtain ⟨b, o, s⟩ := a
    cases h0
    obtain ⟨cs', h1, h2⟩ := hel i (by omega)
    obtain ⟨_, hl', hq⟩ := World.cells?_some h1
    refine ⟨b, o, cs', rfl, hl', fun q hq' => ?_, n, _, h2, fun z hz => hw z ?_⟩
    · have := hq q hq'
      rw [addr_add, addr_add] at this
      exact this
    · rw [hws]
      simp only [List.mem_cons, List.mem_append]
      exact .inr (.inl (weightsAll_mem (List.mem_map.2 ⟨i, by simpa using hi, rfl⟩) hz))

/-- A slice of texts. -/
theorem Rdw.texts {t e : TypeId} {cs : List Value} (h : Rdw enc P w t cs) (ht : P.underlying t = some (.slice e)) (he : P.underlying e = some .string) (hc : P.cellsOf e = 1) :
    ∃ ao len cap, ∃ ss : List ByteArray, cs = [.slice ao len cap] ∧ ss.length = len ∧ len ≤ cap ∧ cap ≤ maxLen ∧ cap * P.bytesOf e ≤ reachBytes ∧ Rd w ao .string ss ∧ ∀ s ∈ ss, s.size ≤ maxLen := by
  obtain ⟨ao, len, cap, rfl, hl, hm, hby, hel⟩ := h.slice ht (by omega)
  have key : ∀ n, n ≤ len → ∃ ss : List ByteArray, ss.length = n ∧ Rd w ao .string ss ∧ ∀ s ∈ ss, s.size ≤ maxLen := by
    intro n
    induction n with
    | zero => intro _; exact ⟨[], rfl, fun i hi => absurd hi (Nat.not_lt_zero _), by simp⟩
    | succ n ih =>
      intro hn
      obtain ⟨ss, hsl, hrd, hsz⟩ := ih (by omega)
      obtain ⟨b, o, cs', hao, hcl, hq, hr⟩ := hel n (by omega)
      obtain ⟨s, rfl, hs⟩ := hr.rds.string he
      refine ⟨ss ++ [s], by simp [hsl], fun i hi => ?_, fun x hx => ?_⟩
      · by_cases hin : i < n
        · obtain ⟨b', o', e1, e2⟩ := hrd i (by omega)
          refine ⟨b', o', e1, ?_⟩
          rw [List.getElem_append_left (by omega)]
          exact e2
        · have : i = n := by simp at hi; omega
          subst this
          refine ⟨b, o, hao, ?_⟩
          have := hq 0 (by omega)
          rw [hc, Nat.mul_one, Nat.add_zero] at this
          rw [this, List.getElem_append_right (by omega)]
          simp [hsl]
      · rcases List.mem_append.1 hx with hx | hx
        · exact hsz x hx
        · simp at hx; subst hx; exact hs
  obtain ⟨ss, h1, h2, h3⟩ := key len (Nat.le_refl _)
  exact ⟨ao, len, cap, ss, rfl, h1, hl, hm, hby, h2, h3⟩
end
end Go.Proofs.YtjomihhpglojpaaDoor
end
section
/- A signal as it is handed in: all its cells, and its texts. -/
namespace Go.Proofs.YtjomihhpglojpaaDoor
open Go.RowKit
set_option linter.unusedSimpArgs false
set_option linter.unusedVariables false
attribute [local irreducible] wpList wpQuiet wpStill Code.wp Exit.then Exit.inBlock bodyPost Calls Does Does0
open Go.ChangeShapes Go.WideShapes

/-- A signal's fields. -/
structure Sig where
  line : Int
  col : Int
  name : ByteArray
  role : Int
  branch : Int
  start : Int
  size : Int
  mot : Bool
  sgn : Bool
  sn : Int
  sd : Int
  fn : Int
  fd : Int
  mn : Int
  md : Int
  xn : Int
  xd : Int
  unit : ByteArray
  toA : Option Addr
  toN : Nat
  toC : Nat
def Sig.cells (s : Sig) : List Value := [.int .i64 s.line, .int .i64 s.col, .string s.name, .int .i64 s.role, .int .u64 s.branch, .int .i64 s.start, .int .i64 s.size, .bool s.mot, .bool s.sgn, .int .i64 s.sn, .int .i64 s.sd, .int .i64 s.fn, .int .i64 s.fd, .int .i64 s.mn, .int .i64 s.md, .int .i64 s.xn, .int .i64 s.xd, .string s.unit, .slice s.toA s.toN s.toC]
/-- A signal that is there: its texts. -/
structure SigIn (w : World) (s : Sig) (ss : List ByteArray) : Prop where
  len : ss.length = s.toN
  rd : Rd w s.toA .string ss
  cap : s.toN ≤ s.toC
  bytes : s.toN * 16 ≤ 140737488351232
theorem SigIn.below {w w' : World} {s : Sig} {ss : List ByteArray} (h : SigIn w s ss) (hb : Below w.heap.size w w') : SigIn w' s ss := ⟨h.len, h.rd.below hb, h.cap, h.bytes⟩

theorem sz_sig : Tryd.prog.cellsOf 38 = 19 := by kernel_rfl
theorem sz_place : Tryd.prog.cellsOf 23 = 2 := by kernel_rfl
theorem sz_rat : Tryd.prog.cellsOf 35 = 2 := by kernel_rfl
theorem sz_int : Tryd.prog.cellsOf 3 = 1 := by kernel_rfl
theorem sz_i64 : Tryd.prog.cellsOf 2 = 1 := by kernel_rfl
theorem sz_u64 : Tryd.prog.cellsOf 33 = 1 := by kernel_rfl
theorem sz_bool : Tryd.prog.cellsOf 4 = 1 := by kernel_rfl
theorem sz_string : Tryd.prog.cellsOf 9 = 1 := by kernel_rfl
theorem sz_texts : Tryd.prog.cellsOf 36 = 1 := by kernel_rfl
theorem by_string : Tryd.prog.bytesOf 9 = 16 := by kernel_rfl

theorem sig_of {H : Type} {enc : TypeId × Value → H} {w : World} {cs : List Value} (h : Rdw enc Tryd.prog w 38 cs) : ∃ s ss, cs = Sig.cells s ∧ SigIn w s ss := by
  have hl := h.rds.len (fld _ 0 _ _ rfl)
  rw [sz_sig] at hl
  obtain ⟨a0, a1, a2, a3, a4, a5, a6, a7, a8, a9, a10, a11, a12, a13, a14, a15, a16, a17, a18, rfl⟩ : ∃ a0 a1 a2 a3 a4 a5 a6 a7 a8 a9 a10 a11 a12 a13 a14 a15 a16 a17 a18, cs = [a0, a1, a2, a3, a4, a5, a6, a7, a8, a9, a10, a11, a12, a13, a14, a15, a16, a17, a18] := by
    rcases cs with _ | ⟨a0, _ | ⟨a1, _ | ⟨a2, _ | ⟨a3, _ | ⟨a4, _ | ⟨a5, _ | ⟨a6, _ | ⟨a7, _ | ⟨a8, _ | ⟨a9, _ | ⟨a10, _ | ⟨a11, _ | ⟨a12, _ | ⟨a13, _ | ⟨a14, _ | ⟨a15, _ | ⟨a16, _ | ⟨a17, _ | ⟨a18, _ | ⟨a19, r⟩⟩⟩⟩⟩⟩⟩⟩⟩⟩⟩⟩⟩⟩⟩⟩⟩⟩⟩⟩ <;> simp at hl
    exact ⟨_, _, _, _, _, _, _, _, _, _, _, _, _, _, _, _, _, _, _, rfl⟩
  have two : ∀ {t f0 t0 f1 t1 : Nat} {x y : Value}, Rdw enc Tryd.prog w t [x, y] → Fld Tryd.prog t f0 0 t0 → Fld Tryd.prog t f1 1 t1 → Tryd.prog.cellsOf t0 = 1 → Tryd.prog.cellsOf t1 = 1 → Rdw enc Tryd.prog w t0 [x] ∧ Rdw enc Tryd.prog w t1 [y] := by
    intro t f0 t0 f1 t1 x y h g0 g1 c0 c1
    have r0 := h.fld g0
    have r1 := h.fld g1
    rw [c0] at r0
    rw [c1] at r1
    exact ⟨r0, r1⟩
  have k0 := h.fld (fld _ 0 _ _ rfl); rw [sz_place] at k0
  have k1 := h.fld (fld _ 1 _ _ rfl); rw [sz_string] at k1
  have k2 := h.fld (fld _ 2 _ _ rfl); rw [sz_int] at k2
  have k3 := h.fld (fld _ 3 _ _ rfl); rw [sz_u64] at k3
  have k4 := h.fld (fld _ 4 _ _ rfl); rw [sz_int] at k4
  have k5 := h.fld (fld _ 5 _ _ rfl); rw [sz_int] at k5
  have k6 := h.fld (fld _ 6 _ _ rfl); rw [sz_bool] at k6
  have k7 := h.fld (fld _ 7 _ _ rfl); rw [sz_bool] at k7
  have k8 := h.fld (fld _ 8 _ _ rfl); rw [sz_rat] at k8
  have k9 := h.fld (fld _ 9 _ _ rfl); rw [sz_rat] at k9
  have k10 := h.fld (fld _ 10 _ _ rfl); rw [sz_rat] at k10
  have k11 := h.fld (fld _ 11 _ _ rfl); rw [sz_rat] at k11
  have k12 := h.fld (fld _ 12 _ _ rfl); rw [sz_string] at k12
  have k13 := h.fld (fld _ 13 _ _ rfl); rw [sz_texts] at k13
  obtain ⟨p0, p1⟩ := two k0 (fld _ 0 _ _ rfl) (fld _ 1 _ _ rfl) sz_int sz_int
  obtain ⟨q0, q1⟩ := two k8 (fld _ 0 _ _ rfl) (fld _ 1 _ _ rfl) sz_i64 sz_i64
  obtain ⟨q2, q3⟩ := two k9 (fld _ 0 _ _ rfl) (fld _ 1 _ _ rfl) sz_i64 sz_i64
  obtain ⟨q4, q5⟩ := two k10 (fld _ 0 _ _ rfl) (fld _ 1 _ _ rfl) sz_i64 sz_i64
  obtain ⟨q6, q7⟩ := two k11 (fld _ 0 _ _ rfl) (fld _ 1 _ _ rfl) sz_i64 sz_i64
  obtain ⟨i0, e0, _⟩ := p0.rds.int (und _ _ rfl)
  obtain ⟨i1, e1, _⟩ := p1.rds.int (und _ _ rfl)
  obtain ⟨i2, e2, _⟩ := Rds.string k1.rds (und _ _ rfl)
  obtain ⟨i3, e3, _⟩ := Rds.int k2.rds (und _ _ rfl)
  obtain ⟨i4, e4, _⟩ := Rds.int k3.rds (und _ _ rfl)
  obtain ⟨i5, e5, _⟩ := Rds.int k4.rds (und _ _ rfl)
  obtain ⟨i6, e6, _⟩ := Rds.int k5.rds (und _ _ rfl)
  obtain ⟨i7, e7⟩ := Rds.bool k6.rds (und _ _ rfl)
  obtain ⟨i8, e8⟩ := Rds.bool k7.rds (und _ _ rfl)
  obtain ⟨i9, e9, _⟩ := q0.rds.int (und _ _ rfl)
  obtain ⟨i10, e10, _⟩ := q1.rds.int (und _ _ rfl)
  obtain ⟨i11, e11, _⟩ := q2.rds.int (und _ _ rfl)
  obtain ⟨i12, e12, _⟩ := q3.rds.int (und _ _ rfl)
  obtain ⟨i13, e13, _⟩ := q4.rds.int (und _ _ rfl)
  obtain ⟨i14, e14, _⟩ := q5.rds.int (und _ _ rfl)
  obtain ⟨i15, e15, _⟩ := q6.rds.int (und _ _ rfl)
  obtain ⟨i16, e16, _⟩ := q7.rds.int (und _ _ rfl)
  obtain ⟨i17, e17, _⟩ := Rds.string k12.rds (und _ _ rfl)
  obtain ⟨ao, len, cap, ss, e18, hsl, hle, hm, hby, hrd, _⟩ := Rdw.texts k13 (und _ _ rfl) (und _ _ rfl) sz_string
  simp only [List.drop_succ_cons, List.drop_zero, List.take_succ_cons, List.take_zero, List.cons.injEq, and_true] at e2 e3 e4 e5 e6 e7 e8 e17 e18
  cases e0; cases e1; subst e2; subst e3; subst e4; subst e5; subst e6; subst e7; subst e8; cases e9; cases e10; cases e11; cases e12; cases e13; cases e14; cases e15; cases e16; subst e17; subst e18
  rw [by_string] at hby
  exact ⟨⟨i0, i1, i2, i3, i4, i5, i6, i7, i8, i9, i10, i11, i12, i13, i14, i15, i16, i17, ao, len, cap⟩, ss, rfl, hsl, hrd, hle, Nat.le_trans (Nat.mul_le_mul_right _ hle) hby⟩
end Go.Proofs.YtjomihhpglojpaaDoor
end
section
/- check.ranged, walked; what is wrong with a signal's fractions. -/
namespace Go.Proofs.YtjomihhpglojpaaDoor
open Go.RowKit
section
variable {P : Program} {w : World} {l : List (Nat × Value)}
/-- An element of an array of structs that is no variable. -/
theorem d_indexAG {x i : Operand} {cs : Array Value} {n sz : Nat} {k : IntKind} {j : Nat} {q : Int} {t e ty : TypeId} (hU : P.underlying t = some (.array n e)) (hE : (P.underlying e).map aggB = some true) (hs : (P.info? e).map (·.size) = some sz)
    (hx : Ev l x (.agg cs) := by exact rfl) (hi : Ev l i (.int k q) := by exact rfl) (hq : q = (j : Int) := by exact rfl) (hj : j < n := by omega) :
    Does P l w (.index t x i) ty (.agg (cs.extract (j * sz) (j * sz + sz))) w := by
  intro ρ hρ d pos af g
  subst hq
  obtain ⟨ti, h1, h2⟩ := Option.map_eq_some_iff.1 hs
  obtain ⟨dd, h3, h4⟩ := Option.map_eq_some_iff.1 hE
  cases dd <;> simp [aggB] at h4 <;> simp [execOp, Instr.index, asIntOf, hρ _ _ hx, hρ _ _ hi, run_underlying hU, sizeOf, typeInfo, h1, h2, hj, part, isAgg, run_underlying h3]
end
open Go.RowKit
set_option linter.unusedSimpArgs false
set_option linter.unusedVariables false
attribute [local irreducible] wpList wpQuiet wpStill Code.wp Exit.then Exit.inBlock bodyPost Calls Does Does0
/-- What stays within its kind. -/
structure SigB (s : Sig) : Prop where
  sn : -9223372036854775808 ≤ s.sn ∧ s.sn ≤ 9223372036854775807
  sd : -9223372036854775808 ≤ s.sd ∧ s.sd ≤ 9223372036854775807
  fn : -9223372036854775808 ≤ s.fn ∧ s.fn ≤ 9223372036854775807
  fd : -9223372036854775808 ≤ s.fd ∧ s.fd ≤ 9223372036854775807
  mn : -9223372036854775808 ≤ s.mn ∧ s.mn ≤ 9223372036854775807
  md : -9223372036854775808 ≤ s.md ∧ s.md ≤ 9223372036854775807
  xn : -9223372036854775808 ≤ s.xn ∧ s.xn ≤ 9223372036854775807
  xd : -9223372036854775808 ≤ s.xd ∧ s.xd ≤ 9223372036854775807
  br : 0 ≤ s.branch ∧ s.branch < 18446744073709551616
theorem wf_i64' {x : Int} (h : (Lit.int .i64 x).wf = true) : -9223372036854775808 ≤ x ∧ x ≤ 9223372036854775807 := by
  have h1 : IntKind.i64.min ≤ x ∧ x ≤ IntKind.i64.max := by simpa [Lit.wf] using h
  rwa [show IntKind.i64.min = -9223372036854775808 by decide, show IntKind.i64.max = 9223372036854775807 by decide] at h1
theorem wf_u64' {x : Int} (h : (Lit.int .u64 x).wf = true) : 0 ≤ x ∧ x < 18446744073709551616 := by
  have h1 : IntKind.u64.min ≤ x ∧ x ≤ IntKind.u64.max := by simpa [Lit.wf] using h
  rw [show IntKind.u64.min = 0 by decide, show IntKind.u64.max = 18446744073709551615 by decide] at h1
  exact ⟨h1.1, by omega⟩
open Go.ChangeShapes Go.WideShapes in
theorem sig_bnd {H : Type} {enc : TypeId × Value → H} {w : World} {s : Sig} (h : Rdw enc Tryd.prog w 38 (Sig.cells s)) : SigB s := by
  have g := h.rds
  have r8 := g.fld (fld _ 8 _ _ rfl); rw [sz_rat] at r8
  have r9 := g.fld (fld _ 9 _ _ rfl); rw [sz_rat] at r9
  have r10 := g.fld (fld _ 10 _ _ rfl); rw [sz_rat] at r10
  have r11 := g.fld (fld _ 11 _ _ rfl); rw [sz_rat] at r11
  obtain ⟨_, e1, k1⟩ := r8.intAt (fld _ 0 _ _ rfl) (und _ _ rfl) sz_i64
  obtain ⟨_, e2, k2⟩ := r8.intAt (fld _ 1 _ _ rfl) (und _ _ rfl) sz_i64
  obtain ⟨_, e3, k3⟩ := r9.intAt (fld _ 0 _ _ rfl) (und _ _ rfl) sz_i64
  obtain ⟨_, e4, k4⟩ := r9.intAt (fld _ 1 _ _ rfl) (und _ _ rfl) sz_i64
  obtain ⟨_, e5, k5⟩ := r10.intAt (fld _ 0 _ _ rfl) (und _ _ rfl) sz_i64
  obtain ⟨_, e6, k6⟩ := r10.intAt (fld _ 1 _ _ rfl) (und _ _ rfl) sz_i64
  obtain ⟨_, e7, k7⟩ := r11.intAt (fld _ 0 _ _ rfl) (und _ _ rfl) sz_i64
  obtain ⟨_, e8, k8⟩ := r11.intAt (fld _ 1 _ _ rfl) (und _ _ rfl) sz_i64
  obtain ⟨_, e9, k9⟩ := g.intAt (fld _ 3 _ _ rfl) (und _ _ rfl) sz_u64
  cases e1; cases e2; cases e3; cases e4; cases e5; cases e6; cases e7; cases e8; cases e9
  exact ⟨wf_i64' k1, wf_i64' k2, wf_i64' k3, wf_i64' k4, wf_i64' k5, wf_i64' k6, wf_i64' k7, wf_i64' k8, wf_u64' k9⟩
instance (a b c d : Int) : Decidable (aboveP a b c d) := by unfold aboveP; infer_instance
/-- What is wrong with a signal's fractions: 1, 10, 18, or 0. -/
def rangedE (s : Sig) : Int :=
  if rightB s.sn s.sd = false then 1 else if rightB s.fn s.fd = false then 1 else if rightB s.mn s.md = false then 1 else if rightB s.xn s.xd = false then 1
  else if s.sn = 0 then 10 else if aboveP s.mn s.md s.xn s.xd then 18 else 0
def rats (s : Sig) : Array Value := #[.int .i64 s.sn, .int .i64 s.sd, .int .i64 s.fn, .int .i64 s.fd, .int .i64 s.mn, .int .i64 s.md, .int .i64 s.xn, .int .i64 s.xd]
def ratN (s : Sig) : Nat → Int
  | 0 => s.sn | 1 => s.fn | 2 => s.mn | _ => s.xn
def ratD (s : Sig) : Nat → Int
  | 0 => s.sd | 1 => s.fd | 2 => s.md | _ => s.xd
theorem rats_at (s : Sig) {j : Nat} (h : j < 4) : (rats s).extract (j * 2) (j * 2 + 2) = #[.int .i64 (ratN s j), .int .i64 (ratD s j)] := by
  have : j = 0 ∨ j = 1 ∨ j = 2 ∨ j = 3 := by omega
  rcases this with rfl | rfl | rfl | rfl <;> rfl
theorem ratB (s : Sig) (hB : SigB s) {j : Nat} (h : j < 4) : (-9223372036854775808 ≤ ratN s j ∧ ratN s j ≤ 9223372036854775807) ∧ (-9223372036854775808 ≤ ratD s j ∧ ratD s j ≤ 9223372036854775807) := by
  have : j = 0 ∨ j = 1 ∨ j = 2 ∨ j = 3 := by omega
  rcases this with rfl | rfl | rfl | rfl
  · exact ⟨hB.sn, hB.sd⟩
  · exact ⟨hB.fn, hB.fd⟩
  · exact ⟨hB.mn, hB.md⟩
  · exact ⟨hB.xn, hB.xd⟩
theorem ranged_bad {s : Sig} {j : Nat} (h : j < 4) (hr : rightB (ratN s j) (ratD s j) = false) : rangedE s = 1 := by
  unfold rangedE
  have : j = 0 ∨ j = 1 ∨ j = 2 ∨ j = 3 := by omega
  rcases this with rfl | rfl | rfl | rfl
  · exact if_pos hr
  · split
    · rfl
    · exact if_pos hr
  · split
    · rfl
    · split
      · rfl
      · exact if_pos hr
  · split
    · rfl
    · split
      · rfl
      · split
        · rfl
        · exact if_pos hr
theorem ranged_ok' {s : Sig} (h : ∀ j, j < 4 → rightB (ratN s j) (ratD s j) = true) : rangedE s = if s.sn = 0 then 10 else if aboveP s.mn s.md s.xn s.xd then 18 else 0 := by
  have h0 : rightB s.sn s.sd = true := h 0 (by decide)
  have h1 : rightB s.fn s.fd = true := h 1 (by decide)
  have h2 : rightB s.mn s.md = true := h 2 (by decide)
  have h3 : rightB s.xn s.xd = true := h 3 (by decide)
  unfold rangedE
  rw [h0, h1, h2, h3]
  simp
theorem ranged_bnd (s : Sig) : 0 ≤ rangedE s ∧ rangedE s ≤ 26 := by
  unfold rangedE
  repeat' split
  all_goals omega
theorem sigc19 (s : Sig) : (Sig.cells s).toArray.size = 19 := rfl
set_option maxHeartbeats 8000000 in
theorem ranged_ok (w : World) (s : Sig) (hB : SigB s) : Ret Tryd.prog 61 [.agg (Sig.cells s).toArray].toArray w (fun v w' => v = .int .i64 (rangedE s) ∧ Below w.heap.size w w') := by
  refine enter1 Tryd.func61 rfl 40 rfl 41 rfl (fun a hF => ?_)
  repeat (first | refine c_seq ?_ | refine c_block ?_ | refine c_region _ ?_ | refine wpList_nil ?_ | refine c_then ?_ | refine c_then_exit ?_ | refine c_then_ret ?_ | refine c_in ?_ | refine c_in_ret ?_ | refine c_in_hit ?_ | refine wp_skip ?_ | refine wp_exit ?_ | refine wp_ret ?_ | refine c_in_miss rfl ?_ | ((first | apply st hF | apply stg hF | apply s_step hF | apply s_stg hF); (first | exact d_move | exact d_assign | exact d_not | exact d_pickT | exact d_pickF | exact d_add | exact d_cmpT | exact d_cmpF | exact d_cmp | exact d_eqbT (und _ _ rfl) | exact d_eqbF (und _ _ rfl) | exact d_eqb (und _ _ rfl) | exact d_eqST | exact d_eqSF | exact d_eqS | exact d_fieldAddr (fld _ _ _ _ rfl) (isz _ _ rfl) | exact d_eqN (ifc _ rfl) | exact d_neN (ifc _ rfl) | exact d_extract); clear hF; clear a; intro a hF) | ((first | apply stm hF | apply stu hF); clear hF; clear a; intro a hF) | (apply c_cond_t hF; exact rfl; first | exact rfl | assumption) | (apply c_cond_f hF; exact rfl; first | exact rfl | assumption) | refine s_nil ?_)
  refine st_box hF (cs := (Sig.cells s).toArray) rfl (k := fun a w1 hg1 hgr1 hsz1 hF => ?_)
  have hb1 : Below w.heap.size w w1 := (Below.refl _ w).grown hgr1 (Nat.le_refl _) (fun k hk => by cases hk)
  have pr : ∀ (wq : World) (o : Nat) (x y : Value), wq.heap[w.heap.size]? = some (.cells (Sig.cells s).toArray 38 (0, 0)) → (Sig.cells s)[o]? = some x → (Sig.cells s)[o + 1]? = some y → ∀ j v, (#[x, y] : Array Value)[j]? = some v → wq.cell? ⟨w.heap.size, 0 + o + j, none⟩ = some v := by
    intro wq o x y hg h0 h1 j v hj
    rcases j with _ | _ | j
    · simp at hj; subst hj; rw [Nat.add_zero, Nat.zero_add]; exact cell_at hg (by simpa using h0)
    · simp at hj; subst hj; rw [Nat.zero_add]; exact cell_at hg (by simpa using h1)
    · simp at hj
  repeat (first | refine c_seq ?_ | refine c_block ?_ | refine c_region _ ?_ | refine wpList_nil ?_ | refine c_then ?_ | refine c_then_exit ?_ | refine c_then_ret ?_ | refine c_in ?_ | refine c_in_ret ?_ | refine c_in_hit ?_ | refine wp_skip ?_ | refine wp_exit ?_ | refine wp_ret ?_ | refine c_in_miss rfl ?_ | ((first | apply st hF | apply stg hF | apply s_step hF | apply s_stg hF); (first | exact d_move | exact d_assign | exact d_not | exact d_pickT | exact d_pickF | exact d_add | exact d_cmpT | exact d_cmpF | exact d_cmp | exact d_eqbT (und _ _ rfl) | exact d_eqbF (und _ _ rfl) | exact d_eqb (und _ _ rfl) | exact d_eqST | exact d_eqSF | exact d_eqS | exact d_fieldAddr (fld _ _ _ _ rfl) (isz _ _ rfl) | exact d_eqN (ifc _ rfl) | exact d_neN (ifc _ rfl) | exact d_extract | exact d_loadAgg (agg _ rfl) (isz _ _ rfl) rfl (pr w1 9 (.int .i64 s.sn) (.int .i64 s.sd) hg1 rfl rfl) | exact d_loadAgg (agg _ rfl) (isz _ _ rfl) rfl (pr w1 11 (.int .i64 s.fn) (.int .i64 s.fd) hg1 rfl rfl) | exact d_loadAgg (agg _ rfl) (isz _ _ rfl) rfl (pr w1 13 (.int .i64 s.mn) (.int .i64 s.md) hg1 rfl rfl) | exact d_loadAgg (agg _ rfl) (isz _ _ rfl) rfl (pr w1 15 (.int .i64 s.xn) (.int .i64 s.xd) hg1 rfl rfl) | exact d_build (vs := [(0, .agg #[.int .i64 s.sn, .int .i64 s.sd]), (1, .agg #[.int .i64 s.fn, .int .i64 s.fd]), (2, .agg #[.int .i64 s.mn, .int .i64 s.md]), (3, .agg #[.int .i64 s.xn, .int .i64 s.xd])]) (cells := rats s) (by kernel_rfl) ⟨rfl, rfl, rfl, rfl, rfl, rfl, rfl, rfl, trivial⟩); clear hF; clear a; intro a hF) | ((first | apply stm hF | apply stu hF); clear hF; clear a; intro a hF) | (apply c_cond_t hF; exact rfl; first | exact rfl | assumption) | (apply c_cond_f hF; exact rfl; first | exact rfl | assumption) | refine s_nil ?_)
  refine c_loop (fun q a wr => ∃ k : Nat, k ≤ 4 ∧ q = 4 - k ∧ (∀ j, j < k → rightB (ratN s j) (ratD s j) = true) ∧ Fr 41 [(1, .pointer (some ⟨w.heap.size, 0, none⟩)), (15, .agg (rats s)), (16, .int .i64 (k : Int))] a ∧ wr.heap[w.heap.size]? = some (.cells (Sig.cells s).toArray 38 (0, 0)) ∧ Below w.heap.size w wr) 4
    ⟨0, by decide, rfl, fun j h => absurd h (Nat.not_lt_zero _), hF.keep' ⟨rfl, rfl, rfl, trivial⟩, hg1, hb1⟩ ?_
  clear hF a hg1 hb1
  rintro q a wr ⟨k, hk, rfl, hpre, hF, hg1, hbel⟩
  have hsz := hbel.size
  have hlt1 := lt_at hg1
  by_cases hlt : k < 4
  · obtain ⟨bn, bd⟩ := ratB s hB hlt
    repeat (first | refine c_seq ?_ | refine c_block ?_ | refine c_region _ ?_ | refine wpList_nil ?_ | refine c_then ?_ | refine c_then_exit ?_ | refine c_then_ret ?_ | refine c_in ?_ | refine c_in_ret ?_ | refine c_in_hit ?_ | refine wp_skip ?_ | refine wp_exit ?_ | refine wp_ret ?_ | refine c_in_miss rfl ?_ | ((first | apply st hF | apply stg hF | apply s_step hF | apply s_stg hF); (first | exact d_move | exact d_assign | exact d_not | exact d_pickT | exact d_pickF | exact d_add | exact d_cmpT | exact d_cmpF | exact d_cmp | exact d_eqbT (und _ _ rfl) | exact d_eqbF (und _ _ rfl) | exact d_eqb (und _ _ rfl) | exact d_eqST | exact d_eqSF | exact d_eqS | exact d_fieldAddr (fld _ _ _ _ rfl) (isz _ _ rfl) | exact d_eqN (ifc _ rfl) | exact d_neN (ifc _ rfl) | exact d_extract | exact d_indexAG (und _ _ rfl) (agg _ rfl) (isz _ _ rfl) (j := k)); clear hF; clear a; intro a hF) | ((first | apply stm hF | apply stu hF); clear hF; clear a; intro a hF) | (apply c_cond_t hF; exact rfl; first | exact rfl | assumption) | (apply c_cond_f hF; exact rfl; first | exact rfl | assumption) | refine s_nil ?_)
    rw [rats_at s hlt] at hF
    refine st_alloc hF inf35 (k := fun a w2 hr2 hgr2 hsz2 hF => ?_)
    refine st_storeAgg hF (cs := #[.int .i64 (ratN s k), .int .i64 (ratD s k)]) (isz _ _ rfl) rfl rfl hr2 (by simp [Value.oneCell']) (k := fun a w3 hr3 hgr3 hsz3 hF => ?_)
    repeat (first | refine c_seq ?_ | refine c_block ?_ | refine c_region _ ?_ | refine wpList_nil ?_ | refine c_then ?_ | refine c_then_exit ?_ | refine c_then_ret ?_ | refine c_in ?_ | refine c_in_ret ?_ | refine c_in_hit ?_ | refine wp_skip ?_ | refine wp_exit ?_ | refine wp_ret ?_ | refine c_in_miss rfl ?_ | ((first | apply st hF | apply stg hF | apply s_step hF | apply s_stg hF); (first | exact d_move | exact d_assign | exact d_not | exact d_pickT | exact d_pickF | exact d_add | exact d_cmpT | exact d_cmpF | exact d_cmp | exact d_eqbT (und _ _ rfl) | exact d_eqbF (und _ _ rfl) | exact d_eqb (und _ _ rfl) | exact d_eqST | exact d_eqSF | exact d_eqS | exact d_fieldAddr (fld _ _ _ _ rfl) (isz _ _ rfl) | exact d_eqN (ifc _ rfl) | exact d_neN (ifc _ rfl) | exact d_extract | exact d_loadAgg (agg _ rfl) (isz _ _ rfl) rfl (cells_at hr3)); clear hF; clear a; intro a hF) | ((first | apply stm hF | apply stu hF); clear hF; clear a; intro a hF) | (apply c_cond_t hF; exact rfl; first | exact rfl | assumption) | (apply c_cond_f hF; exact rfl; first | exact rfl | assumption) | refine s_nil ?_)
    refine stc hF (right_ok w3 _ _ bn bd) cal85 ⟨rfl, trivial⟩ (k := fun a v w4 hR hF => ?_)
    obtain ⟨rfl, hb4⟩ := hR
    have hB4 : Below w.heap.size w w4 := ((hbel.grown hgr2 hsz (fun q e => by cases e)).grown hgr3 (by omega) (fun q e => by cases e; omega)).trans (hb4.mono (by omega))
    have hg4 := (hb4.block _ (by omega)).trans (blk_kept (blk_kept hg1 hgr2 (by simp)) hgr3 (by simp; omega))
    cases hr : rightB (ratN s k) (ratD s k) with
    | true =>
      rw [hr] at hF
      repeat (first | refine c_seq ?_ | refine c_block ?_ | refine c_region _ ?_ | refine wpList_nil ?_ | refine c_then ?_ | refine c_then_exit ?_ | refine c_then_ret ?_ | refine c_in ?_ | refine c_in_ret ?_ | refine c_in_hit ?_ | refine wp_skip ?_ | refine wp_exit ?_ | refine wp_ret ?_ | refine c_in_miss rfl ?_ | ((first | apply st hF | apply stg hF | apply s_step hF | apply s_stg hF); (first | exact d_move | exact d_assign | exact d_not | exact d_pickT | exact d_pickF | exact d_add | exact d_cmpT | exact d_cmpF | exact d_cmp | exact d_eqbT (und _ _ rfl) | exact d_eqbF (und _ _ rfl) | exact d_eqb (und _ _ rfl) | exact d_eqST | exact d_eqSF | exact d_eqS | exact d_fieldAddr (fld _ _ _ _ rfl) (isz _ _ rfl) | exact d_eqN (ifc _ rfl) | exact d_neN (ifc _ rfl) | exact d_extract); clear hF; clear a; intro a hF) | ((first | apply stm hF | apply stu hF); clear hF; clear a; intro a hF) | (apply c_cond_t hF; exact rfl; first | exact rfl | assumption) | (apply c_cond_f hF; exact rfl; first | exact rfl | assumption) | refine s_nil ?_)
      exact ⟨4 - (k + 1), by omega, k + 1, by omega, rfl, fun j h => by
        by_cases e : j = k
        · subst e; exact hr
        · exact hpre j (by omega), hF.keep' ⟨rfl, rfl, rfl, trivial⟩, hg4, hB4⟩
    | false =>
      rw [hr] at hF
      repeat (first | refine c_seq ?_ | refine c_block ?_ | refine c_region _ ?_ | refine wpList_nil ?_ | refine c_then ?_ | refine c_then_exit ?_ | refine c_then_ret ?_ | refine c_in ?_ | refine c_in_ret ?_ | refine c_in_hit ?_ | refine wp_skip ?_ | refine wp_exit ?_ | refine wp_ret ?_ | refine c_in_miss rfl ?_ | ((first | apply st hF | apply stg hF | apply s_step hF | apply s_stg hF); (first | exact d_move | exact d_assign | exact d_not | exact d_pickT | exact d_pickF | exact d_add | exact d_cmpT | exact d_cmpF | exact d_cmp | exact d_eqbT (und _ _ rfl) | exact d_eqbF (und _ _ rfl) | exact d_eqb (und _ _ rfl) | exact d_eqST | exact d_eqSF | exact d_eqS | exact d_fieldAddr (fld _ _ _ _ rfl) (isz _ _ rfl) | exact d_eqN (ifc _ rfl) | exact d_neN (ifc _ rfl) | exact d_extract); clear hF; clear a; intro a hF) | ((first | apply stm hF | apply stu hF); clear hF; clear a; intro a hF) | (apply c_cond_t hF; exact rfl; first | exact rfl | assumption) | (apply c_cond_f hF; exact rfl; first | exact rfl | assumption) | refine s_nil ?_)
      exact ret1 hF rfl rfl ⟨by rw [ranged_bad hlt hr], hB4⟩
  · obtain rfl : k = 4 := by omega
    have hre := ranged_ok' hpre
    have c9 : wr.cell? ⟨w.heap.size, 0 + 9 + 0, none⟩ = some (.int .i64 s.sn) := cell_at hg1 rfl
    by_cases h0 : s.sn = 0
    · rw [if_pos h0] at hre
      repeat (first | refine c_seq ?_ | refine c_block ?_ | refine c_region _ ?_ | refine wpList_nil ?_ | refine c_then ?_ | refine c_then_exit ?_ | refine c_then_ret ?_ | refine c_in ?_ | refine c_in_ret ?_ | refine c_in_hit ?_ | refine wp_skip ?_ | refine wp_exit ?_ | refine wp_ret ?_ | refine c_in_miss rfl ?_ | ((first | apply st hF | apply stg hF | apply s_step hF | apply s_stg hF); (first | exact d_move | exact d_assign | exact d_not | exact d_pickT | exact d_pickF | exact d_add | exact d_cmpT | exact d_cmpF | exact d_cmp | exact d_eqbT (und _ _ rfl) | exact d_eqbF (und _ _ rfl) | exact d_eqb (und _ _ rfl) | exact d_eqST | exact d_eqSF | exact d_eqS | exact d_fieldAddr (fld _ _ _ _ rfl) (isz _ _ rfl) | exact d_eqN (ifc _ rfl) | exact d_neN (ifc _ rfl) | exact d_extract | exact d_load (und _ _ rfl) c9); clear hF; clear a; intro a hF) | ((first | apply stm hF | apply stu hF); clear hF; clear a; intro a hF) | (apply c_cond_t hF; exact rfl; first | exact rfl | assumption) | (apply c_cond_f hF; exact rfl; first | exact rfl | assumption) | refine s_nil ?_)
      exact ret1 hF rfl rfl ⟨by rw [hre], hbel⟩
    · rw [if_neg h0] at hre
      repeat (first | refine c_seq ?_ | refine c_block ?_ | refine c_region _ ?_ | refine wpList_nil ?_ | refine c_then ?_ | refine c_then_exit ?_ | refine c_then_ret ?_ | refine c_in ?_ | refine c_in_ret ?_ | refine c_in_hit ?_ | refine wp_skip ?_ | refine wp_exit ?_ | refine wp_ret ?_ | refine c_in_miss rfl ?_ | ((first | apply st hF | apply stg hF | apply s_step hF | apply s_stg hF); (first | exact d_move | exact d_assign | exact d_not | exact d_pickT | exact d_pickF | exact d_add | exact d_cmpT | exact d_cmpF | exact d_cmp | exact d_eqbT (und _ _ rfl) | exact d_eqbF (und _ _ rfl) | exact d_eqb (und _ _ rfl) | exact d_eqST | exact d_eqSF | exact d_eqS | exact d_fieldAddr (fld _ _ _ _ rfl) (isz _ _ rfl) | exact d_eqN (ifc _ rfl) | exact d_neN (ifc _ rfl) | exact d_extract | exact d_loadAgg (agg _ rfl) (isz _ _ rfl) rfl (pr wr 13 (.int .i64 s.mn) (.int .i64 s.md) hg1 rfl rfl) | exact d_loadAgg (agg _ rfl) (isz _ _ rfl) rfl (pr wr 15 (.int .i64 s.xn) (.int .i64 s.xd) hg1 rfl rfl) | exact d_load (und _ _ rfl) c9); clear hF; clear a; intro a hF) | ((first | apply stm hF | apply stu hF); clear hF; clear a; intro a hF) | (apply c_cond_t hF; exact rfl; first | exact rfl | assumption) | (apply c_cond_f hF; exact rfl; first | exact rfl | assumption) | refine s_nil ?_)
      refine stc hF (rcmp_ok wr _ _ _ _ hB.mn hB.md hB.xn hB.xd (hpre 2 (by decide)) (hpre 3 (by decide))) cal86 ⟨rfl, rfl, trivial⟩ (k := fun a v w4 hR hF => ?_)
      obtain ⟨⟨z, rfl, hz⟩, hb4⟩ := hR
      have hB4 : Below w.heap.size w w4 := hbel.trans (hb4.mono hsz)
      by_cases ha : 0 < z
      · rw [if_pos (hz.1 ha)] at hre
        repeat (first | refine c_seq ?_ | refine c_block ?_ | refine c_region _ ?_ | refine wpList_nil ?_ | refine c_then ?_ | refine c_then_exit ?_ | refine c_then_ret ?_ | refine c_in ?_ | refine c_in_ret ?_ | refine c_in_hit ?_ | refine wp_skip ?_ | refine wp_exit ?_ | refine wp_ret ?_ | refine c_in_miss rfl ?_ | ((first | apply st hF | apply stg hF | apply s_step hF | apply s_stg hF); (first | exact d_move | exact d_assign | exact d_not | exact d_pickT | exact d_pickF | exact d_add | exact d_cmpT | exact d_cmpF | exact d_cmp | exact d_eqbT (und _ _ rfl) | exact d_eqbF (und _ _ rfl) | exact d_eqb (und _ _ rfl) | exact d_eqST | exact d_eqSF | exact d_eqS | exact d_fieldAddr (fld _ _ _ _ rfl) (isz _ _ rfl) | exact d_eqN (ifc _ rfl) | exact d_neN (ifc _ rfl) | exact d_extract); clear hF; clear a; intro a hF) | ((first | apply stm hF | apply stu hF); clear hF; clear a; intro a hF) | (apply c_cond_t hF; exact rfl; first | exact rfl | assumption) | (apply c_cond_f hF; exact rfl; first | exact rfl | assumption) | refine s_nil ?_)
        exact ret1 hF rfl rfl ⟨by rw [hre], hB4⟩
      · rw [if_neg (fun h => ha (hz.2 h))] at hre
        repeat (first | refine c_seq ?_ | refine c_block ?_ | refine c_region _ ?_ | refine wpList_nil ?_ | refine c_then ?_ | refine c_then_exit ?_ | refine c_then_ret ?_ | refine c_in ?_ | refine c_in_ret ?_ | refine c_in_hit ?_ | refine wp_skip ?_ | refine wp_exit ?_ | refine wp_ret ?_ | refine c_in_miss rfl ?_ | ((first | apply st hF | apply stg hF | apply s_step hF | apply s_stg hF); (first | exact d_move | exact d_assign | exact d_not | exact d_pickT | exact d_pickF | exact d_add | exact d_cmpT | exact d_cmpF | exact d_cmp | exact d_eqbT (und _ _ rfl) | exact d_eqbF (und _ _ rfl) | exact d_eqb (und _ _ rfl) | exact d_eqST | exact d_eqSF | exact d_eqS | exact d_fieldAddr (fld _ _ _ _ rfl) (isz _ _ rfl) | exact d_eqN (ifc _ rfl) | exact d_neN (ifc _ rfl) | exact d_extract); clear hF; clear a; intro a hF) | ((first | apply stm hF | apply stu hF); clear hF; clear a; intro a hF) | (apply c_cond_t hF; exact rfl; first | exact rfl | assumption) | (apply c_cond_f hF; exact rfl; first | exact rfl | assumption) | refine s_nil ?_)
        exact ret1 hF rfl rfl ⟨by rw [hre], hB4⟩
end Go.Proofs.YtjomihhpglojpaaDoor
end
section
/- Structs of two numbers held against each other. -/
namespace Go.Proofs.YtjomihhpglojpaaDoor
open Go.RowKit

section
variable {P : Program} {w : World} {l : List (Nat × Value)}
/-- A struct of two numbers of one kind. -/
structure PairT (P : Program) (t : TypeId) (k : IntKind) : Prop where
  it : ∃ f0 f1 : Field, P.underlying t = some (.struct (P.fieldsOf t)) ∧ P.fieldsOf t = #[f0, f1] ∧ f0.offset = 0 ∧ f1.offset = 1 ∧ ¬ f0.name = "_" ∧ ¬ f1.name = "_" ∧ P.underlying f0.type = some (.int k) ∧ P.underlying f1.type = some (.int k)
  held : P.stoodInHeld t = false
  guard : P.eqGuardType P.depth t = false
def isIntK (d : Option TypeDesc) (k : IntKind) : Bool := match d with | some (.int k') => k' == k | _ => false
theorem isIntK_eq {d : Option TypeDesc} {k : IntKind} (h : isIntK d k = true) : d = some (.int k) := by
  unfold isIntK at h
  split at h
  · rw [eq_of_beq h]
  · cases h
def pairB (P : Program) (t : TypeId) (k : IntKind) : Bool :=
  (match P.underlying t with
  | some (.struct fs) => (match fs.toList with
    | [f0, f1] => decide (f0.offset = 0) && decide (f1.offset = 1) && decide (¬ f0.name = "_") && decide (¬ f1.name = "_") && isIntK (P.underlying f0.type) k && isIntK (P.underlying f1.type) k
    | _ => false)
  | _ => false) && !P.stoodInHeld t && !P.eqGuardType P.depth t
theorem pairT_of {t : TypeId} {k : IntKind} (h : pairB P t k = true) : PairT P t k := by
  unfold pairB at h
  simp only [Bool.and_eq_true, Bool.not_eq_true'] at h
  obtain ⟨⟨h2, h3⟩, h4⟩ := h
  refine ⟨?_, h3, h4⟩
  split at h2
  · rename_i fs hu
    split at h2
    · rename_i f0 f1 he
      simp only [Bool.and_eq_true, decide_eq_true_eq] at h2
      obtain ⟨⟨⟨⟨⟨a, b⟩, c⟩, d⟩, e⟩, f⟩ := h2
      have hfs : P.fieldsOf t = fs := by simp [Program.fieldsOf, hu]
      exact ⟨f0, f1, by rw [hfs]; exact hu, by rw [hfs, ← Array.toList_inj, he], a, b, c, d, isIntK_eq e, isIntK_eq f⟩
    · cases h2
  · cases h2
theorem run_pair {t : TypeId} {k : IntKind} (h : PairT P t k) (a b c d : Int) : (Op.equalIn 10000 t (.agg #[.int k a, .int k b]) (.agg #[.int k c, .int k d])).run P w = .ok (decide (a = c ∧ b = d)) w := by
  obtain ⟨f0, f1, hU, hF, o0, o1, n0, n1, u0, u1⟩ := h.it
  rw [run_equalIn_agg w 9999 t _ _ hU h.held, hF]
  have p0 : ∀ x y : Int, (part f0.type #[.int k x, .int k y] 0).run P w = .ok (.int k x) w := fun x y => by simp [part, isAgg, run_underlying u0]
  have p1 : ∀ x y : Int, (part f1.type #[.int k x, .int k y] 1).run P w = .ok (.int k y) w := fun x y => by simp [part, isAgg, run_underlying u1]
  have e0 : (Op.equalIn 9999 f0.type (.int k a) (.int k c)).run P w = .ok (a == c) w := run_equalIn_int w 9998 _ k k a c u0
  have e1 : (Op.equalIn 9999 f1.type (.int k b) (.int k d)).run P w = .ok (b == d) w := run_equalIn_int w 9998 _ k k b d u1
  simp only [Op.eqFields, Sem.run_bind, o0, o1, p0, p1, e0, e1, Result.andThen_ok, ne_eq, n0, n1, not_false_eq_true, if_true]
  by_cases h0 : a = c
  · subst h0
    by_cases h1 : b = d
    · subst h1
      simp [p1, e1]
    · have h2 : (b == d) = false := by simpa using h1
      simp [p1, e1, h1, h2]
  · simp [h0]
theorem d_eqP {op : BinOp} {x y : Operand} {k : IntKind} {a b c d : Int} {r : Bool} {t t' ty : TypeId} (h : PairT P t k)
    (hx : Ev l x (.agg #[.int k a, .int k b]) := by exact rfl) (hy : Ev l y (.agg #[.int k c, .int k d]) := by exact rfl) (hr : (match op with | .eql => some (decide (a = c ∧ b = d)) | .neq => some (!decide (a = c ∧ b = d)) | _ => none) = some r := by exact rfl) : Does P l w (.binOp op t x y t') ty (.bool r) w := by
  intro ρ hρ d0 pos af g
  have key := run_pair (w := w) h a b c d
  cases op <;> simp only [Option.some.injEq, reduceCtorEq] at hr <;> subst hr
  · simp only [execOp, hρ _ _ hx, hρ _ _ hy, Sem.run_bind, run_eqGuard_agg w _ t x y _ _ h.guard, Result.andThen_ok, run_eql_struct, key]
    rfl
  · simp only [execOp, hρ _ _ hx, hρ _ _ hy, Sem.run_bind, run_eqGuard_agg w _ t x y _ _ h.guard, Result.andThen_ok, run_neq_struct, key]
    rfl
/-- .. the same pair. -/
theorem d_eqPs {x y : Operand} {k : IntKind} {a b : Int} {t t' ty : TypeId} (h : PairT P t k)
    (hx : Ev l x (.agg #[.int k a, .int k b]) := by exact rfl) (hy : Ev l y (.agg #[.int k a, .int k b]) := by exact rfl) : Does P l w (.binOp .eql t x y t') ty (.bool true) w :=
  d_to (d_eqP h hx hy rfl) (by simp)
end
end Go.Proofs.YtjomihhpglojpaaDoor
end
