/- Laid together by a program of mine: LiftS LiftD SigD Pp Pl. -/
import Derived.Test.YtjomihhpglojpaaDoorSumLawSignalS2
import Derived.ChangeArms
import Derived.SizedLaws
import Derived.Deep.Slices
import Derived.Test.YtjomihhpglojpaaDoorSumLawSignalS4
import Derived.Ground.NamesProg
import Derived.Shelf.Lay
import Derived.Shelf.Slices.Reverse
import Derived.Sort.OwnSortedInts
set_option linter.unusedSimpArgs false
set_option linter.unusedVariables false
section
/- From what a struct reads as to its cells. -/
namespace Go.Proofs.YtjomihhpglojpaaDoor
open Go.ChangeShapes Go.WideShapes Go.ChangeAt Go.RowKit

section
variable {H : Type} {enc : TypeId × Value → H} {P : Program} {w : World}

/-- The cells read as a value of the type. -/
def Rds (enc : TypeId × Value → H) (P : Program) (w : World) (t : TypeId) (cs : List Value) : Prop := ∃ fuel x, DataW.trod enc P w 0 (fun _ => true) true fuel t cs = some x
theorem rds_of {t : TypeId} {v : Value} {d : DataW H} {ps : List MemPlace} (h : DataW.Trod enc P w 0 (fun _ => true) true t v d ps) : Rds enc P w t v.cells.toList := by
  obtain ⟨m, hm⟩ := h
  exact ⟨m, _, hm⟩
theorem Rds.fld {s f off ft : Nat} {cs : List Value} (h : Rds enc P w s cs) (hF : Fld P s f off ft) : Rds enc P w ft ((cs.drop off).take (P.cellsOf ft)) := by
  obtain ⟨fuel, x, hx⟩ := h
  obtain ⟨fields, fd, h1, h2, rfl, rfl⟩ := hF
  obtain ⟨xs, n, _, _, _, hl, hf⟩ := DataW.trod_struct h1 hx
  have := hf f fd h2
  have hlt : f < fields.size := (Array.getElem?_eq_some_iff.1 h2).1
  rw [List.getElem?_eq_getElem (by omega)] at this
  exact ⟨n, _, this⟩
theorem Rds.len {s f off ft : Nat} {cs : List Value} (h : Rds enc P w s cs) (hF : Fld P s f off ft) : cs.length = P.cellsOf s := by
  obtain ⟨fuel, x, hx⟩ := h
  obtain ⟨fields, fd, h1, h2, rfl, rfl⟩ := hF
  obtain ⟨xs, n, _, _, hl, _, _⟩ := DataW.trod_struct h1 hx
  exact hl
theorem one_at {cs : List Value} {off : Nat} {v : Value} (h : (cs.drop off).take 1 = [v]) : cs[off]? = some v := by
  have : ((cs.drop off).take 1)[0]? = some v := by rw [h]; rfl
  rw [List.getElem?_take_of_lt (by omega)] at this
  simpa using this
theorem Rds.int {t : TypeId} {k : IntKind} {cs : List Value} (h : Rds enc P w t cs) (hU : P.underlying t = some (.int k)) : ∃ n, cs = [.int k n] ∧ (Lit.int k n).wf = true := by
  obtain ⟨fuel, x, hx⟩ := h
  obtain ⟨n, h1, _, h2⟩ := DataW.trod_int hU hx
  exact ⟨n, h1, h2⟩
theorem Rds.bool {t : TypeId} {cs : List Value} (h : Rds enc P w t cs) (hU : P.underlying t = some .bool) : ∃ b, cs = [.bool b] := by
  obtain ⟨fuel, x, hx⟩ := h
  obtain ⟨n, h1, _⟩ := DataW.trod_bool hU hx
  exact ⟨n, h1⟩
theorem Rds.string {t : TypeId} {cs : List Value} (h : Rds enc P w t cs) (hU : P.underlying t = some .string) : ∃ s : ByteArray, cs = [.string s] ∧ s.size ≤ maxLen := by
  obtain ⟨fuel, x, hx⟩ := h
  obtain ⟨n, h1, _, h2⟩ := DataW.trod_string hU hx
  exact ⟨n, h1, h2⟩
theorem Rds.intAt {s f off ft : Nat} {k : IntKind} {cs : List Value} (h : Rds enc P w s cs) (hF : Fld P s f off ft) (hU : P.underlying ft = some (.int k)) (hc : P.cellsOf ft = 1) : ∃ n, cs[off]? = some (.int k n) ∧ (Lit.int k n).wf = true := by
  obtain ⟨n, h1, h2⟩ := (h.fld hF).int hU
  rw [hc] at h1
  exact ⟨n, one_at h1, h2⟩
theorem Rds.boolAt {s f off ft : Nat} {cs : List Value} (h : Rds enc P w s cs) (hF : Fld P s f off ft) (hU : P.underlying ft = some .bool) (hc : P.cellsOf ft = 1) : ∃ n, cs[off]? = some (.bool n) := by
  obtain ⟨n, h1⟩ := (h.fld hF).bool hU
  rw [hc] at h1
  exact ⟨n, one_at h1⟩
theorem Rds.stringAt {s f off ft : Nat} {cs : List Value} (h : Rds enc P w s cs) (hF : Fld P s f off ft) (hU : P.underlying ft = some .string) (hc : P.cellsOf ft = 1) : ∃ n : ByteArray, cs[off]? = some (.string n) ∧ n.size ≤ maxLen := by
  obtain ⟨n, h1, h2⟩ := (h.fld hF).string hU
  rw [hc] at h1
  exact ⟨n, one_at h1, h2⟩
end
end Go.Proofs.YtjomihhpglojpaaDoor
end
section
/- Nested arguments: what a slice within an argument reads as, and how great it may be. -/
namespace Go.Proofs.YtjomihhpglojpaaDoor
open Go.ChangeShapes Go.WideShapes Go.ChangeAt Go.RowKit Go.Deep

section
variable {H : Type} {enc : TypeId × Value → H} {P : Program} {w : World}

/-- The cells read as a value of the type, and no list or text in it is beyond the reach. -/
def Rdw (enc : TypeId × Value → H) (P : Program) (w : World) (t : TypeId) (cs : List Value) : Prop := ∃ fuel x, DataW.trod enc P w 0 (fun _ => true) true fuel t cs = some x ∧ ∀ n ∈ x.1.weights P t, n ≤ reachBytes
theorem rdw_of {t : TypeId} {v : Value} {d : DataW H} {ps : List MemPlace} (h : DataW.Trod enc P w 0 (fun _ => true) true t v d ps) (hw : ∀ n ∈ d.weights P t, n ≤ reachBytes) : Rdw enc P w t v.cells.toList := by
  obtain ⟨m, hm⟩ := h
  exact ⟨m, _, hm, hw⟩
theorem Rdw.rds {t : TypeId} {cs : List Value} (h : Rdw enc P w t cs) : Rds enc P w t cs := by
  obtain ⟨m, x, hm, _⟩ := h
  exact ⟨m, x, hm⟩
theorem Rdw.fld {s f off ft : Nat} {cs : List Value} (h : Rdw enc P w s cs) (hF : Fld P s f off ft) : Rdw enc P w ft ((cs.drop off).take (P.cellsOf ft)) := by
  obtain ⟨fuel, x, hx, hw⟩ := h
  obtain ⟨fields, fd, h1, h2, rfl, rfl⟩ := hF
  obtain ⟨xs, n, _, rfl, _, hl, hf⟩ := DataW.trod_struct h1 hx
  have h3 := hf f fd h2
  have hlt : f < xs.length := by
    have := (Array.getElem?_eq_some_iff.1 h2).1
    omega
  rw [List.getElem?_eq_getElem hlt] at h3
  refine ⟨n, _, h3, fun m hm => hw m ?_⟩
  rw [show DataW.weights P s (DataW.agg (xs.map (·.1))) = DataW.weightsEach P (fields.toList.map (·.type)) (xs.map (·.1)) by simp [DataW.weights, h1]]
  exact DataW.weights_mem_each (j := f) (t := fd.type) (d := xs[f].1) (by simp [h2]) (by simp [hlt]) m hm
theorem weightsAll_mem {e : TypeId} {n : Nat} : ∀ {ds : List (DataW H)} {d : DataW H}, d ∈ ds → n ∈ d.weights P e → n ∈ DataW.weightsAll P e ds
  | d0 :: ds, d, hd, hn => by
    simp only [DataW.weightsAll, List.mem_append]
    rcases List.mem_cons.1 hd with rfl | hd
    · exact .inl hn
    · exact .inr (weightsAll_mem hd hn)

/-- A slice that reads, element by element. -/
theorem Rdw.slice {t e : TypeId} {cs : List Value} (h : Rdw enc P w t cs) (ht : P.underlying t = some (.slice e)) (hc : 0 < P.cellsOf e) :
    ∃ ao len cap, cs = [.slice ao len cap] ∧ len ≤ cap ∧ cap ≤ maxLen ∧ cap * P.bytesOf e ≤ reachBytes ∧ (∀ i, i < len → ∃ b o cs', ao = some ⟨b, o, none⟩ ∧ cs'.length = P.cellsOf e ∧ (∀ q, q < P.cellsOf e → w.cell? ⟨b, o + i * P.cellsOf e + q, none⟩ = cs'[q]?) ∧ Rdw enc P w e cs') := by
  obtain ⟨fuel, x, hx, hw⟩ := h
  rcases open_slice ht hx with ⟨rfl, _⟩ | ⟨a, len, cap, m, n, D, Pl, rfl, _, hl, hm, hmm, rfl, hel⟩
  · exact ⟨none, 0, 0, rfl, Nat.le_refl _, Nat.zero_le _, by simp, fun i hi => absurd hi (Nat.not_lt_zero _)⟩
  · have hmm' : m = cap := by simpa using hmm
    subst hmm'
    have hws : DataW.weights P t (DataW.slice ((List.range len).map D) ((List.range (m - len)).map fun j => D (len + j))) = (len + (m - len)) * P.bytesOf e :: (DataW.weightsAll P e ((List.range len).map D) ++ DataW.weightsAll P e ((List.range (m - len)).map fun j => D (len + j))) := by
      simp [DataW.weights, ht]
    refine ⟨some a, len, m, rfl, hl, hm, ?_, fun i hi => ?_⟩
    · have := hw ((len + (m - len)) * P.bytesOf e) (by rw [hws]; simp)
      rwa [show len + (m - len) = m by omega] at this
    have h0 : a.spot = none := by
      obtain ⟨cs', h1, _⟩ := hel 0 (by omega)
      obtain ⟨_, hl', hq⟩ := World.cells?_some h1
      have := hq 0 hc
      have e0 : (a.add (0 * P.cellsOf e)).add 0 = a := by simp [Addr.add]
      rw [e0] at this
      have hlt : 0 < cs'.length := by omega
      rw [List.getElem?_eq_getElem hlt] at this
      have := spotless this
      rw [this]
    obtain ⟨b, o, s⟩ := a
    cases h0
    obtain ⟨cs', h1, h2⟩ := hel i (by omega)
    obtain ⟨_, hl', hq⟩ := World.cells?_some h1
    refine ⟨b, o, cs', rfl, hl', fun q hq' => ?_, n, _, h2, fun z hz => hw z ?_⟩
    · have := hq q hq'
      rw [addr_add, addr_add] at this
      exact this
    · rw [hws]
      simp only [List.mem_cons, List.mem_append]
      exact .inr (.inl (weightsAll_mem (List.mem_map.2 ⟨i, by simpa using hi, rfl⟩) hz))

/-- A slice of texts. -/
theorem Rdw.texts {t e : TypeId} {cs : List Value} (h : Rdw enc P w t cs) (ht : P.underlying t = some (.slice e)) (he : P.underlying e = some .string) (hc : P.cellsOf e = 1) :
    ∃ ao len cap, ∃ ss : List ByteArray, cs = [.slice ao len cap] ∧ ss.length = len ∧ len ≤ cap ∧ cap ≤ maxLen ∧ cap * P.bytesOf e ≤ reachBytes ∧ Rd w ao .string ss ∧ ∀ s ∈ ss, s.size ≤ maxLen := by
  obtain ⟨ao, len, cap, rfl, hl, hm, hby, hel⟩ := h.slice ht (by omega)
  have key : ∀ n, n ≤ len → ∃ ss : List ByteArray, ss.length = n ∧ Rd w ao .string ss ∧ ∀ s ∈ ss, s.size ≤ maxLen := by
    intro n
    induction n with
    | zero => intro _; exact ⟨[], rfl, fun i hi => absurd hi (Nat.not_lt_zero _), by simp⟩
    | succ n ih =>
      intro hn
      obtain ⟨ss, hsl, hrd, hsz⟩ := ih (by omega)
      obtain ⟨b, o, cs', hao, hcl, hq, hr⟩ := hel n (by omega)
      obtain ⟨s, rfl, hs⟩ := hr.rds.string he
      refine ⟨ss ++ [s], by simp [hsl], fun i hi => ?_, fun x hx => ?_⟩
      · by_cases hin : i < n
        · obtain ⟨b', o', e1, e2⟩ := hrd i (by omega)
          refine ⟨b', o', e1, ?_⟩
          rw [List.getElem_append_left (by omega)]
          exact e2
        · have : i = n := by simp at hi; omega
          subst this
          refine ⟨b, o, hao, ?_⟩
          have := hq 0 (by omega)
          rw [hc, Nat.mul_one, Nat.add_zero] at this
          rw [this, List.getElem_append_right (by omega)]
          simp [hsl]
      · rcases List.mem_append.1 hx with hx | hx
        · exact hsz x hx
        · simp at hx; subst hx; exact hs
  obtain ⟨ss, h1, h2, h3⟩ := key len (Nat.le_refl _)
  exact ⟨ao, len, cap, ss, rfl, h1, hl, hm, hby, h2, h3⟩
end
end Go.Proofs.YtjomihhpglojpaaDoor
end
section
/- A signal as it is handed in: all its cells, and its texts. -/
namespace Go.Proofs.YtjomihhpglojpaaDoor
open Go.RowKit
set_option linter.unusedSimpArgs false
set_option linter.unusedVariables false
attribute [local irreducible] wpList wpQuiet wpStill Code.wp Exit.then Exit.inBlock bodyPost Calls Does Does0
open Go.ChangeShapes Go.WideShapes

/-- A signal's fields. -/
structure Sig where
  line : Int
  col : Int
  name : ByteArray
  role : Int
  branch : Int
  start : Int
  size : Int
  mot : Bool
  sgn : Bool
  sn : Int
  sd : Int
  fn : Int
  fd : Int
  mn : Int
  md : Int
  xn : Int
  xd : Int
  unit : ByteArray
  toA : Option Addr
  toN : Nat
  toC : Nat
def Sig.cells (s : Sig) : List Value := [.int .i64 s.line, .int .i64 s.col, .string s.name, .int .i64 s.role, .int .u64 s.branch, .int .i64 s.start, .int .i64 s.size, .bool s.mot, .bool s.sgn, .int .i64 s.sn, .int .i64 s.sd, .int .i64 s.fn, .int .i64 s.fd, .int .i64 s.mn, .int .i64 s.md, .int .i64 s.xn, .int .i64 s.xd, .string s.unit, .slice s.toA s.toN s.toC]
/-- A signal that is there: its texts. -/
structure SigIn (w : World) (s : Sig) (ss : List ByteArray) : Prop where
  len : ss.length = s.toN
  rd : Rd w s.toA .string ss
  cap : s.toN ≤ s.toC
  bytes : s.toC * 16 ≤ 140737488351232
theorem SigIn.below {w w' : World} {s : Sig} {ss : List ByteArray} (h : SigIn w s ss) (hb : Below w.heap.size w w') : SigIn w' s ss := ⟨h.len, h.rd.below hb, h.cap, h.bytes⟩

theorem sz_sig : Tryd.prog.cellsOf 38 = 19 := by kernel_rfl
theorem sz_place : Tryd.prog.cellsOf 23 = 2 := by kernel_rfl
theorem sz_rat : Tryd.prog.cellsOf 35 = 2 := by kernel_rfl
theorem sz_int : Tryd.prog.cellsOf 3 = 1 := by kernel_rfl
theorem sz_i64 : Tryd.prog.cellsOf 2 = 1 := by kernel_rfl
theorem sz_u64 : Tryd.prog.cellsOf 33 = 1 := by kernel_rfl
theorem sz_bool : Tryd.prog.cellsOf 4 = 1 := by kernel_rfl
theorem sz_string : Tryd.prog.cellsOf 9 = 1 := by kernel_rfl
theorem sz_texts : Tryd.prog.cellsOf 36 = 1 := by kernel_rfl
theorem by_string : Tryd.prog.bytesOf 9 = 16 := by kernel_rfl

theorem sig_of {H : Type} {enc : TypeId × Value → H} {w : World} {cs : List Value} (h : Rdw enc Tryd.prog w 38 cs) : ∃ s ss, cs = Sig.cells s ∧ SigIn w s ss := by
  have hl := h.rds.len (fld _ 0 _ _ rfl)
  rw [sz_sig] at hl
  obtain ⟨a0, a1, a2, a3, a4, a5, a6, a7, a8, a9, a10, a11, a12, a13, a14, a15, a16, a17, a18, rfl⟩ : ∃ a0 a1 a2 a3 a4 a5 a6 a7 a8 a9 a10 a11 a12 a13 a14 a15 a16 a17 a18, cs = [a0, a1, a2, a3, a4, a5, a6, a7, a8, a9, a10, a11, a12, a13, a14, a15, a16, a17, a18] := by
    rcases cs with _ | ⟨a0, _ | ⟨a1, _ | ⟨a2, _ | ⟨a3, _ | ⟨a4, _ | ⟨a5, _ | ⟨a6, _ | ⟨a7, _ | ⟨a8, _ | ⟨a9, _ | ⟨a10, _ | ⟨a11, _ | ⟨a12, _ | ⟨a13, _ | ⟨a14, _ | ⟨a15, _ | ⟨a16, _ | ⟨a17, _ | ⟨a18, _ | ⟨a19, r⟩⟩⟩⟩⟩⟩⟩⟩⟩⟩⟩⟩⟩⟩⟩⟩⟩⟩⟩⟩ <;> simp at hl
    exact ⟨_, _, _, _, _, _, _, _, _, _, _, _, _, _, _, _, _, _, _, rfl⟩
  have two : ∀ {t f0 t0 f1 t1 : Nat} {x y : Value}, Rdw enc Tryd.prog w t [x, y] → Fld Tryd.prog t f0 0 t0 → Fld Tryd.prog t f1 1 t1 → Tryd.prog.cellsOf t0 = 1 → Tryd.prog.cellsOf t1 = 1 → Rdw enc Tryd.prog w t0 [x] ∧ Rdw enc Tryd.prog w t1 [y] := by
    intro t f0 t0 f1 t1 x y h g0 g1 c0 c1
    have r0 := h.fld g0
    have r1 := h.fld g1
    rw [c0] at r0
    rw [c1] at r1
    exact ⟨r0, r1⟩
  have k0 := h.fld (fld _ 0 _ _ rfl); rw [sz_place] at k0
  have k1 := h.fld (fld _ 1 _ _ rfl); rw [sz_string] at k1
  have k2 := h.fld (fld _ 2 _ _ rfl); rw [sz_int] at k2
  have k3 := h.fld (fld _ 3 _ _ rfl); rw [sz_u64] at k3
  have k4 := h.fld (fld _ 4 _ _ rfl); rw [sz_int] at k4
  have k5 := h.fld (fld _ 5 _ _ rfl); rw [sz_int] at k5
  have k6 := h.fld (fld _ 6 _ _ rfl); rw [sz_bool] at k6
  have k7 := h.fld (fld _ 7 _ _ rfl); rw [sz_bool] at k7
  have k8 := h.fld (fld _ 8 _ _ rfl); rw [sz_rat] at k8
  have k9 := h.fld (fld _ 9 _ _ rfl); rw [sz_rat] at k9
  have k10 := h.fld (fld _ 10 _ _ rfl); rw [sz_rat] at k10
  have k11 := h.fld (fld _ 11 _ _ rfl); rw [sz_rat] at k11
  have k12 := h.fld (fld _ 12 _ _ rfl); rw [sz_string] at k12
  have k13 := h.fld (fld _ 13 _ _ rfl); rw [sz_texts] at k13
  obtain ⟨p0, p1⟩ := two k0 (fld _ 0 _ _ rfl) (fld _ 1 _ _ rfl) sz_int sz_int
  obtain ⟨q0, q1⟩ := two k8 (fld _ 0 _ _ rfl) (fld _ 1 _ _ rfl) sz_i64 sz_i64
  obtain ⟨q2, q3⟩ := two k9 (fld _ 0 _ _ rfl) (fld _ 1 _ _ rfl) sz_i64 sz_i64
  obtain ⟨q4, q5⟩ := two k10 (fld _ 0 _ _ rfl) (fld _ 1 _ _ rfl) sz_i64 sz_i64
  obtain ⟨q6, q7⟩ := two k11 (fld _ 0 _ _ rfl) (fld _ 1 _ _ rfl) sz_i64 sz_i64
  obtain ⟨i0, e0, _⟩ := p0.rds.int (und _ _ rfl)
  obtain ⟨i1, e1, _⟩ := p1.rds.int (und _ _ rfl)
  obtain ⟨i2, e2, _⟩ := Rds.string k1.rds (und _ _ rfl)
  obtain ⟨i3, e3, _⟩ := Rds.int k2.rds (und _ _ rfl)
  obtain ⟨i4, e4, _⟩ := Rds.int k3.rds (und _ _ rfl)
  obtain ⟨i5, e5, _⟩ := Rds.int k4.rds (und _ _ rfl)
  obtain ⟨i6, e6, _⟩ := Rds.int k5.rds (und _ _ rfl)
  obtain ⟨i7, e7⟩ := Rds.bool k6.rds (und _ _ rfl)
  obtain ⟨i8, e8⟩ := Rds.bool k7.rds (und _ _ rfl)
  obtain ⟨i9, e9, _⟩ := q0.rds.int (und _ _ rfl)
  obtain ⟨i10, e10, _⟩ := q1.rds.int (und _ _ rfl)
  obtain ⟨i11, e11, _⟩ := q2.rds.int (und _ _ rfl)
  obtain ⟨i12, e12, _⟩ := q3.rds.int (und _ _ rfl)
  obtain ⟨i13, e13, _⟩ := q4.rds.int (und _ _ rfl)
  obtain ⟨i14, e14, _⟩ := q5.rds.int (und _ _ rfl)
  obtain ⟨i15, e15, _⟩ := q6.rds.int (und _ _ rfl)
  obtain ⟨i16, e16, _⟩ := q7.rds.int (und _ _ rfl)
  obtain ⟨i17, e17, _⟩ := Rds.string k12.rds (und _ _ rfl)
  obtain ⟨ao, len, cap, ss, e18, hsl, hle, hm, hby, hrd, _⟩ := Rdw.texts k13 (und _ _ rfl) (und _ _ rfl) sz_string
  simp only [List.drop_succ_cons, List.drop_zero, List.take_succ_cons, List.take_zero, List.cons.injEq, and_true] at e2 e3 e4 e5 e6 e7 e8 e17 e18
  cases e0; cases e1; subst e2; subst e3; subst e4; subst e5; subst e6; subst e7; subst e8; cases e9; cases e10; cases e11; cases e12; cases e13; cases e14; cases e15; cases e16; subst e17; subst e18
  rw [by_string] at hby
  exact ⟨⟨i0, i1, i2, i3, i4, i5, i6, i7, i8, i9, i10, i11, i12, i13, i14, i15, i16, i17, ao, len, cap⟩, ss, rfl, hsl, hrd, hle, hby⟩
end Go.Proofs.YtjomihhpglojpaaDoor
end
section
/- The plain laws of places: bits of a signal; no program in sight. -/
namespace Go.Proofs.YtjomihhpglojpaaDoor.Pl

def nextB (mot : Bool) (b : Int) : Int := if mot = false then b + 1 else if b % 8 = 0 then b + 15 else b - 1
def seqB (mot : Bool) : Int → Nat → List Int
  | _, 0 => []
  | b, n + 1 => b :: seqB mot (nextB mot b) n
/-- The row that may be, or the error's number. -/
def bitsOfSig (start size : Int) (mot : Bool) : Except Int (List Int) :=
  if size < 1 ∨ 64 < size then .error 15
  else if start < 0 ∨ 63 < start then .error 16
  else if (seqB mot start size.toNat).all (· ≤ 63) then .ok (if mot then (seqB mot start size.toNat).reverse else seqB mot start size.toNat)
  else .error 16
def withinS (start size : Int) (mot : Bool) (n : Int) : Bool :=
  match bitsOfSig start size mot with
  | .ok l => decide (0 ≤ n ∧ n ≤ 8 ∧ ∀ x ∈ l, x < 8 * n)
  | .error _ => false

theorem seqB_len (mot : Bool) : ∀ n b, (seqB mot b n).length = n
  | 0, _ => rfl
  | n + 1, b => by simp [seqB, seqB_len mot n]

/-- A bit in a mirror, byte by byte. -/
def mir (b : Int) : Int := 8 * (b / 8) + 7 - b % 8
def pos (mot : Bool) (b : Int) : Int := if mot then mir b else b
theorem mir_mir (b : Int) : mir (mir b) = b := by unfold mir; omega
theorem pos_pos (mot : Bool) (b : Int) : pos mot (pos mot b) = b := by unfold pos; cases mot <;> simp [mir_mir]
theorem pos_next (mot : Bool) (b : Int) : pos mot (nextB mot b) = pos mot b + 1 := by
  unfold pos nextB mir
  cases mot
  · simp
  · simp; split <;> omega
theorem pos_lt (mot : Bool) (b n : Int) : pos mot b < 8 * n ↔ b < 8 * n := by unfold pos mir; cases mot <;> simp; omega
theorem pos_ge (mot : Bool) (b : Int) : 0 ≤ pos mot b ↔ 0 ≤ b := by unfold pos mir; cases mot <;> simp; omega
theorem seqB_get (mot : Bool) : ∀ n b i (h : i < (seqB mot b n).length), (seqB mot b n)[i] = pos mot (pos mot b + i)
  | 0, _, _, h => by simp [seqB] at h
  | n + 1, b, 0, _ => by simp [seqB, pos_pos]
  | n + 1, b, i + 1, h => by
    have h' : i < (seqB mot (nextB mot b) n).length := by simpa [seqB] using h
    have := seqB_get mot n (nextB mot b) i h'
    simp only [seqB, List.getElem_cons_succ, this, pos_next]
    congr 1
    push_cast
    omega
theorem seqB_mem {mot : Bool} {n : Nat} {b x : Int} (h : x ∈ seqB mot b n) : ∃ i, i < n ∧ x = pos mot (pos mot b + i) := by
  obtain ⟨i, hi, rfl⟩ := List.getElem_of_mem h
  exact ⟨i, by rw [seqB_len] at hi; exact hi, seqB_get mot n b i hi⟩
theorem seqB_mem_of {mot : Bool} {n : Nat} {b : Int} {i : Nat} (h : i < n) : pos mot (pos mot b + i) ∈ seqB mot b n := by
  rw [← seqB_get mot n b i (by rw [seqB_len]; exact h)]
  exact List.getElem_mem _
theorem nextB_bounds {mot : Bool} {b : Int} (h0 : 0 ≤ b) (h1 : b ≤ 63) : 0 ≤ nextB mot b ∧ nextB mot b ≤ 78 := by
  unfold nextB; cases mot <;> simp <;> (try split) <;> omega
theorem seqB_snoc (mot : Bool) : ∀ n b, seqB mot b (n + 1) = seqB mot b n ++ [pos mot (pos mot b + n)]
  | 0, b => by simp [seqB, pos_pos]
  | n + 1, b => by
    rw [seqB, seqB_snoc mot n (nextB mot b), seqB, pos_next]
    simp only [List.cons_append]
    congr 4
    push_cast
    omega
theorem seqB_take (mot : Bool) : ∀ n k b, k ≤ n → (seqB mot b n).take k = seqB mot b k
  | n, 0, b, _ => by simp [seqB]
  | 0, k + 1, _, h => by omega
  | n + 1, k + 1, b, h => by simp [seqB, seqB_take mot n k (nextB mot b) (by omega)]
theorem all_snoc (l : List Int) (x : Int) : (l ++ [x]).all (· ≤ 63) = (l.all (· ≤ 63) && decide (x ≤ 63)) := by simp
/-- What comes behind so many. -/
def nth (mot : Bool) (b : Int) : Nat → Int
  | 0 => b
  | n + 1 => nextB mot (nth mot b n)
theorem nth_pos (mot : Bool) (b : Int) : ∀ n, nth mot b n = pos mot (pos mot b + n)
  | 0 => by simp [nth, pos_pos]
  | n + 1 => by
    have := pos_next mot (nth mot b n)
    have h2 := nth_pos mot b n
    rw [nth, ← pos_pos mot (nextB mot (nth mot b n)), this, h2, pos_pos]
    congr 1
    push_cast
    omega
theorem seqB_snoc' (mot : Bool) (n : Nat) (b : Int) : seqB mot b (n + 1) = seqB mot b n ++ [nth mot b n] := by rw [seqB_snoc, nth_pos]
theorem all_take {mot : Bool} {b : Int} {n k : Nat} (h : k < n) (hb : 63 < nth mot b k) : (seqB mot b n).all (· ≤ 63) = false := by
  rw [List.all_eq_false]
  refine ⟨nth mot b k, ?_, by simp; omega⟩
  rw [nth_pos]
  exact seqB_mem_of h

/-- The greatest. -/
def maxL : List Int → Int
  | [] => 0
  | x :: r => r.foldl (fun m n => if m < n then n else m) x
theorem foldl_max_lt (l : List Int) : ∀ x m, l.foldl (fun m n => if m < n then n else m) x < m ↔ x < m ∧ ∀ y ∈ l, y < m := by
  induction l with
  | nil => intro x m; simp
  | cons y r ih =>
    intro x m
    rw [List.foldl_cons, ih]
    simp only [List.mem_cons, forall_eq_or_imp]
    split <;> constructor <;> rintro ⟨h1, h2⟩
    · exact ⟨by omega, h1, h2⟩
    · exact ⟨h2.1, h2.2⟩
    · exact ⟨h1, by omega, h2⟩
    · exact ⟨h1, h2.2⟩
theorem maxL_lt {l : List Int} (hl : l ≠ []) (m : Int) : maxL l < m ↔ ∀ y ∈ l, y < m := by
  cases l with
  | nil => exact absurd rfl hl
  | cons x r => simp only [maxL, foldl_max_lt, List.mem_cons, forall_eq_or_imp]
theorem maxL_snoc {l : List Int} (hl : l ≠ []) (x : Int) : maxL (l ++ [x]) = if maxL l < x then x else maxL l := by
  cases l with
  | nil => exact absurd rfl hl
  | cons y r =>
    show List.foldl _ y (r ++ [x]) = _
    rw [List.foldl_append]
    rfl

/-- What is a row that may be. -/
theorem bits_ok {start size : Int} {mot : Bool} {l : List Int} (h : bitsOfSig start size mot = .ok l) :
    1 ≤ size ∧ size ≤ 64 ∧ 0 ≤ start ∧ start ≤ 63 ∧ (l.length : Int) = size ∧ (∀ x ∈ l, 0 ≤ x ∧ x ≤ 63) ∧ (∀ x, x ∈ l ↔ x ∈ seqB mot start size.toNat) ∧ l = (if mot then (seqB mot start size.toNat).reverse else seqB mot start size.toNat) := by
  unfold bitsOfSig at h
  split at h
  · cases h
  split at h
  · cases h
  split at h
  · rename_i h1 h2 h3
    cases h
    have hm : ∀ x, x ∈ (if mot then (seqB mot start size.toNat).reverse else seqB mot start size.toNat) ↔ x ∈ seqB mot start size.toNat := by intro x; cases mot <;> simp
    refine ⟨by omega, by omega, by omega, by omega, ?_, fun x hx => ?_, hm, rfl⟩
    · cases mot <;> simp [seqB_len] <;> omega
    · have hx' := (hm x).1 hx
      have h4 := List.all_eq_true.1 h3 x hx'
      obtain ⟨i, hi, rfl⟩ := seqB_mem hx'
      have h5 : 0 ≤ pos mot (pos mot start + i) := (pos_ge _ _).2 (by have := (pos_ge mot start).2 (by omega); omega)
      exact ⟨h5, by simpa using h4⟩
  · cases h

theorem within_size {start size : Int} {mot : Bool} {n : Int} (h : withinS start size mot n = true) : size ≤ 8 * n := by
  unfold withinS at h
  split at h
  · rename_i l hl
    obtain ⟨g1, g2, g3, g4, g5, g6, g7, _⟩ := bits_ok hl
    have h' := of_decide_eq_true h
    have hmem : pos mot (pos mot start + ((size.toNat - 1 : Nat) : Int)) ∈ l := (g7 _).2 (seqB_mem_of (by omega))
    have := (pos_lt mot _ n).2 (h'.2.2 _ hmem)
    rw [pos_pos] at this
    have h0 := (pos_ge mot start).2 g3
    omega
  · cases h
theorem within_more {start size : Int} {mot : Bool} {n : Int} (h : withinS start size mot n = true) (hn : n ≠ 8) : withinS start size mot (n + 1) = true := by
  unfold withinS at h ⊢
  split at h
  · have h' := of_decide_eq_true h
    exact decide_eq_true ⟨by omega, by omega, fun x hx => by have := h'.2.2 x hx; omega⟩
  · cases h
theorem within_8 (start size : Int) (mot : Bool) : withinS start size mot 8 = (match bitsOfSig start size mot with | .ok _ => true | .error _ => false) := by
  unfold withinS
  split
  · rename_i l hl
    obtain ⟨_, _, _, _, _, g6, _, _⟩ := bits_ok hl
    exact decide_eq_true ⟨by omega, by omega, fun x hx => by have := g6 x hx; omega⟩
  · rfl
theorem within_out {start size : Int} {mot : Bool} {n : Int} (h : n < 0 ∨ 8 < n) : withinS start size mot n = false := by
  unfold withinS
  split
  · exact decide_eq_false (by omega)
  · rfl
end Go.Proofs.YtjomihhpglojpaaDoor.Pl
end
section
/- place: what the program computes. -/
namespace Go.Proofs.YtjomihhpglojpaaDoor
open Go.RowKit
set_option linter.unusedSimpArgs false
set_option linter.unusedVariables false
attribute [local irreducible] wpList wpQuiet wpStill Code.wp Exit.then Exit.inBlock bodyPost Calls Does Does0

/-- A signal's cells, as far as its place goes. -/
structure SigAt (cs : Array Value) (start size : Int) (mot : Bool) : Prop where
  len : cs.size = 19
  st : cs[5]? = some (.int .i64 start)
  sz : cs[6]? = some (.int .i64 size)
  mo : cs[7]? = some (.bool mot)

end Go.Proofs.YtjomihhpglojpaaDoor
namespace Go.Proofs
open Go.Shelf
def Tryd.laysRev_ren : Go.Shelf.Ren := ⟨fun | 112 => 66 | n => n, fun | 28 => 81 | 3 => 3 | 4 => 4 | 0 => 0 | n => n, fun | n => n⟩
theorem Tryd.laysRev : Go.Proofs.Lays.n112 Tryd.prog Tryd.laysRev_ren := {
  mixed := by kernel_rfl
  f112 := Tryd.func66.trans (congrArg some (by kernel_rfl))
  t0 := Tryd.underlying0
  a0 := Tryd.isAgg0
  z0 := Tryd.sizeOf0
  v0 := Tryd.zeroValue0
  t3 := Tryd.underlying3
  a3 := Tryd.isAgg3
  z3 := Tryd.sizeOf3
  v3 := Tryd.zeroValue3
  t4 := Tryd.underlying4
  a4 := Tryd.isAgg4
  z4 := Tryd.sizeOf4
  v4 := Tryd.zeroValue4
  t28 := Tryd.underlying81
  a28 := Tryd.isAgg81
  z28 := Tryd.sizeOf81
  v28 := Tryd.zeroValue81 }
end Go.Proofs
namespace Go.Proofs.YtjomihhpglojpaaDoor
open Go.RowKit
set_option linter.unusedSimpArgs false
set_option linter.unusedVariables false
attribute [local irreducible] wpList wpQuiet wpStill Code.wp Exit.then Exit.inBlock bodyPost Calls Does Does0
open Go.Sort Go.Shelf
theorem reverse_ok (w : World) (xs : List Int) (base g n c : Nat) (hown : w.ownsRow base 3 1 (.slice (some ⟨g, 0, none⟩) n c) n (xs.map (.int .i64))) (hb : n ≤ 9223372036854775807) :
    Ret Tryd.prog 66 #[.slice (some ⟨g, 0, none⟩) n c] w (fun v w' => w'.ownsRow base 3 1 (.slice (some ⟨g, 0, none⟩) n c) n (xs.reverse.map (.int .i64)) ∧ w.grownBy w' (some g)) := by
  have hn : xs.length = n := by simpa using hown.1
  subst hn
  rcases hown.2 with ⟨h0, _⟩ | ⟨g', cap', cur, h0, hbg, hg, hle, hm, hsz, htk⟩
  · cases h0
  obtain ⟨rfl, rfl⟩ : g' = g ∧ cap' = c := by cases h0; exact ⟨rfl, rfl⟩
  rw [Nat.mul_one] at htk
  have h := Any.slices_Reverse_int Tryd.laysRev g' 0 cap' xs w (holds_of_blockI hg htk) (by omega)
  refine Calls.mono h ?_
  rintro e w' ⟨rfl, n, rfl⟩
  refine ⟨_, rfl, ?_, ?_⟩
  · have := ownsRow_sortedI (w := w) (n := n) (os := #[]) (ts := xs.reverse) (ss := xs) (by simp) hbg hg hle hm hsz
    rwa [grow_empty] at this
  · have := grownBy_sortedI (w := w) (g := g') (n := n) (os := #[]) xs.reverse.toArray
    rwa [grow_empty] at this
end Go.Proofs.YtjomihhpglojpaaDoor
end
