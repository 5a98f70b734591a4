/- Laid together by a program of mine: LiftS LiftD SigD Cnv Pair Push Own2. -/
import Derived.Test.YtjomihhpglojpaaGreatDoorSumLawDatabaseS2
import Derived.ChangeArms
import Derived.SizedLaws
import Derived.Deep.Slices
import Derived.Test.YtjomihhpglojpaaGreatDoorSumLawDatabaseS4
import Derived.Test.YtjomihhpglojpaaGreatDoorSumLawDatabaseS3
import Derived.Laws.BytesArg
import Derived.Laws.StructEq
set_option linter.unusedSimpArgs false
set_option linter.unusedVariables false
section
/- From what a struct reads as to its cells. -/
namespace Go.Proofs.YtjomihhpglojpaaGreatDoor
open Go.ChangeShapes Go.WideShapes Go.ChangeAt Go.RowKit

section
variable {H : Type} {enc : TypeId × Value → H} {P : Program} {w : World}

/-- The cells read as a value of the type. -/
def Rds (enc : TypeId × Value → H) (P : Program) (w : World) (t : TypeId) (cs : List Value) : Prop := ∃ fuel x, DataW.trod enc P w 0 (fun _ => true) true fuel t cs = some x
theorem rds_of {t : TypeId} {v : Value} {d : DataW H} {ps : List MemPlace} (h : DataW.Trod enc P w 0 (fun _ => true) true t v d ps) : Rds enc P w t v.cells.toList := by
  obtain ⟨m, hm⟩ := h
  exact ⟨m, _, hm⟩
theorem Rds.fld {s f off ft : Nat} {cs : List Value} (h : Rds enc P w s cs) (hF : Fld P s f off ft) : Rds enc P w ft ((cs.drop off).take (P.cellsOf ft)) := by
  obtain ⟨fuel, x, hx⟩ := h
  obtain ⟨fields, fd, h1, h2, rfl, rfl⟩ := hF
  obtain ⟨xs, n, _, _, _, hl, hf⟩ := DataW.trod_struct h1 hx
  have := hf f fd h2
  have hlt : f < fields.size := (Array.getElem?_eq_some_iff.1 h2).1
  rw [List.getElem?_eq_getElem (by omega)] at this
  exact ⟨n, _, this⟩
theorem Rds.len {s f off ft : Nat} {cs : List Value} (h : Rds enc P w s cs) (hF : Fld P s f off ft) : cs.length = P.cellsOf s := by
  obtain ⟨fuel, x, hx⟩ := h
  obtain ⟨fields, fd, h1, h2, rfl, rfl⟩ := hF
  obtain ⟨xs, n, _, _, hl, _, _⟩ := DataW.trod_struct h1 hx
  exact hl
theorem one_at {cs : List Value} {off : Nat} {v : Value} (h : (cs.drop off).take 1 = [v]) : cs[off]? = some v := by
  have : ((cs.drop off).take 1)[0]? = some v := by rw [h]; rfl
  rw [List.getElem?_take_of_lt (by omega)] at this
  simpa using this
theorem Rds.int {t : TypeId} {k : IntKind} {cs : List Value} (h : Rds enc P w t cs) (hU : P.underlying t = some (.int k)) : ∃ n, cs = [.int k n] ∧ (Lit.int k n).wf = true := by
  obtain ⟨fuel, x, hx⟩ := h
  obtain ⟨n, h1, _, h2⟩ := DataW.trod_int hU hx
  exact ⟨n, h1, h2⟩
theorem Rds.bool {t : TypeId} {cs : List Value} (h : Rds enc P w t cs) (hU : P.underlying t = some .bool) : ∃ b, cs = [.bool b] := by
  obtain ⟨fuel, x, hx⟩ := h
  obtain ⟨n, h1, _⟩ := DataW.trod_bool hU hx
  exact ⟨n, h1⟩
theorem Rds.string {t : TypeId} {cs : List Value} (h : Rds enc P w t cs) (hU : P.underlying t = some .string) : ∃ s : ByteArray, cs = [.string s] ∧ s.size ≤ maxLen := by
  obtain ⟨fuel, x, hx⟩ := h
  obtain ⟨n, h1, _, h2⟩ := DataW.trod_string hU hx
  exact ⟨n, h1, h2⟩
theorem Rds.intAt {s f off ft : Nat} {k : IntKind} {cs : List Value} (h : Rds enc P w s cs) (hF : Fld P s f off ft) (hU : P.underlying ft = some (.int k)) (hc : P.cellsOf ft = 1) : ∃ n, cs[off]? = some (.int k n) ∧ (Lit.int k n).wf = true := by
  obtain ⟨n, h1, h2⟩ := (h.fld hF).int hU
  rw [hc] at h1
  exact ⟨n, one_at h1, h2⟩
theorem Rds.boolAt {s f off ft : Nat} {cs : List Value} (h : Rds enc P w s cs) (hF : Fld P s f off ft) (hU : P.underlying ft = some .bool) (hc : P.cellsOf ft = 1) : ∃ n, cs[off]? = some (.bool n) := by
  obtain ⟨n, h1⟩ := (h.fld hF).bool hU
  rw [hc] at h1
  exact ⟨n, one_at h1⟩
theorem Rds.stringAt {s f off ft : Nat} {cs : List Value} (h : Rds enc P w s cs) (hF : Fld P s f off ft) (hU : P.underlying ft = some .string) (hc : P.cellsOf ft = 1) : ∃ n : ByteArray, cs[off]? = some (.string n) ∧ n.size ≤ maxLen := by
  obtain ⟨n, h1, h2⟩ := (h.fld hF).string hU
  rw [hc] at h1
  exact ⟨n, one_at h1, h2⟩
end
end Go.Proofs.YtjomihhpglojpaaGreatDoor
end
section
/- Nested arguments: what a slice within an argument reads as, and how great it may be. -/
namespace Go.Proofs.YtjomihhpglojpaaGreatDoor
open Go.ChangeShapes Go.WideShapes Go.ChangeAt Go.RowKit Go.Deep

section
variable {H : Type} {enc : TypeId × Value → H} {P : Program} {w : World}

/-- The cells read as a value of the type, and no list or text in it is beyond the reach. -/
def Rdw (enc : TypeId × Value → H) (P : Program) (w : World) (t : TypeId) (cs : List Value) : Prop := ∃ fuel x, DataW.trod enc P w 0 (fun _ => true) true fuel t cs = some x ∧ ∀ n ∈ x.1.weights P t, n ≤ reachBytes
theorem rdw_of {t : TypeId} {v : Value} {d : DataW H} {ps : List MemPlace} (h : DataW.Trod enc P w 0 (fun _ => true) true t v d ps) (hw : ∀ n ∈ d.weights P t, n ≤ reachBytes) : Rdw enc P w t v.cells.toList := by
  obtain ⟨m, hm⟩ := h
  exact ⟨m, _, hm, hw⟩
theorem Rdw.rds {t : TypeId} {cs : List Value} (h : Rdw enc P w t cs) : Rds enc P w t cs := by
  obtain ⟨m, x, hm, _⟩ := h
  exact ⟨m, x, hm⟩
theorem Rdw.fld {s f off ft : Nat} {cs : List Value} (h : Rdw enc P w s cs) (hF : Fld P s f off ft) : Rdw enc P w ft ((cs.drop off).take (P.cellsOf ft)) := by
  obtain ⟨fuel, x, hx, hw⟩ := h
  obtain ⟨fields, fd, h1, h2, rfl, rfl⟩ := hF
  obtain ⟨xs, n, _, rfl, _, hl, hf⟩ := DataW.trod_struct h1 hx
  have h3 := hf f fd h2
  have hlt : f < xs.length := by
    have := (Array.getElem?_eq_some_iff.1 h2).1
    omega
  rw [List.getElem?_eq_getElem hlt] at h3
  refine ⟨n, _, h3, fun m hm => hw m ?_⟩
  rw [show DataW.weights P s (DataW.agg (xs.map (·.1))) = DataW.weightsEach P (fields.toList.map (·.type)) (xs.map (·.1)) by simp [DataW.weights, h1]]
  exact DataW.weights_mem_each (j := f) (t := fd.type) (d := xs[f].1) (by simp [h2]) (by simp [hlt]) m hm
theorem weightsAll_mem {e : TypeId} {n : Nat} : ∀ {ds : List (DataW H)} {d : DataW H}, d ∈ ds → n ∈ d.weights P e → n ∈ DataW.weightsAll P e ds
  | d0 :: ds, d, hd, hn => by
    simp only [DataW.weightsAll, List.mem_append]
    rcases List.mem_cons.1 hd with rfl | hd
    · exact .inl hn
    · exact .inr (weightsAll_mem hd hn)

/-- A slice that reads, element by element. -/
theorem Rdw.slice {t e : TypeId} {cs : List Value} (h : Rdw enc P w t cs) (ht : P.underlying t = some (.slice e)) (hc : 0 < P.cellsOf e) :
    ∃ ao len cap, cs = [.slice ao len cap] ∧ len ≤ cap ∧ cap ≤ maxLen ∧ cap * P.bytesOf e ≤ reachBytes ∧ (∀ i, i < len → ∃ b o cs', ao = some ⟨b, o, none⟩ ∧ cs'.length = P.cellsOf e ∧ (∀ q, q < P.cellsOf e → w.cell? ⟨b, o + i * P.cellsOf e + q, none⟩ = cs'[q]?) ∧ Rdw enc P w e cs') := by
  obtain ⟨fuel, x, hx, hw⟩ := h
  rcases open_slice ht hx with ⟨rfl, _⟩ | ⟨a, len, cap, m, n, D, Pl, rfl, _, hl, hm, hmm, rfl, hel⟩
  · exact ⟨none, 0, 0, rfl, Nat.le_refl _, Nat.zero_le _, by simp, fun i hi => absurd hi (Nat.not_lt_zero _)⟩
  · have hmm' : m = cap := by simpa using hmm
    subst hmm'
    have hws : DataW.weights P t (DataW.slice ((List.range len).map D) ((List.range (m - len)).map fun j => D (len + j))) = (len + (m - len)) * P.bytesOf e :: (DataW.weightsAll P e ((List.range len).map D) ++ DataW.weightsAll P e ((List.range (m - len)).map fun j => D (len + j))) := by
      simp [DataW.weights, ht]
    refine ⟨some a, len, m, rfl, hl, hm, ?_, fun i hi => ?_⟩
    · have := hw ((len + (m - len)) * P.bytesOf e) (by rw [hws]; simp)
      rwa [show len + (m - len) = m by omega] at this
    have h0 : a.spot = none := by
      obtain ⟨cs', h1, _⟩ := hel 0 (by omega)
      obtain ⟨_, hl', hq⟩ := World.cells?_some h1
      have := hq 0 hc
      have e0 : (a.add (0 * P.cellsOf e)).add 0 = a := by simp [Addr.add]
      rw [e0] at this
      have hlt : 0 < cs'.length := by omega
      rw [List.getElem?_eq_getElem hlt] at this
      have := spotless this
      rw [this]
    obtain ⟨b, o, s⟩ := a
    cases h0
    obtain ⟨cs', h1, h2⟩ := hel i (by omega)
    obtain ⟨_, hl', hq⟩ := World.cells?_some h1
    refine ⟨b, o, cs', rfl, hl', fun q hq' => ?_, n, _, h2, fun z hz => hw z ?_⟩
    · have := hq q hq'
      rw [addr_add, addr_add] at this
      exact this
    · rw [hws]
      simp only [List.mem_cons, List.mem_append]
      exact .inr (.inl (weightsAll_mem (List.mem_map.2 ⟨i, by simpa using hi, rfl⟩) hz))

/-- A slice of texts. -/
theorem Rdw.texts {t e : TypeId} {cs : List Value} (h : Rdw enc P w t cs) (ht : P.underlying t = some (.slice e)) (he : P.underlying e = some .string) (hc : P.cellsOf e = 1) :
    ∃ ao len cap, ∃ ss : List ByteArray, cs = [.slice ao len cap] ∧ ss.length = len ∧ len ≤ cap ∧ cap ≤ maxLen ∧ cap * P.bytesOf e ≤ reachBytes ∧ Rd w ao .string ss ∧ ∀ s ∈ ss, s.size ≤ maxLen := by
  obtain ⟨ao, len, cap, rfl, hl, hm, hby, hel⟩ := h.slice ht (by omega)
  have key : ∀ n, n ≤ len → ∃ ss : List ByteArray, ss.length = n ∧ Rd w ao .string ss ∧ ∀ s ∈ ss, s.size ≤ maxLen := by
    intro n
    induction n with
    | zero => intro _; exact ⟨[], rfl, fun i hi => absurd hi (Nat.not_lt_zero _), by simp⟩
    | succ n ih =>
      intro hn
      obtain ⟨ss, hsl, hrd, hsz⟩ := ih (by omega)
      obtain ⟨b, o, cs', hao, hcl, hq, hr⟩ := hel n (by omega)
      obtain ⟨s, rfl, hs⟩ := hr.rds.string he
      refine ⟨ss ++ [s], by simp [hsl], fun i hi => ?_, fun x hx => ?_⟩
      · by_cases hin : i < n
        · obtain ⟨b', o', e1, e2⟩ := hrd i (by omega)
          refine ⟨b', o', e1, ?_⟩
          rw [List.getElem_append_left (by omega)]
          exact e2
        · have : i = n := by simp at hi; omega
          subst this
          refine ⟨b, o, hao, ?_⟩
          have := hq 0 (by omega)
          rw [hc, Nat.mul_one, Nat.add_zero] at this
          rw [this, List.getElem_append_right (by omega)]
          simp [hsl]
      · rcases List.mem_append.1 hx with hx | hx
        · exact hsz x hx
        · simp at hx; subst hx; exact hs
  obtain ⟨ss, h1, h2, h3⟩ := key len (Nat.le_refl _)
  exact ⟨ao, len, cap, ss, rfl, h1, hl, hm, hby, h2, h3⟩
end
end Go.Proofs.YtjomihhpglojpaaGreatDoor
end
section
/- A signal as it is handed in: all its cells, and its texts. -/
namespace Go.Proofs.YtjomihhpglojpaaGreatDoor
open Go.RowKit
set_option linter.unusedSimpArgs false
set_option linter.unusedVariables false
attribute [local irreducible] wpList wpQuiet wpStill Code.wp Exit.then Exit.inBlock bodyPost Calls Does Does0
open Go.ChangeShapes Go.WideShapes

/-- A signal's fields. -/
structure Sig where
  line : Int
  col : Int
  name : ByteArray
  role : Int
  branch : Int
  start : Int
  size : Int
  mot : Bool
  sgn : Bool
  sn : Int
  sd : Int
  fn : Int
  fd : Int
  mn : Int
  md : Int
  xn : Int
  xd : Int
  unit : ByteArray
  toA : Option Addr
  toN : Nat
  toC : Nat
def Sig.cells (s : Sig) : List Value := [.int .i64 s.line, .int .i64 s.col, .string s.name, .int .i64 s.role, .int .u64 s.branch, .int .i64 s.start, .int .i64 s.size, .bool s.mot, .bool s.sgn, .int .i64 s.sn, .int .i64 s.sd, .int .i64 s.fn, .int .i64 s.fd, .int .i64 s.mn, .int .i64 s.md, .int .i64 s.xn, .int .i64 s.xd, .string s.unit, .slice s.toA s.toN s.toC]
/-- A signal that is there: its texts. -/
structure SigIn (w : World) (s : Sig) (ss : List ByteArray) : Prop where
  len : ss.length = s.toN
  rd : Rd w s.toA .string ss
  cap : s.toN ≤ s.toC
  bytes : s.toN * 16 ≤ 140737488351232
theorem SigIn.below {w w' : World} {s : Sig} {ss : List ByteArray} (h : SigIn w s ss) (hb : Below w.heap.size w w') : SigIn w' s ss := ⟨h.len, h.rd.below hb, h.cap, h.bytes⟩

theorem sz_sig : Tryz.prog.cellsOf 62 = 19 := by kernel_rfl
theorem sz_place : Tryz.prog.cellsOf 23 = 2 := by kernel_rfl
theorem sz_rat : Tryz.prog.cellsOf 60 = 2 := by kernel_rfl
theorem sz_int : Tryz.prog.cellsOf 3 = 1 := by kernel_rfl
theorem sz_i64 : Tryz.prog.cellsOf 2 = 1 := by kernel_rfl
theorem sz_u64 : Tryz.prog.cellsOf 58 = 1 := by kernel_rfl
theorem sz_bool : Tryz.prog.cellsOf 4 = 1 := by kernel_rfl
theorem sz_string : Tryz.prog.cellsOf 9 = 1 := by kernel_rfl
theorem sz_texts : Tryz.prog.cellsOf 40 = 1 := by kernel_rfl
theorem by_string : Tryz.prog.bytesOf 9 = 16 := by kernel_rfl

theorem sig_of {H : Type} {enc : TypeId × Value → H} {w : World} {cs : List Value} (h : Rdw enc Tryz.prog w 62 cs) : ∃ s ss, cs = Sig.cells s ∧ SigIn w s ss := by
  have hl := h.rds.len (fld _ 0 _ _ rfl)
  rw [sz_sig] at hl
  obtain ⟨a0, a1, a2, a3, a4, a5, a6, a7, a8, a9, a10, a11, a12, a13, a14, a15, a16, a17, a18, rfl⟩ : ∃ a0 a1 a2 a3 a4 a5 a6 a7 a8 a9 a10 a11 a12 a13 a14 a15 a16 a17 a18, cs = [a0, a1, a2, a3, a4, a5, a6, a7, a8, a9, a10, a11, a12, a13, a14, a15, a16, a17, a18] := by
    rcases cs with _ | ⟨a0, _ | ⟨a1, _ | ⟨a2, _ | ⟨a3, _ | ⟨a4, _ | ⟨a5, _ | ⟨a6, _ | ⟨a7, _ | ⟨a8, _ | ⟨a9, _ | ⟨a10, _ | ⟨a11, _ | ⟨a12, _ | ⟨a13, _ | ⟨a14, _ | ⟨a15, _ | ⟨a16, _ | ⟨a17, _ | ⟨a18, _ | ⟨a19, r⟩⟩⟩⟩⟩⟩⟩⟩⟩⟩⟩⟩⟩⟩⟩⟩⟩⟩⟩⟩ <;> simp at hl
    exact ⟨_, _, _, _, _, _, _, _, _, _, _, _, _, _, _, _, _, _, _, rfl⟩
  have two : ∀ {t f0 t0 f1 t1 : Nat} {x y : Value}, Rdw enc Tryz.prog w t [x, y] → Fld Tryz.prog t f0 0 t0 → Fld Tryz.prog t f1 1 t1 → Tryz.prog.cellsOf t0 = 1 → Tryz.prog.cellsOf t1 = 1 → Rdw enc Tryz.prog w t0 [x] ∧ Rdw enc Tryz.prog w t1 [y] := by
    intro t f0 t0 f1 t1 x y h g0 g1 c0 c1
    have r0 := h.fld g0
    have r1 := h.fld g1
    rw [c0] at r0
    rw [c1] at r1
    exact ⟨r0, r1⟩
  have k0 := h.fld (fld _ 0 _ _ rfl); rw [sz_place] at k0
  have k1 := h.fld (fld _ 1 _ _ rfl); rw [sz_string] at k1
  have k2 := h.fld (fld _ 2 _ _ rfl); rw [sz_int] at k2
  have k3 := h.fld (fld _ 3 _ _ rfl); rw [sz_u64] at k3
  have k4 := h.fld (fld _ 4 _ _ rfl); rw [sz_int] at k4
  have k5 := h.fld (fld _ 5 _ _ rfl); rw [sz_int] at k5
  have k6 := h.fld (fld _ 6 _ _ rfl); rw [sz_bool] at k6
  have k7 := h.fld (fld _ 7 _ _ rfl); rw [sz_bool] at k7
  have k8 := h.fld (fld _ 8 _ _ rfl); rw [sz_rat] at k8
  have k9 := h.fld (fld _ 9 _ _ rfl); rw [sz_rat] at k9
  have k10 := h.fld (fld _ 10 _ _ rfl); rw [sz_rat] at k10
  have k11 := h.fld (fld _ 11 _ _ rfl); rw [sz_rat] at k11
  have k12 := h.fld (fld _ 12 _ _ rfl); rw [sz_string] at k12
  have k13 := h.fld (fld _ 13 _ _ rfl); rw [sz_texts] at k13
  obtain ⟨p0, p1⟩ := two k0 (fld _ 0 _ _ rfl) (fld _ 1 _ _ rfl) sz_int sz_int
  obtain ⟨q0, q1⟩ := two k8 (fld _ 0 _ _ rfl) (fld _ 1 _ _ rfl) sz_i64 sz_i64
  obtain ⟨q2, q3⟩ := two k9 (fld _ 0 _ _ rfl) (fld _ 1 _ _ rfl) sz_i64 sz_i64
  obtain ⟨q4, q5⟩ := two k10 (fld _ 0 _ _ rfl) (fld _ 1 _ _ rfl) sz_i64 sz_i64
  obtain ⟨q6, q7⟩ := two k11 (fld _ 0 _ _ rfl) (fld _ 1 _ _ rfl) sz_i64 sz_i64
  obtain ⟨i0, e0, _⟩ := p0.rds.int (und _ _ rfl)
  obtain ⟨i1, e1, _⟩ := p1.rds.int (und _ _ rfl)
  obtain ⟨i2, e2, _⟩ := Rds.string k1.rds (und _ _ rfl)
  obtain ⟨i3, e3, _⟩ := Rds.int k2.rds (und _ _ rfl)
  obtain ⟨i4, e4, _⟩ := Rds.int k3.rds (und _ _ rfl)
  obtain ⟨i5, e5, _⟩ := Rds.int k4.rds (und _ _ rfl)
  obtain ⟨i6, e6, _⟩ := Rds.int k5.rds (und _ _ rfl)
  obtain ⟨i7, e7⟩ := Rds.bool k6.rds (und _ _ rfl)
  obtain ⟨i8, e8⟩ := Rds.bool k7.rds (und _ _ rfl)
  obtain ⟨i9, e9, _⟩ := q0.rds.int (und _ _ rfl)
  obtain ⟨i10, e10, _⟩ := q1.rds.int (und _ _ rfl)
  obtain ⟨i11, e11, _⟩ := q2.rds.int (und _ _ rfl)
  obtain ⟨i12, e12, _⟩ := q3.rds.int (und _ _ rfl)
  obtain ⟨i13, e13, _⟩ := q4.rds.int (und _ _ rfl)
  obtain ⟨i14, e14, _⟩ := q5.rds.int (und _ _ rfl)
  obtain ⟨i15, e15, _⟩ := q6.rds.int (und _ _ rfl)
  obtain ⟨i16, e16, _⟩ := q7.rds.int (und _ _ rfl)
  obtain ⟨i17, e17, _⟩ := Rds.string k12.rds (und _ _ rfl)
  obtain ⟨ao, len, cap, ss, e18, hsl, hle, hm, hby, hrd, _⟩ := Rdw.texts k13 (und _ _ rfl) (und _ _ rfl) sz_string
  simp only [List.drop_succ_cons, List.drop_zero, List.take_succ_cons, List.take_zero, List.cons.injEq, and_true] at e2 e3 e4 e5 e6 e7 e8 e17 e18
  cases e0; cases e1; subst e2; subst e3; subst e4; subst e5; subst e6; subst e7; subst e8; cases e9; cases e10; cases e11; cases e12; cases e13; cases e14; cases e15; cases e16; subst e17; subst e18
  rw [by_string] at hby
  exact ⟨⟨i0, i1, i2, i3, i4, i5, i6, i7, i8, i9, i10, i11, i12, i13, i14, i15, i16, i17, ao, len, cap⟩, ss, rfl, hsl, hrd, hle, Nat.le_trans (Nat.mul_le_mul_right _ hle) hby⟩
end Go.Proofs.YtjomihhpglojpaaGreatDoor
end
section
/- Conversions: between integers; bytes as a text; a signed number moved to the right. -/
namespace Go.Proofs.YtjomihhpglojpaaGreatDoor
open Go.RowKit

section
variable {P : Program} {w : World} {l : List (Nat × Value)}
theorem d_convI {x : Operand} {k k' : IntKind} {n m : Int} {src dst ty : TypeId} {ds : TypeDesc} (hs : P.underlying src = some ds) (hd : P.underlying dst = some (.int k')) (hx : Ev l x (.int k n) := by exact rfl) (hm : k'.wrap n = m := by exact rfl) :
    Does P l w (.convert src dst x) ty (.int k' m) w := by
  intro ρ hρ d pos af g
  subst hm
  simp [execOp, hρ _ _ hx, convert, run_underlying hs, run_underlying hd, Conv.intToInt]
/-- 'string(r)'. -/
theorem d_convR {x : Operand} {k : IntKind} {n : Int} {src dst ty : TypeId} {ds : TypeDesc} (hs : P.underlying src = some ds) (hd : P.underlying dst = some .string) (hx : Ev l x (.int k n) := by exact rfl) :
    Does P l w (.convert src dst x) ty (.string (Utf8.encode n)) w := by
  intro ρ hρ d pos af g
  simp [execOp, hρ _ _ hx, convert, run_underlying hs, run_underlying hd, Conv.intToString]
theorem d_convBS {x : Operand} {src dst e ty : TypeId} {b o len cap : Nat} (xs : List Int) (hs : P.underlying src = some (.slice e)) (he : P.underlying e = some (.int .u8)) (hd : P.underlying dst = some .string) (hlen : xs.length = len)
    (hcell : ∀ i, i < len → w.cell? ⟨b, o + i, none⟩ = some (.int .u8 (xs.getD i 0))) (hx : Ev l x (.slice (some ⟨b, o, none⟩) len cap) := by exact rfl) :
    Does P l w (.convert src dst x) ty (.string (strOfNums xs)) w := by
  intro ρ hρ d pos af g
  simp [execOp, hρ _ _ hx, run_convert_bytes_arg w src e hs he b o len cap xs hlen hcell dst hd]
theorem run_shrI {k ky : IntKind} {a : Int} {b : Nat} (hb : b ≤ k.bits) : (Op.shift .shr k a ky (b : Int)).run P w = .ok (.int k (a / 2 ^ b)) w := by
  have h1 : ¬ ((b : Int) < 0) := by omega
  simp only [Op.shift, h1, if_false, Int.toNat_natCast, Nat.min_eq_left hb]
  rw [Int.fdiv_eq_ediv_of_nonneg _ (Int.le_of_lt (Int.pow_pos (by decide)))]
  rfl
theorem d_shrI {x y : Operand} {k ky : IntKind} {a q : Int} {b : Nat} {t t' ty : TypeId} (hx : Ev l x (.int k a) := by exact rfl) (hy : Ev l y (.int ky q) := by exact rfl) (hq : q = (b : Int) := by exact rfl) (hb : b ≤ k.bits := by decide) :
    Does P l w (.binOp .shr t x y t') ty (.int k (a / 2 ^ b)) w := by
  intro ρ hρ d pos af g
  subst hq
  have e : (eqGuard .shr t x y (.int k a) (.int ky b)).run P w = .ok () w := rfl
  have e2 : (binOp .shr t (.int k a) (.int ky b)).run P w = .ok (.int k (a / 2 ^ b)) w := run_shrI (ky := ky) hb
  simp only [execOp, hρ _ _ hx, hρ _ _ hy, Sem.run_bind, e, Result.andThen_ok, e2]
  rfl
end
end Go.Proofs.YtjomihhpglojpaaGreatDoor
end
section
/- Structs of two numbers held against each other. -/
namespace Go.Proofs.YtjomihhpglojpaaGreatDoor
open Go.RowKit

section
variable {P : Program} {w : World} {l : List (Nat × Value)}
/-- A struct of two numbers of one kind. -/
structure PairT (P : Program) (t : TypeId) (k : IntKind) : Prop where
  it : ∃ f0 f1 : Field, P.underlying t = some (.struct (P.fieldsOf t)) ∧ P.fieldsOf t = #[f0, f1] ∧ f0.offset = 0 ∧ f1.offset = 1 ∧ ¬ f0.name = "_" ∧ ¬ f1.name = "_" ∧ P.underlying f0.type = some (.int k) ∧ P.underlying f1.type = some (.int k)
  held : P.stoodInHeld t = false
  guard : P.eqGuardType P.depth t = false
def isIntK (d : Option TypeDesc) (k : IntKind) : Bool := match d with | some (.int k') => k' == k | _ => false
theorem isIntK_eq {d : Option TypeDesc} {k : IntKind} (h : isIntK d k = true) : d = some (.int k) := by
  unfold isIntK at h
  split at h
  · rw [eq_of_beq h]
  · cases h
def pairB (P : Program) (t : TypeId) (k : IntKind) : Bool :=
  (match P.underlying t with
  | some (.struct fs) => (match fs.toList with
    | [f0, f1] => decide (f0.offset = 0) && decide (f1.offset = 1) && decide (¬ f0.name = "_") && decide (¬ f1.name = "_") && isIntK (P.underlying f0.type) k && isIntK (P.underlying f1.type) k
    | _ => false)
  | _ => false) && !P.stoodInHeld t && !P.eqGuardType P.depth t
theorem pairT_of {t : TypeId} {k : IntKind} (h : pairB P t k = true) : PairT P t k := by
  unfold pairB at h
  simp only [Bool.and_eq_true, Bool.not_eq_true'] at h
  obtain ⟨⟨h2, h3⟩, h4⟩ := h
  refine ⟨?_, h3, h4⟩
  split at h2
  · rename_i fs hu
    split at h2
    · rename_i f0 f1 he
      simp only [Bool.and_eq_true, decide_eq_true_eq] at h2
      obtain ⟨⟨⟨⟨⟨a, b⟩, c⟩, d⟩, e⟩, f⟩ := h2
      have hfs : P.fieldsOf t = fs := by simp [Program.fieldsOf, hu]
      exact ⟨f0, f1, by rw [hfs]; exact hu, by rw [hfs, ← Array.toList_inj, he], a, b, c, d, isIntK_eq e, isIntK_eq f⟩
    · cases h2
  · cases h2
theorem run_pair {t : TypeId} {k : IntKind} (h : PairT P t k) (a b c d : Int) : (Op.equalIn 10000 t (.agg #[.int k a, .int k b]) (.agg #[.int k c, .int k d])).run P w = .ok (decide (a = c ∧ b = d)) w := by
  obtain ⟨f0, f1, hU, hF, o0, o1, n0, n1, u0, u1⟩ := h.it
  rw [run_equalIn_agg w 9999 t _ _ hU h.held, hF]
  have p0 : ∀ x y : Int, (part f0.type #[.int k x, .int k y] 0).run P w = .ok (.int k x) w := fun x y => by simp [part, isAgg, run_underlying u0]
  have p1 : ∀ x y : Int, (part f1.type #[.int k x, .int k y] 1).run P w = .ok (.int k y) w := fun x y => by simp [part, isAgg, run_underlying u1]
  have e0 : (Op.equalIn 9999 f0.type (.int k a) (.int k c)).run P w = .ok (a == c) w := run_equalIn_int w 9998 _ k k a c u0
  have e1 : (Op.equalIn 9999 f1.type (.int k b) (.int k d)).run P w = .ok (b == d) w := run_equalIn_int w 9998 _ k k b d u1
  simp only [Op.eqFields, Sem.run_bind, o0, o1, p0, p1, e0, e1, Result.andThen_ok, ne_eq, n0, n1, not_false_eq_true, if_true]
  by_cases h0 : a = c
  · subst h0
    by_cases h1 : b = d
    · subst h1
      simp [p1, e1]
    · have h2 : (b == d) = false := by simpa using h1
      simp [p1, e1, h1, h2]
  · simp [h0]
theorem d_eqP {op : BinOp} {x y : Operand} {k : IntKind} {a b c d : Int} {r : Bool} {t t' ty : TypeId} (h : PairT P t k)
    (hx : Ev l x (.agg #[.int k a, .int k b]) := by exact rfl) (hy : Ev l y (.agg #[.int k c, .int k d]) := by exact rfl) (hr : (match op with | .eql => some (decide (a = c ∧ b = d)) | .neq => some (!decide (a = c ∧ b = d)) | _ => none) = some r := by exact rfl) : Does P l w (.binOp op t x y t') ty (.bool r) w := by
  intro ρ hρ d0 pos af g
  have key := run_pair (w := w) h a b c d
  cases op <;> simp only [Option.some.injEq, reduceCtorEq] at hr <;> subst hr
  · simp only [execOp, hρ _ _ hx, hρ _ _ hy, Sem.run_bind, run_eqGuard_agg w _ t x y _ _ h.guard, Result.andThen_ok, run_eql_struct, key]
    rfl
  · simp only [execOp, hρ _ _ hx, hρ _ _ hy, Sem.run_bind, run_eqGuard_agg w _ t x y _ _ h.guard, Result.andThen_ok, run_neq_struct, key]
    rfl
/-- .. the same pair. -/
theorem d_eqPs {x y : Operand} {k : IntKind} {a b : Int} {t t' ty : TypeId} (h : PairT P t k)
    (hx : Ev l x (.agg #[.int k a, .int k b]) := by exact rfl) (hy : Ev l y (.agg #[.int k a, .int k b]) := by exact rfl) : Does P l w (.binOp .eql t x y t') ty (.bool true) w :=
  d_to (d_eqP h hx hy rfl) (by simp)
end
end Go.Proofs.YtjomihhpglojpaaGreatDoor
end
section
/- An append of one element, and which of its two ways it goes: into the room behind, or into a new block. Plain lemmas over any program. -/
namespace Go.Proofs.YtjomihhpglojpaaGreatDoor
open Go.RowKit

section
variable {P : Program} {ops : Array Oper} {Q : Exit → Act → World → Prop} {a : Act} {w w' : World} {rest : List Oper} {N : Nat} {l : List (Nat × Value)}

theorem run_append_two (base : Nat) (t ty e : TypeId) (i : TypeInfo) (z : Value) (bytes : Nat) (ht : P.underlying t = some (.slice e)) (hi : P.info? e = some i) (hz : i.zero = some z)
    (hsize : i.size = 1) (hby : i.bytes = bytes) (hzs : z.cells.size = 1) (ao : Option Addr) (cap n : Nat) (xs : List Value) (hown : w.ownsRow base e 1 (.slice ao n cap) n xs)
    (ad : Addr) (c : Nat) (u : Value) (hu : w.cell? ad = some u) (h1 : u.oneCell' = true) (h63 : n + 1 ≤ maxLen) (hbytes : (n + 1) * bytes ≤ 140737488355328) (hbase : base ≤ w.heap.size) :
    ∃ ao' cap' w', (Builtin.append_ #[t, t] ty #[.slice ao n cap, .slice (some ad) 1 c]).run P w = .ok (.slice ao' (n + 1) cap') w' ∧ w'.ownsRow base e 1 (.slice ao' (n + 1) cap') (n + 1) (xs ++ [u]) ∧
      ((ao' = ao ∧ cap' = cap ∧ w.grownBy w' (Value.slice ao n cap).ownBlock) ∨ (ao' = some ⟨w.heap.size, 0, none⟩ ∧ w.grownBy w' none ∧ w.heap.size < w'.heap.size)) := by
  have hnews : ∀ j v, [u][j]? = some v → w.cell? (ad.add j) = some v := by
    intro j v hj
    match j, hj with
    | 0, hj => simp at hj; subst hj; simpa [Addr.add] using hu
  have h1' : ∀ v ∈ [u], v.oneCell' = true := by intro v hv; simp at hv; subst hv; exact h1
  obtain ⟨v', w', hr, hown', hgr, _, hat⟩ := run_append_own_at (P := P) w base t ty e i z 1 bytes ht hi hz hsize hby hzs (by decide) _ n xs hown ad 1 c [u] (by simp) hnews h1' h63 hbytes hbase
  obtain ⟨ao', cap', rfl, _, _⟩ := own_form hown'
  refine ⟨ao', cap', w', hr, hown', ?_⟩
  have hsrc : Src P i.size t (.slice (some ad) 1 c) 1 [u] w := by rw [hsize]; exact Src.ofSlice w ht ad 1 c [u] (by simp) hnews h1'
  by_cases hroom : n + 1 ≤ cap
  · left
    rcases hown.2 with ⟨h0, _⟩ | ⟨g, cap2, cur, h0, hb, hg, hle, hm, hsz, htk⟩
    · cases h0; omega
    · cases h0
      have hc : ∀ j, j < [u].length → (w.cell? ⟨g, 0 + n * i.size + j, none⟩).isSome = true := by
        intro j hj
        simp at hj
        subst hj
        rw [hsize]
        have : n < cur.size := by omega
        rw [show 0 + n * 1 + 0 = n by omega, cell_at hg (Array.getElem?_eq_getElem this)]
        rfl
      have hf : ∀ j, j < [u].length → w.frozen? ⟨g, 0 + n * i.size + j, none⟩ = false := fun j _ => free_at hg
      have hr2 := run_append_room_src (P := P) w t t ty e i ht hi g 0 n cap _ 1 [u] hsrc hroom hc hf
      rw [hr] at hr2
      cases hr2
      exact ⟨rfl, rfl, hgr⟩
  · right
    have hold : (Builtin.firstCells i.size n (.slice ao n cap)).run P w.drew = .ok xs.toArray w.drew := by
      rw [hsize]
      rcases hown.2 with ⟨h0, hx⟩ | ⟨g, cap2, cur, h0, hb, hg, hle, hm, hsz, htk⟩
      · cases h0
        obtain rfl : xs = [] := List.eq_nil_of_length_eq_zero (by have := hown.1; omega)
        simp [Builtin.firstCells]
      · cases h0
        have hl := hown.1
        rw [Nat.mul_one] at hl
        have := run_loadCells_list (P := P) (w := w.drew) ⟨g, 0, none⟩ xs (fun j v hj => by
          rw [addr_add]
          have hj' : j < xs.length := (List.getElem?_eq_some_iff.1 hj).1
          have h2 : (cur.toList.take (n * 1))[j]? = some v := by rw [htk]; exact hj
          rw [List.getElem?_take_of_lt (by omega)] at h2
          have : w.cell? ⟨g, 0 + j, none⟩ = some v := by rw [Nat.zero_add]; exact cell_at hg (by simpa using h2)
          exact this)
        rw [hl] at this
        simpa [Builtin.firstCells] using this
    have hfit : Builtin.nextslicecap (n + 1) cap * i.bytes ≤ 281474976710656 := by
      rw [hby]; exact growslice_fits (by omega) hbytes
    have hr2 := run_append_grow_src (P := P) w t t ty e i z ht hi hz ao n cap xs hold _ 1 [u] hsrc (by omega) (by unfold maxLen at h63; omega) hfit
    rw [hr] at hr2
    cases hr2
    exact ⟨rfl, ⟨rfl, rfl, rfl, by simp, fun k hk _ => heap_alloc_old w.drew _ hk⟩, by simp⟩
/-- A new element behind a row of the call's own, both ways told apart. -/
theorem st_push2 (h : Fr N l a) {d d' : Nat} {x : Operand} {s : Operand} {u z : Value} {t e ty ty' : TypeId} {pos pos' : String} {af af' : Array Edge} {bytes n base cap : Nat} {ao : Option Addr} {xs : List Value}
    (hU : P.underlying t = some (.slice e)) (hi : (P.info? e).map (fun i => (i.zero, i.size, i.bytes)) = some (some z, 1, bytes)) (hz : z.cells.size = 1)
    (hown : w.ownsRow base e 1 (.slice ao n cap) n xs) (hbd : (n + 1) * bytes ≤ 140737488355328) (hm : n + 1 ≤ maxLen) (hbase : base ≤ w.heap.size)
    (hx : Ev l x u := by exact rfl) (hs : Ev ((d, .slice (some ⟨w.heap.size, 0, none⟩) 1 1) :: l) s (.slice ao n cap) := by exact rfl) (hd : Nat.blt d N = true := by exact rfl) (hd' : Nat.blt d' N = true := by exact rfl) (hu : u.oneCell' = true := by exact rfl)
    (k : ∀ a' ao' cap' w', w'.ownsRow base e 1 (.slice ao' (n + 1) cap') (n + 1) (xs ++ [u]) → ((ao' = ao ∧ cap' = cap ∧ w.grownBy w' (Value.slice ao n cap).ownBlock) ∨ (∃ g, ao' = some ⟨g, 0, none⟩ ∧ w.heap.size ≤ g ∧ g < w'.heap.size ∧ w.grownBy w' none)) → Fr N ((d', .slice ao' (n + 1) cap') :: (d, .slice (some ⟨w.heap.size, 0, none⟩) 1 1) :: l) a' → wpList P ops Q rest a' w') :
    wpList P ops Q (⟨some d, .buildSlice t 1 [(0, x)].toArray, ty, pos, af, none⟩ :: ⟨some d', .call { callee := .builtin .append, args := [s, .tmp d].toArray, argTypes := [t, t].toArray }, ty', pos', af', none⟩ :: rest) a w := by
  have hv : u.cells = #[u] := by cases u <;> simp [Value.oneCell'] at hu <;> rfl
  refine st h (d_build1 hU hi hv hx) hd fun a1 h1 => ?_
  obtain ⟨i, g1, g2, g3, g4⟩ := info_parts hi
  obtain ⟨ao', cap', w', hr, hown', hway⟩ := run_append_two (P := P) (w := w.alloc (.cells #[u] e)) base t ty' e i z bytes hU g1 g2 g3 g4 hz ao cap n xs (hown.alloc _) ⟨w.heap.size, 0, none⟩ 1 u
    (cell_at (heap_alloc_new w _) rfl) hu hm hbd (by simp; omega)
  refine st h1 (v := .slice ao' (n + 1) cap') (w' := w') ?_ hd' fun a2 h2 => k a2 ao' cap' w' hown' ?_ h2
  · intro ρ hρ d2 pos af g
    have e1 : ρ s = .slice ao n cap := hρ _ _ hs
    have e2 := hρ (.tmp d) (.slice (some ⟨w.heap.size, 0, none⟩) 1 1) (by simp [Ev, look_cons])
    simp [execOp, resolve, invoke, builtin, e1, e2, hr]
  · rcases hway with ⟨e1, e2, hgr⟩ | ⟨e1, hgr, hlt⟩
    · exact .inl ⟨e1, e2, ⟨hgr.os, hgr.tape, hgr.output, by have := hgr.size; simp at this; omega, fun k hk hne => by rw [hgr.block k (by simp; omega) hne]; exact Below.heap_alloc _ _ _ hk⟩⟩
    · exact .inr ⟨_, e1, by simp, hlt, ⟨hgr.os, hgr.tape, hgr.output, by have := hgr.size; simp at this; omega, fun k hk hne => by rw [hgr.block k (by simp; omega) hne]; exact Below.heap_alloc _ _ _ hk⟩⟩
end
end Go.Proofs.YtjomihhpglojpaaGreatDoor
end
section
/- More on rows of the call's own. Plain lemmas over any program. -/
namespace Go.Proofs.YtjomihhpglojpaaGreatDoor
open Go.RowKit

theorem own_prefix {w : World} {base : Nat} {e : TypeId} {g N n c : Nat} {xs : List Value} (h : w.ownsRow base e 1 (.slice (some ⟨g, 0, none⟩) N c) N xs) (hn : n ≤ N) : w.ownsRow base e 1 (.slice (some ⟨g, 0, none⟩) n c) n (xs.take n) := by
  have hl := h.1
  rcases h.2 with ⟨h0, _⟩ | ⟨g', cap', cur, h0, hb, hg, hle, hm, hsz, htk⟩
  · cases h0
  · cases h0
    refine ⟨by simp; omega, .inr ⟨_, _, cur, rfl, hb, hg, by omega, hm, hsz, ?_⟩⟩
    rw [← htk, List.take_take]
    congr 1
    omega
/-- A row stays while another of another type is written. -/
theorem own_keptO {w w' : World} {base base' : Nat} {e e' : TypeId} {s s' : Nat} {v v' : Value} {n n' : Nat} {xs xs' : List Value} (h : w.ownsRow base e s v n xs) (h' : w.ownsRow base' e' s' v' n' xs') (hne : e ≠ e') (hgr : w.grownBy w' v'.ownBlock) : w'.ownsRow base e s v n xs := by
  refine h.kept hgr ?_
  rcases h.2 with ⟨rfl, _⟩ | ⟨g, cap, cur, rfl, _, hg, _⟩
  · exact Or.inl rfl
  · right
    rcases h'.2 with ⟨rfl, _⟩ | ⟨g2, cap2, cur2, rfl, _, hg2, _⟩
    · simp [Value.ownBlock]
    · intro x
      simp only [Value.ownBlock, Option.some.injEq] at x
      subst x
      rw [hg] at hg2
      cases hg2
      exact hne rfl
theorem own_rebase {w : World} {base base' : Nat} {e : TypeId} {s : Nat} {v : Value} {n : Nat} {xs : List Value} (h : w.ownsRow base e s v n xs) (hb : ∀ k, v.ownBlock = some k → base' ≤ k) : w.ownsRow base' e s v n xs := by
  refine ⟨h.1, ?_⟩
  rcases h.2 with h0 | ⟨g, cap, cur, rfl, _, r⟩
  · exact .inl h0
  · exact .inr ⟨g, cap, cur, rfl, hb g rfl, r⟩
/-- A row stays while a block is written that is not its own. -/
theorem own_keptB {w w' : World} {base : Nat} {e : TypeId} {s : Nat} {v : Value} {n : Nat} {xs : List Value} (h : w.ownsRow base e s v n xs) {r : Option Nat} (hgr : w.grownBy w' r) (hne : ∀ k, v.ownBlock = some k → r ≠ some k) : w'.ownsRow base e s v n xs := by
  refine h.kept hgr ?_
  cases hv : v.ownBlock with
  | none => exact Or.inl rfl
  | some k => right; intro x; exact hne k hv x.symm
theorem own_cells {w : World} {base : Nat} {e : TypeId} {g N c : Nat} {xs : List Value} (h : w.ownsRow base e 1 (.slice (some ⟨g, 0, none⟩) N c) N xs) {i : Nat} (hi : i < xs.length) : w.cell? ⟨g, 0 + i, none⟩ = some xs[i] := by
  have hl := h.1
  rw [Nat.mul_one] at hl
  rcases h.2 with ⟨h0, _⟩ | ⟨g', cap', cur, h0, hb, hg, hle, hm, hsz, htk⟩
  · cases h0
  · cases h0
    rw [Nat.zero_add]
    refine cell_at hg ?_
    have : (cur.toList.take (N * 1))[i]? = some xs[i] := by rw [htk]; simp [hi]
    rw [List.getElem?_take_of_lt (by omega)] at this
    simpa using this
/-- Rows of two types lie apart. -/
theorem own_apart {w : World} {base base' : Nat} {e e' : TypeId} {s s' : Nat} {v v' : Value} {n n' : Nat} {xs xs' : List Value} (h : w.ownsRow base e s v n xs) (h' : w.ownsRow base' e' s' v' n' xs') (hne : e ≠ e') {b b' : Nat} (hb : v.ownBlock = some b) (hb' : v'.ownBlock = some b') : b ≠ b' := by
  rcases h.2 with ⟨rfl, _⟩ | ⟨g, cap, cur, rfl, _, hg, _⟩
  · cases hb
  · rcases h'.2 with ⟨rfl, _⟩ | ⟨g2, cap2, cur2, rfl, _, hg2, _⟩
    · cases hb'
    · simp only [Value.ownBlock, Option.some.injEq] at hb hb'
      subst hb; subst hb'
      intro e0
      subst e0
      rw [hg] at hg2
      cases hg2
      exact hne rfl
end Go.Proofs.YtjomihhpglojpaaGreatDoor
end
