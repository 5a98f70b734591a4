/- A signal as it is handed in: all its cells, and its texts. -/
import Derived.Test.YtjomihhpglojpaaFacts
import Derived.Test.YtjomihhpglojpaaLiftD
namespace Go.Proofs.Ytjomihhpglojpaa
open Go.RowKit
set_option linter.unusedSimpArgs false
set_option linter.unusedVariables false
attribute [local irreducible] wpList wpQuiet wpStill Code.wp Exit.then Exit.inBlock bodyPost Calls Does Does0
open Go.ChangeShapes Go.WideShapes

/-- A signal's fields. -/
structure Sig where
  line : Int
  col : Int
  name : ByteArray
  role : Int
  branch : Int
  start : Int
  size : Int
  mot : Bool
  sgn : Bool
  sn : Int
  sd : Int
  fn : Int
  fd : Int
  mn : Int
  md : Int
  xn : Int
  xd : Int
  unit : ByteArray
  to : Option Addr
  toN : Nat
  toC : Nat
def Sig.cells (s : Sig) : List Value := [.int .i64 s.line, .int .i64 s.col, .string s.name, .int .i64 s.role, .int .u64 s.branch, .int .i64 s.start, .int .i64 s.size, .bool s.mot, .bool s.sgn, .int .i64 s.sn, .int .i64 s.sd, .int .i64 s.fn, .int .i64 s.fd, .int .i64 s.mn, .int .i64 s.md, .int .i64 s.xn, .int .i64 s.xd, .string s.unit, .slice s.to s.toN s.toC]
/-- A signal that is there: its texts. -/
structure SigIn (w : World) (s : Sig) (ss : List ByteArray) : Prop where
  len : ss.length = s.toN
  rd : Rd w s.to .string ss
  cap : s.toN ≤ s.toC
  bytes : s.toC * 16 ≤ 140737488351232
theorem SigIn.below {w w' : World} {s : Sig} {ss : List ByteArray} (h : SigIn w s ss) (hb : Below w.heap.size w w') : SigIn w' s ss := ⟨h.len, h.rd.below hb, h.cap, h.bytes⟩

theorem sz_sig : Try.prog.cellsOf 42 = 19 := by kernel_rfl
theorem sz_place : Try.prog.cellsOf 23 = 2 := by kernel_rfl
theorem sz_rat : Try.prog.cellsOf 39 = 2 := by kernel_rfl
theorem sz_int : Try.prog.cellsOf 3 = 1 := by kernel_rfl
theorem sz_i64 : Try.prog.cellsOf 2 = 1 := by kernel_rfl
theorem sz_u64 : Try.prog.cellsOf 28 = 1 := by kernel_rfl
theorem sz_bool : Try.prog.cellsOf 4 = 1 := by kernel_rfl
theorem sz_string : Try.prog.cellsOf 9 = 1 := by kernel_rfl
theorem sz_texts : Try.prog.cellsOf 40 = 1 := by kernel_rfl
theorem by_string : Try.prog.bytesOf 9 = 16 := by kernel_rfl

theorem sig_of {H : Type} {enc : TypeId × Value → H} {w : World} {cs : List Value} (h : Rdw enc Try.prog w 42 cs) : ∃ s ss, cs = Sig.cells s ∧ SigIn w s ss := by
  have hl := h.rds.len (fld _ 0 _ _ rfl)
  rw [sz_sig] at hl
  obtain ⟨a0, a1, a2, a3, a4, a5, a6, a7, a8, a9, a10, a11, a12, a13, a14, a15, a16, a17, a18, rfl⟩ : ∃ a0 a1 a2 a3 a4 a5 a6 a7 a8 a9 a10 a11 a12 a13 a14 a15 a16 a17 a18, cs = [a0, a1, a2, a3, a4, a5, a6, a7, a8, a9, a10, a11, a12, a13, a14, a15, a16, a17, a18] := by
    rcases cs with _ | ⟨a0, _ | ⟨a1, _ | ⟨a2, _ | ⟨a3, _ | ⟨a4, _ | ⟨a5, _ | ⟨a6, _ | ⟨a7, _ | ⟨a8, _ | ⟨a9, _ | ⟨a10, _ | ⟨a11, _ | ⟨a12, _ | ⟨a13, _ | ⟨a14, _ | ⟨a15, _ | ⟨a16, _ | ⟨a17, _ | ⟨a18, _ | ⟨a19, r⟩⟩⟩⟩⟩⟩⟩⟩⟩⟩⟩⟩⟩⟩⟩⟩⟩⟩⟩⟩ <;> simp at hl
    exact ⟨_, _, _, _, _, _, _, _, _, _, _, _, _, _, _, _, _, _, _, rfl⟩
  have two : ∀ {t f0 t0 f1 t1 : Nat} {x y : Value}, Rdw enc Try.prog w t [x, y] → Fld Try.prog t f0 0 t0 → Fld Try.prog t f1 1 t1 → Try.prog.cellsOf t0 = 1 → Try.prog.cellsOf t1 = 1 → Rdw enc Try.prog w t0 [x] ∧ Rdw enc Try.prog w t1 [y] := by
    intro t f0 t0 f1 t1 x y h g0 g1 c0 c1
    have r0 := h.fld g0
    have r1 := h.fld g1
    rw [c0] at r0
    rw [c1] at r1
    exact ⟨r0, r1⟩
  have k0 := h.fld (fld _ 0 _ _ rfl); rw [sz_place] at k0
  have k1 := h.fld (fld _ 1 _ _ rfl); rw [sz_string] at k1
  have k2 := h.fld (fld _ 2 _ _ rfl); rw [sz_int] at k2
  have k3 := h.fld (fld _ 3 _ _ rfl); rw [sz_u64] at k3
  have k4 := h.fld (fld _ 4 _ _ rfl); rw [sz_int] at k4
  have k5 := h.fld (fld _ 5 _ _ rfl); rw [sz_int] at k5
  have k6 := h.fld (fld _ 6 _ _ rfl); rw [sz_bool] at k6
  have k7 := h.fld (fld _ 7 _ _ rfl); rw [sz_bool] at k7
  have k8 := h.fld (fld _ 8 _ _ rfl); rw [sz_rat] at k8
  have k9 := h.fld (fld _ 9 _ _ rfl); rw [sz_rat] at k9
  have k10 := h.fld (fld _ 10 _ _ rfl); rw [sz_rat] at k10
  have k11 := h.fld (fld _ 11 _ _ rfl); rw [sz_rat] at k11
  have k12 := h.fld (fld _ 12 _ _ rfl); rw [sz_string] at k12
  have k13 := h.fld (fld _ 13 _ _ rfl); rw [sz_texts] at k13
  obtain ⟨p0, p1⟩ := two k0 (fld _ 0 _ _ rfl) (fld _ 1 _ _ rfl) sz_int sz_int
  obtain ⟨q0, q1⟩ := two k8 (fld _ 0 _ _ rfl) (fld _ 1 _ _ rfl) sz_i64 sz_i64
  obtain ⟨q2, q3⟩ := two k9 (fld _ 0 _ _ rfl) (fld _ 1 _ _ rfl) sz_i64 sz_i64
  obtain ⟨q4, q5⟩ := two k10 (fld _ 0 _ _ rfl) (fld _ 1 _ _ rfl) sz_i64 sz_i64
  obtain ⟨q6, q7⟩ := two k11 (fld _ 0 _ _ rfl) (fld _ 1 _ _ rfl) sz_i64 sz_i64
  obtain ⟨i0, e0, _⟩ := p0.rds.int (und _ _ rfl)
  obtain ⟨i1, e1, _⟩ := p1.rds.int (und _ _ rfl)
  obtain ⟨i2, e2, _⟩ := Rds.string k1.rds (und _ _ rfl)
  obtain ⟨i3, e3, _⟩ := Rds.int k2.rds (und _ _ rfl)
  obtain ⟨i4, e4, _⟩ := Rds.int k3.rds (und _ _ rfl)
  obtain ⟨i5, e5, _⟩ := Rds.int k4.rds (und _ _ rfl)
  obtain ⟨i6, e6, _⟩ := Rds.int k5.rds (und _ _ rfl)
  obtain ⟨i7, e7⟩ := Rds.bool k6.rds (und _ _ rfl)
  obtain ⟨i8, e8⟩ := Rds.bool k7.rds (und _ _ rfl)
  obtain ⟨i9, e9, _⟩ := q0.rds.int (und _ _ rfl)
  obtain ⟨i10, e10, _⟩ := q1.rds.int (und _ _ rfl)
  obtain ⟨i11, e11, _⟩ := q2.rds.int (und _ _ rfl)
  obtain ⟨i12, e12, _⟩ := q3.rds.int (und _ _ rfl)
  obtain ⟨i13, e13, _⟩ := q4.rds.int (und _ _ rfl)
  obtain ⟨i14, e14, _⟩ := q5.rds.int (und _ _ rfl)
  obtain ⟨i15, e15, _⟩ := q6.rds.int (und _ _ rfl)
  obtain ⟨i16, e16, _⟩ := q7.rds.int (und _ _ rfl)
  obtain ⟨i17, e17, _⟩ := Rds.string k12.rds (und _ _ rfl)
  obtain ⟨ao, len, cap, ss, e18, hsl, hle, hm, hby, hrd, _⟩ := Rdw.texts k13 (und _ _ rfl) (und _ _ rfl) sz_string
  simp only [List.drop_succ_cons, List.drop_zero, List.take_succ_cons, List.take_zero, List.cons.injEq, and_true] at e2 e3 e4 e5 e6 e7 e8 e17 e18
  cases e0; cases e1; subst e2; subst e3; subst e4; subst e5; subst e6; subst e7; subst e8; cases e9; cases e10; cases e11; cases e12; cases e13; cases e14; cases e15; cases e16; subst e17; subst e18
  rw [by_string] at hby
  exact ⟨⟨i0, i1, i2, i3, i4, i5, i6, i7, i8, i9, i10, i11, i12, i13, i14, i15, i16, i17, ao, len, cap⟩, ss, rfl, hsl, hrd, hle, hby⟩
end Go.Proofs.Ytjomihhpglojpaa
