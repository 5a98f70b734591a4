/- A message as it is handed in. -/
import Derived.Test.YtjomihhpglojpaaMsg
namespace Go.Proofs.Ytjomihhpglojpaa
open Go.RowKit
set_option linter.unusedSimpArgs false
set_option linter.unusedVariables false
attribute [local irreducible] wpList wpQuiet wpStill Code.wp Exit.then Exit.inBlock bodyPost Calls Does Does0
open Go.ChangeShapes Go.WideShapes

theorem by_sig : Try.prog.bytesOf 42 = 176 := by kernel_rfl
theorem sz_msg : Try.prog.cellsOf 27 = 8 := by kernel_rfl
theorem sz_u32 : Try.prog.cellsOf 24 = 1 := by kernel_rfl
theorem sz_sigs : Try.prog.cellsOf 25 = 1 := by kernel_rfl
theorem sigs_of {H : Type} {enc : TypeId × Value → H} {w : World} {cs : List Value} (h : Rdw enc Try.prog w 25 cs) : ∃ ao n c ps, cs = [.slice ao n c] ∧ SigsIn w ao n c ps := by
  obtain ⟨ao, len, cap, rfl, hl, hm, hby, hel⟩ := h.slice (und _ _ rfl) (by rw [sz_sig]; decide)
  rw [by_sig] at hby
  have key : ∀ n, n ≤ len → ∃ ps : List SigT, ps.length = n ∧ RdS w ao 19 Sig.cells (ps.map (·.1)) ∧ ∀ p ∈ ps, SigIn w p.1 p.2 := by
    intro n
    induction n with
    | zero => intro _; exact ⟨[], rfl, fun i hi => absurd hi (Nat.not_lt_zero _), by simp⟩
    | succ n ih =>
      intro hn
      obtain ⟨ps, hsl, hrd, hin⟩ := ih (by omega)
      obtain ⟨b, o, cs', hao, hcl, hq, hr⟩ := hel n (by omega)
      obtain ⟨s, ss, rfl, hs⟩ := sig_of hr
      rw [sz_sig] at hq
      refine ⟨ps ++ [(s, ss)], by simp [hsl], fun i hi => ?_, fun x hx => ?_⟩
      · by_cases hin : i < n
        · obtain ⟨b', o', e1, e2⟩ := hrd i (by simp; omega)
          refine ⟨b', o', e1, ?_⟩
          have e3 : (List.map (·.1) (ps ++ [(s, ss)]))[i]'hi = (List.map (·.1) ps)[i]'(by simp; omega) := by
            simp only [List.map_append]
            rw [List.getElem_append_left (by simp; omega)]
          rw [e3]
          exact e2
        · have : i = n := by simp at hi; omega
          subst this
          refine ⟨b, o, hao, fun q v hv => ?_⟩
          have e3 : (List.map (·.1) (ps ++ [(s, ss)]))[i]'hi = s := by
            simp only [List.map_append]
            rw [List.getElem_append_right (by simp; omega)]
            simp [hsl]
          rw [e3] at hv
          have hlt : q < 19 := by
            have := (List.getElem?_eq_some_iff.1 hv).1
            rw [sigc_len] at this; exact this
          rw [hq q hlt]
          exact hv
      · rcases List.mem_append.1 hx with hx | hx
        · exact hin x hx
        · simp at hx; subst hx; exact hs
  obtain ⟨ps, h1, h2, h3⟩ := key len (Nat.le_refl _)
  exact ⟨ao, len, cap, ps, rfl, h1, h2, h3, hl, hby⟩

theorem msg_of {H : Type} {enc : TypeId × Value → H} {w : World} {cs : List Value} (h : Rdw enc Try.prog w 27 cs) : ∃ m ps, cs = Msg.cells m ∧ MsgIn w m ps := by
  have hl := h.rds.len (fld _ 0 _ _ rfl)
  rw [sz_msg] at hl
  obtain ⟨a0, a1, a2, a3, a4, a5, a6, a7, rfl⟩ : ∃ a0 a1 a2 a3 a4 a5 a6 a7, cs = [a0, a1, a2, a3, a4, a5, a6, a7] := by
    rcases cs with _ | ⟨a0, _ | ⟨a1, _ | ⟨a2, _ | ⟨a3, _ | ⟨a4, _ | ⟨a5, _ | ⟨a6, _ | ⟨a7, _ | ⟨a8, r⟩⟩⟩⟩⟩⟩⟩⟩⟩ <;> simp at hl
    exact ⟨_, _, _, _, _, _, _, _, rfl⟩
  have k0 := h.fld (fld _ 0 _ _ rfl); rw [sz_place] at k0
  have k1 := h.fld (fld _ 1 _ _ rfl); rw [sz_u32] at k1
  have k2 := h.fld (fld _ 2 _ _ rfl); rw [sz_bool] at k2
  have k3 := h.fld (fld _ 3 _ _ rfl); rw [sz_string] at k3
  have k4 := h.fld (fld _ 4 _ _ rfl); rw [sz_int] at k4
  have k5 := h.fld (fld _ 5 _ _ rfl); rw [sz_string] at k5
  have k6 := h.fld (fld _ 6 _ _ rfl); rw [sz_sigs] at k6
  have p0 := k0.fld (fld _ 0 _ _ rfl); rw [sz_int] at p0
  have p1 := k0.fld (fld _ 1 _ _ rfl); rw [sz_int] at p1
  obtain ⟨i0, e0, _⟩ := p0.rds.int (und _ _ rfl)
  obtain ⟨i1, e1, _⟩ := p1.rds.int (und _ _ rfl)
  obtain ⟨i2, e2, _⟩ := Rds.int k1.rds (und _ _ rfl)
  obtain ⟨i3, e3⟩ := Rds.bool k2.rds (und _ _ rfl)
  obtain ⟨i4, e4, _⟩ := Rds.string k3.rds (und _ _ rfl)
  obtain ⟨i5, e5, _⟩ := Rds.int k4.rds (und _ _ rfl)
  obtain ⟨i6, e6, _⟩ := Rds.string k5.rds (und _ _ rfl)
  obtain ⟨ao, n, c, ps, e7, hs⟩ := sigs_of k6
  simp only [List.drop_succ_cons, List.drop_zero, List.take_succ_cons, List.take_zero, List.cons.injEq, and_true] at e0 e1 e2 e3 e4 e5 e6 e7
  subst e0; subst e1; subst e2; subst e3; subst e4; subst e5; subst e6; subst e7
  exact ⟨⟨i0, i1, i2, i3, i4, i5, i6, ao, n, c⟩, ps, rfl, hs⟩
end Go.Proofs.Ytjomihhpglojpaa
