/- Laid together by a program of mine: PlacS. -/
import Derived.Test.YtjomihhpglojpaaDoorSumBPlacS31
import Derived.Test.YtjomihhpglojpaaDoorSumBPlacS32
set_option linter.unusedSimpArgs false
set_option linter.unusedVariables false
section
/- Copied signals, as a list. -/
namespace Go.Proofs.YtjomihhpglojpaaDoor
open Go.RowKit
set_option linter.unusedSimpArgs false
set_option linter.unusedVariables false
attribute [local irreducible] wpList wpQuiet wpStill Code.wp Exit.then Exit.inBlock bodyPost Calls Does Does0
set_option maxRecDepth 100000
theorem msgE_idx {m : Msg} {ps : List SigT} {i : Nat} (h : (msgE m ps).2 = some i) : i < ps.length := by
  unfold msgE at h
  split at h
  · cases h
  · unfold thenF at h
    split at h
    · rename_i k hk
      cases h
      exact (of_some hk).1
    · split at h
      · rename_i k hk
        cases h
        exact (of_some hk).1
      · split at h
        · rename_i k hk
          cases h
          exact (of_some hk).1
        · cases h
/-- The signals with their texts, zipped. -/
def zipP (ls : List Sig) (ps : List SigT) : List SigT := ls.zip (ps.map (·.2))
theorem zipP_len {ls : List Sig} {ps : List SigT} (h : ls.length = ps.length) : (zipP ls ps).length = ps.length := by simp [zipP, h]
theorem zipP_sg {ls : List Sig} {ps : List SigT} (h : ls.length = ps.length) {i : Nat} (hi : i < ps.length) : sg (zipP ls ps) i = ls.getD i sigM := by
  rw [sg_lt (by rw [zipP_len h]; exact hi)]
  simp [zipP, List.getD, h, hi]
theorem zipP_tx {ls : List Sig} {ps : List SigT} (h : ls.length = ps.length) {i : Nat} (hi : i < ps.length) : tx (zipP ls ps) i = tx ps i := by
  rw [tx_lt (by rw [zipP_len h]; exact hi), tx_lt hi]
  simp [zipP]
theorem zipP_map {ls : List Sig} {ps : List SigT} (h : ls.length = ps.length) : (zipP ls ps).map (·.1) = ls := by
  unfold zipP
  exact List.map_fst_zip (by simp [h])
/-- A row of signals of the call's own, each with its texts, is a list of signals. -/
theorem sigs_in {w : World} {base : Nat} {ao : Option Addr} {cap : Nat} {ls : List Sig} {ps : List SigT} (hl : ls.length = ps.length) (hown : w.ownsRow base 38 19 (.slice ao ps.length cap) ps.length (ls.flatMap Sig.cells))
    (ht : ∀ i, i < ps.length → SigIn w (ls.getD i sigM) (tx ps i)) (hby : ps.length * 176 ≤ 140737488351232) : SigsIn w ao ps.length cap (zipP ls ps) := by
  refine ⟨zipP_len hl, ?_, fun p hp => ?_, (own_cap' hown).1, hby⟩
  · rw [zipP_map hl]
    rcases Nat.eq_zero_or_pos ps.length with h0 | h0
    · intro i hi; omega
    · obtain ⟨g, rfl, _⟩ := own_some hown h0
      exact own_rdS sigc_len hown hl
  · obtain ⟨i, hi, rfl⟩ := List.getElem_of_mem hp
    have hi' : i < ps.length := by rw [zipP_len hl] at hi; exact hi
    have h1 := zipP_sg hl hi'
    have h2 := zipP_tx hl hi'
    rw [sg_lt hi] at h1
    rw [tx_lt hi] at h2
    rw [h1, h2]
    exact ht i hi'
/-- A copied signal. -/
theorem copy_sig {base : Nat} {w : World} {ps : List SigT} {ls : List Sig} {i : Nat} (hi : i < ps.length) (h : CopyOk base w ps ls i) (hs : SigIn w (sg ps i) (tx ps i)) : ∃ ao c, ls.getD i sigM = (sg ps i).cp ao c ∧ CopyT base w ao (sg ps i).toN c (tx ps i) ∧ SigIn w ((sg ps i).cp ao c) (tx ps i) := by
  obtain ⟨p, ao, c, h1, h2, h3⟩ := h
  have e : ps[i] = p := by rw [List.getElem?_eq_getElem hi] at h1; exact Option.some.inj h1
  rw [sg_lt hi, tx_lt hi] at *
  subst e
  have e2 := own_rd h3
  exact ⟨ao, c, by simp [List.getD, h2], h3, ⟨hs.len, e2.2, (own_cap' h3).1, hs.bytes⟩⟩
theorem sigB_cp {s : Sig} (h : SigB s) (ao : Option Addr) (c : Nat) : SigB (s.cp ao c) := ⟨h.sn, h.sd, h.fn, h.fd, h.mn, h.md, h.xn, h.xd, h.br⟩
theorem sigB_pl {s : Sig} (h : SigB s) (x y : Int) : SigB (s.pl x y) := ⟨h.sn, h.sd, h.fn, h.fd, h.mn, h.md, h.xn, h.xd, h.br⟩
theorem sigIn_pl {w : World} {s : Sig} {ss : List ByteArray} (h : SigIn w s ss) (x y : Int) : SigIn w (s.pl x y) ss := ⟨h.len, h.rd, h.cap, h.bytes⟩
theorem same_cp (s : Sig) (ao : Option Addr) (c : Nat) : SameSig (s.cp ao c) s := ⟨rfl, rfl, rfl, rfl, rfl, rfl, rfl, ⟨rfl, rfl, rfl, rfl, rfl, rfl, rfl, rfl⟩, rfl⟩
theorem same_pl (s : Sig) (ao : Option Addr) (c : Nat) (x y : Int) : SameSig ((s.cp ao c).pl x y) s := ⟨rfl, rfl, rfl, rfl, rfl, rfl, rfl, ⟨rfl, rfl, rfl, rfl, rfl, rfl, rfl, rfl⟩, rfl⟩
end Go.Proofs.YtjomihhpglojpaaDoor
end
