/- Nested arguments: what a slice within an argument reads as, and how great it may be. -/
import Derived.Test.YtjomihhpglojpaaLiftS
import Derived.SizedLaws
import Derived.Deep.Slices
namespace Go.Proofs.Ytjomihhpglojpaa
open Go.ChangeShapes Go.WideShapes Go.ChangeAt Go.RowKit Go.Deep

section
variable {H : Type} {enc : TypeId × Value → H} {P : Program} {w : World}

/-- The cells read as a value of the type, and no list or text in it is beyond the reach. -/
def Rdw (enc : TypeId × Value → H) (P : Program) (w : World) (t : TypeId) (cs : List Value) : Prop := ∃ fuel x, DataW.trod enc P w 0 (fun _ => true) true fuel t cs = some x ∧ ∀ n ∈ x.1.weights P t, n ≤ reachBytes
theorem rdw_of {t : TypeId} {v : Value} {d : DataW H} {ps : List MemPlace} (h : DataW.Trod enc P w 0 (fun _ => true) true t v d ps) (hw : ∀ n ∈ d.weights P t, n ≤ reachBytes) : Rdw enc P w t v.cells.toList := by
  obtain ⟨m, hm⟩ := h
  exact ⟨m, _, hm, hw⟩
theorem Rdw.rds {t : TypeId} {cs : List Value} (h : Rdw enc P w t cs) : Rds enc P w t cs := by
  obtain ⟨m, x, hm, _⟩ := h
  exact ⟨m, x, hm⟩
theorem Rdw.fld {s f off ft : Nat} {cs : List Value} (h : Rdw enc P w s cs) (hF : Fld P s f off ft) : Rdw enc P w ft ((cs.drop off).take (P.cellsOf ft)) := by
  obtain ⟨fuel, x, hx, hw⟩ := h
  obtain ⟨fields, fd, h1, h2, rfl, rfl⟩ := hF
  obtain ⟨xs, n, _, rfl, _, hl, hf⟩ := DataW.trod_struct h1 hx
  have h3 := hf f fd h2
  have hlt : f < xs.length := by
    have := (Array.getElem?_eq_some_iff.1 h2).1
    omega
  rw [List.getElem?_eq_getElem hlt] at h3
  refine ⟨n, _, h3, fun m hm => hw m ?_⟩
  rw [show DataW.weights P s (DataW.agg (xs.map (·.1))) = DataW.weightsEach P (fields.toList.map (·.type)) (xs.map (·.1)) by simp [DataW.weights, h1]]
  exact DataW.weights_mem_each (j := f) (t := fd.type) (d := xs[f].1) (by simp [h2]) (by simp [hlt]) m hm
theorem weightsAll_mem {e : TypeId} {n : Nat} : ∀ {ds : List (DataW H)} {d : DataW H}, d ∈ ds → n ∈ d.weights P e → n ∈ DataW.weightsAll P e ds
  | d0 :: ds, d, hd, hn => by
    simp only [DataW.weightsAll, List.mem_append]
    rcases List.mem_cons.1 hd with rfl | hd
    · exact .inl hn
    · exact .inr (weightsAll_mem hd hn)

/-- A slice that reads, element by element. -/
theorem Rdw.slice {t e : TypeId} {cs : List Value} (h : Rdw enc P w t cs) (ht : P.underlying t = some (.slice e)) (hc : 0 < P.cellsOf e) :
    ∃ ao len cap, cs = [.slice ao len cap] ∧ len ≤ cap ∧ cap ≤ maxLen ∧ cap * P.bytesOf e ≤ reachBytes ∧ (∀ i, i < len → ∃ b o cs', ao = some ⟨b, o, none⟩ ∧ cs'.length = P.cellsOf e ∧ (∀ q, q < P.cellsOf e → w.cell? ⟨b, o + i * P.cellsOf e + q, none⟩ = cs'[q]?) ∧ Rdw enc P w e cs') := by
  obtain ⟨fuel, x, hx, hw⟩ := h
  rcases open_slice ht hx with ⟨rfl, _⟩ | ⟨a, len, cap, m, n, D, Pl, rfl, _, hl, hm, hmm, rfl, hel⟩
  · exact ⟨none, 0, 0, rfl, Nat.le_refl _, Nat.zero_le _, by simp, fun i hi => absurd hi (Nat.not_lt_zero _)⟩
  · have hmm' : m = cap := by simpa using hmm
    subst hmm'
    have hws : DataW.weights P t (DataW.slice ((List.range len).map D) ((List.range (m - len)).map fun j => D (len + j))) = (len + (m - len)) * P.bytesOf e :: (DataW.weightsAll P e ((List.range len).map D) ++ DataW.weightsAll P e ((List.range (m - len)).map fun j => D (len + j))) := by
      simp [DataW.weights, ht]
    refine ⟨some a, len, m, rfl, hl, hm, ?_, fun i hi => ?_⟩
    · have := hw ((len + (m - len)) * P.bytesOf e) (by rw [hws]; simp)
      rwa [show len + (m - len) = m by omega] at this
    have h0 : a.spot = none := by
      obtain ⟨cs', h1, _⟩ := hel 0 (by omega)
      obtain ⟨_, hl', hq⟩ := World.cells?_some h1
      have := hq 0 hc
      have e0 : (a.add (0 * P.cellsOf e)).add 0 = a := by simp [Addr.add]
      rw [e0] at this
      have hlt : 0 < cs'.length := by omega
      rw [List.getElem?_eq_getElem hlt] at this
      have := spotless this
      rw [this]
    obtain ⟨b, o, s⟩ := a
    cases h0
    obtain ⟨cs', h1, h2⟩ := hel i (by omega)
    obtain ⟨_, hl', hq⟩ := World.cells?_some h1
    refine ⟨b, o, cs', rfl, hl', fun q hq' => ?_, n, _, h2, fun z hz => hw z ?_⟩
    · have := hq q hq'
      rw [addr_add, addr_add] at this
      exact this
    · rw [hws]
      simp only [List.mem_cons, List.mem_append]
      exact .inr (.inl (weightsAll_mem (List.mem_map.2 ⟨i, by simpa using hi, rfl⟩) hz))

/-- A slice of texts. -/
theorem Rdw.texts {t e : TypeId} {cs : List Value} (h : Rdw enc P w t cs) (ht : P.underlying t = some (.slice e)) (he : P.underlying e = some .string) (hc : P.cellsOf e = 1) :
    ∃ ao len cap, ∃ ss : List ByteArray, cs = [.slice ao len cap] ∧ ss.length = len ∧ len ≤ cap ∧ cap ≤ maxLen ∧ cap * P.bytesOf e ≤ reachBytes ∧ Rd w ao .string ss ∧ ∀ s ∈ ss, s.size ≤ maxLen := by
  obtain ⟨ao, len, cap, rfl, hl, hm, hby, hel⟩ := h.slice ht (by omega)
  have key : ∀ n, n ≤ len → ∃ ss : List ByteArray, ss.length = n ∧ Rd w ao .string ss ∧ ∀ s ∈ ss, s.size ≤ maxLen := by
    intro n
    induction n with
    | zero => intro _; exact ⟨[], rfl, fun i hi => absurd hi (Nat.not_lt_zero _), by simp⟩
    | succ n ih =>
      intro hn
      obtain ⟨ss, hsl, hrd, hsz⟩ := ih (by omega)
      obtain ⟨b, o, cs', hao, hcl, hq, hr⟩ := hel n (by omega)
      obtain ⟨s, rfl, hs⟩ := hr.rds.string he
      refine ⟨ss ++ [s], by simp [hsl], fun i hi => ?_, fun x hx => ?_⟩
      · by_cases hin : i < n
        · obtain ⟨b', o', e1, e2⟩ := hrd i (by omega)
          refine ⟨b', o', e1, ?_⟩
          rw [List.getElem_append_left (by omega)]
          exact e2
        · have : i = n := by simp at hi; omega
          subst this
          refine ⟨b, o, hao, ?_⟩
          have := hq 0 (by omega)
          rw [hc, Nat.mul_one, Nat.add_zero] at this
          rw [this, List.getElem_append_right (by omega)]
          simp [hsl]
      · rcases List.mem_append.1 hx with hx | hx
        · exact hsz x hx
        · simp at hx; subst hx; exact hs
  obtain ⟨ss, h1, h2, h3⟩ := key len (Nat.le_refl _)
  exact ⟨ao, len, cap, ss, rfl, h1, hl, hm, hby, h2, h3⟩
end
end Go.Proofs.Ytjomihhpglojpaa
