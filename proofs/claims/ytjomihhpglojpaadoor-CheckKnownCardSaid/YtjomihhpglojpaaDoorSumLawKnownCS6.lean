/- Laid together by a program of mine: PushS Units Dec UnqL TFunc As Door ShV Door3 ValD TextW. -/
import Derived.Test.YtjomihhpglojpaaDoorSumLawKnownCS5
import Derived.Great.BuildSlice
import Derived.Test.YtjomihhpglojpaaDoorSumLawKnownCS3
import Derived.Lib.ValidLaws
import Derived.Lib.TrimUEq
import Derived.Laws.BytesArg
import Derived.Laws.IdiomStrings
import Derived.Lib.UnsafeStr
import Derived.Test.YtjomihhpglojpaaDoorChecked
import Derived.WalkKit
import Derived.LaidEql
import Derived.Stop.Asserts
import Derived.RowKitTokens
import Derived.Test.YtjomihhpglojpaaDoorRows
import Derived.ChangeSame
import Derived.ChangeVars
import Derived.JoinedOf
import Derived.RowKit
import Derived.LaidLaws
import Derived.LaidHandle
import Derived.Stop.Joined
import Derived.Shelf.Unicode.ValidAny
import Derived.Test.YtjomihhpglojpaaDoorProg
import Derived.KernelRfl
import Derived.Lib.LaidIn
import Derived.Lib.LaidU8T
import Derived.PinnedBridge
set_option linter.unusedSimpArgs false
set_option linter.unusedVariables false
section
/- An append of one struct to a row of structs of the call's own; what such a row holds. Plain lemmas over any program. -/
namespace Go.Proofs.YtjomihhpglojpaaDoor
open Go.RowKit

section
variable {P : Program} {ops : Array Oper} {Q : Exit → Act → World → Prop} {a : Act} {w w' : World} {rest : List Oper} {N : Nat} {l : List (Nat × Value)}

theorem d_build1S {x : Operand} {us : Array Value} {z : Value} {sz : Nat} {t e ty : TypeId} {by_ : Nat} (hU : P.underlying t = some (.slice e)) (hi : (P.info? e).map (fun i => (i.zero, i.size, i.bytes)) = some (some z, sz, by_)) (h0 : 0 < sz) (h1 : sz ≤ 16777216) (hus : us.size = sz)
    (hx : Ev l x (.agg us) := by exact rfl) : Does P l w (.buildSlice t 1 [(0, x)].toArray) ty (.slice (some ⟨w.heap.size, 0, none⟩) 1 1) (w.alloc (.cells us e)) := by
  intro ρ hρ d pos af g
  obtain ⟨i, g1, g2, g3, g4⟩ := info_parts hi
  subst g3
  have hf := Great.fill_whole (s := i.size) h0 [.agg us] ((Array.range (1 * i.size)).map (z.cells[· % z.cells.size]!)) (by intro v hv; simp at hv; subst hv; exact hus) (by simp)
  have e1 : ([Value.agg us].flatMap fun v => v.cells.toList).toArray = us := by simp [Value.cells]
  rw [e1] at hf
  have hr := run_buildSlice (P := P) w t e 1 #[(0, .agg us)] us i z hU g1 g2 (by omega) (by omega) (by simpa using hf)
  simp [execOp, hρ _ _ hx, hr]

/-- A struct behind a row of structs: the one-element slice and the append, both at once. -/
theorem st_pushS (h : Fr N l a) {d d' : Nat} {x : Operand} {s : Operand} {us : Array Value} {z : Value} {sz : Nat} {t e ty ty' : TypeId} {pos pos' : String} {af af' : Array Edge} {bytes n base cap : Nat} {ao : Option Addr} {xs : List Value}
    (hU : P.underlying t = some (.slice e)) (hi : (P.info? e).map (fun i => (i.zero, i.size, i.bytes)) = some (some z, sz, bytes)) (hz : z.cells.size = sz) (h0 : 0 < sz) (h1 : sz ≤ 16777216) (hus : us.size = sz) (hu : ∀ v ∈ us, v.oneCell' = true)
    (hown : w.ownsRow base e sz (.slice ao n cap) n xs) (hbd : (n + 1) * bytes ≤ 140737488355328) (hm : n + 1 ≤ maxLen) (hbase : base ≤ w.heap.size)
    (hx : Ev l x (.agg us) := by exact rfl) (hs : Ev ((d, .slice (some ⟨w.heap.size, 0, none⟩) 1 1) :: l) s (.slice ao n cap) := by exact rfl) (hd : Nat.blt d N = true := by exact rfl) (hd' : Nat.blt d' N = true := by exact rfl)
    (k : ∀ a' ao' cap' w', w'.ownsRow base e sz (.slice ao' (n + 1) cap') (n + 1) (xs ++ us.toList) → w.grownBy w' (Value.slice ao n cap).ownBlock → ((Value.slice ao' (n + 1) cap').ownBlock = (Value.slice ao n cap).ownBlock ∨ (Value.slice ao' (n + 1) cap').ownBlock = some (w.heap.size + 1)) → Fr N ((d', .slice ao' (n + 1) cap') :: (d, .slice (some ⟨w.heap.size, 0, none⟩) 1 1) :: l) a' → wpList P ops Q rest a' w') :
    wpList P ops Q (⟨some d, .buildSlice t 1 [(0, x)].toArray, ty, pos, af, none⟩ :: ⟨some d', .call { callee := .builtin .append, args := [s, .tmp d].toArray, argTypes := [t, t].toArray }, ty', pos', af', none⟩ :: rest) a w := by
  refine st h (d_build1S hU hi h0 h1 hus hx) hd fun a1 h1' => ?_
  obtain ⟨i, g1, g2, g3, g4⟩ := info_parts hi
  have hev : a1.eval (.tmp d) = .slice (some ⟨w.heap.size, 0, none⟩) 1 1 := h1'.eval _ _ (by simp [Ev, look_cons])
  refine wpList_append_own_at _ rfl s (.tmp d) t rfl base e i z sz bytes hU g1 g2 g3 g4 hz h0 (.slice ao n cap) n xs (h1'.eval _ _ hs) (hown.alloc _)
    ⟨w.heap.size, 0, none⟩ 1 1 us.toList hev (by simp [hus]) ?_ ?_ hm hbd (by simp; omega) ?_
  · intro j v hj
    rw [addr_add, Nat.zero_add]
    exact cell_at (heap_alloc_new w _) (by simpa using hj)
  · intro v hv; exact hu v (by simpa using hv)
  · intro v' w' hown' hgr hnil hat
    obtain ⟨ao', cap', rfl, _, _⟩ := own_form hown'
    refine k _ ao' cap' w' hown' ?_ (by simpa using hat) (h1'.put hd' _)
    exact ⟨hgr.os, hgr.tape, hgr.output, by have := hgr.size; simp at this; omega, fun k hk hne => by rw [hgr.block k (by simp; omega) hne]; exact Below.heap_alloc _ _ _ hk⟩

/-- A slice of structs that reads as xs: each element's cells lie there. -/
def RdS {α : Type} (w : World) (a : Option Addr) (sz : Nat) (enc : α → List Value) (xs : List α) : Prop :=
  ∀ i (h : i < xs.length), ∃ b o, a = some ⟨b, o, none⟩ ∧ ∀ q v, (enc xs[i])[q]? = some v → w.cell? ⟨b, o + i * sz + q, none⟩ = some v
theorem RdS.below {α : Type} {w w' : World} {a : Option Addr} {sz : Nat} {enc : α → List Value} {xs : List α} (h : RdS w a sz enc xs) (hb : Below w.heap.size w w') : RdS w' a sz enc xs := by
  intro i hi
  obtain ⟨b, o, ha, hc⟩ := h i hi
  exact ⟨b, o, ha, fun q v hq => (hb.cell (p := ⟨b, o + i * sz + q, none⟩) (World.block_lt_of_cell? w _ (hc q v hq))).trans (hc q v hq)⟩

theorem flat_get {α : Type} {enc : α → List Value} {sz : Nat} (he : ∀ x, (enc x).length = sz) : ∀ (xs : List α) (i : Nat) (h : i < xs.length) (q : Nat), q < sz → (xs.flatMap enc)[i * sz + q]? = (enc xs[i])[q]?
  | x :: xs, 0, _, q, hq => by
    rw [List.flatMap_cons, Nat.zero_mul, Nat.zero_add, List.getElem?_append_left (by rw [he]; exact hq)]
    rfl
  | x :: xs, i + 1, h, q, hq => by
    have h' : i < xs.length := by simpa using h
    rw [List.flatMap_cons, List.getElem?_append_right (by rw [he, Nat.add_mul]; omega)]
    rw [he, show (i + 1) * sz + q - sz = i * sz + q by rw [Nat.add_mul]; omega]
    simpa using flat_get he xs i h' q hq
/-- What a row of structs of the call's own holds. -/
theorem own_rdS {α : Type} {w : World} {base : Nat} {e : TypeId} {g cap n sz : Nat} {enc : α → List Value} {xs : List α} (he : ∀ x, (enc x).length = sz) (h : w.ownsRow base e sz (.slice (some ⟨g, 0, none⟩) n cap) n (xs.flatMap enc)) (hn : xs.length = n) : RdS w (some ⟨g, 0, none⟩) sz enc xs := by
  subst hn
  intro i hi
  refine ⟨g, 0, rfl, fun q v hq => ?_⟩
  have hq' : q < sz := by
    have := (List.getElem?_eq_some_iff.1 hq).1
    rw [he] at this; exact this
  rcases h.2 with ⟨h0, _⟩ | ⟨g', cap', cur, h0, hb, hg, hle, hm, hsz, htk⟩
  · cases h0
  · cases h0
    rw [Nat.zero_add]
    refine cell_at hg ?_
    have h1 := flat_get he xs i hi q hq'
    rw [hq, ← htk] at h1
    have hlt : i * sz + q < xs.length * sz := by
      have : (i + 1) * sz ≤ xs.length * sz := Nat.mul_le_mul_right _ (by omega)
      rw [Nat.add_mul, Nat.one_mul] at this
      omega
    rw [List.getElem?_take_of_lt hlt] at h1
    simpa using h1

theorem own_cap' {w : World} {base : Nat} {e : TypeId} {s : Nat} {ao : Option Addr} {cap n : Nat} {xs : List Value} (h : w.ownsRow base e s (.slice ao n cap) n xs) : n ≤ cap ∧ cap ≤ maxLen := by
  obtain ⟨_, _, h1, h2, h3⟩ := own_form h
  cases h1; exact ⟨h2, h3⟩
/-- The address of an element of many cells. -/
theorem d_indexAddrS {x i : Operand} {b o n c : Nat} {k : IntKind} {j : Nat} {q : Int} {t e ty : TypeId} {s : Nat} (hU : P.underlying t = some (.slice e)) (hs : (P.info? e).map (·.size) = some s)
    (hx : Ev l x (.slice (some ⟨b, o, none⟩) n c) := by exact rfl) (hi : Ev l i (.int k q) := by exact rfl) (hq : q = (j : Int) := by exact rfl) (hj : j < n := by omega) :
    Does P l w (.indexAddr t x i) ty (.pointer (some ⟨b, o + j * s, none⟩)) w := d_indexAddr hU hs hx hi hq hj
end
end Go.Proofs.YtjomihhpglojpaaDoor
end
section
/- The reference's units of a text. -/
namespace Go.Proofs.YtjomihhpglojpaaDoor
open Go.RowKit
set_option linter.unusedSimpArgs false
set_option linter.unusedVariables false
attribute [local irreducible] wpList wpQuiet wpStill Code.wp Exit.then Exit.inBlock bodyPost Calls Does Does0

/-- Is the rune read at p the sign for bytes that are none? -/
def illB (s : ByteArray) (p : Nat) : Bool :=
  (((Utf8.decode s p).1 : Int) == 65533) && (decide (s.size ≤ p + 2) || ((s.get! p).toNat != 239) || ((s.get! (p + 1)).toNat != 191) || ((s.get! (p + 2)).toNat != 189))
theorem get_at {s : ByteArray} {j : Nat} (h : j < s.size) : s[j]? = some (s.get! j) := by
  have e : s.get! j = s[j] := by
    cases s with
    | mk d =>
      have h' : j < d.size := h
      show d[j]! = d[j]
      simp [h']
  rw [e]; simp [h]

end Go.Proofs.YtjomihhpglojpaaDoor
end
section
/- How wide a rune is that was read, and when a source is bad: plain laws. -/
namespace Go.Proofs.YtjomihhpglojpaaDoor
open Go.RowKit

def dec4 (b0 b1 b2 b3 : Nat) (c1 c2 c3 : Bool) : Nat × Nat :=
  if b0 < 0x80 then (b0, 1)
  else if b0 / 32 == 6 && c1 then
    let c := (b0 % 32) * 64 + b1 % 64
    if c ≥ 0x80 then (c, 2) else (65533, 1)
  else if b0 / 16 == 14 && c1 && c2 then
    let c := (b0 % 16) * 4096 + (b1 % 64) * 64 + b2 % 64
    if c ≥ 0x800 && Utf8.valid c then (c, 3) else (65533, 1)
  else if b0 / 8 == 30 && c1 && c2 && c3 then
    let c := (b0 % 8) * 262144 + (b1 % 64) * 4096 + (b2 % 64) * 64 + b3 % 64
    if c ≥ 0x10000 && Utf8.valid c then (c, 4) else (65533, 1)
  else (65533, 1)
def cnt (s : ByteArray) (i k : Nat) : Bool := i + k < s.size && (s.get! (i + k)).toNat / 64 == 2
theorem decode_4 (s : ByteArray) (i : Nat) : Utf8.decode s i = dec4 (s.get! (i + 0)).toNat (s.get! (i + 1)).toNat (s.get! (i + 2)).toNat (s.get! (i + 3)).toNat (cnt s i 1) (cnt s i 2) (cnt s i 3) := rfl
set_option maxHeartbeats 4000000 in
theorem ill_dec4 (n i b0 b1 b2 b3 : Nat) (c1 c2 c3 : Bool) (h1 : c1 = (decide (i + 1 < n) && b1 / 64 == 2)) (h2 : c2 = (decide (i + 2 < n) && b2 / 64 == 2)) (h : (dec4 b0 b1 b2 b3 c1 c2 c3).1 = 65533) :
    (dec4 b0 b1 b2 b3 c1 c2 c3).2 = if i + 2 < n ∧ b0 = 239 ∧ b1 = 191 ∧ b2 = 189 then 3 else 1 := by
  subst h1 h2
  revert h
  unfold dec4
  simp only [Bool.and_eq_true, decide_eq_true_eq, beq_iff_eq]
  split
  · intro h; simp only at h; rw [if_neg (by omega)]
  split
  · split
    · intro h; simp only at h; omega
    · intro h; rw [if_neg (by omega)]
  split
  · rename_i hc
    split
    · intro h; simp only at h; rw [if_pos (by omega)]
    · rename_i hv
      intro h
      rw [if_neg]
      rintro ⟨h1, rfl, rfl, rfl⟩
      exact hv (by decide)
  split
  · split
    · intro h; simp only at h; omega
    · intro h; rw [if_neg (by omega)]
  · rename_i h1 h2 h3 h4
    intro h
    rw [if_neg]
    rintro ⟨h5, rfl, rfl, rfl⟩
    exact h3 ⟨⟨by decide, by omega, by decide⟩, by omega, by decide⟩
theorem ill_w (s : ByteArray) (i : Nat) (h : (Utf8.decode s i).1 = 65533) : (Utf8.decode s i).2 = if i + 2 < s.size ∧ (s.get! i).toNat = 239 ∧ (s.get! (i + 1)).toNat = 191 ∧ (s.get! (i + 2)).toNat = 189 then 3 else 1 := by
  rw [decode_4] at h ⊢
  exact ill_dec4 s.size i _ _ _ _ _ _ _ rfl rfl h
def ctl (r : Int) : Bool := decide (r < 32 ∨ r = 127)
theorem uMono (s : ByteArray) (i : Nat) : ∀ d, (uSt s i).1 ≤ (uSt s (i + d)).1
  | 0 => Nat.le_refl _
  | d + 1 => Nat.le_trans (uMono s i d) (by rw [← Nat.add_assoc, uSt_fst]; omega)
theorem uEnd {s : ByteArray} {K k : Nat} (hK : ¬ (uSt s K).1 < s.size) (hk : (uSt s k).1 < s.size) : k < K := by
  rcases Nat.lt_or_ge k K with h | h
  · exact h
  · have := uMono s K (k - K)
    rw [Nat.add_sub_cancel' h] at this
    omega
/-- Does the text from i begin so? -/
theorem extract_get (s : ByteArray) (i j : Nat) (hj : j ≤ s.size) (k : Nat) (hk : i + k < j) : (s.extract i j).get! k = s.get! (i + k) := by
  have h1 : k < (s.extract i j).size := by simp [ByteArray.size_extract]; omega
  have e1 := get_at h1
  have e2 := get_at (s := s) (j := i + k) (by omega)
  have e3 : (s.extract i j)[k] = s[i + k]'(by omega) := by simp [ByteArray.getElem_extract]
  have e4 : (s.extract i j)[k]? = some (s.extract i j)[k] := by simp [h1]
  have e5 : s[i + k]? = some (s[i + k]'(by omega)) := by simp [show i + k < s.size by omega]
  rw [e4] at e1; rw [e5] at e2
  have f1 := Option.some.inj e1
  have f2 := Option.some.inj e2
  rw [← f1, ← f2, e3]
theorem pre3g (s : ByteArray) (i : Nat) (b0 b1 b2 : UInt8) (h : i + 2 < s.size) : ((s.extract i s.size).extract 0 3 = ⟨#[b0, b1, b2]⟩) ↔ (s.get! i = b0 ∧ s.get! (i + 1) = b1 ∧ s.get! (i + 2) = b2) := by
  have hz : (s.extract i s.size).size = s.size - i := by simp [ByteArray.size_extract]
  have hz3 : ((s.extract i s.size).extract 0 3).size = 3 := by simp [ByteArray.size_extract]; omega
  have g : ∀ k, k < 3 → ((s.extract i s.size).extract 0 3).get! k = s.get! (i + k) := fun k hk => by
    rw [extract_get _ 0 3 (by omega) k (by omega), Nat.zero_add, extract_get _ _ _ (Nat.le_refl _) k (by omega)]
  have g0 := g 0 (by decide)
  have g1 := g 1 (by decide)
  have g2 := g 2 (by decide)
  rw [Nat.add_zero] at g0
  constructor
  · intro e
    rw [e] at g0 g1 g2
    exact ⟨g0.symm, g1.symm, g2.symm⟩
  · rintro ⟨h0, h1, h2⟩
    rw [← h0, ← h1, ← h2, ← g0, ← g1, ← g2]
    generalize (s.extract i s.size).extract 0 3 = u at hz3
    rcases u with ⟨d⟩
    have hd : d.size = 3 := hz3
    rcases d with ⟨l⟩
    match l, hd with
    | [x, y, z], _ => rfl
theorem u8eq (b : UInt8) (n : Nat) (c : UInt8) (hc : c.toNat = n) : b = c ↔ b.toNat = n := by
  rw [← hc]; exact UInt8.toNat_inj.symm
theorem pre3 (s : ByteArray) (i : Nat) (h : i + 2 < s.size) : ((s.extract i s.size).extract 0 3 = ⟨#[239, 191, 189]⟩) ↔ ((s.get! i).toNat = 239 ∧ (s.get! (i + 1)).toNat = 191 ∧ (s.get! (i + 2)).toNat = 189) := by
  rw [pre3g s i 239 191 189 h, u8eq _ 239 239 (by decide), u8eq _ 191 191 (by decide), u8eq _ 189 189 (by decide)]
/-- The text from i begins with the sign for bytes that are none, spelt out. -/
def fffd (s : ByteArray) (i : Nat) : Bool := decide (3 ≤ (s.extract i s.size).size) && decide ((s.extract i s.size).extract 0 3 = ⟨#[239, 191, 189]⟩)
theorem fffd_iff (s : ByteArray) (i : Nat) : fffd s i = true ↔ (i + 2 < s.size ∧ (s.get! i).toNat = 239 ∧ (s.get! (i + 1)).toNat = 191 ∧ (s.get! (i + 2)).toNat = 189) := by
  have hz : (s.extract i s.size).size = s.size - i := by simp [ByteArray.size_extract]
  unfold fffd
  rw [Bool.and_eq_true, decide_eq_true_eq, decide_eq_true_eq, hz]
  constructor
  · rintro ⟨h1, h2⟩
    have h : i + 2 < s.size := by omega
    exact ⟨h, (pre3 s i h).1 h2⟩
  · rintro ⟨h1, h2⟩
    exact ⟨by omega, (pre3 s i h1).2 h2⟩
theorem wide_ill {s : ByteArray} {i : Nat} (h : (Utf8.decode s i).1 = 65533) : (Utf8.decode s i).2 = (if fffd s i = true then 3 else 1) ∧ illB s i = !fffd s i := by
  constructor
  · rw [ill_w s i h]
    simp only [fffd_iff]
  · rw [Bool.eq_iff_iff, Bool.not_eq_true', ← Bool.not_eq_true, fffd_iff]
    unfold illB
    rw [h]
    simp only [Bool.and_eq_true, Bool.or_eq_true, decide_eq_true_eq, bne_iff_ne, ne_eq, beq_iff_eq]
    omega
theorem ill_no {s : ByteArray} {i : Nat} (h : (Utf8.decode s i).1 ≠ 65533) : illB s i = false := by
  unfold illB
  have : ((((Utf8.decode s i).1 : Nat) : Int) == 65533) = false := beq_eq_false_iff_ne.2 (by omega)
  rw [this]; rfl
section
variable {P : Program} {w : World} {l : List (Nat × Value)}
end
end Go.Proofs.YtjomihhpglojpaaDoor
end
section
/- What may be quoted, and what Unquote answers: plain laws. -/
namespace Go.Proofs.YtjomihhpglojpaaDoor
open Go.RowKit

theorem ill_iff {s : ByteArray} {i : Nat} : ((Utf8.decode s i).1 = 65533 ∧ (Utf8.decode s i).2 = 1) ↔ illB s i = true := by
  by_cases h : (Utf8.decode s i).1 = 65533
  · obtain ⟨h1, h2⟩ := wide_ill h
    rw [h1, h2]
    cases fffd s i <;> simp [h]
  · rw [ill_no h]; simp [h]
theorem valid_from (s : ByteArray) : ∀ (m k : Nat), s.size - (uSt s k).1 ≤ m → (Lib.validD (s.data.toList.drop (uSt s k).1) = true ↔ ∀ j, k ≤ j → (uSt s j).1 < s.size → illB s (uSt s j).1 = false) := by
  intro m
  induction m with
  | zero =>
    intro k hm
    have hd : s.data.toList.drop (uSt s k).1 = [] := List.drop_eq_nil_of_le (by show s.data.toList.length ≤ _; rw [Array.length_toList]; show s.size ≤ _; omega)
    rw [hd]
    refine ⟨fun _ j hj hlt => ?_, fun _ => rfl⟩
    have := uMono s k (j - k)
    rw [Nat.add_sub_cancel' hj] at this
    omega
  | succ m ih =>
    intro k hm
    by_cases hlt : (uSt s k).1 < s.size
    · have hne : s.data.toList.drop (uSt s k).1 ≠ [] := by
        intro e
        have := congrArg List.length e
        simp only [List.length_drop, Array.length_toList, List.length_nil] at this
        have e2 : s.data.size = s.size := rfl
        omega
      rw [Lib.validD_step _ hne, Lib.decodeL_drop, List.drop_drop, ← uSt_fst]
      have hstep := uSt_lt s k hlt
      have ihk := ih (k + 1) (by omega)
      by_cases hb : illB s (uSt s k).1 = true
      · rw [if_pos (ill_iff.2 hb)]
        constructor
        · intro h; cases h
        · intro h; have := h k (Nat.le_refl _) hlt; rw [hb] at this; cases this
      · rw [if_neg (fun h => hb (ill_iff.1 h)), ihk]
        constructor
        · intro h j hj hl
          by_cases e : j = k
          · subst e; exact Bool.eq_false_iff.2 hb
          · exact h j (by omega) hl
        · intro h j hj hl; exact h j (by omega) hl
    · have hd : s.data.toList.drop (uSt s k).1 = [] := List.drop_eq_nil_of_le (by rw [Array.length_toList]; show s.size ≤ _; omega)
      rw [hd]
      refine ⟨fun _ j hj hl => ?_, fun _ => rfl⟩
      have := uMono s k (j - k)
      rw [Nat.add_sub_cancel' hj] at this
      omega
/-- A text without bytes that are no rune. -/
theorem valid_iff (s : ByteArray) : Lib.validD s.data.toList = true ↔ ∀ j, (uSt s j).1 < s.size → illB s (uSt s j).1 = false := by
  have := valid_from s s.size 0 (by omega)
  rw [show (uSt s 0).1 = 0 from rfl, List.drop_zero] at this
  rw [this]
  exact ⟨fun h j hl => h j (Nat.zero_le _) hl, fun h j _ hl => h j hl⟩
/-- Every unit may be in a text that is quoted. -/
def AllOk (s : ByteArray) : Prop := ∀ k, (uSt s k).1 < s.size → illB s (uSt s k).1 = false ∧ ctl (uR s k) = false
def MayR (s : ByteArray) (n : Int) : Prop := (1024 < s.size ∧ n = 5) ∨ (s.size ≤ 1024 ∧ ((AllOk s ∧ n = 0) ∨ (¬ AllOk s ∧ n = 6)))
theorem may_one {s : ByteArray} {m n : Int} (h : MayR s m) (k : MayR s n) : m = n := by
  rcases h with ⟨h1, h2⟩ | ⟨h1, ⟨h2, h3⟩ | ⟨h2, h3⟩⟩ <;> rcases k with ⟨k1, k2⟩ | ⟨k1, ⟨k2, k3⟩ | ⟨k2, k3⟩⟩ <;> first | omega | exact absurd h2 k2 | exact absurd k2 h2
/-- The walk over what is quoted: the byte, and what was read. -/
def sc (s : ByteArray) : Nat → Nat × List UInt8
  | 0 => (1, [])
  | k + 1 => if (s.get! (sc s k).1).toNat = 92 then ((sc s k).1 + 2, (sc s k).2 ++ [s.get! ((sc s k).1 + 1)]) else ((sc s k).1 + 1, (sc s k).2 ++ [s.get! (sc s k).1])
end Go.Proofs.YtjomihhpglojpaaDoor
end
section
/- strings.ContainsFunc at check.text's function: walked. -/
namespace Go.Proofs.YtjomihhpglojpaaDoor
open Go.RowKit
set_option linter.unusedSimpArgs false
set_option linter.unusedVariables false
attribute [local irreducible] wpList wpQuiet wpStill Code.wp Exit.then Exit.inBlock bodyPost Calls Does Does0

theorem text1_ok (w : World) (r : Int) : Ret Tryd.prog 77 #[.int .i32 r] w (fun v w' => v = .bool (ctl r) ∧ w' = w) := by
  refine enter1 Tryd.func77 rfl 8 rfl 9 rfl (fun a hF => ?_)
  unfold ctl
  by_cases h1 : r < 32
  · repeat (first | refine c_seq ?_ | refine c_region _ ?_ | refine wpList_nil ?_ | refine c_then ?_ | refine wp_ret ?_ | ((apply st hF); (first | exact d_move | exact d_assign | exact d_pickT | exact d_cmpT); clear hF; clear a; intro a hF) | ((apply stm hF); clear hF; clear a; intro a hF))
    exact ret1 hF rfl rfl ⟨by rw [decide_eq_true (.inl h1)], rfl⟩
  · by_cases h2 : r = 127
    · repeat (first | refine c_seq ?_ | refine c_region _ ?_ | refine wpList_nil ?_ | refine c_then ?_ | refine wp_ret ?_ | ((first | apply st hF | apply stg hF); (first | exact d_move | exact d_assign | exact d_pickF | exact d_cmpT | exact d_cmpF); clear hF; clear a; intro a hF))
      exact ret1 hF rfl rfl ⟨by rw [decide_eq_true (.inr h2)], rfl⟩
    · repeat (first | refine c_seq ?_ | refine c_region _ ?_ | refine wpList_nil ?_ | refine c_then ?_ | refine wp_ret ?_ | ((first | apply st hF | apply stg hF); (first | exact d_move | exact d_assign | exact d_pickF | exact d_cmpF); clear hF; clear a; intro a hF))
      exact ret1 hF rfl rfl ⟨by rw [decide_eq_false (by omega)], rfl⟩
set_option maxHeartbeats 4000000 in
theorem idx_ok (w : World) (s : ByteArray) : Ret Tryd.prog 114 #[.string s, .func (.func 77) #[] #[], .bool true] w (fun v w' => (∃ p : Int, v = .int .i64 p ∧ ((0 ≤ p ∧ ∃ k, (uSt s k).1 < s.size ∧ ctl (uR s k) = true) ∨ (p = -1 ∧ ∀ k, (uSt s k).1 < s.size → ctl (uR s k) = false))) ∧ Below w.heap.size w w') := by
  refine enter3 Tryd.func114 rfl 18 rfl 21 rfl (fun a hF => ?_)
  repeat (first | refine c_seq ?_ | refine c_region _ ?_ | refine wpList_nil ?_ | refine c_then ?_ | ((apply st hF); (first | exact d_move | exact d_assign); clear hF; clear a; intro a hF))
  refine st_range hF (und _ _ rfl) (k := fun a w1 hit hgr1 hsz1 hF => ?_)
  have hb1 : Below w.heap.size w w1 := (Below.refl _ w).grown hgr1 (Nat.le_refl _) (fun k hk => by cases hk)
  repeat (first | refine c_block ?_ | refine wpList_nil ?_ | refine c_then ?_)
  refine c_loop (fun q a wr => ∃ k : Nat, (∀ j, j < k → (uSt s j).1 < s.size ∧ ctl (uR s j) = false) ∧ q = s.size - (uSt s k).1 ∧ Fr 21 [(0, .string s), (1, .func (.func 77) #[] #[]), (2, .bool true), (10, .pointer (some ⟨w.heap.size, 0, none⟩))] a ∧ IterAt wr w.heap.size s (uSt s k).1 ∧ Below w.heap.size w wr) s.size
    ⟨0, fun j hj => absurd hj (Nat.not_lt_zero _), rfl, hF.keep' ⟨rfl, rfl, rfl, rfl, trivial⟩, hit, hb1⟩ ?_
  clear hF a hit hb1
  rintro q a wr ⟨k, hpre, rfl, hF, hit, hbel⟩
  have hsz := hbel.size
  by_cases hlt : (uSt s k).1 < s.size
  · have hstep := uSt_fst s k
    have hlt2 := uSt_lt s k hlt
    repeat (first | refine c_seq ?_ | refine c_region _ ?_)
    refine st_next hF hit hlt (k := fun a w2 hit2 hgr2 hsz2 hF => ?_)
    rw [← hstep] at hit2
    have hbel2 : Below w.heap.size w w2 := hbel.grown hgr2 hsz (fun k hk => by cases hk; exact Nat.le_refl _)
    repeat (first | refine c_seq ?_ | refine c_block ?_ | refine c_region _ ?_ | refine wpList_nil ?_ | refine c_then ?_ | refine wp_skip ?_ | ((apply st hF); (first | exact d_move | exact d_assign | exact d_extract); clear hF; clear a; intro a hF) | (apply c_cond_t hF; exact rfl; first | exact rfl | assumption))
    refine stcv hF (cs := []) (vs := [.int .i32 (uR s k)]) (text1_ok w2 (uR s k)) cal77 ⟨rfl, trivial⟩ (k := fun a v w3 hR hF => ?_)
    obtain ⟨rfl, rfl⟩ := hR
    cases hc : ctl (uR s k) with
    | true =>
      rw [hc] at hF
      repeat (first | refine c_seq ?_ | refine c_region _ ?_ | refine wpList_nil ?_ | refine c_then ?_ | refine c_then_ret ?_ | refine c_in_ret ?_ | refine wp_ret ?_ | ((apply st hF); (first | exact d_move | exact d_assign | exact d_eqbT (und _ _ rfl)); clear hF; clear a; intro a hF) | (apply c_cond_t hF; exact rfl; first | exact rfl | assumption))
      exact ret1 hF rfl rfl ⟨⟨_, rfl, .inl ⟨Int.natCast_nonneg _, k, hlt, hc⟩⟩, hbel2⟩
    | false =>
      rw [hc] at hF
      repeat (first | refine wpList_nil ?_ | refine c_then ?_ | refine c_in ?_ | refine wp_skip ?_ | ((apply st hF); (first | exact d_move | exact d_eqbF (und _ _ rfl)); clear hF; clear a; intro a hF) | (apply c_cond_f hF; exact rfl; first | exact rfl | assumption))
      exact ⟨s.size - (uSt s (k + 1)).1, by omega, k + 1, fun j hj => by
        by_cases e : j = k
        · subst e; exact ⟨hlt, hc⟩
        · exact hpre j (by omega), rfl, hF.keep' ⟨rfl, rfl, rfl, rfl, trivial⟩, hit2, hbel2⟩
  · repeat (first | refine c_seq ?_ | refine c_region _ ?_)
    refine st_nextE hF hit hlt (k := fun a hF => ?_)
    repeat (first | refine c_seq ?_ | refine c_region _ ?_ | refine wpList_nil ?_ | refine c_then ?_ | refine c_then_exit ?_ | refine c_in_hit ?_ | refine wp_exit ?_ | refine wp_ret ?_ | ((apply st hF); (first | exact d_assign | exact d_extract); clear hF; clear a; intro a hF) | (apply c_cond_f hF; exact rfl; first | exact rfl | assumption))
    exact ret1 hF rfl rfl ⟨⟨_, rfl, .inr ⟨rfl, fun j hj => (hpre j (uEnd hlt hj)).2⟩⟩, hbel⟩
theorem idxF_ok (w : World) (s : ByteArray) : Ret Tryd.prog 99 #[.string s, .func (.func 77) #[] #[]] w (fun v w' => (∃ p : Int, v = .int .i64 p ∧ ((0 ≤ p ∧ ∃ k, (uSt s k).1 < s.size ∧ ctl (uR s k) = true) ∨ (p = -1 ∧ ∀ k, (uSt s k).1 < s.size → ctl (uR s k) = false))) ∧ Below w.heap.size w w') := by
  refine enter2 Tryd.func99 rfl 6 rfl 8 rfl (fun a hF => ?_)
  repeat (first | refine c_seq ?_ | refine c_region _ ?_ | refine wpList_nil ?_ | refine c_then ?_ | ((apply st hF); (first | exact d_move | exact d_assign); clear hF; clear a; intro a hF))
  refine stc hF (idx_ok w s) cal114 ⟨rfl, rfl, rfl, trivial⟩ (k := fun a v w1 hR hF => ?_)
  obtain ⟨⟨p, rfl, hp⟩, hb⟩ := hR
  repeat (first | refine wpList_nil ?_ | refine c_then ?_ | refine wp_ret ?_ | ((apply st hF); (exact d_assign); clear hF; clear a; intro a hF))
  exact ret1 hF rfl rfl ⟨⟨_, rfl, hp⟩, hb⟩
theorem contF_ok (w : World) (s : ByteArray) : Ret Tryd.prog 76 #[.string s, .func (.func 77) #[] #[]] w (fun v w' => (∃ b, v = .bool b ∧ (b = true → ∃ k, (uSt s k).1 < s.size ∧ ctl (uR s k) = true) ∧ (b = false → ∀ k, (uSt s k).1 < s.size → ctl (uR s k) = false)) ∧ Below w.heap.size w w') := by
  refine enter2 Tryd.func76 rfl 7 rfl 9 rfl (fun a hF => ?_)
  repeat (first | refine c_seq ?_ | refine c_region _ ?_ | refine wpList_nil ?_ | refine c_then ?_ | ((apply st hF); (first | exact d_move | exact d_assign); clear hF; clear a; intro a hF))
  refine stc hF (idxF_ok w s) cal99 ⟨rfl, rfl, trivial⟩ (k := fun a v w1 hR hF => ?_)
  obtain ⟨⟨p, rfl, hp⟩, hb⟩ := hR
  rcases hp with ⟨h0, hk⟩ | ⟨rfl, hk⟩
  · repeat (first | refine wpList_nil ?_ | refine c_then ?_ | refine wp_ret ?_ | ((apply st hF); (first | exact d_assign | exact d_cmpT); clear hF; clear a; intro a hF))
    exact ret1 hF rfl rfl ⟨⟨true, rfl, fun _ => hk, fun h => by cases h⟩, hb⟩
  · repeat (first | refine wpList_nil ?_ | refine c_then ?_ | refine wp_ret ?_ | ((apply st hF); (first | exact d_assign | exact d_cmpF); clear hF; clear a; intro a hF))
    exact ret1 hF rfl rfl ⟨⟨false, rfl, fun h => (by cases h), fun _ => hk⟩, hb⟩

end Go.Proofs.YtjomihhpglojpaaDoor
end
section
/- errors.As at a target of type *api.Fault: over a plain number of an error it finds none. -/
namespace Go.Proofs.YtjomihhpglojpaaDoor
set_option maxRecDepth 100000
open Go.RowKit Go.Extern.Stop Go.Stop Go.Extern

theorem asValueOf (t : Addr) (w : World) : (ReflectliteValue.unpack (.iface 113 (.pointer (some t)))).run Tryd.prog w
    = .ok (.agg #[.pointer (some ⟨3, 113, none⟩), .pointer (some ⟨w.heap.size, 0, none⟩), .int .u64 150]) (w.alloc (.cells #[.pointer (some t)] 113)) := by kernel_rfl
theorem asType (a : Addr) (w : World) : (ReflectliteValue.methodAny (ReflectliteValue.valueError "reflectlite.Value.Type" 0) (fun t _ _ _ => ReflectliteType.toType t) #[.agg #[.pointer (some ⟨3, 113, none⟩), .pointer (some a), .int .u64 150]]).run Tryd.prog w
    = .ok (.iface 154 (.agg #[.pointer (some ⟨3, 113, none⟩)])) w := by kernel_rfl
theorem asMethodKind (h : Value) (w : World) : (Go.method 338 154 (.agg #[h]) "Kind").run Tryd.prog w = .ok (134, h) w := by kernel_rfl
theorem asKindP (w : World) : ((ReflectliteType.abiMethod fun t => Functor.map (fun a : Nat => Value.int IntKind.u8 (a : Int)) (Rtype.kind t)) #[.pointer (some ⟨3, 113, none⟩)]).run Tryd.prog w = .ok (.int .u8 22) w := by kernel_rfl
theorem asKindF (w : World) : ((ReflectliteType.abiMethod fun t => Functor.map (fun a : Nat => Value.int IntKind.u8 (a : Int)) (Rtype.kind t)) #[.pointer (some ⟨3, 111, none⟩)]).run Tryd.prog w = .ok (.int .u8 25) w := by kernel_rfl
theorem rlmV (z : Sem Value) (f : TypeId → Addr → Nat → Nat → Sem Value) (v : Value) :
    ReflectliteValue.method z f #[v] = (do match ← ReflectliteValue.parts v with | none => z | some (t, a, fl) => f t a fl (fl % 32)) := rfl
theorem asPartsP (a : Addr) (w : World) : (ReflectliteValue.parts (.agg #[.pointer (some ⟨3, 113, none⟩), .pointer (some a), .int .u64 150])).run Tryd.prog w = .ok (some (113, a, 150)) w := by kernel_rfl
theorem asIsNil (a p : Addr) (W : World) (ha : W.cell? a = some (.pointer (some p))) :
    (ReflectliteValue.method (ReflectliteValue.valueError "reflectlite.Value.IsNil" 0) ReflectliteValue.isNil #[.agg #[.pointer (some ⟨3, 113, none⟩), .pointer (some a), .int .u64 150]]).run Tryd.prog W = .ok (.bool false) W := by
  rw [rlmV]
  simp only [Sem.run_bind, asPartsP, Result.andThen]
  simp [ReflectliteValue.isNil, loadVar, isAgg, underlying, Tryd.underlying113, ha, Result.andThen]
theorem asMethodElem (h : Value) (w : World) : (Go.method 338 154 (.agg #[h]) "Elem").run Tryd.prog w = .ok (150, .agg #[h]) w := by kernel_rfl
theorem asMethodImplements (h : Value) (w : World) : (Go.method 338 154 (.agg #[h]) "Implements").run Tryd.prog w = .ok (151, .agg #[h]) w := by kernel_rfl
theorem asMethodAssignableTo (h : Value) (w : World) : (Go.method 338 154 (.agg #[h]) "AssignableTo").run Tryd.prog w = .ok (148, .agg #[h]) w := by kernel_rfl
theorem asElem (w : World) : (ReflectliteType.method ReflectliteType.elem #[.agg #[.pointer (some ⟨3, 113, none⟩)]]).run Tryd.prog w = .ok (.iface 154 (.agg #[.pointer (some ⟨3, 111, none⟩)])) w := by kernel_rfl
theorem asImplements (w : World) : (ReflectliteType.relation "Implements" ReflectliteType.implements_ #[.agg #[.pointer (some ⟨3, 111, none⟩)], .iface 154 (.agg #[.pointer (some ⟨3, 30, none⟩)])]).run Tryd.prog w = .ok (.bool true) w := by kernel_rfl
/-- What the row's condition says of the library's variable: the handle of 'error' lies in it. -/
def Handle (w : World) : Prop := w.cell? ⟨0, 0, none⟩ = some (.iface 154 (.agg #[.pointer (some ⟨3, 30, none⟩)]))

end Go.Proofs.YtjomihhpglojpaaDoor
end
section
/- The condition of a door's row: what it gives a walk, and a world that meets it. -/
namespace Go.Proofs.YtjomihhpglojpaaDoor
open Go.ChangeShapes Go.WideShapes Go.RowKit

def theLaid : List (String × DataW Unit) := [("errors.errorType", Rows.laid_errors_errorType)]
theorem doorEt : Tryd.prog.globalNamed "errors.errorType" = some 0 := by kernel_rfl
theorem doorRt : (Tryd.prog.cutTypes.find? (·.1 == "internal/reflectlite.rtype")).map (·.2) = some 154 := by kernel_rfl
theorem doorOne : ((List.range Tryd.prog.types.size).filter fun t => Tryd.prog.rowNamed t [101, 114, 114, 111, 114]) = [30] := by kernel_rfl

theorem handle_of_laid {W : World} (h : laidMetH Tryd.prog theLaid W) : Handle W := by
  have h' : laidMet Tryd.prog [] W ∧ handlesMet Tryd.prog theLaid W := h
  obtain ⟨name, u, ty, e1, e2, e3, e4, e5⟩ := h'.2 _ (List.mem_singleton.2 rfl)
  have en : name = [101, 114, 114, 111, 114] := (Option.some.inj e1).symm
  subst en
  obtain rfl := Option.some.inj (doorRt.symm.trans e2)
  have hm : ty ∈ (List.range Tryd.prog.types.size).filter fun t => Tryd.prog.rowNamed t [101, 114, 114, 111, 114] := List.mem_filter.2 ⟨List.mem_range.2 e3, e4⟩
  rw [doorOne] at hm
  obtain rfl := List.mem_singleton.1 hm
  have hh : typeHandle Tryd.prog 30 = .pointer (some ⟨3, 30, none⟩) := by kernel_rfl
  rw [hh] at e5
  have := World.var?_cell doorEt e5 0
  simpa [Handle] using this
theorem Handle.below {w w' : World} (h : Handle w) (hb : Below w.heap.size w w') : Handle w' :=
  (hb.cell (p := ⟨0, 0, none⟩) (World.block_lt_of_cell? w _ h)).trans h

/-- A world that meets the condition: the settled one, the variable's cell laid. -/
noncomputable def laidWorld (os : Os) : World :=
  let w0 := World.holding Tryd.prog os ⟨#[], #[], []⟩
  { w0 with heap := w0.heap.modify 0 fun
      | .cells _ t frozen => .cells #[.iface 154 (.agg #[.pointer (some ⟨3, 30, none⟩)])] t frozen
      | o => o }
end Go.Proofs.YtjomihhpglojpaaDoor
end
section
/- The library's utf8.ValidString at this program. -/
namespace Go.Proofs
open Go.Shelf Go.RowKit
def Tryd.lays196_ren : Go.Shelf.Ren := ⟨fun | 196 => 75 | 259 => 98 | n => n, fun | 0 => 0 | 3 => 3 | 4 => 4 | 5 => 5 | 9 => 9 | 12 => 12 | 46 => 185 | 53 => 33 | 119 => 181 | 138 => 183 | 139 => 184 | n => n, fun | 3 => 1 | 4 => 2 | n => n⟩
theorem Tryd.lays196 : Go.Proofs.Lays.n196 Tryd.prog Tryd.lays196_ren := {
  mixed := by kernel_rfl
  f196 := Tryd.func75.trans (congrArg some (by kernel_rfl))
  f259 := Tryd.func98.trans (congrArg some (by kernel_rfl))
  t0 := Tryd.underlying0
  a0 := Tryd.isAgg0
  z0 := Tryd.sizeOf0
  v0 := Tryd.zeroValue0
  t3 := Tryd.underlying3
  a3 := Tryd.isAgg3
  z3 := Tryd.sizeOf3
  v3 := Tryd.zeroValue3
  t4 := Tryd.underlying4
  a4 := Tryd.isAgg4
  z4 := Tryd.sizeOf4
  v4 := Tryd.zeroValue4
  t5 := Tryd.underlying5
  a5 := Tryd.isAgg5
  z5 := Tryd.sizeOf5
  v5 := Tryd.zeroValue5
  t9 := Tryd.underlying9
  a9 := Tryd.isAgg9
  z9 := Tryd.sizeOf9
  v9 := Tryd.zeroValue9
  t12 := Tryd.underlying12
  a12 := Tryd.isAgg12
  z12 := Tryd.sizeOf12
  v12 := Tryd.zeroValue12
  t46 := Tryd.underlying185
  a46 := Tryd.isAgg185
  z46 := Tryd.sizeOf185
  v46 := Tryd.zeroValue185
  t53 := Tryd.underlying33
  a53 := Tryd.isAgg33
  z53 := Tryd.sizeOf33
  v53 := Tryd.zeroValue33
  t119 := Tryd.underlying181
  a119 := Tryd.isAgg181
  z119 := Tryd.sizeOf181
  t138 := Tryd.underlying183
  a138 := Tryd.isAgg183
  z138 := Tryd.sizeOf183
  v138 := Tryd.zeroValue183
  t139 := Tryd.underlying184
  a139 := Tryd.isAgg184
  z139 := Tryd.sizeOf184
  v139 := Tryd.zeroValue184
  g3 := by kernel_rfl
  g4 := by kernel_rfl }
theorem Tryd.utf8_ValidString (s : ByteArray) (w : World) (hs : s.size ≤ 9223372036854775807) (hT : Lib.Utf8Tabs (Tryd.lays196_ren.g 3) (Tryd.lays196_ren.g 4) w) :
    Calls Tryd.prog 75 #[.string s] w fun e w' => e = .returned (.bool (Lib.validD s.data.toList)) ∧ Below w.heap.size w w' := Any.utf8_ValidString Tryd.lays196 s w hs hT
end Go.Proofs
end
section
/- The condition of CharsUnquotes: the handle and utf8's two tables; a world that meets it. -/
namespace Go.Proofs.YtjomihhpglojpaaDoor
open Go.ChangeShapes Go.WideShapes Go.RowKit Go.Shelf

def laid3 : List (String × DataW Unit) := [("unicode/utf8.acceptRanges", Rows.laid_unicode_utf8_acceptRanges), ("errors.errorType", Rows.laid_errors_errorType), ("unicode/utf8.first", Rows.laid_unicode_utf8_first)]
def tabs2 : List (String × DataW Unit) := [("unicode/utf8.acceptRanges", Rows.laid_unicode_utf8_acceptRanges), ("unicode/utf8.first", Rows.laid_unicode_utf8_first)]
def handle1 : List (String × DataW Unit) := [("errors.errorType", Rows.laid_errors_errorType)]
theorem filt_no : (laid3.filter fun x => x.2.handleName?.isNone) = tabs2 := rfl
theorem filt_yes : (laid3.filter fun x => x.2.handleName?.isSome) = handle1 := rfl
theorem laid3_parts {W : World} (h : laidMetH Tryd.prog laid3 W) : laidMet Tryd.prog tabs2 W ∧ handlesMet Tryd.prog handle1 W := by
  unfold laidMetH at h
  rw [filt_yes] at h
  rw [← filt_no]
  exact h
theorem handle_of_laid3 {W : World} (h : laidMetH Tryd.prog laid3 W) : Handle W := by
  refine handle_of_laid (show laidMet Tryd.prog [] W ∧ handlesMet Tryd.prog theLaid W from ⟨?_, (laid3_parts h).2⟩)
  exact laidMet_nil _ _
def Tabs (w : World) : Prop := Lib.Utf8Tabs (Tryd.lays196_ren.g 3) (Tryd.lays196_ren.g 4) w
theorem acc_eq : (Rows.laid_unicode_utf8_acceptRanges : DataW Unit) = Lib.acceptData := by kernel_rfl
theorem fst_eq : Rows.laid_unicode_utf8_first = Lib.firstData := Pinned.utf8First_eq
theorem tabs_of_laid3 {W : World} (h : laidMetH Tryd.prog laid3 W) : Tabs W := by
  have h2 := (laid3_parts h).1
  unfold tabs2 at h2
  rw [acc_eq, fst_eq] at h2
  exact utf8Tabs_of_readsT (U8Types.of196 Tryd.lays196) ⟨by kernel_rfl, by kernel_rfl, by kernel_rfl, by kernel_rfl, by kernel_rfl, by kernel_rfl, by kernel_rfl⟩ (Lib.laidMet.reads h2 (.tail _ (.head _))) (Lib.laidMet.reads h2 (.head _))
theorem Tabs.below {w w' : World} (h : Tabs w) (hb : Below w.heap.size w w') : Tabs w' :=
  ⟨fun c hc => (hb.cell (World.block_lt_of_cell? w _ (h.1 c hc))).trans (h.1 c hc), fun i hi => ⟨(hb.cell (World.block_lt_of_cell? w _ (h.2 i hi).1)).trans (h.2 i hi).1, (hb.cell (World.block_lt_of_cell? w _ (h.2 i hi).2)).trans (h.2 i hi).2⟩⟩

/-- A world that meets the condition: the settled one, the three variables laid. -/
noncomputable def laidWorld3 (os : Os) : World :=
  let w0 := laidWorld os
  let put (h : Array Obj) (g : Nat) (cs : Array Value) : Array Obj := h.modify g fun
    | .cells _ t frozen => .cells cs t frozen
    | o => o
  let h1 := put w0.heap 1 (Lib.firstTab.map fun z => Value.int .u8 z).toArray
  let h2 := put h1 2 ((List.range 16).flatMap fun i => [Value.int .u8 (Lib.accLo i), Value.int .u8 (Lib.accHi i)]).toArray
  { w0 with heap := h2 }
theorem laidWorld3_met (os : Os) (args : Array Value) : laidMetH Tryd.prog laid3 ((laidWorld3 os).forCall (fun _ _ => 0) ⟨#[], args, []⟩).memory := by
  refine laidMetH_of_parts ?_ (by kernel_rfl)
  rw [filt_no]
  exact (LaidIn.of_run (l := tabs2) [2, 1] 8 (by kernel_rfl) (by kernel_rfl) (by kernel_rfl) (by kernel_rfl)).met
end Go.Proofs.YtjomihhpglojpaaDoor
end
section
/- utf8.ValidString at this program. -/
namespace Go.Proofs.YtjomihhpglojpaaDoor
open Go.RowKit
set_option linter.unusedSimpArgs false
set_option linter.unusedVariables false
attribute [local irreducible] wpList wpQuiet wpStill Code.wp Exit.then Exit.inBlock bodyPost Calls Does Does0
theorem valid_ok (w : World) (s : ByteArray) (hs : s.size ≤ 16777216) (hT : Tabs w) : Ret Tryd.prog 75 #[.string s] w (fun v w' => v = .bool (Lib.validD s.data.toList) ∧ Below w.heap.size w w') :=
  Calls.mono (Tryd.utf8_ValidString s w (by omega) hT) (by rintro e w' ⟨rfl, hb⟩; exact ⟨_, rfl, rfl, hb⟩)
end Go.Proofs.YtjomihhpglojpaaDoor
end
section
/- check.text, walked. -/
namespace Go.Proofs.YtjomihhpglojpaaDoor
open Go.RowKit
set_option linter.unusedSimpArgs false
set_option linter.unusedVariables false
attribute [local irreducible] wpList wpQuiet wpStill Code.wp Exit.then Exit.inBlock bodyPost Calls Does Does0
theorem text_ok (w : World) (s : ByteArray) (hT : Tabs w) : Ret Tryd.prog 48 [.string s].toArray w (fun v w' => (∃ n, MayR s n ∧ v = .int .i64 n) ∧ Below w.heap.size w w') := by
  refine enter1 Tryd.func48 rfl 14 rfl 15 rfl (fun a hF => ?_)
  by_cases hbig : (s.size : Int) > 1024
  · repeat (first | refine c_seq ?_ | refine c_block ?_ | refine c_region _ ?_ | refine wpList_nil ?_ | refine c_then ?_ | refine c_then_ret ?_ | refine c_in_ret ?_ | refine wp_ret ?_ | ((apply st hF); (first | exact d_move | exact d_assign | exact d_cmpT | exact d_lens (und _ _ rfl)); clear hF; clear a; intro a hF) | (apply c_cond_t hF; exact rfl; first | exact rfl | assumption))
    exact ret1 hF rfl rfl ⟨⟨5, .inl ⟨by omega, rfl⟩, rfl⟩, Below.refl _ w⟩
  repeat (first | refine c_seq ?_ | refine c_block ?_ | refine c_region _ ?_ | refine wpList_nil ?_ | refine c_then ?_ | ((apply st hF); (first | exact d_move | exact d_assign | exact d_cmpF | exact d_lens (und _ _ rfl)); clear hF; clear a; intro a hF) | (apply c_cond_f hF; exact rfl; first | exact rfl | assumption))
  refine stc hF (valid_ok w s (by omega) hT) cal75 ⟨rfl, trivial⟩ (k := fun a v w1 hR hF => ?_)
  obtain ⟨rfl, hb1⟩ := hR
  cases hv : Lib.validD s.data.toList with
  | false =>
    rw [hv] at hF
    repeat (first | refine c_seq ?_ | refine c_region _ ?_ | refine wpList_nil ?_ | refine c_then ?_ | refine c_then_ret ?_ | refine c_in_ret ?_ | refine wp_ret ?_ | ((apply st hF); (first | exact d_move | exact d_assign | exact d_not | exact d_pickT); clear hF; clear a; intro a hF) | ((apply stm hF); clear hF; clear a; intro a hF) | (apply c_cond_t hF; exact rfl; first | exact rfl | assumption))
    have hno : ¬ AllOk s := fun h => by
      have := (valid_iff s).2 (fun j hj => (h j hj).1)
      rw [hv] at this; cases this
    exact ret1 hF rfl rfl ⟨⟨6, .inr ⟨by omega, .inr ⟨hno, rfl⟩⟩, rfl⟩, hb1⟩
  | true =>
    rw [hv] at hF
    repeat (((first | apply st hF | apply stg hF); (first | exact d_move | exact d_not); clear hF; clear a; intro a hF))
    refine stcg hF (contF_ok w1 s) cal76 ⟨rfl, rfl, trivial⟩ (k := fun a v w2 hR hF => ?_)
    obtain ⟨⟨b, rfl, h1, h2⟩, hb2⟩ := hR
    have hb := hb1.trans (hb2.mono hb1.size)
    cases b with
    | true =>
      repeat (first | refine c_seq ?_ | refine c_region _ ?_ | refine wpList_nil ?_ | refine c_then ?_ | refine c_then_ret ?_ | refine c_in_ret ?_ | refine wp_ret ?_ | ((apply st hF); (first | exact d_assign | exact d_pickF); clear hF; clear a; intro a hF) | (apply c_cond_t hF; exact rfl; first | exact rfl | assumption))
      have hno : ¬ AllOk s := fun h => by
        obtain ⟨k, hk, hc⟩ := h1 rfl
        have := (h k hk).2
        rw [hc] at this; cases this
      exact ret1 hF rfl rfl ⟨⟨6, .inr ⟨by omega, .inr ⟨hno, rfl⟩⟩, rfl⟩, hb⟩
    | false =>
      repeat (first | refine c_seq ?_ | refine c_region _ ?_ | refine wpList_nil ?_ | refine c_then ?_ | refine c_in ?_ | refine wp_skip ?_ | refine wp_ret ?_ | ((apply st hF); (first | exact d_assign | exact d_pickF); clear hF; clear a; intro a hF) | (apply c_cond_f hF; exact rfl; first | exact rfl | assumption))
      exact ret1 hF rfl rfl ⟨⟨0, .inr ⟨by omega, .inl ⟨fun k hk => ⟨(valid_iff s).1 hv k hk, h2 rfl k hk⟩, rfl⟩⟩, rfl⟩, hb⟩
end Go.Proofs.YtjomihhpglojpaaDoor
end
