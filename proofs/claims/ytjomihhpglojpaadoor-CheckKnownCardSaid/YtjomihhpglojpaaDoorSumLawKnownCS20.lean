/- Laid together by a program of mine: AppS CopyD CopyE. -/
import Derived.Test.YtjomihhpglojpaaDoorSumLawKnownCS6
import Derived.Test.YtjomihhpglojpaaDoorSumLawKnownCS17
import Derived.Test.YtjomihhpglojpaaDoorSumLawKnownCS15
import Derived.Test.YtjomihhpglojpaaDoorSumLawKnownCS16
set_option linter.unusedSimpArgs false
set_option linter.unusedVariables false
section
/- Slices of structs: what a part reads as, and 'append(s, x...)'. Plain lemmas over any program. -/
namespace Go.Proofs.YtjomihhpglojpaaDoor
open Go.RowKit
section
variable {P : Program} {ops : Array Oper} {Q : Exit → Act → World → Prop} {a : Act} {w w' : World} {rest : List Oper} {N : Nat} {l : List (Nat × Value)}
theorem RdS.drop {α : Type} {w : World} {ao : Option Addr} {sz : Nat} {enc : α → List Value} {xs : List α} (h : RdS w ao sz enc xs) (i m : Nat) (hm : xs.length ≤ m) : RdS w (if m = i then ao else ao.map (·.add (i * sz))) sz enc (xs.drop i) := by
  intro j hj
  rw [List.length_drop] at hj
  obtain ⟨b, o, rfl, hc⟩ := h (i + j) (by omega)
  rw [if_neg (by omega)]
  refine ⟨b, o + i * sz, by simp [addr_add], fun q v hq => ?_⟩
  rw [List.getElem_drop] at hq
  have := hc q v hq
  rwa [Nat.add_mul, ← Nat.add_assoc] at this
theorem RdS.take {α : Type} {w : World} {ao : Option Addr} {sz : Nat} {enc : α → List Value} {xs : List α} (h : RdS w ao sz enc xs) (n : Nat) : RdS w ao sz enc (xs.take n) := by
  intro j hj
  rw [List.length_take] at hj
  obtain ⟨b, o, e, hc⟩ := h j (by omega)
  exact ⟨b, o, e, fun q v hq => hc q v (by rw [List.getElem_take] at hq; exact hq)⟩
theorem own_pre {w : World} {base : Nat} {e : TypeId} {s n cap : Nat} {ao : Option Addr} {xs : List Value} (h : w.ownsRow base e s (.slice ao n cap) n xs) {m : Nat} (hm : m ≤ n) : w.ownsRow base e s (.slice ao m cap) m (xs.take (m * s)) := by
  have hl : xs.length = n * s := h.1
  have hms : m * s ≤ n * s := Nat.mul_le_mul_right _ hm
  refine ⟨by rw [List.length_take]; omega, ?_⟩
  rcases h.2 with ⟨h0, h1⟩ | ⟨g, cap', cur, h0, hb, hg, hle, hx, hsz, htk⟩
  · cases h0
    exact .inl ⟨by rw [show m = 0 by omega], by omega⟩
  · cases h0
    refine .inr ⟨_, _, cur, rfl, hb, hg, by omega, hx, hsz, ?_⟩
    rw [← htk, List.take_take, Nat.min_eq_left hms]
theorem flat_len {α : Type} {enc : α → List Value} {sz : Nat} (he : ∀ x, (enc x).length = sz) : ∀ xs : List α, (xs.flatMap enc).length = xs.length * sz
  | [] => by simp
  | x :: xs => by simp [he, flat_len he xs, Nat.add_mul, Nat.add_comm]
theorem flat_take {α : Type} {enc : α → List Value} {sz : Nat} (he : ∀ x, (enc x).length = sz) : ∀ (xs : List α) (n : Nat), (xs.flatMap enc).take (n * sz) = (xs.take n).flatMap enc
  | [], n => by simp
  | x :: xs, 0 => by simp
  | x :: xs, n + 1 => by
    have hx := he x
    rw [List.flatMap_cons, List.take_succ_cons, List.flatMap_cons, ← flat_take he xs n, List.take_append, hx]
    rw [List.take_of_length_le (by rw [hx, Nat.add_mul]; omega)]
    congr 2
    rw [Nat.add_mul]; omega
theorem st_appendS (h : Fr N l a) {α : Type} {enc : α → List Value} {ys : List α} {bo : Option Addr} {m c' sz : Nat} {d : Nat} {s x : Operand} {z : Value} {t e ty : TypeId} {pos : String} {af : Array Edge} {bytes n base cap : Nat} {ao : Option Addr} {xs : List Value}
    (he : ∀ x, (enc x).length = sz) (h0 : 0 < sz) (hU : P.underlying t = some (.slice e)) (hi : (P.info? e).map (fun i => (i.zero, i.size, i.bytes)) = some (some z, sz, bytes)) (hz : z.cells.size = sz)
    (hown : w.ownsRow base e sz (.slice ao n cap) n xs) (hys : ys.length = m) (hR : RdS w bo sz enc ys) (h1 : ∀ y, ∀ v ∈ enc y, v.oneCell' = true) (hbd : (n + m) * bytes ≤ 140737488355328) (hm : n + m ≤ maxLen) (hbase : base ≤ w.heap.size)
    (hs : Ev l s (.slice ao n cap) := by exact rfl) (hx : Ev l x (.slice bo m c') := by exact rfl) (hd : Nat.blt d N = true := by exact rfl)
    (k : ∀ a' ao' cap' w', w'.ownsRow base e sz (.slice ao' (n + m) cap') (n + m) (xs ++ ys.flatMap enc) → w.grownBy w' (Value.slice ao n cap).ownBlock → Fr N ((d, .slice ao' (n + m) cap') :: l) a' → wpList P ops Q rest a' w') :
    wpList P ops Q (⟨some d, .call { callee := .builtin .append, args := [s, x].toArray, argTypes := [t, t].toArray }, ty, pos, af, none⟩ :: rest) a w := by
  obtain ⟨i, g1, g2, g3, g4⟩ := info_parts hi
  by_cases hy0 : ys = []
  · subst hy0
    obtain rfl : m = 0 := by simpa using hys.symm
    obtain ⟨hle, _⟩ := own_cap' hown
    have hsrc : Src P i.size t (.slice bo 0 c') 0 [] w := by
      cases bo with
      | none => exact Src.ofNil w hU c'
      | some ad => exact Src.ofSlice w hU ad 0 c' [] (by simp) (by simp) (by simp)
    have hr := run_append_nothing (P := P) w t t ty e i hU g1 ao n cap hle _ hsrc
    refine st h (v := .slice ao n cap) (w' := w) ?_ hd fun a' hF => k a' ao cap w (by simpa using hown) (World.grownBy.refl w _) hF
    intro ρ hρ d pos af g
    simp [execOp, resolve, invoke, builtin, hρ _ _ hs, hρ _ _ hx, hr]
  · obtain ⟨b, o, rfl, _⟩ := hR 0 (by cases ys with | nil => exact absurd rfl hy0 | cons _ _ => simp)
    refine wpList_append_own_at _ rfl s x t rfl base e i z sz bytes hU g1 g2 g3 g4 hz h0 (.slice ao n cap) n xs (h.eval _ _ hs) hown
      ⟨b, o, none⟩ m c' (ys.flatMap enc) (h.eval _ _ hx) (by rw [flat_len he, hys]) ?_ ?_ hm hbd hbase ?_
    · intro j v hj
      have hjl : j < ys.length * sz := by
        have := (List.getElem?_eq_some_iff.1 hj).1
        rw [flat_len he] at this; exact this
      have hq : j % sz < sz := Nat.mod_lt _ h0
      have hi' : j / sz < ys.length := Nat.div_lt_of_lt_mul (by rw [Nat.mul_comm]; exact hjl)
      obtain ⟨b2, o2, e2, hc⟩ := hR (j / sz) hi'
      cases e2
      have e3 := flat_get he ys (j / sz) hi' (j % sz) hq
      have e4 : j / sz * sz + j % sz = j := by rw [Nat.mul_comm]; exact Nat.div_add_mod j sz
      rw [e4, hj] at e3
      have := hc (j % sz) v e3.symm
      rw [Nat.add_assoc, e4] at this
      rw [addr_add]; exact this
    · intro v hv
      obtain ⟨y, _, hv⟩ := List.mem_flatMap.1 hv
      exact h1 y v hv
    · intro v' w' hown' hgr hnil hat
      obtain ⟨ao', cap', rfl, _, _⟩ := own_form hown'
      exact k _ ao' cap' w' hown' hgr (h.put hd _)
end
end Go.Proofs.YtjomihhpglojpaaDoor
end
section
/- Copies of rows, tables, messages and databases, walked. -/
namespace Go.Proofs.YtjomihhpglojpaaDoor
open Go.RowKit
set_option linter.unusedSimpArgs false
set_option linter.unusedVariables false
attribute [local irreducible] wpList wpQuiet wpStill Code.wp Exit.then Exit.inBlock bodyPost Calls Does Does0
set_option maxRecDepth 100000
def CopyR (base : Nat) (w : World) (ao : Option Addr) (n c : Nat) (rs : List RowV) : Prop := w.ownsRow base 116 2 (.slice ao n c) n (rs.flatMap RowV.cells)
def Tab.cp (t : Tab) (ao : Option Addr) (c : Nat) : Tab := { t with rw := ao, rwC := c }
set_option maxHeartbeats 4000000 in
theorem copy_rows (w : World) (xs : List RowV) (ao : Option Addr) (n c : Nat) (hn : xs.length = n) (hR : RdS w ao 2 RowV.cells xs) (hb : n * 24 ≤ 140737488351232) :
    Ret Tryd.prog 101 [.slice ao n c].toArray w (fun v w' => ∃ ao' c', v = .slice ao' n c' ∧ CopyR w.heap.size w' ao' n c' xs ∧ Below w.heap.size w w') := by
  subst hn
  refine enter1 Tryd.func101 rfl 18 rfl 19 rfl (fun a hF => ?_)
  repeat (first | refine c_seq ?_ | refine c_block ?_ | refine c_region _ ?_ | refine wpList_nil ?_ | refine c_then ?_ | ((apply st hF); (exact d_assign); clear hF; clear a; intro a hF))
  refine c_loop (fun q a wr => ∃ k ao' cap', k ≤ xs.length ∧ q = xs.length - k ∧ Fr 19 [(0, .slice ao xs.length c), (3, .slice ao' k cap'), (4, .int .i64 (k : Nat))] a ∧
    CopyR w.heap.size wr ao' k cap' (xs.take k) ∧ Below w.heap.size w wr) xs.length
    ⟨0, none, 0, by omega, rfl, hF.keep' ⟨rfl, rfl, rfl, trivial⟩, World.ownsRow_nil _ _ _ _, Below.refl _ _⟩ ?_
  clear hF a
  rintro q a wr ⟨k, ao', cap', hk, rfl, hF, hown, hbel⟩
  have hsz := hbel.size
  by_cases hlt : k < xs.length
  · obtain ⟨b, o, hao, hc⟩ := hR.below hbel k hlt
    rw [hao] at hF
    repeat (first | refine c_seq ?_ | refine c_block ?_ | refine c_region _ ?_ | refine wpList_nil ?_ | refine c_then ?_ | refine wp_skip ?_ | ((apply st hF); (first | exact d_move | exact d_cmpT | exact d_len (und _ _ rfl) | exact d_indexAddrS (und _ _ rfl) (isz _ _ rfl) (j := k) | exact d_loadAgg (agg _ rfl) (isz _ _ rfl) rfl (arr_cells hc)); clear hF; clear a; intro a hF) | (apply c_cond_t hF; exact rfl; first | exact rfl | assumption))
    refine st_pushS hF (us := (RowV.cells xs[k]).toArray) (und _ _ rfl) inf116 rfl (by decide) (by decide) rfl (row_cells _) hown (by omega) (by unfold maxLen; omega) hsz (k := fun a ao2 cap2 w2 hown2 hgr hat hF => ?_)
    have hb2 := below_own hbel hsz hown hgr
    repeat (first | refine c_region _ ?_ | refine wpList_nil ?_ | refine c_then ?_ | refine c_in ?_ | ((apply st hF); (first | exact d_move | exact d_assign | exact d_add); clear hF; clear a; intro a hF))
    refine ⟨xs.length - (k + 1), by omega, k + 1, ao2, cap2, by omega, rfl, hao.symm ▸ hF.keep' ⟨rfl, rfl, rfl, trivial⟩, ?_, hb2⟩
    unfold CopyR
    rw [List.take_succ_eq_append_getElem hlt, List.flatMap_append]
    simpa using hown2
  · obtain rfl : k = xs.length := by omega
    repeat (first | refine c_seq ?_ | refine c_region _ ?_ | refine wpList_nil ?_ | refine c_then ?_ | refine c_then_exit ?_ | refine c_in_hit ?_ | refine wp_exit ?_ | refine wp_ret ?_ | ((apply st hF); (first | exact d_move | exact d_assign | exact d_cmpF | exact d_len (und _ _ rfl)); clear hF; clear a; intro a hF) | (apply c_cond_f hF; exact rfl; first | exact rfl | assumption))
    rw [List.take_length] at hown
    exact ret1 hF rfl rfl ⟨ao', cap', rfl, hown, hbel⟩
set_option maxHeartbeats 4000000 in
theorem copy_table (w : World) (t : Tab) (rs : List RowV) (hs : RowsIn w t rs) :
    Ret Tryd.prog 79 [.agg (Tab.cells t).toArray].toArray w (fun v w' => ∃ ao c, v = .agg (Tab.cells (t.cp ao c)).toArray ∧ CopyR w.heap.size w' ao t.rwN c rs ∧ Below w.heap.size w w') := by
  refine enter1 Tryd.func79 rfl 9 rfl 10 rfl (fun a hF => ?_)
  repeat (first | refine c_seq ?_ | refine c_region _ ?_)
  refine st_box hF (cs := (Tab.cells t).toArray) rfl (k := fun a w1 hg1 hgr1 hsz1 hF => ?_)
  refine st_alloc hF inf67 (k := fun a w2 hg2 hgr2 hsz2 hF => ?_)
  have hb2 : Below w.heap.size w w2 := ((Below.refl _ w).grown hgr1 (Nat.le_refl _) (fun k hk => by cases hk)).grown hgr2 (by omega) (fun k hk => by cases hk)
  have hg12 := blk_kept hg1 hgr2 (by simp)
  repeat (first | refine c_seq ?_ | refine c_region _ ?_ | refine wpList_nil ?_ | refine c_then ?_ | ((apply st hF); (exact d_loadAgg (agg _ rfl) (isz _ _ rfl) rfl (cells_at hg12)); clear hF; clear a; intro a hF))
  refine st_alloc hF inf67 (k := fun a w3 hg3 hgr3 hsz3 hF => ?_)
  have hb3 : Below w.heap.size w w3 := hb2.grown hgr3 (by omega) (fun k hk => by cases hk)
  have hg13 := blk_kept hg12 hgr3 (by simp)
  have hg23 := blk_kept hg2 hgr3 (by simp)
  refine st_storeAgg hF (cs := (Tab.cells t).toArray) (isz _ _ rfl) rfl rfl hg3 (tab_cells t) (k := fun a w4 hg4 hgr4 hsz4 hF => ?_)
  have hb4 : Below w.heap.size w w4 := hb3.grown hgr4 (by omega) (fun k hk => by cases hk; omega)
  have hg14 := blk_kept hg13 hgr4 (by simp; omega)
  have hg24 := blk_kept hg23 hgr4 (by simp; omega)
  have c5 := cell_at (i := 5) hg14 rfl
  repeat (first | refine c_seq ?_ | refine c_region _ ?_ | refine wpList_nil ?_ | refine c_then ?_ | ((apply st hF); (first | exact d_fieldAddr (fld _ _ _ _ rfl) (isz _ _ rfl) | exact d_load (und _ _ rfl) c5); clear hF; clear a; intro a hF))
  refine stc hF (copy_rows w4 rs t.rw _ t.rwC hs.len (hs.rd.below hb4) hs.bytes) cal101 ⟨rfl, trivial⟩ (k := fun a v w5 hR hF => ?_)
  obtain ⟨ao, cap, rfl, hown, hb5⟩ := hR
  have hb5' : Below w.heap.size w w5 := hb4.trans (hb5.mono (by omega))
  have hg25 : w5.heap[w1.heap.size]? = _ := (hb5.block _ (lt_at hg24)).trans hg24
  have hg35 : w5.heap[w2.heap.size]? = _ := (hb5.block _ (lt_at hg4)).trans hg4
  have hz5 := hb5.size
  repeat (((apply st hF); (exact d_fieldAddr (fld _ _ _ _ rfl) (isz _ _ rfl)); clear hF; clear a; intro a hF))
  refine st_store hF (isz _ _ rfl) hg35 (i := 5) (by show 5 < 6; decide) rfl rfl rfl (k := fun a w6 hg6 hgr6 hsz6 hF => ?_)
  have hown6 : CopyR w4.heap.size w6 ao t.rwN cap rs := own_keptB hown hgr6 (fun k hk e => by have := (own_geC hown hk).1; simp only [Option.some.injEq] at e; omega)
  have hb6 : Below w.heap.size w w6 := hb5'.grown hgr6 (by omega) (fun k hk => by cases hk; omega)
  have hg26 := blk_kept hg25 hgr6 (by simp; omega)
  repeat (first | refine c_seq ?_ | refine c_region _ ?_ | refine wpList_nil ?_ | refine c_then ?_ | ((apply st hF); (exact d_loadAgg (agg _ rfl) (isz _ _ rfl) rfl (cells_at hg6)); clear hF; clear a; intro a hF))
  refine st_storeAgg hF (cs := (Tab.cells (t.cp ao cap)).toArray) (isz _ _ rfl) rfl rfl hg26 (tab_cells _) (k := fun a w7 hg7 hgr7 hsz7 hF => ?_)
  have hown7 : CopyR w4.heap.size w7 ao t.rwN cap rs := own_keptB hown6 hgr7 (fun k hk e => by have := (own_geC hown hk).1; simp only [Option.some.injEq] at e; omega)
  have hb7 : Below w.heap.size w w7 := hb6.grown hgr7 (by omega) (fun k hk => by cases hk; omega)
  repeat (first | refine wpList_nil ?_ | refine c_then ?_ | refine wp_ret ?_)
  exact ret_c hF rfl (agg _ rfl) (isz _ _ rfl) hg7 rfl ⟨ao, cap, rfl, own_rebase hown7 fun k hk => (by have := (own_geC hown hk).1; omega), hb7⟩
/-- Table number i, copied. -/
def CopyTOk (base : Nat) (w : World) (ts : List TabT) (ls : List Tab) (i : Nat) : Prop := ∃ p ao c, ts[i]? = some p ∧ ls[i]? = some (p.1.cp ao c) ∧ CopyR base w ao p.1.rwN c p.2
theorem CopyTOk.below {base : Nat} {w w' : World} {ts : List TabT} {ls : List Tab} {i : Nat} (h : CopyTOk base w ts ls i) (hb : Below w.heap.size w w') : CopyTOk base w' ts ls i := by
  obtain ⟨p, ao, c, h1, h2, h3⟩ := h
  exact ⟨p, ao, c, h1, h2, own_below h3 hb⟩
theorem CopyTOk.keptO {base : Nat} {w w' : World} {ts : List TabT} {ls : List Tab} {i : Nat} (h : CopyTOk base w ts ls i) {base' e' s' n' : Nat} {v' : Value} {xs' : List Value} (h' : w.ownsRow base' e' s' v' n' xs') (hne : 116 ≠ e') (hgr : w.grownBy w' v'.ownBlock) : CopyTOk base w' ts ls i := by
  obtain ⟨p, ao, c, h1, h2, hown⟩ := h
  exact ⟨p, ao, c, h1, h2, own_keptO hown h' hne hgr⟩
theorem CopyTOk.rebase {base base' : Nat} {w : World} {ts : List TabT} {ls : List Tab} {i : Nat} (h : CopyTOk base w ts ls i) (hb : base' ≤ base) : CopyTOk base' w ts ls i := by
  obtain ⟨p, ao, c, h1, h2, hown⟩ := h
  exact ⟨p, ao, c, h1, h2, own_rebase hown fun k hk => (by have := (own_geC hown hk).1; omega)⟩
theorem CopyTOk.keptB {base : Nat} {w w' : World} {ts : List TabT} {ls : List Tab} {i : Nat} (h : CopyTOk base w ts ls i) {g : Nat} (hgr : w.grownBy w' (some g)) (hg : g < base) : CopyTOk base w' ts ls i := by
  obtain ⟨p, ao, c, h1, h2, hown⟩ := h
  exact ⟨p, ao, c, h1, h2, own_keptB hown hgr fun k hk e => (by have := (own_geC hown hk).1; simp only [Option.some.injEq] at e; omega)⟩
structure CopyTs (base : Nat) (w : World) (ao : Option Addr) (cap : Nat) (ts : List TabT) (ls : List Tab) : Prop where
  len : ls.length = ts.length
  own : w.ownsRow base 67 6 (.slice ao ts.length cap) ts.length (ls.flatMap Tab.cells)
  ok : ∀ i, i < ts.length → CopyTOk base w ts ls i
theorem CopyTs.below {base : Nat} {w w' : World} {ao : Option Addr} {cap : Nat} {ts : List TabT} {ls : List Tab} (h : CopyTs base w ao cap ts ls) (hb : Below w.heap.size w w') : CopyTs base w' ao cap ts ls := ⟨h.len, own_below h.own hb, fun i hi => (h.ok i hi).below hb⟩
theorem CopyTs.keptB {base : Nat} {w w' : World} {ao : Option Addr} {cap : Nat} {ts : List TabT} {ls : List Tab} (h : CopyTs base w ao cap ts ls) {g : Nat} (hgr : w.grownBy w' (some g)) (hg : g < base) : CopyTs base w' ao cap ts ls :=
  ⟨h.len, own_keptB h.own hgr fun k hk e => (by have := (own_geC h.own hk).1; simp only [Option.some.injEq] at e; omega), fun i hi => (h.ok i hi).keptB hgr hg⟩
theorem CopyTs.rebase {base base' : Nat} {w : World} {ao : Option Addr} {cap : Nat} {ts : List TabT} {ls : List Tab} (h : CopyTs base w ao cap ts ls) (hb : base' ≤ base) : CopyTs base' w ao cap ts ls :=
  ⟨h.len, own_rebase h.own fun k hk => (by have := (own_geC h.own hk).1; omega), fun i hi => (h.ok i hi).rebase hb⟩
set_option maxHeartbeats 4000000 in
theorem copy_tables (w : World) (ts : List TabT) (ao : Option Addr) (n c : Nat) (hs : TabsIn w ao n c ts) :
    Ret Tryd.prog 54 [.slice ao n c].toArray w (fun v w' => ∃ ao' cap ls, v = .slice ao' n cap ∧ CopyTs w.heap.size w' ao' cap ts ls ∧ Below w.heap.size w w') := by
  have hrdall := fun (wr : World) (hb : Below w.heap.size w wr) {k : Nat} (hk : k < ts.length) => tab_cells_at hs hb hk
  have heach := hs.each
  have hby := hs.bytes
  have hn := hs.len
  clear hs
  subst hn
  refine enter1 Tryd.func54 rfl 21 rfl 22 rfl (fun a hF => ?_)
  repeat (first | refine c_seq ?_ | refine c_block ?_ | refine c_region _ ?_ | refine wpList_nil ?_ | refine c_then ?_ | ((apply st hF); (exact d_assign); clear hF; clear a; intro a hF))
  refine c_loop (fun q a wr => ∃ k ao' cap' ls, k ≤ ts.length ∧ q = ts.length - k ∧ Fr 22 [(0, .slice ao ts.length c), (3, .slice ao' k cap'), (4, .int .i64 (k : Nat))] a ∧ ls.length = k ∧
    wr.ownsRow w.heap.size 67 6 (.slice ao' k cap') k (ls.flatMap Tab.cells) ∧ (∀ i, i < k → CopyTOk w.heap.size wr ts ls i) ∧ Below w.heap.size w wr) ts.length
    ⟨0, none, 0, [], by omega, rfl, hF.keep' ⟨rfl, rfl, rfl, trivial⟩, rfl, by simpa using World.ownsRow_nil _ _ _ _, fun i hi => absurd hi (Nat.not_lt_zero _), Below.refl _ _⟩ ?_
  clear hF a
  rintro q a wr ⟨k, ao', cap', ls, hk, rfl, hF, hll, hown, hok, hbel⟩
  have hsz := hbel.size
  by_cases hlt : k < ts.length
  · obtain ⟨b, o, hao, hc'⟩ := hrdall wr hbel hlt
    rw [ts_lt hlt] at hc'
    rw [hao] at hF
    have hin := heach ts[k] (List.getElem_mem hlt)
    repeat (first | refine c_seq ?_ | refine c_block ?_ | refine c_region _ ?_ | refine wpList_nil ?_ | refine c_then ?_ | refine wp_skip ?_ | ((apply st hF); (first | exact d_move | exact d_cmpT | exact d_len (und _ _ rfl) | exact d_indexAddrS (und _ _ rfl) (isz _ _ rfl) | exact d_loadAgg (agg _ rfl) (isz _ _ rfl) rfl (arr_cells hc')); clear hF; clear a; intro a hF) | (apply c_cond_t hF; exact rfl; first | exact rfl | assumption))
    refine stc hF (copy_table wr ts[k].1 ts[k].2 (hin.below hbel)) cal79 ⟨rfl, trivial⟩ (k := fun a v w1 hR hF => ?_)
    obtain ⟨ag, cap, rfl, hl1, hb1⟩ := hR
    have hB1 : Below w.heap.size w w1 := hbel.trans (hb1.mono hsz)
    have hown1 := own_below hown hb1
    refine st_alloc hF inf67 (k := fun a w2 hg2 hgr2 hsz2 hF => ?_)
    have hb2 : Below w1.heap.size w1 w2 := (Below.refl _ w1).grown hgr2 (Nat.le_refl _) (fun k hk => by cases hk)
    refine st_storeAgg hF (cs := (Tab.cells (ts[k].1.cp ag cap)).toArray) (isz _ _ rfl) rfl rfl hg2 (tab_cells _) (k := fun a w3 hg3 hgr3 hsz3 hF => ?_)
    have hb3 : Below w1.heap.size w1 w3 := hb2.grown hgr3 (by omega) (fun k hk => by cases hk; exact Nat.le_refl _)
    have hB3 : Below w.heap.size w w3 := hB1.trans (hb3.mono hB1.size)
    have hown3 := own_below hown1 hb3
    have hl3 : CopyR w.heap.size w3 ag ts[k].1.rwN cap ts[k].2 := own_rebase (own_below hl1 hb3) fun k hk => (by have := (own_geC hl1 hk).1; omega)
    have hok3 : ∀ i, i < k → CopyTOk w.heap.size w3 ts ls i := fun i hi => ((hok i hi).below hb1).below hb3
    repeat (first | refine c_region _ ?_ | refine wpList_nil ?_ | refine c_then ?_ | ((apply st hF); (first | exact d_move | exact d_loadAgg (agg _ rfl) (isz _ _ rfl) rfl (cells_at hg3)); clear hF; clear a; intro a hF))
    refine st_pushS hF (us := (Tab.cells (ts[k].1.cp ag cap)).toArray) (und _ _ rfl) inf67 rfl (by decide) (by decide) rfl (tab_cells _) hown3 (by omega) (by unfold maxLen; omega) hB3.size (k := fun a ao2 cap2 w4 hown4 hgr4 hat hF => ?_)
    have hB4 := below_own hB3 hB3.size hown3 hgr4
    repeat (first | refine c_region _ ?_ | refine wpList_nil ?_ | refine c_then ?_ | refine c_in ?_ | ((apply st hF); (first | exact d_move | exact d_assign | exact d_add); clear hF; clear a; intro a hF))
    refine ⟨ts.length - (k + 1), by omega, k + 1, ao2, cap2, ls ++ [ts[k].1.cp ag cap], by omega, rfl, hao.symm ▸ hF.keep' ⟨rfl, rfl, rfl, trivial⟩, by simp [hll], by simpa using hown4, fun i hi => ?_, hB4⟩
    by_cases hik : i < k
    · obtain ⟨p, g', c', h1, h2, h3⟩ := (hok3 i hik).keptO hown3 (by decide) hgr4
      exact ⟨p, g', c', h1, by rw [List.getElem?_append_left (by omega)]; exact h2, h3⟩
    · obtain rfl : i = k := by omega
      exact ⟨ts[i], ag, cap, by simp [hlt], by rw [List.getElem?_append_right (by omega), hll]; simp, own_keptO hl3 hown3 (by decide) hgr4⟩
  · obtain rfl : k = ts.length := by omega
    repeat (first | refine c_seq ?_ | refine c_region _ ?_ | refine wpList_nil ?_ | refine c_then ?_ | refine c_then_exit ?_ | refine c_in_hit ?_ | refine wp_exit ?_ | refine wp_ret ?_ | ((apply st hF); (first | exact d_move | exact d_assign | exact d_cmpF | exact d_len (und _ _ rfl)); clear hF; clear a; intro a hF) | (apply c_cond_f hF; exact rfl; first | exact rfl | assumption))
    exact ret1 hF rfl rfl ⟨ao', cap', ls, rfl, ⟨hll, hown, hok⟩, hbel⟩
theorem CopyS.keptO {base : Nat} {w w' : World} {ao : Option Addr} {cap : Nat} {ps : List SigT} {ls : List Sig} (h : CopyS base w ao cap ps ls) {base' e' s' n' : Nat} {v' : Value} {xs' : List Value} (h' : w.ownsRow base' e' s' v' n' xs') (h1 : 38 ≠ e') (h2 : 9 ≠ e') (hgr : w.grownBy w' v'.ownBlock) : CopyS base w' ao cap ps ls :=
  ⟨h.len, own_keptO h.own h' h1 hgr, fun i hi => (h.ok i hi).keptO h' h2 hgr⟩
/-- Message number i, copied. -/
def CopyMOk (base : Nat) (w : World) (ms : List MsgT) (ls : List Msg) (i : Nat) : Prop := ∃ p ao c qs, ms[i]? = some p ∧ ls[i]? = some (p.1.cp ao c) ∧ CopyS base w ao c p.2 qs
theorem CopyMOk.below {base : Nat} {w w' : World} {ms : List MsgT} {ls : List Msg} {i : Nat} (h : CopyMOk base w ms ls i) (hb : Below w.heap.size w w') : CopyMOk base w' ms ls i := by
  obtain ⟨p, ao, c, qs, h1, h2, h3⟩ := h
  exact ⟨p, ao, c, qs, h1, h2, h3.below hb⟩
set_option maxHeartbeats 4000000 in
theorem copy_messages (w : World) (ms : List MsgT) (ao : Option Addr) (n c : Nat) (hs : MsgsIn w ao n c ms) :
    Ret Tryd.prog 53 [.slice ao n c].toArray w (fun v w' => ∃ ao' cap ls, v = .slice ao' n cap ∧ ls.length = ms.length ∧ w'.ownsRow w.heap.size 27 8 (.slice ao' n cap) n (ls.flatMap Msg.cells) ∧ (∀ i, i < ms.length → CopyMOk w.heap.size w' ms ls i) ∧ Below w.heap.size w w') := by
  have hrdall := fun (wr : World) (hb : Below w.heap.size w wr) {k : Nat} (hk : k < ms.length) => msg_cells_at hs hb hk
  have heach := hs.each
  have hby := hs.bytes
  have hn := hs.len
  clear hs
  subst hn
  refine enter1 Tryd.func53 rfl 21 rfl 22 rfl (fun a hF => ?_)
  repeat (first | refine c_seq ?_ | refine c_block ?_ | refine c_region _ ?_ | refine wpList_nil ?_ | refine c_then ?_ | ((apply st hF); (exact d_assign); clear hF; clear a; intro a hF))
  refine c_loop (fun q a wr => ∃ k ao' cap' ls, k ≤ ms.length ∧ q = ms.length - k ∧ Fr 22 [(0, .slice ao ms.length c), (3, .slice ao' k cap'), (4, .int .i64 (k : Nat))] a ∧ ls.length = k ∧
    wr.ownsRow w.heap.size 27 8 (.slice ao' k cap') k (ls.flatMap Msg.cells) ∧ (∀ i, i < k → CopyMOk w.heap.size wr ms ls i) ∧ Below w.heap.size w wr) ms.length
    ⟨0, none, 0, [], by omega, rfl, hF.keep' ⟨rfl, rfl, rfl, trivial⟩, rfl, by simpa using World.ownsRow_nil _ _ _ _, fun i hi => absurd hi (Nat.not_lt_zero _), Below.refl _ _⟩ ?_
  clear hF a
  rintro q a wr ⟨k, ao', cap', ls, hk, rfl, hF, hll, hown, hok, hbel⟩
  have hsz := hbel.size
  by_cases hlt : k < ms.length
  · obtain ⟨b, o, hao, hc'⟩ := hrdall wr hbel hlt
    rw [ms_lt hlt] at hc'
    rw [hao] at hF
    have hin := heach ms[k] (List.getElem_mem hlt)
    repeat (first | refine c_seq ?_ | refine c_block ?_ | refine c_region _ ?_ | refine wpList_nil ?_ | refine c_then ?_ | refine wp_skip ?_ | ((apply st hF); (first | exact d_move | exact d_cmpT | exact d_len (und _ _ rfl) | exact d_indexAddrS (und _ _ rfl) (isz _ _ rfl) | exact d_loadAgg (agg _ rfl) (isz _ _ rfl) rfl (arr_cells hc')); clear hF; clear a; intro a hF) | (apply c_cond_t hF; exact rfl; first | exact rfl | assumption))
    refine stc hF (copy_message wr ms[k].1 ms[k].2 (SigsIn.below hin hbel)) cal12 ⟨rfl, trivial⟩ (k := fun a v w1 hR hF => ?_)
    obtain ⟨ag, cap, qs, rfl, hl1, hb1⟩ := hR
    have hB1 : Below w.heap.size w w1 := hbel.trans (hb1.mono hsz)
    have hown1 := own_below hown hb1
    refine st_alloc hF inf27 (k := fun a w2 hg2 hgr2 hsz2 hF => ?_)
    have hb2 : Below w1.heap.size w1 w2 := (Below.refl _ w1).grown hgr2 (Nat.le_refl _) (fun k hk => by cases hk)
    refine st_storeAgg hF (cs := (Msg.cells (ms[k].1.cp ag cap)).toArray) (isz _ _ rfl) rfl rfl hg2 (msg_cells _) (k := fun a w3 hg3 hgr3 hsz3 hF => ?_)
    have hb3 : Below w1.heap.size w1 w3 := hb2.grown hgr3 (by omega) (fun k hk => by cases hk; exact Nat.le_refl _)
    have hB3 : Below w.heap.size w w3 := hB1.trans (hb3.mono hB1.size)
    have hown3 := own_below hown1 hb3
    have hl3 : CopyS w.heap.size w3 ag cap ms[k].2 qs := (hl1.below hb3).rebase hsz
    have hok3 : ∀ i, i < k → CopyMOk w.heap.size w3 ms ls i := fun i hi => ((hok i hi).below hb1).below hb3
    repeat (first | refine c_region _ ?_ | refine wpList_nil ?_ | refine c_then ?_ | ((apply st hF); (first | exact d_move | exact d_loadAgg (agg _ rfl) (isz _ _ rfl) rfl (cells_at hg3)); clear hF; clear a; intro a hF))
    refine st_pushS hF (us := (Msg.cells (ms[k].1.cp ag cap)).toArray) (und _ _ rfl) inf27 rfl (by decide) (by decide) rfl (msg_cells _) hown3 (by omega) (by unfold maxLen; omega) hB3.size (k := fun a ao2 cap2 w4 hown4 hgr4 hat hF => ?_)
    have hB4 := below_own hB3 hB3.size hown3 hgr4
    repeat (first | refine c_region _ ?_ | refine wpList_nil ?_ | refine c_then ?_ | refine c_in ?_ | ((apply st hF); (first | exact d_move | exact d_assign | exact d_add); clear hF; clear a; intro a hF))
    refine ⟨ms.length - (k + 1), by omega, k + 1, ao2, cap2, ls ++ [ms[k].1.cp ag cap], by omega, rfl, hao.symm ▸ hF.keep' ⟨rfl, rfl, rfl, trivial⟩, by simp [hll], by simpa using hown4, fun i hi => ?_, hB4⟩
    by_cases hik : i < k
    · obtain ⟨p, g', c', qs', h1, h2, h3⟩ := hok3 i hik
      exact ⟨p, g', c', qs', h1, by rw [List.getElem?_append_left (by omega)]; exact h2, h3.keptO hown3 (by decide) (by decide) hgr4⟩
    · obtain rfl : i = k := by omega
      exact ⟨ms[i], ag, cap, qs, by simp [hlt], by rw [List.getElem?_append_right (by omega), hll]; simp, hl3.keptO hown3 (by decide) (by decide) hgr4⟩
  · obtain rfl : k = ms.length := by omega
    repeat (first | refine c_seq ?_ | refine c_region _ ?_ | refine wpList_nil ?_ | refine c_then ?_ | refine c_then_exit ?_ | refine c_in_hit ?_ | refine wp_exit ?_ | refine wp_ret ?_ | ((apply st hF); (first | exact d_move | exact d_assign | exact d_cmpF | exact d_len (und _ _ rfl)); clear hF; clear a; intro a hF) | (apply c_cond_f hF; exact rfl; first | exact rfl | assumption))
    exact ret1 hF rfl rfl ⟨ao', cap', ls, rfl, hll, hown, hok, hbel⟩
end Go.Proofs.YtjomihhpglojpaaDoor
end
section
/- A copied database, walked; what it is. -/
namespace Go.Proofs.YtjomihhpglojpaaDoor
open Go.RowKit
set_option linter.unusedSimpArgs false
set_option linter.unusedVariables false
attribute [local irreducible] wpList wpQuiet wpStill Code.wp Exit.then Exit.inBlock bodyPost Calls Does Does0
set_option maxRecDepth 100000
theorem list_of {α : Type} {Pr : Nat → α → Prop} : ∀ (n : Nat), (∀ i, i < n → ∃ x, Pr i x) → ∃ l : List α, l.length = n ∧ ∀ i (h : i < l.length), Pr i l[i]
  | 0, _ => ⟨[], rfl, fun i h => absurd h (Nat.not_lt_zero _)⟩
  | n + 1, H => by
    obtain ⟨l, h1, h2⟩ := list_of n (fun i hi => H i (by omega))
    obtain ⟨x, hx⟩ := H n (by omega)
    refine ⟨l ++ [x], by simp [h1], fun i hi => ?_⟩
    by_cases e : i < l.length
    · rw [List.getElem_append_left e]; exact h2 i e
    · have : i = n := by simp at hi; omega
      subst this
      rw [List.getElem_append_right (by omega)]
      simpa [h1] using hx
/-- A copied list of signals is one. -/
theorem copys_in {base : Nat} {w w0 : World} {m : Msg} {ps : List SigT} {ao : Option Addr} {cap : Nat} {ls : List Sig} (h : CopyS base w ao cap ps ls) (hin : MsgIn w0 m ps) (hB : ∀ p ∈ ps, SigB p.1) (hb : Below w0.heap.size w0 w) :
    MsgIn w (m.cp ao cap) (zipP ls ps) ∧ (∀ p ∈ zipP ls ps, SigB p.1) ∧ SameM (m.cp ao cap) (zipP ls ps) m ps := by
  have hlen := hin.len
  have hcp : ∀ i, i < ps.length → ∃ ac cc, ls.getD i sigM = (sg ps i).cp ac cc ∧ SigIn w ((sg ps i).cp ac cc) (tx ps i) := fun i hi => by
    obtain ⟨ac, cc, h1, _, h3⟩ := copy_sig hi (h.ok i hi) ((tx_in hin hi).below hb)
    exact ⟨ac, cc, h1, h3⟩
  refine ⟨?_, fun p hp => ?_, rfl, rfl, rfl, rfl, rfl, rfl, zipP_len h.len, fun i hi => ?_⟩
  · unfold MsgIn
    show SigsIn w ao m.sgN cap _
    rw [← hlen]
    refine sigs_in h.len h.own (fun i hi => ?_) (by rw [hlen]; exact hin.bytes)
    obtain ⟨ac, cc, h1, h2⟩ := hcp i hi
    rw [h1]; exact h2
  · obtain ⟨i, hi, rfl⟩ := List.getElem_of_mem hp
    have hi' : i < ps.length := by rw [zipP_len h.len] at hi; exact hi
    have h1 := zipP_sg h.len hi'
    rw [sg_lt hi] at h1
    obtain ⟨ac, cc, h2, _⟩ := hcp i hi'
    rw [h1, h2]
    exact sigB_cp (by rw [sg_lt hi']; exact hB _ (List.getElem_mem hi')) _ _
  · rw [zipP_sg h.len hi, zipP_tx h.len hi]
    obtain ⟨ac, cc, h1, _⟩ := hcp i hi
    rw [h1]
    exact ⟨same_cp _ _ _, rfl⟩
/-- Copied messages are messages. -/
theorem copym_in {base : Nat} {w w0 : World} {ms : List MsgT} {ao so : Option Addr} {n cap sc : Nat} {ls : List Msg} (hll : ls.length = ms.length) (hown : w.ownsRow base 27 8 (.slice ao n cap) n (ls.flatMap Msg.cells)) (hok : ∀ i, i < ms.length → CopyMOk base w ms ls i) (hin : MsgsIn w0 so n sc ms) (hb : Below w0.heap.size w0 w) :
    ∃ ms' : List MsgT, ms'.length = ms.length ∧ MsgsIn w ao n cap ms' ∧ ∀ i, i < ms.length → SameM (ms_ ms' i) (mp_ ms' i) (ms_ ms i) (mp_ ms i) := by
  obtain ⟨l, hl, hP⟩ := list_of (α := MsgT) (Pr := fun i x => ls[i]? = some x.1 ∧ MsgIn w x.1 x.2 ∧ (∀ p ∈ x.2, SigB p.1) ∧ SameM x.1 x.2 (ms_ ms i) (mp_ ms i)) ms.length (fun i hi => by
    obtain ⟨p, ac, c, qs, h1, h2, h3⟩ := hok i hi
    have e : ms[i] = p := by rw [List.getElem?_eq_getElem hi] at h1; exact Option.some.inj h1
    have hm := hin.each p (by rw [← e]; exact List.getElem_mem hi)
    have hB := (hin.bnd p (by rw [← e]; exact List.getElem_mem hi)).1
    obtain ⟨a1, a2, a3⟩ := copys_in h3 hm hB hb
    refine ⟨(p.1.cp ac c, zipP qs p.2), h2, a1, a2, ?_⟩
    rw [ms_lt hi, mp_lt hi, e]
    exact a3)
  have hmap : l.map (·.1) = ls := by
    apply List.ext_getElem?
    intro i
    by_cases hi : i < l.length
    · rw [List.getElem?_map, List.getElem?_eq_getElem hi, (hP i hi).1]; rfl
    · rw [List.getElem?_eq_none (by simp; omega), List.getElem?_eq_none (by omega)]
  have hlen := hin.len
  refine ⟨l, hl, ⟨by omega, ?_, fun p hp => ?_, fun p hp => ?_, (own_cap' hown).1, hin.bytes⟩, fun i hi => ?_⟩
  · rw [hmap]
    rcases Nat.eq_zero_or_pos n with h0 | h0
    · intro i hi; omega
    · obtain ⟨g, rfl, _⟩ := own_some hown h0
      exact own_rdS msgc_len hown (by omega)
  · obtain ⟨i, hi, rfl⟩ := List.getElem_of_mem hp
    exact (hP i hi).2.1
  · obtain ⟨i, hi, rfl⟩ := List.getElem_of_mem hp
    have hi' : i < ms.length := by omega
    refine ⟨(hP i hi).2.2.1, ?_⟩
    rw [(hP i hi).2.2.2.id, ms_lt hi']
    exact (hin.bnd _ (List.getElem_mem hi')).2
  · have hi' : i < l.length := by omega
    rw [ms_lt hi', mp_lt hi']
    exact (hP i hi').2.2.2
set_option maxHeartbeats 4000000 in
theorem copy_stations (w : World) (x y : Int) (ao : Option Addr) (n c : Nat) (ss : List ByteArray) (hn : ss.length = n) (hR : Rd w ao .string ss) (hb : n * 16 ≤ 140737488351232) :
    Ret Tryd.prog 55 [.agg #[.int .i64 x, .int .i64 y, .slice ao n c]].toArray w (fun v w' => ∃ ao' c', v = .agg #[.int .i64 x, .int .i64 y, .slice ao' n c'] ∧ CopyT w.heap.size w' ao' n c' ss ∧ Below w.heap.size w w') := by
  have one : ∀ (ao : Option Addr) (n c : Nat), ∀ v ∈ (#[.int .i64 x, .int .i64 y, .slice ao n c] : Array Value), v.oneCell' = true := fun ao n c v hv => by
    simp at hv; rcases hv with rfl | rfl | rfl <;> rfl
  refine enter1 Tryd.func55 rfl 9 rfl 10 rfl (fun a hF => ?_)
  repeat (first | refine c_seq ?_ | refine c_region _ ?_)
  refine st_box hF (cs := #[.int .i64 x, .int .i64 y, .slice ao n c]) rfl (k := fun a w1 hg1 hgr1 hsz1 hF => ?_)
  refine st_alloc hF inf58 (k := fun a w2 hg2 hgr2 hsz2 hF => ?_)
  have hb2 : Below w.heap.size w w2 := ((Below.refl _ w).grown hgr1 (Nat.le_refl _) (fun k hk => by cases hk)).grown hgr2 (by omega) (fun k hk => by cases hk)
  have hg12 := blk_kept hg1 hgr2 (by simp)
  repeat (first | refine c_seq ?_ | refine c_region _ ?_ | refine wpList_nil ?_ | refine c_then ?_ | ((apply st hF); (exact d_loadAgg (agg _ rfl) (isz _ _ rfl) rfl (cells_at hg12)); clear hF; clear a; intro a hF))
  refine st_alloc hF inf58 (k := fun a w3 hg3 hgr3 hsz3 hF => ?_)
  have hb3 : Below w.heap.size w w3 := hb2.grown hgr3 (by omega) (fun k hk => by cases hk)
  have hg13 := blk_kept hg12 hgr3 (by simp)
  have hg23 := blk_kept hg2 hgr3 (by simp)
  refine st_storeAgg hF (cs := #[.int .i64 x, .int .i64 y, .slice ao n c]) (isz _ _ rfl) rfl rfl hg3 (one _ _ _) (k := fun a w4 hg4 hgr4 hsz4 hF => ?_)
  have hb4 : Below w.heap.size w w4 := hb3.grown hgr4 (by omega) (fun k hk => by cases hk; omega)
  have hg14 := blk_kept hg13 hgr4 (by simp; omega)
  have hg24 := blk_kept hg23 hgr4 (by simp; omega)
  have c2 := cell_at (i := 2) hg14 rfl
  repeat (first | refine c_seq ?_ | refine c_region _ ?_ | refine wpList_nil ?_ | refine c_then ?_ | ((apply st hF); (first | exact d_fieldAddr (fld _ _ _ _ rfl) (isz _ _ rfl) | exact d_load (und _ _ rfl) c2); clear hF; clear a; intro a hF))
  refine stc hF (copy_texts w4 ss ao n c hn (hR.below hb4) hb) cal59 ⟨rfl, trivial⟩ (k := fun a v w5 hR hF => ?_)
  obtain ⟨ao2, cap, rfl, hown, hb5⟩ := hR
  have hb5' : Below w.heap.size w w5 := hb4.trans (hb5.mono (by omega))
  have hg25 : w5.heap[w1.heap.size]? = _ := (hb5.block _ (lt_at hg24)).trans hg24
  have hg35 : w5.heap[w2.heap.size]? = _ := (hb5.block _ (lt_at hg4)).trans hg4
  have hz5 := hb5.size
  repeat (((apply st hF); (exact d_fieldAddr (fld _ _ _ _ rfl) (isz _ _ rfl)); clear hF; clear a; intro a hF))
  refine st_store hF (isz _ _ rfl) hg35 (i := 2) (by show 2 < 3; decide) rfl rfl rfl (k := fun a w6 hg6 hgr6 hsz6 hF => ?_)
  have hown6 : CopyT w4.heap.size w6 ao2 n cap ss := own_keptB hown hgr6 (fun k hk e => by have := (own_geC hown hk).1; simp only [Option.some.injEq] at e; omega)
  have hb6 : Below w.heap.size w w6 := hb5'.grown hgr6 (by omega) (fun k hk => by cases hk; omega)
  have hg26 := blk_kept hg25 hgr6 (by simp; omega)
  repeat (first | refine c_seq ?_ | refine c_region _ ?_ | refine wpList_nil ?_ | refine c_then ?_ | ((apply st hF); (exact d_loadAgg (agg _ rfl) (isz _ _ rfl) rfl (cells_at hg6)); clear hF; clear a; intro a hF))
  refine st_storeAgg hF (cs := #[.int .i64 x, .int .i64 y, .slice ao2 n cap]) (isz _ _ rfl) rfl rfl hg26 (one _ _ _) (k := fun a w7 hg7 hgr7 hsz7 hF => ?_)
  have hown7 : CopyT w4.heap.size w7 ao2 n cap ss := own_keptB hown6 hgr7 (fun k hk e => by have := (own_geC hown hk).1; simp only [Option.some.injEq] at e; omega)
  have hb7 : Below w.heap.size w w7 := hb6.grown hgr7 (by omega) (fun k hk => by cases hk; omega)
  repeat (first | refine wpList_nil ?_ | refine c_then ?_ | refine wp_ret ?_)
  exact ret_c hF rfl (agg _ rfl) (isz _ _ rfl) hg7 rfl ⟨ao2, cap, rfl, own_rebase hown7 fun k hk => (by have := (own_geC hown hk).1; omega), hb7⟩
end Go.Proofs.YtjomihhpglojpaaDoor
end
