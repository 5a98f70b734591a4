/- Laid together by a program of mine: DbW. -/
import Derived.Test.YtjomihhpglojpaaDoorSumLawKnownCS14
set_option linter.unusedSimpArgs false
set_option linter.unusedVariables false
section
/- check.Database, walked. -/
namespace Go.Proofs.YtjomihhpglojpaaDoor
open Go.Maps (Keyed)
open Go.RowKit
section
variable {P : Program} {Q : Exit → Act → World → Prop} {a : Act} {w : World}
theorem c_mid {x y : Code} (M : Act → World → Prop) (h1 : x.wp P (Exit.then M Q) a w) (h2 : ∀ a w, M a w → y.wp P Q a w) : (Code.seq x y).wp P Q a w :=
  wp_seq (wp_mono h1 (fun e a w h => by cases e <;> first | exact h2 _ _ h | exact h))
end
open Go.RowKit
set_option linter.unusedSimpArgs false
set_option linter.unusedVariables false
attribute [local irreducible] wpList wpQuiet wpStill Code.wp Exit.then Exit.inBlock bodyPost Calls Does Does0
set_option maxRecDepth 100000
def DgAt (B : Nat) (d : Db) (w : World) : Prop := w.heap[B]? = some (.cells (Db.cells d).toArray 62 (0, 0))
theorem DgAt.below {B : Nat} {d : Db} {w w' : World} (h : DgAt B d w) (hb : Below w.heap.size w w') : DgAt B d w' := (hb.block _ (lt_at h)).trans h
theorem DgAt.c {B : Nat} {d : Db} {w : World} (h : DgAt B d w) (o : Nat) (x : Value) (hx : (Db.cells d)[o]? = some x) : w.cell? ⟨B, o, none⟩ = some x := cell_at h (by simpa using hx)
theorem pair2 {w : World} {b o : Nat} {x y : Value} (h0 : w.cell? ⟨b, o, none⟩ = some x) (h1 : w.cell? ⟨b, o + 1, none⟩ = some y) : ∀ j v, (#[x, y] : Array Value)[j]? = some v → w.cell? ⟨b, o + j, none⟩ = some v := by
  intro j v h
  rcases (show j = 0 ∨ j = 1 ∨ 2 ≤ j by omega) with rfl | rfl | hj
  · simp at h; subst h; exact h0
  · simp at h; subst h; exact h1
  · rw [Array.getElem?_eq_none (by simpa using hj)] at h; cases h
theorem listGo_ne : ∀ (xs ys : List ByteArray), listGo ys xs ≠ 5
  | [], ys => by simp [listGo]
  | x :: xs, ys => by
    unfold listGo
    split
    · omega
    · split
      · omega
      · exact listGo_ne xs _
/-- The later stages of what is wrong. -/
noncomputable def dbT (ms : List MsgT) (ts : List TabT) : Err := thenE (firstAt (fun i => dtE ms ts i ≠ 0) ts.length) (fun i => (dtE ms ts i, (ts_ ts i).line, (ts_ ts i).col)) okE
noncomputable def dbM (ss : List ByteArray) (ms : List MsgT) (ts : List TabT) : Err :=
  if 512 < ms.length then (5, (ms_ ms 512).line, (ms_ ms 512).col)
  else thenE (firstAt (fun i => (dmE ss ms i).1 ≠ 0) ms.length) (dmE ss ms) (dbT ms ts)
theorem msg_cells_at {w wr : World} {ao : Option Addr} {n c : Nat} {ms : List MsgT} (hin : MsgsIn w ao n c ms) (hb : Below w.heap.size w wr) {k : Nat} (hk : k < ms.length) :
    ∃ b o, ao = some ⟨b, o, none⟩ ∧ ∀ q v, (Msg.cells (ms_ ms k))[q]? = some v → wr.cell? ⟨b, o + k * 8 + q, none⟩ = some v := by
  obtain ⟨b, o, hao, hc⟩ := hin.rd k (by simpa using hk)
  have e : (ms.map (·.1))[k]'(by simpa using hk) = ms[k].1 := by simp
  rw [e] at hc
  rw [ms_lt hk]
  exact ⟨b, o, hao, fun q v hq => (hb.cell (p := ⟨b, o + k * 8 + q, none⟩) (World.block_lt_of_cell? w _ (hc q v hq))).trans (hc q v hq)⟩
theorem tab_cells_at {w wr : World} {ao : Option Addr} {n c : Nat} {ts : List TabT} (hin : TabsIn w ao n c ts) (hb : Below w.heap.size w wr) {k : Nat} (hk : k < ts.length) :
    ∃ b o, ao = some ⟨b, o, none⟩ ∧ ∀ q v, (Tab.cells (ts_ ts k))[q]? = some v → wr.cell? ⟨b, o + k * 6 + q, none⟩ = some v := by
  obtain ⟨b, o, hao, hc⟩ := hin.rd k (by simpa using hk)
  have e : (ts.map (·.1))[k]'(by simpa using hk) = ts[k].1 := by simp
  rw [e] at hc
  rw [ts_lt hk]
  exact ⟨b, o, hao, fun q v hq => (hb.cell (p := ⟨b, o + k * 6 + q, none⟩) (World.block_lt_of_cell? w _ (hc q v hq))).trans (hc q v hq)⟩
theorem sta_bad {ss : List ByteArray} {i : Nat} (h : wordB (ss.getD i ⟨#[]⟩) = false ∨ ss.getD i ⟨#[]⟩ = nobody) : staE ss i = 11 := by unfold staE; rw [if_pos h]
theorem sta_two {ss : List ByteArray} {i : Nat} (h : ¬ (wordB (ss.getD i ⟨#[]⟩) = false ∨ ss.getD i ⟨#[]⟩ = nobody)) (h2 : ∃ k, k < i ∧ ss.getD k ⟨#[]⟩ = ss.getD i ⟨#[]⟩) : staE ss i = 12 := by unfold staE; rw [if_neg h, if_pos h2]
theorem sta_ok {ss : List ByteArray} {i : Nat} (h : ¬ (wordB (ss.getD i ⟨#[]⟩) = false ∨ ss.getD i ⟨#[]⟩ = nobody)) (h2 : ¬ ∃ k, k < i ∧ ss.getD k ⟨#[]⟩ = ss.getD i ⟨#[]⟩) : staE ss i = 0 := by unfold staE; rw [if_neg h, if_neg h2]
theorem fS_iff {ss : List ByteArray} {s : ByteArray} {i : Nat} (hs : s ≠ nobody) : (∃ j, j < i + 1 ∧ fS ss j = keyS s) ↔ ∃ k, k < i ∧ ss.getD k ⟨#[]⟩ = s := by
  constructor
  · rintro ⟨j, hj, e⟩
    cases j with
    | zero => exact absurd (keyS_inj e).symm hs
    | succ j => exact ⟨j, by omega, keyS_inj e⟩
  · rintro ⟨k, hk, e⟩
    exact ⟨k + 1, by omega, by show keyS (ss.getD k ⟨#[]⟩) = keyS s; rw [e]⟩
def fT (ts : List TabT) (j : Nat) : Lit := keyN (ts_ ts j).id (ts_ ts j).wide (ts_ ts j).sig
theorem dt_none {ms : List MsgT} {ts : List TabT} {i : Nat} (h : ¬ ∃ s, ofB ms (ts_ ts i).id (ts_ ts i).wide (ts_ ts i).sig s) : dtE ms ts i = 13 := by unfold dtE; rw [dif_neg h]
theorem dt_two {ms : List MsgT} {ts : List TabT} {i : Nat} {s : Sig} (h : ofB ms (ts_ ts i).id (ts_ ts i).wide (ts_ ts i).sig s) (h2 : ∃ k, k < i ∧ (ts_ ts k).id = (ts_ ts i).id ∧ (ts_ ts k).wide = (ts_ ts i).wide ∧ (ts_ ts k).sig = (ts_ ts i).sig) : dtE ms ts i = 12 := by
  unfold dtE; rw [dif_pos ⟨s, h⟩, if_pos h2]
theorem dt_rows {ms : List MsgT} {ts : List TabT} {i : Nat} {s : Sig} (H : Entered ms ms.length) (h : ofB ms (ts_ ts i).id (ts_ ts i).wide (ts_ ts i).sig s) (h2 : ¬ ∃ k, k < i ∧ (ts_ ts k).id = (ts_ ts i).id ∧ (ts_ ts k).wide = (ts_ ts i).wide ∧ (ts_ ts k).sig = (ts_ ts i).sig) : dtE ms ts i = rowsE s (tr_ ts i) := by
  have hex : ∃ s, ofB ms (ts_ ts i).id (ts_ ts i).wide (ts_ ts i).sig s := ⟨s, h⟩
  unfold dtE
  rw [dif_pos hex, if_neg h2, of_unique H (Classical.choose_spec hex) h]
theorem head_few {m : Msg} (h : headE m = 0) : m.sgN ≤ 64 := by
  unfold headE at h
  by_cases e1 : wordB m.name = false
  · rw [if_pos e1] at h; cases h
  rw [if_neg e1] at h
  by_cases e2 : mostE m < m.id
  · rw [if_pos e2] at h; cases h
  rw [if_neg e2] at h
  by_cases e3 : m.size < 0 ∨ 8 < m.size
  · rw [if_pos e3] at h; cases h
  rw [if_neg e3] at h
  by_cases e4 : wordB m.sender = false
  · rw [if_pos e4] at h; cases h
  rw [if_neg e4] at h
  by_cases e5 : 64 < m.sgN
  · rw [if_pos e5] at h; cases h
  omega
def TgAt (B : Nat) (t : Tab) (w : World) : Prop := w.heap[B]? = some (.cells (Tab.cells t).toArray 67 (0, 0))
theorem TgAt.below {B : Nat} {t : Tab} {w w' : World} (h : TgAt B t w) (hb : Below w.heap.size w w') : TgAt B t w' := (hb.block _ (lt_at h)).trans h
theorem TgAt.c {B : Nat} {t : Tab} {w : World} (h : TgAt B t w) (o : Nat) (x : Value) (hx : (Tab.cells t)[o]? = some x) : w.cell? ⟨B, 0 + o, none⟩ = some x := cell_at h (by simpa using hx)
theorem TgAt.pl {B : Nat} {t : Tab} {w : World} (h : TgAt B t w) : ∀ j v, (#[.int .i64 t.line, .int .i64 t.col] : Array Value)[j]? = some v → w.cell? ⟨B, 0 + 0 + j, none⟩ = some v := pair2 (h.c 0 _ rfl) (h.c 1 _ rfl)
def sigZ : Sig := ⟨0, 0, ⟨#[]⟩, 0, 0, 0, 0, false, false, 0, 0, 0, 0, 0, 0, 0, 0, ⟨#[]⟩, none, 0, 0⟩
set_option maxHeartbeats 64000000 in
theorem cdb_ok (w : World) (d : Db) (ss : List ByteArray) (ms : List MsgT) (ts : List TabT) (hin : DbIn w d ss ms ts) (hT : Tabs w) :
    Ret Tryd.prog 21 [.agg (Db.cells d).toArray].toArray w (fun v w' => v = atV (dbE d ss ms ts).1 (dbE d ss ms ts).2.1 (dbE d ss ms ts).2.2 ∧ Below w.heap.size w w') := by
  have hE : dbE d ss ms ts = dbE d ss ms ts := rfl
  conv at hE => rhs; unfold dbE
  change dbE d ss ms ts = (if d.hasV = true ∧ textE d.vtext ≠ 0 then (textE d.vtext, d.vline, d.vcol) else if 64 < ss.length then (5, d.sline, d.scol) else thenE (firstAt (fun i => staE ss i ≠ 0) ss.length) (fun i => (staE ss i, d.sline, d.scol)) (dbM ss ms ts)) at hE
  obtain ⟨E, hEe⟩ : ∃ x, x = dbE d ss ms ts := ⟨_, rfl⟩
  rw [← hEe] at hE ⊢
  clear hEe
  have hsl := hin.slen
  have hsby := hin.sbytes
  have hml := hin.msgs.len
  have hmby := hin.msgs.bytes
  have htl := hin.tabs.len
  have htby := hin.tabs.bytes
  refine enter1 Tryd.func21 rfl 159 rfl 160 rfl (fun a hF => ?_)
  refine c_seq (c_region _ ?_)
  refine st_box hF (cs := (Db.cells d).toArray) rfl (k := fun a w1 hg1 hgr1 hsz1 hF => ?_)
  have hb1 : Below w.heap.size w w1 := (Below.refl _ w).grown hgr1 (Nat.le_refl _) (fun k hk => by cases hk)
  have hd1 : DgAt w.heap.size d w1 := hg1
  clear hg1 hgr1
  refine st hF d_assign rfl (fun a hF => wpList_nil (c_then ?_))
  have vpl : ∀ wq, DgAt w.heap.size d wq → ∀ j v, (#[.int .i64 d.vline, .int .i64 d.vcol] : Array Value)[j]? = some v → wq.cell? ⟨w.heap.size, 0 + 1 + 0 + j, none⟩ = some v := fun wq h => pair2 (h.c 1 _ rfl) (h.c 2 _ rfl)
  have spl : ∀ wq, DgAt w.heap.size d wq → ∀ j v, (#[.int .i64 d.sline, .int .i64 d.scol] : Array Value)[j]? = some v → wq.cell? ⟨w.heap.size, 0 + 4 + 0 + j, none⟩ = some v := fun wq h => pair2 (h.c 4 _ rfl) (h.c 5 _ rfl)
  refine c_mid (fun a w2 => Fr 160 [(1, .pointer (some ⟨w.heap.size, 0, none⟩))] a ∧ DgAt w.heap.size d w2 ∧ Below w.heap.size w w2 ∧ ¬ (d.hasV = true ∧ textE d.vtext ≠ 0)) ?_ ?_
  · cases hv : d.hasV with
    | false =>
      have c0 : w1.cell? ⟨w.heap.size, 0 + 0, none⟩ = some (.bool d.hasV) := hd1.c 0 _ rfl
      rw [hv] at c0
      repeat (first | refine c_seq ?_ | refine c_region _ ?_ | refine wpList_nil ?_ | refine c_then ?_ | refine wp_skip ?_ | ((apply st hF); (first | exact d_fieldAddr (fld _ _ _ _ rfl) (isz _ _ rfl) | exact d_load (und _ _ rfl) c0); clear hF; clear a; intro a hF) | (apply c_cond_f hF; exact rfl; first | exact rfl | assumption))
      exact ⟨hF.keep' ⟨rfl, trivial⟩, hd1, hb1, fun h => Bool.noConfusion h.1⟩
    | true =>
      have c0 : w1.cell? ⟨w.heap.size, 0 + 0, none⟩ = some (.bool d.hasV) := hd1.c 0 _ rfl
      rw [hv] at c0
      have c3 : w1.cell? ⟨w.heap.size, 0 + 1 + 2, none⟩ = some (.string d.vtext) := hd1.c 3 _ rfl
      repeat (first | refine c_seq ?_ | refine c_region _ ?_ | refine wpList_nil ?_ | refine c_then ?_ | ((apply st hF); (first | exact d_fieldAddr (fld _ _ _ _ rfl) (isz _ _ rfl) | exact d_load (und _ _ rfl) c0 | exact d_load (und _ _ rfl) c3); clear hF; clear a; intro a hF) | (apply c_cond_t hF; exact rfl; first | exact rfl | assumption))
      refine stc hF (text_ok w1 d.vtext (hT.below hb1)) cal48 ⟨rfl, trivial⟩ (k := fun a v w2 hR hF => ?_)
      obtain ⟨⟨te', hte, rfl⟩, hb2⟩ := hR
      rw [text_is hte] at hF
      have hd2 := hd1.below hb2
      replace hb2 := hb1.trans (hb2.mono hb1.size)
      generalize textE d.vtext = te at *
      by_cases ht : te = 0
      · repeat (first | refine c_seq ?_ | refine c_region _ ?_ | refine wpList_nil ?_ | refine c_then ?_ | refine wp_skip ?_ | ((apply st hF); (first | exact d_move | exact d_assign | exact d_cmpF); clear hF; clear a; intro a hF) | (apply c_cond_f hF; exact rfl; first | exact rfl | assumption))
        exact ⟨hF.keep' ⟨rfl, trivial⟩, hd2, hb2, fun h => h.2 ht⟩
      · repeat (first | refine c_seq ?_ | refine c_region _ ?_ | refine wpList_nil ?_ | refine c_then ?_ | ((apply st hF); (first | exact d_move | exact d_assign | exact d_cmpT | exact d_fieldAddr (fld _ _ _ _ rfl) (isz _ _ rfl) | exact d_loadAgg (agg _ rfl) (isz _ _ rfl) rfl (vpl _ hd2)); clear hF; clear a; intro a hF) | (apply c_cond_t hF; exact rfl; first | exact rfl | assumption))
        refine stc hF (cat_ok w2 te d.vline d.vcol) cal32 ⟨rfl, rfl, trivial⟩ (k := fun a v w3 hR hF => ?_)
        obtain ⟨rfl, hb3⟩ := hR
        repeat (first | refine wpList_nil ?_ | refine c_then ?_ | refine c_then_ret ?_ | refine wp_ret ?_ | ((apply st hF); (exact d_assign); clear hF; clear a; intro a hF))
        refine ret1 hF rfl rfl ⟨?_, hb2.trans (hb3.mono hb2.size)⟩
        rw [hE, if_pos ⟨hv, ht⟩]
  clear hF a
  rintro a w2 ⟨hF, hd2, hb2, hnv⟩
  rw [if_neg hnv] at hE
  have KS : Keyed Tryd.prog 9 := Go.Maps.string_keyed Tryd.underlying9
  have KN : Keyed Tryd.prog 104 := Keyed.of_law named_law
  have hz2 := hb2.size
  have hld2 := lt_at hd2
  -- the book
  refine c_seq (c_region _ ?_)
  refine st hF (d_makeMap Tryd.underlying76) rfl (fun a hF => ?_)
  have hgA : w2.grownBy (w2.alloc (.map #[] 0)) none := World.grownBy_alloc w2 _ none
  have hsA : (w2.alloc (.map #[] 0)).heap.size = w2.heap.size + 1 := by simp
  obtain ⟨wB, hrB, hMB, hgB, hsB⟩ := (MapG.new (P := Tryd.prog) (k := 9) w2).put KS Tryd.underlying76 (key := .string nobody) (key_string Tryd.underlying9 nobody (by decide)) (.bool true) (by simp; unfold maxLen; omega)
  generalize w2.alloc (.map #[] 0) = wA at *
  refine st0 hF (d_insert hrB) rfl (fun a hF => ?_)
  refine st hF d_move rfl (fun a hF => ?_)
  refine st hF (d_makeMap Tryd.underlying76) rfl (fun a hF => ?_)
  have hMC := MapG.new (P := Tryd.prog) (k := 9) wB
  have hgC : wB.grownBy (wB.alloc (.map #[] 0)) none := World.grownBy_alloc wB _ none
  have hsC : (wB.alloc (.map #[] 0)).heap.size = wB.heap.size + 1 := by simp
  generalize wB.alloc (.map #[] 0) = wC at *
  refine st hF (d_makeMap Tryd.underlying97) rfl (fun a hF => ?_)
  have hMD := MapG.new (P := Tryd.prog) (k := 104) wC
  have hgD : wC.grownBy (wC.alloc (.map #[] 0)) none := World.grownBy_alloc wC _ none
  have hsD : (wC.alloc (.map #[] 0)).heap.size = wC.heap.size + 1 := by simp
  generalize wC.alloc (.map #[] 0) = wD at *
  refine st hF (d_makeMap Tryd.underlying98) rfl (fun a hF => ?_)
  have hME := MapG.new (P := Tryd.prog) (k := 104) wD
  have hgE : wD.grownBy (wD.alloc (.map #[] 0)) none := World.grownBy_alloc wD _ none
  have hsE : (wD.alloc (.map #[] 0)).heap.size = wD.heap.size + 1 := by simp
  generalize wD.alloc (.map #[] 0) = wE at *
  refine st hF (d_build (vs := [(0, .map (some w2.heap.size)), (1, .map (some wB.heap.size)), (2, .map (some wC.heap.size)), (3, .map (some wD.heap.size))]) (cells := #[.map (some w2.heap.size), .map (some wB.heap.size), .map (some wC.heap.size), .map (some wD.heap.size)]) (by kernel_rfl) ⟨rfl, rfl, rfl, rfl, rfl, rfl, rfl, rfl, trivial⟩) rfl (fun a hF => ?_)
  refine st_box hF (cs := #[.map (some w2.heap.size), .map (some wB.heap.size), .map (some wC.heap.size), .map (some wD.heap.size)]) rfl (k := fun a wF hgF hgrF hszF hF => ?_)
  have hbF : Below w2.heap.size w2 wF := ((((((Below.refl _ w2).grown hgA (Nat.le_refl _) (fun k hk => by cases hk)).grown hgB (by omega) (fun k hk => by cases hk; exact Nat.le_refl _)).grown hgC (by omega) (fun k hk => by cases hk)).grown hgD (by omega) (fun k hk => by cases hk)).grown hgE (by omega) (fun k hk => by cases hk)).grown hgrF (by omega) (fun k hk => by cases hk)
  have hKF : BookI w2.heap.size wF wE.heap.size w2.heap.size wB.heap.size wC.heap.size wD.heap.size ss 1 ms 0 [] := by
    refine ⟨⟨by omega, by omega, by omega, by omega, by omega⟩, hgF, ?_, ?_, ?_, ?_⟩
    · exact ((((hMB.kept hgC (by simp)).kept hgD (by simp)).kept hgE (by simp)).kept hgrF (by simp))
    · exact (((hMC.kept hgD (by simp)).kept hgE (by simp)).kept hgrF (by simp))
    · exact ((hMD.kept hgE (by simp)).kept hgrF (by simp))
    · exact hME.kept hgrF (by simp)
  clear hMB hMC hMD hME hgA hgB hgC hgD hgE hgrF hgF hrB
  have ec : ∀ wq, DgAt w.heap.size d wq → wq.cell? ⟨w.heap.size, 0 + 4 + 2, none⟩ = some (.slice d.sn d.snN d.snC) := fun wq h => h.c 6 _ rfl
  have hdF := hd2.below hbF
  have hBF : Below w.heap.size w wF := hb2.trans (hbF.mono hz2)
  repeat (first | refine c_seq ?_ | refine c_region _ ?_ | refine wpList_nil ?_ | refine c_then ?_ | ((apply st hF); (first | exact d_assign | exact d_fieldAddr (fld _ _ _ _ rfl) (isz _ _ rfl) | exact d_load (und _ _ rfl) (ec _ hdF)); clear hF; clear a; intro a hF))
  refine stc hF (list_ok wF ss d.sn d.snN d.snC 64 hsl (hin.srd.below hBF) (by decide)) cal49 ⟨rfl, rfl, trivial⟩ (k := fun a v w3 hR hF => ?_)
  obtain ⟨rfl, hb3⟩ := hR
  have hK3 := hKF.below hb3
  replace hb3 : Below w2.heap.size w2 w3 := hbF.trans (hb3.mono hbF.size)
  have hd3 := hd2.below hb3
  clear hKF hdF hBF hbF
  by_cases h64 : (64 : Int) < d.snN
  · rw [if_pos h64] at hF
    rw [if_pos (by omega)] at hE
    repeat (first | refine c_seq ?_ | refine c_region _ ?_ | refine wpList_nil ?_ | refine c_then ?_ | ((apply st hF); (first | exact d_move | exact d_assign | exact d_cmpT | exact d_fieldAddr (fld _ _ _ _ rfl) (isz _ _ rfl) | exact d_loadAgg (agg _ rfl) (isz _ _ rfl) rfl (spl _ hd3)); clear hF; clear a; intro a hF) | (apply c_cond_t hF; exact rfl; first | exact rfl | assumption))
    refine stc hF (cat_ok w3 5 d.sline d.scol) cal32 ⟨rfl, rfl, trivial⟩ (k := fun a v w4 hR hF => ?_)
    obtain ⟨rfl, hb4⟩ := hR
    repeat (first | refine wpList_nil ?_ | refine c_then ?_ | refine c_then_ret ?_ | refine wp_ret ?_ | ((apply st hF); (exact d_assign); clear hF; clear a; intro a hF))
    refine ret1 hF rfl rfl ⟨by rw [hE], (hb2.trans (hb3.mono hz2)).trans (hb4.mono (Nat.le_trans hz2 hb3.size))⟩
  rw [if_neg h64] at hF
  rw [if_neg (by omega)] at hE
  have hlg := listGo_ne ss []
  generalize listGo [] ss = lg at *
  repeat (first | refine c_seq ?_ | refine c_block ?_ | refine c_region _ ?_ | refine wpList_nil ?_ | refine c_then ?_ | refine wp_skip ?_ | ((apply st hF); (first | exact d_move | exact d_assign | exact d_cmpF | exact d_len (und _ _ rfl) | exact d_fieldAddr (fld _ _ _ _ rfl) (isz _ _ rfl) | exact d_load (und _ _ rfl) (ec _ hd3)); clear hF; clear a; intro a hF) | (apply c_cond_f hF; exact rfl; first | exact rfl | assumption))
  refine c_loop (fun q a wr => ∃ k, k ≤ d.snN ∧ q = d.snN - k ∧ (∀ j, j < k → staE ss j = 0) ∧ Fr 160 [(1, .pointer (some ⟨w.heap.size, 0, none⟩)), (4, .pointer (some ⟨wE.heap.size, 0, none⟩)), (51, .slice d.sn d.snN d.snC), (52, .int .i64 d.snN), (53, .int .i64 (k : Nat))] a ∧
    BookI w2.heap.size wr wE.heap.size w2.heap.size wB.heap.size wC.heap.size wD.heap.size ss (k + 1) ms 0 [] ∧ Below w2.heap.size w2 wr) d.snN
    ⟨0, Nat.zero_le _, rfl, fun j hj => absurd hj (Nat.not_lt_zero _), hF.keep' ⟨rfl, rfl, rfl, rfl, rfl, trivial⟩, hK3, hb3⟩ ?_
  clear hF a hK3 hb3 hd3
  rintro q a wr ⟨k, hk, rfl, hno, hF, hK, hbel⟩
  have hz := hbel.size
  have hdr := hd2.below hbel
  have hB : Below w.heap.size w wr := hb2.trans (hbel.mono hz2)
  by_cases hlt : k < d.snN
  case pos =>
    have hkl : k < ss.length := by omega
    obtain ⟨b, o, hao, hc⟩ := hin.srd.below hB k hkl
    have hbad : ∀ e, staE ss k = e → e ≠ 0 → E = (e, d.sline, d.scol) := fun e he h => by
      rw [hE, firstAt_some hkl (by rw [he]; exact h) (fun j hj e => e (hno j hj)), ← he]; rfl
    have hgd : ss.getD k ⟨#[]⟩ = ss[k] := by rw [List.getD_eq_getElem?_getD, List.getElem?_eq_getElem hkl]; rfl
    rw [← hgd] at hc
    have s11 := sta_bad (ss := ss) (i := k)
    have s12 := sta_two (ss := ss) (i := k)
    have s0 := sta_ok (ss := ss) (i := k)
    have hfi := fun (h : ss.getD k ⟨#[]⟩ ≠ nobody) => fS_iff (ss := ss) (i := k) h
    obtain ⟨s, hs⟩ : ∃ x, x = ss.getD k ⟨#[]⟩ := ⟨_, rfl⟩
    rw [← hs] at hc s11 s12 s0 hfi
    rw [hao] at hF
    repeat (first | refine c_seq ?_ | refine c_block ?_ | refine c_region _ ?_ | refine wpList_nil ?_ | refine c_then ?_ | refine wp_skip ?_ | ((apply st hF); (first | exact d_move | exact d_assign | exact d_cmpT | exact d_indexAddr1 (und _ _ rfl) (isz _ _ rfl) | exact d_load (und _ _ rfl) hc); clear hF; clear a; intro a hF) | (apply c_cond_t hF; exact rfl; first | exact rfl | assumption))
    refine stc hF (word_ok' wr s) cal50 ⟨rfl, trivial⟩ (k := fun a v r1 hR hF => ?_)
    obtain ⟨rfl, hb1'⟩ := hR
    have hK1 := hK.below hb1'
    have hb1'' : Below w2.heap.size w2 r1 := hbel.trans (hb1'.mono hz)
    have hdr1 := hd2.below hb1''
    cases hw : wordB s with
    | false =>
      rw [hw] at hF
      have hEE := hbad 11 (s11 (.inl hw)) (by decide)
      repeat (first | refine c_seq ?_ | refine c_region _ ?_ | refine wpList_nil ?_ | refine c_then ?_ | ((apply st hF); (first | exact d_move | exact d_assign | exact d_not | exact d_pickT | exact d_fieldAddr (fld _ _ _ _ rfl) (isz _ _ rfl) | exact d_loadAgg (agg _ rfl) (isz _ _ rfl) rfl (spl _ hdr1)); clear hF; clear a; intro a hF) | ((apply stm hF); clear hF; clear a; intro a hF) | (apply c_cond_t hF; exact rfl; first | exact rfl | assumption))
      refine stc hF (cat_ok r1 11 d.sline d.scol) cal32 ⟨rfl, rfl, trivial⟩ (k := fun a v w4 hR hF => ?_)
      obtain ⟨rfl, hb4⟩ := hR
      repeat (first | refine wpList_nil ?_ | refine c_then ?_ | refine c_then_ret ?_ | refine c_in_ret ?_ | refine wp_ret ?_ | ((apply st hF); (exact d_assign); clear hF; clear a; intro a hF))
      exact ret1 hF rfl rfl ⟨by rw [hEE], (hb2.trans (hb1''.mono hz2)).trans (hb4.mono (Nat.le_trans hz2 hb1''.size))⟩
    | true =>
    rw [hw] at hF
    by_cases hnb : s = nobody
    · have hd : decide (s = (⟨#[86, 101, 99, 116, 111, 114, 95, 95, 88, 88, 88]⟩ : ByteArray)) = true := decide_eq_true hnb
      have hEE := hbad 11 (s11 (.inr hnb)) (by decide)
      repeat (first | refine c_seq ?_ | refine c_region _ ?_ | refine wpList_nil ?_ | refine c_then ?_ | ((first | apply st hF | apply stg hF); (first | exact d_move | exact d_assign | exact d_not | exact d_pickF | exact d_eqST | exact d_fieldAddr (fld _ _ _ _ rfl) (isz _ _ rfl) | exact d_loadAgg (agg _ rfl) (isz _ _ rfl) rfl (spl _ hdr1)); clear hF; clear a; intro a hF) | (apply c_cond_t hF; exact rfl; first | exact rfl | assumption))
      refine stc hF (cat_ok r1 11 d.sline d.scol) cal32 ⟨rfl, rfl, trivial⟩ (k := fun a v w4 hR hF => ?_)
      obtain ⟨rfl, hb4⟩ := hR
      repeat (first | refine wpList_nil ?_ | refine c_then ?_ | refine c_then_ret ?_ | refine c_in_ret ?_ | refine wp_ret ?_ | ((apply st hF); (exact d_assign); clear hF; clear a; intro a hF))
      exact ret1 hF rfl rfl ⟨by rw [hEE], (hb2.trans (hb1''.mono hz2)).trans (hb4.mono (Nat.le_trans hz2 hb1''.size))⟩
    have hd : decide (s = (⟨#[86, 101, 99, 116, 111, 114, 95, 95, 88, 88, 88]⟩ : ByteArray)) = false := decide_eq_false hnb
    have hs64 := wordB_size hw
    have hn0 : ¬ (wordB s = false ∨ s = nobody) := fun h => h.elim (fun e => by rw [hw] at e; cases e) hnb
    have hl := hK1.sta.look KS Tryd.underlying76 (zeroB _) (key_string Tryd.underlying9 s (by unfold maxLen; omega))
    by_cases hdup : ∃ i, i < k ∧ ss.getD i ⟨#[]⟩ = s
    · rw [keysF_yes ((hfi hnb).2 hdup)] at hl
      have hEE := hbad 12 (s12 hn0 hdup) (by decide)
      repeat (first | refine c_seq ?_ | refine c_region _ ?_ | refine wpList_nil ?_ | refine c_then ?_ | ((first | apply st hF | apply stg hF); (first | exact d_move | exact d_assign | exact d_not | exact d_pickF | exact d_eqSF | exact d_nilCheck | exact d_fieldAddr (fld _ _ _ _ rfl) (isz _ _ rfl) | exact d_lookup hl | exact d_loadAgg (agg _ rfl) (isz _ _ rfl) rfl (spl _ hdr1) | exact d_load (und _ _ rfl) (hK1.c 0 _ rfl)); clear hF; clear a; intro a hF) | (apply c_cond_t hF; exact rfl; first | exact rfl | assumption) | (apply c_cond_f hF; exact rfl; first | exact rfl | assumption))
      refine stc hF (cat_ok r1 12 d.sline d.scol) cal32 ⟨rfl, rfl, trivial⟩ (k := fun a v w4 hR hF => ?_)
      obtain ⟨rfl, hb4⟩ := hR
      repeat (first | refine wpList_nil ?_ | refine c_then ?_ | refine c_then_ret ?_ | refine c_in_ret ?_ | refine wp_ret ?_ | ((apply st hF); (exact d_assign); clear hF; clear a; intro a hF))
      exact ret1 hF rfl rfl ⟨by rw [hEE], (hb2.trans (hb1''.mono hz2)).trans (hb4.mono (Nat.le_trans hz2 hb1''.size))⟩
    rw [keysF_no (fun h => hdup ((hfi hnb).1 h))] at hl
    obtain ⟨r2, hr2, hM2, hgr2, hsz2⟩ := hK1.sta.put KS Tryd.underlying76 (key := .string s) (key_string Tryd.underlying9 s (by unfold maxLen; omega)) (.bool true) (by rw [keysF_len]; unfold maxLen; omega)
    have hord := hK1.ord
    have hlBK := lt_at hK1.cell
    repeat (first | refine c_seq ?_ | refine c_region _ ?_ | refine wpList_nil ?_ | refine c_then ?_ | refine c_in ?_ | refine wp_skip ?_ | ((first | apply st hF | apply stg hF); (first | exact d_move | exact d_assign | exact d_not | exact d_pickF | exact d_eqSF | exact d_nilCheck | exact d_fieldAddr (fld _ _ _ _ rfl) (isz _ _ rfl) | exact d_lookup hl | exact d_load (und _ _ rfl) (hK1.c 0 _ rfl)); clear hF; clear a; intro a hF) | (apply c_cond_f hF; exact rfl; first | exact rfl | assumption))
    refine st0 hF (d_mapUpdate hr2) rfl (fun a hF => ?_)
    repeat (first | refine c_region _ ?_ | refine wpList_nil ?_ | refine c_then ?_ | refine c_in ?_ | ((apply st hF); (first | exact d_move | exact d_add); clear hF; clear a; intro a hF))
    refine ⟨d.snN - (k + 1), by omega, k + 1, by omega, rfl, fun j hj => ?_, by rw [hao]; exact hF.keep' ⟨rfl, rfl, rfl, rfl, rfl, trivial⟩, ⟨hord, blk_kept hK1.cell hgr2 (by simp; omega), ?_, hK1.mes.kept hgr2 (by simp; omega), hK1.ids.kept hgr2 (by simp; omega), hK1.sigs.kept hgr2 (by simp; omega)⟩, hb1''.grown hgr2 hb1''.size (fun k hk => by cases hk; exact Nat.le_refl _)⟩
    · by_cases e : j = k
      · subst e; exact s0 hn0 hdup
      · exact hno j (by omega)
    · have : keysF (fS ss) (k + 1 + 1) = (keyS s, .bool true) :: keysF (fS ss) (k + 1) := by rw [hs]; rfl
      rw [this]
      exact hM2
  obtain rfl : k = d.snN := by omega
  rw [firstAt_none (fun i hi e => e (hno i (by omega)))] at hE
  replace hE : E = dbM ss ms ts := hE
  clear hno ec spl vpl hdr
  have hdr := hd2.below hbel
  have hids : ∀ i, i < ms.length → 0 ≤ (ms_ ms i).id ∧ (ms_ ms i).id < 4294967296 := fun i hi => by
    rw [ms_lt hi]; exact (hin.msgs.bnd _ (List.getElem_mem hi)).2
  have hEM : dbM ss ms ts = dbM ss ms ts := rfl
  conv at hEM => rhs; unfold dbM
  rw [hEM] at hE
  clear hEM
  have ec7 : ∀ wq, DgAt w.heap.size d wq → wq.cell? ⟨w.heap.size, 0 + 7, none⟩ = some (.slice d.mg d.mgN d.mgC) := fun wq h => h.c 7 _ rfl
  have ec8 : ∀ wq, DgAt w.heap.size d wq → wq.cell? ⟨w.heap.size, 0 + 8, none⟩ = some (.slice d.tb d.tbN d.tbC) := fun wq h => h.c 8 _ rfl
  by_cases hbig : (d.mgN : Int) > 512
  · rw [if_pos (by omega)] at hE
    obtain ⟨b, o, hao, hc⟩ := msg_cells_at hin.msgs hB (k := 512) (by omega)
    have e7 := ec7 _ hdr
    rw [hao] at e7
    have p512 : ∀ j v, (#[.int .i64 (ms_ ms 512).line, .int .i64 (ms_ ms 512).col] : Array Value)[j]? = some v → wr.cell? ⟨b, o + 512 * 8 + 0 + j, none⟩ = some v := pair2 (hc 0 _ rfl) (hc 1 _ rfl)
    repeat (first | refine c_seq ?_ | refine c_region _ ?_ | refine wpList_nil ?_ | refine c_then ?_ | refine c_then_exit ?_ | refine c_in_hit ?_ | refine wp_exit ?_ | ((apply st hF); (first | exact d_cmpT | exact d_cmpF | exact d_len (und _ _ rfl) | exact d_fieldAddr (fld _ _ _ _ rfl) (isz _ _ rfl) | exact d_indexAddrS (und _ _ rfl) (isz _ _ rfl) (j := 512) | exact d_loadAgg (agg _ rfl) (isz _ _ rfl) rfl p512 | exact d_load (und _ _ rfl) e7); clear hF; clear a; intro a hF) | (apply c_cond_t hF; exact rfl; first | exact rfl | assumption) | (apply c_cond_f hF; exact rfl; first | exact rfl | assumption))
    refine stc hF (cat_ok wr 5 _ _) cal32 ⟨rfl, rfl, trivial⟩ (k := fun a v w4 hR hF => ?_)
    obtain ⟨rfl, hb4⟩ := hR
    repeat (first | refine wpList_nil ?_ | refine c_then ?_ | refine c_then_ret ?_ | refine wp_ret ?_ | ((apply st hF); (exact d_assign); clear hF; clear a; intro a hF))
    exact ret1 hF rfl rfl ⟨by rw [hE], hB.trans (hb4.mono hB.size)⟩
  rw [if_neg (by omega)] at hE
  repeat (first | refine c_seq ?_ | refine c_block ?_ | refine c_region _ ?_ | refine wpList_nil ?_ | refine c_then ?_ | refine c_then_exit ?_ | refine c_in_hit ?_ | refine wp_skip ?_ | refine wp_exit ?_ | ((apply st hF); (first | exact d_move | exact d_cmpF | exact d_len (und _ _ rfl) | exact d_fieldAddr (fld _ _ _ _ rfl) (isz _ _ rfl) | exact d_load (und _ _ rfl) (ec7 _ hdr)); clear hF; clear a; intro a hF) | (apply c_cond_f hF; exact rfl; first | exact rfl | assumption))
  refine c_loop (fun q a wr => ∃ i, i ≤ d.mgN ∧ q = d.mgN - i ∧ (∀ j, j < i → (dmE ss ms j).1 = 0) ∧ Fr 160 [(1, .pointer (some ⟨w.heap.size, 0, none⟩)), (4, .pointer (some ⟨wE.heap.size, 0, none⟩)), (97, .slice d.mg d.mgN d.mgC), (98, .int .i64 d.mgN), (99, .int .i64 (i : Nat))] a ∧
    BookI w2.heap.size wr wE.heap.size w2.heap.size wB.heap.size wC.heap.size wD.heap.size ss (ss.length + 1) ms i (sigsKv ms i) ∧ (sigsKv ms i).length ≤ 64 * i ∧ Below w2.heap.size w2 wr) d.mgN
    ⟨0, Nat.zero_le _, rfl, fun j hj => absurd hj (Nat.not_lt_zero _), hF.keep' ⟨rfl, rfl, rfl, rfl, rfl, trivial⟩, by rw [hsl]; exact hK, Nat.le_refl 0, hbel⟩ ?_
  clear hF a hK hbel hz hdr hB
  rintro q a wr ⟨i, hi, rfl, hno, hF, hK, hkl', hbel⟩
  have hz := hbel.size
  have hdr := hd2.below hbel
  have hB : Below w.heap.size w wr := hb2.trans (hbel.mono hz2)
  by_cases hlt : i < d.mgN
  case pos =>
    have hil : i < ms.length := by omega
    obtain ⟨b, o, hao, hc⟩ := msg_cells_at hin.msgs hB hil
    have hmin : MsgIn w (ms_ ms i) (mp_ ms i) := by rw [ms_lt hil, mp_lt hil]; exact hin.msgs.each _ (List.getElem_mem hil)
    have hmbn : ∀ p ∈ mp_ ms i, SigB p.1 := by rw [mp_lt hil]; exact (hin.msgs.bnd _ (List.getElem_mem hil)).1
    rw [hao] at hF
    repeat (first | refine c_seq ?_ | refine c_block ?_ | refine c_region _ ?_ | refine wpList_nil ?_ | refine c_then ?_ | refine wp_skip ?_ | ((apply st hF); (first | exact d_cmpT | exact d_indexAddrS (und _ _ rfl) (isz _ _ rfl) (j := i) | exact d_loadAgg (agg _ rfl) (isz _ _ rfl) rfl (arr_cells hc)); clear hF; clear a; intro a hF) | (apply c_cond_t hF; exact rfl; first | exact rfl | assumption))
    refine st_alloc hF inf27 (k := fun a r1 hg1 hgr1 hsz1 hF => ?_)
    refine st_storeAgg hF (cs := (Msg.cells (ms_ ms i)).toArray) (isz _ _ rfl) rfl rfl hg1 (msg_cells _) (k := fun a r2 hm2 hgr2 hsz2 hF => ?_)
    have hb2' : Below wr.heap.size wr r2 := ((Below.refl _ wr).grown hgr1 (Nat.le_refl _) (fun k hk => by cases hk)).grown hgr2 (by omega) (fun k hk => by cases hk; exact Nat.le_refl _)
    have hK2 := hK.below hb2'
    have hbel2 : Below w2.heap.size w2 r2 := hbel.trans (hb2'.mono hz)
    have hm2 : MgAt wr.heap.size (ms_ ms i) r2 := hm2
    clear hg1 hgr1 hgr2
    repeat (first | refine c_seq ?_ | refine c_region _ ?_ | refine wpList_nil ?_ | refine c_then ?_ | ((apply st hF); (first | exact d_move | exact d_loadAgg (agg _ rfl) (isz _ _ rfl) rfl (cells_at hm2)); clear hF; clear a; intro a hF))
    refine stc hF (book_ok w2 r2 (ms_ ms i) (mp_ ms i) ss ms i _ _ _ _ _ (sigsKv ms i) rfl rfl (by omega) (by omega) (SigsIn.below hmin hb2) hmbn (hids i hil) (hT.below hb2) hbel2 hK2 (by omega) (fun j hj => hids j (by omega))) cal51 ⟨rfl, rfl, trivial⟩ (k := fun a v r3 hR hF => ?_)
    obtain ⟨rfl, hbel3, hK3⟩ := hR
    have hEb := fun (h : (dmE ss ms i).1 ≠ 0) => firstAt_some (bad := fun i => (dmE ss ms i).1 ≠ 0) hil h (fun j hj e => e (hno j hj))
    have hdm0 : (dmE ss ms i).1 = 0 → (mp_ ms i).length ≤ 64 := fun h => by
      have := head_few (msgE_zero.1 (dmE_zero h).1).head
      have := hmin.len
      omega
    obtain ⟨de, hde⟩ : ∃ x, x = dmE ss ms i := ⟨_, rfl⟩
    rw [← hde] at hF hK3 hEb hdm0
    by_cases h0 : de.1 = 0
    case neg =>
      rw [show ∀ x y, atV de.1 x y = fltV de.1 x y from fun x y => if_neg h0] at hF
      repeat (first | refine c_seq ?_ | refine c_region _ ?_ | refine wpList_nil ?_ | refine c_then ?_ | refine c_then_ret ?_ | refine c_in_ret ?_ | refine wp_ret ?_ | ((apply st hF); (first | exact d_move | exact d_assign | exact d_neN (ifc _ rfl)); clear hF; clear a; intro a hF) | (apply c_cond_t hF; exact rfl; first | exact rfl | assumption))
      refine ret1 hF rfl rfl ⟨?_, hb2.trans (hbel3.mono hz2)⟩
      rw [hE, hEb h0]
      show fltV de.1 de.2.1 de.2.2 = atV (dmE ss ms i).1 (dmE ss ms i).2.1 (dmE ss ms i).2.2
      rw [← hde]
      exact (if_neg h0).symm
    rw [show ∀ x y, atV de.1 x y = .nilIface from fun x y => if_pos h0] at hF
    have hK4 := hK3 h0
    have hl64 := hdm0 h0
    repeat (first | refine c_seq ?_ | refine c_region _ ?_ | refine wpList_nil ?_ | refine c_then ?_ | refine c_in ?_ | refine wp_skip ?_ | ((apply st hF); (first | exact d_move | exact d_assign | exact d_add | exact d_neN (ifc _ rfl)); clear hF; clear a; intro a hF) | (apply c_cond_f hF; exact rfl; first | exact rfl | assumption))
    refine ⟨d.mgN - (i + 1), by omega, i + 1, by omega, rfl, fun j hj => ?_, by rw [hao]; exact hF.keep' ⟨rfl, rfl, rfl, rfl, rfl, trivial⟩, hK4, ?_, hbel3⟩
    · by_cases e : j = i
      · subst e; rw [← hde]; exact h0
      · exact hno j (by omega)
    · show (sigK _ _ _ ++ _).length ≤ _
      rw [List.length_append, sigK_len]; omega
  obtain rfl : i = d.mgN := by omega
  rw [firstAt_none (fun j hj e => e (hno j (by omega)))] at hE
  replace hE : E = dbT ms ts := hE
  have hent : Entered ms ms.length := entered hids fun j hj => hno j (by omega)
  rw [← hml] at hK
  unfold dbT at hE
  clear hno
  repeat (first | refine c_seq ?_ | refine c_region _ ?_ | refine wpList_nil ?_ | refine c_then ?_ | refine c_then_exit ?_ | refine c_in_hit ?_ | refine wp_exit ?_ | ((apply st hF); (exact d_cmpF); clear hF; clear a; intro a hF) | (apply c_cond_f hF; exact rfl; first | exact rfl | assumption))
  refine st hF (d_makeMap Tryd.underlying97) rfl (fun a hF => ?_)
  have hM5 := MapG.new (P := Tryd.prog) (k := 104) wr
  have hgr5 : wr.grownBy (wr.alloc (.map #[] 0)) none := World.grownBy_alloc wr _ none
  have hsz5 : (wr.alloc (.map #[] 0)).heap.size = wr.heap.size + 1 := by simp
  generalize wr.alloc (.map #[] 0) = w5 at *
  have hb5 : Below wr.heap.size wr w5 := (Below.refl _ wr).grown hgr5 (Nat.le_refl _) (fun k hk => by cases hk)
  have hK5 := hK.below hb5
  have hdr5 := hdr.below hb5
  have hB5 : Below w.heap.size w w5 := hB.trans (hb5.mono hB.size)
  have hzr := hB.size
  have hBKwr : wE.heap.size < wr.heap.size := lt_at hK.cell
  clear hgr5 hb5 hK hdr hbel
  repeat (first | refine c_seq ?_ | refine c_block ?_ | refine c_region _ ?_ | refine wpList_nil ?_ | refine c_then ?_ | ((apply st hF); (first | exact d_move | exact d_assign | exact d_len (und _ _ rfl) | exact d_fieldAddr (fld _ _ _ _ rfl) (isz _ _ rfl) | exact d_load (und _ _ rfl) (ec8 _ hdr5)); clear hF; clear a; intro a hF))
  refine c_loop (fun q a wq => ∃ i, i ≤ d.tbN ∧ q = d.tbN - i ∧ (∀ j, j < i → dtE ms ts j = 0) ∧ Fr 160 [(4, .pointer (some ⟨wE.heap.size, 0, none⟩)), (11, .map (some wr.heap.size)), (112, .slice d.tb d.tbN d.tbC), (113, .int .i64 d.tbN), (114, .int .i64 (i : Nat))] a ∧
    BookI w2.heap.size wq wE.heap.size w2.heap.size wB.heap.size wC.heap.size wD.heap.size ss (ss.length + 1) ms ms.length (sigsKv ms ms.length) ∧ MapG Tryd.prog 104 wq wr.heap.size (keysF (fT ts) i) ∧ Below w.heap.size w wq) d.tbN
    ⟨0, Nat.zero_le _, rfl, fun j hj => absurd hj (Nat.not_lt_zero _), hF.keep' ⟨rfl, rfl, rfl, rfl, rfl, trivial⟩, hK5, hM5, hB5⟩ ?_
  clear hF a hK5 hM5 hdr5 hB5 hB hz
  rintro q a wq ⟨i, hi, rfl, hno, hF, hK, hM, hB⟩
  have hz := hB.size
  by_cases hlt2 : i < d.tbN
  case neg =>
    obtain rfl : i = d.tbN := by omega
    rw [firstAt_none (fun j hj e => e (hno j (by omega)))] at hE
    repeat (first | refine c_seq ?_ | refine c_region _ ?_ | refine wpList_nil ?_ | refine c_then ?_ | refine c_then_exit ?_ | refine c_in_hit ?_ | refine wp_exit ?_ | refine wp_ret ?_ | ((apply st hF); (first | exact d_assign | exact d_cmpF); clear hF; clear a; intro a hF) | (apply c_cond_f hF; exact rfl; first | exact rfl | assumption))
    exact ret1 hF rfl rfl ⟨by rw [hE]; rfl, hB⟩
  have hil : i < ts.length := by omega
  obtain ⟨b, o, hao, hc⟩ := tab_cells_at hin.tabs hB hil
  have hrin : RowsIn w (ts_ ts i) (tr_ ts i) := by rw [ts_lt hil, tr_lt hil]; exact hin.tabs.each _ (List.getElem_mem hil)
  have htb : (0 ≤ (ts_ ts i).id ∧ (ts_ ts i).id < 4294967296) ∧ (ts_ ts i).sig.size ≤ maxLen := by rw [ts_lt hil]; exact hin.tabs.bnd _ (List.getElem_mem hil)
  have htball : ∀ j, j < ts.length → (0 ≤ (ts_ ts j).id ∧ (ts_ ts j).id < 4294967296) ∧ (ts_ ts j).sig.size ≤ maxLen := fun j hj => by rw [ts_lt hj]; exact hin.tabs.bnd _ (List.getElem_mem hj)
  have hbad : ∀ e, dtE ms ts i = e → e ≠ 0 → E = (e, (ts_ ts i).line, (ts_ ts i).col) := fun e he h => by
    rw [hE, firstAt_some hil (by rw [he]; exact h) (fun j hj e => e (hno j hj)), ← he]; rfl
  have hkv := kv_find (ms := ms) ms.length hent (ts_ ts i).id (ts_ ts i).wide (ts_ ts i).sig htb.1 htb.2
  have hdup : (∃ j, j < i ∧ fT ts j = keyN (ts_ ts i).id (ts_ ts i).wide (ts_ ts i).sig) ↔ ∃ k, k < i ∧ (ts_ ts k).id = (ts_ ts i).id ∧ (ts_ ts k).wide = (ts_ ts i).wide ∧ (ts_ ts k).sig = (ts_ ts i).sig :=
    ⟨fun ⟨j, hj, e⟩ => ⟨j, hj, keyN_inj (wf_mk32 (htball j (by omega)).1) (htball j (by omega)).2 (wf_mk32 htb.1) htb.2 e⟩, fun ⟨j, hj, e1, e2, e3⟩ => ⟨j, hj, by unfold fT; rw [e1, e2, e3]⟩⟩
  have hd13 := dt_none (ms := ms) (ts := ts) (i := i)
  have hd12 := fun s => dt_two (ms := ms) (ts := ts) (i := i) (s := s)
  have hdr' := fun s => dt_rows (ms := ms) (ts := ts) (i := i) (s := s) hent
  obtain ⟨t, ht⟩ : ∃ x, x = ts_ ts i := ⟨_, rfl⟩
  obtain ⟨rs, hrs⟩ : ∃ x, x = tr_ ts i := ⟨_, rfl⟩
  rw [← ht] at hc hrin htb hbad hkv hdup hd13 hd12 hdr'
  rw [← hrs] at hrin hdr'
  have hwft := wf_mk32 htb.1
  rw [hao] at hF
  have hlBK := lt_at hK.cell
  have hord := hK.ord
  have hlM := hM.lt
  repeat (first | refine c_seq ?_ | refine c_block ?_ | refine c_region _ ?_ | refine wpList_nil ?_ | refine c_then ?_ | refine wp_skip ?_ | ((apply st hF); (first | exact d_cmpT | exact d_indexAddrS (und _ _ rfl) (isz _ _ rfl) (j := i) | exact d_loadAgg (agg _ rfl) (isz _ _ rfl) rfl (arr_cells hc)); clear hF; clear a; intro a hF) | (apply c_cond_t hF; exact rfl; first | exact rfl | assumption))
  refine st_alloc hF inf67 (k := fun a r1 hg1 hgr1 hsz1 hF => ?_)
  refine st_storeAgg hF (cs := (Tab.cells t).toArray) (isz _ _ rfl) rfl rfl hg1 (tab_cells _) (k := fun a r2 ht2 hgr2 hsz2 hF => ?_)
  have hb2t : Below wq.heap.size wq r2 := ((Below.refl _ wq).grown hgr1 (Nat.le_refl _) (fun k hk => by cases hk)).grown hgr2 (by omega) (fun k hk => by cases hk; exact Nat.le_refl _)
  have ht2 : TgAt wq.heap.size t r2 := ht2
  clear hg1 hgr1 hgr2
  repeat (first | refine c_seq ?_ | refine c_region _ ?_ | refine wpList_nil ?_ | refine c_then ?_ | ((apply st hF); (first | exact d_fieldAddr (fld _ _ _ _ rfl) (isz _ _ rfl) | exact d_build (vs := [(0, .int .u32 t.id), (1, .bool t.wide), (2, .string t.sig)]) (cells := #[.int .u32 t.id, .bool t.wide, .string t.sig]) (by kernel_rfl) ⟨rfl, rfl, rfl, rfl, rfl, rfl, trivial⟩ | exact d_load (und _ _ rfl) (ht2.c 2 _ rfl) | exact d_load (und _ _ rfl) (ht2.c 3 _ rfl) | exact d_load (und _ _ rfl) (ht2.c 4 _ rfl)); clear hF; clear a; intro a hF))
  refine st_alloc hF inf104 (k := fun a r3 hg3 hgr3 hsz3 hF => ?_)
  refine st_storeAgg hF (cs := #[.int .u32 t.id, .bool t.wide, .string t.sig]) (isz _ _ rfl) rfl rfl hg3 (by simp [Value.oneCell']) (k := fun a r4 hn4 hgr4 hsz4 hF => ?_)
  have hb24 : Below r2.heap.size r2 r4 := ((Below.refl _ r2).grown hgr3 (Nat.le_refl _) (fun k hk => by cases hk)).grown hgr4 (by omega) (fun k hk => by cases hk; exact Nat.le_refl _)
  have ht4 := ht2.below hb24
  have hn4 : NmAt r2.heap.size t.id t.wide t.sig r4 := hn4
  have hb4 : Below wq.heap.size wq r4 := hb2t.trans (hb24.mono hb2t.size)
  have hK4 := hK.below hb4
  have hM4 := hM.below hb4
  clear hg3 hgr3 hgr4 hb24 ht2 hb2t
  have hlk : ∀ wx, Below r4.heap.size r4 wx → (Instr.lookup 98 (.map (some wD.heap.size)) (.agg #[.int .u32 t.id, .bool t.wide, .string t.sig]) true).run Tryd.prog wx = .ok (.tuple #[(kvG (keyN t.id t.wide t.sig) (sigsKv ms ms.length)).getD (.agg (Sig.cells sigZ).toArray), .bool (kvG (keyN t.id t.wide t.sig) (sigsKv ms ms.length)).isSome]) wx := fun wx e =>
    (hK4.sigs.below e).look_ok KN Tryd.underlying98 (Tryd.zeroValue38 wx) (key_named hwft htb.2)
  obtain ⟨sv, okb, hlk', hok⟩ : ∃ sv okb, (∀ wx, Below r4.heap.size r4 wx → (Instr.lookup 98 (.map (some wD.heap.size)) (.agg #[.int .u32 t.id, .bool t.wide, .string t.sig]) true).run Tryd.prog wx = .ok (.tuple #[.agg (Sig.cells sv).toArray, .bool okb]) wx) ∧ ((okb = true ∧ ofB ms t.id t.wide t.sig sv) ∨ (okb = false ∧ ¬ ∃ s, ofB ms t.id t.wide t.sig s)) := by
    rcases hkv with ⟨i', k', h1, h2, h3, h4, h5⟩ | ⟨h1, h2⟩
    · exact ⟨sg (mp_ ms i') k', true, fun wx e => by have := hlk wx e; rw [h5] at this; exact this, .inl ⟨rfl, i', k', h1, h2, h3, h4, rfl⟩⟩
    · exact ⟨sigZ, false, fun wx e => by have := hlk wx e; rw [h2] at this; exact this, .inr ⟨rfl, fun ⟨s, i', k', a1, a2, a3, a4, _⟩ => h1 ⟨i', k', a1, a2, a3, a4⟩⟩⟩
  clear hlk hkv
  repeat (first | (refine c_region_mix (fun wx => Below r4.heap.size r4 wx) [(0, true), (1, true), (2, true), (3, true), (4, true), (5, true), (6, true), (7, true), (8, true), (9, false), (10, false), (11, true)] 32 mixed (by kernel_rfl) (below_more (Below.refl _ r4) 1) ?_; simp only [pickX, List.filterMap_cons, List.getElem?_cons_zero, List.getElem?_cons_succ, List.filterMap_nil, Option.map_some]) | refine c_seq ?_ | refine wpList_nil ?_ | refine c_then ?_)
  have hdb : Below r4.heap.size r4 (r4.drewN 1) := below_more (Below.refl _ r4) 1
  generalize r4.drewN 1 = r5 at *
  repeat (((apply x_step hF); intro wq hwq; (first | exact d_move | exact d_nilCheck | exact d_fieldAddr (fld _ _ _ _ rfl) (isz _ _ rfl) | exact d_extract | exact d_loadAgg (agg _ rfl) (isz _ _ rfl) rfl (cells_at (hn4.below hwq)) | exact d_lookup (hlk' wq hwq) | exact d_load (und _ _ rfl) (((hK4.below hwq).c 3 _ rfl))); clear hF; clear a; intro a hF))
  refine x_one ?_
  refine st_alloc hF inf38 (k := fun a r6 hg6 hgr6 hsz6 hF => ?_)
  have hb6 : Below r4.heap.size r4 r6 := hdb.trans ((Below.refl _ r5).grown hgr6 (Nat.le_refl _) (fun k hk => by cases hk) |>.mono hdb.size)
  refine wpList_nil ⟨rfl, hb6, x_one ?_⟩
  refine st_storeAgg hF (cs := (Sig.cells sv).toArray) (isz _ _ rfl) rfl rfl hg6 (sig_cells _) (k := fun a r7 hs7 hgr7 hsz7 hF => ?_)
  have hz5 := hdb.size
  have hb7 : Below r4.heap.size r4 r7 := hb6.grown hgr7 hb6.size (fun k hk => by cases hk; exact hz5)
  refine wpList_nil ⟨rfl, hb7, ?_⟩
  repeat (((apply x_step hF); intro wq hwq; (exact d_assign); clear hF; clear a; intro a hF))
  refine x_nil ?_
  have hs7 : SgAt r5.heap.size sv r7 := hs7
  have ht7 := ht4.below hb7
  have hn7 := hn4.below hb7
  have hK7 := hK4.below hb7
  have hM7 := hM4.below hb7
  have hb7w : Below wq.heap.size wq r7 := hb4.trans (hb7.mono hb4.size)
  have hB7 : Below w.heap.size w r7 := hB.trans (hb7w.mono hz)
  have hz4 := hb4.size
  clear hg6 hgr6 hgr7 hb6 hlk' hn4 ht4 hK4 hM4 hdb
  rcases hok with ⟨rfl, hof⟩ | ⟨rfl, hnof⟩
  case inr =>
    have hEE := hbad 13 (hd13 hnof) (by decide)
    repeat (first | refine c_seq ?_ | refine c_block ?_ | refine c_region _ ?_ | refine wpList_nil ?_ | refine c_then ?_ | ((apply st hF); (first | exact d_move | exact d_assign | exact d_not | exact d_fieldAddr (fld _ _ _ _ rfl) (isz _ _ rfl) | exact d_loadAgg (agg _ rfl) (isz _ _ rfl) rfl ht7.pl); clear hF; clear a; intro a hF) | (apply c_cond_t hF; exact rfl; first | exact rfl | assumption))
    refine stc hF (cat_ok r7 13 t.line t.col) cal32 ⟨rfl, rfl, trivial⟩ (k := fun a v r8 hR hF => ?_)
    obtain ⟨rfl, hb8⟩ := hR
    repeat (first | refine wpList_nil ?_ | refine c_then ?_ | refine c_then_ret ?_ | refine c_in_ret ?_ | refine wp_ret ?_ | ((apply st hF); (exact d_assign); clear hF; clear a; intro a hF))
    exact ret1 hF rfl rfl ⟨by rw [hEE], hB7.trans (hb8.mono hB7.size)⟩
  have hl2 := hM7.look KN Tryd.underlying97 (zeroB _) (key := .agg #[.int .u32 t.id, .bool t.wide, .string t.sig]) (kl := keyN t.id t.wide t.sig) (key_named hwft htb.2)
  by_cases hdp : ∃ k, k < i ∧ (ts_ ts k).id = t.id ∧ (ts_ ts k).wide = t.wide ∧ (ts_ ts k).sig = t.sig
  · rw [keysF_yes (hdup.2 hdp)] at hl2
    have hEE := hbad 12 (hd12 sv hof hdp) (by decide)
    repeat (first | refine c_seq ?_ | refine c_block ?_ | refine c_region _ ?_ | refine wpList_nil ?_ | refine c_then ?_ | ((apply st hF); (first | exact d_move | exact d_assign | exact d_not | exact d_fieldAddr (fld _ _ _ _ rfl) (isz _ _ rfl) | exact d_loadAgg (agg _ rfl) (isz _ _ rfl) rfl (cells_at hn7) | exact d_lookup hl2 | exact d_loadAgg (agg _ rfl) (isz _ _ rfl) rfl ht7.pl); clear hF; clear a; intro a hF) | (apply c_cond_t hF; exact rfl; first | exact rfl | assumption) | (apply c_cond_f hF; exact rfl; first | exact rfl | assumption))
    refine stc hF (cat_ok r7 12 t.line t.col) cal32 ⟨rfl, rfl, trivial⟩ (k := fun a v r8 hR hF => ?_)
    obtain ⟨rfl, hb8⟩ := hR
    repeat (first | refine wpList_nil ?_ | refine c_then ?_ | refine c_then_ret ?_ | refine c_in_ret ?_ | refine wp_ret ?_ | ((apply st hF); (exact d_assign); clear hF; clear a; intro a hF))
    exact ret1 hF rfl rfl ⟨by rw [hEE], hB7.trans (hb8.mono hB7.size)⟩
  rw [keysF_no (fun h => hdp (hdup.1 h))] at hl2
  have hrE := hdr' sv hof hdp
  obtain ⟨r8, hr8, hM8, hgr8, hsz8⟩ := hM7.put KN Tryd.underlying97 (key := .agg #[.int .u32 t.id, .bool t.wide, .string t.sig]) (kl := keyN t.id t.wide t.sig) (key_named hwft htb.2) (.bool true) (by rw [keysF_len]; unfold maxLen; omega)
  have hls7 := lt_at hs7
  have hlt7 := lt_at ht7
  have hs8 : SgAt r5.heap.size sv r8 := blk_kept hs7 hgr8 (by simp; omega)
  have ht8 : TgAt wq.heap.size t r8 := blk_kept ht7 hgr8 (by simp; omega)
  have hK8 : BookI w2.heap.size r8 wE.heap.size w2.heap.size wB.heap.size wC.heap.size wD.heap.size ss (ss.length + 1) ms ms.length (sigsKv ms ms.length) := by
    have hlb := hBKwr
    exact ⟨hord, blk_kept hK7.cell hgr8 (by simp; omega), hK7.sta.kept hgr8 (by simp; omega), hK7.mes.kept hgr8 (by simp; omega), hK7.ids.kept hgr8 (by simp; omega), hK7.sigs.kept hgr8 (by simp; omega)⟩
  have hM8' : MapG Tryd.prog 104 r8 wr.heap.size (keysF (fT ts) (i + 1)) := by
    have : keysF (fT ts) (i + 1) = (keyN t.id t.wide t.sig, .bool true) :: keysF (fT ts) i := by rw [ht]; rfl
    rw [this]; exact hM8
  have hB8 : Below w.heap.size w r8 := hB7.grown hgr8 hB7.size (fun k hk => by cases hk; exact hzr)
  repeat (first | refine c_seq ?_ | refine c_block ?_ | refine c_region _ ?_ | refine wpList_nil ?_ | refine c_then ?_ | refine c_in ?_ | refine wp_skip ?_ | ((apply st hF); (first | exact d_move | exact d_assign | exact d_not | exact d_loadAgg (agg _ rfl) (isz _ _ rfl) rfl (cells_at hn7) | exact d_lookup hl2); clear hF; clear a; intro a hF) | (apply c_cond_f hF; exact rfl; first | exact rfl | assumption))
  refine st0 hF (d_mapUpdate hr8) rfl (fun a hF => ?_)
  repeat (first | refine c_seq ?_ | refine c_region _ ?_ | refine wpList_nil ?_ | refine c_then ?_ | ((apply st hF); (first | exact d_fieldAddr (fld _ _ _ _ rfl) (isz _ _ rfl) | exact d_loadAgg (agg _ rfl) (isz _ _ rfl) rfl (cells_at hs8) | exact d_load (und _ _ rfl) (ht8.c 5 _ rfl)); clear hF; clear a; intro a hF))
  refine stc hF (rows_ok r8 sv t.rw t.rwN t.rwC rs hrin.len (hrin.rd.below hB8) hrin.val (hT.below hB8)) cal52 ⟨rfl, rfl, trivial⟩ (k := fun a v r9 hR hF => ?_)
  obtain ⟨rfl, hb9⟩ := hR
  have hK9 := hK8.below hb9
  have hM9 := hM8'.below hb9
  have ht9 := ht8.below hb9
  have hB9 : Below w.heap.size w r9 := hB8.trans (hb9.mono hB8.size)
  generalize rowsE sv rs = re at *
  by_cases hre : re = 0
  · repeat (first | refine c_seq ?_ | refine c_region _ ?_ | refine wpList_nil ?_ | refine c_then ?_ | refine c_in ?_ | refine wp_skip ?_ | ((apply st hF); (first | exact d_move | exact d_assign | exact d_add | exact d_cmpF); clear hF; clear a; intro a hF) | (apply c_cond_f hF; exact rfl; first | exact rfl | assumption))
    refine ⟨d.tbN - (i + 1), by omega, i + 1, by omega, rfl, fun j hj => ?_, by rw [hao]; exact hF.keep' ⟨rfl, rfl, rfl, rfl, rfl, trivial⟩, hK9, hM9, hB9⟩
    by_cases e : j = i
    · subst e; rw [hrE]; exact hre
    · exact hno j (by omega)
  · have hEE := hbad re hrE hre
    repeat (first | refine c_seq ?_ | refine c_region _ ?_ | refine wpList_nil ?_ | refine c_then ?_ | ((apply st hF); (first | exact d_move | exact d_assign | exact d_cmpT | exact d_fieldAddr (fld _ _ _ _ rfl) (isz _ _ rfl) | exact d_loadAgg (agg _ rfl) (isz _ _ rfl) rfl ht9.pl); clear hF; clear a; intro a hF) | (apply c_cond_t hF; exact rfl; first | exact rfl | assumption))
    refine stc hF (cat_ok r9 re t.line t.col) cal32 ⟨rfl, rfl, trivial⟩ (k := fun a v r10 hR hF => ?_)
    obtain ⟨rfl, hb10⟩ := hR
    repeat (first | refine wpList_nil ?_ | refine c_then ?_ | refine c_then_ret ?_ | refine c_in_ret ?_ | refine wp_ret ?_ | ((apply st hF); (exact d_assign); clear hF; clear a; intro a hF))
    exact ret1 hF rfl rfl ⟨by rw [hEE], hB9.trans (hb10.mono hB9.size)⟩
end Go.Proofs.YtjomihhpglojpaaDoor
end
