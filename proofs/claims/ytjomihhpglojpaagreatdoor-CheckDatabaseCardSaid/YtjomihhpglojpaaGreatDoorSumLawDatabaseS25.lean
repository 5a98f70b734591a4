/- Laid together by a program of mine: BookW KvL. -/
import Derived.Test.YtjomihhpglojpaaGreatDoorSumLawDatabaseS19
import Derived.Test.YtjomihhpglojpaaGreatDoorSumLawDatabaseS22
import Derived.Test.YtjomihhpglojpaaGreatDoorSumLawDatabaseS24
set_option linter.unusedSimpArgs false
set_option linter.unusedVariables false
section
/- (*check.book).message, walked. -/
namespace Go.Proofs.YtjomihhpglojpaaGreatDoor
open Go.Maps (Keyed)
open Go.RowKit
set_option linter.unusedSimpArgs false
set_option linter.unusedVariables false
attribute [local irreducible] wpList wpQuiet wpStill Code.wp Exit.then Exit.inBlock bodyPost Calls Does Does0
set_option maxRecDepth 100000
def fS (ss : List ByteArray) : Nat → Lit
  | 0 => keyS nobody
  | j + 1 => keyS (ss.getD j ⟨#[]⟩)
def fM (ms : List MsgT) (j : Nat) : Lit := keyS (ms_ ms j).name
def fI (ms : List MsgT) (j : Nat) : Lit := keyN (ms_ ms j).id (ms_ ms j).wide ⟨#[]⟩
/-- What the signals of a message are entered as, the latest first. -/
def sigK (m : Msg) (ps : List SigT) : Nat → List (Lit × Value)
  | 0 => []
  | k + 1 => (keyN m.id m.wide (sg ps k).name, .agg (Sig.cells (sg ps k)).toArray) :: sigK m ps k
theorem sigK_len (m : Msg) (ps : List SigT) : ∀ k, (sigK m ps k).length = k
  | 0 => rfl
  | k + 1 => by simp [sigK, sigK_len m ps k]
def sigsKv (ms : List MsgT) : Nat → List (Lit × Value)
  | 0 => []
  | i + 1 => sigK (ms_ ms i) (mp_ ms i) (mp_ ms i).length ++ sigsKv ms i
theorem known_iff {ss : List ByteArray} {s : ByteArray} : knownB ss s ↔ ∃ j, j < ss.length + 1 ∧ fS ss j = keyS s := by
  constructor
  · rintro (h | h)
    · obtain ⟨j, hj, rfl⟩ := List.getElem_of_mem h
      exact ⟨j + 1, by omega, by simp [fS, List.getD, hj]⟩
    · exact ⟨0, by omega, by rw [h]; rfl⟩
  · rintro ⟨j, hj, e⟩
    cases j with
    | zero => exact .inr (keyS_inj e).symm
    | succ j =>
      refine .inl ?_
      have := keyS_inj e
      rw [← this, List.getD_eq_getElem?_getD, List.getElem?_eq_getElem (by omega)]
      exact List.getElem_mem _
theorem names_word {xs : List ByteArray} (h : namesE xs = 0) : ∀ x ∈ xs, wordB x = true := by
  have key : ∀ (xs ys : List ByteArray), listGo ys xs = 0 → ∀ x ∈ xs, wordB x = true := by
    intro xs
    induction xs with
    | nil => intro ys _ x hx; cases hx
    | cons y xs ih =>
      intro ys h x hx
      unfold listGo at h
      by_cases e : wordB y = false
      · rw [if_pos e] at h; cases h
      rw [if_neg e] at h
      by_cases e2 : (ys.any fun k => decide (y = k)) = true
      · rw [if_pos e2] at h; cases h
      rw [if_neg e2] at h
      rcases List.mem_cons.1 hx with rfl | hx
      · simpa using e
      · exact ih _ h x hx
  unfold namesE at h
  by_cases e : xs.length = 0
  · rw [if_pos e] at h; cases h
  rw [if_neg e] at h
  by_cases e2 : 64 < xs.length
  · rw [if_pos e2] at h; cases h
  rw [if_neg e2] at h
  exact key xs [] h
theorem names_of_alone {s : Sig} {ss : List ByteArray} {n : Int} (h : aloneE s ss n = 0) : namesE ss = 0 := by
  unfold aloneE at h
  by_cases e1 : wordB s.name = false
  · rw [if_pos e1] at h; cases h
  rw [if_neg e1] at h
  by_cases e2 : roleB s
  · rw [if_pos e2] at h; cases h
  rw [if_neg e2] at h
  by_cases e3 : Pl.whereE s.start s.size s.mot n ≠ 0
  · rw [if_pos e3] at h; exact absurd h e3
  rw [if_neg e3] at h
  by_cases e4 : rangedE s ≠ 0
  · rw [if_pos e4] at h; exact absurd h e4
  rw [if_neg e4] at h
  by_cases e5 : textE s.unit ≠ 0
  · rw [if_pos e5] at h; exact absurd h e5
  rw [if_neg e5] at h
  exact h
theorem head_words {m : Msg} (h : headE m = 0) : wordB m.name = true ∧ wordB m.sender = true := by
  unfold headE at h
  by_cases e1 : wordB m.name = false
  · rw [if_pos e1] at h; cases h
  rw [if_neg e1] at h
  by_cases e2 : mostE m < m.id
  · rw [if_pos e2] at h; cases h
  rw [if_neg e2] at h
  by_cases e3 : m.size < 0 ∨ 8 < m.size
  · rw [if_pos e3] at h; cases h
  rw [if_neg e3] at h
  by_cases e4 : wordB m.sender = false
  · rw [if_pos e4] at h; cases h
  exact ⟨by simpa using e1, by simpa using e4⟩
structure BookI (B : Nat) (w : World) (BK bs bm bi bg : Nat) (ss : List ByteArray) (nb : Nat) (ms : List MsgT) (i : Nat) (gk : List (Lit × Value)) : Prop where
  ord : B ≤ bs ∧ bs < bm ∧ bm < bi ∧ bi < bg ∧ bg < BK
  cell : w.heap[BK]? = some (.cells #[.map (some bs), .map (some bm), .map (some bi), .map (some bg)] 79 (0, 0))
  sta : MapG Tryz.prog 9 w bs (keysF (fS ss) nb)
  mes : MapG Tryz.prog 9 w bm (keysF (fM ms) i)
  ids : MapG Tryz.prog 86 w bi (keysF (fI ms) i)
  sigs : MapG Tryz.prog 86 w bg gk
theorem BookI.below {B : Nat} {w w' : World} {BK bs bm bi bg : Nat} {ss : List ByteArray} {nb : Nat} {ms : List MsgT} {i : Nat} {gk : List (Lit × Value)} (h : BookI B w BK bs bm bi bg ss nb ms i gk) (hb : Below w.heap.size w w') : BookI B w' BK bs bm bi bg ss nb ms i gk :=
  ⟨h.ord, (hb.block _ (lt_at h.cell)).trans h.cell, h.sta.below hb, h.mes.below hb, h.ids.below hb, h.sigs.below hb⟩
theorem BookI.c {B : Nat} {w : World} {BK bs bm bi bg : Nat} {ss : List ByteArray} {nb : Nat} {ms : List MsgT} {i : Nat} {gk : List (Lit × Value)} (h : BookI B w BK bs bm bi bg ss nb ms i gk) (j : Nat) (v : Value) (hj : [Value.map (some bs), .map (some bm), .map (some bi), .map (some bg)][j]? = some v) : w.cell? ⟨BK, 0 + j, none⟩ = some v := by
  rw [Nat.zero_add]
  exact cell_at h.cell (by simpa using hj)
def NmAt (B : Nat) (id : Int) (wide : Bool) (name : ByteArray) (w : World) : Prop := w.heap[B]? = some (.cells #[.int .u32 id, .bool wide, .string name] 86 (0, 0))
theorem NmAt.below {B : Nat} {id : Int} {wide : Bool} {name : ByteArray} {w w' : World} (h : NmAt B id wide name w) (hb : Below w.heap.size w w') : NmAt B id wide name w' := (hb.block _ (lt_at h)).trans h
theorem zeroB (w : World) : (zeroValue 4).run Tryz.prog w = .ok (.bool false) w := Tryz.zeroValue4 w
set_option maxHeartbeats 32000000 in
theorem book_ok (w0 w : World) (m : Msg) (ps : List SigT) (ss : List ByteArray) (ms : List MsgT) (i : Nat) (BK bs bm bi bg : Nat) (gk : List (Lit × Value)) (hm : ms_ ms i = m) (hp : mp_ ms i = ps) (hil : i < 1000) (hgl : gk.length ≤ 1000000)
    (hin : MsgIn w0 m ps) (hB : ∀ p ∈ ps, SigB p.1) (hid : 0 ≤ m.id ∧ m.id < 4294967296) (hT : Tabs w0) (hb0 : Below w0.heap.size w0 w) (hK : BookI w0.heap.size w BK bs bm bi bg ss (ss.length + 1) ms i gk) (hsl : ss.length ≤ 64) (hids : ∀ j, j < i → 0 ≤ (ms_ ms j).id ∧ (ms_ ms j).id < 4294967296) :
    Ret Tryz.prog 35 [.pointer (some ⟨BK, 0, none⟩), .agg (Msg.cells m).toArray].toArray w (fun v w' => v = atV (dmE ss ms i).1 (dmE ss ms i).2.1 (dmE ss ms i).2.2 ∧ Below w0.heap.size w0 w' ∧
      ((dmE ss ms i).1 = 0 → BookI w0.heap.size w' BK bs bm bi bg ss (ss.length + 1) ms (i + 1) (sigK m ps ps.length ++ gk))) := by
  have hlen := hin.len
  have hby := hin.bytes
  have hz0 := hb0.size
  have hE : dmE ss ms i = dmE ss ms i := rfl
  conv at hE => rhs; unfold dmE
  rw [hm, hp] at hE
  obtain ⟨E, hEe⟩ : ∃ x, x = dmE ss ms i := ⟨_, rfl⟩
  rw [← hEe] at hE ⊢
  clear hEe
  refine enter2 Tryz.func35 rfl 103 rfl 105 rfl (fun a hF => ?_)
  repeat (first | refine c_seq ?_ | refine c_region _ ?_)
  refine st_box hF (cs := (Msg.cells m).toArray) rfl (k := fun a w1 hg1 hgr1 hsz1 hF => ?_)
  have hb1 : Below w.heap.size w w1 := (Below.refl _ w).grown hgr1 (Nat.le_refl _) (fun k hk => by cases hk)
  have hm1 : MgAt w.heap.size m w1 := hg1
  have hK1 := hK.below hb1
  have hB1 : Below w0.heap.size w0 w1 := hb0.trans (hb1.mono hz0)
  have hBKl := lt_at hK.cell
  clear hg1 hgr1
  repeat (first | refine c_seq ?_ | refine c_region _ ?_ | refine wpList_nil ?_ | refine c_then ?_ | ((apply st hF); (first | exact d_assign | exact d_loadAgg (agg _ rfl) (isz _ _ rfl) rfl (cells_at hm1)); clear hF; clear a; intro a hF))
  refine stc hF (cmsg_ok w1 m ps (SigsIn.below hin hB1) hB (hT.below hB1)) cal7 ⟨rfl, trivial⟩ (k := fun a v w2 hR hF => ?_)
  obtain ⟨rfl, hb2⟩ := hR
  have hm2 := hm1.below hb2
  have hK2 := hK1.below hb2
  have hB2 : Below w0.heap.size w0 w2 := hB1.trans (hb2.mono hB1.size)
  clear hm1 hK1 hb1
  by_cases h0 : (msgE m ps).1 = 0
  case neg =>
    rw [if_pos h0] at hE
    rw [show ∀ x y, atV (msgE m ps).1 x y = fltV (msgE m ps).1 x y from fun x y => if_neg h0] at hF
    repeat (first | refine c_seq ?_ | refine c_region _ ?_ | refine wpList_nil ?_ | refine c_then ?_ | refine c_then_ret ?_ | refine wp_ret ?_ | ((apply st hF); (first | exact d_move | exact d_assign | exact d_neN (ifc _ rfl)); clear hF; clear a; intro a hF) | (apply c_cond_t hF; exact rfl; first | exact rfl | assumption))
    refine ret1 hF rfl rfl ⟨?_, hB2, fun h => ?_⟩
    · rw [hE]
      exact (if_neg h0).symm
    · rw [hE] at h; exact absurd h h0
  rw [if_neg (fun h => h h0)] at hE
  rw [show ∀ x y, atV (msgE m ps).1 x y = .nilIface from fun x y => if_pos h0] at hF
  have hgood := msgE_zero.1 h0
  obtain ⟨hwn, hws⟩ := head_words hgood.head
  have hwf := wf_mk32 hid
  have hs64n := wordB_size hwn
  have hs64s := wordB_size hws
  repeat (first | refine c_seq ?_ | refine c_region _ ?_ | refine wpList_nil ?_ | refine c_then ?_ | refine wp_skip ?_ | ((apply st hF); (first | exact d_move | exact d_assign | exact d_fieldAddr (fld _ _ _ _ rfl) (isz _ _ rfl) | exact d_neN (ifc _ rfl) | exact d_build (vs := [(0, .int .u32 m.id), (1, .bool m.wide)]) (cells := #[.int .u32 m.id, .bool m.wide, .string ⟨#[]⟩]) (by kernel_rfl) ⟨rfl, rfl, rfl, rfl, trivial⟩ | exact d_load (und _ _ rfl) (hm2.c 2 _ rfl) | exact d_load (und _ _ rfl) (hm2.c 3 _ rfl)); clear hF; clear a; intro a hF) | (apply c_cond_f hF; exact rfl; first | exact rfl | assumption))
  refine st_alloc hF inf86 (k := fun a w3 hg3 hgr3 hsz3 hF => ?_)
  refine st_storeAgg hF (cs := #[.int .u32 m.id, .bool m.wide, .string ⟨#[]⟩]) (isz _ _ rfl) rfl rfl hg3 (by simp [Value.oneCell']) (k := fun a w4 hn4 hgr4 hsz4 hF => ?_)
  have hb24 : Below w2.heap.size w2 w4 := ((Below.refl _ w2).grown hgr3 (Nat.le_refl _) (fun k hk => by cases hk)).grown hgr4 (by omega) (fun k hk => by cases hk; exact Nat.le_refl _)
  have hn4 : NmAt w2.heap.size m.id m.wide ⟨#[]⟩ w4 := hn4
  have hm4 := hm2.below hb24
  have hK4 := hK2.below hb24
  have hB4 : Below w0.heap.size w0 w4 := hB2.trans (hb24.mono hB2.size)
  have hz4 := hB4.size
  have hlm2 := lt_at hm2
  clear hg3 hgr3 hgr4 hm2 hK2 hb24
  have KS : Keyed Tryz.prog 9 := Go.Maps.string_keyed Tryz.underlying9
  have KN : Keyed Tryz.prog 86 := Keyed.of_law named_law
  have hlN : ∀ wq, Below w4.heap.size w4 wq → (Instr.lookup 57 (.map (some bm)) (.string m.name) false).run Tryz.prog wq = .ok ((kvG (keyS m.name) (keysF (fM ms) i)).getD (.bool false)) wq := fun wq e =>
    (hK4.mes.below e).look KS Tryz.underlying57 (zeroB _) (key_string Tryz.underlying9 m.name (by unfold maxLen; omega))
  have hlI : ∀ wq, Below w4.heap.size w4 wq → (Instr.lookup 76 (.map (some bi)) (.agg #[.int .u32 m.id, .bool m.wide, .string ⟨#[]⟩]) false).run Tryz.prog wq = .ok ((kvG (keyN m.id m.wide ⟨#[]⟩) (keysF (fI ms) i)).getD (.bool false)) wq := fun wq e =>
    (hK4.ids.below e).look KN Tryz.underlying76 (zeroB _) (key_named hwf (by decide))
  have hlS : ∀ wq, Below w4.heap.size w4 wq → (Instr.lookup 57 (.map (some bs)) (.string m.sender) false).run Tryz.prog wq = .ok ((kvG (keyS m.sender) (keysF (fS ss) (ss.length + 1))).getD (.bool false)) wq := fun wq e =>
    (hK4.sta.below e).look KS Tryz.underlying57 (zeroB _) (key_string Tryz.underlying9 m.sender (by unfold maxLen; omega))
  have hiN : (∃ j, j < i ∧ fM ms j = keyS m.name) ↔ ∃ j, j < i ∧ (ms_ ms j).name = m.name := ⟨fun ⟨j, hj, e⟩ => ⟨j, hj, keyS_inj e⟩, fun ⟨j, hj, e⟩ => ⟨j, hj, by unfold fM; rw [e]⟩⟩
  have hiI : (∃ j, j < i ∧ fI ms j = keyN m.id m.wide ⟨#[]⟩) ↔ ∃ j, j < i ∧ sameId (ms_ ms j) m.id m.wide := ⟨fun ⟨j, hj, e⟩ => by
      obtain ⟨e1, e2, _⟩ := keyN_inj (wf_mk32 (hids j hj)) (by decide) hwf (by decide) e
      exact ⟨j, hj, e1, e2⟩, fun ⟨j, hj, e⟩ => ⟨j, hj, by unfold fI; rw [e.1, e.2]⟩⟩
  have hd1 : ∀ n, Below w4.heap.size w4 (w4.drewN n) := fun n => below_more (Below.refl _ w4) n
  have c1 := hK4.c 1 _ rfl
  have c2 := hK4.c 2 _ rfl
  have c0 := hK4.c 0 _ rfl
  have m4 := hm4.c 4 _ rfl
  have m6 := hm4.c 6 _ rfl
  by_cases hxN : ∃ j, j < i ∧ (ms_ ms j).name = m.name
  · have e := keysF_yes (hiN.2 hxN)
    simp only [e] at hlN
    rw [if_pos (by obtain ⟨j, hj, e⟩ := hxN; exact ⟨j, hj, .inl e⟩)] at hE
    repeat (first | refine c_seq ?_ | refine c_block ?_ | refine c_region _ ?_ | refine wpList_nil ?_ | refine c_then ?_ | (refine q_nil ?_; rintro _ ⟨ndr, rfl⟩) | refine c_region_draw _ mixed (by kernel_rfl) ?_ | ((apply st hF); (first | exact d_fieldAddr (fld _ _ _ _ rfl) (isz _ _ rfl) | exact d_loadAgg (agg _ rfl) (isz _ _ rfl) rfl hm4.pl); clear hF; clear a; intro a hF) | ((apply q_step hF); intro wq hwq; (first | exact d_move | exact d_assign | exact d_pickT | exact d_nilCheck | exact d_fieldAddr (fld _ _ _ _ rfl) (isz _ _ rfl) | exact d_lookup (hlN wq (by obtain ⟨n, rfl⟩ := hwq; exact below_more (Below.refl _ _) n)) | exact q_load (und _ _ rfl) hwq (by exact c1) | exact q_load (und _ _ rfl) hwq (by exact m4)); clear hF; clear a; intro a hF) | ((apply q_stm hF); clear hF; clear a; intro a hF) | (apply c_cond_t hF; exact rfl; first | exact rfl | assumption))
    refine stc hF (cat_ok _ 12 m.line m.col) cal17 ⟨rfl, rfl, trivial⟩ (k := fun a v w5 hR hF => ?_)
    obtain ⟨rfl, hb5⟩ := hR
    repeat (first | refine wpList_nil ?_ | refine c_then ?_ | refine c_then_ret ?_ | refine c_in_ret ?_ | refine wp_ret ?_ | ((apply st hF); (exact d_assign); clear hF; clear a; intro a hF))
    refine ret1 hF rfl rfl ⟨by rw [hE], (below_more hB4 _).trans (hb5.mono (below_more hB4 _).size), fun h => ?_⟩
    rw [hE] at h; cases h
  by_cases hxI : ∃ j, j < i ∧ sameId (ms_ ms j) m.id m.wide
  · have e := keysF_no (fun h => hxN (hiN.1 h))
    simp only [e] at hlN
    have e := keysF_yes (hiI.2 hxI)
    simp only [e] at hlI
    rw [if_pos (by obtain ⟨j, hj, e⟩ := hxI; exact ⟨j, hj, .inr e⟩)] at hE
    repeat (first | refine c_seq ?_ | refine c_block ?_ | refine c_region _ ?_ | refine wpList_nil ?_ | refine c_then ?_ | (refine q_nil ?_; rintro _ ⟨ndr, rfl⟩) | refine c_region_draw _ mixed (by kernel_rfl) ?_ | ((apply st hF); (first | exact d_fieldAddr (fld _ _ _ _ rfl) (isz _ _ rfl) | exact d_loadAgg (agg _ rfl) (isz _ _ rfl) rfl hm4.pl); clear hF; clear a; intro a hF) | ((first | apply q_step hF | apply q_stg hF); intro wq hwq; (first | exact d_move | exact d_assign | exact d_pickF | exact d_nilCheck | exact d_fieldAddr (fld _ _ _ _ rfl) (isz _ _ rfl) | exact d_lookup (hlN wq (by obtain ⟨n, rfl⟩ := hwq; exact below_more (Below.refl _ _) n)) | exact d_lookup (hlI wq (by obtain ⟨n, rfl⟩ := hwq; exact below_more (Below.refl _ _) n)) | exact d_loadAgg (agg _ rfl) (isz _ _ rfl) rfl (by obtain ⟨n, rfl⟩ := hwq; exact cells_at hn4) | exact q_load (und _ _ rfl) hwq (by exact c1) | exact q_load (und _ _ rfl) hwq (by exact c2) | exact q_load (und _ _ rfl) hwq (by exact m4)); clear hF; clear a; intro a hF) | (apply c_cond_t hF; exact rfl; first | exact rfl | assumption))
    refine stc hF (cat_ok _ 12 m.line m.col) cal17 ⟨rfl, rfl, trivial⟩ (k := fun a v w5 hR hF => ?_)
    obtain ⟨rfl, hb5⟩ := hR
    repeat (first | refine wpList_nil ?_ | refine c_then ?_ | refine c_then_ret ?_ | refine c_in_ret ?_ | refine wp_ret ?_ | ((apply st hF); (exact d_assign); clear hF; clear a; intro a hF))
    refine ret1 hF rfl rfl ⟨by rw [hE], (below_more hB4 _).trans (hb5.mono (below_more hB4 _).size), fun h => ?_⟩
    rw [hE] at h; cases h
  rw [if_neg (fun ⟨j, hj, h⟩ => h.elim (fun h => hxN ⟨j, hj, h⟩) (fun h => hxI ⟨j, hj, h⟩))] at hE
  have e := keysF_no (fun h => hxN (hiN.1 h))
  simp only [e] at hlN
  have e := keysF_no (fun h => hxI (hiI.1 h))
  simp only [e] at hlI
  by_cases hkn : knownB ss m.sender
  case neg =>
    have e := keysF_no (fun h => hkn (known_iff.2 h))
    simp only [e] at hlS
    rw [if_pos hkn] at hE
    repeat (first | refine c_seq ?_ | refine c_block ?_ | refine c_region _ ?_ | refine wpList_nil ?_ | refine c_then ?_ | (refine q_nil ?_; rintro _ ⟨ndr, rfl⟩) | refine c_region_draw _ mixed (by kernel_rfl) ?_ | ((apply st hF); (first | exact d_fieldAddr (fld _ _ _ _ rfl) (isz _ _ rfl) | exact d_loadAgg (agg _ rfl) (isz _ _ rfl) rfl hm4.pl); clear hF; clear a; intro a hF) | ((first | apply q_step hF | apply q_stg hF); intro wq hwq; (first | exact d_move | exact d_assign | exact d_not | exact d_pickF | exact d_nilCheck | exact d_fieldAddr (fld _ _ _ _ rfl) (isz _ _ rfl) | exact d_lookup (hlN wq (by obtain ⟨n, rfl⟩ := hwq; exact below_more (Below.refl _ _) n)) | exact d_lookup (hlI wq (by obtain ⟨n, rfl⟩ := hwq; exact below_more (Below.refl _ _) n)) | exact d_loadAgg (agg _ rfl) (isz _ _ rfl) rfl (by obtain ⟨n, rfl⟩ := hwq; exact cells_at hn4) | exact d_lookup (hlS wq (by obtain ⟨n, rfl⟩ := hwq; exact below_more (below_more (Below.refl _ _) _) n)) | exact q_load (und _ _ rfl) hwq (by exact c1) | exact q_load (und _ _ rfl) hwq (by exact c2) | exact q_load (und _ _ rfl) hwq (by exact c0) | exact q_load (und _ _ rfl) hwq (by exact m4) | exact q_load (und _ _ rfl) hwq (by exact m6)); clear hF; clear a; intro a hF) | (apply c_cond_t hF; exact rfl; first | exact rfl | assumption) | (apply c_cond_f hF; exact rfl; first | exact rfl | assumption))
    refine stc hF (cat_ok _ 13 m.line m.col) cal17 ⟨rfl, rfl, trivial⟩ (k := fun a v w5 hR hF => ?_)
    obtain ⟨rfl, hb5⟩ := hR
    repeat (first | refine wpList_nil ?_ | refine c_then ?_ | refine c_then_ret ?_ | refine c_in_ret ?_ | refine wp_ret ?_ | ((apply st hF); (exact d_assign); clear hF; clear a; intro a hF))
    refine ret1 hF rfl rfl ⟨by rw [hE], (below_more (below_more hB4 _) _).trans (hb5.mono (below_more (below_more hB4 _) _).size), fun h => ?_⟩
    rw [hE] at h; cases h
  rw [if_neg (fun h => h hkn)] at hE
  have e := keysF_yes (known_iff.1 hkn)
  simp only [e] at hlS
  repeat (first | (refine c_region_mix (fun wq => wq.heap[BK]? = some (.cells #[.map (some bs), .map (some bm), .map (some bi), .map (some bg)] 79 (0, 0)) ∧ MgAt w.heap.size m wq ∧ NmAt w2.heap.size m.id m.wide ⟨#[]⟩ wq) [(0, true), (1, true), (2, true), (3, true), (4, true), (5, true), (6, true), (7, true), (8, true), (9, true), (10, true), (11, false), (12, true), (13, false), (14, false), (15, true), (16, false)] 9 mixed (by kernel_rfl) ⟨hK4.cell, hm4, hn4⟩ ?_; simp only [pickX, List.filterMap_cons, List.getElem?_cons_zero, List.getElem?_cons_succ, List.filterMap_nil, Option.map_some]) | refine c_seq ?_ | refine c_block ?_ | refine wpList_nil ?_ | refine c_then ?_ | refine c_in ?_ | refine wp_skip ?_ | (refine q_nil ?_; rintro _ ⟨ndr, rfl⟩) | refine c_region_draw _ mixed (by kernel_rfl) ?_ | ((first | apply q_step hF | apply q_stg hF); intro wq hwq; (first | exact d_move | exact d_assign | exact d_not | exact d_pickF | exact d_nilCheck | exact d_fieldAddr (fld _ _ _ _ rfl) (isz _ _ rfl) | exact d_lookup (hlN wq (by obtain ⟨n, rfl⟩ := hwq; exact below_more (Below.refl _ _) n)) | exact d_lookup (hlI wq (by obtain ⟨n, rfl⟩ := hwq; exact below_more (Below.refl _ _) n)) | exact d_loadAgg (agg _ rfl) (isz _ _ rfl) rfl (by obtain ⟨n, rfl⟩ := hwq; exact cells_at hn4) | exact d_lookup (hlS wq (by obtain ⟨n, rfl⟩ := hwq; exact below_more (below_more (Below.refl _ _) _) n)) | exact q_load (und _ _ rfl) hwq (by exact c1) | exact q_load (und _ _ rfl) hwq (by exact c2) | exact q_load (und _ _ rfl) hwq (by exact c0) | exact q_load (und _ _ rfl) hwq (by exact m4) | exact q_load (und _ _ rfl) hwq (by exact m6)); clear hF; clear a; intro a hF) | (apply c_cond_f hF; exact rfl; first | exact rfl | assumption))
  generalize hW : World.drewN (World.drewN (World.drewN w4 _) _) 1 = r6
  have hd6 : Below w4.heap.size w4 r6 := by rw [← hW]; exact below_more (below_more (hd1 _) _) 1
  clear hW hlN hlI hlS hd1 c0 c1 c2 m4 m6
  have hm6 := hm4.below hd6
  have hn6 := hn4.below hd6
  have hK6 := hK4.below hd6
  have hB6 : Below w0.heap.size w0 r6 := hB4.trans (hd6.mono hB4.size)
  have hz6 := hd6.size
  have hln4 := lt_at hn4
  have hlm4 := lt_at hm4
  have hBK5 := lt_at hK6.cell
  have hord := hK.ord
  clear hm4 hn4 hK4
  have bkc : ∀ (wq : World) (j : Nat) (v : Value), wq.heap[BK]? = some (.cells #[.map (some bs), .map (some bm), .map (some bi), .map (some bg)] 79 (0, 0)) → [Value.map (some bs), .map (some bm), .map (some bi), .map (some bg)][j]? = some v → wq.cell? ⟨BK, 0 + j, none⟩ = some v := fun wq j v h hj => by
    rw [Nat.zero_add]
    exact cell_at h (by simpa using hj)
  repeat (((apply x_step hF); intro wq hwq; (first | exact d_move | exact d_nilCheck | exact d_fieldAddr (fld _ _ _ _ rfl) (isz _ _ rfl) | exact d_loadAgg (agg _ rfl) (isz _ _ rfl) rfl (cells_at hwq.2.2) | exact d_load (und _ _ rfl) ((bkc _ 1 _ hwq.1 rfl)) | exact d_load (und _ _ rfl) ((bkc _ 2 _ hwq.1 rfl)) | exact d_load (und _ _ rfl) ((hwq.2.1.c 4 _ rfl))); clear hF; clear a; intro a hF))
  have hkm : (keysF (fM ms) i).length < maxLen := by rw [keysF_len]; unfold maxLen; omega
  have hki : (keysF (fI ms) i).length < maxLen := by rw [keysF_len]; unfold maxLen; omega
  obtain ⟨v0, st0', r7, hr7, hgr7, hsz7, hn7⟩ := hK6.mes.put2 (Go.WideMaps.string_law Tryz.underlying9) Tryz.underlying57 (z := .bool false) (fun u => Tryz.zeroValue4 u) (key := .string m.name) (key_string Tryz.underlying9 m.name (by unfold maxLen; omega)) (.bool true) hkm
  obtain ⟨r8, hr8, hM8, hgr8, hsz8⟩ := hn7 r7 rfl
  have keepO : ∀ {wa wb : World} {g : Nat} {b : Nat} {o : Obj}, wa.heap[b]? = some o → wa.grownBy wb (some g) → b ≠ g → wb.heap[b]? = some o := fun h hg hne => blk_kept h hg (by simpa using hne)
  have hlt6 := lt_at hm6
  have hlt6n := lt_at hn6
  have cell7 := keepO hK6.cell hgr7 (by omega)
  have hm7 : MgAt w.heap.size m r7 := keepO hm6 hgr7 (by omega)
  have hn7' : NmAt w2.heap.size m.id m.wide ⟨#[]⟩ r7 := keepO hn6 hgr7 (by omega)
  have cell8 := keepO cell7 hgr8 (by omega)
  have hm8 : MgAt w.heap.size m r8 := keepO hm7 hgr8 (by omega)
  have hn8 : NmAt w2.heap.size m.id m.wide ⟨#[]⟩ r8 := keepO hn7' hgr8 (by omega)
  have sta8 := (hK6.sta.kept hgr7 (by simp; omega)).kept hgr8 (by simp; omega)
  have ids8 := (hK6.ids.kept hgr7 (by simp; omega)).kept hgr8 (by simp; omega)
  have sig8 := (hK6.sigs.kept hgr7 (by simp; omega)).kept hgr8 (by simp; omega)
  obtain ⟨v1, st1', r9, hr9, hgr9, hsz9, hn9⟩ := ids8.put2 named_law Tryz.underlying76 (z := .bool false) (fun u => Tryz.zeroValue4 u) (key := .agg #[.int .u32 m.id, .bool m.wide, .string ⟨#[]⟩]) (kl := keyN m.id m.wide ⟨#[]⟩) (key_named hwf (by decide)) (.bool true) hki
  obtain ⟨r10, hr10, hI10, hgr10, hsz10⟩ := hn9 r9 rfl
  have cell9 := keepO cell8 hgr9 (by omega)
  have hm9 : MgAt w.heap.size m r9 := keepO hm8 hgr9 (by omega)
  have hn9' : NmAt w2.heap.size m.id m.wide ⟨#[]⟩ r9 := keepO hn8 hgr9 (by omega)
  have cell10 := keepO cell9 hgr10 (by omega)
  have hm10 : MgAt w.heap.size m r10 := keepO hm9 hgr10 (by omega)
  have hn10 : NmAt w2.heap.size m.id m.wide ⟨#[]⟩ r10 := keepO hn9' hgr10 (by omega)
  have hK10 : BookI w0.heap.size r10 BK bs bm bi bg ss (ss.length + 1) ms (i + 1) gk := by
    refine ⟨hK.ord, cell10, (sta8.kept hgr9 (by simp; omega)).kept hgr10 (by simp; omega), ?_, ?_, (sig8.kept hgr9 (by simp; omega)).kept hgr10 (by simp; omega)⟩
    · have : keysF (fM ms) (i + 1) = (keyS m.name, .bool true) :: keysF (fM ms) i := by rw [keysF]; unfold fM; rw [hm]
      rw [this]
      exact (hM8.kept hgr9 (by simp; omega)).kept hgr10 (by simp; omega)
    · have : keysF (fI ms) (i + 1) = (keyN m.id m.wide ⟨#[]⟩, .bool true) :: keysF (fI ms) i := by rw [keysF]; unfold fI; rw [hm]
      rw [this]
      exact hI10
  have hB10 : Below w0.heap.size w0 r10 := (((hB6.grown hgr7 hB6.size (fun k hk => by cases hk; omega)).grown hgr8 (by have := hB6.size; omega) (fun k hk => by cases hk; omega)).grown hgr9 (by have := hB6.size; omega) (fun k hk => by cases hk; omega)).grown hgr10 (by have := hB6.size; omega) (fun k hk => by cases hk; omega)
  refine x_one ?_
  refine st hF (d_mapEntry hr7) rfl (fun a hF => ?_)
  refine wpList_nil ⟨rfl, ⟨cell7, hm7, hn7'⟩, ?_⟩
  repeat (((apply x_step hF); intro wq hwq; (exact d_extract); clear hF; clear a; intro a hF))
  refine x_one ?_
  refine st0 hF (d_entryStore hr8) rfl (fun a hF => ?_)
  refine wpList_nil ⟨rfl, ⟨cell8, hm8, hn8⟩, ?_⟩
  refine x_one ?_
  refine st hF (d_mapEntry hr9) rfl (fun a hF => ?_)
  refine wpList_nil ⟨rfl, ⟨cell9, hm9, hn9'⟩, ?_⟩
  repeat (((apply x_step hF); intro wq hwq; (exact d_extract); clear hF; clear a; intro a hF))
  refine x_one ?_
  refine st0 hF (d_entryStore hr10) rfl (fun a hF => ?_)
  refine wpList_nil ⟨rfl, ⟨cell10, hm10, hn10⟩, ?_⟩
  refine x_nil ?_
  clear hn7 hn9 hM8 hI10 sta8 ids8 sig8 cell7 cell8 cell9 cell10 hm7 hm8 hm9 hn7' hn8 hn9' hn10 hgr7 hgr8 hgr9 hgr10 hK6 hm6 hn6
  have hz10 := hB10.size
  have hsz10 : w.heap.size < r10.heap.size := lt_at hm10
  have hBKr : BK < r10.heap.size := lt_at hK10.cell
  have hpin : ∀ k, k < ps.length → SigIn w0 (sg ps k) (tx ps k) := fun k hk => tx_in hin hk
  have hpw : ∀ k, k < ps.length → ∀ x ∈ tx ps k, x.size ≤ 64 := fun k hk x hx => wordB_size (names_word (names_of_alone (alone_of_one (hgood.one k hk))) x hx)
  have hpn : ∀ k, k < ps.length → (sg ps k).name.size ≤ 64 := fun k hk => wordB_size (name_of_alone (alone_of_one (hgood.one k hk)))
  repeat (first | refine c_seq ?_ | refine c_block ?_ | refine c_region _ ?_ | refine wpList_nil ?_ | refine c_then ?_ | ((apply st hF); (first | exact d_move | exact d_len (und _ _ rfl) | exact d_fieldAddr (fld _ _ _ _ rfl) (isz _ _ rfl) | exact d_load (und _ _ rfl) (hm10.c 7 _ rfl)); clear hF; clear a; intro a hF))
  refine c_loop (fun q a wr => ∃ k, k ≤ m.sgN ∧ q = m.sgN - k ∧ (∀ j, j < k → ¬ toB ss ps j) ∧ Fr 105 [(0, .pointer (some ⟨BK, 0, none⟩)), (3, .pointer (some ⟨w.heap.size, 0, none⟩)), (68, .slice m.sg m.sgN m.sgC), (69, .int .i64 m.sgN), (70, .int .i64 (k : Nat))] a ∧
    MgAt w.heap.size m wr ∧ BookI w0.heap.size wr BK bs bm bi bg ss (ss.length + 1) ms (i + 1) (sigK m ps k ++ gk) ∧ Below w0.heap.size w0 wr) m.sgN
    ⟨0, Nat.zero_le _, rfl, fun j hj => absurd hj (Nat.not_lt_zero _), hF.keep' ⟨rfl, rfl, rfl, rfl, rfl, trivial⟩, hm10, hK10, hB10⟩ ?_
  clear hF a hm10 hK10 hB10 hz10 hsz10 hBKr
  rintro q a wr ⟨k, hk, rfl, hno, hF, hmr, hKr, hbel⟩
  have hz := hbel.size
  by_cases hlt : k < m.sgN
  case neg =>
    obtain rfl : k = m.sgN := by omega
    rw [firstAt_none (fun j hj => hno j (by omega))] at hE
    repeat (first | refine c_seq ?_ | refine c_region _ ?_ | refine wpList_nil ?_ | refine c_then ?_ | refine c_then_exit ?_ | refine c_in_hit ?_ | refine wp_exit ?_ | refine wp_ret ?_ | ((apply st hF); (first | exact d_assign | exact d_cmpF); clear hF; clear a; intro a hF) | (apply c_cond_f hF; exact rfl; first | exact rfl | assumption))
    refine ret1 hF rfl rfl ⟨by rw [hE]; rfl, hbel, fun _ => ?_⟩
    rw [hlen]
    exact hKr
  have hkl : k < ps.length := by omega
  obtain ⟨b, o, hao, hc⟩ := sig_cells_at hin hbel hkl
  have hsin := hpin k hkl
  have hpwk := hpw k hkl
  have hpnk := hpn k hkl
  have hbad : toB ss ps k → E = (13, (sg ps k).line, (sg ps k).col) := fun h => by rw [hE, firstAt_some hkl h hno]; rfl
  have hto : toB ss ps k ↔ ∃ s, s ∈ tx ps k ∧ ¬ knownB ss s := Iff.rfl
  have hsk : sigK m ps (k + 1) = (keyN m.id m.wide (sg ps k).name, .agg (Sig.cells (sg ps k)).toArray) :: sigK m ps k := rfl
  obtain ⟨s, hs⟩ : ∃ x, x = sg ps k := ⟨_, rfl⟩
  obtain ⟨xs, hxs⟩ : ∃ x, x = tx ps k := ⟨_, rfl⟩
  rw [← hs] at hc hsin hpnk hbad hsk
  rw [← hxs] at hsin hpwk hto
  rw [hao] at hF
  have hlmr := lt_at hmr
  have hlBr := lt_at hKr.cell
  repeat (first | refine c_seq ?_ | refine c_block ?_ | refine c_region _ ?_ | refine wpList_nil ?_ | refine c_then ?_ | refine wp_skip ?_ | ((apply st hF); (first | exact d_cmpT | exact d_indexAddrS (und _ _ rfl) (isz _ _ rfl) (j := k) | exact d_loadAgg (agg _ rfl) (isz _ _ rfl) rfl (arr_cells hc)); clear hF; clear a; intro a hF) | (apply c_cond_t hF; exact rfl; first | exact rfl | assumption))
  refine st_alloc hF inf62 (k := fun a r1 hg1 hgr1 hsz1 hF => ?_)
  refine st_storeAgg hF (cs := (Sig.cells s).toArray) (isz _ _ rfl) rfl rfl hg1 (sig_cells _) (k := fun a r2 hs2 hgr2 hsz2 hF => ?_)
  have hb2 : Below wr.heap.size wr r2 := ((Below.refl _ wr).grown hgr1 (Nat.le_refl _) (fun k hk => by cases hk)).grown hgr2 (by omega) (fun k hk => by cases hk; exact Nat.le_refl _)
  have hs2 : SgAt wr.heap.size s r2 := hs2
  have hm2 := hmr.below hb2
  have hK2 := hKr.below hb2
  have hB2 : Below w0.heap.size w0 r2 := hbel.trans (hb2.mono hz)
  clear hg1 hgr1 hgr2 hmr hKr
  have hsin2 := hsin.below hB2
  have hxl := hsin2.len
  have hsb := hsin2.bytes
  repeat (first | refine c_seq ?_ | refine c_block ?_ | refine c_region _ ?_ | refine wpList_nil ?_ | refine c_then ?_ | ((apply st hF); (first | exact d_move | exact d_len (und _ _ rfl) | exact d_fieldAddr (fld _ _ _ _ rfl) (isz _ _ rfl) | exact d_load (und _ _ rfl) (hs2.c 18 _ rfl)); clear hF; clear a; intro a hF))
  refine c_loop (fun q a wq => ∃ j : Nat, j ≤ s.toN ∧ q = s.toN - j ∧ (∀ i' (h : i' < xs.length), i' < j → knownB ss xs[i']) ∧ Fr 105 [(0, .pointer (some ⟨BK, 0, none⟩)), (3, .pointer (some ⟨w.heap.size, 0, none⟩)), (8, .pointer (some ⟨wr.heap.size, 0, none⟩)), (68, .slice (some ⟨b, o, none⟩) m.sgN m.sgC), (69, .int .i64 m.sgN), (70, .int .i64 (k : Nat)), (75, .slice s.toA s.toN s.toC), (76, .int .i64 s.toN), (77, .int .i64 (j : Nat))] a ∧ wq = r2) s.toN
    ⟨0, Nat.zero_le _, rfl, fun i' _ h => absurd h (Nat.not_lt_zero _), hF.keep' ⟨rfl, rfl, rfl, rfl, rfl, rfl, rfl, rfl, rfl, trivial⟩, rfl⟩ ?_
  clear hF a
  rintro q a wq ⟨j, hj, rfl, hkj, hF, hwq⟩
  subst hwq
  by_cases hjt : j < s.toN
  · have hjx : j < xs.length := by omega
    obtain ⟨b2, o2, hao2, hcj⟩ := hsin2.rd j hjx
    have hx64 := hpwk _ (List.getElem_mem hjx)
    have hl := hK2.sta.look KS Tryz.underlying57 (zeroB _) (key_string Tryz.underlying9 xs[j] (by unfold maxLen; omega))
    rw [hao2] at hF
    by_cases hkx : knownB ss xs[j]
    · rw [keysF_yes (known_iff.1 hkx)] at hl
      repeat (first | refine c_seq ?_ | refine c_block ?_ | refine c_region _ ?_ | refine wpList_nil ?_ | refine c_then ?_ | refine c_in ?_ | refine wp_skip ?_ | ((apply st hF); (first | exact d_move | exact d_assign | exact d_not | exact d_add | exact d_cmpT | exact d_nilCheck | exact d_indexAddr1 (und _ _ rfl) (isz _ _ rfl) | exact d_fieldAddr (fld _ _ _ _ rfl) (isz _ _ rfl) | exact d_lookup hl | exact d_load (und _ _ rfl) hcj | exact d_load (und _ _ rfl) (hK2.c 0 _ rfl)); clear hF; clear a; intro a hF) | (apply c_cond_t hF; exact rfl; first | exact rfl | assumption) | (apply c_cond_f hF; exact rfl; first | exact rfl | assumption))
      exact ⟨s.toN - (j + 1), by omega, j + 1, by omega, rfl, fun i' h1 h2 => by
        by_cases e : i' = j
        · subst e; exact hkx
        · exact hkj i' h1 (by omega), by rw [hao2]; exact hF.keep' ⟨rfl, rfl, rfl, rfl, rfl, rfl, rfl, rfl, rfl, trivial⟩, rfl⟩
    · rw [keysF_no (fun h => hkx (known_iff.2 h))] at hl
      have hE' := hbad (hto.2 ⟨xs[j], List.getElem_mem hjx, hkx⟩)
      repeat (first | refine c_seq ?_ | refine c_block ?_ | refine c_region _ ?_ | refine wpList_nil ?_ | refine c_then ?_ | refine wp_skip ?_ | ((apply st hF); (first | exact d_move | exact d_assign | exact d_not | exact d_cmpT | exact d_nilCheck | exact d_indexAddr1 (und _ _ rfl) (isz _ _ rfl) | exact d_fieldAddr (fld _ _ _ _ rfl) (isz _ _ rfl) | exact d_lookup hl | exact d_loadAgg (agg _ rfl) (isz _ _ rfl) rfl hs2.pl | exact d_load (und _ _ rfl) hcj | exact d_load (und _ _ rfl) (hK2.c 0 _ rfl)); clear hF; clear a; intro a hF) | (apply c_cond_t hF; exact rfl; first | exact rfl | assumption))
      refine stc hF (cat_ok _ 13 s.line s.col) cal17 ⟨rfl, rfl, trivial⟩ (k := fun a v w5 hR hF => ?_)
      obtain ⟨rfl, hb5⟩ := hR
      repeat (first | refine wpList_nil ?_ | refine c_then ?_ | refine c_then_ret ?_ | refine c_in_ret ?_ | refine wp_ret ?_ | ((apply st hF); (exact d_assign); clear hF; clear a; intro a hF))
      refine ret1 hF rfl rfl ⟨by rw [hE'], hB2.trans (hb5.mono hB2.size), fun h => ?_⟩
      rw [hE'] at h; cases h
  obtain rfl : j = s.toN := by omega
  have hnot : ¬ toB ss ps k := fun h => by
    obtain ⟨x, hx, h2⟩ := hto.1 h
    obtain ⟨i', hi', rfl⟩ := List.getElem_of_mem hx
    exact h2 (hkj i' hi' (by omega))
  have hmc1 := hm2.c 2 _ rfl
  repeat (first | (refine c_region_mix (fun wq' => wq'.heap[BK]? = some (.cells #[.map (some bs), .map (some bm), .map (some bi), .map (some bg)] 79 (0, 0)) ∧ MgAt w.heap.size m wq' ∧ SgAt wr.heap.size s wq') [(0, true), (1, true), (2, true), (3, true), (4, true), (5, true), (6, true), (7, true), (8, true), (9, true), (10, true), (11, true), (12, false)] 19 mixed (by kernel_rfl) ⟨hK2.cell, hm2, hs2⟩ ?_; simp only [pickX, List.filterMap_cons, List.getElem?_cons_zero, List.getElem?_cons_succ, List.filterMap_nil, Option.map_some]) | refine c_seq ?_ | refine c_region _ ?_ | refine wpList_nil ?_ | refine c_then ?_ | refine c_then_exit ?_ | refine c_in_hit ?_ | refine wp_exit ?_ | ((apply st hF); (exact d_cmpF); clear hF; clear a; intro a hF) | (apply c_cond_f hF; exact rfl; first | exact rfl | assumption))
  have hd3 : Below wq.heap.size wq (wq.drewN 1) := below_more (Below.refl _ wq) 1
  generalize wq.drewN 1 = r3 at *
  have hm3 := hm2.below hd3
  have hs3 := hs2.below hd3
  have hK3 := hK2.below hd3
  have hB3 : Below w0.heap.size w0 r3 := hB2.trans (hd3.mono hB2.size)
  have hz3 := hd3.size
  have hz2 := hb2.size
  have hls3 := lt_at hs2
  repeat (((apply x_step hF); intro wq hwq; (first | exact d_move | exact d_nilCheck | exact d_fieldAddr (fld _ _ _ _ rfl) (isz _ _ rfl) | exact d_loadAgg (agg _ rfl) (isz _ _ rfl) rfl (cells_at hwq.2.2) | exact d_build (vs := [(0, .int .u32 m.id), (1, .bool m.wide), (2, .string s.name)]) (cells := #[.int .u32 m.id, .bool m.wide, .string s.name]) (by kernel_rfl) ⟨rfl, rfl, rfl, rfl, rfl, rfl, trivial⟩ | exact d_load (und _ _ rfl) ((bkc _ 3 _ hwq.1 rfl)) | exact d_load (und _ _ rfl) ((hwq.2.1.c 2 _ rfl)) | exact d_load (und _ _ rfl) ((hwq.2.1.c 3 _ rfl)) | exact d_load (und _ _ rfl) ((hwq.2.2.c 2 _ rfl))); clear hF; clear a; intro a hF))
  obtain ⟨r4, hr4, hM4, hgr4, hsz4⟩ := hK3.sigs.put KN Tryz.underlying77 (key := .agg #[.int .u32 m.id, .bool m.wide, .string s.name]) (kl := keyN m.id m.wide s.name) (key_named hwf (by unfold maxLen; omega)) (.agg (Sig.cells s).toArray) (by rw [List.length_append, sigK_len]; unfold maxLen; omega)
  have hm4 : MgAt w.heap.size m r4 := keepO hm3 hgr4 (by omega)
  have hs4 : SgAt wr.heap.size s r4 := keepO hs3 hgr4 (by omega)
  have cell4 := keepO hK3.cell hgr4 (by omega)
  refine x_one ?_
  refine st0 hF (d_mapUpdate hr4) rfl (fun a hF => ?_)
  refine wpList_nil ⟨rfl, ⟨cell4, hm4, hs4⟩, x_nil ?_⟩
  repeat (first | refine c_region _ ?_ | refine wpList_nil ?_ | refine c_then ?_ | refine c_in ?_ | ((apply st hF); (first | exact d_move | exact d_add); clear hF; clear a; intro a hF))
  refine ⟨m.sgN - (k + 1), by omega, k + 1, by omega, rfl, fun j hj => ?_, by rw [hao]; exact hF.keep' ⟨rfl, rfl, rfl, rfl, rfl, trivial⟩, hm4, ⟨hord, cell4, hK3.sta.kept hgr4 (by simp; omega), hK3.mes.kept hgr4 (by simp; omega), hK3.ids.kept hgr4 (by simp; omega), by rw [hsk]; exact hM4⟩, hB3.grown hgr4 hB3.size (fun k hk => by cases hk; omega)⟩
  by_cases e : j = k
  · subst e; exact hnot
  · exact hno j (by omega)
end Go.Proofs.YtjomihhpglojpaaGreatDoor
end
section
/- What the map of signals holds once all messages are entered. Plain. -/
namespace Go.Proofs.YtjomihhpglojpaaGreatDoor
open Go.RowKit
set_option linter.unusedSimpArgs false
set_option linter.unusedVariables false
attribute [local irreducible] wpList wpQuiet wpStill Code.wp Exit.then Exit.inBlock bodyPost Calls Does Does0
set_option maxRecDepth 100000
open Classical in
theorem kvG_cons (k : Lit) (p : Lit × Value) (r : List (Lit × Value)) : kvG k (p :: r) = if k = p.1 then some p.2 else kvG k r := rfl
theorem sigK_no {m : Msg} {ps : List SigT} {key : Lit} {rest : List (Lit × Value)} : ∀ {k : Nat}, (∀ j, j < k → keyN m.id m.wide (sg ps j).name ≠ key) → kvG key (sigK m ps k ++ rest) = kvG key rest
  | 0, _ => rfl
  | k + 1, h => by
    show kvG key ((_, _) :: (sigK m ps k ++ rest)) = _
    rw [kvG_cons]
    rw [if_neg (fun e => h k (by omega) e.symm)]
    exact sigK_no fun j hj => h j (by omega)
theorem sigK_yes {m : Msg} {ps : List SigT} {key : Lit} {rest : List (Lit × Value)} {i : Nat} : ∀ {k : Nat}, i < k → keyN m.id m.wide (sg ps i).name = key → (∀ j, i < j → j < k → keyN m.id m.wide (sg ps j).name ≠ key) → kvG key (sigK m ps k ++ rest) = some (.agg (Sig.cells (sg ps i)).toArray)
  | 0, h, _, _ => absurd h (Nat.not_lt_zero _)
  | k + 1, h, e, hn => by
    show kvG key ((_, _) :: (sigK m ps k ++ rest)) = _
    rw [kvG_cons]
    by_cases h2 : i = k
    · subst h2
      rw [if_pos e.symm]
    · rw [if_neg (fun e2 => hn k (by omega) (by omega) e2.symm)]
      exact sigK_yes (by omega) e fun j hj hjk => hn j hj (by omega)
/-- What is asked of the messages that were entered. -/
structure Entered (ms : List MsgT) (n : Nat) : Prop where
  id : ∀ i, i < n → 0 ≤ (ms_ ms i).id ∧ (ms_ ms i).id < 4294967296
  nm : ∀ i, i < n → ∀ k, k < (mp_ ms i).length → (sg (mp_ ms i) k).name.size ≤ 64
  names : ∀ i, i < n → ∀ k, k < (mp_ ms i).length → ∀ j, j < k → (sg (mp_ ms i) j).name ≠ (sg (mp_ ms i) k).name
  ids : ∀ i, i < n → ∀ j, j < i → ¬ sameId (ms_ ms j) (ms_ ms i).id (ms_ ms i).wide
theorem kv_find {ms : List MsgT} : ∀ (n : Nat), Entered ms n → ∀ (id : Int) (wide : Bool) (name : ByteArray), (0 ≤ id ∧ id < 4294967296) → name.size ≤ maxLen →
    (∃ i k, i < n ∧ k < (mp_ ms i).length ∧ sameId (ms_ ms i) id wide ∧ (sg (mp_ ms i) k).name = name ∧ kvG (keyN id wide name) (sigsKv ms n) = some (.agg (Sig.cells (sg (mp_ ms i) k)).toArray)) ∨
    ((¬ ∃ i k, i < n ∧ k < (mp_ ms i).length ∧ sameId (ms_ ms i) id wide ∧ (sg (mp_ ms i) k).name = name) ∧ kvG (keyN id wide name) (sigsKv ms n) = none)
  | 0, _, _, _, _, _, _ => .inr ⟨fun ⟨_, _, h, _⟩ => absurd h (Nat.not_lt_zero _), rfl⟩
  | n + 1, H, id, wide, name, hid, hnm => by
    have hinj : ∀ k, k < (mp_ ms n).length → keyN (ms_ ms n).id (ms_ ms n).wide (sg (mp_ ms n) k).name = keyN id wide name → sameId (ms_ ms n) id wide ∧ (sg (mp_ ms n) k).name = name := fun k hk e => by
      obtain ⟨e1, e2, e3⟩ := keyN_inj (wf_mk32 (H.id n (by omega))) (Nat.le_trans (H.nm n (by omega) k hk) (by unfold maxLen; omega)) (wf_mk32 hid) hnm e
      exact ⟨⟨e1, e2⟩, e3⟩
    by_cases hx : ∃ k, k < (mp_ ms n).length ∧ sameId (ms_ ms n) id wide ∧ (sg (mp_ ms n) k).name = name
    · obtain ⟨k, hk, hs, hn⟩ := hx
      refine .inl ⟨n, k, by omega, hk, hs, hn, ?_⟩
      show kvG _ (sigK _ _ _ ++ _) = _
      refine sigK_yes hk (by rw [hs.1, hs.2, hn]) fun j hkj hj e => ?_
      have := (hinj j hj e).2
      exact H.names n (by omega) j hj k hkj (hn.trans this.symm)
    · have h1 : kvG (keyN id wide name) (sigsKv ms (n + 1)) = kvG (keyN id wide name) (sigsKv ms n) := by
        show kvG _ (sigK _ _ _ ++ _) = _
        exact sigK_no fun j hj e => hx ⟨j, hj, (hinj j hj e).1, (hinj j hj e).2⟩
      rw [h1]
      rcases kv_find n ⟨fun i hi => H.id i (by omega), fun i hi => H.nm i (by omega), fun i hi => H.names i (by omega), fun i hi => H.ids i (by omega)⟩ id wide name hid hnm with ⟨i, k, hi, h⟩ | ⟨h, h2⟩
      · exact .inl ⟨i, k, by omega, h⟩
      · refine .inr ⟨?_, h2⟩
        rintro ⟨i, k, hi, hk, hs⟩
        by_cases e : i = n
        · subst e; exact hx ⟨k, hk, hs⟩
        · exact h ⟨i, k, by omega, hk, hs⟩
theorem of_unique {ms : List MsgT} (H : Entered ms ms.length) {id : Int} {wide : Bool} {name : ByteArray} {s t : Sig} (hs : ofB ms id wide name s) (ht : ofB ms id wide name t) : s = t := by
  obtain ⟨i, k, hi, hk, h1, h2, rfl⟩ := hs
  obtain ⟨i', k', hi', hk', h1', h2', rfl⟩ := ht
  have ei : i = i' := by
    rcases Nat.lt_trichotomy i i' with h | h | h
    · exact absurd ⟨h1.1.trans h1'.1.symm, h1.2.trans h1'.2.symm⟩ (H.ids i' hi' i h)
    · exact h
    · exact absurd ⟨h1'.1.trans h1.1.symm, h1'.2.trans h1.2.symm⟩ (H.ids i hi i' h)
  subst ei
  rcases Nat.lt_trichotomy k k' with h | h | h
  · exact absurd (h2.trans h2'.symm) (H.names i hi k' hk' k h)
  · rw [h]
  · exact absurd (h2'.trans h2.symm) (H.names i hi k hk k' h)
theorem dmE_zero {ss : List ByteArray} {ms : List MsgT} {i : Nat} (h : (dmE ss ms i).1 = 0) : (msgE (ms_ ms i) (mp_ ms i)).1 = 0 ∧ (∀ j, j < i → ¬ ((ms_ ms j).name = (ms_ ms i).name ∨ sameId (ms_ ms j) (ms_ ms i).id (ms_ ms i).wide)) ∧ knownB ss (ms_ ms i).sender ∧ ∀ k, k < (mp_ ms i).length → ¬ toB ss (mp_ ms i) k := by
  unfold dmE at h
  by_cases e1 : (msgE (ms_ ms i) (mp_ ms i)).1 ≠ 0
  · rw [if_pos e1] at h; exact absurd h e1
  rw [if_neg e1] at h
  by_cases e2 : ∃ k, k < i ∧ ((ms_ ms k).name = (ms_ ms i).name ∨ sameId (ms_ ms k) (ms_ ms i).id (ms_ ms i).wide)
  · rw [if_pos e2] at h; cases h
  rw [if_neg e2] at h
  by_cases e3 : ¬ knownB ss (ms_ ms i).sender
  · rw [if_pos e3] at h; cases h
  rw [if_neg e3] at h
  refine ⟨Classical.byContradiction e1, fun j hj hx => e2 ⟨j, hj, hx⟩, Classical.byContradiction e3, ?_⟩
  rcases firstAt_spec (toB ss (mp_ ms i)) (mp_ ms i).length with ⟨_, hn⟩ | ⟨k, hk, _⟩
  · exact hn
  · rw [hk] at h; cases h
theorem dm_of {ss : List ByteArray} {ms : List MsgT} {i : Nat} (h1 : (msgE (ms_ ms i) (mp_ ms i)).1 = 0) (h2 : ∀ j, j < i → ¬ ((ms_ ms j).name = (ms_ ms i).name ∨ sameId (ms_ ms j) (ms_ ms i).id (ms_ ms i).wide)) (h3 : knownB ss (ms_ ms i).sender) (h4 : ∀ k, k < (mp_ ms i).length → ¬ toB ss (mp_ ms i) k) : dmE ss ms i = okE := by
  unfold dmE
  rw [if_neg (fun h => h h1), if_neg (fun ⟨j, hj, hx⟩ => h2 j hj hx), if_neg (fun h => h h3), firstAt_none h4]
  rfl
theorem entered {ss : List ByteArray} {ms : List MsgT} (hid : ∀ i, i < ms.length → 0 ≤ (ms_ ms i).id ∧ (ms_ ms i).id < 4294967296) (h : ∀ i, i < ms.length → (dmE ss ms i).1 = 0) : Entered ms ms.length := by
  refine ⟨hid, fun i hi k hk => ?_, fun i hi k hk j hj => ?_, fun i hi j hj hx => ?_⟩
  · have hg := msgE_zero.1 (dmE_zero (h i hi)).1
    exact wordB_size (name_of_alone (alone_of_one (hg.one k hk)))
  · have hg := msgE_zero.1 (dmE_zero (h i hi)).1
    exact names_of_one (hg.one k hk) j hj
  · exact (dmE_zero (h i hi)).2.1 j hj (.inr hx)
end Go.Proofs.YtjomihhpglojpaaGreatDoor
end
