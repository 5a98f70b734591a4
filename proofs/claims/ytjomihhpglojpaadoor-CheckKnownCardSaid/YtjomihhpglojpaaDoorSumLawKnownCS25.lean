/- Laid together by a program of mine: KnLim. -/
import Derived.Test.YtjomihhpglojpaaDoorSumLawKnownCS22
import Derived.Test.YtjomihhpglojpaaDoorSumLawKnownCS24
set_option linter.unusedSimpArgs false
set_option linter.unusedVariables false
section
/- busbarlaw09.limits, walked. (Printed by tools/knlim.py.) -/
namespace Go.Proofs.YtjomihhpglojpaaDoor
open Go.RowKit
set_option linter.unusedSimpArgs false
set_option linter.unusedVariables false
attribute [local irreducible] wpList wpQuiet wpStill Code.wp Exit.then Exit.inBlock bodyPost Calls Does Does0
set_option maxRecDepth 100000
def LimS (w : World) (ls : List Sig) (k : Nat) : Prop := ls.length = k ∧ ∀ i, i < k → ∃ g, ls[i]? = some (oneS (nmB i) (i : Int) 1 g) ∧ Rd w (some ⟨g, 0, none⟩) .string txA
theorem LimS.below {w w' : World} {ls : List Sig} {k : Nat} (h : LimS w ls k) (hb : Below w.heap.size w w') : LimS w' ls k := ⟨h.1, fun i hi => by
  obtain ⟨g, h1, h2⟩ := h.2 i hi
  exact ⟨g, h1, h2.below hb⟩⟩
/-- A list of texts stays while a row is written whose first cell is another. -/
theorem rd_keptR {w w' : World} {g : Nat} {xs : List ByteArray} (h : Rd w (some ⟨g, 0, none⟩) .string xs) {base n cap sz : Nat} {e : TypeId} {ao : Option Addr} {ys : List Value} (hown : w.ownsRow base e sz (.slice ao n cap) n ys) (h0 : n = 0 → ao = none) (hy : 0 < n → ∃ u, ys[0]? = some u ∧ ∀ x, xs[0]? = some x → u ≠ .string x) (hp : 0 < xs.length)
    (hgr : w.grownBy w' (Value.slice ao n cap).ownBlock) : Rd w' (some ⟨g, 0, none⟩) .string xs := by
  rcases Nat.eq_zero_or_pos n with hn | hn
  · rw [h0 hn] at hgr
    exact h.below (below_own (Below.refl w.heap.size w) (Nat.le_refl _) (World.ownsRow_nil w w.heap.size e sz) hgr)
  · obtain ⟨u, hu, hne⟩ := hy hn
    rcases hown.2 with ⟨_, h1⟩ | ⟨b, cap', cur, e1, _, hg, _, _, _, htk⟩
    · omega
    · cases e1
      have h2 : (cur.toList.take (n * sz))[0]? = some u := by rw [htk]; exact hu
      have hpos : 0 < n * sz := by
        rcases Nat.eq_zero_or_pos (n * sz) with h | h
        · rw [h] at h2; cases h2
        · exact h
      rw [List.getElem?_take_of_lt hpos] at h2
      refine rd_far h 0 hp (B := b) (v := u) (cell_at hg (by simpa using h2)) (fun e => ?_) hgr
      exact hne xs[0] (List.getElem?_eq_getElem hp) e
theorem LimS.row {w w' : World} {ls : List Sig} {k : Nat} (h : LimS w ls k) {base n cap sz : Nat} {e : TypeId} {ao : Option Addr} {ys : List Value} (hown : w.ownsRow base e sz (.slice ao n cap) n ys) (h0 : n = 0 → ao = none) (hy : 0 < n → ∃ u, ys[0]? = some u ∧ u ≠ .string ⟨#[65]⟩) (hgr : w.grownBy w' (Value.slice ao n cap).ownBlock) : LimS w' ls k := ⟨h.1, fun i hi => by
  obtain ⟨g, h1, h2⟩ := h.2 i hi
  refine ⟨g, h1, rd_keptR h2 hown h0 (fun hn => ?_) (by decide) hgr⟩
  obtain ⟨u, e1, e2⟩ := hy hn
  exact ⟨u, e1, fun x hx => by cases hx; exact e2⟩⟩
theorem LimS.push {w : World} {ls : List Sig} {k g : Nat} (h : LimS w ls k) (hg : Rd w (some ⟨g, 0, none⟩) .string txA) : LimS w (ls ++ [oneS (nmB k) (k : Int) 1 g]) (k + 1) := by
  refine ⟨by simp [h.1], fun i hi => ?_⟩
  by_cases e : i < k
  · obtain ⟨g', h1, h2⟩ := h.2 i e
    exact ⟨g', by rw [List.getElem?_append_left (by rw [h.1]; exact e)]; exact h1, h2⟩
  · obtain rfl : i = k := by omega
    exact ⟨g, by rw [List.getElem?_append_right (by rw [h.1]; exact Nat.le_refl _), h.1]; simp, hg⟩
theorem LimS.head {w : World} {ls : List Sig} {k : Nat} (h : LimS w ls k) (hk : 0 < k) : ∃ u, (ls.flatMap Sig.cells)[0]? = some u ∧ u ≠ .string ⟨#[65]⟩ := by
  obtain ⟨g, h1, _⟩ := h.2 0 hk
  cases ls with
  | nil => cases h1
  | cons s ls => exact ⟨.int .i64 s.line, by simp [Sig.cells], fun e => by cases e⟩
theorem nm_head {k : Nat} (hk : 0 < k) : ∃ u, ((nmL k).map Value.string)[0]? = some u ∧ u ≠ .string ⟨#[65]⟩ := by
  refine ⟨.string (nmB 0), ?_, ?_⟩
  · cases k with
    | zero => omega
    | succ k => simp [nmL, List.range_succ_eq_map]
  · intro e
    have : nmB 0 = ⟨#[65]⟩ := by injection e
    exact absurd this (of_decide_eq_true (by kernel_rfl))
def lsT (ls : List Sig) : List SigT := ls.map fun s => (s, txA)
theorem lsT_sg {ls : List Sig} {i : Nat} {s : Sig} (h : ls[i]? = some s) : sg (lsT ls) i = s ∧ tx (lsT ls) i = txA := by
  unfold sg tx lsT
  simp [List.getD, h]
theorem LimS.sig64 {w : World} {ls : List Sig} (h : LimS w ls 64) : Sig64 (lsT ls) := ⟨by simp [lsT, h.1], fun i hi => by
  obtain ⟨g, h1, _⟩ := h.2 i hi
  exact ⟨g, (lsT_sg h1).1, (lsT_sg h1).2⟩⟩
theorem LimS.each {w : World} {ls : List Sig} {k : Nat} (h : LimS w ls k) : ∀ p ∈ lsT ls, SigIn w p.1 p.2 ∧ SigB p.1 := by
  intro p hp
  obtain ⟨s, hs, rfl⟩ := List.mem_map.1 hp
  obtain ⟨i, hi, rfl⟩ := List.getElem_of_mem hs
  obtain ⟨g, h1, h2⟩ := h.2 i (by rw [← h.1]; exact hi)
  rw [List.getElem?_eq_getElem hi] at h1
  rw [Option.some.inj h1]
  exact ⟨one_in h2, one_bnd _ _ _ _⟩
theorem lim_in {w : World} {base gl cl n : Nat} {ls : List Sig} (hS : w.ownsRow base 38 19 (.slice (some ⟨gl, 0, none⟩) n cl) n (ls.flatMap Sig.cells)) (hl : ls.length = n) (hn : n ≤ 1000) (h : ∀ p ∈ lsT ls, SigIn w p.1 p.2) : SigsIn w (some ⟨gl, 0, none⟩) n cl (lsT ls) :=
  ⟨by simp [lsT, hl], by
    have := own_rdS (enc := Sig.cells) sigc_len hS hl
    simpa [lsT, Function.comp_def] using this, h, (own_cap' hS).1, by omega⟩
def ZZ : ByteArray := ⟨#[122, 122]⟩
theorem nm65 : namesE (nmL 64 ++ [ZZ]) = 5 := by
  unfold namesE
  rw [if_neg (by simp [nmL]), if_pos (by simp [nmL])]
theorem big_bad {m : Msg} {ps : List SigT} (h1 : m = { twoM m.sg 65 m.sgC with size := 8 }) : msgE m ps = (5, none) := by
  have : headE m = 5 := by rw [h1]; rfl
  unfold msgE
  rw [if_pos (by rw [this]; decide), this]
def dbL (gn n c : Nat) (mg : Option Addr) (mn mc : Nat) (tb : Option Addr) (tn tc : Nat) : Db := ⟨false, 0, 0, ⟨#[]⟩, 0, 0, some ⟨gn, 0, none⟩, n, c, mg, mn, mc, tb, tn, tc⟩
theorem nm64_list : listGo [] (nmL 64) = 0 := by kernel_rfl
theorem nm64_names : namesE (nmL 64) = 0 := by
  unfold namesE
  rw [if_neg (by simp [nmL]), if_neg (by simp [nmL]), nm64_list]
theorem db_nm64 {d : Db} (hv : d.hasV = false) : dbE d (nmL 64) [] [] = okE :=
  (db_C hv (ids_mem (by intro p hp; cases hp)) (units_mem (by intro p hp; cases hp)) (texts_mem (by intro p hp; cases hp))).trans (by
    unfold dbC
    rw [if_neg (by simp [nmL])]
    have e : findC (fun i => decide (staC' (nmL 64) i ≠ 0)) (nmL 64).length = none := by kernel_rfl
    rw [e]
    rfl)
theorem db_nm65 {d : Db} {ss : List ByteArray} {ms : List MsgT} {ts : List TabT} (hv : d.hasV = false) (h : 64 < ss.length) : dbE d ss ms ts = (5, d.sline, d.scol) := by
  unfold dbE
  rw [if_neg (by rw [hv]; exact fun h => Bool.noConfusion h.1), if_pos h]
theorem rd_keptDS {w w' : World} {B g : Nat} {d : Db} {xs : List ByteArray} (h : Rd w (some ⟨g, 0, none⟩) .string xs) (hx : DgAt B d w) (hgr : w.grownBy w' (some B)) (hp : 0 < xs.length) : Rd w' (some ⟨g, 0, none⟩) .string xs :=
  rd_far h 0 hp (by rw [Nat.zero_add]; exact hx.c 0 _ rfl) (fun e => by cases e) hgr
theorem rd_keptTS {w w' : World} {B g : Nat} {t : Tab} {xs : List ByteArray} (h : Rd w (some ⟨g, 0, none⟩) .string xs) (hx : TgAt B t w) (hgr : w.grownBy w' (some B)) (hp : 0 < xs.length) : Rd w' (some ⟨g, 0, none⟩) .string xs :=
  rd_far h 0 hp (by rw [Nat.zero_add]; exact hx.c 0 _ rfl) (fun e => by cases e) hgr
def mgX (n : Nat) : List Msg := (List.range n).map mgL
theorem mgX_succ (n : Nat) : mgX (n + 1) = mgX n ++ [mgL n] := by simp [mgX, List.range_succ]
theorem mgT_in (w : World) (n : Nat) : (∀ p ∈ mgT n, MsgIn w p.1 p.2) ∧ (n ≤ 1000 → ∀ p ∈ mgT n, (∀ q ∈ p.2, SigB q.1) ∧ 0 ≤ p.1.id ∧ p.1.id < 4294967296) := by
  constructor
  · intro p hp
    obtain ⟨i, hi, rfl⟩ := List.mem_map.1 hp
    exact ⟨rfl, fun i hi => absurd hi (Nat.not_lt_zero _), by simp, Nat.le_refl 0, by show 0 * 176 ≤ 140737488351232; decide⟩
  · intro hn p hp
    obtain ⟨i, hi, rfl⟩ := List.mem_map.1 hp
    have := List.mem_range.1 hi
    exact ⟨by simp, by show (0 : Int) ≤ (i : Int); omega, by show (i : Int) < 4294967296; omega⟩
theorem mgs_in {w : World} {base g n cap : Nat} (h : w.ownsRow base 27 8 (.slice (some ⟨g, 0, none⟩) n cap) n ((mgX n).flatMap Msg.cells)) (hn : n ≤ 1000) : MsgsIn w (some ⟨g, 0, none⟩) n cap (mgT n) :=
  msgs_own (by rw [mgT_map]; exact h) (mgT_len n) hn (mgT_in w n).1 ((mgT_in w n).2 hn)
theorem lim_db {w : World} {gn n c : Nat} {ss : List ByteArray} {mg tb : Option Addr} {mn mc tn tc : Nat} {ms : List MsgT} {ts : List TabT} (hl : ss.length = n) (hn : n ≤ 1000) (hc : n ≤ c) (h : Rd w (some ⟨gn, 0, none⟩) .string ss) (hm : MsgsIn w mg mn mc ms) (ht : TabsIn w tb tn tc ts) : DbIn w (dbL gn n c mg mn mc tb tn tc) ss ms ts :=
  ⟨hl, h, hc, by show n * 16 ≤ 140737488351232; omega, hm, ht⟩
theorem rw_in {w : World} {base g n cap : Nat} (h : w.ownsRow base 116 2 (.slice (some ⟨g, 0, none⟩) n cap) n ((rwL n).flatMap RowV.cells)) (hn : n ≤ 1000) : RowsIn w (tabR (some ⟨g, 0, none⟩) n cap) (rwL n) :=
  ⟨rwL_len n, own_rdS rowc_len h (rwL_len n), (own_cap' h).1, by show n * 24 ≤ 140737488351232; omega, fun r hr => by
    obtain ⟨i, hi, rfl⟩ := List.mem_map.1 hr
    have := List.mem_range.1 hi
    exact ⟨by show (-9223372036854775808 : Int) ≤ (i : Int); omega, by show (i : Int) ≤ 9223372036854775807; omega⟩⟩
theorem rw_head {n : Nat} (hn : 0 < n) (s : ByteArray) : ∃ u, ((rwL n).flatMap RowV.cells)[0]? = some u ∧ ∀ x : ByteArray, u ≠ .string x := by
  cases n with
  | zero => omega
  | succ n => exact ⟨.int .i64 0, by simp [rwL, List.range_succ_eq_map, RowV.cells], fun x e => by cases e⟩
theorem hA_rd {w : World} {g : Nat} (h : BkAt g [Value.string ⟨#[65]⟩] 9 w) : Rd w (some ⟨g, 0, none⟩) .string txA := fun i hi => by
  obtain rfl : i = 0 := by have : i < 1 := hi; omega
  exact ⟨g, 0, rfl, cell_at h rfl⟩
theorem rd_keptL {w w' : World} {B g : Nat} {t : Tab} {xs : List ByteArray} (h : Rd w (some ⟨g, 0, none⟩) .string xs) (hx : BkAt B ([t].flatMap Tab.cells) 67 w) (hgr : w.grownBy w' (some B)) (hp : 0 < xs.length := by decide) : Rd w' (some ⟨g, 0, none⟩) .string xs :=
  rd_far h 0 hp (cell_at hx rfl) (fun e => by cases e) hgr
theorem u32_small {k : Nat} (h : k < 513) : ({ mgL k with id := IntKind.u32.wrap (k : Nat) } : Msg) = mgL k := by
  have : IntKind.u32.wrap (k : Nat) = (k : Int) := by
    have e : IntKind.u32.wrap (k : Nat) = (k : Int) % 4294967296 := rfl
    rw [e]; omega
  unfold mgL
  rw [this]
/-- Each copied signal, and one more. -/
theorem big_each {base : Nat} {w w0 : World} {ls lc : List Sig} {gz : Nat} (hC : ∀ i, i < 64 → CopyOk base w (lsT ls) lc i) (hLe : ∀ p ∈ lsT ls, SigIn w0 p.1 p.2 ∧ SigB p.1) (hz : Rd w (some ⟨gz, 0, none⟩) .string txA) (hl : lc.length = 64) : ∀ p ∈ lsT (lc ++ [oneS ⟨#[122, 122]⟩ 0 1 gz]), SigIn w p.1 p.2 ∧ SigB p.1 := by
  intro p hp
  obtain ⟨s, hs, rfl⟩ := List.mem_map.1 hp
  rcases List.mem_append.1 hs with h | h
  · obtain ⟨i, hi, rfl⟩ := List.getElem_of_mem h
    obtain ⟨q, ao, c, h1, h2, h3⟩ := hC i (by omega)
    rw [List.getElem?_eq_getElem hi] at h2
    have hm := List.mem_of_getElem? h1
    obtain ⟨hi1, hB⟩ := hLe q hm
    obtain ⟨s', _, rfl⟩ := List.mem_map.1 hm
    have hn : s'.toN = 1 := hi1.len.symm
    have h3' : w.ownsRow base 9 1 (.slice ao 1 c) 1 (txA.map Value.string) := by have := h3; unfold CopyT at this; rw [hn] at this; exact this
    rw [Option.some.inj h2]
    exact ⟨⟨hi1.len, (own_rd h3').2, by show s'.toN ≤ c; rw [hn]; exact (own_cap' h3').1, by show s'.toN * 16 ≤ 140737488351232; omega⟩, ⟨hB.sn, hB.sd, hB.fn, hB.fd, hB.mn, hB.md, hB.xn, hB.xd, hB.br⟩⟩
  · obtain rfl := List.mem_singleton.1 h
    exact ⟨one_in hz, one_bnd _ _ _ _⟩
theorem copy_head {lc : List Sig} (h : lc.length = 64) : ∃ u, (lc.flatMap Sig.cells)[0]? = some u ∧ ∀ x, txA[0]? = some x → u ≠ .string x := by
  cases lc with
  | nil => cases h
  | cons s ls => exact ⟨.int .i64 s.line, by simp [Sig.cells], fun x _ e => by cases e⟩
theorem ms16_in {w : World} {b bm g : Nat} (lm : BkAt bm ([M16 b].flatMap Msg.cells) 27 w) (ls : BkAt b ([oneS ⟨#[97]⟩ 0 16 g].flatMap Sig.cells) 38 w) (rg : Rd w (some ⟨g, 0, none⟩) .string txA) : MsgsIn w (some ⟨bm, 0, none⟩) 1 1 (ms16 b g) := by
  refine msgs_bk (ms := ms16 b g) lm rfl (by decide) (fun p hp => ?_) (fun p hp => ?_)
  · obtain rfl := List.mem_singleton.1 hp
    refine msg_mk (n := 1) rfl rfl rfl rfl (by decide) (ls.rdS (enc := Sig.cells) (xs := [oneS ⟨#[97]⟩ 0 16 g]) sigc_len (by simp)) (fun q hq => ?_)
    obtain rfl := List.mem_singleton.1 hq
    exact sig_in1 rg rfl rfl rfl
  · obtain rfl := List.mem_singleton.1 hp
    refine ⟨fun q hq => ?_, by show (0 : Int) ≤ 5; decide, by show (5 : Int) < 4294967296; decide⟩
    obtain rfl := List.mem_singleton.1 hq
    exact one_bnd _ _ _ _
theorem tab1_in {w : World} {bt n c : Nat} {rw_ : Option Addr} {rs : List RowV} (lt : BkAt bt ([tabR rw_ n c].flatMap Tab.cells) 67 w) (h : RowsIn w (tabR rw_ n c) rs) : TabsIn w (some ⟨bt, 0, none⟩) 1 1 [(tabR rw_ n c, rs)] := by
  refine tabs_bk (ts := [(tabR rw_ n c, rs)]) lt rfl (by decide) (fun p hp => ?_) (fun p hp => ?_)
  · obtain rfl := List.mem_singleton.1 hp
    exact h
  · obtain rfl := List.mem_singleton.1 hp
    exact ⟨⟨by show (0 : Int) ≤ 5; decide, by show (5 : Int) < 4294967296; decide⟩, by show (1 : Nat) ≤ maxLen; decide⟩
set_option maxHeartbeats 64000000 in
theorem limits_ok (w : World) (hH : Handle w) (hT : Tabs w) : Ret Tryd.prog 28 #[] w (fun v w' => v = .bool true ∧ Below w.heap.size w w') := by
  refine enter0 Tryd.func28 rfl 157 rfl 157 rfl (fun a hF => ?_)
  have hX : Below w.heap.size w w := Below.refl _ w
  repeat (first | refine c_seq ?_ | refine c_block ?_ | refine c_region _ ?_ | refine wpList_nil ?_ | refine c_then ?_ | ((apply st hF); (exact d_assign); clear hF; clear a; intro a hF))
  refine c_loop (fun q a wr => ∃ (k : Nat) (an al : Option Addr) (cn cl : Nat) (ls : List Sig), k ≤ 64 ∧ q = 64 - k ∧ (k = 0 → an = none ∧ al = none) ∧ Fr 157 [(1, .slice an k cn), (2, .slice al k cl), (3, .int .i64 (k : Nat))] a ∧ wr.ownsRow w.heap.size 9 1 (.slice an k cn) k ((nmL k).map Value.string) ∧ wr.ownsRow w.heap.size 38 19 (.slice al k cl) k (ls.flatMap Sig.cells) ∧ LimS wr ls k ∧ Below w.heap.size w wr) 64
    ⟨0, none, none, 0, 0, [], Nat.zero_le _, rfl, fun _ => ⟨rfl, rfl⟩, hF.keep' ⟨rfl, rfl, rfl, trivial⟩, World.ownsRow_nil _ _ _ _, World.ownsRow_nil _ _ _ _, ⟨rfl, fun i hi => absurd hi (Nat.not_lt_zero _)⟩, hX⟩ ?_
  clear hF a hX
  rintro q a v1 ⟨k, an, al, cn, cl, ls, hk, rfl, h0, hF, hN, hS, hL, hX⟩
  by_cases hlt : k < 64
  case pos =>
    repeat (first | refine c_seq ?_ | refine c_block ?_ | refine c_region _ ?_ | refine wpList_nil ?_ | refine c_then ?_ | refine wp_skip ?_ | ((apply st hF); (first | exact d_move | exact d_cmpT); clear hF; clear a; intro a hF) | (apply c_cond_t hF; exact rfl; first | exact rfl | assumption))
    refine stc hF (named_ok v1 k (by omega)) cal58 ⟨rfl, trivial⟩ (k := fun a v v2 hR hF => ?_)
    obtain ⟨rfl, hb⟩ := hR
    replace hN := own_below hN hb
    replace hS := own_below hS hb
    replace hL := hL.below hb
    replace hX := hX.trans (hb.mono hX.size)
    refine st_push hF (und _ _ rfl) inf9 rfl hN (by omega) (by unfold maxLen; omega) hX.size (k := fun a an2 cn2 v3 hN2 hgr hF => ?_)
    replace hS := own_keptO hS hN (by decide) hgr
    replace hL := hL.row hN (fun h => (h0 h).1) (fun h => nm_head h) hgr
    replace hX := below_own hX hX.size hN hgr
    replace hN : v3.ownsRow w.heap.size 9 1 (.slice an2 (k + 1) cn2) (k + 1) ((nmL (k + 1)).map Value.string) := by rw [nmL_succ, List.map_append]; exact hN2
    clear hN2 hgr
    repeat (first | refine c_region _ ?_ | refine wpList_nil ?_ | refine c_then ?_ | ((apply st hF); (first | exact d_move | exact d_assign); clear hF; clear a; intro a hF))
    refine stc hF (named_ok v3 k (by omega)) cal58 ⟨rfl, trivial⟩ (k := fun a v v4 hR hF => ?_)
    obtain ⟨rfl, hb⟩ := hR
    replace hN := own_below hN hb
    replace hS := own_below hS hb
    replace hL := hL.below hb
    replace hX := hX.trans (hb.mono hX.size)
    repeat (((apply st hF); (exact d_move); clear hF; clear a; intro a hF))
    refine stc hF (one_ok v4 (nmB k) (k : Int) 1) cal30 ⟨rfl, rfl, rfl, trivial⟩ (k := fun a v v5 hR hF => ?_)
    obtain ⟨⟨g, rfl, rg⟩, hb⟩ := hR
    replace hN := own_below hN hb
    replace hS := own_below hS hb
    replace hL := hL.below hb
    replace hX := hX.trans (hb.mono hX.size)
    refine st_pushS hF (us := (Sig.cells (oneS (nmB k) (k : Int) 1 g)).toArray) (und _ _ rfl) inf38 rfl (by decide) (by decide) rfl (sig_cells _) hS (by omega) (by unfold maxLen; omega) hX.size (k := fun a al2 cl2 v6 hS2 hgr hat hF => ?_)
    replace hN := own_keptO hN hS (by decide) hgr
    have hL2 := (hL.push rg).row hS (fun h => (h0 h).2) (fun h => hL.head h) hgr
    replace hX := below_own hX hX.size hS hgr
    repeat (first | refine c_region _ ?_ | refine wpList_nil ?_ | refine c_then ?_ | refine c_in ?_ | ((apply st hF); (first | exact d_move | exact d_assign | exact d_add); clear hF; clear a; intro a hF))
    exact ⟨64 - (k + 1), by omega, k + 1, an2, al2, cn2, cl2, ls ++ [oneS (nmB k) (k : Int) 1 g], by omega, rfl, fun h => absurd h (Nat.succ_ne_zero k), hF.keep' ⟨rfl, rfl, rfl, trivial⟩, hN, by simpa using hS2, hL2, hX⟩
  obtain rfl : k = 64 := by omega
  clear h0 hk hlt
  obtain ⟨gn, rfl, _⟩ := own_some hN (by decide)
  obtain ⟨gl, rfl, _⟩ := own_some hS (by decide)
  have hNr : Rd v1 (some ⟨gn, 0, none⟩) .string (nmL 64) := (own_rd hN).2
  have hNc := (own_cap' hN).1
  have h64 := hL.sig64
  have hLe := hL.each
  have hP : SigsIn v1 (some ⟨gl, 0, none⟩) 64 cl (lsT ls) := lim_in hS hL.1 (by decide) fun p hp => (hLe p hp).1
  have hXb := hX.size
  have hY : Below v1.heap.size v1 v1 := Below.refl _ _
  clear hS hL
  repeat (first | refine c_seq ?_ | refine c_region _ ?_ | refine wpList_nil ?_ | refine c_then ?_ | refine c_then_exit ?_ | refine c_in_hit ?_ | refine wp_exit ?_ | ((apply st hF); (first | exact d_move | exact d_cmpF | exact d_build (vs := [(3, .string ⟨#[77]⟩), (1, .int .u32 5), (4, .int .i64 8), (5, .string ⟨#[65]⟩), (6, .slice (some ⟨gl, 0, none⟩) 64 cl)]) (cells := (Msg.cells ({ twoM (some ⟨gl, 0, none⟩) 64 cl with size := 8 })).toArray) (by kernel_rfl) ⟨rfl, rfl, rfl, rfl, rfl, rfl, rfl, rfl, rfl, rfl, trivial⟩); clear hF; clear a; intro a hF) | (apply c_cond_f hF; exact rfl; first | exact rfl | assumption))
  have hwhm := hX.size
  have hwhYhm := hY.size
  refine st_alloc hF inf27 (k := fun a v7 hg1 hgr1 hsz1 hF => ?_)
  refine st_storeAgg hF (cs := (Msg.cells ({ twoM (some ⟨gl, 0, none⟩) 64 cl with size := 8 })).toArray) (isz _ _ rfl) rfl rfl hg1 (msg_cells _) (k := fun a v8 hg2 hgr2 hsz2 hF => ?_)
  have hb2 : Below v1.heap.size v1 v8 := ((Below.refl _ v1).grown hgr1 (Nat.le_refl _) (fun k hk => by cases hk)).grown hgr2 (by omega) (fun k hk => by cases hk; exact Nat.le_refl _)
  have hm : MgAt v1.heap.size ({ twoM (some ⟨gl, 0, none⟩) 64 cl with size := 8 }) v8 := hg2
  replace hY := hY.trans (hb2.mono hY.size)
  replace hX := hX.trans (hb2.mono hX.size)
  clear hg1 hg2 hgr1 hgr2 hb2 hsz1 hsz2
  repeat (first | refine c_seq ?_ | refine c_region _ ?_ | refine wpList_nil ?_ | refine c_then ?_)
  refine stc hF (one_ok v8 ⟨#[97]⟩ 0 1) cal30 ⟨rfl, rfl, rfl, trivial⟩ (k := fun a v v9 hR hF => ?_)
  obtain ⟨⟨ga, rfl, rga⟩, hb⟩ := hR
  replace hm := hm.below hb
  replace hY := hY.trans (hb.mono hY.size)
  replace hX := hX.trans (hb.mono hX.size)
  have hohmsx := lt_at hm
  have hwsx := hX.size
  have hwhYsx := hY.size
  refine st_alloc hF inf38 (k := fun a v10 hg1 hgr1 hsz1 hF => ?_)
  refine st_storeAgg hF (cs := (Sig.cells (oneS ⟨#[97]⟩ 0 1 ga)).toArray) (isz _ _ rfl) rfl rfl hg1 (sig_cells _) (k := fun a v11 hg2 hgr2 hsz2 hF => ?_)
  have hb2 : Below v9.heap.size v9 v11 := ((Below.refl _ v9).grown hgr1 (Nat.le_refl _) (fun k hk => by cases hk)).grown hgr2 (by omega) (fun k hk => by cases hk; exact Nat.le_refl _)
  have sx : SgAt v9.heap.size (oneS ⟨#[97]⟩ 0 1 ga) v11 := hg2
  replace hm := hm.below hb2
  replace rga := rga.below hb2
  replace hY := hY.trans (hb2.mono hY.size)
  replace hX := hX.trans (hb2.mono hX.size)
  clear hg1 hg2 hgr1 hgr2 hb2 hsz1 hsz2
  clear rga
  repeat (first | refine c_seq ?_ | refine c_region _ ?_ | refine wpList_nil ?_ | refine c_then ?_ | ((apply st hF); (first | exact d_move | exact d_fieldAddr (fld _ _ _ _ rfl) (isz _ _ rfl)); clear hF; clear a; intro a hF))
  refine st_store hF (isz _ _ rfl) sx (i := 0 + 18) (by show 0 + 18 < 19; decide) rfl rfl rfl (k := fun a v12 hg hgr hsz hF => ?_)
  replace sx : SgAt v9.heap.size ({ oneS ⟨#[97]⟩ 0 1 ga with toA := some ⟨gn, 0, none⟩, toN := 64, toC := cn }) v12 := hg
  replace hm : MgAt v1.heap.size ({ twoM (some ⟨gl, 0, none⟩) 64 cl with size := 8 }) v12 := blk_kept hm hgr (by simp; omega)
  replace hY := hY.grown hgr hY.size (fun k hk => by cases hk; omega)
  replace hX := hX.grown hgr hX.size (fun k hk => by cases hk; omega)
  clear hg hgr hsz
  repeat (first | refine c_seq ?_ | refine c_region _ ?_ | refine wpList_nil ?_ | refine c_then ?_ | ((apply st hF); (exact d_loadAgg (agg _ rfl) (isz _ _ rfl) rfl (cells_at sx)); clear hF; clear a; intro a hF))
  have hosxsy := lt_at sx
  have hwsy := hX.size
  have hwhYsy := hY.size
  refine st_alloc hF inf38 (k := fun a v13 hg1 hgr1 hsz1 hF => ?_)
  refine st_storeAgg hF (cs := (Sig.cells ({ oneS ⟨#[97]⟩ 0 1 ga with toA := some ⟨gn, 0, none⟩, toN := 64, toC := cn })).toArray) (isz _ _ rfl) rfl rfl hg1 (sig_cells _) (k := fun a v14 hg2 hgr2 hsz2 hF => ?_)
  have hb2 : Below v12.heap.size v12 v14 := ((Below.refl _ v12).grown hgr1 (Nat.le_refl _) (fun k hk => by cases hk)).grown hgr2 (by omega) (fun k hk => by cases hk; exact Nat.le_refl _)
  have sy : SgAt v12.heap.size ({ oneS ⟨#[97]⟩ 0 1 ga with toA := some ⟨gn, 0, none⟩, toN := 64, toC := cn }) v14 := hg2
  replace hm := hm.below hb2
  replace sx := sx.below hb2
  replace hY := hY.trans (hb2.mono hY.size)
  replace hX := hX.trans (hb2.mono hX.size)
  clear hg1 hg2 hgr1 hgr2 hb2 hsz1 hsz2
  repeat (first | refine c_seq ?_ | refine c_region _ ?_ | refine wpList_nil ?_ | refine c_then ?_ | ((apply st hF); (exact d_move); clear hF; clear a; intro a hF))
  have hoz := lt_at sy
  refine stc hF (copy_texts v14 (nmL 64) (some ⟨gn, 0, none⟩) 64 cn (nmL_len 64) (hNr.below hY) (by decide)) cal59 ⟨rfl, trivial⟩ (k := fun a v v15 hR hF => ?_)
  obtain ⟨ac, cc, rfl, hC, hZ⟩ := hR
  replace hC : v15.ownsRow v14.heap.size 9 1 (.slice ac 64 cc) 64 ((nmL 64).map Value.string) := hC
  refine st_push hF (u := .string ⟨#[122, 122]⟩) (und _ _ rfl) inf9 rfl hC (by omega) (by unfold maxLen; omega) hZ.size (k := fun a ao2 cy v16 hO hgr hF => ?_)
  replace hZ := below_own hZ hZ.size hC hgr
  obtain ⟨gy, rfl, _⟩ := own_some hO (by decide)
  have hRy : Rd v16 (some ⟨gy, 0, none⟩) .string (nmL 64 ++ [ZZ]) := (own_rd (by rw [List.map_append]; exact hO)).2
  have hyc := (own_cap' hO).1
  replace hm := hm.below hZ
  replace sx := sx.below hZ
  replace sy := sy.below hZ
  replace hY := hY.trans (hZ.mono hY.size)
  replace hX := hX.trans (hZ.mono hX.size)
  clear hC hO hgr hZ
  repeat (((apply st hF); (exact d_fieldAddr (fld _ _ _ _ rfl) (isz _ _ rfl)); clear hF; clear a; intro a hF))
  refine st_store hF (isz _ _ rfl) sy (i := 0 + 18) (by show 0 + 18 < 19; decide) rfl rfl rfl (k := fun a v17 hg hgr hsz hF => ?_)
  replace hRy : Rd v17 (some ⟨gy, 0, none⟩) .string (nmL 64 ++ [ZZ]) := rd_far hRy 0 (by simp) (by rw [Nat.zero_add]; exact cell_at sy rfl) (fun e => by cases e) hgr
  replace sy : SgAt v12.heap.size ({ oneS ⟨#[97]⟩ 0 1 ga with toA := some ⟨gy, 0, none⟩, toN := 65, toC := cy }) v17 := hg
  replace hm : MgAt v1.heap.size ({ twoM (some ⟨gl, 0, none⟩) 64 cl with size := 8 }) v17 := blk_kept hm hgr (by simp; omega)
  replace sx : SgAt v9.heap.size ({ oneS ⟨#[97]⟩ 0 1 ga with toA := some ⟨gn, 0, none⟩, toN := 64, toC := cn }) v17 := blk_kept sx hgr (by simp; omega)
  replace hY := hY.grown hgr hY.size (fun k hk => by cases hk; omega)
  replace hX := hX.grown hgr hX.size (fun k hk => by cases hk; omega)
  clear hg hgr hsz
  have rdy := hRy
  clear hRy
  repeat (first | refine c_seq ?_ | refine c_region _ ?_ | refine wpList_nil ?_ | refine c_then ?_ | ((apply st hF); (exact d_loadAgg (agg _ rfl) (isz _ _ rfl) rfl (cells_at hm)); clear hF; clear a; intro a hF))
  have hosyhbig := lt_at sy
  have hwhbig := hX.size
  have hwhYhbig := hY.size
  refine st_alloc hF inf27 (k := fun a v18 hg1 hgr1 hsz1 hF => ?_)
  refine st_storeAgg hF (cs := (Msg.cells ({ twoM (some ⟨gl, 0, none⟩) 64 cl with size := 8 })).toArray) (isz _ _ rfl) rfl rfl hg1 (msg_cells _) (k := fun a v19 hg2 hgr2 hsz2 hF => ?_)
  have hb2 : Below v17.heap.size v17 v19 := ((Below.refl _ v17).grown hgr1 (Nat.le_refl _) (fun k hk => by cases hk)).grown hgr2 (by omega) (fun k hk => by cases hk; exact Nat.le_refl _)
  have hbig : MgAt v17.heap.size ({ twoM (some ⟨gl, 0, none⟩) 64 cl with size := 8 }) v19 := hg2
  replace hm := hm.below hb2
  replace sx := sx.below hb2
  replace sy := sy.below hb2
  replace rdy := rdy.below hb2
  replace hY := hY.trans (hb2.mono hY.size)
  replace hX := hX.trans (hb2.mono hX.size)
  clear hg1 hg2 hgr1 hgr2 hb2 hsz1 hsz2
  repeat (first | refine c_seq ?_ | refine c_region _ ?_ | refine wpList_nil ?_ | refine c_then ?_ | ((apply st hF); (exact d_move); clear hF; clear a; intro a hF))
  have hoz2 := lt_at hbig
  refine stc hF (copy_signals v19 (lsT ls) (some ⟨gl, 0, none⟩) 64 cl (SigsIn.below hP hY)) cal36 ⟨rfl, trivial⟩ (k := fun a v v20 hR hF => ?_)
  obtain ⟨al2, cl2, lc, rfl, hC, hZ⟩ := hR
  refine stc hF (one_ok v20 ⟨#[122, 122]⟩ 0 1) cal30 ⟨rfl, rfl, rfl, trivial⟩ (k := fun a v v21 hR hF => ?_)
  obtain ⟨⟨gz, rfl, rz⟩, hb⟩ := hR
  replace hC := hC.below hb
  replace hZ := hZ.trans (hb.mono hZ.size)
  have hCe := hC.ok
  have hC2 : v21.ownsRow v19.heap.size 38 19 (.slice al2 64 cl2) 64 (lc.flatMap Sig.cells) := by have := hC.own; rw [h64.len] at this; exact this
  refine st_pushS hF (us := (Sig.cells (oneS ⟨#[122, 122]⟩ 0 1 gz)).toArray) (und _ _ rfl) inf38 rfl (by decide) (by decide) rfl (sig_cells _) hC2 (by omega) (by unfold maxLen; omega) hZ.size (k := fun a al3 cl3 v22 hS3 hgr hat hF => ?_)
  obtain ⟨gb, rfl, _⟩ := own_some hS3 (by decide)
  have rz3 := rd_keptR rz hC2 (fun h => by cases h) (fun _ => copy_head (hC.len.trans h64.len)) (by decide) hgr
  have hCe3 := fun i (hi : i < 64) => (hCe i (by rw [h64.len]; exact hi)).keptO hC2 (by decide) hgr
  replace hZ := below_own hZ hZ.size hC2 hgr
  replace hm := hm.below hZ
  replace sx := sx.below hZ
  replace sy := sy.below hZ
  replace hbig := hbig.below hZ
  replace rdy := rdy.below hZ
  replace hY := hY.trans (hZ.mono hY.size)
  replace hX := hX.trans (hZ.mono hX.size)
  have hlc := hC.len.trans h64.len
  clear hC hC2 hCe hgr hat rz hZ hb
  repeat (((apply st hF); (exact d_fieldAddr (fld _ _ _ _ rfl) (isz _ _ rfl)); clear hF; clear a; intro a hF))
  refine st_store hF (isz _ _ rfl) hbig (i := 0 + 7) (by show 0 + 7 < 8; decide) rfl rfl rfl (k := fun a v23 hg hgr hsz hF => ?_)
  replace hS3 := own_keptT hS3 hbig (by decide) hgr
  replace rz3 := rd_keptM rz3 hbig hgr
  replace hCe3 := fun i (hi : i < 64) => (hCe3 i hi).keptB hgr hoz2
  have hbe := big_each hCe3 hLe rz3 hlc
  have hbig1 : SigsIn v23 (some ⟨gb, 0, none⟩) 65 cl3 (lsT (lc ++ [oneS ⟨#[122, 122]⟩ 0 1 gz])) := lim_in (base := v19.heap.size) (by simpa using hS3) (by simp [hlc]) (by decide) (fun p hp => (hbe p hp).1)
  have hbigB : ∀ p ∈ lsT (lc ++ [oneS ⟨#[122, 122]⟩ 0 1 gz]), SigB p.1 := fun p hp => (hbe p hp).2
  clear hS3 rz3 hCe3 hbe
  replace rdy := rd_keptM rdy hbig hgr (by simp)
  replace hbig : MgAt v17.heap.size ({ twoM (some ⟨gb, 0, none⟩) 65 cl3 with size := 8 }) v23 := hg
  replace hm : MgAt v1.heap.size ({ twoM (some ⟨gl, 0, none⟩) 64 cl with size := 8 }) v23 := blk_kept hm hgr (by simp; omega)
  replace sx : SgAt v9.heap.size ({ oneS ⟨#[97]⟩ 0 1 ga with toA := some ⟨gn, 0, none⟩, toN := 64, toC := cn }) v23 := blk_kept sx hgr (by simp; omega)
  replace sy : SgAt v12.heap.size ({ oneS ⟨#[97]⟩ 0 1 ga with toA := some ⟨gy, 0, none⟩, toN := 65, toC := cy }) v23 := blk_kept sy hgr (by simp; omega)
  replace hY := hY.grown hgr hY.size (fun k hk => by cases hk; omega)
  replace hX := hX.grown hgr hX.size (fun k hk => by cases hk; omega)
  clear hg hgr hsz
  have hV : Below v23.heap.size v23 v23 := Below.refl _ _
  repeat (first | refine c_seq ?_ | refine c_region _ ?_ | refine wpList_nil ?_ | refine c_then ?_ | ((apply st hF); (first | exact d_move | exact d_build (vs := [(1, .slice (some ⟨gn, 0, none⟩) 64 cn)]) (cells := #[.int .i64 0, .int .i64 0, .slice (some ⟨gn, 0, none⟩) 64 cn]) (by kernel_rfl) ⟨rfl, rfl, trivial⟩ | exact d_build (vs := [(2, .agg #[.int .i64 0, .int .i64 0, .slice (some ⟨gn, 0, none⟩) 64 cn])]) (cells := (Db.cells (dbL gn 64 cn none 0 0 none 0 0)).toArray) (by kernel_rfl) ⟨rfl, rfl, trivial⟩); clear hF; clear a; intro a hF))
  have hohbighd := lt_at hbig
  have hwhd := hX.size
  have hwhYhd := hY.size
  have hwhVhd := hV.size
  refine st_alloc hF inf62 (k := fun a v24 hg1 hgr1 hsz1 hF => ?_)
  refine st_storeAgg hF (cs := (Db.cells (dbL gn 64 cn none 0 0 none 0 0)).toArray) (isz _ _ rfl) rfl rfl hg1 (db_cells _) (k := fun a v25 hg2 hgr2 hsz2 hF => ?_)
  have hb2 : Below v23.heap.size v23 v25 := ((Below.refl _ v23).grown hgr1 (Nat.le_refl _) (fun k hk => by cases hk)).grown hgr2 (by omega) (fun k hk => by cases hk; exact Nat.le_refl _)
  have hd : DgAt v23.heap.size (dbL gn 64 cn none 0 0 none 0 0) v25 := hg2
  replace hm := hm.below hb2
  replace sx := sx.below hb2
  replace sy := sy.below hb2
  replace hbig := hbig.below hb2
  replace rdy := rdy.below hb2
  replace hY := hY.trans (hb2.mono hY.size)
  replace hV := hV.trans (hb2.mono hV.size)
  replace hX := hX.trans (hb2.mono hX.size)
  clear hg1 hg2 hgr1 hgr2 hb2 hsz1 hsz2
  repeat (first | refine c_seq ?_ | refine c_region _ ?_ | refine wpList_nil ?_ | refine c_then ?_ | ((apply st hF); (exact d_loadAgg (agg _ rfl) (isz _ _ rfl) rfl (cells_at hm)); clear hF; clear a; intro a hF))
  refine stc hF (cmsg_0 v25 ({ twoM (some ⟨gl, 0, none⟩) 64 cl with size := 8 }) (lsT ls) (SigsIn.below hP hY) (fun p hp => (hLe p hp).2) (hT.below hX) none (msg64 (by kernel_rfl) rfl h64)) cal10 ⟨rfl, trivial⟩ (k := fun a v v26 hR hF => ?_)
  obtain ⟨rfl, hb⟩ := hR
  replace hm := hm.below hb
  replace sx := sx.below hb
  replace sy := sy.below hb
  replace hbig := hbig.below hb
  replace hd := hd.below hb
  replace rdy := rdy.below hb
  replace hY := hY.trans (hb.mono hY.size)
  replace hV := hV.trans (hb.mono hV.size)
  replace hX := hX.trans (hb.mono hX.size)
  repeat (((first | apply st hF | apply stg hF); (first | exact d_move | exact d_neN (ifc _ rfl) | exact d_loadAgg (agg _ rfl) (isz _ _ rfl) rfl (cells_at sx)); clear hF; clear a; intro a hF))
  refine stcg hF (csig_0 v26 ({ oneS ⟨#[97]⟩ 0 1 ga with toA := some ⟨gn, 0, none⟩, toN := 64, toC := cn }) (nmL 64) 1 ⟨nmL_len 64, hNr.below hY, hNc, by show 64 * 16 ≤ 140737488351232; decide⟩ (by constructor <;> (dsimp only [oneS]; omega)) (hT.below hX) ((alone_C 0 textE_empty).trans (by unfold aloneC; rw [nm64_names]; kernel_rfl))) cal18 ⟨rfl, rfl, trivial⟩ (k := fun a v v27 hR hF => ?_)
  obtain ⟨rfl, hb⟩ := hR
  replace hm := hm.below hb
  replace sx := sx.below hb
  replace sy := sy.below hb
  replace hbig := hbig.below hb
  replace hd := hd.below hb
  replace rdy := rdy.below hb
  replace hY := hY.trans (hb.mono hY.size)
  replace hV := hV.trans (hb.mono hV.size)
  replace hX := hX.trans (hb.mono hX.size)
  repeat (((first | apply st hF | apply stg hF); (first | exact d_move | exact d_pickF | exact d_neN (ifc _ rfl) | exact d_loadAgg (agg _ rfl) (isz _ _ rfl) rfl (cells_at sy)); clear hF; clear a; intro a hF))
  refine stcg hF (csig_k v27 ({ oneS ⟨#[97]⟩ 0 1 ga with toA := some ⟨gy, 0, none⟩, toN := 65, toC := cy }) (nmL 64 ++ [ZZ]) 1 5 ⟨by simp [nmL], rdy, hyc, by show 65 * 16 ≤ 140737488351232; decide⟩ (by constructor <;> (dsimp only [oneS]; omega)) (hT.below hX) ((alone_C 0 textE_empty).trans (by unfold aloneC; rw [nm65]; kernel_rfl)) (by decide)) cal18 ⟨rfl, rfl, trivial⟩ (k := fun a v v28 hR hF => ?_)
  obtain ⟨rfl, hb⟩ := hR
  replace hm := hm.below hb
  replace sx := sx.below hb
  replace sy := sy.below hb
  replace hbig := hbig.below hb
  replace hd := hd.below hb
  replace rdy := rdy.below hb
  replace hY := hY.trans (hb.mono hY.size)
  replace hV := hV.trans (hb.mono hV.size)
  replace hX := hX.trans (hb.mono hX.size)
  refine stcg hF (no_is v28 5 0 0 (by decide) (by decide)) cal57 ⟨rfl, rfl, trivial⟩ (k := fun a v v29 hR hF => ?_)
  obtain ⟨rfl, hb⟩ := hR
  replace hm := hm.below hb
  replace sx := sx.below hb
  replace sy := sy.below hb
  replace hbig := hbig.below hb
  replace hd := hd.below hb
  replace rdy := rdy.below hb
  replace hY := hY.trans (hb.mono hY.size)
  replace hV := hV.trans (hb.mono hV.size)
  replace hX := hX.trans (hb.mono hX.size)
  repeat (((first | apply st hF | apply stg hF); (first | exact d_move | exact d_not | exact d_pickF | exact d_loadAgg (agg _ rfl) (isz _ _ rfl) rfl (cells_at hbig)); clear hF; clear a; intro a hF))
  refine stcg hF (cmsg_k v29 ({ twoM (some ⟨gb, 0, none⟩) 65 cl3 with size := 8 }) _ (SigsIn.below hbig1 hV) hbigB (hT.below hX) 5 none (big_bad rfl) (by decide)) cal10 ⟨rfl, trivial⟩ (k := fun a v v30 hR hF => ?_)
  obtain ⟨rfl, hb⟩ := hR
  replace hm := hm.below hb
  replace sx := sx.below hb
  replace sy := sy.below hb
  replace hbig := hbig.below hb
  replace hd := hd.below hb
  replace rdy := rdy.below hb
  replace hY := hY.trans (hb.mono hY.size)
  replace hV := hV.trans (hb.mono hV.size)
  replace hX := hX.trans (hb.mono hX.size)
  refine stcg hF (no_is v30 5 0 0 (by decide) (by decide)) cal57 ⟨rfl, rfl, trivial⟩ (k := fun a v v31 hR hF => ?_)
  obtain ⟨rfl, hb⟩ := hR
  replace hm := hm.below hb
  replace sx := sx.below hb
  replace sy := sy.below hb
  replace hbig := hbig.below hb
  replace hd := hd.below hb
  replace rdy := rdy.below hb
  replace hY := hY.trans (hb.mono hY.size)
  replace hV := hV.trans (hb.mono hV.size)
  replace hX := hX.trans (hb.mono hX.size)
  repeat (((first | apply st hF | apply stg hF); (first | exact d_move | exact d_not | exact d_pickF | exact d_loadAgg (agg _ rfl) (isz _ _ rfl) rfl (cells_at hd)); clear hF; clear a; intro a hF))
  refine stcg hF (cdb_0 v31 (dbL gn 64 cn none 0 0 none 0 0) (nmL 64) [] [] (lim_db (nmL_len 64) (by decide) hNc (hNr.below hY) (msgs_nil _) (tabs_nil _)) (hT.below hX) (db_nm64 rfl)) cal21 ⟨rfl, trivial⟩ (k := fun a v v32 hR hF => ?_)
  obtain ⟨rfl, hb⟩ := hR
  replace hm := hm.below hb
  replace sx := sx.below hb
  replace sy := sy.below hb
  replace hbig := hbig.below hb
  replace hd := hd.below hb
  replace rdy := rdy.below hb
  replace hY := hY.trans (hb.mono hY.size)
  replace hV := hV.trans (hb.mono hV.size)
  replace hX := hX.trans (hb.mono hX.size)
  have c6 : v32.cell? ⟨v23.heap.size, 0 + 6, none⟩ = some (.slice (some ⟨gn, 0, none⟩) 64 cn) := hd.c 6 _ rfl
  repeat (first | refine c_seq ?_ | refine c_region _ ?_ | refine wpList_nil ?_ | refine c_then ?_ | refine wp_skip ?_ | ((first | apply st hF | apply stg hF); (first | exact d_pickF | exact d_fieldAddr (fld _ _ _ _ rfl) (isz _ _ rfl) | exact d_neN (ifc _ rfl) | exact d_load (und _ _ rfl) c6); clear hF; clear a; intro a hF) | (apply c_cond_f hF; exact rfl; first | exact rfl | assumption))
  have hN1 := own_below hN hY
  refine st_push hF (u := .string ⟨#[122, 122]⟩) (und _ _ rfl) inf9 rfl hN1 (by omega) (by unfold maxLen; omega) hX.size (k := fun a ao2 c5 v33 hO hgr hF => ?_)
  obtain ⟨g5, rfl, _⟩ := own_some hO (by decide)
  replace hd : DgAt v23.heap.size (dbL gn 64 cn none 0 0 none 0 0) v33 := blk_kept hd hgr (own_ne hN1 hd (by decide))
  replace hX := below_own hX hX.size hN1 hgr
  have r5 : Rd v33 (some ⟨g5, 0, none⟩) .string (nmL 64 ++ [ZZ]) := (own_rd (by rw [List.map_append]; exact hO)).2
  have h5c := (own_cap' hO).1
  have hdb := lt_at hd
  have hYb := hY.size
  clear hN hN1 hO hgr c6 hP h64 hLe hNr hm sx sy hbig hbig1 hbigB rdy hV hNc hyc
  repeat (((apply st hF); (exact d_fieldAddr (fld _ _ _ _ rfl) (isz _ _ rfl)); clear hF; clear a; intro a hF))
  have hYs := hY.size
  clear hY
  refine st_store hF (isz _ _ rfl) hd (i := 0 + 6) (by show 0 + 6 < 9; decide) rfl rfl rfl (k := fun a v34 hg hgr hsz hF => ?_)
  replace r5 := rd_keptDS r5 hd hgr (by simp)
  replace hd : DgAt v23.heap.size (dbL g5 65 c5 none 0 0 none 0 0) v34 := hg
  replace hX := hX.grown hgr hX.size (fun k hk => by cases hk; omega)
  clear hg hgr hsz
  repeat (first | refine c_seq ?_ | refine c_region _ ?_ | refine wpList_nil ?_ | refine c_then ?_ | ((apply st hF); (exact d_loadAgg (agg _ rfl) (isz _ _ rfl) rfl (cells_at hd)); clear hF; clear a; intro a hF))
  refine stc hF (cdb_k v34 (dbL g5 65 c5 none 0 0 none 0 0) (nmL 64 ++ [ZZ]) [] [] (lim_db (by simp [nmL]) (by decide) h5c r5 (msgs_nil _) (tabs_nil _)) (hT.below hX) 5 0 0 (db_nm65 rfl (by simp [nmL])) (by decide)) cal21 ⟨rfl, trivial⟩ (k := fun a v v35 hR hF => ?_)
  obtain ⟨rfl, hb⟩ := hR
  replace hd := hd.below hb
  replace r5 := r5.below hb
  replace hX := hX.trans (hb.mono hX.size)
  refine stc hF (no_is v35 5 0 0 (by decide) (by decide)) cal57 ⟨rfl, rfl, trivial⟩ (k := fun a v v36 hR hF => ?_)
  obtain ⟨rfl, hb⟩ := hR
  replace hd := hd.below hb
  replace r5 := r5.below hb
  replace hX := hX.trans (hb.mono hX.size)
  repeat (first | refine c_seq ?_ | refine c_region _ ?_ | refine wpList_nil ?_ | refine c_then ?_ | refine wp_skip ?_ | ((apply st hF); (exact d_not); clear hF; clear a; intro a hF) | (apply c_cond_f hF; exact rfl; first | exact rfl | assumption))
  clear r5
  refine st hF (d_buildS (z := .string ⟨#[]⟩) (by_ := 16) (und _ _ rfl) inf9 rfl (by decide) (by decide) (vs := [(0, .string ⟨#[65]⟩)]) (cells := #[.string ⟨#[65]⟩]) (by kernel_rfl) ⟨rfl, rfl, trivial⟩) rfl (fun a hF => ?_)
  have hb := below_alloc v36 (.cells #[.string ⟨#[65]⟩] 9)
  have hA : BkAt v36.heap.size [Value.string ⟨#[65]⟩] 9 _ := heap_alloc_new v36 (.cells #[.string ⟨#[65]⟩] 9)
  generalize v36.alloc _ = v37 at *
  have hoA := lt_at hd
  replace hd := hd.below hb
  replace hX := hX.trans (hb.mono hX.size)
  repeat (((apply st hF); (exact d_fieldAddr (fld _ _ _ _ rfl) (isz _ _ rfl)); clear hF; clear a; intro a hF))
  refine st_store hF (isz _ _ rfl) hd (i := 0 + 6) (by show 0 + 6 < 9; decide) rfl rfl rfl (k := fun a v38 hg hgr hsz hF => ?_)
  replace hA : BkAt v36.heap.size [Value.string ⟨#[65]⟩] 9 v38 := blk_kept hA hgr (by simp; omega)
  replace hd : DgAt v23.heap.size (dbL (v36.heap.size) 1 1 none 0 0 none 0 0) v38 := hg
  replace hX := hX.grown hgr hX.size (fun k hk => by cases hk; omega)
  clear hg hgr hsz
  repeat (first | refine c_seq ?_ | refine c_block ?_ | refine c_region _ ?_ | refine wpList_nil ?_ | refine c_then ?_ | ((apply st hF); (exact d_assign); clear hF; clear a; intro a hF))
  refine c_loop (fun q a wr => ∃ (k : Nat) (am : Option Addr) (cm : Nat), k ≤ 513 ∧ q = 513 - k ∧ Fr 157 [(8, .pointer (some ⟨v23.heap.size, 0, none⟩)), (9, .int .i64 (k : Nat))] a ∧ DgAt v23.heap.size (dbL (v36.heap.size) 1 1 am k cm none 0 0) wr ∧ BkAt v36.heap.size [Value.string ⟨#[65]⟩] 9 wr ∧ wr.ownsRow w.heap.size 27 8 (.slice am k cm) k ((mgX k).flatMap Msg.cells) ∧ Below w.heap.size w wr) 513
    ⟨0, none, 0, Nat.zero_le _, rfl, hF.keep' ⟨rfl, rfl, trivial⟩, hd, hA, World.ownsRow_nil _ _ _ _, hX⟩ ?_
  clear hF a hd hA hX
  rintro q a v39 ⟨k, am, cm, hk, rfl, hF, hd, hA, hM, hX⟩
  by_cases hlt : k < 513
  case pos =>
    repeat (first | (refine c_region_tree (fun _ => True) (.read 0 (.read 2 (.read 4 (.read 5 (.read 6 (.read 7 (.two 1 3 (.sole 3 (.read 8 (.sole 9 (.sole 10 (.read 11 (.sole 12 .done)))))) (.read 8 (.two 1 9 (.sole 9 (.sole 10 (.read 11 (.sole 12 .done)))) (.sole 1 (.sole 10 (.read 11 (.sole 12 .done))))))))))))) 25 mixed (by kernel_rfl) trivial ?_) | refine c_seq ?_ | refine c_block ?_ | refine c_region _ ?_ | refine wpList_nil ?_ | refine c_then ?_ | refine wp_skip ?_ | ((apply st hF); (first | exact d_move | exact d_cmpT); clear hF; clear a; intro a hF) | (apply c_cond_t hF; exact rfl; first | exact rfl | assumption))
    have hdb : Below v39.heap.size v39 (v39.drewN 1) := below_more (Below.refl _ v39) 1
    generalize v39.drewN 1 = v40 at *
    replace hd := hd.below hdb
    replace hA := hA.below hdb
    replace hM := own_below hM hdb
    replace hX := hX.trans (hdb.mono hX.size)
    refine r_read hF rfl (fun wq _ => d_fieldAddr (fld _ _ _ _ rfl) (isz _ _ rfl)) rfl (fun a hF => ?_)
    refine r_read hF rfl (fun wq _ => d_move) rfl (fun a hF => ?_)
    refine r_read hF rfl (fun wq _ => d_move) rfl (fun a hF => ?_)
    refine r_read hF rfl (fun wq _ => d_convI (und _ _ rfl) (und _ _ rfl)) rfl (fun a hF => ?_)
    refine r_read hF rfl (fun wq _ => d_move) rfl (fun a hF => ?_)
    refine r_read hF rfl (fun wq _ => d_build (vs := [(0, .int .i64 (k : Nat)), (1, .int .i64 3)]) (cells := #[.int .i64 (k : Nat), .int .i64 3]) (by kernel_rfl) ⟨rfl, rfl, rfl, rfl, trivial⟩) rfl (fun a hF => ?_)
    refine r_two rfl rfl ?_ ?_
    · have hid0 := 0
      refine st hF (d_load (und _ _ rfl) (hd.c 7 _ rfl)) rfl (fun a hF => wpList_nil ⟨rfl, trivial, ?_⟩)
      refine r_sole rfl ?_
      refine stc hF (named_ok v40 k (by omega)) cal58 ⟨rfl, trivial⟩ (k := fun a v v41 hR hF => ?_)
      obtain ⟨rfl, hb⟩ := hR
      replace hd := hd.below hb
      replace hA := hA.below hb
      replace hM := own_below hM hb
      replace hX := hX.trans (hb.mono hX.size)
      refine wpList_nil ⟨rfl, trivial, ?_⟩
      refine r_read hF rfl (fun wq _ => d_build (vs := [(3, .string (nmB k)), (1, .int .u32 (IntKind.u32.wrap (k : Nat))), (5, .string ⟨#[65]⟩), (0, .agg #[.int .i64 (k : Nat), .int .i64 3])]) (cells := (Msg.cells { mgL k with id := IntKind.u32.wrap (k : Nat) }).toArray) (by kernel_rfl) ⟨rfl, rfl, rfl, rfl, rfl, rfl, rfl, rfl, trivial⟩) rfl (fun a hF => ?_)
      rw [u32_small hlt] at hF
      refine r_sole rfl ?_
      refine st hF (d_buildSS [(Msg.cells (mgL k)).toArray] (und _ _ rfl) inf27 (by decide) (by decide) (by decide) rfl (by simp [Msg.cells]) ⟨rfl, rfl, trivial⟩) rfl (fun a hF => wpList_nil ⟨rfl, trivial, ?_⟩)
      have hb := below_alloc v41 (.cells (([(Msg.cells (mgL k)).toArray]).flatMap fun u => u.toList).toArray 27)
      have l2 : BkAt v41.heap.size ([mgL k].flatMap Msg.cells) 27 _ := bk_alloc v41 Msg.cells [mgL k] 27 (([(Msg.cells (mgL k)).toArray]).flatMap fun u => u.toList).toArray (by simp)
      generalize v41.alloc _ = v42 at *
      replace hd := hd.below hb
      replace hA := hA.below hb
      replace hM := own_below hM hb
      replace hX := hX.trans (hb.mono hX.size)
      refine r_sole rfl ?_
      refine st_appendS (m := 1) (n := k) (ys := [mgL k]) (enc := Msg.cells) hF msgc_len (by decide) (und _ _ rfl) inf27 rfl hM rfl (l2.rdS (enc := Msg.cells) (xs := [mgL k]) msgc_len (by simp)) (fun y v hv => msg_cells y v (by simpa using hv)) (by omega) (by unfold maxLen; omega) hX.size (k := fun a am2 cm2 v43 hO hgr hF => wpList_nil ⟨rfl, trivial, ?_⟩)
      replace hO : v43.ownsRow w.heap.size 27 8 (.slice am2 (k + 1) cm2) (k + 1) ((mgX (k + 1)).flatMap Msg.cells) := by rw [mgX_succ, List.flatMap_append]; exact hO
      replace hd : DgAt v23.heap.size (dbL (v36.heap.size) 1 1 am k cm none 0 0) v43 := blk_kept hd hgr (own_ne hM hd (by decide))
      replace hA : BkAt v36.heap.size [Value.string ⟨#[65]⟩] 9 v43 := blk_kept hA hgr (own_ne hM hA (by decide))
      replace hX := below_own hX hX.size hM hgr
      refine r_read hF rfl (fun wq _ => d_fieldAddr (fld _ _ _ _ rfl) (isz _ _ rfl)) rfl (fun a hF => ?_)
      refine r_sole rfl ?_
      refine st_store hF (isz _ _ rfl) hd (i := 0 + 7) (by show 0 + 7 < 9; decide) rfl rfl rfl (k := fun a v44 hg hgr2 hsz hF => wpList_nil ⟨rfl, trivial, ?_⟩)
      refine r_done ?_
      replace hA : BkAt v36.heap.size [Value.string ⟨#[65]⟩] 9 v44 := blk_kept hA hgr2 (by simp; omega)
      replace hO := own_keptT hO hd (by decide) hgr2
      replace hd : DgAt v23.heap.size (dbL (v36.heap.size) 1 1 am2 (k + 1) cm2 none 0 0) v44 := hg
      replace hX := hX.grown hgr2 hX.size (fun k hk => by cases hk; omega)
      repeat (first | refine c_region _ ?_ | refine wpList_nil ?_ | refine c_then ?_ | refine c_in ?_ | ((apply st hF); (first | exact d_move | exact d_assign | exact d_add); clear hF; clear a; intro a hF))
      exact ⟨513 - (k + 1), by omega, k + 1, am2, cm2, by omega, rfl, hF.keep' ⟨rfl, rfl, trivial⟩, hd, hA, hO, hX⟩
    · have hid0 := 0
      refine stc hF (named_ok v40 k (by omega)) cal58 ⟨rfl, trivial⟩ (k := fun a v v45 hR hF => ?_)
      obtain ⟨rfl, hb⟩ := hR
      replace hd := hd.below hb
      replace hA := hA.below hb
      replace hM := own_below hM hb
      replace hX := hX.trans (hb.mono hX.size)
      refine wpList_nil ⟨rfl, trivial, ?_⟩
      refine r_read hF rfl (fun wq _ => d_build (vs := [(3, .string (nmB k)), (1, .int .u32 (IntKind.u32.wrap (k : Nat))), (5, .string ⟨#[65]⟩), (0, .agg #[.int .i64 (k : Nat), .int .i64 3])]) (cells := (Msg.cells { mgL k with id := IntKind.u32.wrap (k : Nat) }).toArray) (by kernel_rfl) ⟨rfl, rfl, rfl, rfl, rfl, rfl, rfl, rfl, trivial⟩) rfl (fun a hF => ?_)
      rw [u32_small hlt] at hF
      refine r_two rfl rfl ?_ ?_
      · have hid1 := 0
        refine st hF (d_load (und _ _ rfl) (hd.c 7 _ rfl)) rfl (fun a hF => wpList_nil ⟨rfl, trivial, ?_⟩)
        refine r_sole rfl ?_
        refine st hF (d_buildSS [(Msg.cells (mgL k)).toArray] (und _ _ rfl) inf27 (by decide) (by decide) (by decide) rfl (by simp [Msg.cells]) ⟨rfl, rfl, trivial⟩) rfl (fun a hF => wpList_nil ⟨rfl, trivial, ?_⟩)
        have hb := below_alloc v45 (.cells (([(Msg.cells (mgL k)).toArray]).flatMap fun u => u.toList).toArray 27)
        have l2 : BkAt v45.heap.size ([mgL k].flatMap Msg.cells) 27 _ := bk_alloc v45 Msg.cells [mgL k] 27 (([(Msg.cells (mgL k)).toArray]).flatMap fun u => u.toList).toArray (by simp)
        generalize v45.alloc _ = v46 at *
        replace hd := hd.below hb
        replace hA := hA.below hb
        replace hM := own_below hM hb
        replace hX := hX.trans (hb.mono hX.size)
        refine r_sole rfl ?_
        refine st_appendS (m := 1) (n := k) (ys := [mgL k]) (enc := Msg.cells) hF msgc_len (by decide) (und _ _ rfl) inf27 rfl hM rfl (l2.rdS (enc := Msg.cells) (xs := [mgL k]) msgc_len (by simp)) (fun y v hv => msg_cells y v (by simpa using hv)) (by omega) (by unfold maxLen; omega) hX.size (k := fun a am2 cm2 v47 hO hgr hF => wpList_nil ⟨rfl, trivial, ?_⟩)
        replace hO : v47.ownsRow w.heap.size 27 8 (.slice am2 (k + 1) cm2) (k + 1) ((mgX (k + 1)).flatMap Msg.cells) := by rw [mgX_succ, List.flatMap_append]; exact hO
        replace hd : DgAt v23.heap.size (dbL (v36.heap.size) 1 1 am k cm none 0 0) v47 := blk_kept hd hgr (own_ne hM hd (by decide))
        replace hA : BkAt v36.heap.size [Value.string ⟨#[65]⟩] 9 v47 := blk_kept hA hgr (own_ne hM hA (by decide))
        replace hX := below_own hX hX.size hM hgr
        refine r_read hF rfl (fun wq _ => d_fieldAddr (fld _ _ _ _ rfl) (isz _ _ rfl)) rfl (fun a hF => ?_)
        refine r_sole rfl ?_
        refine st_store hF (isz _ _ rfl) hd (i := 0 + 7) (by show 0 + 7 < 9; decide) rfl rfl rfl (k := fun a v48 hg hgr2 hsz hF => wpList_nil ⟨rfl, trivial, ?_⟩)
        refine r_done ?_
        replace hA : BkAt v36.heap.size [Value.string ⟨#[65]⟩] 9 v48 := blk_kept hA hgr2 (by simp; omega)
        replace hO := own_keptT hO hd (by decide) hgr2
        replace hd : DgAt v23.heap.size (dbL (v36.heap.size) 1 1 am2 (k + 1) cm2 none 0 0) v48 := hg
        replace hX := hX.grown hgr2 hX.size (fun k hk => by cases hk; omega)
        repeat (first | refine c_region _ ?_ | refine wpList_nil ?_ | refine c_then ?_ | refine c_in ?_ | ((apply st hF); (first | exact d_move | exact d_assign | exact d_add); clear hF; clear a; intro a hF))
        exact ⟨513 - (k + 1), by omega, k + 1, am2, cm2, by omega, rfl, hF.keep' ⟨rfl, rfl, trivial⟩, hd, hA, hO, hX⟩
      · have hid1 := 0
        refine st hF (d_buildSS [(Msg.cells (mgL k)).toArray] (und _ _ rfl) inf27 (by decide) (by decide) (by decide) rfl (by simp [Msg.cells]) ⟨rfl, rfl, trivial⟩) rfl (fun a hF => wpList_nil ⟨rfl, trivial, ?_⟩)
        have hb := below_alloc v45 (.cells (([(Msg.cells (mgL k)).toArray]).flatMap fun u => u.toList).toArray 27)
        have l2 : BkAt v45.heap.size ([mgL k].flatMap Msg.cells) 27 _ := bk_alloc v45 Msg.cells [mgL k] 27 (([(Msg.cells (mgL k)).toArray]).flatMap fun u => u.toList).toArray (by simp)
        generalize v45.alloc _ = v49 at *
        replace hd := hd.below hb
        replace hA := hA.below hb
        replace hM := own_below hM hb
        replace hX := hX.trans (hb.mono hX.size)
        refine r_sole rfl ?_
        refine st hF (d_load (und _ _ rfl) (hd.c 7 _ rfl)) rfl (fun a hF => wpList_nil ⟨rfl, trivial, ?_⟩)
        refine r_sole rfl ?_
        refine st_appendS (m := 1) (n := k) (ys := [mgL k]) (enc := Msg.cells) hF msgc_len (by decide) (und _ _ rfl) inf27 rfl hM rfl (l2.rdS (enc := Msg.cells) (xs := [mgL k]) msgc_len (by simp)) (fun y v hv => msg_cells y v (by simpa using hv)) (by omega) (by unfold maxLen; omega) hX.size (k := fun a am2 cm2 v50 hO hgr hF => wpList_nil ⟨rfl, trivial, ?_⟩)
        replace hO : v50.ownsRow w.heap.size 27 8 (.slice am2 (k + 1) cm2) (k + 1) ((mgX (k + 1)).flatMap Msg.cells) := by rw [mgX_succ, List.flatMap_append]; exact hO
        replace hd : DgAt v23.heap.size (dbL (v36.heap.size) 1 1 am k cm none 0 0) v50 := blk_kept hd hgr (own_ne hM hd (by decide))
        replace hA : BkAt v36.heap.size [Value.string ⟨#[65]⟩] 9 v50 := blk_kept hA hgr (own_ne hM hA (by decide))
        replace hX := below_own hX hX.size hM hgr
        refine r_read hF rfl (fun wq _ => d_fieldAddr (fld _ _ _ _ rfl) (isz _ _ rfl)) rfl (fun a hF => ?_)
        refine r_sole rfl ?_
        refine st_store hF (isz _ _ rfl) hd (i := 0 + 7) (by show 0 + 7 < 9; decide) rfl rfl rfl (k := fun a v51 hg hgr2 hsz hF => wpList_nil ⟨rfl, trivial, ?_⟩)
        refine r_done ?_
        replace hA : BkAt v36.heap.size [Value.string ⟨#[65]⟩] 9 v51 := blk_kept hA hgr2 (by simp; omega)
        replace hO := own_keptT hO hd (by decide) hgr2
        replace hd : DgAt v23.heap.size (dbL (v36.heap.size) 1 1 am2 (k + 1) cm2 none 0 0) v51 := hg
        replace hX := hX.grown hgr2 hX.size (fun k hk => by cases hk; omega)
        repeat (first | refine c_region _ ?_ | refine wpList_nil ?_ | refine c_then ?_ | refine c_in ?_ | ((apply st hF); (first | exact d_move | exact d_assign | exact d_add); clear hF; clear a; intro a hF))
        exact ⟨513 - (k + 1), by omega, k + 1, am2, cm2, by omega, rfl, hF.keep' ⟨rfl, rfl, trivial⟩, hd, hA, hO, hX⟩
  obtain rfl : k = 513 := by omega
  clear hk hlt
  obtain ⟨gm, rfl, _⟩ := own_some hM (by decide)
  repeat (first | refine c_seq ?_ | refine c_region _ ?_ | refine wpList_nil ?_ | refine c_then ?_ | refine c_then_exit ?_ | refine c_in_hit ?_ | refine wp_exit ?_ | ((apply st hF); (first | exact d_move | exact d_cmpF | exact d_loadAgg (agg _ rfl) (isz _ _ rfl) rfl (cells_at hd)); clear hF; clear a; intro a hF) | (apply c_cond_f hF; exact rfl; first | exact rfl | assumption))
  refine stc hF (cdb_k v39 (dbL (v36.heap.size) 1 1 (some ⟨gm, 0, none⟩) 513 cm none 0 0) txA (mgT 513) [] (lim_db rfl (by decide) (by decide) (hA_rd hA) (mgs_in hM (by decide)) (tabs_nil _)) (hT.below hX) 5 512 3 (db_many rfl) (by decide)) cal21 ⟨rfl, trivial⟩ (k := fun a v v52 hR hF => ?_)
  obtain ⟨rfl, hb⟩ := hR
  replace hd := hd.below hb
  replace hA := hA.below hb
  replace hM := own_below hM hb
  replace hX := hX.trans (hb.mono hX.size)
  have c7 : v52.cell? ⟨v23.heap.size, 0 + 7, none⟩ = some (.slice (some ⟨gm, 0, none⟩) 513 cm) := hd.c 7 _ rfl
  have hMc := (own_cap' hM).1
  repeat (first | refine c_seq ?_ | refine c_region _ ?_ | refine wpList_nil ?_ | refine c_then ?_ | ((apply st hF); (first | exact d_assign | exact d_fieldAddr (fld _ _ _ _ rfl) (isz _ _ rfl) | exact d_slice (und _ _ rfl) (isz _ _ rfl) (j := 512) | exact d_load (und _ _ rfl) c7); clear hF; clear a; intro a hF))
  replace hM : v52.ownsRow w.heap.size 27 8 (.slice (some ⟨gm, 0, none⟩) 512 cm) 512 ((mgX 512).flatMap Msg.cells) := by have := own_pre hM (m := 512) (by decide); rw [flat_take (enc := Msg.cells) msgc_len] at this; exact this
  refine st_store hF (isz _ _ rfl) hd (i := 0 + 7) (by show 0 + 7 < 9; decide) rfl rfl rfl (k := fun a v53 hg hgr hsz hF => ?_)
  replace hA : BkAt v36.heap.size [Value.string ⟨#[65]⟩] 9 v53 := blk_kept hA hgr (by simp; omega)
  replace hM := own_keptT hM hd (by decide) hgr
  replace hd : DgAt v23.heap.size (dbL (v36.heap.size) 1 1 (some ⟨gm, 0, none⟩) 512 cm none 0 0) v53 := hg
  replace hX := hX.grown hgr hX.size (fun k hk => by cases hk; omega)
  clear hg hgr hsz
  clear c7
  repeat (first | refine c_seq ?_ | refine c_region _ ?_ | refine wpList_nil ?_ | refine c_then ?_ | ((apply st hF); (exact d_move); clear hF; clear a; intro a hF))
  refine stc hF (at_f v53 5 512 3 (hH.below hX) (by decide) (by decide)) cal44 ⟨rfl, rfl, rfl, rfl, trivial⟩ (k := fun a v v54 hR hF => ?_)
  obtain ⟨rfl, hb⟩ := hR
  replace hd := hd.below hb
  replace hA := hA.below hb
  replace hM := own_below hM hb
  replace hX := hX.trans (hb.mono hX.size)
  repeat (((first | apply st hF | apply stg hF); (first | exact d_move | exact d_not | exact d_loadAgg (agg _ rfl) (isz _ _ rfl) rfl (cells_at hd)); clear hF; clear a; intro a hF))
  refine stcg hF (cdb_0 v54 (dbL (v36.heap.size) 1 1 (some ⟨gm, 0, none⟩) 512 cm none 0 0) txA (mgT 512) [] (lim_db rfl (by decide) (by decide) (hA_rd hA) (mgs_in hM (by decide)) (tabs_nil _)) (hT.below hX) (db_512 rfl)) cal21 ⟨rfl, trivial⟩ (k := fun a v v55 hR hF => ?_)
  obtain ⟨rfl, hb⟩ := hR
  replace hd := hd.below hb
  replace hA := hA.below hb
  replace hM := own_below hM hb
  replace hX := hX.trans (hb.mono hX.size)
  clear hM hMc
  repeat (first | refine c_seq ?_ | refine c_region _ ?_ | refine wpList_nil ?_ | refine c_then ?_ | refine wp_skip ?_ | ((first | apply st hF | apply stg hF); (first | exact d_pickF | exact d_neN (ifc _ rfl)); clear hF; clear a; intro a hF) | (apply c_cond_f hF; exact rfl; first | exact rfl | assumption))
  refine stc hF (one_ok v55 ⟨#[97]⟩ 0 16) cal30 ⟨rfl, rfl, rfl, trivial⟩ (k := fun a v v56 hR hF => ?_)
  obtain ⟨⟨g, rfl, rg⟩, hb⟩ := hR
  replace hd := hd.below hb
  replace hA := hA.below hb
  replace hX := hX.trans (hb.mono hX.size)
  have hohAls := lt_at hA
  have hwls := hX.size
  refine st hF (d_buildSS [(Sig.cells (oneS ⟨#[97]⟩ 0 16 g)).toArray] (und _ _ rfl) inf38 (by decide) (by decide) (by decide) rfl (by simp [Sig.cells]) ⟨rfl, rfl, trivial⟩) rfl (fun a hF => ?_)
  have hb := below_alloc v56 (.cells (([(Sig.cells (oneS ⟨#[97]⟩ 0 16 g)).toArray]).flatMap fun u => u.toList).toArray 38)
  have ls : BkAt v56.heap.size ([oneS ⟨#[97]⟩ 0 16 g].flatMap Sig.cells) 38 _ := bk_alloc v56 Sig.cells [oneS ⟨#[97]⟩ 0 16 g] 38 (([(Sig.cells (oneS ⟨#[97]⟩ 0 16 g)).toArray]).flatMap fun u => u.toList).toArray (by simp)
  generalize v56.alloc _ = v57 at *
  replace hd := hd.below hb
  replace hA := hA.below hb
  replace rg := rg.below hb
  replace hX := hX.trans (hb.mono hX.size)
  refine stc hF (two_ok v57 _ 1 1) cal29 ⟨rfl, trivial⟩ (k := fun a v v58 hR hF => ?_)
  obtain ⟨rfl, hb⟩ := hR
  replace hd := hd.below hb
  replace hA := hA.below hb
  replace ls := ls.below hb
  replace rg := rg.below hb
  replace hX := hX.trans (hb.mono hX.size)
  have holslm := lt_at ls
  have hwlm := hX.size
  refine st hF (d_buildSS [(Msg.cells (M16 (v56.heap.size))).toArray] (und _ _ rfl) inf27 (by decide) (by decide) (by decide) rfl (by simp [Msg.cells]) ⟨rfl, rfl, trivial⟩) rfl (fun a hF => ?_)
  have hb := below_alloc v58 (.cells (([(Msg.cells (M16 (v56.heap.size))).toArray]).flatMap fun u => u.toList).toArray 27)
  have lm : BkAt v58.heap.size ([M16 (v56.heap.size)].flatMap Msg.cells) 27 _ := bk_alloc v58 Msg.cells [M16 (v56.heap.size)] 27 (([(Msg.cells (M16 (v56.heap.size))).toArray]).flatMap fun u => u.toList).toArray (by simp)
  generalize v58.alloc _ = v59 at *
  replace hd := hd.below hb
  replace hA := hA.below hb
  replace ls := ls.below hb
  replace rg := rg.below hb
  replace hX := hX.trans (hb.mono hX.size)
  repeat (((apply st hF); (exact d_fieldAddr (fld _ _ _ _ rfl) (isz _ _ rfl)); clear hF; clear a; intro a hF))
  refine st_store hF (isz _ _ rfl) hd (i := 0 + 7) (by show 0 + 7 < 9; decide) rfl rfl rfl (k := fun a v60 hg hgr hsz hF => ?_)
  replace hA : BkAt v36.heap.size [Value.string ⟨#[65]⟩] 9 v60 := blk_kept hA hgr (by simp; omega)
  replace ls : BkAt v56.heap.size ([oneS ⟨#[97]⟩ 0 16 g].flatMap Sig.cells) 38 v60 := blk_kept ls hgr (by simp; omega)
  replace lm : BkAt v58.heap.size ([M16 (v56.heap.size)].flatMap Msg.cells) 27 v60 := blk_kept lm hgr (by simp; omega)
  replace rg := rd_keptDS rg hd hgr (by decide)
  replace hd : DgAt v23.heap.size (dbL (v36.heap.size) 1 1 (some ⟨v58.heap.size, 0, none⟩) 1 1 none 0 0) v60 := hg
  replace hX := hX.grown hgr hX.size (fun k hk => by cases hk; omega)
  clear hg hgr hsz
  repeat (first | refine c_seq ?_ | refine c_region _ ?_ | refine wpList_nil ?_ | refine c_then ?_ | ((apply st hF); (exact d_build (vs := [(1, .int .u32 5), (3, .string ⟨#[97]⟩)]) (cells := (Tab.cells (tabR none 0 0)).toArray) (by kernel_rfl) ⟨rfl, rfl, rfl, rfl, trivial⟩); clear hF; clear a; intro a hF))
  have holmht := lt_at lm
  have hwht := hX.size
  refine st_alloc hF inf67 (k := fun a v61 hg1 hgr1 hsz1 hF => ?_)
  refine st_storeAgg hF (cs := (Tab.cells (tabR none 0 0)).toArray) (isz _ _ rfl) rfl rfl hg1 (tab_cells _) (k := fun a v62 hg2 hgr2 hsz2 hF => ?_)
  have hb2 : Below v60.heap.size v60 v62 := ((Below.refl _ v60).grown hgr1 (Nat.le_refl _) (fun k hk => by cases hk)).grown hgr2 (by omega) (fun k hk => by cases hk; exact Nat.le_refl _)
  have ht : TgAt v60.heap.size (tabR none 0 0) v62 := hg2
  replace hd := hd.below hb2
  replace hA := hA.below hb2
  replace ls := ls.below hb2
  replace lm := lm.below hb2
  replace rg := rg.below hb2
  replace hX := hX.trans (hb2.mono hX.size)
  clear hg1 hg2 hgr1 hgr2 hb2 hsz1 hsz2
  repeat (first | refine c_seq ?_ | refine c_block ?_ | refine c_region _ ?_ | refine wpList_nil ?_ | refine c_then ?_ | ((apply st hF); (exact d_assign); clear hF; clear a; intro a hF))
  refine c_loop (fun q a wr => ∃ (k : Nat) (ar : Option Addr) (cr : Nat), k ≤ 256 ∧ q = 256 - k ∧ (k = 0 → ar = none) ∧ Fr 157 [(8, .pointer (some ⟨v23.heap.size, 0, none⟩)), (11, .pointer (some ⟨v60.heap.size, 0, none⟩)), (12, .int .i64 (k : Nat))] a ∧ DgAt v23.heap.size (dbL (v36.heap.size) 1 1 (some ⟨v58.heap.size, 0, none⟩) 1 1 none 0 0) wr ∧ TgAt v60.heap.size (tabR ar k cr) wr ∧ BkAt v36.heap.size [Value.string ⟨#[65]⟩] 9 wr ∧ BkAt v56.heap.size ([oneS ⟨#[97]⟩ 0 16 g].flatMap Sig.cells) 38 wr ∧ BkAt v58.heap.size ([M16 (v56.heap.size)].flatMap Msg.cells) 27 wr ∧ Rd wr (some ⟨g, 0, none⟩) .string txA ∧ wr.ownsRow w.heap.size 116 2 (.slice ar k cr) k ((rwL k).flatMap RowV.cells) ∧ Below w.heap.size w wr) 256
    ⟨0, none, 0, Nat.zero_le _, rfl, fun _ => rfl, hF.keep' ⟨rfl, rfl, rfl, trivial⟩, hd, ht, hA, ls, lm, rg, World.ownsRow_nil _ _ _ _, hX⟩ ?_
  clear hF a hd ht hA ls lm rg hX
  rintro q a v63 ⟨k, ar, cr, hk, rfl, h0, hF, hd, ht, hA, ls, lm, rg, hR, hX⟩
  by_cases hlt : k < 256
  case pos =>
    have c5 : v63.cell? ⟨v60.heap.size, 0 + 5, none⟩ = some (.slice ar k cr) := ht.c 5 _ rfl
    repeat (first | refine c_seq ?_ | refine c_block ?_ | refine c_region _ ?_ | refine wpList_nil ?_ | refine c_then ?_ | refine wp_skip ?_ | ((apply st hF); (first | exact d_move | exact d_cmpT | exact d_fieldAddr (fld _ _ _ _ rfl) (isz _ _ rfl) | exact d_build (vs := [(0, .int .i64 (k : Nat))]) (cells := (RowV.cells ⟨(k : Int), ⟨#[]⟩⟩).toArray) (by kernel_rfl) ⟨rfl, rfl, trivial⟩ | exact d_load (und _ _ rfl) c5); clear hF; clear a; intro a hF) | (apply c_cond_t hF; exact rfl; first | exact rfl | assumption))
    refine st_pushS hF (us := (RowV.cells ⟨(k : Int), ⟨#[]⟩⟩).toArray) (und _ _ rfl) inf116 rfl (by decide) (by decide) rfl (by intro v hv; simp [RowV.cells] at hv; rcases hv with rfl | rfl <;> rfl) hR (by omega) (by unfold maxLen; omega) hX.size (k := fun a ar2 cr2 v64 hR2 hgr hat hF => ?_)
    replace hR2 : v64.ownsRow w.heap.size 116 2 (.slice ar2 (k + 1) cr2) (k + 1) ((rwL (k + 1)).flatMap RowV.cells) := by rw [rwL_succ, List.flatMap_append]; simpa using hR2
    replace rg := rd_keptR rg hR h0 (fun h => (rw_head h ⟨#[]⟩).imp fun u hu => ⟨hu.1, fun x _ => hu.2 x⟩) (by decide) hgr
    replace hd : DgAt v23.heap.size (dbL (v36.heap.size) 1 1 (some ⟨v58.heap.size, 0, none⟩) 1 1 none 0 0) v64 := blk_kept hd hgr (own_ne hR hd (by decide))
    replace ht : TgAt v60.heap.size (tabR ar k cr) v64 := blk_kept ht hgr (own_ne hR ht (by decide))
    replace hA : BkAt v36.heap.size [Value.string ⟨#[65]⟩] 9 v64 := blk_kept hA hgr (own_ne hR hA (by decide))
    replace ls : BkAt v56.heap.size ([oneS ⟨#[97]⟩ 0 16 g].flatMap Sig.cells) 38 v64 := blk_kept ls hgr (own_ne hR ls (by decide))
    replace lm : BkAt v58.heap.size ([M16 (v56.heap.size)].flatMap Msg.cells) 27 v64 := blk_kept lm hgr (own_ne hR lm (by decide))
    replace hX := below_own hX hX.size hR hgr
    clear c5 hR hgr hat
    repeat (((apply st hF); (exact d_fieldAddr (fld _ _ _ _ rfl) (isz _ _ rfl)); clear hF; clear a; intro a hF))
    refine st_store hF (isz _ _ rfl) ht (i := 0 + 5) (by show 0 + 5 < 6; decide) rfl rfl rfl (k := fun a v65 hg hgr hsz hF => ?_)
    replace rg := rd_keptTS rg ht hgr (by decide)
    replace hR2 := own_keptT hR2 ht (by decide) hgr
    replace hd : DgAt v23.heap.size (dbL (v36.heap.size) 1 1 (some ⟨v58.heap.size, 0, none⟩) 1 1 none 0 0) v65 := blk_kept hd hgr (by simp; omega)
    replace hA : BkAt v36.heap.size [Value.string ⟨#[65]⟩] 9 v65 := blk_kept hA hgr (by simp; omega)
    replace ls : BkAt v56.heap.size ([oneS ⟨#[97]⟩ 0 16 g].flatMap Sig.cells) 38 v65 := blk_kept ls hgr (by simp; omega)
    replace lm : BkAt v58.heap.size ([M16 (v56.heap.size)].flatMap Msg.cells) 27 v65 := blk_kept lm hgr (by simp; omega)
    replace ht : TgAt v60.heap.size (tabR ar2 (k + 1) cr2) v65 := hg
    replace hX := hX.grown hgr hX.size (fun k hk => by cases hk; omega)
    repeat (first | refine c_region _ ?_ | refine wpList_nil ?_ | refine c_then ?_ | refine c_in ?_ | ((apply st hF); (first | exact d_move | exact d_assign | exact d_add); clear hF; clear a; intro a hF))
    exact ⟨256 - (k + 1), by omega, k + 1, ar2, cr2, by omega, rfl, fun h => absurd h (Nat.succ_ne_zero k), hF.keep' ⟨rfl, rfl, rfl, trivial⟩, hd, ht, hA, ls, lm, rg, hR2, hX⟩
  obtain rfl : k = 256 := by omega
  clear hk hlt h0
  obtain ⟨gr, rfl, _⟩ := own_some hR (by decide)
  repeat (first | refine c_seq ?_ | refine c_region _ ?_ | refine wpList_nil ?_ | refine c_then ?_ | refine c_then_exit ?_ | refine c_in_hit ?_ | refine wp_exit ?_ | ((apply st hF); (first | exact d_move | exact d_cmpF | exact d_loadAgg (agg _ rfl) (isz _ _ rfl) rfl (cells_at ht)); clear hF; clear a; intro a hF) | (apply c_cond_f hF; exact rfl; first | exact rfl | assumption))
  have hohtlt := lt_at ht
  have hwlt := hX.size
  refine st hF (d_buildSS [(Tab.cells (tabR (some ⟨gr, 0, none⟩) 256 cr)).toArray] (und _ _ rfl) inf67 (by decide) (by decide) (by decide) rfl (by simp [Tab.cells]) ⟨rfl, rfl, trivial⟩) rfl (fun a hF => ?_)
  have hb := below_alloc v63 (.cells (([(Tab.cells (tabR (some ⟨gr, 0, none⟩) 256 cr)).toArray]).flatMap fun u => u.toList).toArray 67)
  have lt : BkAt v63.heap.size ([tabR (some ⟨gr, 0, none⟩) 256 cr].flatMap Tab.cells) 67 _ := bk_alloc v63 Tab.cells [tabR (some ⟨gr, 0, none⟩) 256 cr] 67 (([(Tab.cells (tabR (some ⟨gr, 0, none⟩) 256 cr)).toArray]).flatMap fun u => u.toList).toArray (by simp)
  generalize v63.alloc _ = v66 at *
  replace hd := hd.below hb
  replace hA := hA.below hb
  replace ls := ls.below hb
  replace lm := lm.below hb
  replace ht := ht.below hb
  replace rg := rg.below hb
  replace hR := own_below hR hb
  replace hX := hX.trans (hb.mono hX.size)
  repeat (((apply st hF); (exact d_fieldAddr (fld _ _ _ _ rfl) (isz _ _ rfl)); clear hF; clear a; intro a hF))
  refine st_store hF (isz _ _ rfl) hd (i := 0 + 8) (by show 0 + 8 < 9; decide) rfl rfl rfl (k := fun a v67 hg hgr hsz hF => ?_)
  replace hA : BkAt v36.heap.size [Value.string ⟨#[65]⟩] 9 v67 := blk_kept hA hgr (by simp; omega)
  replace ls : BkAt v56.heap.size ([oneS ⟨#[97]⟩ 0 16 g].flatMap Sig.cells) 38 v67 := blk_kept ls hgr (by simp; omega)
  replace lm : BkAt v58.heap.size ([M16 (v56.heap.size)].flatMap Msg.cells) 27 v67 := blk_kept lm hgr (by simp; omega)
  replace lt : BkAt v63.heap.size ([tabR (some ⟨gr, 0, none⟩) 256 cr].flatMap Tab.cells) 67 v67 := blk_kept lt hgr (by simp; omega)
  replace rg := rd_keptDS rg hd hgr (by decide)
  replace ht : TgAt v60.heap.size (tabR (some ⟨gr, 0, none⟩) 256 cr) v67 := blk_kept ht hgr (by simp; omega)
  replace hR := own_keptT hR hd (by decide) hgr
  replace hd : DgAt v23.heap.size (dbL (v36.heap.size) 1 1 (some ⟨v58.heap.size, 0, none⟩) 1 1 (some ⟨v63.heap.size, 0, none⟩) 1 1) v67 := hg
  replace hX := hX.grown hgr hX.size (fun k hk => by cases hk; omega)
  clear hg hgr hsz
  clear ht
  repeat (first | refine c_seq ?_ | refine c_region _ ?_ | refine wpList_nil ?_ | refine c_then ?_ | ((apply st hF); (exact d_loadAgg (agg _ rfl) (isz _ _ rfl) rfl (cells_at hd)); clear hF; clear a; intro a hF))
  refine stc hF (cdb_0 v67 (dbL (v36.heap.size) 1 1 (some ⟨v58.heap.size, 0, none⟩) 1 1 (some ⟨v63.heap.size, 0, none⟩) 1 1) txA (ms16 (v56.heap.size) g) [(tabR (some ⟨gr, 0, none⟩) 256 cr, rwL 256)] (lim_db rfl (by decide) (by decide) (hA_rd hA) (ms16_in lm ls rg) (tab1_in lt (rw_in hR (by decide)))) (hT.below hX) (db_256 rfl _ _ _ _)) cal21 ⟨rfl, trivial⟩ (k := fun a v v68 hR hF => ?_)
  obtain ⟨rfl, hb⟩ := hR
  replace hd := hd.below hb
  replace hA := hA.below hb
  replace ls := ls.below hb
  replace lm := lm.below hb
  replace lt := lt.below hb
  replace rg := rg.below hb
  replace hR := own_below hR hb
  replace hX := hX.trans (hb.mono hX.size)
  repeat (first | (refine c_region_tree (fun wq => DgAt v23.heap.size (dbL (v36.heap.size) 1 1 (some ⟨v58.heap.size, 0, none⟩) 1 1 (some ⟨v63.heap.size, 0, none⟩) 1 1) wq) (.read 0 (.read 1 (.read 2 (.read 3 (.read 4 (.read 5 (.read 7 (.two 6 8 (.sole 8 (.sole 9 (.read 10 (.read 11 (.sole 12 .done))))) (.sole 6 (.sole 9 (.read 10 (.read 11 (.sole 12 .done))))))))))))) 39 mixed (by kernel_rfl) (hd.below (below_more (Below.refl _ _) 1)) ?_) | refine c_seq ?_ | refine wpList_nil ?_ | refine c_then ?_ | refine wp_skip ?_ | ((apply st hF); (exact d_neN (ifc _ rfl)); clear hF; clear a; intro a hF) | (apply c_cond_f hF; exact rfl; first | exact rfl | assumption))
  have hdb : Below v68.heap.size v68 (v68.drewN 1) := below_more (Below.refl _ v68) 1
  generalize v68.drewN 1 = v69 at *
  replace hd := hd.below hdb
  replace hA := hA.below hdb
  replace ls := ls.below hdb
  replace lm := lm.below hdb
  replace lt := lt.below hdb
  replace rg := rg.below hdb
  replace hR := own_below hR hdb
  replace hX := hX.trans (hdb.mono hX.size)
  refine r_read hF rfl (fun wq hwq => d_fieldAddr (fld _ _ _ _ rfl) (isz _ _ rfl)) rfl (fun a hF => ?_)
  refine r_read hF rfl (fun wq hwq => d_load (und _ _ rfl) (hwq.c 8 _ rfl)) rfl (fun a hF => ?_)
  refine r_read hF rfl (fun wq hwq => d_fieldAddr (fld _ _ _ _ rfl) (isz _ _ rfl)) rfl (fun a hF => ?_)
  refine r_read hF rfl (fun wq hwq => d_load (und _ _ rfl) (hwq.c 8 _ rfl)) rfl (fun a hF => ?_)
  refine r_read hF rfl (fun wq hwq => d_indexAddrS (und _ _ rfl) (isz _ _ rfl) (j := 0) (n := 1)) rfl (fun a hF => ?_)
  refine r_read hF rfl (fun wq hwq => d_fieldAddr (fld _ _ _ _ rfl) (isz _ _ rfl)) rfl (fun a hF => ?_)
  refine r_read hF rfl (fun wq hwq => d_build (vs := [(0, .int .i64 256)]) (cells := (RowV.cells ⟨((256 : Nat) : Int), ⟨#[]⟩⟩).toArray) (by kernel_rfl) ⟨rfl, rfl, trivial⟩) rfl (fun a hF => ?_)
  refine r_two rfl rfl ?_ ?_
  · have hid0 := 0
    refine st hF (d_load (und _ _ rfl) (cell_at lt (i := 0 + 0 * 6 + 5) rfl)) rfl (fun a hF => wpList_nil ⟨rfl, hd, ?_⟩)
    refine r_sole rfl ?_
    refine st hF (d_buildSS [(RowV.cells (⟨((256 : Nat) : Int), ⟨#[]⟩⟩ : RowV)).toArray] (und _ _ rfl) inf116 (by decide) (by decide) (by decide) rfl (by simp [RowV.cells]) ⟨rfl, rfl, trivial⟩) rfl (fun a hF => wpList_nil ⟨rfl, hd.below (below_alloc _ _), ?_⟩)
    have hb := below_alloc v69 (.cells (([(RowV.cells (⟨((256 : Nat) : Int), ⟨#[]⟩⟩ : RowV)).toArray]).flatMap fun u => u.toList).toArray 116)
    have l2 : BkAt v69.heap.size ([(⟨((256 : Nat) : Int), ⟨#[]⟩⟩ : RowV)].flatMap RowV.cells) 116 _ := bk_alloc v69 RowV.cells [(⟨((256 : Nat) : Int), ⟨#[]⟩⟩ : RowV)] 116 (([(RowV.cells (⟨((256 : Nat) : Int), ⟨#[]⟩⟩ : RowV)).toArray]).flatMap fun u => u.toList).toArray (by simp)
    generalize v69.alloc _ = v70 at *
    replace hd := hd.below hb
    replace hA := hA.below hb
    replace ls := ls.below hb
    replace lm := lm.below hb
    replace lt := lt.below hb
    replace rg := rg.below hb
    replace hR := own_below hR hb
    replace hX := hX.trans (hb.mono hX.size)
    refine r_sole rfl ?_
    refine st_appendS (m := 1) (n := 256) (ys := [(⟨((256 : Nat) : Int), ⟨#[]⟩⟩ : RowV)]) (enc := RowV.cells) hF rowc_len (by decide) (und _ _ rfl) inf116 rfl hR rfl (l2.rdS (enc := RowV.cells) (xs := [(⟨((256 : Nat) : Int), ⟨#[]⟩⟩ : RowV)]) rowc_len (by simp)) (fun y v hv => by simp [RowV.cells] at hv; rcases hv with rfl | rfl <;> rfl) (by omega) (by unfold maxLen; omega) hX.size (k := fun a ar2 cr2 v71 hR2 hgr hF => wpList_nil ⟨rfl, blk_kept hd hgr (own_ne hR hd (by decide)), ?_⟩)
    obtain ⟨gq, rfl, _⟩ := own_some hR2 (by decide)
    replace hR2 : v71.ownsRow w.heap.size 116 2 (.slice (some ⟨gq, 0, none⟩) 257 cr2) 257 ((rwL 257).flatMap RowV.cells) := by rw [rwL_succ, List.flatMap_append]; exact hR2
    replace rg := rd_keptR rg hR (fun h => by cases h) (fun h => (rw_head h ⟨#[]⟩).imp fun u hu => ⟨hu.1, fun x _ => hu.2 x⟩) (by decide) hgr
    replace hd : DgAt v23.heap.size (dbL (v36.heap.size) 1 1 (some ⟨v58.heap.size, 0, none⟩) 1 1 (some ⟨v63.heap.size, 0, none⟩) 1 1) v71 := blk_kept hd hgr (own_ne hR hd (by decide))
    replace hA : BkAt v36.heap.size [Value.string ⟨#[65]⟩] 9 v71 := blk_kept hA hgr (own_ne hR hA (by decide))
    replace ls : BkAt v56.heap.size ([oneS ⟨#[97]⟩ 0 16 g].flatMap Sig.cells) 38 v71 := blk_kept ls hgr (own_ne hR ls (by decide))
    replace lm : BkAt v58.heap.size ([M16 (v56.heap.size)].flatMap Msg.cells) 27 v71 := blk_kept lm hgr (own_ne hR lm (by decide))
    replace lt : BkAt v63.heap.size ([tabR (some ⟨gr, 0, none⟩) 256 cr].flatMap Tab.cells) 67 v71 := blk_kept lt hgr (own_ne hR lt (by decide))
    replace hX := below_own hX hX.size hR hgr
    refine r_read hF rfl (fun wq hwq => d_indexAddrS (und _ _ rfl) (isz _ _ rfl) (j := 0) (n := 1)) rfl (fun a hF => ?_)
    refine r_read hF rfl (fun wq hwq => d_fieldAddr (fld _ _ _ _ rfl) (isz _ _ rfl)) rfl (fun a hF => ?_)
    refine r_sole rfl ?_
    refine st_store hF (isz _ _ rfl) lt (i := 0 + 0 * 6 + 5) (by show 0 + 0 * 6 + 5 < 6; decide) rfl rfl rfl (k := fun a v72 hg hgr2 hsz hF => wpList_nil ⟨rfl, blk_kept hd hgr2 (by simp; omega), ?_⟩)
    refine r_done (c_then ?_)
    replace rg := rd_keptL rg lt hgr2
    replace hR2 := own_keptT hR2 lt (by decide) hgr2
    replace hd : DgAt v23.heap.size (dbL (v36.heap.size) 1 1 (some ⟨v58.heap.size, 0, none⟩) 1 1 (some ⟨v63.heap.size, 0, none⟩) 1 1) v72 := blk_kept hd hgr2 (by simp; omega)
    replace hA : BkAt v36.heap.size [Value.string ⟨#[65]⟩] 9 v72 := blk_kept hA hgr2 (by simp; omega)
    replace ls : BkAt v56.heap.size ([oneS ⟨#[97]⟩ 0 16 g].flatMap Sig.cells) 38 v72 := blk_kept ls hgr2 (by simp; omega)
    replace lm : BkAt v58.heap.size ([M16 (v56.heap.size)].flatMap Msg.cells) 27 v72 := blk_kept lm hgr2 (by simp; omega)
    replace lt : BkAt v63.heap.size ([tabR (some ⟨gq, 0, none⟩) 257 cr2].flatMap Tab.cells) 67 v72 := hg
    replace hX := hX.grown hgr2 hX.size (fun k hk => by cases hk; omega)
    replace hR := hR2
    clear hR2 hgr hgr2 hg hsz
    repeat (first | refine c_seq ?_ | refine c_region _ ?_ | ((apply st hF); (exact d_loadAgg (agg _ rfl) (isz _ _ rfl) rfl (cells_at hd)); clear hF; clear a; intro a hF))
    refine stc hF (cdb_k v72 (dbL (v36.heap.size) 1 1 (some ⟨v58.heap.size, 0, none⟩) 1 1 (some ⟨v63.heap.size, 0, none⟩) 1 1) txA (ms16 (v56.heap.size) g) [(tabR (some ⟨gq, 0, none⟩) 257 cr2, rwL 257)] (lim_db rfl (by decide) (by decide) (hA_rd hA) (ms16_in lm ls rg) (tab1_in lt (rw_in hR (by decide)))) (hT.below hX) 5 0 0 (db_257 rfl _ _ _ _) (by decide)) cal21 ⟨rfl, trivial⟩ (k := fun a v v73 hR hF => ?_)
    obtain ⟨rfl, hb⟩ := hR
    replace hd := hd.below hb
    replace hA := hA.below hb
    replace ls := ls.below hb
    replace lm := lm.below hb
    replace lt := lt.below hb
    replace rg := rg.below hb
    replace hR := own_below hR hb
    replace hX := hX.trans (hb.mono hX.size)
    refine stc hF (no_is v73 5 0 0 (by decide) (by decide)) cal57 ⟨rfl, rfl, trivial⟩ (k := fun a v v74 hR hF => ?_)
    obtain ⟨rfl, hb⟩ := hR
    replace hd := hd.below hb
    replace hA := hA.below hb
    replace ls := ls.below hb
    replace lm := lm.below hb
    replace lt := lt.below hb
    replace rg := rg.below hb
    replace hR := own_below hR hb
    replace hX := hX.trans (hb.mono hX.size)
    repeat (first | refine wpList_nil ?_ | refine c_then ?_ | refine wp_ret ?_ | ((apply st hF); (exact d_assign); clear hF; clear a; intro a hF))
    exact ret1 hF rfl rfl ⟨rfl, hX⟩
  · have hid0 := 0
    refine st hF (d_buildSS [(RowV.cells (⟨((256 : Nat) : Int), ⟨#[]⟩⟩ : RowV)).toArray] (und _ _ rfl) inf116 (by decide) (by decide) (by decide) rfl (by simp [RowV.cells]) ⟨rfl, rfl, trivial⟩) rfl (fun a hF => wpList_nil ⟨rfl, hd.below (below_alloc _ _), ?_⟩)
    have hb := below_alloc v69 (.cells (([(RowV.cells (⟨((256 : Nat) : Int), ⟨#[]⟩⟩ : RowV)).toArray]).flatMap fun u => u.toList).toArray 116)
    have l2 : BkAt v69.heap.size ([(⟨((256 : Nat) : Int), ⟨#[]⟩⟩ : RowV)].flatMap RowV.cells) 116 _ := bk_alloc v69 RowV.cells [(⟨((256 : Nat) : Int), ⟨#[]⟩⟩ : RowV)] 116 (([(RowV.cells (⟨((256 : Nat) : Int), ⟨#[]⟩⟩ : RowV)).toArray]).flatMap fun u => u.toList).toArray (by simp)
    generalize v69.alloc _ = v75 at *
    replace hd := hd.below hb
    replace hA := hA.below hb
    replace ls := ls.below hb
    replace lm := lm.below hb
    replace lt := lt.below hb
    replace rg := rg.below hb
    replace hR := own_below hR hb
    replace hX := hX.trans (hb.mono hX.size)
    refine r_sole rfl ?_
    refine st hF (d_load (und _ _ rfl) (cell_at lt (i := 0 + 0 * 6 + 5) rfl)) rfl (fun a hF => wpList_nil ⟨rfl, hd, ?_⟩)
    refine r_sole rfl ?_
    refine st_appendS (m := 1) (n := 256) (ys := [(⟨((256 : Nat) : Int), ⟨#[]⟩⟩ : RowV)]) (enc := RowV.cells) hF rowc_len (by decide) (und _ _ rfl) inf116 rfl hR rfl (l2.rdS (enc := RowV.cells) (xs := [(⟨((256 : Nat) : Int), ⟨#[]⟩⟩ : RowV)]) rowc_len (by simp)) (fun y v hv => by simp [RowV.cells] at hv; rcases hv with rfl | rfl <;> rfl) (by omega) (by unfold maxLen; omega) hX.size (k := fun a ar2 cr2 v76 hR2 hgr hF => wpList_nil ⟨rfl, blk_kept hd hgr (own_ne hR hd (by decide)), ?_⟩)
    obtain ⟨gq, rfl, _⟩ := own_some hR2 (by decide)
    replace hR2 : v76.ownsRow w.heap.size 116 2 (.slice (some ⟨gq, 0, none⟩) 257 cr2) 257 ((rwL 257).flatMap RowV.cells) := by rw [rwL_succ, List.flatMap_append]; exact hR2
    replace rg := rd_keptR rg hR (fun h => by cases h) (fun h => (rw_head h ⟨#[]⟩).imp fun u hu => ⟨hu.1, fun x _ => hu.2 x⟩) (by decide) hgr
    replace hd : DgAt v23.heap.size (dbL (v36.heap.size) 1 1 (some ⟨v58.heap.size, 0, none⟩) 1 1 (some ⟨v63.heap.size, 0, none⟩) 1 1) v76 := blk_kept hd hgr (own_ne hR hd (by decide))
    replace hA : BkAt v36.heap.size [Value.string ⟨#[65]⟩] 9 v76 := blk_kept hA hgr (own_ne hR hA (by decide))
    replace ls : BkAt v56.heap.size ([oneS ⟨#[97]⟩ 0 16 g].flatMap Sig.cells) 38 v76 := blk_kept ls hgr (own_ne hR ls (by decide))
    replace lm : BkAt v58.heap.size ([M16 (v56.heap.size)].flatMap Msg.cells) 27 v76 := blk_kept lm hgr (own_ne hR lm (by decide))
    replace lt : BkAt v63.heap.size ([tabR (some ⟨gr, 0, none⟩) 256 cr].flatMap Tab.cells) 67 v76 := blk_kept lt hgr (own_ne hR lt (by decide))
    replace hX := below_own hX hX.size hR hgr
    refine r_read hF rfl (fun wq hwq => d_indexAddrS (und _ _ rfl) (isz _ _ rfl) (j := 0) (n := 1)) rfl (fun a hF => ?_)
    refine r_read hF rfl (fun wq hwq => d_fieldAddr (fld _ _ _ _ rfl) (isz _ _ rfl)) rfl (fun a hF => ?_)
    refine r_sole rfl ?_
    refine st_store hF (isz _ _ rfl) lt (i := 0 + 0 * 6 + 5) (by show 0 + 0 * 6 + 5 < 6; decide) rfl rfl rfl (k := fun a v77 hg hgr2 hsz hF => wpList_nil ⟨rfl, blk_kept hd hgr2 (by simp; omega), ?_⟩)
    refine r_done (c_then ?_)
    replace rg := rd_keptL rg lt hgr2
    replace hR2 := own_keptT hR2 lt (by decide) hgr2
    replace hd : DgAt v23.heap.size (dbL (v36.heap.size) 1 1 (some ⟨v58.heap.size, 0, none⟩) 1 1 (some ⟨v63.heap.size, 0, none⟩) 1 1) v77 := blk_kept hd hgr2 (by simp; omega)
    replace hA : BkAt v36.heap.size [Value.string ⟨#[65]⟩] 9 v77 := blk_kept hA hgr2 (by simp; omega)
    replace ls : BkAt v56.heap.size ([oneS ⟨#[97]⟩ 0 16 g].flatMap Sig.cells) 38 v77 := blk_kept ls hgr2 (by simp; omega)
    replace lm : BkAt v58.heap.size ([M16 (v56.heap.size)].flatMap Msg.cells) 27 v77 := blk_kept lm hgr2 (by simp; omega)
    replace lt : BkAt v63.heap.size ([tabR (some ⟨gq, 0, none⟩) 257 cr2].flatMap Tab.cells) 67 v77 := hg
    replace hX := hX.grown hgr2 hX.size (fun k hk => by cases hk; omega)
    replace hR := hR2
    clear hR2 hgr hgr2 hg hsz
    repeat (first | refine c_seq ?_ | refine c_region _ ?_ | ((apply st hF); (exact d_loadAgg (agg _ rfl) (isz _ _ rfl) rfl (cells_at hd)); clear hF; clear a; intro a hF))
    refine stc hF (cdb_k v77 (dbL (v36.heap.size) 1 1 (some ⟨v58.heap.size, 0, none⟩) 1 1 (some ⟨v63.heap.size, 0, none⟩) 1 1) txA (ms16 (v56.heap.size) g) [(tabR (some ⟨gq, 0, none⟩) 257 cr2, rwL 257)] (lim_db rfl (by decide) (by decide) (hA_rd hA) (ms16_in lm ls rg) (tab1_in lt (rw_in hR (by decide)))) (hT.below hX) 5 0 0 (db_257 rfl _ _ _ _) (by decide)) cal21 ⟨rfl, trivial⟩ (k := fun a v v78 hR hF => ?_)
    obtain ⟨rfl, hb⟩ := hR
    replace hd := hd.below hb
    replace hA := hA.below hb
    replace ls := ls.below hb
    replace lm := lm.below hb
    replace lt := lt.below hb
    replace rg := rg.below hb
    replace hR := own_below hR hb
    replace hX := hX.trans (hb.mono hX.size)
    refine stc hF (no_is v78 5 0 0 (by decide) (by decide)) cal57 ⟨rfl, rfl, trivial⟩ (k := fun a v v79 hR hF => ?_)
    obtain ⟨rfl, hb⟩ := hR
    replace hd := hd.below hb
    replace hA := hA.below hb
    replace ls := ls.below hb
    replace lm := lm.below hb
    replace lt := lt.below hb
    replace rg := rg.below hb
    replace hR := own_below hR hb
    replace hX := hX.trans (hb.mono hX.size)
    repeat (first | refine wpList_nil ?_ | refine c_then ?_ | refine wp_ret ?_ | ((apply st hF); (exact d_assign); clear hF; clear a; intro a hF))
    exact ret1 hF rfl rfl ⟨rfl, hX⟩
end Go.Proofs.YtjomihhpglojpaaDoor
end
