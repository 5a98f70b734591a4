/- Laid together by a program of mine: MsgM DbM. -/
import Derived.Test.YtjomihhpglojpaaGreatDoorSumLawDatabaseS29
import Derived.Test.YtjomihhpglojpaaGreatDoorSumLawDatabaseS32
import Derived.Test.YtjomihhpglojpaaGreatDoorSumLawDatabaseS34
import Derived.Test.YtjomihhpglojpaaGreatDoorSumLawDatabaseS18
import Derived.Test.YtjomihhpglojpaaGreatDoorSumLawDatabaseS31
set_option linter.unusedSimpArgs false
set_option linter.unusedVariables false
section
/- CheckMessage, walked. -/
namespace Go.Proofs.YtjomihhpglojpaaGreatDoor
open Go.RowKit
set_option linter.unusedSimpArgs false
set_option linter.unusedVariables false
attribute [local irreducible] wpList wpQuiet wpStill Code.wp Exit.then Exit.inBlock bodyPost Calls Does Does0
set_option maxRecDepth 100000
theorem rd_pre' {α : Type} {w : World} {ao : Option Addr} {enc : α → Value} {xs ys : List α} (h : Rd w ao enc (xs ++ ys)) : Rd w ao enc xs := by
  intro i hi
  obtain ⟨b, o, e, hc⟩ := h i (by rw [List.length_append]; omega)
  exact ⟨b, o, e, by rw [hc, List.getElem_append_left hi]⟩
theorem same_at (s : Sig) (g c : Nat) : SameSig (s.at g c) s := ⟨rfl, rfl, rfl, rfl, rfl, rfl, rfl, ⟨rfl, rfl, rfl, rfl, rfl, rfl, rfl, rfl⟩, rfl⟩
theorem sigB_at' {s : Sig} (h : SigB s) (g c : Nat) : SigB (s.at g c) := ⟨h.sn, h.sd, h.fn, h.fd, h.mn, h.md, h.xn, h.xd, h.br⟩
/-- A lent list of signals is a list of signals; nothing else about it is new. -/
theorem lent_in {base : Nat} {w w0 : World} {m : Msg} {ps : List SigT} {g cap : Nat} (hl : LentS base w (.slice (some ⟨g, 0, none⟩) m.sgN cap) ps) (hin : MsgIn w0 m ps) (hB : ∀ p ∈ ps, SigB p.1) :
    ∃ qs, MsgIn w (m.at g cap) qs ∧ (∀ p ∈ qs, SigB p.1) ∧ msgE (m.at g cap) qs = msgE m ps ∧ placeL (m.at g cap) qs (msgE m ps).2 = placeL m ps (msgE m ps).2 ∧ placeC (m.at g cap) qs (msgE m ps).2 = placeC m ps (msgE m ps).2 := by
  obtain ⟨g', cap', ls, e, hll, hown, hok⟩ := hl
  have hlen := hin.len
  have e1 : g = g' := Option.some.inj (congrArg Value.ownBlock e)
  have e2 : cap = cap' := by injection e
  subst e1; subst e2
  have hat : ∀ i, i < ps.length → ∃ gi ci, ls.getD i sigM = (sg ps i).at gi ci ∧ SigIn w ((sg ps i).at gi ci) (tx ps i) := by
    intro i hi
    obtain ⟨p, gi, ci, h1, h2, gt, ct, h3, h4⟩ := hok i hi
    have ep : ps[i] = p := by rw [List.getElem?_eq_getElem hi] at h1; exact Option.some.inj h1
    have hs := hin.each ps[i] (List.getElem_mem hi)
    rw [sg_lt hi, tx_lt hi]
    subst ep
    have eg : gi = gt := Option.some.inj (congrArg Value.ownBlock h3)
    have ec : ci = ct := by injection h3
    subst eg; subst ec
    refine ⟨gi, ci, by rw [List.getD_eq_getElem?_getD, h2]; rfl, hs.len, rd_pre' (own_rd h4).2, ?_, hs.bytes⟩
    have := (own_cap' h4).1
    have h5 := hs.len
    show ps[i].1.toN ≤ ci
    omega
  have hRd : RdS w (some ⟨g, 0, none⟩) 19 Sig.cells ls := by
    have := own_rdS sigc_len hown (by simp [hll])
    intro i hi
    obtain ⟨b, o, h1, h2⟩ := this i (by simp; omega)
    rw [List.getElem_append_left hi] at h2
    exact ⟨b, o, h1, h2⟩
  have hmsg : msgE (m.at g cap) (zipP ls ps) = msgE m ps := by
    refine msgE_same (zipP_len hll) rfl rfl fun i hi => ?_
    rw [zipP_sg hll hi, zipP_tx hll hi]
    obtain ⟨gi, ci, h1, _⟩ := hat i hi
    rw [h1]
    exact ⟨same_at _ _ _, rfl⟩
  refine ⟨zipP ls ps, ⟨by rw [zipP_len hll]; exact hlen, by rw [zipP_map hll]; exact hRd, fun p hp => ?_, ?_, hin.bytes⟩, fun p hp => ?_, hmsg, ?_, ?_⟩
  · obtain ⟨i, hi, rfl⟩ := List.getElem_of_mem hp
    have hi' : i < ps.length := by rw [zipP_len hll] at hi; exact hi
    have h1 := zipP_sg hll hi'
    have h2 := zipP_tx hll hi'
    rw [sg_lt hi] at h1
    rw [tx_lt hi] at h2
    obtain ⟨gi, ci, h3, h4⟩ := hat i hi'
    rw [h1, h2, h3]
    exact h4
  · have := (own_cap' hown).1
    show m.sgN ≤ cap
    omega
  · obtain ⟨i, hi, rfl⟩ := List.getElem_of_mem hp
    have hi' : i < ps.length := by rw [zipP_len hll] at hi; exact hi
    have h1 := zipP_sg hll hi'
    rw [sg_lt hi] at h1
    obtain ⟨gi, ci, h3, h4⟩ := hat i hi'
    rw [h1, h3]
    exact sigB_at' (by rw [sg_lt hi']; exact hB _ (List.getElem_mem hi')) _ _
  · cases ho : (msgE m ps).2 with
    | none => rfl
    | some i =>
      have hi := msgE_idx ho
      obtain ⟨gi, ci, h3, h4⟩ := hat i hi
      show (sg (zipP ls ps) i).line = (sg ps i).line
      rw [zipP_sg hll hi, h3]
      rfl
  · cases ho : (msgE m ps).2 with
    | none => rfl
    | some i =>
      have hi := msgE_idx ho
      obtain ⟨gi, ci, h3, h4⟩ := hat i hi
      show (sg (zipP ls ps) i).col = (sg ps i).col
      rw [zipP_sg hll hi, h3]
      rfl
set_option maxHeartbeats 8000000 in
theorem checkmessage_ok (w : World) (m : Msg) (ps : List SigT) (hin : MsgIn w m ps) (hB : ∀ p ∈ ps, SigB p.1) (hh : Handle w) (hT : Tabs w) :
    Ret Tryz.prog 3 #[.agg (Msg.cells m).toArray] w (fun v w' => v = .bool true ∧ Below w.heap.size w w') := by
  refine enter1 Tryz.func3 rfl 15 rfl 16 rfl (fun a hF => ?_)
  repeat (first | refine c_seq ?_ | refine c_region _ ?_)
  refine st_box hF (cs := (Msg.cells m).toArray) rfl (k := fun a w1 hg1 hgr1 hsz1 hF => ?_)
  have hb1 : Below w.heap.size w w1 := (Below.refl _ w).grown hgr1 (Nat.le_refl _) (fun k hk => by cases hk)
  have hm1 : MgAt w.heap.size m w1 := hg1
  clear hg1 hgr1
  repeat (first | refine c_seq ?_ | refine c_region _ ?_ | refine wpList_nil ?_ | refine c_then ?_ | ((apply st hF); (first | exact d_assign | exact d_loadAgg (agg _ rfl) (isz _ _ rfl) rfl (cells_at hm1)); clear hF; clear a; intro a hF))
  refine stc hF (lent_message w1 m ps (SigsIn.below hin hb1)) cal5 ⟨rfl, trivial⟩ (k := fun a v w2 hR hF => ?_)
  obtain ⟨g, cap, rfl, hl, hb2⟩ := hR
  have hm2 := hm1.below hb2
  have hB2 : Below w.heap.size w w2 := hb1.trans (hb2.mono hb1.size)
  refine st_alloc hF inf27 (k := fun a w3 hg3 hgr3 hsz3 hF => ?_)
  refine st_storeAgg hF (cs := (Msg.cells (m.at g cap)).toArray) (isz _ _ rfl) rfl rfl hg3 (msg_cells _) (k := fun a w4 hx4 hgr4 hsz4 hF => ?_)
  have hb4 : Below w2.heap.size w2 w4 := ((Below.refl _ w2).grown hgr3 (Nat.le_refl _) (fun k hk => by cases hk)).grown hgr4 (by omega) (fun k hk => by cases hk; exact Nat.le_refl _)
  have hx4 : MgAt w2.heap.size (m.at g cap) w4 := hx4
  have hm4 := hm2.below hb4
  have hl4 := hl.below hb4
  replace hb4 : Below w.heap.size w w4 := hB2.trans (hb4.mono hB2.size)
  clear hg3 hgr3 hgr4 hm1 hm2 hl hb2
  repeat (first | (refine c_region_mix (fun wq => MgAt w.heap.size m wq ∧ MgAt w2.heap.size (m.at g cap) wq) [(0, true), (2, true), (1, false), (3, false), (4, false), (5, true), (6, true), (7, true), (8, false), (9, true), (10, true)] 2 mixed (by kernel_rfl) ⟨hm4, hx4⟩ ?_; simp only [pickX, List.filterMap_cons, List.getElem?_cons_zero, List.getElem?_cons_succ, List.filterMap_nil, Option.map_some]) | refine c_seq ?_ | refine wpList_nil ?_ | refine c_then ?_)
  have hdb : Below w4.heap.size w4 (w4.drewN 1) := below_more (Below.refl _ w4) 1
  generalize w4.drewN 1 = w5 at *
  have hB5 : Below w.heap.size w w5 := hb4.trans (hdb.mono hb4.size)
  have hm5 := hm4.below hdb
  have hx5 := hx4.below hdb
  have hl5 := hl4.below hdb
  obtain ⟨qs, hqin, hqB, hqE, hqL, hqC⟩ := lent_in hl5 hin hB
  clear hm4 hx4 hl4 hdb
  repeat (((apply x_step hF); intro wq hwq; (first | exact d_loadAgg (agg _ rfl) (isz _ _ rfl) rfl (cells_at hwq.1) | exact d_loadAgg (agg _ rfl) (isz _ _ rfl) rfl (cells_at hwq.2)); clear hF; clear a; intro a hF))
  refine x_one ?_
  refine stc hF (cmsg_ok w5 (m.at g cap) qs hqin hqB (hT.below hB5)) cal7 ⟨rfl, trivial⟩ (k := fun a v w6 hR hF => ?_)
  obtain ⟨rfl, hb6⟩ := hR
  rw [hqE, hqL, hqC] at hF
  have hm6 := hm5.below hb6
  have hx6 := hx5.below hb6
  have hl6 := hl5.below hb6
  have hB6 := hB5.trans (hb6.mono hB5.size)
  refine wpList_nil ⟨rfl, ⟨hm6, hx6⟩, x_one ?_⟩
  refine stc hF (rmsg_ok w6 m ps (SigsIn.below hin hB6) hB) cal8 ⟨rfl, trivial⟩ (k := fun a v w7 hR hF => ?_)
  obtain ⟨rfl, hb7⟩ := hR
  have hm7 := hm6.below hb7
  have hx7 := hx6.below hb7
  have hl7 := hl6.below hb7
  have hB7 := hB6.trans (hb7.mono hB6.size)
  refine wpList_nil ⟨rfl, ⟨hm7, hx7⟩, x_one ?_⟩
  refine stc hF (told_ok w7 _ _ _ (hh.below hB7) (msgE_bnd m ps)) cal6 ⟨rfl, rfl, trivial⟩ (k := fun a v w8 hR hF => ?_)
  obtain ⟨rfl, hb8⟩ := hR
  have hm8 := hm7.below hb8
  have hx8 := hx7.below hb8
  have hl8 := hl7.below hb8
  have hB8 := hB7.trans (hb8.mono hB7.size)
  refine wpList_nil ⟨rfl, ⟨hm8, hx8⟩, ?_⟩
  repeat (((first | apply x_step hF | apply x_stg hF); intro wq hwq; (first | exact d_move | exact d_loadAgg (agg _ rfl) (isz _ _ rfl) rfl (cells_at hwq.1) | exact d_loadAgg (agg _ rfl) (isz _ _ rfl) rfl (cells_at hwq.2)); clear hF; clear a; intro a hF))
  refine x_one ?_
  refine stcg hF (kept_message w8 m ps g cap _ (SigsIn.below hin hB8) hl8) cal9 ⟨rfl, rfl, trivial⟩ (k := fun a v w9 hR hF => ?_)
  obtain ⟨rfl, hb9⟩ := hR
  refine wpList_nil ⟨rfl, ⟨hm8.below hb9, hx8.below hb9⟩, ?_⟩
  repeat (((apply x_step hF); intro wq hwq; (first | exact d_assign | exact d_pickT); clear hF; clear a; intro a hF))
  refine x_nil ?_
  repeat (first | refine c_then ?_ | refine wp_ret ?_)
  exact ret1 hF rfl rfl ⟨rfl, hB8.trans (hb9.mono hB8.size)⟩
end Go.Proofs.YtjomihhpglojpaaGreatDoor
end
section
/- CheckDatabase, walked. -/
namespace Go.Proofs.YtjomihhpglojpaaGreatDoor
open Go.RowKit
set_option linter.unusedSimpArgs false
set_option linter.unusedVariables false
attribute [local irreducible] wpList wpQuiet wpStill Code.wp Exit.then Exit.inBlock bodyPost Calls Does Does0
set_option maxRecDepth 100000
theorem rdS_pre {α : Type} {w : World} {ao : Option Addr} {sz : Nat} {enc : α → List Value} {xs ys : List α} (h : RdS w ao sz enc (xs ++ ys)) : RdS w ao sz enc xs := by
  intro i hi
  obtain ⟨b, o, h1, h2⟩ := h i (by simp; omega)
  rw [List.getElem_append_left hi] at h2
  exact ⟨b, o, h1, h2⟩
/-- A lent list of signals is a list of signals; nothing else about it is new. -/
theorem lent_in2 {base : Nat} {w w0 : World} {m : Msg} {ps : List SigT} {g cap : Nat} (hl : LentS base w (.slice (some ⟨g, 0, none⟩) m.sgN cap) ps) (hin : MsgIn w0 m ps) (hB : ∀ p ∈ ps, SigB p.1) :
    ∃ qs, MsgIn w (m.at g cap) qs ∧ (∀ p ∈ qs, SigB p.1) ∧ SameM (m.at g cap) qs m ps ∧ SamePl (m.at g cap) qs m ps := by
  obtain ⟨g', cap', ls, e, hll, hown, hok⟩ := hl
  have hlen := hin.len
  have e1 : g = g' := Option.some.inj (congrArg Value.ownBlock e)
  have e2 : cap = cap' := by injection e
  subst e1; subst e2
  have hat : ∀ i, i < ps.length → ∃ gi ci, ls.getD i sigM = (sg ps i).at gi ci ∧ SigIn w ((sg ps i).at gi ci) (tx ps i) := by
    intro i hi
    obtain ⟨p, gi, ci, h1, h2, gt, ct, h3, h4⟩ := hok i hi
    have ep : ps[i] = p := by rw [List.getElem?_eq_getElem hi] at h1; exact Option.some.inj h1
    have hs := hin.each ps[i] (List.getElem_mem hi)
    rw [sg_lt hi, tx_lt hi]
    subst ep
    have eg : gi = gt := Option.some.inj (congrArg Value.ownBlock h3)
    have ec : ci = ct := by injection h3
    subst eg; subst ec
    refine ⟨gi, ci, by rw [List.getD_eq_getElem?_getD, h2]; rfl, hs.len, rd_pre' (own_rd h4).2, ?_, hs.bytes⟩
    have := (own_cap' h4).1
    have h5 := hs.len
    show ps[i].1.toN ≤ ci
    omega
  have hRd : RdS w (some ⟨g, 0, none⟩) 19 Sig.cells ls := rdS_pre (own_rdS sigc_len hown (by simp [hll]))
  refine ⟨zipP ls ps, ⟨by rw [zipP_len hll]; exact hlen, by rw [zipP_map hll]; exact hRd, fun p hp => ?_, ?_, hin.bytes⟩, fun p hp => ?_, ⟨rfl, rfl, rfl, rfl, rfl, rfl, zipP_len hll, fun i hi => ?_⟩, rfl, rfl, fun i hi => ?_⟩
  · obtain ⟨i, hi, rfl⟩ := List.getElem_of_mem hp
    have hi' : i < ps.length := by rw [zipP_len hll] at hi; exact hi
    have h1 := zipP_sg hll hi'
    have h2 := zipP_tx hll hi'
    rw [sg_lt hi] at h1
    rw [tx_lt hi] at h2
    obtain ⟨gi, ci, h3, h4⟩ := hat i hi'
    rw [h1, h2, h3]
    exact h4
  · have := (own_cap' hown).1
    show m.sgN ≤ cap
    omega
  · obtain ⟨i, hi, rfl⟩ := List.getElem_of_mem hp
    have hi' : i < ps.length := by rw [zipP_len hll] at hi; exact hi
    have h1 := zipP_sg hll hi'
    rw [sg_lt hi] at h1
    obtain ⟨gi, ci, h3, h4⟩ := hat i hi'
    rw [h1, h3]
    exact sigB_at' (by rw [sg_lt hi']; exact hB _ (List.getElem_mem hi')) _ _
  · rw [zipP_sg hll hi, zipP_tx hll hi]
    obtain ⟨gi, ci, h3, h4⟩ := hat i hi
    rw [h3]
    exact ⟨same_at _ _ _, rfl⟩
  · rw [zipP_sg hll hi]
    obtain ⟨gi, ci, h3, h4⟩ := hat i hi
    rw [h3]
    exact ⟨rfl, rfl⟩
theorem map_fst {α β : Type} {l : List (α × β)} {ls : List α} (hl : l.length = ls.length) (h : ∀ i (hi : i < l.length), ls[i]? = some l[i].1) : l.map (·.1) = ls := by
  apply List.ext_getElem?
  intro i
  by_cases hi : i < l.length
  · rw [List.getElem?_map, List.getElem?_eq_getElem hi, h i hi]; rfl
  · rw [List.getElem?_eq_none (by simp; omega), List.getElem?_eq_none (by omega)]
theorem lentm_in {base : Nat} {w w0 : World} {ms : List MsgT} {so : Option Addr} {g n cap sc : Nat} (h : LentMs base w (.slice (some ⟨g, 0, none⟩) n cap) ms) (hin : MsgsIn w0 so n sc ms) :
    ∃ ms' : List MsgT, ms'.length = ms.length ∧ MsgsIn w (some ⟨g, 0, none⟩) n cap ms' ∧ ∀ i, i < ms.length → SameM (ms_ ms' i) (mp_ ms' i) (ms_ ms i) (mp_ ms i) ∧ SamePl (ms_ ms' i) (mp_ ms' i) (ms_ ms i) (mp_ ms i) := by
  obtain ⟨g', cap', ls, e, hll, hown, hok⟩ := h
  have hlen := hin.len
  have e1 : g = g' := Option.some.inj (congrArg Value.ownBlock e)
  have e2 : cap = cap' := by injection e
  subst e1; subst e2
  obtain ⟨l, hl, hP⟩ := list_mk (α := MsgT) (Pr := fun i x => ls[i]? = some x.1 ∧ MsgIn w x.1 x.2 ∧ (∀ p ∈ x.2, SigB p.1) ∧ SameM x.1 x.2 (ms_ ms i) (mp_ ms i) ∧ SamePl x.1 x.2 (ms_ ms i) (mp_ ms i)) ms.length (fun i hi => by
    obtain ⟨p, gi, ci, h1, h2, h3⟩ := hok i hi
    have e : ms[i] = p := by rw [List.getElem?_eq_getElem hi] at h1; exact Option.some.inj h1
    have hm := hin.each p (by rw [← e]; exact List.getElem_mem hi)
    have hB := (hin.bnd p (by rw [← e]; exact List.getElem_mem hi)).1
    obtain ⟨qs, a1, a2, a3, a4⟩ := lent_in2 h3 hm hB
    refine ⟨(p.1.at gi ci, qs), h2, a1, a2, ?_⟩
    rw [ms_lt hi, mp_lt hi, e]
    exact ⟨a3, a4⟩)
  have hmap : l.map (·.1) = ls := map_fst (by omega) fun i hi => (hP i hi).1
  refine ⟨l, hl, ⟨by omega, ?_, fun p hp => ?_, fun p hp => ?_, by have := (own_cap' hown).1; omega, hin.bytes⟩, fun i hi => ?_⟩
  · rw [hmap]
    exact rdS_pre (own_rdS msgc_len hown (by simp [hll]))
  · obtain ⟨i, hi, rfl⟩ := List.getElem_of_mem hp
    exact (hP i hi).2.1
  · obtain ⟨i, hi, rfl⟩ := List.getElem_of_mem hp
    have hi' : i < ms.length := by omega
    refine ⟨(hP i hi).2.2.1, ?_⟩
    rw [(hP i hi).2.2.2.1.id, ms_lt hi']
    exact (hin.bnd _ (List.getElem_mem hi')).2
  · have hi' : i < l.length := by omega
    rw [ms_lt hi', mp_lt hi']
    exact (hP i hi').2.2.2
theorem lentt_in {base : Nat} {w w0 : World} {ts : List TabT} {so : Option Addr} {g n cap sc : Nat} (h : LentTs base w (.slice (some ⟨g, 0, none⟩) n cap) ts) (hin : TabsIn w0 so n sc ts) :
    ∃ ts' : List TabT, ts'.length = ts.length ∧ TabsIn w (some ⟨g, 0, none⟩) n cap ts' ∧ ∀ i, i < ts.length → SameT (ts_ ts' i) (tr_ ts' i) (ts_ ts i) (tr_ ts i) ∧ (ts_ ts' i).line = (ts_ ts i).line ∧ (ts_ ts' i).col = (ts_ ts i).col := by
  obtain ⟨g', cap', ls, e, hll, hown, hok⟩ := h
  have hlen := hin.len
  have e1 : g = g' := Option.some.inj (congrArg Value.ownBlock e)
  have e2 : cap = cap' := by injection e
  subst e1; subst e2
  obtain ⟨l, hl, hP⟩ := list_mk (α := TabT) (Pr := fun i x => ls[i]? = some x.1 ∧ RowsIn w x.1 x.2 ∧ (SameT x.1 x.2 (ts_ ts i) (tr_ ts i) ∧ x.1.line = (ts_ ts i).line ∧ x.1.col = (ts_ ts i).col) ∧ (0 ≤ x.1.id ∧ x.1.id < 4294967296) ∧ x.1.sig.size ≤ maxLen) ts.length (fun i hi => by
    obtain ⟨p, gi, ci, h1, h2, gt, ct, h3, h4⟩ := hok i hi
    have e : ts[i] = p := by rw [List.getElem?_eq_getElem hi] at h1; exact Option.some.inj h1
    have hm := hin.each p (by rw [← e]; exact List.getElem_mem hi)
    have hB := hin.bnd p (by rw [← e]; exact List.getElem_mem hi)
    have eg : gi = gt := Option.some.inj (congrArg Value.ownBlock h3)
    have ec : ci = ct := by injection h3
    subst eg; subst ec
    have hml := hm.len
    refine ⟨(p.1.at gi ci, p.2), h2, ⟨hm.len, rdS_pre (own_rdS rowc_len h4 (by simp [marksR_len])), ?_, hm.bytes, hm.val⟩, ?_, hB⟩
    · have := (own_cap' h4).1
      show p.1.rwN ≤ ci
      omega
    · rw [ts_lt hi, tr_lt hi, e]
      exact ⟨⟨rfl, rfl, rfl, rfl⟩, rfl, rfl⟩)
  have hmap : l.map (·.1) = ls := map_fst (by omega) fun i hi => (hP i hi).1
  refine ⟨l, hl, ⟨by omega, ?_, fun p hp => ?_, fun p hp => ?_, by have := (own_cap' hown).1; omega, hin.bytes⟩, fun i hi => ?_⟩
  · rw [hmap]
    exact rdS_pre (own_rdS tabc_len hown (by simp [hll]))
  · obtain ⟨i, hi, rfl⟩ := List.getElem_of_mem hp
    exact (hP i hi).2.1
  · obtain ⟨i, hi, rfl⟩ := List.getElem_of_mem hp
    exact (hP i hi).2.2.2
  · have hi' : i < l.length := by omega
    rw [ts_lt hi', tr_lt hi']
    exact (hP i hi').2.2.1
theorem lentd_in {base : Nat} {w w0 : World} {d : Db} {ss : List ByteArray} {ms : List MsgT} {ts : List TabT} {g1 c1 g2 c2 g3 c3 : Nat} (h : LentDb base w d ss ms ts g1 c1 g2 c2 g3 c3) (hin : DbIn w0 d ss ms ts) :
    ∃ ms' ts', DbIn w (d.at g1 c1 g2 c2 g3 c3) ss ms' ts' ∧ dbE (d.at g1 c1 g2 c2 g3 c3) ss ms' ts' = dbE d ss ms ts := by
  obtain ⟨ms', l1, m1, s1⟩ := lentm_in h.m hin.msgs
  obtain ⟨ts', l2, t2, s2⟩ := lentt_in h.t hin.tabs
  obtain ⟨g, cap, e, hown⟩ := h.s
  have hsl := hin.slen
  have e1 : g3 = g := Option.some.inj (congrArg Value.ownBlock e)
  have e2 : c3 = cap := by injection e
  subst e1; subst e2
  have hid : ∀ i, i < ms.length → 0 ≤ (ms_ ms i).id ∧ (ms_ ms i).id < 4294967296 := fun i hi => by rw [ms_lt hi]; exact (hin.msgs.bnd _ (List.getElem_mem hi)).2
  refine ⟨ms', ts', ⟨hin.slen, rd_pre' (own_rd hown).2, ?_, hin.sbytes, m1, t2⟩, dbE_same ⟨rfl, rfl, rfl, rfl, rfl, rfl⟩ l1 l2 hid s1 s2⟩
  have := (own_cap' hown).1
  show d.snN ≤ c3
  omega
set_option maxHeartbeats 8000000 in
theorem checkdatabase_ok (w : World) (d : Db) (ss : List ByteArray) (ms : List MsgT) (ts : List TabT) (hin : DbIn w d ss ms ts) (hh : Handle w) (hT : Tabs w) :
    Ret Tryz.prog 4 #[.agg (Db.cells d).toArray] w (fun v w' => v = .bool true ∧ Below w.heap.size w w') := by
  refine enter1 Tryz.func4 rfl 15 rfl 16 rfl (fun a hF => ?_)
  repeat (first | refine c_seq ?_ | refine c_region _ ?_)
  refine st_box hF (cs := (Db.cells d).toArray) rfl (k := fun a w1 hg1 hgr1 hsz1 hF => ?_)
  have hb1 : Below w.heap.size w w1 := (Below.refl _ w).grown hgr1 (Nat.le_refl _) (fun k hk => by cases hk)
  have hm1 : DgAt w.heap.size d w1 := hg1
  clear hg1 hgr1
  repeat (first | refine c_seq ?_ | refine c_region _ ?_ | refine wpList_nil ?_ | refine c_then ?_ | ((apply st hF); (first | exact d_assign | exact d_loadAgg (agg _ rfl) (isz _ _ rfl) rfl (cells_at hm1)); clear hF; clear a; intro a hF))
  refine stc hF (lent_db w1 d ss ms ts (hin.below hb1)) cal10 ⟨rfl, trivial⟩ (k := fun a v w2 hR hF => ?_)
  obtain ⟨g1, c1, g2, c2, g3, c3, rfl, hl, hb2⟩ := hR
  have hm2 := hm1.below hb2
  have hB2 : Below w.heap.size w w2 := hb1.trans (hb2.mono hb1.size)
  obtain ⟨dx, hdx⟩ : ∃ x, x = d.at g1 c1 g2 c2 g3 c3 := ⟨_, rfl⟩
  rw [← hdx] at hF
  refine st_alloc hF inf46 (k := fun a w3 hg3 hgr3 hsz3 hF => ?_)
  refine st_storeAgg hF (cs := (Db.cells dx).toArray) (isz _ _ rfl) rfl rfl hg3 (db_cells _) (k := fun a w4 hx4 hgr4 hsz4 hF => ?_)
  have hb4 : Below w2.heap.size w2 w4 := ((Below.refl _ w2).grown hgr3 (Nat.le_refl _) (fun k hk => by cases hk)).grown hgr4 (by omega) (fun k hk => by cases hk; exact Nat.le_refl _)
  have hx4 : DgAt w2.heap.size dx w4 := hx4
  have hm4 := hm2.below hb4
  have hl4 := hl.below hb4
  replace hb4 : Below w.heap.size w w4 := hB2.trans (hb4.mono hB2.size)
  clear hg3 hgr3 hgr4 hm1 hm2 hl hb2
  repeat (first | (refine c_region_mix (fun wq => DgAt w.heap.size d wq ∧ DgAt w2.heap.size dx wq) [(0, true), (2, true), (1, false), (3, false), (4, false), (5, true), (6, true), (7, true), (8, false), (9, true), (10, true)] 2 mixed (by kernel_rfl) ⟨hm4, hx4⟩ ?_; simp only [pickX, List.filterMap_cons, List.getElem?_cons_zero, List.getElem?_cons_succ, List.filterMap_nil, Option.map_some]) | refine c_seq ?_ | refine wpList_nil ?_ | refine c_then ?_)
  have hdb : Below w4.heap.size w4 (w4.drewN 1) := below_more (Below.refl _ w4) 1
  generalize w4.drewN 1 = w5 at *
  have hB5 : Below w.heap.size w w5 := hb4.trans (hdb.mono hb4.size)
  have hm5 := hm4.below hdb
  have hx5 := hx4.below hdb
  have hl5 := hl4.below hdb
  obtain ⟨ms', ts', hqin, hqE⟩ := lentd_in hl5 hin
  rw [← hdx] at hqin hqE
  clear hm4 hx4 hl4 hdb
  repeat (((apply x_step hF); intro wq hwq; (first | exact d_loadAgg (agg _ rfl) (isz _ _ rfl) rfl (cells_at hwq.1) | exact d_loadAgg (agg _ rfl) (isz _ _ rfl) rfl (cells_at hwq.2)); clear hF; clear a; intro a hF))
  refine x_one ?_
  refine stc hF (cdb_ok w5 dx ss ms' ts' hqin (hT.below hB5)) cal11 ⟨rfl, trivial⟩ (k := fun a v w6 hR hF => ?_)
  obtain ⟨rfl, hb6⟩ := hR
  rw [hqE] at hF
  have hm6 := hm5.below hb6
  have hx6 := hx5.below hb6
  have hl6 := hl5.below hb6
  have hB6 := hB5.trans (hb6.mono hB5.size)
  refine wpList_nil ⟨rfl, ⟨hm6, hx6⟩, x_one ?_⟩
  refine stc hF (rdb_ok w6 d ss ms ts (hin.below hB6)) cal12 ⟨rfl, trivial⟩ (k := fun a v w7 hR hF => ?_)
  obtain ⟨rfl, hb7⟩ := hR
  have hm7 := hm6.below hb7
  have hx7 := hx6.below hb7
  have hl7 := hl6.below hb7
  have hB7 := hB6.trans (hb7.mono hB6.size)
  refine wpList_nil ⟨rfl, ⟨hm7, hx7⟩, x_one ?_⟩
  refine stc hF (told_ok w7 _ _ _ (hh.below hB7) (db_bnd d ss ms ts)) cal6 ⟨rfl, rfl, trivial⟩ (k := fun a v w8 hR hF => ?_)
  obtain ⟨rfl, hb8⟩ := hR
  have hm8 := hm7.below hb8
  have hx8 := hx7.below hb8
  have hl8 := hl7.below hb8
  have hB8 := hB7.trans (hb8.mono hB7.size)
  refine wpList_nil ⟨rfl, ⟨hm8, hx8⟩, ?_⟩
  repeat (((first | apply x_step hF | apply x_stg hF); intro wq hwq; (first | exact d_move | exact d_loadAgg (agg _ rfl) (isz _ _ rfl) rfl (cells_at hwq.1) | exact d_loadAgg (agg _ rfl) (isz _ _ rfl) rfl (cells_at hwq.2)); clear hF; clear a; intro a hF))
  refine x_one ?_
  rw [hdx] at hF hx8
  refine stcg hF (kept_db w8 d ss ms ts g1 c1 g2 c2 g3 c3 _ (hin.below hB8) hl8) cal13 ⟨rfl, rfl, trivial⟩ (k := fun a v w9 hR hF => ?_)
  obtain ⟨rfl, hb9⟩ := hR
  rw [hdx]
  refine wpList_nil ⟨rfl, ⟨hm8.below hb9, hx8.below hb9⟩, ?_⟩
  repeat (((apply x_step hF); intro wq hwq; (first | exact d_assign | exact d_pickT); clear hF; clear a; intro a hF))
  refine x_nil ?_
  repeat (first | refine c_then ?_ | refine wp_ret ?_)
  exact ret1 hF rfl rfl ⟨rfl, hB8.trans (hb9.mono hB8.size)⟩
end Go.Proofs.YtjomihhpglojpaaGreatDoor
end
