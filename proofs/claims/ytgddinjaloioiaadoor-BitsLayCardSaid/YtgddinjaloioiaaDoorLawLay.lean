/- BitsLay returns true for every payload, row and number, and leaves its arguments as they were: its card. The condition: the library's variable errors.errorType holds what the program's text lays in it (the card ties that). -/
import Derived.Test.YtgddinjaloioiaaDoorRows
import Derived.Test.YtgddinjaloioiaaDoorCards
import Derived.Test.YtgddinjaloioiaaDoorTie
import Derived.Test.YtgddinjaloioiaaDoorLift
import Derived.Test.YtgddinjaloioiaaDoorLiftD
import Derived.Test.YtgddinjaloioiaaDoorLayD
import Derived.SizedLaws
import Derived.SevenTiedAt
namespace Go.Proofs.YtgddinjaloioiaaDoor.LawLay
open Go.ChangeShapes Go.WideShapes Go.ChangeAt Go.RowKit
open Go.ChangeMaps (open_string shut_string)
set_option linter.unusedVariables false

theorem wf_u8 {x : Int} (h : (Lit.int .u8 x).wf = true) : ∃ n : Nat, x = (n : Int) ∧ n < 256 := by
  have h1 : IntKind.u8.min ≤ x ∧ x ≤ IntKind.u8.max := by simpa [Lit.wf] using h
  rw [show IntKind.u8.min = 0 by decide, show IntKind.u8.max = 255 by decide] at h1
  exact ⟨x.toNat, by omega, by omega⟩
theorem bytes_of {w : World} {ao : Option Addr} {xs : List Int} (h : Rd w ao (.int .u8) xs) (hw : ∀ x ∈ xs, (Lit.int .u8 x).wf = true) : ∃ p : List Nat, p.length = xs.length ∧ Rd w ao u8v p ∧ ∀ x ∈ p, x < 256 := by
  refine ⟨xs.map Int.toNat, by simp, fun i hi => ?_, fun x hx => ?_⟩
  · obtain ⟨b, o, e, hc⟩ := h i (by simpa using hi)
    refine ⟨b, o, e, ?_⟩
    obtain ⟨n, hn, _⟩ := wf_u8 (hw _ (List.getElem_mem (by simpa using hi)))
    rw [hc, List.getElem_map, hn]
    rfl
  · obtain ⟨y, hy, rfl⟩ := List.mem_map.1 hx
    obtain ⟨n, rfl, hl⟩ := wf_u8 (hw y hy)
    simpa using hl
theorem wf_u64 {x : Int} (h : (Lit.int .u64 x).wf = true) : ∃ n : Nat, x = (n : Int) ∧ n < 2 ^ 64 := by
  have h1 : IntKind.u64.min ≤ x ∧ x ≤ IntKind.u64.max := by simpa [Lit.wf] using h
  rw [show IntKind.u64.min = 0 by decide, show IntKind.u64.max = 18446744073709551615 by decide] at h1
  exact ⟨x.toNat, by omega, by omega⟩
/-- A list's size out of what the form bounds. -/
theorem small_of {H : Type} {enc : TypeId × Value → H} {P : Program} {W : World} {t e : TypeId} {a : Option Addr} {len cap : Nat} {d : DataW H} {ps : List MemPlace} (h : DataW.Trod enc P W 0 (fun _ => true) true t (.slice a len cap) d ps) (hw : ∀ n ∈ d.weights P t, n ≤ reachBytes) (ht : P.underlying t = some (.slice e)) (hc : 0 < P.cellsOf e) : len * P.bytesOf e ≤ reachBytes := by
  obtain ⟨ao, l, c, e1, hl, _, hb, _⟩ := (rdw_of h hw).slice ht hc
  have e2 : [Value.slice a len cap] = [Value.slice ao l c] := e1
  cases e2
  exact Nat.le_trans (Nat.mul_le_mul_right _ hl) hb

theorem own : ownKnob Tryd.prog.godebug = none := by kernel_rfl
theorem laidOut : laidOutB Tryd.prog = true := by kernel_rfl

set_option maxRecDepth 100000 in
theorem lifted (os : Os) (started : os.Started) (H : Type) (enc : TypeId × Value → H) :
    ReturnsInHanded {} Tryd.checked os 4 .any (fun w args => (Rows.bitsLaySpec.pre enc Tryd.prog Tryd.f4 [] false w args ∧ laidMetH Tryd.prog theLaid w) ∧ sizedMet enc Tryd.prog Tryd.f4 (OpenSpec.ofChange Rows.bitsLaySpec) false w args) (Rows.bitsLaySpec.post enc Tryd.prog Tryd.f4 false true false false) := by
  refine returnsInHanded_of_change_and (C := Tryd.checked) (X := fun w _ => laidMetH Tryd.prog theLaid w) (fun _ _ _ hh h => h.of_heap hh) own started (by kernel_rfl) Tryd.func4
    (ChangeSpec.witness_at (enc := enc) (C := Tryd.checked) (os := os) (X := fun w _ => laidMetH Tryd.prog theLaid w) false (laidWorld os) #[.slice none 0 0, .slice none 0 0, .int .u64 0] 8 rfl (by kernel_rfl) (by kernel_rfl) (by kernel_rfl) (by kernel_rfl) (by kernel_rfl) (laidWorld_met os _)) ?_
  intro W base args ds gs before hval0 hW hcnd hsz0 hL hholds
  have hg := handle_of_laid hL
  have hval : ∀ (j : Nat) t v, Tryd.f4.params[j]? = some t → args[j]? = some v → Value.okWide Tryd.prog W .any base t v := hval0
  have hW' := hW
  obtain ⟨p, q, hA0, hV, rfl, hfz, hnd⟩ := hW
  have hA : DataW.TrodAll enc Tryd.prog W 0 (fun _ => true) true Tryd.f4.params.toList args.toList ds p := hA0
  have hsz : (DataW.weightsEach Tryd.prog (Tryd.f4.params.toList ++ Rows.bitsLaySpec.plain.varTypes Tryd.prog) (ds ++ gs)).all (· ≤ reachBytes) = true := hsz0
  rw [Tryd.params4] at hA hval hsz
  obtain ⟨v0, vs0, d0, ds0, p0, q0, hargs, rfl, rfl, h0, r0⟩ := trodAll_cons hA
  obtain ⟨v1, vs1, d1, ds1, p1, q1, rfl, rfl, rfl, h1, r1⟩ := trodAll_cons r0
  obtain ⟨v2, vs2, d2, ds2, p2, q2, rfl, rfl, rfl, h2, r2⟩ := trodAll_cons r1
  obtain ⟨rfl, rfl, rfl⟩ := trodAll_nil r2
  obtain rfl : args = #[v0, v1, v2] := by cases args; simp_all
  obtain ⟨rfl, rfl⟩ := trodVars_none hV
  have k0 := h0
  have lt0 : ∀ x ∈ p0, x.block < W.heap.size := by obtain ⟨m, hm⟩ := k0; exact DataW.trod_lt m _ _ _ hm
  obtain ⟨a0, len0, cap0, rfl⟩ := okWide_slice Tryd.underlying22 (hval 0 22 v0 rfl rfl)
  obtain ⟨xs0, rfl, hle0, hm0, rd0, w0⟩ := open_rd_int Tryd.underlying22 Tryd.underlying5 (by kernel_rfl) h0
  have k1 := h1
  have lt1 : ∀ x ∈ p1, x.block < W.heap.size := by obtain ⟨m, hm⟩ := k1; exact DataW.trod_lt m _ _ _ hm
  obtain ⟨a1, len1, cap1, rfl⟩ := okWide_slice Tryd.underlying39 (hval 1 39 v1 rfl rfl)
  obtain ⟨xs1, rfl, hle1, hm1, rd1, w1⟩ := open_rd_int Tryd.underlying39 Tryd.underlying3 (by kernel_rfl) h1
  obtain ⟨a2, rfl, rfl, rfl, w2⟩ := open_int Tryd.underlying40 (hval 2 40 v2 rfl rfl) h2
  clear hA0 hval0
  refine Calls.mono (show Ret _ _ _ W (fun v w' => v = .bool true ∧ Below W.heap.size W w') from (by obtain ⟨p, hpl, hp, hp256⟩ := bytes_of rd0 w0; obtain ⟨vn, rfl, hvn⟩ := wf_u64 w2; exact bitslay_ok W p a0 _ cap0 xs1 a1 _ cap1 vn hg hpl hp hp256 rfl rd1 hvn (small_of k0 (fun n hn => by simpa using List.all_eq_true.1 hsz n (DataW.weights_mem_each (j := 0) rfl rfl n hn)) Tryd.underlying22 (of_decide_eq_true (by kernel_rfl))) (small_of k1 (fun n hn => by simpa using List.all_eq_true.1 hsz n (DataW.weights_mem_each (j := 1) rfl rfl n hn)) Tryd.underlying39 (of_decide_eq_true (by kernel_rfl))))) fun e W' ⟨v, he, hv, bel⟩ => ?_
  subst he; subst hv
  exact ⟨_, rfl, _, _, _, [], _, [], hW', trodAll_mk1 (shut_bool Tryd.underlying4 _), (trodAll_cons_mk (Below.trod laidOut (by kernel_rfl) (of_decide_eq_true (by kernel_rfl)) k0 bel lt0) (trodAll_cons_mk (Below.trod laidOut (by kernel_rfl) (of_decide_eq_true (by kernel_rfl)) k1 bel lt1) (trodAll_cons_mk (shut_int Tryd.underlying40 w2) trodAll_mk0))), rfl, bel.frame _, fun h => by cases h⟩

theorem over : Rows.bitsLayRow.holds Tryd.pinned (OpenSpec.ofChange Rows.bitsLaySpec) :=
  OpenClaim.holds_of_wide 4 Tryd.f4 rfl rfl rfl rfl rfl rfl rfl ⟨rfl, rfl, rfl, rfl, rfl⟩ rfl rfl rfl rfl rfl (by kernel_rfl) Tryd.func4 (by kernel_rfl)
    (of_decide_eq_true (by kernel_rfl)) (by unfold Func.isWrapper; first | (rw [if_pos (by decide +kernel)]; kernel_rfl) | (rw [if_neg (by decide +kernel)]; exact ⟨rfl, rfl⟩))
    (fun os started H enc _ => lifted os started H enc)

/-- The statement: the card. -/
theorem proved : Rows.BitsLayCardSaid :=
  Claim7.holds_tied_plain_at .later [] [.handle] true (true, "caee8a3a2a7ffc3265ff4f1ff5a82c88af8a488abb4cf375009d9f400646ae92") true
    over (fun _ h => by cases h) (by kernel_rfl) (fun _ h => by cases h) bitsLay_row_tie rfl ⟨rfl, rfl⟩ (by kernel_rfl) rfl
    (fun f fn hf hfn => by
      obtain rfl : f = 4 := Option.some.inj ((show Tryd.prog.funcNamed "busbar/busbarlaw01.BitsLay" = some 4 by kernel_rfl).symm.trans hf) |>.symm
      obtain rfl : fn = Tryd.f4 := (Option.some.inj (Tryd.func4.symm.trans hfn)).symm
      exact ⟨by kernel_rfl, fun j t ht => by
        rw [Tryd.params4] at ht
        rcases j with _ | j
        · obtain rfl : t = 22 := by simpa using ht.symm
          exact (show Tryd.prog.wantsStandIn 22 = false by kernel_rfl)
        rcases j with _ | j
        · obtain rfl : t = 39 := by simpa using ht.symm
          exact (show Tryd.prog.wantsStandIn 39 = false by kernel_rfl)
        rcases j with _ | j
        · obtain rfl : t = 40 := by simpa using ht.symm
          exact (show Tryd.prog.wantsStandIn 40 = false by kernel_rfl)
        simp at ht⟩)
    (by kernel_rfl)

end Go.Proofs.YtgddinjaloioiaaDoor.LawLay
