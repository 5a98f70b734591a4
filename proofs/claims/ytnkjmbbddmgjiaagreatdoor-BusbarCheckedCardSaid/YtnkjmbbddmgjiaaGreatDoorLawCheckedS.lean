/- BusbarChecked returns true for every input: its card. The condition: the library's variables that the row lists hold what the program's text lays in them (the card ties that). -/
import Derived.Test.YtnkjmbbddmgjiaaGreatDoorSumLawCheckedS23
set_option linter.unusedSimpArgs false
set_option linter.unusedVariables false
set_option maxRecDepth 1000000
set_option maxHeartbeats 400000000
namespace Go.Proofs.YtnkjmbbddmgjiaaGreatDoor.LawChecked
open Go.ChangeShapes Go.WideShapes Go.ChangeAt Go.RowKit
open Go.ChangeMaps (open_string shut_string)
theorem own:ownKnob Tryz.prog.godebug=none:=bh
theorem laidOut:laidOutB Tryz.prog=true:=bh
theorem lifted(os:Os)(started:os.Started)(H:Type)(enc:TypeId × Value->H):
  ReturnsInHanded {} Tryz.checked os 3 .any (λw args=>(Rows.busbarCheckedSpec.pre enc Tryz.prog Tryz.f3 [] false w args/\laidMetH Tryz.prog tO w)/\sizedMet enc Tryz.prog Tryz.f3 (OpenSpec.ofChange Rows.busbarCheckedSpec) false w args) (Rows.busbarCheckedSpec.post enc Tryz.prog Tryz.f3 false true false false):=by
 refine returnsInHanded_of_change_and (C:=Tryz.checked) (X:=λw _=>laidMetH Tryz.prog tO w) (λ_ _ _ fa h=>h.of_heap fa) own started bh Tryz.func3
  (ap5 (enc:=enc) (C:=Tryz.checked) (os:=os) (s:=Rows.busbarCheckedSpec) (X:=λw _=>laidMetH Tryz.prog tO w) false (Xi os) #[.slice none 0 0,.int .i64 0,.int .i64 0,.slice none 0 0,.slice none 0 0] 8 rfl bh bh bh bh bh (ajJ os _)) ?_
 intro W base args ds gs before Wj k8 aru V8 bU arC
 skip
 have tM:∀(j:Nat) t v,Tryz.f3.params[j]? =some t->args[j]? =some v->Value.okWide Tryz.prog W .any base t v:=Wj;have age:=k8;obtain⟨p,q,MN,gi,rfl,Cy,vb⟩:=k8;have eK:DataW.TrodAll enc Tryz.prog W 0 (λ_=>true) true Tryz.f3.params.toList args.toList ds p:=MN;have bT:(DataW.weightsEach Tryz.prog (Tryz.f3.params.toList++Rows.busbarCheckedSpec.plain.varTypes Tryz.prog) (ds++gs)).all (· <=reachBytes)=true:=V8;rw [Tryz.params3]at eK tM bT;obtain⟨v0,ati,d0,aqI,nN,amq,aro,rfl,rfl,aJ,xE⟩:=trodAll_cons eK;obtain⟨v1,atj,d1,aqJ,cN,qM,rfl,rfl,rfl,U,hp⟩:=trodAll_cons xE;obtain⟨v2,atk,d2,aqK,gl,kd,rfl,rfl,rfl,ae,fe⟩:=trodAll_cons hp;obtain⟨v3,atl,d3,aqL,gu,Bd,rfl,rfl,rfl,aM,iM⟩:=trodAll_cons fe;obtain⟨v4,atm,d4,aqM,fu,amr,rfl,rfl,rfl,cc,ib⟩:=trodAll_cons iM;obtain⟨rfl,rfl,rfl⟩:=trodAll_nil ib;obtain rfl:args=#[v0,v1,v2,v3,v4]:=by cases args;simp_all
 obtain⟨rfl,rfl⟩:=trodVars_none gi;have Pl:=aJ;have akA:∀x∈nN,x.block<W.heap.size:=by obtain⟨m,hm⟩:=Pl;exact azx m _ _ _ hm
 obtain⟨a0,asR,aqz,rfl⟩:=okWide_slice avm (tM 0 22 v0 rfl rfl);obtain⟨aqk,rfl,FG,Jj,amH,cy⟩:=PU avm au5 bh aJ;obtain⟨e6,rfl,rfl,rfl,aq⟩:=open_int atX (tM 1 3 v1 rfl rfl) U;obtain⟨a2,rfl,rfl,rfl,ax⟩:=open_int atX (tM 2 3 v2 rfl rfl) ae;have pO:=aM;have akB:∀x∈gu,x.block<W.heap.size:=by obtain⟨m,hm⟩:=pO;exact azx m _ _ _ hm
 obtain⟨a3,asS,aqA,rfl⟩:=okWide_slice avm (tM 3 22 v3 rfl rfl);obtain⟨aql,rfl,ahg,sx,amI,a6⟩:=PU avm au5 bh aM;have vn:=cc;have akC:∀x∈fu,x.block<W.heap.size:=by obtain⟨m,hm⟩:=vn;exact azx m _ _ _ hm
 obtain⟨a4,asT,aqB,rfl⟩:=okWide_slice axC (tM 4 23 v4 rfl rfl);obtain⟨aqm,rfl,ahh,nA,amJ,bZ⟩:=PU axC auM bh cc;clear MN Wj;refine auC (show bd _ _ _ W (λv w'=>v=.bool true/\Below W.heap.size W w')from apc W bU aqk aql aqm e6 a2 amH amI amJ cy a6 bZ (atN FG Jj) (atN ahg sx) (atN ahh nA) (λq aZ=>by subst aZ;exact alK avm (tM 0 22 _ rfl rfl))) λe hh ⟨v,he,ao,v7⟩=>?_;subst he;subst ao;exact⟨_,rfl,_,_,_,[],_,[],age,trodAll_mk1 (shut_bool aut _),(axk (Below.trod laidOut bh (auo bh) Pl v7 akA) (axk (shut_int atX aq) (axk (shut_int atX ax) (axk (Below.trod laidOut bh (auo bh) pO v7 akB) (axk (Below.trod laidOut bh (auo bh) vn v7 akC) trodAll_mk0))))),rfl,v7.frame _,λh=>by cases h⟩
theorem closed:joinedFacts Tryz.pinned.checked.prog 3 Tryz.f3 Rows.busbarCheckedSpec Rows.busbarCheckedRow=true:=by
 unfold joinedFacts;simp only [atP];repeat' apply And.intro
 all_goals (as_aux_lemma=>kernel_rfl)
theorem over:Rows.busbarCheckedRow.holds Tryz.pinned (OpenSpec.ofChange Rows.busbarCheckedSpec):=
 OpenClaim.holds_of_wide 3 Tryz.f3 rfl rfl rfl rfl rfl rfl rfl ⟨rfl,rfl,rfl,rfl,rfl⟩ rfl rfl rfl rfl rfl bh Tryz.func3 closed
  (auo bh) (by unfold Func.isWrapper;first|(rw [atM bo];kernel_rfl)|(rw [atK bo];exact⟨rfl,rfl⟩))
  (λos started H enc _=>lifted os started H enc)
theorem proved:Rows.BusbarCheckedCardSaid:=
 Claim7.holds_tied_plain_at .later [] [.data,.data,.data,.data,.handle,.sentinel,.sentinel,.listed,.data,.pinned] true (true, "247ac9c035e904c5735477dff06e51f35dde55d232fa20c64774cdb9fbdd8bca") true
  over (λ_ h=>by cases h) bh (λ_ h=>by cases h) busbarChecked_row_tie rfl ⟨rfl,rfl⟩ bh rfl
  (λf fn bC sn=>by
   obtain rfl:f=3:=aud ((show Tryz.prog.funcNamed "busbar/busbartop.BusbarChecked" =some 3 by kernel_rfl).symm.trans bC)|>.symm
   obtain rfl:fn=Tryz.f3:=(aud (Tryz.func3.symm.trans sn)).symm;exact⟨bh,λj t bW=>by
    rw [Tryz.params3]at bW;rcases j with _|j
    · obtain rfl:t=22:=by simpa using bW.symm
      exact(show Tryz.prog.wantsStandIn 22=false by kernel_rfl)
    rcases j with _|j
    · obtain rfl:t=3:=by simpa using bW.symm
      exact(show Tryz.prog.wantsStandIn 3=false by kernel_rfl)
    rcases j with _|j
    · obtain rfl:t=3:=by simpa using bW.symm
      exact(show Tryz.prog.wantsStandIn 3=false by kernel_rfl)
    rcases j with _|j
    · obtain rfl:t=22:=by simpa using bW.symm
      exact(show Tryz.prog.wantsStandIn 22=false by kernel_rfl)
    rcases j with _|j
    · obtain rfl:t=23:=by simpa using bW.symm
      exact(show Tryz.prog.wantsStandIn 23=false by kernel_rfl)
    simp at bW⟩)
  bh
end Go.Proofs.YtnkjmbbddmgjiaaGreatDoor.LawChecked