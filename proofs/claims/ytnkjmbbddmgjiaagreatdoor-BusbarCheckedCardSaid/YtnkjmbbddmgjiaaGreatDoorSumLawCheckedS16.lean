import Derived.Test.YtnkjmbbddmgjiaaGreatDoorSumLawCheckedS15
set_option linter.unusedSimpArgs false
set_option linter.unusedVariables false
set_option maxRecDepth 1000000
set_option maxHeartbeats 400000000
namespace Go.Proofs.YtnkjmbbddmgjiaaGreatDoor
open Go.RowKit Go.Proofs.Tryz
variable {W hh w w' aq ax:World}{d:Int}{y de:Nat}{xs:List Value}{ty e:TypeId}{x:Tok}{ay:Option Addr}
section
attribute [local irreducible] wpList wpQuiet wpStill Code.wp Exit.then Exit.inBlock bodyPost Calls bL eT
section
attribute [local irreducible] Code.wpIn wpListIn CallsIn RoundIn
structure nc(B:Nat)(W hh:World):Prop where
 size:W.heap.size<=hh.heap.size
 same:∀i,B<=i->i<B+4->hh.heap[i]? =W.heap[i]?
theorem nc.trans{B:Nat}{RM:World}(h:nc B W hh)(k:nc B hh RM):nc B W RM:=⟨atN h.size k.size,λi U ae=>(k.same i U ae).trans (h.same i U ae)⟩
theorem nc.grown{B:Nat}{r:Option Nat}(an:W.grownBy hh r)(aH:B+4<=W.heap.size)(aj:∀k,r=some k->k<B\/B+4<=k):nc B W hh:=
 ⟨an.size,λi U ae=>an.block i bj (λe=>by rcases aj i e.symm with h|h<;>omega)⟩
def amh(B:Nat)(gQ:Nat->World->Prop)(xX:Code->World->Prop)(k:Nat)(W:World):Exit->Act->World->Prop
 | .normal,_,hh=>nc B W hh/\gQ (k+1) hh
 | .ret,_,hh=>nc B W hh/\xX .ret hh
 | .exit id,_,hh=>nc B W hh/\xX (.exit id) hh
 |_,_,_=>False
section
variable {F:Fence} {n:Nat} {P:Program} {ops:Array Oper} {Q:Exit->Act->World->Prop} {a:Act} {w:World} {N:Nat} {l:List (Nat × Value)} {rest:List Oper}
theorem Qw{l2:List Oper}(I:qe F):∀{l1:List Oper} {a:Act} {w:World},l1.all xx=true->wpList P ops (vU λe aU w'=>e=.normal/\wpListIn F n P ops Q l2 aU w') l1 a w->wpListIn F n P ops Q (l1++l2) a w
 | [],_,_,_,h=>by
  simp only [wpList]at h;exact h.2.2
 |o::l1,a,w,aI,h=>by
  simp only [ayP,atP]at aI;simp only [wpList]at h;rw [avb];refine wpListIn_step λK cv=>?_;split
  · rename_i hw;rw [atM hw]at h;rcases h with h|⟨_,h⟩
    · refine Oper.wpIn_mono (λaU w' e9=>cv _ _ (Qw I aI.2 e9)) (Yi I aI.1 (Gy (Q':=vU λe aU w'=>e=.normal/\wpListIn F n P ops Q l2 aU w') (λe a w ba e9=>absurd e9.2.1 ba) h))
    · exact absurd h PK
  · rename_i hw;rw [atK hw]at h;exact⟨λf _=>JK I f,cv _ _ (Qw I aI.2 h)⟩
theorem aiM(I:qe F)(h:Fr N l a){d:Nat}{y:Operand}{tP:Nat}{r:Loop}{xs:List Operand}{vs:List Value}{ats:Array TypeId}{ty:TypeId}{pos:String}{bx:Array Edge}{R:Bool->World->Prop}(rr:w.heap[tP]? =some (.loop r))(ahR:vs.length=r.params.size)(aj:RoundIn F (n - 1) P tP r.fn ((r.params.zip vs.toArray).foldl (λtmps (t,a)=>tmps.setIfInBounds t a) r.tmps) r.assign r.body w (λe w'=>∃b,e=.returned (.bool b)/\R b w'))(hx:jW l xs vs)(aO:a7 l y (.func (.yield tP) #[] #[]):=by exact rfl)(aI:Nat.blt d N=true:=by exact rfl)(k:∀aU b w',R b w'->Fr N ((d,.bool b)::l) aU->wpListIn F n P ops Q rest aU w'):
  wpListIn F n P ops Q (⟨some d,.call { callee:=.value y,args:=xs.toArray,argTypes:=ats },ty,pos,bx,none⟩::rest) a w:=
 wpListIn_plain rfl λK cv=>by
  refine⟨λf _=>JK I f,?_⟩;rw [Oper.semAt_eq _ _ _ (λc e=>by cases e)];have bw:=h.eval _ _ aO;have bf:=jW.map h.eval hx;have aiC:=run_yield (P:=P) (w:=w) (args:=vs.toArray) rr (by simpa using ahR);have he:(execOp a.eval ⟨some d,.call { callee:=.value y,args:=xs.toArray,argTypes:=ats },ty,pos,bx,none⟩).run P w=.ok (.round tP r.fn ((r.params.zip vs.toArray).foldl (λtmps (t,a)=>tmps.setIfInBounds t a) r.tmps) r.assign r.body) w:=by
   simp only [execOp,resolve,Deferred.ofValue,invoke,bw,bf,auu,axO,aun,awy,Array.append_empty,Array.empty_append,aiC]
  rw [he];simp only [Oper.uponIn];refine⟨JJ I,RoundIn.mono aj ?_⟩;rintro e w' ⟨b,rfl,ab⟩;exact cv _ _ (k _ _ _ ab (h.put aI _))
end
theorem amA(n:Nat){Q:Exit->Act->World->Prop}{ac:Act}{g:Operand}{nN cN:Tmp}{assign body:Code}{s:ByteArray}{uO:Nat}(az:ac.eval g=.func (.func 225) #[] #[.pointer (some ⟨uO,0,none⟩)])(aG:w.cell? ⟨uO,0,none⟩=some (.string s))(bT:s.size<=4611686018427387904)(gQ:Nat->World->Prop)(xX:Code->World->Prop)(dG:∀k W hh row,gQ k W->W.grownBy hh row->(∀r,row=some r->w.heap.size<=r/\r<w.heap.size+4)->gQ k hh)(MX:∀c W hh row,xX c W->W.grownBy hh row->(∀r,row=some r->w.heap.size<=r/\r<w.heap.size+4)->xX c hh)(aJ:gQ 0 w)(ah6:∀m tP k W,(cw s k).1<s.size->gQ k W->w.heap.size+4<=W.heap.size->
     assign.wpIn (Fence.wide.inRound tP) m prog (Exit.then (λe6 lB=>nc w.heap.size W lB/\gQ k lB/\∀nZ,lB.grownBy nZ (some (w.heap.size+1))->nZ.heap.size=lB.heap.size->gQ k nZ->body.wpIn (Fence.wide.inRound tP) m prog (amh w.heap.size gQ xX k nZ) e6 nZ) (λ_ _ _=>False))
       { tmps:=(ac.tmps.setIfInBounds nN (Kf s k)).setIfInBounds cN (.int .i32 (jo s k)),defers:=[] } W)
   (agJ:∀k W,¬(cw s k).1<s.size->(∀j,j<k->(cw s j).1<s.size)->gQ k W->w.heap.size+4<=W.heap.size->W.heap[w.heap.size]? =some (.deferred (some []))->Q .normal { ac with defers:={ target:=.collected w.heap.size,args:=#[] }::ac.defers } W)
   (aif:∀c W,xX c W->w.heap.size+4<=W.heap.size->W.heap[w.heap.size]? =some (.deferred (some []))->c.wpIn Fence.wide n prog Q { ac with defers:={ target:=.collected w.heap.size,args:=#[] }::ac.defers } W):
   (Code.rangeFunc g #[nN,cN] assign body).wpIn Fence.wide n prog Q ac w:=by
 have k8:=WW;refine wpIn_rangeFunc ?_;intro fn sn;obtain⟨rec,rr⟩:∃rec:LoopState->Option Code->Loop,rec=λst xD=>{ state:=st,pending:=xD,fn,tmps:=ac.tmps,params:=#[nN,cN],assign,body,defers:=w.heap.size }:=⟨_,rfl⟩;obtain⟨lB,E3⟩:∃lB,(w.alloc (.deferred (some []))).alloc (.loop (rec .ready none))=lB:=⟨_,rfl⟩;have xj:lB.heap.size=w.heap.size+2:=by rw [<-E3];simp
 have Cg:lB.heap[w.heap.size+1]? =some (.loop (rec .ready none)):=by
   rw [<-E3];have:=World.alloc_heap_new (w.alloc (.deferred (some []))) (.loop (rec .ready none));rwa [World.size_alloc]at this
 have gD:lB.heap[w.heap.size]? =some (.deferred (some [])):=by
   rw [<-E3];exact(axV _ _ _ bl).trans (World.alloc_heap_new w _)
 have aT:w.grownBy lB none:=by
   rw [<-E3];exact TN (auw _ _ _) (auw _ _ _)
 have afL:=dG _ _ _ _ aJ aT (λr e=>by cases e);have lS:lB.cell? ⟨uO,0,none⟩=some (.string s):=by
   have hb:=aK (atL _ w) aT (atI _);exact(hb.cell (p:=⟨uO,0,none⟩) (aui w _ aG)).trans aG
 refine⟨w.heap.size+1,[{ target:=.collected w.heap.size,args:=#[] }],lB,{ target:=.fn (.func 225) #[.pointer (some ⟨uO,0,none⟩)],args:=#[.func (.yield (w.heap.size+1)) #[] #[]] },lB,225,
   #[.func (.yield (w.heap.size+1)) #[] #[],.pointer (some ⟨uO,0,none⟩)],lB,?_,?_,λMq _=>trivial,?_,JJ k8,?_⟩
 · rw [<-E3,rr];exact run_enterLoop_outer _ _ _ _ _
 · have aO:ac.eval (Operand.const (Value.func (Fn.yield (w.heap.size+1)) #[] #[]))=Value.func (Fn.yield (w.heap.size+1)) #[] #[]:=rfl;simp only [resolve,az];simp [Deferred.ofValue,aO]
 · have av:=acf;obtain⟨aqQ,qM,kd,Bd⟩:=av.out;simp only [invoke,callFunc,auu,axO,aun,ayL,qM,kd,Bd];simp
 · refine CallsIn.mono (R:=λe w'=>∃v,e=.returned v/\rangePost Fence.wide n prog (w.heap.size+1) Q { ac with defers:=[{ target:=.collected w.heap.size,args:=#[] }]++ac.defers } (.returned v) w') ?_ (by rintro e w' ⟨v,rfl,h⟩;exact h);refine callsIn_of_wp func225 rfl trivial ?_ rfl;have I:=Fr.enter [.func (.yield (w.heap.size+1)) #[] #[],.pointer (some ⟨uO,0,none⟩)] 27 25 rfl;refine(show ∀a,Fr 27 [(0,.func (.yield (w.heap.size+1)) #[] #[]),(1,.pointer (some ⟨uO,0,none⟩))] a->Code.wpIn Fence.wide (n - 1) prog _ _ a lB from ?_) _ I;clear I;intro a I;revert a;(repeat first|refine sU ?_|refine J (cA (vs:=[(0,.int .i64 1),(1,.int .i64 1)]) (cells:=#[.int .i64 1,.int .i64 1]) bh ⟨rfl,rfl,rfl,rfl,trivial⟩) ?_);intro a I;refine b6 I Pe λa ax aP aS cZ I=>?_;refine cE I (cs:=#[.int .i64 1,.int .i64 1]) aP (by simp [Value.oneCell']) λa a6 bR bz eE I=>?_;have arB:lB.grownBy a6 none\/True:=.inr trivial;have a1:=aK (aK (atL _ lB) aS (atI _)) bz bj;have fS:=(a1.cell (p:=⟨uO,0,none⟩) (aui lB _ lS)).trans lS;have afN:=dG _ _ _ _ (dG _ _ _ _ afL aS (λr e=>by cases e)) bz (λr e=>by cases e;omega);revert a;(repeat first|refine sU ?_|refine J (af fS) ?_);intro a I;refine zl I (aA _ _ rfl) (k:=λa bZ qz bD eY I=>?_);have Cf:=dG _ _ _ _ afN bD (λr e=>by cases e);have wM:=aD ((a1.block _ (bO Cg)).trans Cg) bD bl;have j4:=aD ((a1.block _ (bO gD)).trans gD) bD bl;have tn:=aD bR bD bl;rw [show a6.heap.size=w.heap.size+3 by omega]at qz I;rw [xj]at tn I;revert a;refine nb λa I=>?_;refine aiK (λm a W=>∃k,m=s.size - (cw s k).1/\(∀j,j<k->(cw s j).1<s.size)/\Fr 27 [(0,.func (.yield (w.heap.size+1)) #[] #[]),(3,.pointer (some ⟨w.heap.size+2,0,none⟩)),(8,.pointer (some ⟨w.heap.size+3,0,none⟩))] a/\
     gQ k W/\w.heap.size+4<=W.heap.size/\W.heap[w.heap.size+1]? =some (.loop (rec .ready none))/\W.heap[w.heap.size]? =some (.deferred (some []))/\
     W.heap[w.heap.size+2]? =some (.cells #[.int .i64 (cw s k).2.1,.int .i64 (cw s k).2.2] 101 (0,0))/\kh W (w.heap.size+3) s (cw s k).1) s.size
     ⟨0,rfl,λj ah=>absurd ah (auv _),I.bb,Cf,bj,wM,j4,tn,qz⟩ ?_
   clear I a Cf wM j4 tn qz;rintro m a W ⟨k,rfl,lQ,I,T6,bA,bU,cv,cj,hit⟩;have Ja:=Z' s k;obtain⟨qM,kd,Bd,amr⟩:=Ja lQ;clear Ja;by_cases bu:(cw s k).1<s.size
   · have gY:=zo s k;have rm:=Q0 s k bu;have VM:∀j,j<k+1->(cw s j).1<s.size:=λj ah=>by
       by_cases e:j=k
       · subst e;exact bu
       · exact lQ j bj
     revert a;refine nb λa I=>?_;refine zj I hit bu (k:=λa q0 Ar br dw I=>?_);rw [<-gY]at Ar;have afO:=dG _ _ _ _ T6 br (λr e=>by cases e;omega);have Ch:=aD bU br bl;have z7:=aD cv br bl;have IL:=aD cj br bl;revert a;(repeat first|(intro a I;(refine wpIn_region_lit ?_;refine Qw (l1:=[_,_,_]) (l2:=[_,_]) k8 rfl ?_);revert a)|refine sU ?_|refine J (bJ (dy IL)) ?_);intro a I;refine⟨rfl,?_⟩;refine aiM k8 I (xs:=[_,_]) (vs:=[Kf s k,.int .i32 (jo s k)]) (R:=λb hh=>q0.heap.size<=hh.heap.size/\hh.heap[w.heap.size+2]? =q0.heap[w.heap.size+2]? /\hh.heap[w.heap.size+3]? =q0.heap[w.heap.size+3]? /\hh.heap[w.heap.size]? =some (.deferred (some []))/\
       ((b=true/\gQ (k+1) hh/\hh.heap[w.heap.size+1]? =some (.loop (rec .ready none)))\/(b=false/\∃c,xX c hh/\hh.heap[w.heap.size+1]? =some (.loop (rec .done (some c)))))) Ch (by rw [rr];rfl) ?_ ⟨rfl,rfl,trivial⟩ (k:=λa b r0 ab I=>?_)
     · have Wd:((#[nN,cN]:Array Tmp).zip [Kf s k,.int .i32 (jo s k)].toArray).foldl (λtmps (t,a)=>tmps.setIfInBounds t a) ac.tmps=(ac.tmps.setIfInBounds nN (Kf s k)).setIfInBounds cN (.int .i32 (jo s k)):=by first|rfl|simp
       have Oz:(rec .ready none).fn=fn/\(rec .ready none).params=#[nN,cN]/\(rec .ready none).tmps=ac.tmps/\(rec .ready none).assign=assign/\(rec .ready none).body=body:=by rw [rr];exact⟨rfl,rfl,rfl,rfl,rfl⟩
       obtain⟨vy,kb,PS,Yd,Ye⟩:=Oz;rw [vy,kb,PS,Yd,Ye,Wd];clear vy kb PS Yd Ye Wd;refine roundIn_of_wpIn sn (wpIn_mono (ah6 _ (w.heap.size+1) k q0 bu afO bj) ?_);rintro e e6 Hz h;cases e<;>simp only [Exit.then]at h ⊢
       obtain⟨w3,afQ,agy⟩:=h;have T':=(w3.same (w.heap.size+1) bj bj).trans Ch;have arb:=(w3.same (w.heap.size) bj bj).trans z7;have ou:=run_beginRound (P:=prog) T' (by rw [rr]);refine⟨_,ou,?_⟩;have ahm:=bO T';have CD:Hz.grownBy (Hz.putObj (w.heap.size+1) (.loop { rec .ready none with state:=.busy })) (some (w.heap.size+1)):=⟨rfl,rfl,rfl,bl,λk _ b5=>au3 (λe=>b5 (by rw [e]))⟩;have T5:=dG _ _ _ _ afQ CD (λr e=>by cases e;omega);obtain⟨zE,IT⟩:∃zE,Hz.putObj (w.heap.size+1) (.loop { rec .ready none with state:=.busy })=zE:=⟨_,rfl⟩;have oc:zE.heap[w.heap.size+1]? =some (.loop { rec .ready none with state:=.busy }):=by rw [<-IT];exact ay4 ahm
       have sE:zE.heap.size=Hz.heap.size:=by rw [<-IT];simp
       rw [IT]at CD T5 ⊢;have ag9:∀i,w.heap.size<=i->i<w.heap.size+4->i≠w.heap.size+1->zE.heap[i]? =q0.heap[i]? :=λi U ae aM=>by
         rw [<-IT,au3 aM];exact w3.same i U ae
       refine wpIn_mono (agy zE CD sE T5) ?_;have fin:∀(jump:Option Code) (lC:World),nc w.heap.size zE lC->∃mG,(Instr.endRound (w.heap.size+1) jump).run prog lC=.ok (.bool jump.isNone) mG/\lC.grownBy mG (some (w.heap.size+1))/\
           q0.heap.size<=mG.heap.size/\mG.heap[w.heap.size+2]? =q0.heap[w.heap.size+2]? /\mG.heap[w.heap.size+3]? =q0.heap[w.heap.size+3]? /\mG.heap[w.heap.size]? =some (.deferred (some []))/\mG.heap[w.heap.size+1]? =some (.loop (rec (if jump.isNone then .ready else .done) jump)):=λjump lC w2=>by
         have u7:=(w2.same (w.heap.size+1) bj bj).trans oc;have mu:=run_endRound (P:=prog) jump u7;have dj:=λi U ae aM=>(w2.same i U ae).trans (ag9 i U ae aM);have dL:=w3.size;have z2:=w2.size;refine⟨_,mu,⟨rfl,rfl,rfl,bl,λk _ b5=>au3 (λe=>b5 (by rw [e]))⟩,bm,?_,?_,?_,?_⟩
         · rw [au3 bj];exact dj _ bj bj bj
         · rw [au3 bj];exact dj _ bj bj bj
         · rw [au3 bj];exact(dj _ bj bj bj).trans z7
         · rw [ay4 (bO u7),rr]
       rintro e a3 lC aW;cases e with
       |normal=>
         obtain⟨w2,Fu⟩:=aW;obtain⟨mG,aj,bX,g1,g2,g3,g4,g5⟩:=fin none lC w2;exact⟨_,_,aj,true,rfl,g1,g2,g3,g4,.inl ⟨rfl,dG _ _ _ _ Fu bX (λr e=>by cases e;omega),g5⟩⟩
       |ret=>
         obtain⟨w2,Fu⟩:=aW;obtain⟨mG,aj,bX,g1,g2,g3,g4,g5⟩:=fin (some .ret) lC w2;exact⟨_,_,aj,false,rfl,g1,g2,g3,g4,.inr ⟨rfl,.ret,MX _ _ _ _ Fu bX (λr e=>by cases e;omega),g5⟩⟩
       |exit id=>
         obtain⟨w2,Fu⟩:=aW;obtain⟨mG,aj,bX,g1,g2,g3,g4,g5⟩:=fin (some (.exit id)) lC w2;exact⟨_,_,aj,false,rfl,g1,g2,g3,g4,.inr ⟨rfl,.exit id,MX _ _ _ _ Fu bX (λr e=>by cases e;omega),g5⟩⟩
       |goto t=>exact False.elim aW
       |panic kk=>exact False.elim aW
       |outgrown=>exact False.elim aW
     obtain⟨O6,bf,dj,uR,ait⟩:=ab;have IM:=bf.trans IL;have CG:kh r0 (w.heap.size+3) s (cw s (k+1)).1:=dj.trans Ar;refine JQ k8 rfl ?_;rcases ait with ⟨rfl,afP,M3⟩|⟨rfl,c,aiw,M3⟩
     · have bM:r0.cell? ⟨w.heap.size+2,1,none⟩=some (.int .i64 (cw s k).2.2):=aF IM rfl;revert a;(repeat first|refine sU ?_|refine J (af bM) ?_);intro a I;refine cr I (aw _ _ rfl) IM (i:=1) (by show 1<2;decide) rfl rfl rfl (k:=λa r1 tp cf fZ I=>?_);have T4:=dG _ _ _ _ afP cf (λr e=>by cases e;omega);have ym:=aD M3 cf bl;have yk:=aD uR cf bl;have Fw:=WY CG cf bl;by_cases oW:(Utf8.decode s (cw s k).1).1=10
       · have bY:cw s (k+1)=((cw s k).1+(Utf8.decode s (cw s k).1).2,(cw s k).2.1+1,1):=by
           show pe s (cw s k)=_;unfold pe;rw [atM oW]
         have ahU:(((Utf8.decode s (cw s k).1).1:Int)==10)=true:=av'.2 bj;have c0:r1.cell? ⟨w.heap.size+2,0,none⟩=some (.int .i64 (cw s k).2.1):=aF tp rfl;revert a;(repeat first|refine sU ?_|refine J (cA (vs:=[(0,.int .i64 ((cw s k).2.1+1)),(1,.int .i64 1)]) (cells:=#[.int .i64 ((cw s k).2.1+1),.int .i64 1]) bh ⟨rfl,rfl,rfl,rfl,trivial⟩) ?_|refine J (af c0) ?_);intro a I;refine cE I (cs:=#[.int .i64 ((cw s k).2.1+1),.int .i64 1]) tp (by simp [Value.oneCell']) λa aaT IN bE hl I=>?_;have MV:=dG _ _ _ _ T4 bE (λr e=>by cases e;omega);have nu:=aD ym bE bl;have M0:=aD yk bE bl;have NW:=WY Fw bE bl;revert a;refine nb λa I=>?_;exact⟨s.size - (cw s (k+1)).1,bj,k+1,rfl,VM,I.bb,MV,bj,nu,M0,by rw [bY];exact IN,NW⟩
       · have bY:cw s (k+1)=((cw s k).1+(Utf8.decode s (cw s k).1).2,(cw s k).2.1,(cw s k).2.2+1):=by
           show pe s (cw s k)=_;unfold pe;rw [atK oW]
         have ahU:(((Utf8.decode s (cw s k).1).1:Int)==10)=false:=au8.2 bj;revert a;refine nb λa I=>?_;exact⟨s.size - (cw s (k+1)).1,bj,k+1,rfl,VM,I.bb,T4,bj,ym,yk,by rw [bY];exact tp,Fw⟩
     · revert a;refine nb λa I=>?_;refine amW I rfl ?_;have lR:=run_endLoop (P:=prog) M3 (by rw [rr];simp);have yF:(rec .done (some c)).pending=some c:=by rw [rr]
       have wZ:∀o,r0.grownBy (r0.putObj (w.heap.size+1) o) (some (w.heap.size+1))/\(r0.putObj (w.heap.size+1) o).heap.size=r0.heap.size:=λo=>⟨⟨rfl,rfl,rfl,bl,λk _ b5=>au3 (λe=>b5 (by rw [e]))⟩,bl⟩;obtain⟨Ao,O8⟩:=wZ (.loop { rec .done (some c)with state:=.exhausted });generalize r0.putObj (w.heap.size+1) (.loop { rec .done (some c)with state:=.exhausted })=r1 at lR Ao O8;rw [yF]at lR;exact⟨some c,r1,lR,aif c _ (MX _ _ _ _ aiw Ao (λr e=>by cases e;omega)) bj (aD uR Ao bl)⟩
   · revert a;refine nb λa I=>?_;refine Bm I hit bu (k:=λa I=>?_);revert a;refine nb λa I=>?_;refine lo I rfl ?_;have lR:=run_endLoop (P:=prog) bU (by rw [rr];simp);have yF:(rec .ready none).pending=none:=by rw [rr]
     have wZ:∀o,W.grownBy (W.putObj (w.heap.size+1) o) (some (w.heap.size+1))/\(W.putObj (w.heap.size+1) o).heap.size=W.heap.size:=λo=>⟨⟨rfl,rfl,rfl,bl,λk _ b5=>au3 (λe=>b5 (by rw [e]))⟩,bl⟩;obtain⟨Ao,O8⟩:=wZ (.loop { rec .ready none with state:=.exhausted });generalize W.putObj (w.heap.size+1) (.loop { rec .ready none with state:=.exhausted })=r1 at lR Ao O8;rw [yF]at lR;exact⟨none,r1,lR,agJ k _ bu lQ (dG _ _ _ _ T6 Ao (λr e=>by cases e;omega)) bj (aD cv Ao bl)⟩
end
theorem ak6(w:World)(s:ByteArray):bd prog 177 #[.string s] w (λv w'=>v=.func (.func 225) #[] #[.pointer (some ⟨w.heap.size,0,none⟩)]/\w'.heap[w.heap.size]? =some (.cells #[.string s] 9 (0,0))/\w.grownBy w' none):=by
 refine cF func177 rfl 3 rfl 4 rfl (λa I=>?_);revert a;refine ad λa I=>?_;refine di I (cs:=#[.string s]) rfl (k:=λa aq aE aT b8 I=>?_);revert a;(repeat first|refine ag ?_|refine J (wm (vs:=[.pointer (some ⟨w.heap.size,0,none⟩)]) ⟨rfl,trivial⟩) ?_);intro a I;exact bc I rfl rfl ⟨rfl,aE,aT⟩
def K9(s:ByteArray)(v:Value):Prop:=(1048576<s.size/\v=.iface 70 (.int .i64 5))\/(s.size<=1048576/\((Out s none/\v=.nilIface)\/∃k,Out s (some k)/\v=mg 6 (cw s k).2.1 (cw s k).2.2))
theorem LO{fn:Func}(fI:fn.results=#[.cell 2 27]){s:ByteArray}{v:Value}(ao:K9 s v)(ik:List Nat){a:Act}{l:List (Nat × Value)}(I:Fr 49 l a)(aN:look l 2=some (.pointer (some ⟨w.heap.size+1,0,none⟩)))(ba:ik.Nodup)(mj:∀D∈ik,W.heap[D]? =some (.deferred (some []))/\w.heap.size<=D)(az:W.heap[w.heap.size+1]? =some (.cells #[v] 27 (0,0)))(hb:Below w.heap.size w W):
  bodyPostM Fence.wide 9 prog fn (λe w'=>∃v,e=.returned v/\(K9 s v/\Below w.heap.size w w')) .ret (dM a (ik.map sH)) W:=by
 obtain⟨ms,b0⟩:=lU 27 rfl;refine akK I ba (λD h=>(mj D h).1) (λw' nF=>⟨_,amU I fI b0 rfl aN (v:=v) ?_,_,rfl,ao,nF.below hb (λD h=>(mj D h).2)⟩);have b5:w.heap.size+1 ∉ ik:=λh=>by have:=(mj _ h).1;rw [az]at this;cases this
 exact aF ((nF.same _ b5).trans az) rfl
theorem acT(w:World)(s:ByteArray):bd prog 120 #[.string s] w (λv w'=>K9 s v/\Below w.heap.size w w'):=by
 have k8:=WW;refine aeo func120 rfl 48 rfl 49 rfl (λa I=>?_);replace I:Fr 49 [(0,.string s)] a:=I;revert a;refine D4 λa I=>?_;refine di I (cs:=#[.string s]) rfl (k:=λa aq kt aT b8 I=>?_);refine b6 I WO λa ax gX aS cZ I=>?_;have aC:=TN aT aS;have ey:=below_grown aC;have iu:=aD kt aS bl;rw [b8]at gX I;by_cases qu:(s.size:Int)>1048576
 · revert a;(repeat first|refine K2 ?_|refine J (af (aF iu rfl)) ?_);intro a I;refine cr I (v:=.iface 70 (.int .i64 5)) (aw _ _ rfl) gX av6 rfl (k:=λa a6 bR bz eE I=>?_);revert a;refine D4 λa I=>?_;exact LO rfl (.inl ⟨bj,rfl⟩) [] I rfl List.nodup_nil (λD h=>by cases h) bR (aK ey bz bj)
 revert a;(repeat first|refine K2 ?_|refine J (af (aF iu rfl)) ?_);intro a I;refine b6 I sF λa a6 bR bz eE I=>?_;refine cr I (v:=.int .i64 0) (aw _ _ rfl) bR av6 rfl (k:=λa bZ bX bD eY I=>?_);have Vn:=aD (aD iu bz bl) bD bm;have mv:bZ.heap[w.heap.size+1]? =some (.cells #[.nilIface] 27 (0,0)):=aD (aD gX bz bl) bD bm;have iC:=aK (aK ey bz bj) bD bj;rw [show ax.heap.size=w.heap.size+2 by omega]at bX I bD;revert a;(repeat first|refine K2 ?_|refine J (af (aF Vn rfl)) ?_);intro a I;refine aQ I (ak6 bZ s) λa v bN ab I=>?_;obtain⟨rfl,agY,br⟩:=ab;have ob:=aK iC br iC.size;have TR:=aD Vn br bl;have afo:=aD mv br bl;have afp:=aD bX br bl;have xc:=br.size;revert a;refine D4 λa I=>?_;refine amA 9 (uO:=bZ.heap.size) (Mm (ds:=[]) I rfl) (aF agY rfl) bj
   (λk V=>Below w.heap.size w V/\V.heap[w.heap.size]? =some (.cells #[.string s] 9 (0,0))/\V.heap[w.heap.size+1]? =some (.cells #[.nilIface] 27 (0,0))/\V.heap[w.heap.size+2]? =some (.cells #[.int .i64 ((cw s k).1:Int)] 3 (0,0))/\∀j,j<k->oR s j=false)
   (λc V=>c=.ret/\∃k,Out s (some k)/\V.heap[w.heap.size+1]? =some (.cells #[mg 6 (cw s k).2.1 (cw s k).2.2] 27 (0,0))/\Below w.heap.size w V) ?_ ?_ ⟨ob,TR,afo,afp,λj h=>absurd h (auv _)⟩ ?_ ?_ ?_
 · rintro k V BJ row ⟨U,ae,aM,cc,gA⟩ az aj;exact⟨U.grown az U.size (λq e=>by have:=(aj q e).1;omega),aD ae az (λe=>by have:=(aj _ e.symm).1;omega),aD aM az (λe=>by have:=(aj _ e.symm).1;omega),aD cc az (λe=>by have:=(aj _ e.symm).1;omega),gA⟩
 · rintro c V BJ row ⟨aJ,k,U,ae,aM⟩ az aj;exact⟨aJ,k,U,aD ae az (λe=>by have:=(aj _ e.symm).1;omega),aM.grown az aM.size (λq e=>by have:=(aj q e).1;omega)⟩
 · rintro m tP k lC bu ⟨gh,afk,TQ,afl,d'⟩ lg;have k8:=ajl tP;have lQ:∀j,j<k->(cw s j).1<s.size:=λj ah=>by
     have:=Hc s j (k - j);rw [axa bj]at this;omega
   refine am' I rfl rfl (λa I=>?_);revert a;refine nb λa I=>?_;refine b6 I Pe λa mG bX bD eY I=>?_;refine cE I (cs:=#[.int .i64 (cw s k).2.1,.int .i64 (cw s k).2.2]) bX (by simp [Value.oneCell']) λa q0 bB br dw I=>?_;revert a;refine nb λa I=>?_;have FB:=afc bD br (λq e=>by cases e;exact .inr (atI _));refine⟨(nc.grown bD lg (λq e=>by cases e)).trans (nc.grown br bj (λq e=>by cases e;exact .inr lg)),⟨aK gh FB gh.size,aD afk FB bl,aD TQ FB bl,aD afl FB bl,d'⟩,?_⟩;rintro r0 cM fm ⟨gB,Iv,ET,yj,_⟩;have AB:=FB.size;have Yr:r0.heap[lC.heap.size]? =some (.cells #[.int .i64 (cw s k).2.1,.int .i64 (cw s k).2.2] 101 (0,0)):=aD bB cM bm;have de:r0.cell? ⟨lC.heap.size,0+0,none⟩=some (.int .i64 (cw s k).2.1):=aF Yr rfl;have nm:r0.cell? ⟨lC.heap.size,0+1,none⟩=some (.int .i64 (cw s k).2.2):=aF Yr rfl;have aip:jo s k=((Utf8.decode s (cw s k).1).1:Int):=rfl;by_cases aj:(Utf8.decode s (cw s k).1).1=65533
   · have ab:jo s k=65533:=bj
     obtain⟨AL,gW⟩:=aaq aj;have wV:n8 (jo s k)=false:=by rw [ab];rfl
     rw [ab]at I;revert a;(repeat first|refine sU ?_|refine J (SM (aA _ _ rfl) (i:=(cw s k).1)) ?_|refine J (af (aF Iv rfl)) ?_|refine J (af (aF yj rfl)) ?_);intro a I;refine ig I (amk _ _) ab4 ⟨rfl,rfl,trivial⟩ (k:=λa v w' tq I=>?_);obtain⟨rfl,rfl⟩:=tq;rw [show(decide (3<=(s.extract (cw s k).1 s.size).size)&&decide ((s.extract (cw s k).1 s.size).extract 0 3=⟨#[239,191,189]⟩))=zU s (cw s k).1 from rfl]at I;cases bC:zU s (cw s k).1 with
     |true=>
      rw [bC]at I AL gW;have hb:oR s k=false:=by unfold oR;rw [gW,wV];rfl
      revert a;refine nb λa I=>?_;refine aQ I (Zb _ 65533) λa v w' tq I=>?_;obtain⟨rfl,rfl⟩:=tq;rw [show o8 65533=((Utf8.decode s (cw s k).1).2:Int) by rw [AL];rfl]at I;have Fh:((Utf8.decode s (cw s k).1).2:Int)=3:=by rw [AL];rfl
      revert a;refine nb λa I=>?_;refine ig I (Sy _ 65533) R7 ⟨rfl,trivial⟩ (k:=λa v w' tq I=>?_);obtain⟨rfl,rfl⟩:=tq;rw [show n8 65533=false from rfl]at I;revert a;(repeat first|refine sU ?_|refine J (af (aF yj rfl)) ?_);intro a I;refine cr I (v:=.int .i64 (((cw s k).1:Int)+((Utf8.decode s (cw s k).1).2:Int))) (aw _ _ rfl) yj av6 rfl (k:=λa r1 c8 cf fZ I=>?_);revert a;refine nb λa I=>?_;exact⟨nc.grown cf bj (λq e=>by cases e;left;omega),aK gB cf gB.size,aD Iv cf bl,aD ET cf bl,by rw [zo,aze];exact c8,λj ah=>by
       by_cases e:j=k
       · subst e;exact hb
       · exact d' j bj⟩
     |false=>
      rw [bC]at I AL gW;have hb:oR s k=true:=by unfold oR;rw [gW];rfl
      revert a;(repeat first|refine sU ?_|refine J (cA (vs:=[(0,.int .i64 6),(1,.int .i64 (cw s k).2.1),(2,.int .i64 (cw s k).2.2)]) (cells:=#[.int .i64 6,.int .i64 (cw s k).2.1,.int .i64 (cw s k).2.2]) bh ⟨rfl,rfl,rfl,rfl,rfl,rfl,trivial⟩) ?_|refine J (af de) ?_|refine J (af nm) ?_);intro a I;refine cr I (v:=mg 6 (cw s k).2.1 (cw s k).2.2) (aw _ _ rfl) ET av6 rfl (k:=λa r1 c8 cf fZ I=>?_);revert a;refine nb λa I=>?_;exact⟨nc.grown cf bj (λq e=>by cases e;left;omega),rfl,k,⟨λj ah=>⟨lQ j ah,d' j ah⟩,bu,hb⟩,c8,aK gB cf gB.size⟩
   · have ab:jo s k≠65533:=bj
     have gW:=Pc aj;have tH:o8 (jo s k)=((Utf8.decode s (cw s k).1).2:Int):=by rw [aip];exact am8 s _ aj
     have Fh:((Utf8.decode s (cw s k).1).2:Int)<=4:=by
      rw [<-tH];unfold o8;repeat' split
      all_goals omega
     revert a;refine nb λa I=>?_;refine aQ I (Zb _ (jo s k)) λa v w' tq I=>?_;obtain⟨rfl,rfl⟩:=tq;rw [tH]at I;revert a;refine nb λa I=>?_;refine ig I (Sy _ (jo s k)) R7 ⟨rfl,trivial⟩ (k:=λa v w' tq I=>?_);obtain⟨rfl,rfl⟩:=tq;cases wV:n8 (jo s k)with
     |false=>
      rw [wV]at I;have hb:oR s k=false:=by unfold oR;rw [gW,wV];rfl
      revert a;(repeat first|refine sU ?_|refine J (af (aF yj rfl)) ?_);intro a I;refine cr I (v:=.int .i64 (((cw s k).1:Int)+((Utf8.decode s (cw s k).1).2:Int))) (aw _ _ rfl) yj av6 rfl (k:=λa r1 c8 cf fZ I=>?_);revert a;refine nb λa I=>?_;exact⟨nc.grown cf bj (λq e=>by cases e;left;omega),aK gB cf gB.size,aD Iv cf bl,aD ET cf bl,by rw [zo,aze];exact c8,λj ah=>by
       by_cases e:j=k
       · subst e;exact hb
       · exact d' j bj⟩
     |true=>
      rw [wV]at I;revert a;refine nb λa I=>?_;refine ig I (abf _ (jo s k)) ab6 ⟨rfl,trivial⟩ (k:=λa v w' tq I=>?_);obtain⟨rfl,rfl⟩:=tq;cases lN:fV (jo s k)with
      |true=>
       rw [lN]at I;have hb:oR s k=false:=by unfold oR;rw [gW,wV,lN];rfl
       revert a;(repeat first|refine sU ?_|refine J (af (aF yj rfl)) ?_);intro a I;refine cr I (v:=.int .i64 (((cw s k).1:Int)+((Utf8.decode s (cw s k).1).2:Int))) (aw _ _ rfl) yj av6 rfl (k:=λa r1 c8 cf fZ I=>?_);revert a;refine nb λa I=>?_;exact⟨nc.grown cf bj (λq e=>by cases e;left;omega),aK gB cf gB.size,aD Iv cf bl,aD ET cf bl,by rw [zo,aze];exact c8,λj ah=>by
         by_cases e:j=k
         · subst e;exact hb
         · exact d' j bj⟩
      |false=>
       rw [lN]at I;have hb:oR s k=true:=by unfold oR;rw [gW,wV,lN];rfl
       revert a;(repeat first|refine sU ?_|refine J (cA (vs:=[(0,.int .i64 6),(1,.int .i64 (cw s k).2.1),(2,.int .i64 (cw s k).2.2)]) (cells:=#[.int .i64 6,.int .i64 (cw s k).2.1,.int .i64 (cw s k).2.2]) bh ⟨rfl,rfl,rfl,rfl,rfl,rfl,trivial⟩) ?_|refine J (af de) ?_|refine J (af nm) ?_);intro a I;refine cr I (v:=mg 6 (cw s k).2.1 (cw s k).2.2) (aw _ _ rfl) ET av6 rfl (k:=λa r1 c8 cf fZ I=>?_);revert a;refine nb λa I=>?_;exact⟨nc.grown cf bj (λq e=>by cases e;left;omega),rfl,k,⟨λj ah=>⟨lQ j ah,d' j ah⟩,bu,hb⟩,c8,aK gB cf gB.size⟩
 · rintro k V Ja lQ ⟨Iz,ari,mN,arj,d'⟩ aiG Nq;rw [show({ dM a []with defers:={ target:=.collected bN.heap.size,args:=#[] }::(dM a []).defers }:Act)=dM a ([bN.heap.size].map sH)from XH I bN.heap.size []];revert a;refine D4 λa I=>?_;refine cr I (v:=.nilIface) (aw _ _ rfl) mN av6 rfl (k:=λa r1 c8 cf fZ I=>?_);revert a;refine D4 λa I=>?_;exact LO rfl (.inr ⟨bj,.inl ⟨⟨k,λj ah=>⟨lQ j ah,d' j ah⟩,Ja⟩,rfl⟩⟩) [bN.heap.size] I rfl bl (λD h=>by
     obtain rfl:=avA.1 h;exact⟨aD Nq cf bm,ob.size⟩) c8 (aK Iz cf Iz.size)
 · rintro c V ⟨rfl,k,ahH,c8,Iz⟩ aiG Nq;rw [show({ dM a []with defers:={ target:=.collected bN.heap.size,args:=#[] }::(dM a []).defers }:Act)=dM a ([bN.heap.size].map sH)from XH I bN.heap.size []];revert a;refine D4 λa I=>?_;exact LO rfl (.inr ⟨bj,.inr ⟨k,ahH,rfl⟩⟩) [bN.heap.size] I rfl bl (λD h=>by
     obtain rfl:=avA.1 h;exact⟨Nq,ob.size⟩) c8 Iz
def v8(c:UInt8):Prop:=c.toNat=32\/c.toNat=9\/c.toNat=10\/c.toNat=13
instance (c:UInt8):Decidable (v8 c):=by unfold v8;infer_instance
def Mj(L C:Nat):Tok:=⟨0,[],L,C⟩
def adb(t:Tok):Option (List Tok × Nat × Nat)->Option (List Tok × Nat × Nat)
 |none=>none
 |some y=>some (t::y.1,y.2)
def rE(c:UInt8)(fb:Nat):Nat:=if c.toNat=10 then fb+1 else fb
def rC(c:UInt8)(de:Nat):Nat:=if c.toNat=10 then 1 else de+1
def o':List UInt8->Nat->Nat->Nat->Nat->Option (List Tok × Nat × Nat)
 | [],_,_,fb,de=>some ([],fb,de)
 |c::r,k,u,fb,de=>
  if u<=k/\¬v8 c then
   match DW (c::r)with
   |none=>none
   |some x=>adb ⟨x.1,x.2.1,fb,de⟩ (o' r (k+1) (k+x.2.2) (rE c fb) (rC c de))
  else o' r (k+1) u (rE c fb) (rC c de)
theorem an1{c:UInt8}{r:List UInt8}{k u fb:Nat}(h:u<=k/\¬v8 c){y:List Tok × Nat × Nat}(aG:o' (c::r) k u fb de=some y):∃x zv,DW (c::r)=some x/\o' r (k+1) (k+x.2.2) (rE c fb) (rC c de)=some zv/\y=(⟨x.1,x.2.1,fb,de⟩::zv.1,zv.2):=by
 unfold o' at aG;rw [atM h]at aG;cases hx:DW (c::r)with
 |none=>rw [hx]at aG;cases aG
 |some x=>
  rw [hx]at aG;simp only at aG;cases aO:o' r (k+1) (k+x.2.2) (rE c fb) (rC c de)with
  |none=>rw [aO]at aG;cases aG
  |some zv=>rw [aO]at aG;exact⟨x,zv,rfl,aO,(aud aG).symm⟩
theorem an0{c:UInt8}{r:List UInt8}{k u fb:Nat}(h:¬(u<=k/\¬v8 c)):o' (c::r) k u fb de=o' r (k+1) u (rE c fb) (rC c de):=by
 conv=>lhs;unfold o'
 rw [atK h]
theorem apa{l:List UInt8}{x:Nat × List UInt8 × Nat}(h:DW l=some x):x.2.2<=l.length+3:=by
 cases l with
 |nil=>cases h
 |cons c r=>
  rw [Z2]at h;repeat' split at h
  · obtain rfl:=aud h;have:=Bl nV (c::r);exact atN this bj
  · cases ba:y0 (c::r)with
    |none=>rw [ba]at h;cases h
    |some n=>
     rw [ba]at h;change (if n=0 then none else some (2,(c::r).take n,n))=some x at h;split at h
     · cases h
     · obtain rfl:=aud h;exact atN (Yb ba) bj
  · cases r with
    |nil=>cases h
    |cons d fe=>
     change (if d.toNat=34 then some (3,[],2)else none)=some x at h;split at h
     · obtain rfl:=aud h;show 2<=_;omega
     · cases h
  · obtain rfl:=aud h;show 1<=_;omega
  · obtain rfl:=aud h;show 3<=_;omega
  · cases h
def zY(c:UInt8):Bool:=decide (c.toNat<127)&&(decide (32<=c.toNat)||decide (v8 c))
theorem Kh{l:List UInt8}(ha:Asc l):∀k,k<=l.length->(cw (aa l) k).1=k
 | 0,_=>rfl
 |k+1,au=>by
  have e:=Kh ha k bj;rw [zo,e,zP ha (atT (show k<l.length by omega))]
theorem ae9{l:List UInt8}(az:l.all zY=true){k:Nat}(au:k<l.length):oR (aa l) k=false:=by
 rw [au7]at az;have aZ:∀c∈l,c.toNat<127/\(32<=c.toNat\/v8 c):=λc av=>by
  have:=az c av;simpa [zY,atP,au9,atQ]using this
 have ha:Asc l:=λc av=>by have:=(aZ c av).1;omega
 obtain⟨U,ae⟩:=aZ _ (at6 au);have aI:=zP ha (atT au);have e:=Kh ha k bj;unfold oR jo;rw [Pc (by rw [e,aI];simp only;omega),e,aI];unfold v8 at ae;simp only [n8,fV,azC,awN,aup,Bool.not_eq_false',atQ];omega
theorem acS(w:World)(l:List UInt8)(aN:l.length<=1000000)(az:l.all zY=true):bd prog 120 [.string (aa l)].toArray w (λv w'=>v=.nilIface/\Below w.heap.size w w'):=by
 refine bd.mono (acT w (aa l)) ?_;rintro v w' ⟨h,hb⟩;refine⟨?_,hb⟩;rcases h with ⟨h,_⟩|⟨_,⟨_,rfl⟩|⟨k,⟨U,ae,aM⟩,_⟩⟩
 · rw [kH]at h;omega
 · rfl
 · have aZ:∀c∈l,c.toNat<127:=λc av=>by
    have:=(au7.1 az) c av;simp [zY]at this;omega
   have au:k<=l.length:=by
    refine aw7 λau=>?_;have:=(U l.length au).1;rw [Kh (λc av=>by have:=aZ c av;omega) _ (atI _),kH]at this;omega
   rw [Kh (λc av=>by have:=aZ c av;omega) _ au,kH]at ae;rw [ae9 az ae]at aM;cases aM
theorem fT{base n c s:Nat}{e':TypeId}(h:w.ownsRow base e s (.slice ay n c) n xs){g:Nat}{cs:Array Value}(az:w.heap[g]? =some (.cells cs e' (0,0)))(b5:e≠e'):some g≠(Value.slice ay n c).ownBlock:=jk h az b5
theorem Yp{base n c s:Nat}(h:w.ownsRow base e s (.slice ay n c) n xs){r p:Nat}{b:ByteArray}(az:kh w r b p):some r≠(Value.slice ay n c).ownBlock:=by
 cases bp:(Value.slice ay n c).ownBlock with
 |none=>simp
 |some q=>exact alZ h az (λ_ _ _ h=>by cases h) bp
theorem J7{base n c s:Nat}(h:w.ownsRow base e s (.slice ay n c) n xs)(g:Nat)(az:(Value.slice ay n c).ownBlock=some g):g<w.heap.size:=(avc h g az).2
theorem an2(w:World)(l:List UInt8)(aN:l.length<=100000)(u3:l.all zY=true)(T:List Tok)(L C:Nat)(cT:o' l 0 0 1 1=some (T,L,C)):bd prog 68 [.string (aa l)].toArray w (λv w'=>(∃ay c,v=.tuple #[.slice ay (T.length+1) c,.nilIface]/\w'.ownsRow w.heap.size 232 4 (.slice ay (T.length+1) c) (T.length+1) ((T++ [Mj L C]).flatMap Tok.cells))/\Below w.heap.size w w'):=by
 have bT:=kH l;have ha:Asc l:=λc av=>by
   have:=(au7.1 u3) c av;simp [zY]at this;omega
 refine cF func68 rfl 85 rfl 86 rfl (λa I=>?_);revert a;refine ad λa I=>?_;refine aQ I (acS w l bj u3) λa v aq ab I=>?_;obtain⟨rfl,aB⟩:=ab;revert a;(repeat first|refine ag ?_|refine J (cA (vs:=[(0,.int .i64 1),(1,.int .i64 1)]) (cells:=#[.int .i64 1,.int .i64 1]) bh ⟨rfl,rfl,rfl,rfl,trivial⟩) ?_);intro a I;refine b6 I Pe λa ax aP aS cZ I=>?_;refine cE I (cs:=#[.int .i64 1,.int .i64 1]) aP (by simp [Value.oneCell']) λa a6 bR bz eE I=>?_;have aC:=aB.trans ((fA aS).mono aB.size);have a1:=aC.grown bz aC.size (λk au=>by cases au;exact aB.size);obtain⟨p,aW⟩:∃p,p=aq.heap.size:=⟨_,rfl⟩;have Jm:w.heap.size<=p:=by rw [aW];exact aB.size
 rw [<-aW]at bR I;revert a;refine ad λa I=>?_;refine zl I (aA _ _ rfl) (k:=λa bZ qz bD eY I=>?_);have bX:=aD bR bD bl;have b7:=a1.trans ((fA bD).mono a1.size);obtain⟨q,aZ⟩:∃q,q=a6.heap.size:=⟨_,rfl⟩;have VQ:w.heap.size<=q:=by rw [aZ];exact a1.size
 have VL:p≠q:=by have:=bO bR;omega
 rw [<-aZ]at qz I;have w7:=bO bX;have Oq:=bO qz;revert a;refine ad λa I=>?_;refine eg (λm a wr=>∃(k u fb de:Nat) (D R:List Tok) (ay:Option Addr) (c:Nat),k<=l.length/\m=l.length - k/\T=D++R/\o' (l.drop k) k u fb de=some (R,L,C)/\u<=300000/\fb<=k+1/\de<=k+1/\D.length<=k/\
   Fr 86 [(0,.string (aa l)),(5,.slice ay D.length c),(6,.pointer (some ⟨p,0,none⟩)),(7,.int .i64 (u:Nat)),(20,.pointer (some ⟨q,0,none⟩))] a/\wr.ownsRow w.heap.size 232 4 (.slice ay D.length c) D.length (D.flatMap Tok.cells)/\kh wr q (aa l) k/\wr.heap[p]? =some (.cells #[.int .i64 (fb:Nat),.int .i64 (de:Nat)] 101 (0,0))/\Below w.heap.size w wr) l.length
   ⟨0,0,1,1,[],T,none,0,auc _,rfl,rfl,cT,bk,bk,bk,atI _,I.bb,auH bZ w.heap.size _ _,qz,bX,b7⟩ ?_
 clear I a qz bX b7 bD eY w7 Oq;rintro m a wr ⟨k,u,fb,de,D,R,ay,c,au,rfl,IS,bS,hu,kT,Ff,mj,I,aX,hit,az,cH⟩;have C2:=cH.size;by_cases bu:k<l.length
 · have av:=atT bu;have wW:=aua bu;generalize l[k]=kk at av wW;revert a;refine ad λa I=>?_;refine zj I hit bj (k:=λa bN Ar br dw I=>?_);rw [zP ha av]at I Ar;have cx:=cH.grown br C2 (λk au=>by cases au;exact VQ);have bB:=aD az br bm;have yC:=gH aX br (Yp aX hit).symm;have fin:∀(a:Act) (bQ:World) (jV R':List Tok) (ej:Option Addr) (eS fy:Nat) (BB:List (Nat × Value)),T=jV++R'->o' (l.drop (k+1)) (k+1) fy (rE kk fb) (rC kk de)=some (R',L,C)->fy<=300000->jV.length<=k+1->Fr 86 BB a->zw BB [(0,.string (aa l)),(5,.slice ej jV.length eS),(6,.pointer (some ⟨p,0,none⟩)),(7,.int .i64 (fy:Nat)),(20,.pointer (some ⟨q,0,none⟩))]->bQ.ownsRow w.heap.size 232 4 (.slice ej jV.length eS) jV.length (jV.flatMap Tok.cells)->kh bQ q (aa l) (k+1)->bQ.heap[p]? =some (.cells #[.int .i64 (rE kk fb:Nat),.int .i64 (rC kk de:Nat)] 101 (0,0))->Below w.heap.size w bQ->
       ∃tQ,tQ<l.length - k/\∃(k u fb de:Nat) (D R:List Tok) (ay:Option Addr) (c:Nat),k<=l.length/\tQ=l.length - k/\T=D++R/\o' (l.drop k) k u fb de=some (R,L,C)/\u<=300000/\fb<=k+1/\de<=k+1/\D.length<=k/\
   Fr 86 [(0,.string (aa l)),(5,.slice ay D.length c),(6,.pointer (some ⟨p,0,none⟩)),(7,.int .i64 (u:Nat)),(20,.pointer (some ⟨q,0,none⟩))] a/\bQ.ownsRow w.heap.size 232 4 (.slice ay D.length c) D.length (D.flatMap Tok.cells)/\kh bQ q (aa l) k/\bQ.heap[p]? =some (.cells #[.int .i64 (fb:Nat),.int .i64 (de:Nat)] 101 (0,0))/\Below w.heap.size w bQ:=
     λa bQ jV R' ej eS fy BB U ae aM cc gA gM jc ko mh oW=>⟨l.length - (k+1),bj,k+1,fy,rE kk fb,rC kk de,jV,R',ej,eS,bu,rfl,U,ae,aM,by unfold rE;split<;>omega,by unfold rC;split<;>omega,cc,gA.xp gM,jc,ko,mh,oW⟩
   rw [wW]at bS;revert a;(repeat first|(intro a I;(refine ma 10 (λa bQ=>∃(jV R':List Tok) (ej:Option Addr) (eS fy:Nat),T=jV++R'/\o' (l.drop (k+1)) (k+1) fy (rE kk fb) (rC kk de)=some (R',L,C)/\fy<=300000/\jV.length<=k+1/\Fr 86 [(0,.string (aa l)),(5,.slice ej jV.length eS),(6,.pointer (some ⟨p,0,none⟩)),(7,.int .i64 (fy:Nat)),(9,.int .i32 (kk.toNat:Int)),(20,.pointer (some ⟨q,0,none⟩))] a/\bQ.ownsRow w.heap.size 232 4 (.slice ej jV.length eS) jV.length (jV.flatMap Tok.cells)/\kh bQ q (aa l) (k+1)/\bQ.heap[p]? =some (.cells #[.int .i64 (fb:Nat),.int .i64 (de:Nat)] 101 (0,0))/\Below w.heap.size w bQ) ?_ ?_);revert a)|refine ag ?_);intro a I
   · refine⟨?_⟩;by_cases wZ:u<=k/\¬v8 kk
     · obtain⟨x,zv,hx,pA,aO⟩:=an1 wZ bS;obtain⟨CY,kU⟩:=wZ;have TQ:kk.toNat≠32:=λe=>kU (.inl e);have mh:kk.toNat≠9:=λe=>kU (.inr (.inl e));have oW:kk.toNat≠10:=λe=>kU (.inr (.inr (.inl e)));have Iu:kk.toNat≠13:=λe=>kU (.inr (.inr (.inr e)));have nG:=apa hx;rw [aue,atU]at nG;rw [<-wW]at hx;obtain⟨ij,qa⟩:=zv;injection aO with Wv aiA
       obtain rfl:(L,C)=qa:=aiA;simp only at Wv;revert a;(repeat first|refine ag ?_|refine J (L8 (aA _ _ rfl) (i:=k) rfl rfl rfl) ?_);intro a I;refine aQ I (akE bN (l.drop k) (ha.drop k) bm kk (by rw [wW];rfl) x hx) λa v bQ ab I=>?_;obtain⟨rfl,bP⟩:=ab;have cI:=bG bP bB;have CG:kh bQ q (aa l) (k+1):=bG bP Ar;have yD:=cW yC bP;have uZ:=cx.trans (bP.mono cx.size);revert a;refine ad λa I=>?_;refine b6 I rv λa bt c8 cf fZ I=>?_;refine dX I (aw _ _ rfl) rfl rfl c8 (sR _) (k:=λa cD en bE hl I=>?_);have b2:=aK uZ cf uZ.size;have c':=b2.grown bE b2.size (λk au=>by cases au;exact uZ.size);have n7:some p≠some bQ.heap.size:=by have:=bO cI;simp;omega
       have m7:some q≠some bQ.heap.size:=by have:=bO CG;simp;omega
       have yE:=aD (aD cI cf bl) bE n7;have NW:kh cD q (aa l) (k+1):=aD (aD CG cf bl) bE m7;have FU:=A7 yD cf;have rq:=gH FU bE (by
         intro e;have U:=J7 yD _ e;omega)
       revert a;(repeat first|refine ag ?_|refine J (bJ (dy yE)) ?_);intro a I;refine qT I (o:=2) (cs:=#[.int .i64 (fb:Nat),.int .i64 (de:Nat)]) (aw _ _ rfl) rfl (by show 2+2<=4;decide) en (by simp [Value.oneCell']) (k:=λa dt dm cG hn I=>?_);replace dm:dt.heap[bQ.heap.size]? =some (.cells (Tok.cells ⟨x.1,x.2.1,fb,de⟩).toArray 232 (0,0)):=dm;have dT:=c'.grown cG c'.size (λk au=>by cases au;exact uZ.size);have VI:=aD yE cG n7;have Vj:kh dt q (aa l) (k+1):=aD NW cG m7;have Jl:=gH rq cG (by
         intro e;have U:=J7 yD _ e;omega)
       revert a;(repeat first|refine ag ?_|refine J (bJ (dy dm)) ?_);intro a I;refine zk I (aA _ _ rfl) rv rfl bk bk rfl (sR _) Jl bj bn dT.size (k:=λa eM c2 gw ahI gq lL I=>?_);have ahK:=aD VI gq (fT Jl VI bk);have ag5:kh gw q (aa l) (k+1):=aD Vj gq (Yp Jl Vj);revert a;refine ad λa I=>?_;have el:(D++ [(⟨x.1,x.2.1,fb,de⟩:Tok)]).length=D.length+1:=bl
       refine⟨D++ [⟨x.1,x.2.1,fb,de⟩],ij,eM,c2,k+x.2.2,by rw [IS,Wv];simp,pA,bj,by rw [el];omega,?_,?_,ag5,ahK,j0 dT dT.size Jl gq⟩
       · rw [el];exact I.bb
       · rw [el,avT];simpa using ahI
     · rw [an0 wZ]at bS;have out:∀{a:Act} {BB:List (Nat × Value)},Fr 86 BB a->zw BB [(0,.string (aa l)),(5,.slice ay D.length c),(6,.pointer (some ⟨p,0,none⟩)),(7,.int .i64 (u:Nat)),(9,.int .i32 (kk.toNat:Int)),(20,.pointer (some ⟨q,0,none⟩))]->∃(jV R':List Tok) (ej:Option Addr) (eS fy:Nat),T=jV++R'/\o' (l.drop (k+1)) (k+1) fy (rE kk fb) (rC kk de)=some (R',L,C)/\fy<=300000/\jV.length<=k+1/\Fr 86 [(0,.string (aa l)),(5,.slice ej jV.length eS),(6,.pointer (some ⟨p,0,none⟩)),(7,.int .i64 (fy:Nat)),(9,.int .i32 (kk.toNat:Int)),(20,.pointer (some ⟨q,0,none⟩))] a/\bN.ownsRow w.heap.size 232 4 (.slice ej jV.length eS) jV.length (jV.flatMap Tok.cells)/\kh bN q (aa l) (k+1)/\bN.heap[p]? =some (.cells #[.int .i64 (fb:Nat),.int .i64 (de:Nat)] 101 (0,0))/\Below w.heap.size w bN:=
         λI eK=>⟨D,R,ay,c,u,IS,bS,hu,bj,I.xp eK,yC,Ar,bB,cx⟩
       by_cases CY:u<=k
       · have hb:=auV λh=>wZ ⟨CY,h⟩;rcases hb with hb|hb|hb|hb
         · revert a;refine ad λa I=>?_;exact out I ⟨rfl,rfl,rfl,rfl,rfl,rfl,trivial⟩
         · revert a;refine ad λa I=>?_;exact out I ⟨rfl,rfl,rfl,rfl,rfl,rfl,trivial⟩
         · revert a;refine ad λa I=>?_;exact out I ⟨rfl,rfl,rfl,rfl,rfl,rfl,trivial⟩
         · revert a;refine ad λa I=>?_;exact out I ⟨rfl,rfl,rfl,rfl,rfl,rfl,trivial⟩
       · revert a;refine ad λa I=>?_;exact out I ⟨rfl,rfl,rfl,rfl,rfl,rfl,trivial⟩
   clear I yC Ar bB cx bS;rintro a bQ ⟨jV,R',ej,eS,fy,U,ae,aM,cc,I,yD,CG,cI,bP⟩;have bM:bQ.cell? ⟨p,0+1,none⟩=some (.int .i64 (de:Nat)):=aF cI rfl;revert a;(repeat first|refine ag ?_|refine J (af bM) ?_);intro a I;refine cr I (aw _ _ rfl) cI (i:=0+1) (by show 1<2;decide) rfl rfl rfl (k:=λa bt c8 cf fZ I=>?_);replace c8:bt.heap[p]? =some (.cells #[.int .i64 (fb:Nat),.int .i64 ((de:Nat)+1)] 101 (0,0)):=c8;have b2:=bP.grown cf bP.size (λk au=>by cases au;exact Jm);have Fw:kh bt q (aa l) (k+1):=aD CG cf bm;have FU:=gH yD cf (fT yD cI bk).symm;by_cases oW:kk.toNat=10
   · have c0:bt.cell? ⟨p,0+0,none⟩=some (.int .i64 (fb:Nat)):=aF c8 rfl;revert a;(repeat first|refine ag ?_|refine J (cA (vs:=[(0,.int .i64 ((fb:Nat)+1)),(1,.int .i64 1)]) (cells:=#[.int .i64 ((fb:Nat)+1),.int .i64 1]) bh ⟨rfl,rfl,rfl,rfl,trivial⟩) ?_|refine J (af c0) ?_);intro a I;refine cE I (cs:=#[.int .i64 ((fb:Nat)+1),.int .i64 1]) c8 (by simp [Value.oneCell']) λa cD en bE hl I=>?_;revert a;refine ad λa I=>?_;refine fin a cD jV R' ej eS fy _ U ae aM cc I ⟨rfl,rfl,rfl,rfl,rfl,trivial⟩ (gH FU bE (fT FU c8 bk).symm) (aD Fw bE bm) ?_ (b2.grown bE b2.size (λk au=>by cases au;exact Jm));unfold rE rC;rw [atM oW,atM oW];exact en
   · revert a;refine ad λa I=>?_;refine fin a bt jV R' ej eS fy _ U ae aM cc I ⟨rfl,rfl,rfl,rfl,rfl,trivial⟩ FU Fw ?_ b2;unfold rE rC;rw [atK oW,atK oW];exact c8
 · have FA:k=l.length:=bj
   have fD:l.drop k=[]:=by rw [FA,auD]
   rw [fD]at bS;obtain⟨rfl,rfl,rfl⟩:R=[]/\fb=L/\de=C:=by
     have:=aud bS;simp only [awS]at this;exact⟨this.1.symm,this.2.1,this.2.2⟩
   rw [avC]at IS;revert a;refine ad λa I=>?_;refine Bm I hit bj (k:=λa I=>?_);revert a;(repeat first|refine ag ?_|refine J (bJ (dy az)) ?_|refine J (cA (vs:=[(2,.agg #[.int .i64 (fb:Nat),.int .i64 (de:Nat)])]) (cells:=(Tok.cells (Mj fb de)).toArray) bh ⟨rfl,rfl,trivial⟩) ?_);intro a I;refine zk I (aA _ _ rfl) rv rfl bk bk rfl (sR _) aX bj bn C2 (k:=λa eM c2 bQ yD cM lL I=>?_);revert a;refine ad λa I=>?_;subst IS;refine eI I rfl rfl rfl ⟨⟨eM,c2,rfl,?_⟩,j0 cH C2 aX cM⟩;rw [avT];simpa using yD
def DN:List UInt8:=[66,85,95,58,32,65,32,66,10,66,79,95,32,50,53,54,32,77,58,32,50,32,65,10,32,83,71,95,32,115,32,77,32,58,32,48,124,50,64,49,43,32,40,49,44,48,41,32,91,48,124,48,93,32,34,34,32,65,10,32,83,71,95,32,98,32,109,51,32,58,32,52,124,52,64,49,45,32,40,48,46,53,44,45,49,41,32,91,48,124,48,93,32,34,34,32,66,10]
def KO:List Tok:=[⟨1,[66,85,95],1,1⟩,
 ⟨4,[58],1,4⟩,
 ⟨1,[65],1,6⟩,
 ⟨1,[66],1,8⟩,
 ⟨1,[66,79,95],2,1⟩,
 ⟨2,[50,53,54],2,5⟩,
 ⟨1,[77],2,9⟩,
 ⟨4,[58],2,10⟩,
 ⟨2,[50],2,12⟩,
 ⟨1,[65],2,14⟩,
 ⟨1,[83,71,95],3,2⟩,
 ⟨1,[115],3,6⟩,
 ⟨1,[77],3,8⟩,
 ⟨4,[58],3,10⟩,
 ⟨2,[48],3,12⟩,
 ⟨4,[124],3,13⟩,
 ⟨2,[50],3,14⟩,
 ⟨4,[64,49,43],3,15⟩,
 ⟨4,[40],3,19⟩,
 ⟨2,[49],3,20⟩,
 ⟨4,[44],3,21⟩,
 ⟨2,[48],3,22⟩,
 ⟨4,[41],3,23⟩,
 ⟨4,[91],3,25⟩,
 ⟨2,[48],3,26⟩,
 ⟨4,[124],3,27⟩,
 ⟨2,[48],3,28⟩,
 ⟨4,[93],3,29⟩,
 ⟨3,[],3,31⟩,
 ⟨1,[65],3,34⟩,
 ⟨1,[83,71,95],4,2⟩,
 ⟨1,[98],4,6⟩,
 ⟨1,[109,51],4,8⟩,
 ⟨4,[58],4,11⟩,
 ⟨2,[52],4,13⟩,
 ⟨4,[124],4,14⟩,
 ⟨2,[52],4,15⟩,
 ⟨4,[64,49,45],4,16⟩,
 ⟨4,[40],4,20⟩,
 ⟨2,[48,46,53],4,21⟩,
 ⟨4,[44],4,24⟩,
 ⟨2,[45,49],4,25⟩,
 ⟨4,[41],4,27⟩,
 ⟨4,[91],4,29⟩,
 ⟨2,[48],4,30⟩,
 ⟨4,[124],4,31⟩,
 ⟨2,[48],4,32⟩,
 ⟨4,[93],4,33⟩,
 ⟨3,[],4,35⟩,
 ⟨1,[66],4,38⟩]
theorem aow:DN.all zY=true:=bh
theorem aox:o' DN 0 0 1 1=some (KO,5,1):=bh
def Z1:Tok:=Mj 5 1
def na:List Tok:=KO++ [Z1]
theorem KP:na.length=51:=bh
structure gy(w:World)(g t c k:Nat):Prop where
 cur:w.heap[g]? =some (.cells #[.slice (some ⟨t,4*k,none⟩) (51- k) (c - k)] 175 (0,0))
 rd:dA w (some ⟨t,0,none⟩) 4 Tok.cells na
 cap:51<=c
 ne:g≠t
theorem Qd{α:Type}{t s g:Nat}{enc:α->List Value}{xs:List α}(h:dA w (some ⟨t,0,none⟩) s enc xs)(an:w.grownBy w' (some g))(b5:g≠t):dA w' (some ⟨t,0,none⟩) s enc xs:=λi ai=>by
 obtain⟨b,o,U,ae⟩:=h i ai;cases U
 refine⟨t,0,rfl,λq v ao=>?_⟩;have av:=ae q v ao;have hb:t<w.heap.size:=aui w _ av;rw [<-av];have e:=an.block t hb bm;simp only [World.cell?,e]
theorem gy.below{g t c k:Nat}(h:gy w g t c k)(hb:Below w.heap.size w w'):gy w' g t c k:=⟨bG hb h.cur,h.rd.below hb,h.cap,h.ne⟩
theorem gy.tok{g t c k:Nat}(h:gy w g t c k)(hx:na[k]? =some x):k<51/\∀j v,(Tok.cells x).toArray[j]? =some v->w.cell? ⟨t,4*k+0*4+j,none⟩=some v:=by
 obtain⟨au,rfl⟩:=atY.1 hx;obtain⟨b,o,U,ae⟩:=h.rd k au;cases U
 refine⟨by rw [KP]at au;exact au,λj v ao=>?_⟩;have:=ae j v (by simpa using ao);rw [show 4*k+0*4+j=0+k*4+j by omega];exact this
theorem tj{g q:Nat}(h:w.grownBy aq (some g))(ae:aq.grownBy ax (some q))(aZ:w.heap.size<=q):w.grownBy ax (some g):=
 ⟨ae.os.trans h.os,ae.tape.trans h.tape,ae.output.trans h.output,atN h.size ae.size,λk au b5=>(ae.block k (auj au h.size) bm).trans (h.block k au b5)⟩
theorem MD{r:Option Nat}(h:w.grownBy aq r)(ae:Below aq.heap.size aq ax):w.grownBy ax r:=gL h (sb ae)
theorem gy.kept{g t c k q:Nat}(h:gy w g t c k)(an:w.grownBy w' (some q))(U:q≠g)(ae:q≠t):gy w' g t c k:=⟨aD h.cur an bm,Qd h.rd an ae,h.cap,h.ne⟩
theorem gy.lt{g t c k:Nat}(h:gy w g t c k):g<w.heap.size/\t<w.heap.size:=by
 refine⟨bO h.cur,?_⟩;obtain⟨b,o,U,ae⟩:=h.rd 0 (by rw [KP];decide);cases U
 exact aui w _ (ae 0 _ rfl)
theorem qL(w:World){g t c k:Nat}(h:gy w g t c k)(hx:na[k]? =some x):bd prog 131 [.pointer (some ⟨g,0,none⟩)].toArray w (λv w'=>v=.agg (Tok.cells x).toArray/\Below w.heap.size w w'):=by
 obtain⟨au,la⟩:=h.tok hx;refine cF func131 rfl 8 rfl 9 rfl (λa I=>?_);revert a;refine ad λa I=>?_;refine b6 I rv λa aq aE aT b8 I=>?_;have aB:=fA aT;have U:=h.below aB;obtain⟨_,agF⟩:=U.tok hx;revert a;(repeat first|refine ag ?_|refine J (H0 (aA _ _ rfl) (aw _ _ rfl) (j:=0) rfl rfl rfl) ?_|refine J (fR (cs:=(Tok.cells x).toArray) (agg _ rfl) (aw _ _ rfl) rfl agF) ?_|refine J (af (aF U.cur rfl)) ?_);intro a I;refine dX I (aw _ _ rfl) rfl rfl aE (sR x) (k:=λa ax aP aS cZ I=>?_);revert a;refine ad λa I=>?_;exact ff I rfl (agg _ rfl) (aw _ _ rfl) aP rfl ⟨rfl,aK aB aS aB.size⟩
def pa(x:Tok)(s:List UInt8):Bool:=decide (x.text=s)&&(decide (x.kind=1)||decide (x.kind=4))
theorem xJ(w:World){g t c k:Nat}(h:gy w g t c k)(hx:na[k]? =some x)(s:List UInt8)(b:Bool)(hb:pa x s=b):bd prog 123 [.pointer (some ⟨g,0,none⟩),.string (aa s)].toArray w (λv w'=>v=.bool b/\Below w.heap.size w w'):=by
 have SC:∀e,decide (x.text=s)=e->decide (aa x.text=aa s)=e:=λe he=>by rw [<-he];exact decide_eq_decide.2 zI
 refine dP func123 rfl 20 rfl 22 rfl (λa I=>?_);revert a;refine ad λa I=>?_;refine aQ I (qL w h hx) λa v aq ab I=>?_;obtain⟨rfl,aB⟩:=ab;refine b6 I rv λa ax aP aS cZ I=>?_;refine dX I (aw _ _ rfl) rfl rfl aP (sR x) (k:=λa a6 bR bz eE I=>?_);have aC:=aB.trans ((fA aS).mono aB.size);have a1:=aC.grown bz aC.size (λk au=>by cases au;exact aB.size);have c0:a6.cell? ⟨aq.heap.size,0+0,none⟩=some (.int .i64 (x.kind:Nat)):=aF bR rfl;have bM:a6.cell? ⟨aq.heap.size,0+1,none⟩=some (.string (aa x.text)):=aF bR rfl;unfold pa at hb;cases U:decide (x.text=s)with
 |false=>
  rw [U]at hb;have jI:=SC _ U;revert a;(repeat first|refine ag ?_|refine J (af bM) ?_);intro a I;exact bc I rfl rfl ⟨by rw [<-hb];rfl,a1⟩
 |true=>
  rw [U]at hb;have jI:=SC _ U;by_cases h':x.kind=1
  · rw [aur h']at hb;revert a;(repeat first|refine ag ?_|refine J (af c0) ?_|refine J (af bM) ?_);intro a I;exact bc I rfl rfl ⟨by rw [<-hb];rfl,a1⟩
  rw [auk h']at hb;by_cases vn:x.kind=4
  · rw [aur vn]at hb;revert a;(repeat first|refine ag ?_|refine J (af c0) ?_|refine J (af bM) ?_);intro a I;exact bc I rfl rfl ⟨by rw [<-hb];rfl,a1⟩
  rw [auk vn]at hb;revert a;(repeat first|refine ag ?_|refine J (af c0) ?_|refine J (af bM) ?_);intro a I;exact bc I rfl rfl ⟨by rw [<-hb];rfl,a1⟩
theorem A'(w:World){g t c k:Nat}(h:gy w g t c k)(hx:na[k]? =some x)(w1:x.kind≠0)(au:k<50):bd prog 125 [.pointer (some ⟨g,0,none⟩),.int .i64 (x.kind:Nat)].toArray w (λv w'=>v=.agg (Tok.cells x).toArray/\gy w' g t c (k+1)/\w.grownBy w' (some g)):=by
 refine dP func125 rfl 25 rfl 27 rfl (λa I=>?_);revert a;refine ad λa I=>?_;refine b6 I rv λa aq aE aT b8 I=>?_;have aB:=fA aT;revert a;refine ad λa I=>?_;refine aQ I (qL aq (h.below aB) hx) λa v ax ab I=>?_;obtain⟨rfl,aC⟩:=ab;have gV:=aB.trans (aC.mono aB.size);refine b6 I rv λa a6 bR bz eE I=>?_;refine dX I (aw _ _ rfl) rfl rfl bR (sR x) (k:=λa bZ bX bD eY I=>?_);have a1:=gV.trans ((fA bz).mono gV.size);have b7:=a1.grown bD a1.size (λk au=>by cases au;exact gV.size);have agT:=aD (aD (bG aC aE) bz bl) bD (by have:=bO (bG aC aE);simp;omega);have c0:bZ.cell? ⟨ax.heap.size,0+0,none⟩=some (.int .i64 (x.kind:Nat)):=aF bX rfl;have cc:=h.below b7;have qx:=h.cap;revert a;(repeat first|refine ag ?_|refine J (r7 (aA _ _ rfl) (aw _ _ rfl) (i:=1) rfl rfl rfl bj) ?_|refine J (af c0) ?_|refine J (af (aF cc.cur rfl)) ?_);intro a I;rw [atK bj]at I;refine cr I (aw _ _ rfl) cc.cur (i:=0+0) (by show 0<1;decide) rfl rfl rfl (k:=λa bN bB br dw I=>?_);have w4:=bO h.cur;have lT:=b7.size;have ae1:=aD bX br (by simp;have:=gV.size;omega);have g15:=aD agT br bm;revert a;(repeat first|refine ag ?_|refine J (bJ (dy ae1)) ?_);intro a I;refine dX I (aw _ _ rfl) rfl rfl g15 (sR x) (k:=λa bQ cI cM fm I=>?_);revert a;refine ad λa I=>?_;have gj:=gV.size;have arw:=(h.lt).1;have asD:=(h.lt).2;have agX:=gL (sb b7) br;refine ff I rfl (agg _ rfl) (aw _ _ rfl) cI rfl ⟨rfl,⟨?_,?_,qx,h.ne⟩,tj agX cM (atI _)⟩
 · have:=aD bB cM bm;rw [this,show 51- (k+1)=51- k - 1 by omega,show c - (k+1)=c - k - 1 by omega];simp only [aug,addr_add];rw [show 4*(k+1)=4*k+1*4 by omega];rfl
 · exact Qd (Qd cc.rd br h.ne) cM bj
section
variable {P:Program} {w:World} {l:List (Nat × Value)}
theorem SL{x ai:Operand}{b n j:Nat}{k:IntKind}{q:Int}{t:TypeId}(b0:P.underlying t=some (.array n e))(aG:(P.info? e).map (·.size)=some 1)(aj:∀w,(Instr.sliceAt t (.pointer (some ⟨b,0,none⟩)) none (some (.int k q)) none).run P w=.ok (.slice (some ⟨b,0,none⟩) j n) w)(hx:a7 l x (.pointer (some ⟨b,0,none⟩)):=by exact rfl)(fa:a7 l ai (.int k q):=by exact rfl):bL P l w (.slice t x none (some ai) none) ty (.slice (some ⟨b,0,none⟩) j n) w:=by
 unfold bL;intro cC aY d pos bx g;simp [execOp,aY _ _ hx,aY _ _ fa,aj]
end
theorem ZF(b:Nat)(w:World):(Instr.sliceAt 326 (.pointer (some ⟨b,0,none⟩)) none (some (.int .i64 3)) none).run prog w=.ok (.slice (some ⟨b,0,none⟩) 3 24) w:=bh
theorem aeO(w:World)(bF:Env w):bd prog 101 [.int .u64 256,.int .i64 10].toArray w (λv w'=>v=.string (aa [50,53,54])/\Below w.heap.size w w'):=by
 have U:bd prog 155 [.int .u64 256,.int .i64 10].toArray w (λv w'=>v=.string (aa [50,53,54])/\Below w.heap.size w w'):=by
  refine dP func155 rfl 30 rfl 32 rfl (λa I=>?_);revert a;refine ad λa I=>?_;refine b6 I ai4 λa aq aE aT b8 I=>?_;have aB:=fA aT;revert a;refine ad λa I=>?_;refine mY I (R:=λv w'=>v=.int .i64 3/\w'=aq) (auC (Tryz.internal_strconv_numDigits 256 bk bk aq (bF.below aB).pow) (by rintro e w' ⟨rfl,rfl⟩;exact⟨_,rfl,by rw [show Lib.nDigits 256=3 by decide+kernel];rfl,rfl⟩)) acb ⟨rfl,trivial⟩ (k:=λa v ax ab I=>?_);obtain⟨rfl,rfl⟩:=ab;revert a;(repeat first|refine ag ?_|refine J (SL awM (aw _ _ rfl) (ZF _)) ?_);intro a I;have nt:Go.Sort.Holds (λ(b:UInt8)=>Value.int .u8 (b.toNat:Int)) ax w.heap.size 0 (#[0,0,0]:Array UInt8):=λj ah=>by
    refine⟨?_,Tz aE⟩
    match j,ah with
    | 0,_=>exact aF aE rfl
    | 1,_=>exact aF aE rfl
    | 2,_=>exact aF aE rfl
  refine mY I (R:=λ_ w'=>Below w.heap.size w w'/\∀i,i<3->w'.cell? ⟨w.heap.size,0+i,none⟩=some (.int .u8 (([50,53,54]:List Int).getD i 0))) (auC (Tryz.internal_strconv_formatBase10 w.heap.size 0 24 256 #[0,0,0] ax nt bk bk bk) ?_) acd ⟨rfl,rfl,trivial⟩ (k:=λa v a6 ab I=>?_)
  · rintro e w' ⟨rfl,n,iy,EE,rfl,dG⟩;refine⟨_,rfl,?_,λi ai=>?_⟩
    · refine eU (aB.grown (w':=Go.Sort.putRow (λ(b:UInt8)=>Value.int .u8 (b.toNat:Int)) ax w.heap.size 0 EE) (row:=some w.heap.size) ⟨rfl,rfl,rfl,by simp [Go.Sort.putRow,Go.Sort.mapBlock],λk au b5=>?_⟩ aB.size (λk au=>by cases au;exact atI _)) n;simp only [Go.Sort.putRow,Go.Sort.mapBlock,axP];rw [atK (λe=>b5 (by rw [e]))]
    · have e:=Go.Sort.cell?_putRow (λ(b:UInt8)=>Value.int .u8 (b.toNat:Int)) ax w.heap.size 0 #[0,0,0] EE nt (by rw [dG.size]) i (by rw [dG.size];exact ai);rw [World.cell?_drewN,e,dG.done i (auc _) ai]
      match i,ai with
      | 0,_=>rfl
      | 1,_=>rfl
      | 2,_=>rfl
  · obtain⟨a1,Fc⟩:=ab;revert a;(repeat first|refine ag ?_|refine J (SL awM (aw _ _ rfl) (ZF _)) ?_|refine J (SE [50,53,54] (aA _ _ rfl) (aA _ _ rfl) (aA _ _ rfl) rfl Fc) ?_);intro a I;exact bc I rfl rfl ⟨rfl,a1⟩
 refine dP azf rfl 6 rfl 8 rfl (λa I=>?_);revert a;refine ad λa I=>?_;refine aQ I U λa v aq ab I=>?_;obtain⟨rfl,hb⟩:=ab;revert a;refine ad λa I=>?_;exact bc I rfl rfl ⟨rfl,hb⟩
theorem aeQ(w:World)(u:Nat)(hu:u<100):bd prog 101 [.int .u64 (u:Nat),.int .i64 10].toArray w (λv w'=>v=.string (aa (Lib.decDigits u))/\w'=w):=by
 have U:bd prog 155 [.int .u64 (u:Nat),.int .i64 10].toArray w (λv w'=>v=.string (aa (Lib.decDigits u))/\w'=w):=by
  refine dP func155 rfl 30 rfl 32 rfl (λa I=>?_);have hw:IntKind.i64.wrap (u:Int)=(u:Int):=by simp [IntKind.wrap,IntKind.signed,IntKind.bits];omega
  revert a;(repeat first|refine ag ?_|refine J (e8 (aA _ _ rfl) (aA _ _ rfl) rfl hw) ?_);intro a I;refine mY I (R:=λv w'=>v=.string (aa (Lib.decDigits u))/\w'=w) (auC (Tryz.internal_strconv_small u hu w) (by rintro e w' ⟨rfl,rfl⟩;exact⟨_,rfl,rfl,rfl⟩)) aca ⟨rfl,trivial⟩ (k:=λa v ax ab I=>?_);obtain⟨rfl,rfl⟩:=ab;revert a;refine ad λa I=>?_;exact bc I rfl rfl ⟨rfl,rfl⟩
 refine dP azf rfl 6 rfl 8 rfl (λa I=>?_);revert a;refine ad λa I=>?_;refine aQ I U λa v aq ab I=>?_;obtain⟨rfl,rfl⟩:=ab;revert a;refine ad λa I=>?_;exact bc I rfl rfl ⟨rfl,rfl⟩
def s3(s:List UInt8)(u:Nat):Prop:=Lib.parseUintB 64 s=.ok u/\(u<100/\Lib.decDigits u=s\/u=256/\s=[50,53,54])/\s.length<=1000
theorem aeP(w:World)(bF:Env w){s:List UInt8}{u:Nat}(h:s3 s u):bd prog 101 [.int .u64 (u:Nat),.int .i64 10].toArray w (λv w'=>v=.string (aa s)/\Below w.heap.size w w'):=by
 obtain⟨_,⟨U,rfl⟩|⟨rfl,rfl⟩,_⟩:=h
 · exact bd.mono (aeQ w u U) (by rintro v w' ⟨rfl,rfl⟩;exact⟨rfl,atL _ _⟩)
 · exact aeO w bF
theorem Yz(w:World)(bF:Env w){s:List UInt8}{u:Nat}(h:s3 s u):bd prog 231 [.string (aa s)].toArray w (λv w'=>v=.tuple #[.int .u64 (u:Nat),.bool true]/\Below w.heap.size w w'):=by
 have bT:(aa s).size<=9223372036854775806:=by rw [kH];have:=h.2.2;omega
 have aN:(aa s).data.toList=s:=by simp [aa]
 refine cF func231 rfl 19 rfl 20 rfl (λa I=>?_);revert a;refine ad λa I=>?_;refine mY I (R:=λv w'=>v=.tuple #[.int .u64 (u:Nat),.nilIface]/\Below w.heap.size w w') (auC (Tryz.strconv_ParseUint_10_at64_ok (aa s) bT u (by rw [aN];exact h.1) w) (by
  rintro e w' ⟨rfl,rfl|rfl⟩
  · exact⟨_,rfl,rfl,atL _ _⟩
  · exact⟨_,rfl,rfl,ax0 _ _ _⟩)) LA ⟨rfl,rfl,rfl,trivial⟩ (k:=λa v ax ab I=>?_)
 obtain⟨rfl,aC⟩:=ab;revert a;refine ad λa I=>?_;refine ig I (aeP ax (bF.below aC) h) abL ⟨rfl,rfl,trivial⟩ (k:=λa v a6 ab I=>?_);obtain⟨rfl,a1⟩:=ab;revert a;refine ad λa I=>?_;exact eI I rfl rfl rfl ⟨rfl,aC.trans (a1.mono aC.size)⟩
theorem amg(w:World){n':Value}(ao:w.cell? ⟨5,0,none⟩=some n')(tz:n'=.nilIface\/∃lu xD,n'=.iface lu xD){s:List UInt8}(h:Lib.parseUintB 64 s=Lib.parseUintB 64 [])(aG:s.length<=1000):bd prog 231 [.string (aa s)].toArray w (λv w'=>v=.tuple #[.int .u64 0,.bool false]/\Below w.heap.size w w'):=by
 have bT:(aa s).size<=281474976710656:=by rw [kH];omega
 have aN:(aa s).data.toList=s:=by simp [aa]
 refine cF func231 rfl 19 rfl 20 rfl (λa I=>?_);revert a;refine ad λa I=>?_;refine mY I (R:=λv w'=>(∃t x,v=.tuple #[.int .u64 0,.iface t x])/\Below w.heap.size w w') (auC (Tryz.strconv_ParseUint_10_at64_syntax (aa s) bT (by rw [aN];exact h) n' w ao tz) (by
  rintro e w' ⟨N,rfl,_,_,hb⟩;exact⟨_,rfl,⟨_,_,rfl⟩,hb⟩)) LA ⟨rfl,rfl,rfl,trivial⟩ (k:=λa v ax ab I=>?_)
 obtain⟨⟨t,x,rfl⟩,aC⟩:=ab;revert a;refine ad λa I=>?_;exact eI I rfl rfl rfl ⟨rfl,aC⟩
end
end Go.Proofs.YtnkjmbbddmgjiaaGreatDoor
namespace Go.Proofs.YtnkjmbbddmgjiaaGreatDoor.Le
open Go.RowKit Go.Proofs.Tryz
section
def B(k:Nat):Nat:=4294967296^k
attribute [irreducible] B
end
end Go.Proofs.YtnkjmbbddmgjiaaGreatDoor.Le
namespace Go.Proofs.YtnkjmbbddmgjiaaGreatDoor
open Go.RowKit Go.Proofs.Tryz
variable {W hh w w' aq ax:World}{d:Int}{y de:Nat}{xs:List Value}{ty e:TypeId}{x:Tok}{ay:Option Addr}
def lp(n d:Int):Bool:=decide (1<=d/\Nat.gcd n.natAbs d.natAbs=1)
def BK(eH d1 e1 d2:Int):Prop:=e1*d1<eH*d2
theorem X4{n:Int}(aI:1<=d):((n.natAbs*d.natAbs:Nat):Int)=if n<0 then -(n*d)else n*d:=by
 have ae:(d.natAbs:Int)=d:=bj
 push_cast
 rw [ae];split
 · have U:(n.natAbs:Int)= -n:=bj
   rw [U,Int.neg_mul]
 · have U:(n.natAbs:Int)=n:=bj
   rw [U]
theorem XX{n:Int}(aI:1<=d):(n<0->n*d<0)/\(0<=n->0<=n*d):=
 ⟨λh=>Int.mul_neg_of_neg_of_pos h bj,λh=>Int.mul_nonneg h bj⟩
theorem acY{h i l m x:Nat}(hx:x=h*18446744073709551616+l)(aO:y=i*18446744073709551616+m)(aN:l<18446744073709551616)(hm:m<18446744073709551616):
  ((h<i\/h=i/\l<m)↔x<y)/\((h=i/\l=m)↔x=y):=by
 subst hx;subst aO;constructor<;>constructor<;>intro h<;>omega
theorem ak'{x:Nat}(hx:x<18446744073709551616)(aO:y<18446744073709551616):
  let cz:=x%4294967296;let fq:=x/4294967296;let oN:=y%4294967296;let ij:=y/4294967296
  let cy:=cz*oN;let t:=fq*oN+cy/4294967296;let aq:=t%4294967296+cz*ij
  cy<18446744073709551616/\fq*oN<18446744073709551616/\t<18446744073709551616/\cz*ij<18446744073709551616/\aq<18446744073709551616/\fq*ij<18446744073709551616/\fq*ij+t/4294967296<18446744073709551616/\fq*ij+t/4294967296+aq/4294967296<18446744073709551616/\
  x*y=(fq*ij+t/4294967296+aq/4294967296)*18446744073709551616+x*y%18446744073709551616:=by
 intro cz fq oN ij cy t aq;have a0:cz<4294967296:=avI _ bk;have du:oN<4294967296:=avI _ bk;have e6:fq<4294967296:=by show x/4294967296<_;omega
 have fk:ij<4294967296:=by show y/4294967296<_;omega
 have ex:x=fq*4294967296+cz:=by show x=x/4294967296*4294967296+x%4294967296;omega
 have B5:y=ij*4294967296+oN:=by show y=y/4294967296*4294967296+y%4294967296;omega
 have as2:cz*oN<=4294967295*4294967295:=ayz bj bj;have as4:fq*oN<=4294967295*4294967295:=ayz bj bj;have as3:cz*ij<=4294967295*4294967295:=ayz bj bj;have as5:fq*ij<=4294967295*4294967295:=ayz bj bj;have Tj:x*y=fq*ij*18446744073709551616+(fq*oN+cz*ij)*4294967296+cz*oN:=by
  rw [ex,B5,av7,azJ,azJ];have qM:fq*4294967296*(ij*4294967296)=fq*ij*18446744073709551616:=by
   rw [show(18446744073709551616:Nat)=4294967296*4294967296 by decide];ac_rfl
  have kd:fq*4294967296*oN=fq*oN*4294967296:=by ac_rfl
  have Bd:cz*(ij*4294967296)=cz*ij*4294967296:=by ac_rfl
  rw [qM,kd,Bd,av7];omega
 clear_value cz fq oN ij
 have asG:cy=cz*oN:=rfl;have bW:t=fq*oN+cy/4294967296:=rfl;have asH:aq=t%4294967296+cz*ij:=rfl
 clear_value cy t aq
 rw [Tj];generalize cz*oN=atb at*;generalize fq*oN=atd at*;generalize cz*ij=apr at*;generalize fq*ij=apt at*;clear ex B5 Tj hx aO;omega
section
section
variable {P:Program} {w:World} {l:List (Nat × Value)}
theorem adG{k:IntKind}{x:Operand}{m:Int}{t:TypeId}(hx:a7 l x (.int k m):=by exact rfl):bL P l w (.unOp .neg t x) ty (.int k (k.wrap (0- m))) w:=by
 intro cC aY d pos bx g;simp only [execOp,aY _ _ hx,Op.unary,Op.intArith];simp
end
attribute [local irreducible] wpList wpQuiet wpStill Code.wp Exit.then Exit.inBlock bodyPost Calls bL eT
open Le
theorem Ra(n:Int):IntKind.u64.wrap n=n%18446744073709551616:=by
 unfold IntKind.wrap;simp only [IntKind.signed,IntKind.bits,awG,awe,axp];rfl
theorem ap'{n:Int}(h:n<0)(aN: -9223372036854775808<=n):IntKind.u64.wrap n=n+18446744073709551616:=by rw [Ra];omega
theorem K7{n:Int}(h:0<=n)(aN:n<=9223372036854775807):IntKind.u64.wrap n=n:=by rw [Ra];omega
theorem MA(w:World)(x y:Nat)(hx:x<18446744073709551616)(aO:y<18446744073709551616):bd prog 277 [.int .u64 (x:Int),.int .u64 (y:Int)].toArray w (λv w'=>v=.int .u64 ((Nat.gcd x y:Nat):Int)/\cP w w'):=by
 refine dP func277 rfl 10 rfl 12 rfl (λa I=>?_);revert a;refine ad λa I=>?_;refine eg (λq a wr=>∃p:Nat,p<18446744073709551616/\q<18446744073709551616/\Nat.gcd p q=Nat.gcd x y/\Fr 12 [(0,.int .u64 (p:Int)),(1,.int .u64 (q:Int))] a/\cP w wr) y
   ⟨x,hx,aO,rfl,I.bb,cP.refl w⟩ ?_
 clear I a;rintro q a wr ⟨p,aW,aZ,az,I,cd⟩;rcases Nat.eq_zero_or_pos q with rfl|Oo
 · revert a;refine ad λa I=>?_;rw [Nat.gcd_zero_right]at az;exact bc I rfl rfl ⟨by rw [az],cd⟩
 · revert a;(repeat first|refine ag ?_|refine ck (λak ar=>adJ (ha:=aW) (hb:=Oo)) ?_|refine λ(_:Nat)=>?_);intros;rename_i g' a I;exact⟨p%q,avI _ Oo,q,aZ,by have:=avI p Oo;omega,by rw [<-az,Nat.gcd_comm q,<-Nat.gcd_rec,Nat.gcd_comm],I.bb,by first|exact cd|exact cd.more _⟩
theorem G4(w:World)(n:Int)(h: -9223372036854775808<=n/\n<=9223372036854775807):bd prog 278 [.int .i64 n].toArray w (λv w'=>v=.int .u64 ((n.natAbs:Nat):Int)/\w'=w):=by
 refine cF func278 rfl 9 rfl 10 rfl (λa I=>?_);by_cases ba:n<0
 · have bw:=ap' ba h.1;have bf:IntKind.u64.wrap (0- (n+18446744073709551616))=((n.natAbs:Nat):Int):=by
    rw [Ra];omega
   revert a;(repeat first|refine ag ?_|refine J (e8 (aA _ _ rfl) (aA _ _ rfl) (hm:=bw)) ?_|refine J (adG) ?_);intro a I;rw [bf]at I;exact bc I rfl rfl ⟨rfl,rfl⟩
 · have bw:=K7 (n:=n) bj h.2;have bf:n=((n.natAbs:Nat):Int):=bj
   revert a;(repeat first|refine ag ?_|refine J (e8 (aA _ _ rfl) (aA _ _ rfl) (hm:=bw)) ?_);intro a I;exact bc I rfl rfl ⟨by rw [<-bf],rfl⟩
theorem GI(w:World)(n d:Int)(ba: -9223372036854775808<=n/\n<=9223372036854775807)(aI: -9223372036854775808<=d/\d<=9223372036854775807):
   bd prog 262 [.agg #[.int .i64 n,.int .i64 d]].toArray w (λv w'=>v=.bool (lp n d)/\Below w.heap.size w w'):=by
 refine cF func262 rfl 15 rfl 16 rfl (λa I=>?_);revert a;refine ad λa I=>?_;refine di I (cs:=#[.int .i64 n,.int .i64 d]) rfl (k:=λa aq aE aT b8 I=>?_);have aB:=aK (atL _ w) aT (atI _);have c0:∀ak:World,ak.heap[w.heap.size]? =some (.cells #[.int .i64 n,.int .i64 d] 131 (0,0))->ak.cell? ⟨w.heap.size,0+0,none⟩=some (.int .i64 n):=λak h=>aF h rfl;have bM:∀ak:World,ak.heap[w.heap.size]? =some (.cells #[.int .i64 n,.int .i64 d] 131 (0,0))->ak.cell? ⟨w.heap.size,0+1,none⟩=some (.int .i64 d):=λak h=>aF h rfl;revert a;(repeat first|(intro a I;(refine gJ (λak=>ak.heap[w.heap.size]? =some (.cells #[.int .i64 n,.int .i64 d] 131 (0,0))) [(0,true),(1,true),(2,true),(3,true),(4,true),(5,true),(7,true),(8,true),(9,true),(6,false),(10,false),(11,true),(12,true),(13,true)] 1 mixed bh aE ?_;simp only [fF,atZ,atS,atO,at1,aug]);revert a)|refine ag ?_);intro a I;have lb:=eU aB 1;have u2:(aq.drewN 1).heap[w.heap.size]? =some (.cells #[.int .i64 n,.int .i64 d] 131 (0,0)):=aE;by_cases U:1<=d
 · have bf:=K7 (n:=d) bj aI.2;have dj:d=((d.natAbs:Nat):Int):=bj
   revert a;(repeat first|refine e3 ?_|refine cB (λak ar=>e8 (aA _ _ rfl) (aA _ _ rfl) (hm:=bf)) ?_|refine cB (λak ar=>af (c0 ak ar)) ?_|refine cB (λak ar=>af (bM ak ar)) ?_);intro a I;refine c7 ?_;refine ig I (G4 _ n ba) acj ⟨rfl,trivial⟩ (k:=λa v ax ab I=>?_);obtain⟨rfl,rfl⟩:=ab;refine atJ ⟨rfl,u2,?_⟩
   skip
   refine c7 ?_;have hx:n.natAbs<18446744073709551616:=bj
   have aO:d.natAbs<18446744073709551616:=bj
   refine ig I (vs:=[.int .u64 ((n.natAbs:Nat):Int),.int .u64 d]) (by have:=MA (aq.drewN 1) n.natAbs d.natAbs hx aO;rw [<-dj]at this;exact this) aci ⟨rfl,rfl,trivial⟩ (k:=λa v ax ab I=>?_);obtain⟨rfl,cd⟩:=ab;have aP:=(cd.below ((aq.drewN 1).heap.size)).block _ (bO u2)|>.trans u2
   refine atJ ⟨rfl,aP,?_⟩;by_cases wY:Nat.gcd n.natAbs d.natAbs=1
   · rw [wY]at I;revert a;refine hH λa I=>?_;refine fj ?_;revert a;refine ad λa I=>?_;exact bc I rfl rfl ⟨by rw [lp,aur ⟨U,wY⟩],lb.trans (cd.below _)⟩
   · have b5:¬((Nat.gcd n.natAbs d.natAbs:Nat):Int)=1:=bj
     have kQ:=au8.2 b5;revert a;refine hH λa I=>?_;refine fj ?_;revert a;refine ad λa I=>?_;exact bc I rfl rfl ⟨by rw [lp,auk (λh=>wY h.2)],lb.trans (cd.below _)⟩
 · revert a;(repeat first|refine e3 ?_|refine cB (λak ar=>af (bM ak ar)) ?_);intro a I;refine c7 ?_;refine rL I (k:=λa I=>?_);refine atJ ⟨rfl,u2,?_⟩
   skip
   refine c7 ?_;refine rL I (k:=λa I=>?_);refine atJ ⟨rfl,u2,?_⟩;revert a;refine hH λa I=>?_;refine fj ?_;revert a;refine ad λa I=>?_;exact bc I rfl rfl ⟨by rw [lp,auk (λh=>U h.1)],lb⟩
end
end Go.Proofs.YtnkjmbbddmgjiaaGreatDoor