import Derived.Test.YtnkjmbbddmgjiaaGreatDoorSumLawCheckedS8
set_option linter.unusedSimpArgs false
set_option linter.unusedVariables false
set_option maxRecDepth 1000000
set_option maxHeartbeats 400000000
namespace Go.Proofs.YtnkjmbbddmgjiaaGreatDoor
open Go.RowKit Go.Proofs.Tryz
variable {j slots R G dB eL:Nat}{x:Ins}{e:TypeId}{w fy w':World}{rest:List Value}{ay:Option Addr}{K:dp}{f:Nat->Nat->Nat}{xs:List Ins}
section
attribute [local irreducible] wpList wpQuiet wpStill Code.wp Exit.then Exit.inBlock bodyPost Calls bL eT
abbrev eJ:=Nat->Bool
def oH:eJ:=λ_=>false
def kG(x:Ins)(a:eJ):eJ:=λr=>decide (r∈hD x)||(a r&& !(fh x&&decide (r=x.a)))
def vA(a b:eJ):eJ:=λr=>a r||b r
def jj(x:Ins)(dC eF:eJ × Nat):eJ:=if x.op=0 then oH else if x.op=18 then eF.1 else if x.op=19 then vA dC.1 eF.1 else dC.1
def lq(x:Ins)(dC eF:eJ × Nat):Bool:=if x.op=0 then decide (0<dC.2)else if x.op=18\/x.op=19 then decide (eF.2<dC.2)else !fh x||dC.1 x.a
def dn:List Ins->List Bool->eJ × Nat
 | [],_=>(oH,0)
 |x::p,cs=>
  let dC:=dn p cs.tail
  let eF:=dn (p.drop x.n) (cs.tail.drop x.n)
  if lq x dC eF&&cs[0]?.getD false then(kG x (jj x dC eF),dC.2+1)else(jj x dC eF,dC.2)
 termination_by p=>p.length
 decreasing_by all_goals simp [atU];try omega
def hy:List Ins->List Bool->List Ins
 | [],_=>[]
 |x::p,cs=>if (dn (x::p) cs).2=(dn p cs.tail).2 then hy p cs.tail
  else(if dx x=true then { x with n:=(dn p cs.tail).2- (dn (p.drop x.n) (cs.tail.drop x.n)).2 }else x)::hy p cs.tail
def kJ:List Ins->List Bool->List Bool
 | [],l=>l
 |x::p,l=>l[0]?.getD false::kJ p (if l[0]?.getD false=true then
  (let a:=if dx x=true then l.tail.set x.n true else l.tail;if fs x=true then a.set 0 true else a)else l.tail)
def uG(p:List Ins):List Ins:=hy p (kJ p (true::List.replicate p.length false))
theorem AV(x:Ins)(p:List Ins)(cs:List Bool):dn (x::p) cs=if lq x (dn p cs.tail) (dn (p.drop x.n) (cs.tail.drop x.n))&&cs[0]?.getD false then(kG x (jj x (dn p cs.tail) (dn (p.drop x.n) (cs.tail.drop x.n))),(dn p cs.tail).2+1)else(jj x (dn p cs.tail) (dn (p.drop x.n) (cs.tail.drop x.n)),(dn p cs.tail).2):=by rw [dn]
theorem EF:∀(p:List Ins) (cs:List Bool),(hy p cs).length=(dn p cs).2
 | [],cs=>by rw [dn];rfl
 |x::p,cs=>by
  have df:=EF p cs.tail;have av:=AV x p cs;rw [hy];by_cases h:(lq x (dn p cs.tail) (dn (p.drop x.n) (cs.tail.drop x.n))&&cs[0]?.getD false)=true
  · rw [atM h]at av;rw [atK (by rw [av];simp),aue,df,av]
  · rw [atK h]at av;rw [atM (by rw [av]),df,av]
theorem yc:∀(n:Nat) (p:List Ins) (cs:List Bool),n<=p.length->(hy p cs).drop ((dn p cs).2- (dn (p.drop n) (cs.drop n)).2)=hy (p.drop n) (cs.drop n)/\(dn (p.drop n) (cs.drop n)).2<=(dn p cs).2/\(dn p cs).2<=n+(dn (p.drop n) (cs.drop n)).2
 | 0,p,cs,_=>by simp
 |n+1,[],cs,h=>by simp at h
 |n+1,x::p,cs,h=>by
  obtain⟨U,ae,aM⟩:=yc n p cs.tail (by simpa using h);have e:cs.drop (n+1)=cs.tail.drop n:=by simp [ayx]
  rw [at5,e];rw [hy];by_cases au:(dn (x::p) cs).2=(dn p cs.tail).2
  · rw [atM au,au];exact⟨U,ae,bj⟩
  · rw [atK au];have aG:(dn (x::p) cs).2=(dn p cs.tail).2+1:=by
     rw [AV]at au ⊢;split
     · rfl
     · rename_i cc;rw [atK cc]at au;exact absurd rfl au
    rw [aG,show(dn p cs.tail).2+1- (dn (p.drop n) (cs.tail.drop n)).2=((dn p cs.tail).2- (dn (p.drop n) (cs.tail.drop n)).2)+1 by omega,at5];exact⟨U,bj,bj⟩
def xT:List Ins->List Bool->Prop
 | [],_=>True
 |x::p,cs=>(cs[0]?.getD false=true->(fs x=true->cs.tail[0]?.getD false=true)/\(dx x=true->(cs.tail.drop x.n)[0]?.getD false=true))/\xT p cs.tail
theorem xT.drop:∀{p:List Ins} {cs:List Bool} (n:Nat),xT p cs->xT (p.drop n) (cs.drop n)
 |p,cs,0,h=>by simpa using h
 | [],_,_+1,_=>by rw [List.drop_nil];trivial
 |x::p,cs,n+1,h=>by
  have:=h.2.drop n;simpa [ayx]using this
theorem GX{l:List Bool}(i:Nat)(h:l[j]?.getD false=true):(l.set i true)[j]?.getD false=true:=by
 rw [awr];by_cases e:i=j
 · subst e;have:i<l.length:=by
    refine Nat.lt_of_not_le λba=>?_;rw [avf ba]at h;cases h
   simp [this]
 · simp [e,h]
theorem KB{l:List Bool}{i:Nat}(h:i<l.length):(l.set i true)[i]?.getD false=true:=by simp [h]
theorem HR:∀(p:List Ins) (l:List Bool) (j:Nat),l[j]?.getD false=true->(kJ p l)[j]?.getD false=true
 | [],_,_,h=>h
 |x::p,l,0,h=>by rw [kJ];simpa using h
 |x::p,l,j+1,h=>by
  rw [kJ,atO];have bW:l.tail[j]?.getD false=true:=by cases l with|nil=>simp at h|cons a l=>simpa using h
  refine HR p _ j ?_;dsimp only;split
  · split<;>split<;>first|exact GX _ (GX _ bW)|exact GX _ bW|exact bW
  · exact bW
theorem Su:∀(p:List Ins) (l:List Bool),l.length=p.length+1->l8 p->xT p (kJ p l)
 | [],_,_,_=>trivial
 |x::p,l,aN,eA=>by
  have tL:l.tail.length=p.length+1:=by simp [aN]
  rw [kJ,xT];simp only [List.tail_cons,atS,aw6];refine⟨λh=>?_,Su p _ (by split<;>(try split)<;>(try split)<;>simp_all) eA.2⟩;rw [atM h];refine⟨λbC=>HR p _ 0 ?_,λah=>?_⟩
  · rw [atM bC];exact KB (by split<;>(try rw [av5])<;>omega)
  · have ba:=eA.1 ah;rw [auL,avo];refine HR p _ x.n ?_;rw [atM ah];split
    · exact GX _ (KB bj)
    · exact KB bj
theorem Ik{n:Nat}:(if dx x=true then { x with n:=n }else x).op=x.op/\(if dx x=true then { x with n:=n }else x).a=x.a/\(if dx x=true then { x with n:=n }else x).b=x.b/\(if dx x=true then { x with n:=n }else x).bK=x.bK:=by split<;>simp
theorem Gp(dC eF:eJ × Nat)(aJ:x.op≠0)(dD:x.op≠18)(dZ:x.op≠19):jj x dC eF=dC.1:=by unfold jj;rw [atK aJ,atK dD,atK dZ]
theorem A5{a b:eJ}{r:Nat}(h:a r=true):vA a b r=true:=by unfold vA;rw [h];rfl
theorem A6{a b:eJ}{r:Nat}(h:b r=true):vA a b r=true:=by unfold vA;rw [h,Bool.or_true]
theorem HD{a:eJ}{r:Nat}(h:r∈hD x):kG x a r=true:=by simp [kG,h]
theorem HC{a:eJ}{r:Nat}(hw:fh x=false)(h:a r=true):kG x a r=true:=by simp [kG,hw,h]
theorem Ma{aV:List Nat}:∀{p:List Ins} {cs:List Bool} {s t:cR} (k cS:Nat),xT p cs->cs[0]?.getD false=true->l8 p->q2 p->ly (λr=>(dn p cs).1 r=true) s t->gG (da aV p s k)=gG (da aV (hy p cs) t cS)
 | [],cs,s,t,k,cS,_,_,_,_,h=>by rw [hy,da,da];simp only [gG,h.a',h.out,h.has]
 |x::p,cs,s,t,k,cS,av,EP,eA,hw,h=>by
  obtain⟨ri,kS⟩:=av;obtain⟨mn,Ct⟩:=ri EP;have ov:q2 p:=λy aO=>hw y (at0 _ aO);rw [AV]at h;have kN:∀(s t:cR) (k cS:Nat),fs x=true->ly (λr=>(dn p cs.tail).1 r=true) s t->gG (da aV p s k)=gG (da aV (hy p cs.tail) t cS):=λs t k cS bC bF=>Ma k cS kS (mn bC) eA.2 ov bF;have jump:∀(s t:cR) (k cS:Nat),dx x=true->ly (λr=>(dn (p.drop x.n) (cs.tail.drop x.n)).1 r=true) s t->gG (da aV (p.drop x.n) s k)=gG (da aV ((hy p cs.tail).drop ((dn p cs.tail).2- (dn (p.drop x.n) (cs.tail.drop x.n)).2)) t cS):=λs t k cS ah bF=>by
    rw [(yc x.n p cs.tail (eA.1 ah)).1];exact Ma k cS (kS.drop _) (Ct ah) (eA.2.drop _) (ov.drop _) bF
  rw [hy,AV];by_cases aG:lq x (dn p cs.tail) (dn (p.drop x.n) (cs.tail.drop x.n))=true
  · have hb:(lq x (dn p cs.tail) (dn (p.drop x.n) (cs.tail.drop x.n))&&cs[0]?.getD false)=true:=by rw [aG,EP];rfl
    rw [atM hb]at h ⊢;rw [atK bl];obtain⟨pv,nq,EH,uI⟩:=Ik (x:=x) (n:=(dn p cs.tail).2- (dn (p.drop x.n) (cs.tail.drop x.n)).2);have aj:=λr aj=>h.r r (HD aj);rw [da,da,pv,nq,EH,uI];by_cases aJ:x.op=0
    · rw [atM aJ,atM aJ];simp only [gG,h.a',h.out,h.has]
    rw [atK aJ,atK aJ];by_cases gz:x.op=17
    · have uH:(if dx x=true then { x with n:=(dn p cs.tail).2- (dn (p.drop x.n) (cs.tail.drop x.n)).2 }else x).n=x.n:=by rw [atK (by simp [dx,gz])]
      rw [atM gz,atM gz,uH,aj x.a (by rw [mz gz];simp [cX,eu.ec])];split
      · exact kN _ _ _ _ (oC aJ bj) (h.mono λi ai=>HC (iL gz) (by rw [Gp _ _ aJ bj bj];exact ai))
      · simp only [gG,h.a',h.out,h.has]
    rw [atK gz,atK gz];by_cases dD:x.op=18
    · have ah:=lj (.inl dD);rw [atM dD,atM dD,atM ah];exact jump _ _ _ _ ah (h.mono λi ai=>HC (iL dD) (by unfold jj;rw [atK aJ,atM dD];exact ai))
    rw [atK dD,atK dD];by_cases dZ:x.op=19
    · have ah:=lj (.inr dZ);rw [atM dZ,atM dZ,aj x.a (by rw [mz dZ];simp [cX,eu.ec]),atM ah];split
      · exact kN _ _ _ _ (oC aJ dD) (h.mono λi ai=>HC (iL dZ) (by unfold jj;rw [atK aJ,atK dD,atM dZ];first|exact A5 ai|exact A6 ai))
      · exact jump _ _ _ _ ah (h.mono λi ai=>HC (iL dZ) (by unfold jj;rw [atK aJ,atK dD,atM dZ];first|exact A5 ai|exact A6 ai))
    rw [atK dZ,atK dZ];have ahA:¬dx x=true:=by simp [dx,dD,dZ]
    rw [atK ahA];refine kN _ _ _ _ (oC aJ dD) ((h.step (λr aj=>HD aj) (hw x auy)).mono λi ai=>?_);by_cases Aq:fh x=true/\i=x.a
    · exact .inr Aq
    · refine .inl ?_;rw [Gp _ _ aJ dD dZ];simp only [kG,ai,auN,au9,auI,awN,aup];refine .inr ?_;by_cases o4:fh x=true
      · exact .inr λe=>Aq ⟨o4,e⟩
      · exact .inl (by simpa using o4)
  · have hb:¬(lq x (dn p cs.tail) (dn (p.drop x.n) (cs.tail.drop x.n))&&cs[0]?.getD false)=true:=by rw [atP];exact λh=>aG h.1
    rw [atK hb]at h ⊢;rw [atM rfl];unfold lq at aG;rw [da];by_cases aJ:x.op=0
    · rw [atM aJ]at aG ⊢;have bA:(dn p cs.tail).2=0:=by simpa using aG
      have ba:=avD (by rw [EF,bA]);rw [ba,da];simp only [gG,h.a',h.out,h.has]
    rw [atK aJ]at aG ⊢;by_cases gz:x.op=17
    · rw [atK bj]at aG;have:fh x=false:=iL gz;rw [this]at aG;exact absurd rfl aG
    rw [atK gz];have bA:x.op=18\/x.op=19->((hy p cs.tail).drop ((dn p cs.tail).2- (dn (p.drop x.n) (cs.tail.drop x.n)).2))=hy p cs.tail:=λah=>by
      rw [atM ah]at aG;have:¬(dn (p.drop x.n) (cs.tail.drop x.n)).2<(dn p cs.tail).2:=by simpa using aG
      rw [show(dn p cs.tail).2- (dn (p.drop x.n) (cs.tail.drop x.n)).2=0 by omega,aus]
    by_cases dD:x.op=18
    · rw [atM dD,<-bA (.inl dD)];exact jump _ _ _ _ (lj (.inl dD)) (h.mono λi ai=>by unfold jj;rw [atK aJ,atM dD];exact ai)
    rw [atK dD];by_cases dZ:x.op=19
    · rw [atM dZ];split
      · exact kN _ _ _ _ (oC aJ dD) (h.mono λi ai=>by unfold jj;rw [atK aJ,atK dD,atM dZ];first|exact A5 ai|exact A6 ai)
      · rw [<-bA (.inr dZ)];exact jump _ _ _ _ (lj (.inr dZ)) (h.mono λi ai=>by unfold jj;rw [atK aJ,atK dD,atM dZ];first|exact A5 ai|exact A6 ai)
    rw [atK dZ];rw [atK bj]at aG;simp only [au9,auI,not_or,Bool.not_eq_false,ayZ]at aG;rw [Gp _ _ aJ dD dZ]at h;refine kN _ _ _ _ (oC aJ dD) ?_;rcases KI aV x with ⟨o4,f,bC,_⟩|⟨o4,_⟩
    · rw [bC];refine⟨λi ai=>?_,by rw [Dr,h.ls],h.lt,h.a',h.out,h.has⟩;rw [y2 _ _ _ _ (by rw [h.ls];exact hw x auy o4)];rw [atK (λe=>by rw [e,aG.2]at ai;cases ai)];exact h.r i ai
    · rw [o4]at aG;cases aG.1
 termination_by p=>p.length
 decreasing_by all_goals simp [atU];try omega
theorem Tr{n:Nat}:hD (if dx x=true then { x with n:=n }else x)=hD x/\fs (if dx x=true then { x with n:=n }else x)=fs x/\dx (if dx x=true then { x with n:=n }else x)=dx x/\∀dS,ih (if dx x=true then { x with n:=n }else x) dS=ih x dS:=by
 split
 · refine⟨?_,rfl,rfl,λdS=>rfl⟩;unfold hD;show(cX x.op).1.ec _=_;cases (cX x.op).1<;>rfl
 · exact⟨rfl,rfl,rfl,λ_=>rfl⟩
theorem Mb:∀{p:List Ins} {cs:List Bool} {dS V:Nat->Prop},xT p cs->cs[0]?.getD false=true->l8 p->ef p dS->(∀r,dS r->(dn p cs).1 r=true->V r)->ef (hy p cs) V
 | [],_,_,_,_,_,_,_,_=>by rw [hy,ef];trivial
 |x::p,cs,dS,V,av,EP,eA,h,ao=>by
  obtain⟨ri,kS⟩:=av;obtain⟨mn,Ct⟩:=ri EP;rw [AV]at ao;rw [ef]at h;obtain⟨aj,bC,ah⟩:=h;have kN:∀W,fs x=true->(∀r,ih x dS r->(dn p cs.tail).1 r=true->W r)->ef (hy p cs.tail) W:=λW U ae=>Mb kS (mn U) eA.2 (bC U) ae;have jump:∀W,dx x=true->(∀r,ih x dS r->(dn (p.drop x.n) (cs.tail.drop x.n)).1 r=true->W r)->ef ((hy p cs.tail).drop ((dn p cs.tail).2- (dn (p.drop x.n) (cs.tail.drop x.n)).2)) W:=λW U ae=>by
    rw [(yc x.n p cs.tail (eA.1 U)).1];exact Mb (kS.drop _) (Ct U) (eA.2.drop _) (ah U) ae
  rw [hy,AV];by_cases aG:lq x (dn p cs.tail) (dn (p.drop x.n) (cs.tail.drop x.n))=true
  · have hb:(lq x (dn p cs.tail) (dn (p.drop x.n) (cs.tail.drop x.n))&&cs[0]?.getD false)=true:=by rw [aG,EP];rfl
    rw [atM hb]at ao ⊢;rw [atK bl,ef];obtain⟨bw,bf,dj,fl⟩:=Tr (x:=x) (n:=(dn p cs.tail).2- (dn (p.drop x.n) (cs.tail.drop x.n)).2);rw [bw,bf,dj,fl];have go:∀a:eJ,(∀r,a r=true->jj x (dn p cs.tail) (dn (p.drop x.n) (cs.tail.drop x.n)) r=true)->∀r,ih x dS r->a r=true->ih x V r:=by
      intro a ha r hu gX;by_cases Aq:fh x=true/\r=x.a
      · exact .inr Aq
      · refine .inl (ao r (hu.resolve_right Aq) ?_);simp only [kG,ha r gX,auN,au9,auI,awN,aup];refine .inr ?_;by_cases o4:fh x=true
        · exact .inr λe=>Aq ⟨o4,e⟩
        · exact .inl (by simpa using o4)
    refine⟨λr h=>ao r (aj r h) (HD h),λU=>kN _ U (go _ λr aj=>?_),λU=>?_⟩
    · unfold jj;have aJ:x.op≠0/\x.op≠18:=by simpa [fs]using U
      rw [atK aJ.1,atK aJ.2];split
      · first|exact A5 aj|exact A6 aj
      · exact aj
    · rw [atM U];refine jump _ U (go _ λr aj=>?_);unfold jj;have ae:x.op=18\/x.op=19:=by simpa [dx]using U
      rw [atK bj];split
      · exact aj
      · rw [atM bj];first|exact A5 aj|exact A6 aj
  · have hb:¬(lq x (dn p cs.tail) (dn (p.drop x.n) (cs.tail.drop x.n))&&cs[0]?.getD false)=true:=by rw [atP];exact λh=>aG h.1
    rw [atK hb]at ao ⊢;rw [atM rfl];unfold lq at aG;by_cases aJ:x.op=0
    · rw [atM aJ]at aG;have bA:(dn p cs.tail).2=0:=by simpa using aG
      have ba:=avD (by rw [EF,bA]);rw [ba,ef];trivial
    rw [atK aJ]at aG;by_cases dD:x.op=18
    · have bA:((hy p cs.tail).drop ((dn p cs.tail).2- (dn (p.drop x.n) (cs.tail.drop x.n)).2))=hy p cs.tail:=by
        rw [atM (.inl dD)]at aG;have:¬(dn (p.drop x.n) (cs.tail.drop x.n)).2<(dn p cs.tail).2:=by simpa using aG
        rw [show(dn p cs.tail).2- (dn (p.drop x.n) (cs.tail.drop x.n)).2=0 by omega,aus]
      rw [<-bA];exact jump _ (lj (.inl dD)) λr hu gX=>ao r ((vP (iL dD) dS r).1 hu) (by unfold jj;rw [atK aJ,atM dD];exact gX)
    by_cases dZ:x.op=19
    · exact kN _ (oC aJ dD) λr hu gX=>ao r ((vP (iL dZ) dS r).1 hu) (by unfold jj;rw [atK aJ,atK dD,atM dZ];first|exact A5 gX|exact A6 gX)
    rw [atK bj]at aG;simp only [au9,auI,not_or,Bool.not_eq_false,ayZ]at aG;refine kN _ (oC aJ dD) λr hu gX=>?_;refine ao r (hu.resolve_right λe=>?_) (by rw [Gp _ _ aJ dD dZ];exact gX);rw [e.2,aG.2]at gX;cases gX
 termination_by p=>p.length
 decreasing_by all_goals simp [atU];try omega
theorem YZ{n:Nat}(h:dW x=true)(hx:x.bK<2^64)(ah:x.op=18\/x.op=19)(ba:n<=16384):dW { x with n:=n }=true:=by
 obtain⟨a8,dz,d',he⟩:=(sM hx).1 h;obtain⟨op,a,b,m,bK⟩:=x;rcases ah with e|e
 · dsimp only at e;subst e;cases dz;refine(sM (x:=⟨18,a,b,n,bK⟩) hx).2 ⟨_,rfl,by simp [hc,okF];omega,?_⟩;simp only [List.foldl,zM,eQ,Ins.mk.injEq]at he ⊢;exact⟨trivial,he.2.1,he.2.2.1,trivial,he.2.2.2.2⟩
 · dsimp only at e;subst e;cases dz;refine(sM (x:=⟨19,a,b,n,bK⟩) hx).2 ⟨_,rfl,?_,?_⟩
   · simp [hc,okF,fX,Ins.get]at d' ⊢;omega
   · simp only [List.foldl,zM,fX,eQ,Ins.get,Ins.put,Ins.mk.injEq]at he ⊢
     simp_all
theorem S4{size slots:Nat}:∀{p:List Ins} {cs:List Bool},(∀x∈p,x.bK<2^64)->e5 size slots p=true->e5 size slots (hy p cs)=true
 | [],_,_,_=>rfl
 |x::p,cs,ai,h=>by
  have CE:=S4 (p:=p) (cs:=cs.tail) (λz bA=>ai z (at0 _ bA)) (by simp only [e5,atP]at h;exact h.2);rw [hy];split
  · exact CE
  have eA:=(sS h).1;simp only [e5,atP,atQ]at h;rw [e5,CE,azA,atP,atQ,EF];obtain⟨pv,nq,EH,uI⟩:=Ik (x:=x) (n:=(dn p cs.tail).2- (dn (p.drop x.n) (cs.tail.drop x.n)).2);rw [pv];by_cases ah:dx x=true
  · rw [atM ah];have j8:x.op=18\/x.op=19:=by simpa [dx]using ah
    have ba:=eA ah;obtain⟨_,ae,aM⟩:=yc x.n p cs.tail ba;have cc:=YY h.1.1 j8;refine⟨YZ h.1.1 (ai x auy) j8 bj,?_⟩;have:(cX x.op).2.2=.skip:=by rcases j8 with e|e<;>rw [e]<;>rfl
    rw [this];simp only [gS.err];rw [atK bj]
  · rw [atK ah];refine⟨h.1.1,?_⟩;have ae:=h.1.2;cases bW:(cX x.op).2.2 with
    |skip=>
     exfalso;unfold cX at bW;split at bW<;>first|(rename_i e;simp [dx,e]at ah;done)|cases bW
    |_=>rw [bW]at ae;exact ae
theorem JS:∀(p:List Ins) (cs:List Bool),(dn p cs).2<=p.length:=λp cs=>by
 have:=(yc p.length p cs (atI _)).2.2;rw [auD,dn]at this;exact this
theorem ad8:∀(p:List Ins) (cs:List Bool),l8 p->hy p cs=p\/(hy p cs).length<p.length:=λp cs eA=>by
 by_cases h:(dn p cs).2=p.length
 · left;induction p generalizing cs with
   |nil=>rfl
   |cons x p df=>
    have U:=JS p cs.tail;have au:¬(dn (x::p) cs).2=(dn p cs.tail).2:=by rw [h,aue];omega
    have aW:(dn p cs.tail).2=p.length:=by
      have:=(yc 1 (x::p) cs bl).2.2;rw [h]at this;simp only [aue,at5,aus,List.drop_one]at this;omega
    rw [hy,atK au,df _ eA.2 aW]
    congr 1
    split
    · rename_i ah;have ba:=eA.1 ah;have aM:=(yc x.n p cs.tail ba).2.2;have cc:=JS (p.drop x.n) (cs.tail.drop x.n);rw [atU]at cc;have:(dn p cs.tail).2- (dn (p.drop x.n) (cs.tail.drop x.n)).2=x.n:=bj
      rw [this]
    · rfl
 · right;rw [EF];have:=JS p cs;omega
theorem ad7{size:Nat}{p:List Ins}(ai:∀x∈p,x.bK<2^64)(h:hG size slots p=true):hG size slots (uG p)=true/\(∀aV s k cS,s.r.length=16->gG (da aV (uG p) s cS)=gG (da aV p s k))/\(uG p=p\/(uG p).length<p.length):=by
 obtain⟨U,ae⟩:=rP.1 h;have eA:=sS U;have av:=Su p (true::List.replicate p.length false) bl eA;have aJ:(kJ p (true::List.replicate p.length false))[0]?.getD false=true:=HR p _ 0 rfl;exact⟨rP.2 ⟨S4 ai U,Mb av aJ eA ae λr aj _=>aj⟩,λaV s k cS aN=>(Ma k cS av aJ eA (QU U) (ly.refl _ aN)).symm,ad8 _ _ eA⟩
end
section
variable {P:Program} {w:World} {l:List (Nat × Value)}
theorem uD{x bq ai:Operand}{g n c i m:Nat}{k xn:IntKind}{q pY:Int}{t ty:TypeId}(b0:P.underlying t=some (.slice e))(aG:(P.info? e).map (·.size)=some 1)(hx:a7 l x (.slice (some ⟨g,0,none⟩) n c):=by exact rfl)(aN:a7 l bq (.int xn pY):=by exact rfl)(fa:a7 l ai (.int k q):=by exact rfl)(tF:pY=(i:Int):=by exact rfl)(aZ:q=((i+m:Nat):Int):=by exact rfl)(h4:i<c:=by omega)(ah:i+m<=c:=by omega):
  bL P l w (.slice t x (some bq) (some ai) none) ty (.slice (some ⟨g,i,none⟩) m (c - i)) w:=by
 intro cC aY d pos bx Iq;obtain⟨j,mq⟩:∃j,j=i+m:=⟨_,rfl⟩;rw [<-mq]at aZ ah;have Jc:i<=j:=bj
 have ez:j - i=m:=bj
 clear mq;subst aZ;subst tF;obtain⟨pb,U,ae⟩:=at7.1 aG;have bw:¬c=i:=bj
 simp [execOp,Instr.sliceAt,Instr.slice,Instr.sliceBounds,run_sliceBound ah,run_sliceBound Jc,aY _ _ hx,aY _ _ aN,aY _ _ fa,auf b0,sizeOf,typeInfo,U,ae,bw,addr_add,ez]
end
section
attribute [local irreducible] wpList wpQuiet wpStill Code.wp Exit.then Exit.inBlock bodyPost Calls bL eT
theorem lz.part{g:Nat}{aa:List Nat}(h:lz w g rest aa){b n:Nat}(hb:b+n<=aa.length):ee w (some ⟨g,b,none⟩) ek ((aa.drop b).take n):=by
 intro i ai;have h4:i<n:=by simp at ai;omega
 refine⟨g,b,rfl,?_⟩;have:=h.cell (i:=b+i) bj;rw [this]
 congr 2
 simp
theorem Ke{aa:List Nat}{b n:Nat}(hb:b+n<=aa.length):((aa.drop b).take n).length=n:=bm
theorem hs.GB{u:World}{cp go k:Nat}{s:cR}(h:hs u R G ay cp go dB s k)(aJ:0<s.a'.length):∃g rest,ay=some ⟨g,0,none⟩/\lz u g rest s.a':=
 h.a'.resolve_left λe=>by rw [e.1]at aJ;exact ax2 _ aJ
theorem GN(h:dW x=true)(ft:x.op=9\/x.op=10\/x.op=11\/x.op=12\/x.op=13):1<=x.n/\x.n<=8:=by
 obtain⟨a8,dz,d'⟩:=nS h;rcases ft with e|e|e|e|e<;>rw [e]at dz<;>cases dz<;>simp [hc,okF,mV,fX,Ins.get]at d'<;>omega
theorem Kq(h:dW x=true)(ft:x.op=14\/x.op=17):x.n<=64:=by
 obtain⟨a8,dz,d'⟩:=nS h;rcases ft with e|e<;>rw [e]at dz<;>cases dz<;>simp only [hc,okF,zh,fX,Ins.get,ayP,List.all_nil,atP]at d'
 · exact(auo d'.2.1).2
 · exact(auo d'.2.2.1).2
theorem hs.alU{u:World}{cp go k:Nat}{s:cR}(h:hs u R G ay cp go dB s k){i v:Nat}(az:fy.heap[go]? =some (.cells ((s.out.map hF).toArray.setIfInBounds (0+i) (.int .u64 (v:Nat))) 34 (0,0)))(an:u.grownBy fy (some go)):hs fy R G ay cp go dB { s with out:=s.out.set i v } k:=by
 refine⟨aD h.r an (by have:=c1 h.r h.out bk;simpa using this),?_,h.a'.imp id ?_,h.cap,?_,aD h.has an (by have:=c1 h.has h.out bk;simpa using this)⟩
 · show fy.heap[G]? =some (.cells (hq false 0 _ (.slice _ (s.out.set i v).length (s.out.set i v).length) _ k).toArray _ _);rw [av5];exact aD h.h5 an (by have:=c1 h.h5 h.out bk;simpa using this)
 · rintro ⟨g,rest,e,aW⟩;exact⟨g,rest,e,aD aW an (by have:=c1 aW h.out bk;simpa using this)⟩
 · rw [az,auR,aub];simp [hF,aww]
theorem hs.ago{u:World}{cp go k:Nat}{s:cR}(h:hs u R G ay cp go dB s k){i:Nat}(az:fy.heap[dB]? =some (.cells ((s.has.map Value.bool).toArray.setIfInBounds (0+i) (.bool true)) 4 (0,0)))(an:u.grownBy fy (some dB)):hs fy R G ay cp go dB { s with has:=s.has.set i true } k:=by
 refine⟨aD h.r an (by have:=c1 h.r h.has bk;simpa using this),?_,h.a'.imp id ?_,h.cap,aD h.out an (by have:=c1 h.out h.has bk;simpa using this),?_⟩
 · show fy.heap[G]? =some (.cells (hq false 0 _ _ (.slice _ (s.has.set i true).length (s.has.set i true).length) k).toArray _ _);rw [av5];exact aD h.h5 an (by have:=c1 h.h5 h.has bk;simpa using this)
 · rintro ⟨g,rest,e,aW⟩;exact⟨g,rest,e,aD aW an (by have:=c1 aW h.has bk;simpa using this)⟩
 · rw [az,auR,aub];simp [aww]
def er(a:eJ):List Value:=(List.range 16).map λr=>.bool (a r)
theorem vG(a:eJ):(er a).length=16:=by simp [er]
theorem e2(a:eJ):(er a).toArray.size=16:=by simp [er]
theorem Kt(a:eJ){r:Nat}(h:r<16):(er a).toArray[0+r]? =some (.bool (a r)):=by simp [er,h]
theorem sN(a:eJ):∀v∈(er a).toArray,v.oneCell'=true:=λv ao=>by
 simp only [er,List.mem_toArray,axh]at ao;obtain⟨r,_,rfl⟩:=ao;rfl
def mC(a:eJ)(k:Nat)(v:Bool):eJ:=λr=>if r=k then v else a r
theorem qP(a:eJ)(k:Nat)(v:Bool):(er a).toArray.setIfInBounds (0+k) (.bool v)=(er (mC a k v)).toArray:=by
 rw [auR,aub]
 congr 1
 refine awA (by simp [er]) λi U ae=>?_;rw [List.getElem_set];simp only [er,mC,List.getElem_map,List.getElem_range];by_cases e:k=i
 · subst e;simp
 · have e':¬i=k:=λh=>e h.symm;simp [e,e']
theorem Dy{a b:eJ}(h:∀r,r<16->a r=b r):er a=er b:=azv λr aj=>by rw [h r (azq.1 aj)]
def k4(B:Nat)(a:eJ)(w:World):Prop:=w.heap[B]? =some (.cells (er a).toArray 292 (0,0))
theorem k4.cell{B:Nat}{a:eJ}(h:k4 B a w){r:Nat}(aj:r<16):w.cell? ⟨B,0+r,none⟩=some (.bool (a r)):=aF h (Kt a aj)
theorem k4.all{B:Nat}{a:eJ}(h:k4 B a w):∀j v,(er a).toArray[j]? =some v->w.cell? ⟨B,0+j,none⟩=some v:=λj v ah=>aF h (by rw [aub];exact ah)
def lk(a b:eJ)(k:Nat):eJ:=λr=>if r<k then a r||b r else a r
theorem PW(a b:eJ)(k:Nat)(v:Bool)(ao:v=(a k||b k)):mC (lk a b k) k v=lk a b (k+1):=by
 funext r
 unfold mC lk;by_cases e:r=k
 · subst e;simp [ao]
 · rw [atK e];by_cases h:r<k
   · rw [atM h,atM bj]
   · rw [atK h,atK bj]
theorem alS(w:World)(fv hC:eJ):bd prog 174 [.agg (er fv).toArray,.agg (er hC).toArray].toArray w (λv w'=>v=.agg (er (vA fv hC)).toArray/\Below w.heap.size w w'):=by
 refine dP func174 rfl 19 rfl 21 rfl (λa I=>?_);revert a;refine ad λa I=>?_;refine di I rfl (k:=λa aq aE aT b8 I=>?_);refine di I rfl (k:=λa ax aP aS cZ I=>?_);refine b6 I JF λa a6 bR bz eE I=>?_;have aB:=ca aT;have aC:=aB.trans ((ca aS).mono aB.size);have a1:=aC.trans ((ca bz).mono aC.size);have eK:k4 w.heap.size (lk fv hC 0) a6:=by
   have:lk fv hC 0=fv:=by funext r;simp [lk]
   rw [this];exact aD (aD aE aS bl) bz bl
 have aH:k4 aq.heap.size hC a6:=aD aP bz bl;have lS:=bO aE;have eB:=bO aP;clear aE aP aT aS bz aB aC;revert a;refine ad λa I=>?_;refine eg (λq a wr=>∃k fW,k<=16/\q=16- k/\Fr 21 [(2,.pointer (some ⟨w.heap.size,0,none⟩)),(3,.pointer (some ⟨aq.heap.size,0,none⟩)),(4,.pointer (some ⟨ax.heap.size,0,none⟩)),(6,.int .i64 (k:Nat))] a/\k4 w.heap.size (lk fv hC k) wr/\k4 aq.heap.size hC wr/\wr.heap[ax.heap.size]? =some (.cells fW 292 (0,0))/\fW.size=16/\Below w.heap.size w wr) 16
   ⟨0,_,bj,rfl,I.bb,eK,aH,bR,rfl,a1⟩ ?_
 clear I eK aH bR a1 a;rintro q a wr ⟨k,fW,au,rfl,I,eK,aH,bR,e4,hb⟩;by_cases bu:k<16
 · have pr:=eK.cell bu;have zJ:=aH.cell bu;have nq:lk fv hC k k=fv k:=by simp [lk]
   rw [nq]at pr;have ZK:∀(v:Bool) (wn:World),v=(fv k||hC k)->wn.heap[w.heap.size]? =some (.cells ((er (lk fv hC k)).toArray.setIfInBounds (0+k) (.bool v)) 292 (0,0))->k4 w.heap.size (lk fv hC (k+1)) wn:=λv wn ao h=>by
    rw [qP,PW fv hC k v ao]at h;exact h
   cases wR:fv k with
   |true=>
    rw [wR]at pr;revert a;(repeat first|refine ag ?_|refine J (dY (n:=16) (aA _ _ rfl) (aw _ _ rfl) (j:=k) rfl rfl rfl bj) ?_|refine J (af pr) ?_);intro a I;refine cr I (aw _ _ rfl) eK (i:=0+k) (by rw [e2];omega) rfl rfl rfl (k:=λa bN bB br dw I=>?_);revert a;refine ad λa I=>?_;exact⟨16- (k+1),bj,k+1,fW,bj,rfl,I.bb,ZK _ _ (by rw [wR];rfl) bB,aD aH br bm,aD bR br bm,e4,aK hb br hb.size⟩
   |false=>
    rw [wR]at pr;revert a;(repeat first|refine ag ?_|refine J (dY (n:=16) (aA _ _ rfl) (aw _ _ rfl) (j:=k) rfl rfl rfl bj) ?_|refine J (af pr) ?_|refine J (af zJ) ?_);intro a I;refine cr I (aw _ _ rfl) eK (i:=0+k) (by rw [e2];omega) rfl rfl rfl (k:=λa bN bB br dw I=>?_);revert a;refine ad λa I=>?_;exact⟨16- (k+1),bj,k+1,fW,bj,rfl,I.bb,ZK _ _ (by rw [wR];rfl) bB,aD aH br bm,aD bR br bm,e4,aK hb br hb.size⟩
 · obtain rfl:k=16:=bj
   have e:er (lk fv hC 16)=er (vA fv hC):=Dy λr aj=>by simp [lk,vA,aj]
   revert a;(repeat first|refine ag ?_|refine J (fR (agg _ rfl) (aw _ _ rfl) (e2 _) eK.all) ?_);intro a I;refine dX I (cs:=(er (lk fv hC 16)).toArray) (aw _ _ rfl) (e2 _) e4 bR (sN _) (k:=λa bN bB br dw I=>?_);revert a;refine ad λa I=>?_;exact ff I rfl (agg _ rfl) (by rw [e2];exact aw _ _ rfl) bB rfl ⟨by rw [e],aK hb br hb.size⟩
theorem aay(w:World)(x:Ins)(h:x.op<20):bd prog 175 [.agg x.cells.toArray].toArray w (λv w'=>v=.int .i64 (if fh x=true then(x.a:Int)else -1)/\Below w.heap.size w w'):=by
 have e:fh x=(cX x.op).2.1:=rfl;rw [e];refine cF func175 rfl 19 rfl 20 rfl (λa I=>?_);revert a;refine ad λa I=>?_;refine di I rfl (k:=λa aq aE aT b8 I=>?_);have aB:=ca aT;have cV:aq.cell? ⟨w.heap.size,0+1,none⟩=some (.int .i64 (x.a:Nat)):=aF aE rfl;have co:aq.cell? ⟨w.heap.size,0+0,none⟩=some (.int .i64 (x.op:Nat)):=aF aE rfl;clear aE aT;generalize x.op=o at*;rcases o with _|_|_|_|_|_|_|_|_|_|_|_|_|_|_|_|_|_|_|_|o
 case succ.succ.succ.succ.succ.succ.succ.succ.succ.succ.succ.succ.succ.succ.succ.succ.succ.succ.succ=>omega
 all_goals
  revert a;(repeat first|refine ag ?_|refine J (af co) ?_|refine J (af cV) ?_);intro a I;exact bc I rfl rfl ⟨rfl,aB⟩
def oy(x:Ins)(a:eJ):eJ:=if fh x=true then mC a x.a false else a
theorem vX(x:Ins)(a:eJ)(r:Nat):kG x a r=(decide (r∈hD x)||oy x a r):=by
 unfold kG oy;by_cases h:fh x=true
 · rw [atM h,h];unfold mC;by_cases e:r=x.a
   · rw [atM e];simp [e]
   · rw [atK e];simp [e]
 · rw [atK h,avS.2 h];simp
theorem aa0(w:World)(fv:eJ)(x:Ins)(ft:x.op<20)(re:fh x=true->x.a<16)(vf:∀r∈hD x,r<16):bd prog 176 [.agg (er fv).toArray,.agg x.cells.toArray].toArray w (λv w'=>v=.agg (er (kG x fv)).toArray/\Below w.heap.size w w'):=by
 refine dP func176 rfl 42 rfl 44 rfl (λa I=>?_);revert a;refine ad λa I=>?_;refine di I rfl (k:=λa aq aE aT b8 I=>?_);refine di I rfl (k:=λa ax aP aS cZ I=>?_);refine b6 I JF λa a6 bR bz eE I=>?_;have aB:=ca aT;have aC:=aB.trans ((ca aS).mono aB.size);have a1:=aC.trans ((ca bz).mono aC.size);have eK:k4 w.heap.size fv a6:=aD (aD aE aS bl) bz bl;have aL:dd aq.heap.size x a6:=aD aP bz bl;have lS:=bO aE;have eB:=bO aP;clear aE aP aT aS bz aB aC;revert a;(repeat first|(intro a I;(refine ma 1 (λa wr=>∃fW,Fr 44 [(2,.pointer (some ⟨w.heap.size,0,none⟩)),(3,.pointer (some ⟨aq.heap.size,0,none⟩)),(4,.pointer (some ⟨ax.heap.size,0,none⟩))] a/\k4 w.heap.size (oy x fv) wr/\dd aq.heap.size x wr/\wr.heap[ax.heap.size]? =some (.cells fW 292 (0,0))/\fW.size=16/\Below w.heap.size w wr) ?_ ?_);revert a)|refine ag ?_);intro a I
 · refine⟨?_⟩;revert a;(repeat first|refine ag ?_|refine J (bJ aL.all) ?_);intro a I;refine aQ I (aay a6 x ft) λa v bZ ab I=>?_;obtain⟨rfl,b7⟩:=ab;have wI:k4 w.heap.size fv bZ:=(b7.block _ (bO eK)).trans eK;have oX:=aL.below b7;have bX:=(b7.block _ (bO bR)).trans bR;have dk:=a1.trans (b7.mono a1.size);by_cases hw:fh x=true
   · rw [atM hw]at I;have ha:=re hw;revert a;(repeat first|refine ag ?_|refine J (dY (n:=16) (aA _ _ rfl) (aw _ _ rfl) (j:=x.a) rfl rfl rfl bj) ?_);intro a I;refine cr I (aw _ _ rfl) wI (i:=0+x.a) (by rw [e2];omega) rfl rfl rfl (k:=λa bN bB br dw I=>?_);revert a;refine ad λa I=>?_;exact⟨_,I.bb,by unfold oy;rw [atM hw];rw [qP]at bB;exact bB,aD oX br bm,aD bX br bm,rfl,aK dk br dk.size⟩
   · rw [atK hw]at I;revert a;refine ad λa I=>?_;exact⟨_,I.bb,by unfold oy;rw [atK hw];exact wI,oX,bX,rfl,dk⟩
 clear I eK aL bR a1 a;rintro a wr ⟨fW,I,eK,aL,bR,e4,hb⟩;have cV:wr.cell? ⟨aq.heap.size,0+1,none⟩=some (.int .i64 (x.a:Nat)):=aF aL rfl;have cb:wr.cell? ⟨aq.heap.size,0+2,none⟩=some (.int .i64 (x.b:Nat)):=aF aL rfl;by_cases ae:x.op=2
 · have q9:(x.op:Int)=2:=bj
   have pC:=vf x.b (by rw [mz ae];simp [cX,eu.ec]);revert a;(repeat first|refine ag ?_|refine J (dY (n:=16) (aA _ _ rfl) (aw _ _ rfl) (j:=x.b) rfl rfl rfl bj) ?_|refine J (af aL.op) ?_|refine J (af cb) ?_);intro a I;refine cr I (aw _ _ rfl) eK (i:=0+x.b) (by rw [e2];omega) rfl rfl rfl (k:=λa bN bB br dw I=>?_);rw [qP]at bB;have wJ:k4 w.heap.size (mC (oy x fv) x.b true) bN:=bB;revert a;(repeat first|refine ag ?_|refine J (fR (agg _ rfl) (aw _ _ rfl) (e2 _) wJ.all) ?_);intro a I;refine dX I (cs:=(er (mC (oy x fv) x.b true)).toArray) (aw _ _ rfl) (e2 _) e4 (aD bR br bm) (sN _) (k:=λa bQ cI cM fm I=>?_);revert a;refine ad λa I=>?_;have cx:=aK hb br hb.size;refine ff I rfl (agg _ rfl) (by rw [e2];exact aw _ _ rfl) cI rfl ⟨?_,aK cx cM cx.size⟩
   congr 2
   refine Dy λr _=>?_;rw [vX,mz ae];by_cases e:r=x.b<;>simp [mC,cX,eu.ec,e]
 by_cases aM:x.op=3\/x.op=4\/x.op=5
 · have hQ:hD x=[x.a,x.b]:=by rcases aM with h|h|h<;>rw [mz h]<;>rfl
   have agk:=vf x.a (by rw [hQ];simp);have pC:=vf x.b (by rw [hQ];simp);rcases aM with h|h|h
   all_goals
     revert a;(repeat first|(intro a I;(refine gJ (λak=>dd aq.heap.size x ak) [(0,true),(1,true),(2,true),(3,true),(4,true),(5,false),(6,true),(7,false)] 10 mixed bh aL ?_;simp only [fF,atZ,at1,aug,atS,atO]);revert a)|refine ag ?_|refine J (af aL.op) ?_);intro a I;have LY:∀ak,dd aq.heap.size x ak->ak.cell? ⟨aq.heap.size,0+1,none⟩=some (.int .i64 (x.a:Nat)):=λak h=>aF h rfl;have LZ:∀ak,dd aq.heap.size x ak->ak.cell? ⟨aq.heap.size,0+2,none⟩=some (.int .i64 (x.b:Nat)):=λak h=>aF h rfl;revert a;(repeat first|refine e3 ?_|refine cB (λak ar=>dY (n:=16) (aA _ _ rfl) (aw _ _ rfl) (j:=x.a) rfl rfl rfl bj) ?_|refine cB (λak ar=>af (LY ak ar)) ?_|refine cB (λak ar=>af (LZ ak ar)) ?_);intro a I;refine c7 ?_;refine cr I (aw _ _ rfl) (show(wr.drewN 1).heap[w.heap.size]? =_ from eK) (i:=0+x.a) (by rw [e2];omega) rfl rfl rfl (k:=λa bN bB br dw I=>?_);rw [qP]at bB;have rb:dd aq.heap.size x bN:=aD (show(wr.drewN 1).heap[aq.heap.size]? =_ from aL) br bm;have U8:=aD (show(wr.drewN 1).heap[ax.heap.size]? =_ from bR) br bm;have cx:=aK (hb.trans (cP.below ⟨1,rfl⟩ _)) br hb.size;refine atJ ⟨rfl,rb,?_⟩;revert a;(repeat first|refine e3 ?_|refine cB (λak ar=>dY (n:=16) (aA _ _ rfl) (aw _ _ rfl) (j:=x.b) rfl rfl rfl bj) ?_);intro a I;refine c7 ?_;refine cr I (aw _ _ rfl) bB (i:=0+x.b) (by rw [e2];omega) rfl rfl rfl (k:=λa bQ cI cM fm I=>?_);rw [qP]at cI;refine atJ ⟨rfl,aD rb cM bm,?_⟩;have afx:k4 w.heap.size (mC (mC (oy x fv) x.a true) x.b true) bQ:=cI;have agU:=aD U8 cM bm;have bP:=aK cx cM cx.size;refine fj ?_;revert a;(repeat first|refine ag ?_|refine J (fR (agg _ rfl) (aw _ _ rfl) (e2 _) afx.all) ?_);intro a I;refine dX I (cs:=(er (mC (mC (oy x fv) x.a true) x.b true)).toArray) (aw _ _ rfl) (e2 _) e4 agU (sN _) (k:=λa bt c8 cf fZ I=>?_);revert a;refine ad λa I=>?_;refine ff I rfl (agg _ rfl) (by rw [e2];exact aw _ _ rfl) c8 rfl ⟨?_,aK bP cf bP.size⟩
     congr 2
     refine Dy λr _=>?_;rw [vX,hQ];by_cases e:r=x.b<;>by_cases bf:r=x.a<;>simp [mC,e,bf]
 by_cases gM:x.op=6\/x.op=7\/x.op=8\/x.op=11\/x.op=12\/x.op=13\/x.op=14\/x.op=16\/x.op=17\/x.op=19
 · have hQ:hD x=[x.a]:=by rcases gM with h|h|h|h|h|h|h|h|h|h<;>rw [mz h]<;>rfl
   have agk:=vf x.a (by rw [hQ];simp);rcases gM with h|h|h|h|h|h|h|h|h|h
   all_goals
     revert a;(repeat first|refine ag ?_|refine J (dY (n:=16) (aA _ _ rfl) (aw _ _ rfl) (j:=x.a) rfl rfl rfl bj) ?_|refine J (af aL.op) ?_|refine J (af cV) ?_);intro a I;refine cr I (aw _ _ rfl) eK (i:=0+x.a) (by rw [e2];omega) rfl rfl rfl (k:=λa bN bB br dw I=>?_);rw [qP]at bB;have wJ:k4 w.heap.size (mC (oy x fv) x.a true) bN:=bB;revert a;(repeat first|refine ag ?_|refine J (fR (agg _ rfl) (aw _ _ rfl) (e2 _) wJ.all) ?_);intro a I;refine dX I (cs:=(er (mC (oy x fv) x.a true)).toArray) (aw _ _ rfl) (e2 _) e4 (aD bR br bm) (sN _) (k:=λa bQ cI cM fm I=>?_);revert a;refine ad λa I=>?_;have cx:=aK hb br hb.size;refine ff I rfl (agg _ rfl) (by rw [e2];exact aw _ _ rfl) cI rfl ⟨?_,aK cx cM cx.size⟩
     congr 2
     refine Dy λr _=>?_;rw [vX,hQ];by_cases e:r=x.a<;>simp [mC,e]
 have hQ:hD x=[]:=by
   unfold hD;generalize x.op=o at*;rcases o with _|_|_|_|_|_|_|_|_|_|_|_|_|_|_|_|_|_|_|_|o<;>first|rfl|omega
 revert a;(repeat first|refine ag ?_|refine J (fR (agg _ rfl) (aw _ _ rfl) (e2 _) eK.all) ?_|refine J (af aL.op) ?_);intro a I;refine dX I (cs:=(er (oy x fv)).toArray) (aw _ _ rfl) (e2 _) e4 bR (sN _) (k:=λa bQ cI cM fm I=>?_);revert a;refine ad λa I=>?_;refine ff I rfl (agg _ rfl) (by rw [e2];exact aw _ _ rfl) cI rfl ⟨?_,aK hb cM hb.size⟩
 congr 2
 refine Dy λr _=>?_;rw [vX,hQ];simp
theorem W7(h:qf K)(r:Nat):(K r).getD 0<2^64:=by
 cases au:K r with
 |none=>exact(by decide:(0:Nat) <2^64)
 |some v=>exact h r v au
theorem QW{a b:Option Nat}:∀m,qW f a b=some m->f (a.getD 0) (b.getD 0)=m:=by
 intro m h;cases a<;>cases b<;>simp [qW]at h ⊢
 exact h
theorem JU{f:Nat->Nat}{a:Option Nat}:∀m,a.map f=some m->f (a.getD 0)=m:=by
 intro m h;cases a<;>simp at h ⊢
 exact h
theorem QX{a b:Option Nat}:(qW f a b).isSome=(a.isSome&&b.isSome):=by cases a<;>cases b<;>rfl
theorem map_some{f:Nat->Nat}{a:Option Nat}:(a.map f).isSome=a.isSome:=by cases a<;>rfl
theorem ajB(w:World)(x:Ins)(hx:fc x)(aj:dW x=true){q b:Nat}(h:jr w q b K)(cv:qf K):bd prog 217 [.agg x.cells.toArray,.map (some b)].toArray w
   (λv w'=>(∃u:Nat,v=.tuple #[.int .u64 (u:Nat),.bool (iI x K).isSome]/\∀m,iI x K=some m->u=m)/\Below w.heap.size w w'):=by
 have ha:=hx.a;have I2:=hx.b;have eK:=W7 cv x.a;have aH:=W7 cv x.b;have ft:x.op<20:=by obtain⟨a8,dz,_⟩:=nS aj;exact tT dz
 refine dP func217 rfl 83 rfl 85 rfl (λa I=>?_);revert a;refine ad λa I=>?_;refine di I rfl (k:=λa aq aE aT b8 I=>?_);have aB:=ca aT;have aL:dd w.heap.size x aq:=aE;have iv:=Pr aq (h.below aB) (r:=x.a) ha;have o6:=Pr aq (h.below aB) (r:=x.b) I2;have cV:aq.cell? ⟨w.heap.size,0+1,none⟩=some (.int .i64 (x.a:Nat)):=aF aL rfl;have cb:aq.cell? ⟨w.heap.size,0+2,none⟩=some (.int .i64 (x.b:Nat)):=aF aL rfl;have db:aq.cell? ⟨w.heap.size,0+3,none⟩=some (.int .i64 (x.n:Nat)):=aF aL rfl;have jH:aq.cell? ⟨w.heap.size,0+4,none⟩=some (.int .u64 (x.bK:Nat)):=aF aL rfl;clear aE aT;generalize AK:(K x.a).getD 0=oK at iv eK;generalize yH:(K x.b).getD 0=uj at o6 aH;generalize Aw:(K x.a).isSome=A2 at iv;generalize CP:(K x.b).isSome=vz at o6;by_cases ae:x.op=2
 · have q9:(x.op:Int)=2:=bj
   have hm:iI x K=K x.b:=by unfold iI;simp only [ae]
   rw [hm,CP];revert a;(repeat first|refine ag ?_|refine J (hN iv) ?_|refine J (hN o6) ?_|refine J (af aL.op) ?_|refine J (af cV) ?_|refine J (af cb) ?_);intro a I;exact eI I rfl rfl rfl ⟨⟨_,rfl,λm h=>by rw [h]at yH;exact yH.symm⟩,aB⟩
 by_cases aM:x.op=3
 · have afi:(x.op:Int)=3:=bj
   have hm:iI x K=qW (λa b=>a &&& b) (K x.a) (K x.b):=by unfold iI;simp only [aM]
   have az:∀m,qW (λa b=>a &&& b) (K x.a) (K x.b)=some m->oK &&& uj=m:=λm h=>by rw [<-AK,<-yH];exact QW m h
   rw [hm,QX,Aw,CP];cases A2
   · revert a;(repeat first|refine ag ?_|refine J (hN iv) ?_|refine J (hN o6) ?_|refine J (fi (a:=oK) (b:=uj) rfl rfl rfl rfl rfl eK aH) ?_|refine J (af aL.op) ?_|refine J (af cV) ?_|refine J (af cb) ?_);intro a I;exact eI I rfl rfl rfl ⟨⟨_,rfl,az⟩,aB⟩
   · revert a;(repeat first|refine ag ?_|refine J (hN iv) ?_|refine J (hN o6) ?_|refine J (fi (a:=oK) (b:=uj) rfl rfl rfl rfl rfl eK aH) ?_|refine J (af aL.op) ?_|refine J (af cV) ?_|refine J (af cb) ?_);intro a I;exact eI I rfl rfl rfl ⟨⟨_,bl,az⟩,aB⟩
 by_cases cc:x.op=4
 · have afm:(x.op:Int)=4:=bj
   have hm:iI x K=qW (λa b=>a ||| b) (K x.a) (K x.b):=by unfold iI;simp only [cc]
   have az:∀m,qW (λa b=>a ||| b) (K x.a) (K x.b)=some m->oK ||| uj=m:=λm h=>by rw [<-AK,<-yH];exact QW m h
   rw [hm,QX,Aw,CP];cases A2
   · revert a;(repeat first|refine ag ?_|refine J (hN iv) ?_|refine J (hN o6) ?_|refine J (fi (a:=oK) (b:=uj) rfl rfl rfl rfl rfl eK aH) ?_|refine J (af aL.op) ?_|refine J (af cV) ?_|refine J (af cb) ?_);intro a I;exact eI I rfl rfl rfl ⟨⟨_,rfl,az⟩,aB⟩
   · revert a;(repeat first|refine ag ?_|refine J (hN iv) ?_|refine J (hN o6) ?_|refine J (fi (a:=oK) (b:=uj) rfl rfl rfl rfl rfl eK aH) ?_|refine J (af aL.op) ?_|refine J (af cV) ?_|refine J (af cb) ?_);intro a I;exact eI I rfl rfl rfl ⟨⟨_,bl,az⟩,aB⟩
 by_cases gA:x.op=5
 · have afn:(x.op:Int)=5:=bj
   have hm:iI x K=qW (λa b=>a ^^^ b) (K x.a) (K x.b):=by unfold iI;simp only [gA]
   have az:∀m,qW (λa b=>a ^^^ b) (K x.a) (K x.b)=some m->oK ^^^ uj=m:=λm h=>by rw [<-AK,<-yH];exact QW m h
   rw [hm,QX,Aw,CP];cases A2
   · revert a;(repeat first|refine ag ?_|refine J (hN iv) ?_|refine J (hN o6) ?_|refine J (EB (a:=oK) (b:=uj) rfl rfl rfl rfl rfl eK aH) ?_|refine J (af aL.op) ?_|refine J (af cV) ?_|refine J (af cb) ?_);intro a I;exact eI I rfl rfl rfl ⟨⟨_,rfl,az⟩,aB⟩
   · revert a;(repeat first|refine ag ?_|refine J (hN iv) ?_|refine J (hN o6) ?_|refine J (EB (a:=oK) (b:=uj) rfl rfl rfl rfl rfl eK aH) ?_|refine J (af aL.op) ?_|refine J (af cV) ?_|refine J (af cb) ?_);intro a I;exact eI I rfl rfl rfl ⟨⟨_,bl,az⟩,aB⟩
 by_cases gM:x.op=6
 · have afq:(x.op:Int)=6:=bj
   have Ob:=Dx aj (.inl gM);have hm:iI x K=(K x.a).map λa=>mA a x.n:=by unfold iI;simp only [gM]
   have az:∀m,((K x.a).map λa=>mA a x.n)=some m->mA oK x.n=m:=λm h=>by rw [<-AK];exact JU (f:=λa=>mA a x.n) m h
   rw [hm,map_some,Aw];revert a;(repeat first|refine ag ?_|refine J (hN iv) ?_|refine J (hN o6) ?_|refine J (L7 (a:=oK) (b:=x.n) rfl rfl rfl rfl bj) ?_|refine J (af aL.op) ?_|refine J (af cV) ?_|refine J (af cb) ?_|refine J (af db) ?_);intro a I;exact eI I rfl rfl rfl ⟨⟨_,rfl,az⟩,aB⟩
 by_cases jc:x.op=7
 · have afr:(x.op:Int)=7:=bj
   have Ob:=Dx aj (.inr jc);have hm:iI x K=(K x.a).map λa=>a/2^x.n:=by unfold iI;simp only [jc]
   have az:∀m,((K x.a).map λa=>a/2^x.n)=some m->oK/2^x.n=m:=λm h=>by rw [<-AK];exact JU (f:=λa=>a/2^x.n) m h
   rw [hm,map_some,Aw];revert a;(repeat first|refine ag ?_|refine J (hN iv) ?_|refine J (hN o6) ?_|refine J (lG (a:=oK) (b:=x.n) rfl rfl rfl rfl (by show x.n<=64;omega)) ?_|refine J (af aL.op) ?_|refine J (af cV) ?_|refine J (af cb) ?_|refine J (af db) ?_);intro a I;exact eI I rfl rfl rfl ⟨⟨_,rfl,az⟩,aB⟩
 by_cases ko:x.op=8
 · have afs:(x.op:Int)=8:=bj
   have hm:iI x K=(K x.a).map λa=>a &&& x.bK:=by unfold iI;simp only [ko]
   have az:∀m,((K x.a).map λa=>a &&& x.bK)=some m->oK &&& x.bK=m:=λm h=>by rw [<-AK];exact JU (f:=λa=>a &&& x.bK) m h
   rw [hm,map_some,Aw];revert a;(repeat first|refine ag ?_|refine J (hN iv) ?_|refine J (hN o6) ?_|refine J (fi (a:=oK) (b:=x.bK) rfl rfl rfl rfl rfl eK hx.bK) ?_|refine J (af aL.op) ?_|refine J (af cV) ?_|refine J (af cb) ?_|refine J (af jH) ?_);intro a I;exact eI I rfl rfl rfl ⟨⟨_,rfl,az⟩,aB⟩
 by_cases Cc:x.op=14
 · have afe:(x.op:Int)=14:=bj
   have Oc:=Kq aj (.inl Cc);have hm:iI x K=(K x.a).map λa=>mL a x.n true:=by unfold iI;simp only [Cc]
   have az:∀m,((K x.a).map λa=>mL a x.n true)=some m->mL oK x.n true=m:=λm h=>by rw [<-AK];exact JU (f:=λa=>mL a x.n true) m h
   rw [hm,map_some,Aw];have Nz:=Mo aq oK x.n true eK bj;revert a;(repeat first|refine ag ?_|refine J (hN iv) ?_|refine J (hN o6) ?_|refine J (af aL.op) ?_|refine J (af cV) ?_|refine J (af cb) ?_|refine J (af db) ?_);intro a I;refine aQ I Nz λa v ax ab I=>?_;obtain⟨rfl,rfl⟩:=ab;revert a;refine ad λa I=>?_;exact eI I rfl rfl rfl ⟨⟨_,rfl,az⟩,aB⟩
 have hm:iI x K=none:=by
   unfold iI;split<;>first|omega|rfl
 rw [hm];revert a;(repeat first|refine ag ?_|refine J (hN iv) ?_|refine J (hN o6) ?_|refine J (af aL.op) ?_|refine J (af cV) ?_|refine J (af cb) ?_);intro a I;exact eI I rfl rfl rfl ⟨⟨0,rfl,λm h=>by cases h⟩,aB⟩
theorem abd(w:World)(x:Ins)(hx:fc x)(aj:dW x=true){q b:Nat}(h:jr w q b K)(cv:qf K):bd prog 165 [.agg x.cells.toArray,.map (some b)].toArray w
  (λv w'=>v=.agg (h0 x K).cells.toArray/\Below w.heap.size w w'):=by
 have ha:=hx.a;refine dP func165 rfl 65 rfl 67 rfl (λa I=>?_);revert a;refine ad λa I=>?_;refine di I rfl (k:=λa aq aE aT b8 I=>?_);have aB:=ca aT;refine b6 I fK λa ax aP aS cZ I=>?_;have aC:=aB.trans ((ca aS).mono aB.size);have sj:dd w.heap.size x ax:=aD aE aS bl;revert a;(repeat first|refine ag ?_|refine J (bJ sj.all) ?_);intro a I;refine aQ I (ajB ax x hx aj (h.below aC) cv) λa v a6 ab I=>?_;obtain⟨⟨u,rfl,hu⟩,a1⟩:=ab;have bR:=(a1.block _ (bO aP)).trans aP;have aL:dd w.heap.size x a6:=(a1.block _ (bO sj)).trans sj;have dk:=aC.trans (a1.mono aC.size);have gj:=aB.size;have cV:a6.cell? ⟨w.heap.size,0+1,none⟩=some (.int .i64 (x.a:Nat)):=aF aL rfl;have db:a6.cell? ⟨w.heap.size,0+3,none⟩=some (.int .i64 (x.n:Nat)):=aF aL rfl;have jH:a6.cell? ⟨w.heap.size,0+4,none⟩=some (.int .u64 (x.bK:Nat)):=aF aL rfl;have iv:=Pr a6 (h.below dk) (r:=x.a) ha;clear aP aS aT aE sj;cases hm:iI x K with
 |some m=>
  obtain rfl:=hu m hm;have e:h0 x K=⟨1,x.a,0,0,u⟩:=by unfold h0;rw [hm]
  rw [e];rw [hm]at I;revert a;(repeat first|refine ag ?_|refine J (cA (vs:=[(0,.int .i64 1),(1,.int .i64 (x.a:Nat)),(4,.int .u64 (u:Nat))]) (cells:=(Ins.cells ⟨1,x.a,0,0,u⟩).toArray) bh ⟨rfl,rfl,rfl,rfl,rfl,rfl,trivial⟩) ?_|refine J (af cV) ?_);intro a I;refine cE I (cs:=(Ins.cells ⟨1,x.a,0,0,u⟩).toArray) bR (ry _) λa bZ bX bD eY I=>?_;revert a;refine ad λa I=>?_;exact ff I rfl (agg _ rfl) (aw _ _ rfl) bX rfl ⟨rfl,dk.grown bD dk.size (λk au=>by cases au;exact gj)⟩
 |none=>
  rw [hm]at I;cases au:K x.a with
  |none=>
   have e:h0 x K=x:=by unfold h0;rw [hm,au]
   rw [e];simp only [au,Option.getD_none,Option.isSome_none]at iv;revert a;(repeat first|refine ag ?_|refine J (hN iv) ?_|refine J (bJ aL.all) ?_|refine J (af cV) ?_);intro a I;refine cE I (cs:=x.cells.toArray) bR (ry _) λa bZ bX bD eY I=>?_;revert a;refine ad λa I=>?_;exact ff I rfl (agg _ rfl) (aw _ _ rfl) bX rfl ⟨rfl,dk.grown bD dk.size (λk au=>by cases au;exact gj)⟩
  |some v=>
   simp only [au,aw6,Option.isSome_some]at iv;have OX:=cv _ _ au;by_cases dZ:x.op=19
   · have MJ:(x.op:Int)=19:=bj
     by_cases ao:v=x.bK
     · have OW:(v:Int)=(x.bK:Int):=bj
       have e:h0 x K=eQ 18:=by unfold h0;rw [hm,au];simp only [atM dZ,atM ao]
       rw [e];revert a;(repeat first|refine ag ?_|refine J (hN iv) ?_|refine J (cA (vs:=[(0,.int .i64 18)]) (cells:=(Ins.cells (eQ 18)).toArray) bh ⟨rfl,rfl,trivial⟩) ?_|refine J (af aL.op) ?_|refine J (af cV) ?_|refine J (af jH) ?_);intro a I;refine cE I (cs:=(Ins.cells (eQ 18)).toArray) bR (ry _) λa bZ bX bD eY I=>?_;revert a;refine ad λa I=>?_;exact ff I rfl (agg _ rfl) (aw _ _ rfl) bX rfl ⟨rfl,dk.grown bD dk.size (λk au=>by cases au;exact gj)⟩
     · have OW:¬(v:Int)=(x.bK:Int):=bj
       have e:h0 x K=⟨18,0,0,x.n,0⟩:=by unfold h0;rw [hm,au];simp only [atM dZ,atK ao]
       rw [e];revert a;(repeat first|refine ag ?_|refine J (hN iv) ?_|refine J (cA (vs:=[(0,.int .i64 18),(3,.int .i64 (x.n:Nat))]) (cells:=(Ins.cells ⟨18,0,0,x.n,0⟩).toArray) bh ⟨rfl,rfl,rfl,rfl,trivial⟩) ?_|refine J (af aL.op) ?_|refine J (af cV) ?_|refine J (af db) ?_|refine J (af jH) ?_);intro a I;refine cE I (cs:=(Ins.cells ⟨18,0,0,x.n,0⟩).toArray) bR (ry _) λa bZ bX bD eY I=>?_;revert a;refine ad λa I=>?_;exact ff I rfl (agg _ rfl) (aw _ _ rfl) bX rfl ⟨rfl,dk.grown bD dk.size (λk au=>by cases au;exact gj)⟩
   by_cases gz:x.op=17
   · have aff:(x.op:Int)=17:=bj
     have Oc:=Kq aj (.inr gz);have NT:((x.bK:Int)==1)=decide (x.bK=1):=by rw [axm];simp;omega
     have NF:=Tp a6 v x.n (decide (x.bK=1)) OX bj;revert a;(repeat first|refine ag ?_|refine J (hN iv) ?_|refine J (af aL.op) ?_|refine J (af cV) ?_|refine J (af db) ?_|refine J (af jH) ?_);intro a I;rw [NT]at I;refine ig I NF Sd ⟨rfl,rfl,rfl,trivial⟩ (k:=λa iy bN ab I=>?_);obtain⟨rfl,rfl⟩:=ab;cases bC:r' v x.n (decide (x.bK=1))with
     |true=>
       have e:h0 x K=eQ 18:=by unfold h0;rw [hm,au];simp only [atK dZ,atM (And.intro gz bC)]
       rw [e];rw [bC]at I;revert a;(repeat first|refine ag ?_|refine J (cA (vs:=[(0,.int .i64 18)]) (cells:=(Ins.cells (eQ 18)).toArray) bh ⟨rfl,rfl,trivial⟩) ?_);intro a I;refine cE I (cs:=(Ins.cells (eQ 18)).toArray) bR (ry _) λa bZ bX bD eY I=>?_;revert a;refine ad λa I=>?_;exact ff I rfl (agg _ rfl) (aw _ _ rfl) bX rfl ⟨rfl,dk.grown bD dk.size (λk au=>by cases au;exact gj)⟩
     |false=>
       have e:h0 x K=x:=by unfold h0;rw [hm,au];simp only [atK dZ];rw [atK (λh=>by rw [bC]at h;cases h.2)]
       rw [e];rw [bC]at I;revert a;(repeat first|refine ag ?_|refine J (bJ aL.all) ?_);intro a I;refine cE I (cs:=x.cells.toArray) bR (ry _) λa bZ bX bD eY I=>?_;revert a;refine ad λa I=>?_;exact ff I rfl (agg _ rfl) (aw _ _ rfl) bX rfl ⟨rfl,dk.grown bD dk.size (λk au=>by cases au;exact gj)⟩
   · have e:h0 x K=x:=by unfold h0;rw [hm,au];simp only [atK dZ];rw [atK (λh=>gz h.1)]
     rw [e];revert a;(repeat first|refine ag ?_|refine J (hN iv) ?_|refine J (bJ aL.all) ?_|refine J (af aL.op) ?_|refine J (af cV) ?_);intro a I;refine cE I (cs:=x.cells.toArray) bR (ry _) λa bZ bX bD eY I=>?_;revert a;refine ad λa I=>?_;exact ff I rfl (agg _ rfl) (aw _ _ rfl) bX rfl ⟨rfl,dk.grown bD dk.size (λk au=>by cases au;exact gj)⟩
def hJ(w:World)(g:Nat)(rest:List Value)(xs:List Ins):Prop:=w.heap[g]? =some (.cells (xs.flatMap Ins.cells++rest).toArray 66 (0,0))
theorem AP(xs:List Ins):(xs.flatMap Ins.cells).length=xs.length*5:=B9 j' xs
theorem hJ.cell{g:Nat}(h:hJ w g rest xs){i:Nat}(ai:i<xs.length):∀j v,xs[i].cells.toArray[j]? =some v->w.cell? ⟨g,0+i*5+j,none⟩=some v:=by
 intro j v ah;have tC:xs[i].cells[j]? =some v:=by simpa using ah
 have NZ:j<5:=by have:=(atY.1 tC).1;rwa [j']at this
 refine aF h ?_;rw [aub];have:=flat_get j' xs i ai j NZ;rw [tC]at this;simp only [awg];rw [auK (by rw [AP];omega)];exact this
theorem hJ.rd{g:Nat}(h:hJ w g rest xs):dA w (some ⟨g,0,none⟩) 5 Ins.cells xs:=λi ai=>⟨g,0,rfl,λj v ah=>h.cell ai j v (by simpa using ah)⟩
theorem hJ.below{g:Nat}(h:hJ w g rest xs)(hb:Below w.heap.size w w'):hJ w' g rest xs:=(hb.block _ (bO h)).trans h
theorem hJ.set{g i:Nat}{y:Ins}(ai:i<xs.length)(h:w.heap[g]? =some (.cells ((xs.flatMap Ins.cells++rest).toArray.toList.take (0+i*5)++y.cells.toArray.toList++(xs.flatMap Ins.cells++rest).toArray.toList.drop (0+i*5+5)).toArray 66 (0,0))):hJ w g rest (xs.set i y):=by
 unfold hJ;rw [h];have aN:=AP xs;have e:=zX j' (cs:=y.cells) (p:=0) (q:=5) xs i ai y bk bk (by simp [Ins.cells]);rw [<-e];simp only [aub,avo];rw [awB bj,awC bj];simp
theorem Dm{base n:Nat}{v:Value}(h:w.ownsRow base 66 5 v n (xs.flatMap Ins.cells))(ba:xs.length=n):(v=.slice none 0 0/\xs=[])\/∃g c rest,v=.slice (some ⟨g,0,none⟩) n c/\base<=g/\n<=c/\hJ w g rest xs:=by
 rcases h.2 with ⟨aJ,U⟩|⟨g,cap,cur,aJ,hb,az,hle,_,aG,bW⟩
 · left;refine⟨aJ,avD bj⟩
 · right;refine⟨g,cap,cur.toList.drop (n*5),aJ,hb,hle,?_⟩;unfold hJ;rw [az,<-bW,awd]
def oO(ap:Option Addr):Prop:=∀a,ap=some a->∃b o,a=⟨b,o,none⟩
theorem amL{b o:Nat}(h:dA w (some ⟨b,o,none⟩) 5 Ins.cells xs):∀j u,(xs.flatMap Ins.cells)[j]? =some u->w.cell? ⟨b,o+j,none⟩=some u:=by
 intro j u ah;have bu:=(atY.1 ah).1;rw [AP]at bu;have ai:j/5<xs.length:=bj
 obtain⟨b',my,e,av⟩:=h (j/5) ai;injection e with e
 injection e with bw bf
 subst bw;subst bf;have bC:=flat_get j' xs (j/5) ai (j%5) (avI _ bk);have aed:j/5*5+j%5=j:=bj
 rw [aed,ah]at bC;have:=av (j%5) u bC.symm;rw [show o+j/5*5+j%5=o+j by omega]at this;exact this
theorem WD(w:World)(p:List Ins){ap:Option Addr}{cp:Nat}(od:oO ap)(cj:dA w ap 5 Ins.cells p)(hlen:p.length<=16384):bd prog 31 [.slice ap p.length cp].toArray w
  (λv w'=>((v=.slice none 0 0/\p=[])\/∃g c rest,v=.slice (some ⟨g,0,none⟩) p.length c/\w.heap.size<=g/\p.length<=c/\hJ w' g rest p)/\Below w.heap.size w w'):=by
 cases ap with
 |none=>
  have aW:p=[]:=by
    cases p with
    |nil=>rfl
    |cons x p=>obtain⟨b,o,e,_⟩:=cj 0 bl;cases e
  refine auC (AnyE.slices_Clone_nil Tryz.WC p.length cp w) ?_;rintro e w' ⟨he,rfl⟩;exact⟨_,he,.inl ⟨rfl,aW⟩,atL _ _⟩
 |some a=>
  obtain⟨b,o,rfl⟩:=od a rfl;obtain⟨i0,g1,g2,g3,g4⟩:=avH fK;refine auC (AnyE.slices_Clone Tryz.WC i0 _ 5 _ g1 g2 g3 g4 rfl bk sizeOf66 b o p.length cp (p.flatMap Ins.cells) w (AP p) bn bj (amL cj) (λu hu=>?_)) ?_
  · obtain⟨x,_,hx⟩:=awa.1 hu;exact ry x u (by simpa using hx)
  · rintro e w' ⟨iy,he,bp,b5,hb⟩;exact⟨iy,he,Dm bp rfl,hb⟩
theorem jr.fV{q b:Nat}(h:jr w q b K)(hb:w'.heap[b]? =w.heap[b]?)(aZ:q<=eL):jr w' eL b K:=by
 obtain⟨n,D,U,⟨es,clock,aM,cc⟩,ae⟩:=h;exact⟨n,D,bj,⟨es,clock,hb.trans aM,cc⟩,ae⟩
theorem jr.ne{q b g:Nat}(h:jr w q b K){c:Array Value}{f:Nat × Nat}(az:w.heap[g]? =some (.cells c e f)):b≠g:=by
 rintro rfl;obtain⟨n,D,U,⟨es,clock,aM,cc⟩,ae⟩:=h;rw [az]at aM;cases aM
structure jX(w:World)(base q A:Nat)(aa:List (Option Nat))(L:List (Option dp)):Prop where
 fV:w.heap[A]? =some (.cells (aa.map Value.map).toArray 276 (0,0))
 len:aa.length=L.length
 wD:∀j b:Nat,aa[j]? =some (some b)->base<=b/\∃K,L[j]? =some (some K)/\jr w q b K
 J1:∀j:Nat,aa[j]? =some none->L[j]? =some none
 inj:∀j k b:Nat,aa[j]? =some (some b)->aa[k]? =some (some b)->j=k
section
variable {w w' w'':World} {base q A:Nat} {aa:List (Option Nat)} {L:List (Option dp)}
theorem jX.keep(h:jX w base q A aa L)(aZ:q<=eL)(eK:w'.heap[A]? =w.heap[A]?)(hm:∀j b:Nat,aa[j]? =some (some b)->w'.heap[b]? =w.heap[b]?):jX w' base eL A aa L:=
 ⟨eK.trans h.fV,h.len,λj b hb=>by
  obtain⟨U,K,ae,aM⟩:=h.wD j b hb;exact⟨U,K,ae,aM.fV (hm j b hb) aZ⟩,h.J1,h.inj⟩
theorem jX.below(h:jX w base q A aa L)(hb:Below w.heap.size w w'):jX w' base q A aa L:=
 h.keep (atI _) (hb.block _ (bO h.fV)) λj b ah=>by
  obtain⟨_,K,_,aM⟩:=h.wD j b ah;exact hb.block _ aM.lt
theorem jX.cells(h:jX w base q A aa L){g:Nat}{c:Array Value}{f:Nat × Nat}(az:w.heap[g]? =some (.cells c e f))(b5:A≠g)(an:w.grownBy w' (some g)):jX w' base q A aa L:=
 h.keep (atI _) (an.block _ (bO h.fV) (by simpa using b5)) λj b ah=>by
  obtain⟨_,K,_,aM⟩:=h.wD j b ah;have:=aM.ne az;exact an.block _ aM.lt (by simpa using this)
theorem jX.more(h:jX w base q A aa L)(aZ:q<=eL):jX w base eL A aa L:=h.keep aZ rfl λ_ _ _=>rfl
theorem jX.cell(h:jX w base q A aa L){o:Option Nat}(ah:aa[j]? =some o):w.cell? ⟨A,0+j,none⟩=some (.map o):=aF h.fV (by rw [aub];simp [ah])
theorem jX.met(h:jX w base q A aa L){b':Nat}{K':dp}(ah:j<aa.length)(mm:base<=b')(az:w.grownBy w' (some b'))(iR:b'≠A)(NH:∀i:Nat,aa[i]? =some (some b')->i=j)(cv:jr w' q b' K')(eK:w''.heap[A]? =some (.cells ((aa.map Value.map).toArray.setIfInBounds (0+j) (.map (some b'))) 276 (0,0)))(aP:w'.grownBy w'' (some A)):jX w'' base q A (aa.set j (some b')) (L.set j (some K')):=by
 have bu:=h.len;have old:∀i b:Nat,i≠j->(aa.set j (some b'))[i]? =some (some b)->aa[i]? =some (some b):=λi b ai hb=>by rwa [auO (λe=>ai e.symm)]at hb
 refine⟨?_,by simp [bu],λi b hb=>?_,λi ai=>?_,λi k b U ae=>?_⟩
 · rw [eK,auR,aub,aww]
 · by_cases e:i=j
   · subst e;rw [auS ah]at hb;injection hb with hb;injection hb with hb
     subst hb;refine⟨mm,K',by rw [auS bj],cv.fV (aP.block _ cv.lt (by simpa using iR)) (atI _)⟩
   · have gU:=old i b e hb;obtain⟨U,K,ae,aM⟩:=h.wD i b gU;have b5:b≠b':=λbf=>e (NH i (by rw [<-bf];exact gU));have ahv:=aM.ne h.fV;have cc:=az.block _ aM.lt (by simpa using b5);have gA:=auj aM.lt az.size;refine⟨U,K,by rw [auO (λbf=>e bf.symm)];exact ae,aM.fV ((aP.block _ gA (by simpa using ahv)).trans cc) (atI _)⟩
 · by_cases e:i=j
   · subst e;rw [auS ah]at ai;cases ai
   · rw [auO (λbf=>e bf.symm)]at ai ⊢;exact h.J1 i ai
 · by_cases bw:i=j<;>by_cases bf:k=j
   · rw [bw,bf]
   · subst bw;rw [auS ah]at U;injection U with U;injection U with U
     subst U;exact(NH k (old k _ bf ae)).symm
   · subst bf;rw [auS ah]at ae;injection ae with ae;injection ae with ae
     subst ae;exact NH i (old i _ bw U)
   · exact h.inj i k b (old i b bw U) (old k b bf ae)
theorem XM(h:jX w base q A aa L)(ah:j<aa.length){rz:Nat}(au:jr w q rz K)(w3:∀i:Nat,aa[i]? ≠some (some rz))(dk:base<=w.heap.size):
  bd prog 167 [.map aa[j],.map (some rz)].toArray w (λv w'=>∃b',v=.map (some b')/\base<=b'/\(∀(g:Nat) (c:Array Value) (e:TypeId) (f:Nat × Nat),w.heap[g]? =some (.cells c e f)->g≠b')/\b'≠rz/\w.grownBy w' (some b')/\(∀i:Nat,aa[i]? =some (some b')->i=j)/\jr w' q b' (yU (L[j]?.getD none) K)):=by
 have rf:=atT ah;cases hb:aa[j]with
 |none=>
  rw [hb]at rf;rw [h.J1 j rf];refine(ak2 w au).mono ?_;rintro v w' ⟨b',rfl,U,ae,aM⟩;refine⟨b',rfl,bj,λg c e f az=>by have:=bO az;omega,by have:=au.lt;omega,⟨aM.os,aM.tape,aM.output,aM.size,λi ai _=>aM.block i ai⟩,λi ai=>?_,ae⟩;obtain⟨_,uo,_,cc⟩:=h.wD i b' ai;have:=cc.lt;omega
 |some fk=>
  rw [hb]at rf;obtain⟨U,Lc,ae,aM⟩:=h.wD j fk rf;rw [ae];have b5:fk≠rz:=λe=>w3 j (by rw [rf,e]);refine(ak3 w aM au b5).mono ?_;rintro v w' ⟨rfl,cc,gA⟩;exact⟨fk,rfl,U,λg c e f az=>(aM.ne az).symm,b5,gA,λi ai=>h.inj i j fk ai rf,cc⟩
end
end
end Go.Proofs.YtnkjmbbddmgjiaaGreatDoor