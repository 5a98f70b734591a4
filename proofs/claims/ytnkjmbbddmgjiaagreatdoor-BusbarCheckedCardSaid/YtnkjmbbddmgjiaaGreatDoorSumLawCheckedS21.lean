import Derived.Test.YtnkjmbbddmgjiaaGreatDoorSumLawCheckedS20
set_option linter.unusedSimpArgs false
set_option linter.unusedVariables false
set_option maxRecDepth 1000000
set_option maxHeartbeats 400000000
namespace Go.Proofs.YtnkjmbbddmgjiaaGreatDoor
open Go.RowKit Go.Proofs.Tryz
variable {ts:List s5}{f:Nat->Lit}{x:Int}{w w':World}{ss:List ByteArray}{mD mJ bi nk iK:Nat}{ti rest:List (Lit × Value)}{aR:List hZ}{key:Lit}{d:iN}{ay:Option Addr}
theorem apW:gd (aa [115])=true:=bo
theorem apV:gd (aa [98])=true:=bo
theorem apT:gd (aa [65])=true:=bo
theorem ap2:bH.nU 0 2 false 2=0:=bo
theorem ap3:bH.nU 4 4 false 2=0:=bo
theorem amw:pZ (mX none 0)=0:=bo
theorem amy:pZ (dO none 0)=0:=bo
theorem amv(p:Option Addr)(c:Nat):pZ (mX p c)=0:=amw
theorem amx(p:Option Addr)(c:Nat):pZ (dO p c)=0:=amy
theorem alr:AZ [aa [65]]=0:=bo
theorem als:AZ [aa [66]]=0:=bo
theorem Z5:m' (aa [])=0:=by
 unfold m';rw [atK bk,atM];intro k au;exact absurd au (auv _)
theorem aa1(p cp:Nat):n1 (gn p cp) [aa [65]] 2=0:=by
 unfold n1;rw [atK (show ¬gd (gn p cp).name=false from by rw [show(gn p cp).name=aa [115]from rfl,apW];decide),atK (show ¬zb (gn p cp)from λh=>by have h:(1:Int) <0\/(2:Int) <1\/((0:Int)≠0/\(1:Int)≠2):=h;omega),atK (show ¬bH.nU (gn p cp).start (gn p cp).size (gn p cp).bV 2≠0 from λh=>h ap2),atK (show ¬pZ (gn p cp)≠0 from λh=>h (amv _ _)),atK (show ¬m' (gn p cp).unit≠0 from λh=>h Z5)];exact alr
theorem Ll(q cq:Nat):n1 (hg q cq) [aa [66]] 2=0:=by
 unfold n1;rw [atK (show ¬gd (hg q cq).name=false from by rw [show(hg q cq).name=aa [98]from rfl,apV];decide),atK (show ¬zb (hg q cq)from λh=>by have h:(2:Int) <0\/(2:Int) <2\/((3:Int)≠0/\(2:Int)≠2):=h;omega),atK (show ¬bH.nU (hg q cq).start (hg q cq).size (hg q cq).bV 2≠0 from λh=>h ap3),atK (show ¬pZ (hg q cq)≠0 from λh=>h (amx _ _)),atK (show ¬m' (hg q cq).unit≠0 from λh=>h Z5)];exact als
theorem agH:mo (et none 2 0)=0:=bo
theorem I'(ay:Option Addr)(c:Nat):mo (et ay 2 c)=0:=agH
theorem alL(p cp q cq:Nat):jS (nO p cp q cq) 2 0=0:=by
 unfold jS;rw [show cn (nO p cp q cq) 0=gn p cp from rfl,show tx (nO p cp q cq) 0=[aa [65]]from rfl,atK (λh=>h (aa1 p cp)),atK (λ⟨k,au,_⟩=>by omega),atK (λ⟨_,k,au,_⟩=>by omega)]
theorem R0:aa [115]≠aa [98]:=λh=>by have:=zI.1 h;revert this;decide
theorem alM(p cp q cq:Nat):jS (nO p cp q cq) 2 1=0:=by
 unfold jS;rw [show cn (nO p cp q cq) 1=hg q cq from rfl,show tx (nO p cp q cq) 1=[aa [66]]from rfl,atK (λh=>h (Ll q cq)),atK,atK]
 · rintro ⟨h,_⟩;have h:(2:Int)=1:=h;omega
 · rintro ⟨k,au,h⟩;obtain rfl:k=0:=bj
   exact R0 h
theorem apk(p cp q cq:Nat):∀i,i<2->¬rN (nO p cp q cq) i:=by
 intro i ai h
 match i,ai with
 | 0,_=>
  have U:(1:Int)=2:=h.1;omega
 | 1,_=>
  have:=h.2 0 (tg (show 0<2 by decide) (show(1:Int)=1 from rfl) (λj ah=>by omega));exact absurd (show uJ 3 2 false=false from this) bk
theorem ak0(p cp q cq:Nat):∀i,i<2->¬pT (nO p cp q cq) i:=by
 rintro i ai ⟨k,au,_,l,m,x,U,ae,aM,cc⟩;obtain rfl:i=1:=bj
 obtain rfl:k=0:=bj
 have U:bH.jv 0 2 false=.ok l:=U;have ae:bH.jv 4 4 false=.ok m:=ae;rw [Kr]at U;rw [Qk]at ae;cases U
 cases ae
 simp at aM cc;omega
theorem LN:Hp:=by
 intro ay cL p cp q cq;unfold jh;rw [atK (λh=>h (I' ay cL)),show(et ay 2 cL).size=2 from rfl,show(nO p cp q cq).length=2 from rfl,lH,lH (apk p cp q cq),lH (ak0 p cp q cq)]
 · rfl
 · intro i ai h
   match i,ai with
   | 0,_=>exact h (alL p cp q cq)
   | 1,_=>exact h (alM p cp q cq)
section
attribute [local irreducible] wpList wpQuiet wpStill Code.wp Exit.then Exit.inBlock bodyPost Calls bL eT
section
def qK:ByteArray:=⟨#[86,101,99,116,111,114,95,95,88,88,88]⟩
abbrev xV:=Int × Int × Int
def Gx:xV:=(0,0,0)
def Bp(r:Option Nat)(e:Nat->xV)(k:xV):xV:=match r with|some i=>e i|none=>k
def ZG(r:Option Nat)(e:Nat->Int):Int:=match r with|some i=>e i|none=>0
open Classical in
noncomputable def qV(ss:List ByteArray)(i:Nat):Int:=
 if gd (ss.getD i ⟨#[]⟩)=false\/ss.getD i ⟨#[]⟩=qK then 11 else if ∃k,k<i/\ss.getD k ⟨#[]⟩=ss.getD i ⟨#[]⟩then 12 else 0
def xt(ss:List ByteArray)(s:ByteArray):Prop:=s∈ss\/s=qK
def ed(ms:List iz)(i:Nat):cO:=(ms.getD i (⟨0,0,0,false,⟨#[]⟩,0,⟨#[]⟩,none,0,0⟩,[])).1
def fM(ms:List iz)(i:Nat):List hZ:=(ms.getD i (⟨0,0,0,false,⟨#[]⟩,0,⟨#[]⟩,none,0,0⟩,[])).2
theorem PE{ms:List iz}{i:Nat}(h:i<ms.length):ed ms i=ms[i].1:=by simp [ed,List.getD,h]
theorem XO{ms:List iz}{i:Nat}(h:i<ms.length):fM ms i=ms[i].2:=by simp [fM,List.getD,h]
def ei(ts:List s5)(i:Nat):nY:=(ts.getD i (⟨0,0,0,false,⟨#[]⟩,none,0,0⟩,[])).1
def DX(ts:List s5)(i:Nat):List k3:=(ts.getD i (⟨0,0,0,false,⟨#[]⟩,none,0,0⟩,[])).2
theorem KS{i:Nat}(h:i<ts.length):ei ts i=ts[i].1:=by simp [ei,List.getD,h]
theorem apg{i:Nat}(h:i<ts.length):DX ts i=ts[i].2:=by simp [DX,List.getD,h]
def Bq(ss:List ByteArray)(aR:List hZ)(k:Nat):Prop:=∃s,s∈tx aR k/\¬xt ss s
def tZ(m:cO)(id:Int)(wide:Bool):Prop:=m.id=id/\m.wide=wide
open Classical in
noncomputable def j3(ss:List ByteArray)(ms:List iz)(i:Nat):xV:=
 if (jh (ed ms i) (fM ms i)).1≠0 then((jh (ed ms i) (fM ms i)).1,GD (ed ms i) (fM ms i) (jh (ed ms i) (fM ms i)).2,GC (ed ms i) (fM ms i) (jh (ed ms i) (fM ms i)).2)
 else if ∃k,k<i/\((ed ms k).name=(ed ms i).name\/tZ (ed ms k) (ed ms i).id (ed ms i).wide)then(12,(ed ms i).line,(ed ms i).eh)
 else if ¬xt ss (ed ms i).qQ then(13,(ed ms i).line,(ed ms i).eh)
 else Bp (kO (Bq ss (fM ms i)) (fM ms i).length) (λk=>(13,(cn (fM ms i) k).line,(cn (fM ms i) k).eh)) Gx
def hasB(s:b1)(v:Int):Bool:=(s.fw||decide (0<=v))&&uJ (if v<0 then v+18446744073709551616 else v) s.size s.fw
def sO(rs:List k3)(i:Nat):k3:=rs.getD i ⟨0,⟨#[]⟩⟩
open Classical in
noncomputable def xI(s:b1)(rs:List k3)(i:Nat):Int:=
 if m' (sO rs i).text≠0 then m' (sO rs i).text else if hasB s (sO rs i).value=false then 19
 else if ∃k,k<i/\(sO rs k).value=(sO rs i).value then 12 else 0
noncomputable def zc(s:b1)(rs:List k3):Int:=
 if 256<rs.length then 5 else ZG (kO (λi=>xI s rs i≠0) rs.length) (xI s rs)
def xz(ms:List iz)(id:Int)(wide:Bool)(name:ByteArray)(s:b1):Prop:=∃i k,i<ms.length/\k<(fM ms i).length/\tZ (ed ms i) id wide/\(cn (fM ms i) k).name=name/\s=cn (fM ms i) k
open Classical in
noncomputable def r9(ms:List iz)(ts:List s5)(i:Nat):Int:=
 if h:∃s,xz ms (ei ts i).id (ei ts i).wide (ei ts i).sig s then
  if ∃k,k<i/\(ei ts k).id=(ei ts i).id/\(ei ts k).wide=(ei ts i).wide/\(ei ts k).sig=(ei ts i).sig then 12
  else zc (Classical.choose h) (DX ts i)
 else 13
noncomputable def uF(d:iN)(ss:List ByteArray)(ms:List iz)(ts:List s5):xV:=
 if d.Ae=true/\m' d.xP≠0 then(m' d.xP,d.Hg,d.Hf)
 else if 64<ss.length then(5,d.ub,d.ua)
 else Bp (kO (λi=>qV ss i≠0) ss.length) (λi=>(qV ss i,d.ub,d.ua))
  (if 512<ms.length then(5,(ed ms 512).line,(ed ms 512).eh)
   else Bp (kO (λi=>(j3 ss ms i).1≠0) ms.length) (j3 ss ms)
    (Bp (kO (λi=>r9 ms ts i≠0) ts.length) (λi=>(r9 ms ts i,(ei ts i).line,(ei ts i).eh)) Gx))
end
section
open Go.Maps (Keyed)
def iH(f:Nat->Lit):Nat->List (Lit × Value)
 | 0=>[]
 |k+1=>(f k,.bool true)::iH f k
theorem C7(f:Nat->Lit):∀k,(iH f k).length=k
 | 0=>rfl
 |k+1=>by simp [iH,C7 f k]
theorem xr{kl:Lit}:∀{k:Nat},(∃j,j<k/\f j=kl)->(eD kl (iH f k)).getD (.bool false)=.bool true
 | 0,⟨j,ah,_⟩=>absurd ah (auv _)
 |k+1,⟨j,ah,e⟩=>by
  unfold iH eD;by_cases h:kl=f k
  · rw [atM h];rfl
  · rw [atK h];refine xr ⟨j,?_,e⟩;by_cases bf:j=k
    · subst bf;exact absurd e.symm h
    · omega
theorem vp{kl:Lit}:∀{k:Nat},(¬∃j,j<k/\f j=kl)->(eD kl (iH f k)).getD (.bool false)=.bool false
 | 0,_=>rfl
 |k+1,h=>by
  unfold iH eD;rw [atK (λe=>h ⟨k,bj,e.symm⟩)];exact vp λ⟨j,ah,e⟩=>h ⟨j,bj,e⟩
theorem anT{rs:List k3}{i:Nat}(h:i<rs.length):sO rs i=rs[i]:=by simp [sO,List.getD,h]
theorem aan(h: -9223372036854775808<=x/\x<=9223372036854775807):(Lit.int .i64 x).wf=true:=by
 have bw:IntKind.i64.min= -9223372036854775808:=bk
 have bf:IntKind.i64.max=9223372036854775807:=bk
 simp only [Lit.wf,bw,bf,atQ,atP];omega
theorem wrap_u64{v:Int}(h: -9223372036854775808<=v/\v<=9223372036854775807):IntKind.u64.wrap v=if v<0 then v+18446744073709551616 else v:=by
 simp only [IntKind.wrap,IntKind.signed,IntKind.bits];simp;split<;>omega
def BD(B:Nat)(r:k3)(w:World):Prop:=w.heap[B]? =some (.cells (k3.cells r).toArray 246 (0,0))
theorem BD.below{B:Nat}{r:k3}(h:BD B r w)(hb:Below w.heap.size w w'):BD B r w':=(hb.block _ (bO h)).trans h
theorem BD.c{B:Nat}{r:k3}(h:BD B r w)(o:Nat)(x:Value)(hx:(k3.cells r)[o]? =some x):w.cell? ⟨B,0+o,none⟩=some x:=aF h (by simpa using hx)
theorem js.eS{B:Nat}{s:b1}(h:js B s w)(o:Nat)(x:Value)(hx:(b1.cells s)[o]? =some x):w.cell? ⟨B,0+o,none⟩=some x:=aF h (by simpa using hx)
theorem ang(w:World)(s:b1)(ay:Option Addr)(n c:Nat)(rs:List k3)(ba:rs.length=n)(ab:dA w ay 2 k3.cells rs)(ao:∀r∈rs,-9223372036854775808<=r.value/\r.value<=9223372036854775807)(cT:ni w):
   bd prog 79 [.agg (b1.cells s).toArray,.slice ay n c].toArray w (λv w'=>v=.int .i64 (zc s rs)/\Below w.heap.size w w'):=by
 subst ba;refine dP func79 rfl 52 rfl 54 rfl (λa I=>?_);revert a;refine ad λa I=>?_;refine di I (cs:=(b1.cells s).toArray) rfl (k:=λa aq aE aT b8 I=>?_);have aB:=aK (atL _ w) aT (atI _);have lS:js w.heap.size s aq:=aE;clear aE aT;by_cases qu:(rs.length:Int)>256
 · revert a;refine ad λa I=>?_;refine bc I rfl rfl ⟨?_,aB⟩;unfold zc;rw [atM bj]
 have bF:zc s rs=ZG (kO (λi=>xI s rs i≠0) rs.length) (xI s rs):=by
   unfold zc;rw [atK bj]
 revert a;refine ad λa I=>?_;refine st I (qm aym) rfl (λa I=>?_);have se:eO prog 2 (aq.alloc (.map #[] 0)) aq.heap.size []:=eO.new aq;have aS:aq.grownBy (aq.alloc (.map #[] 0)) none:=auw aq _ none;generalize aq.alloc (.map #[] 0)=ax at*;have aC:=aK aB aS aB.size;have eB:js w.heap.size s ax:=aD lS aS bl;have xj:=aB.size;have kt:=bO lS;clear aS lS;have K:Keyed prog 2:=auq awD;revert a;refine ad λa I=>?_;refine eg (λq a wr=>∃k:Nat,k<=rs.length/\q=rs.length - k/\(∀j,j<k->xI s rs j=0)/\Fr 54 [(2,.pointer (some ⟨w.heap.size,0,none⟩)),(5,.map (some aq.heap.size)),(13,.slice ay rs.length c),(14,.int .i64 rs.length),(15,.int .i64 (k:Nat))] a/\
   js w.heap.size s wr/\eO prog 2 wr aq.heap.size (iH (λj=>.int .i64 (sO rs j).value) k)/\Below w.heap.size w wr) rs.length
   ⟨0,auc _,rfl,λj ah=>absurd ah (auv _),I.bb,eB,se,aC⟩ ?_
 clear I a eB se aC aB;rintro q a wr ⟨k,au,rfl,d',I,aG,bs,cH⟩;have bA:=cH.size;by_cases bu:k<rs.length
 case neg=>
   obtain rfl:k=rs.length:=bj
   revert a;refine ad λa I=>?_;refine bc I rfl rfl ⟨?_,cH⟩;rw [bF,lH (λi ai e=>e (d' i ai))];rfl
 have hA:∀e,xI s rs k=e->e≠0->zc s rs=e:=λe he h=>by
   rw [bF,tg bu (by rw [he];exact h) (λj ah e=>e (d' j ah))];exact he
 obtain⟨b,o,eW,av⟩:=ab.below cH k bu;have Ge:=ao _ (at6 bu);have ah8:=anT bu;rw [<-ah8]at av Ge;have gC:xI s rs k=xI s rs k:=rfl
 conv at gC=>rhs;unfold xI
 obtain⟨r,aj⟩:∃x,x=sO rs k:=⟨_,rfl⟩;rw [<-aj]at av Ge gC;rw [eW]at I;have FH:=bs.lt;revert a;(repeat first|refine ag ?_|refine J (dq (j:=k)) ?_|refine J (bJ (x6 av)) ?_);intro a I;refine b6 I ai1 λa hp aE aT b8 I=>?_;refine cE I (cs:=(k3.cells r).toArray) aE (ana _) λa fe ow aS cZ I=>?_;have aC:=aK (aK (atL _ wr) aT (atI _)) aS bj;have ow:BD wr.heap.size r fe:=ow;clear aE aT aS;have ey:=cH.trans (aC.mono bA);revert a;(repeat first|refine ag ?_|refine J (af (ow.c 1 _ rfl)) ?_);intro a I;refine aQ I (QO fe r.text (cT.below ey)) λa v iM z' I=>?_;obtain⟨⟨ZZ,xg,rfl⟩,a1⟩:=z';rw [QN xg]at I;have nG:=ow.below a1;replace a1:=aC.trans (a1.mono aC.size);have gh:=cH.trans (a1.mono bA);have fS:=aG.below a1;have uT:=bs.below a1;clear ow aC ey xg ZZ;obtain⟨lu,xg⟩:∃x,x=m' r.text:=⟨_,rfl⟩;rw [<-xg]at I gC;by_cases nE:lu=0
 case neg=>
   rw [atM nE]at gC;revert a;refine ad λa I=>?_;exact bc I rfl rfl ⟨by rw [hA lu gC nE],gh⟩
 rw [atK (λh=>h nE)]at gC;have Wp:=wrap_u64 Ge;obtain⟨zq,OV⟩:∃x,x=if r.value<0 then r.value+18446744073709551616 else r.value:=⟨_,rfl⟩
 rw [<-OV]at Wp;have Wg:0<=zq/\zq<18446744073709551616:=by rw [OV];split<;>omega
 have nt:hasB s r.value=((s.fw||decide (0<=r.value))&&uJ zq s.size s.fw):=by unfold hasB;rw [<-OV]
 have aN:=uT.look K aym (z:=.bool false) (auz iM) (key:=.int .i64 r.value) (kl:=.int .i64 r.value) (avN awD (aan Ge));obtain⟨ib,mv,q',bD,eY⟩:=uT.put K aym (key:=.int .i64 r.value) (kl:=.int .i64 r.value) (avN awD (aan Ge)) (.bool true) (by rw [C7];unfold maxLen;omega);have arX:=bO fS;have lT:js w.heap.size s ib:=aD fS bD bm;have iC:=aK gh bD gh.size;have Uc:eO prog 2 ib aq.heap.size (iH (λj=>.int .i64 (sO rs j).value) (k+1)):=by
   unfold iH;rw [<-aj];exact q'
 have lO:∀(l:List (Nat × Value)) (x:Operand) (ty:TypeId) (ak:World),a7 l x (.int .i64 r.value)->bL prog l ak (.convert 2 34 x) ty (.int .u64 zq) ak:=λl x ty ak hx=>e8 (aA _ _ rfl) (aA _ _ rfl) (hx:=hx) (hm:=Wp);have kV:=fS.eS 8 _ rfl;have fin:hasB s r.value=true->(∃j,j<k/\(sO rs j).value=r.value)\/¬(∃j,j<k/\(sO rs j).value=r.value):=λ_=>ayf _;clear q' bD;by_cases Vz:r.value<0
 · cases hR:s.fw with
   |false=>
    rw [hR]at kV;have U:hasB s r.value=false:=by rw [nt,hR,auk bj];rfl
    rw [atM U]at gC;revert a;(repeat first|refine ag ?_|refine J (af kV) ?_|refine J (af (nG.c 0 _ rfl)) ?_);intro a I;exact bc I rfl rfl ⟨by rw [hA 19 gC bk],gh⟩
   |true=>
    rw [hR]at kV;rw [hR,Bool.true_or,auN]at nt;revert a;(repeat first|refine ag ?_|refine J (lO _ _ _ _ rfl) ?_|refine J (af kV) ?_|refine J (af (fS.eS 6 _ rfl)) ?_|refine J (af (nG.c 0 _ rfl)) ?_);intro a I;refine ig I (LM iM zq s.size true Wg) LB ⟨rfl,rfl,rfl,trivial⟩ (k:=λa v lY Na I=>?_);obtain⟨rfl,rfl⟩:=Na;cases u1:uJ zq s.size true with
    |false=>
      rw [u1]at I nt;rw [atM nt]at gC;revert a;refine ad λa I=>?_;exact bc I rfl rfl ⟨by rw [hA 19 gC bk],gh⟩
    |true=>
      rw [u1]at I nt;rw [atK (by rw [nt];decide)]at gC;rcases fin nt with aI|aI
      · rw [atM aI]at gC;rw [xr (by obtain⟨j,ah,e⟩:=aI;exact⟨j,ah,by rw [e]⟩)]at aN;revert a;(repeat first|refine ag ?_|refine J (h1 aN) ?_|refine J (af (nG.c 0 _ rfl)) ?_);intro a I;exact bc I rfl rfl ⟨by rw [hA 12 gC bk],gh⟩
      · rw [atK aI]at gC;rw [vp (λ⟨j,ah,e⟩=>aI ⟨j,ah,by injection e⟩)]at aN;revert a;(repeat first|refine ag ?_|refine J (h1 aN) ?_|refine J (af (nG.c 0 _ rfl)) ?_);intro a I;refine gv I (r6 mv) rfl (λa I=>?_);revert a;refine ad λa I=>?_;exact⟨rs.length - (k+1),bj,k+1,bj,rfl,λj ah=>by
          by_cases e:j=k
          · subst e;exact gC
          · exact d' j bj,by rw [eW];exact I.bb,lT,Uc,iC⟩
 · have aJ:decide (0<=r.value)=true:=aur bj;rw [aJ,Bool.or_true,auN]at nt;revert a;(repeat first|refine ag ?_|refine J (lO _ _ _ _ rfl) ?_|refine J (af kV) ?_|refine J (af (fS.eS 6 _ rfl)) ?_|refine J (af (nG.c 0 _ rfl)) ?_);intro a I;refine ig I (LM iM zq s.size s.fw Wg) LB ⟨rfl,rfl,rfl,trivial⟩ (k:=λa v lY Na I=>?_);obtain⟨rfl,rfl⟩:=Na;cases u1:uJ zq s.size s.fw with
   |false=>
    rw [u1]at I nt;rw [atM nt]at gC;revert a;refine ad λa I=>?_;exact bc I rfl rfl ⟨by rw [hA 19 gC bk],gh⟩
   |true=>
    rw [u1]at I nt;rw [atK (by rw [nt];decide)]at gC;rcases fin nt with aI|aI
    · rw [atM aI]at gC;rw [xr (by obtain⟨j,ah,e⟩:=aI;exact⟨j,ah,by rw [e]⟩)]at aN;revert a;(repeat first|refine ag ?_|refine J (h1 aN) ?_|refine J (af (nG.c 0 _ rfl)) ?_);intro a I;exact bc I rfl rfl ⟨by rw [hA 12 gC bk],gh⟩
    · rw [atK aI]at gC;rw [vp (λ⟨j,ah,e⟩=>aI ⟨j,ah,by injection e⟩)]at aN;revert a;(repeat first|refine ag ?_|refine J (h1 aN) ?_|refine J (af (nG.c 0 _ rfl)) ?_);intro a I;refine gv I (r6 mv) rfl (λa I=>?_);revert a;refine ad λa I=>?_;exact⟨rs.length - (k+1),bj,k+1,bj,rfl,λj ah=>by
        by_cases e:j=k
        · subst e;exact gC
        · exact d' j bj,by rw [eW];exact I.bb,lT,Uc,iC⟩
end
def J0(id:Int)(wide:Bool)(name:ByteArray):Value:=.agg #[.int .u32 id,.bool wide,.string name]
def jg(id:Int)(wide:Bool)(name:ByteArray):Lit:=.string (keyBytes [.int .u32 id,.bool wide,.string name.data.toList])
theorem JZ:Go.WideMaps.KeyLaw prog 197:=Go.deep_law_laid (m:=prog.types.size+1) bh (auo bh) (auo bh) bh bh
theorem ald:∃a b c,prog.underlying 197=some (.struct #[a,b,c])/\a.type=49/\b.type=4/\c.type=9/\a.offset=0/\b.offset=1/\c.offset=2/\a.name= "id" /\b.name= "wide" /\c.name= "name" :=⟨_,_,_,rfl,rfl,rfl,rfl,rfl,rfl,rfl,rfl,rfl,rfl⟩
theorem yQ{id:Int}{wide:Bool}{name:ByteArray}(hid:(Lit.int .u32 id).wf=true)(aG:name.size<=maxLen):keyOf prog 197 (J0 id wide name)=some (jg id wide name):=by
 obtain⟨yg,zT,aqP,hu,ha,hb,av,A2,vz,alH,nJ,iK,vx⟩:=ald;have U:prog.keyType 197=true:=bh
 have ae:(J0 id wide name).formed prog 197=true:=bh
 have aM:prog.cellsOf 197=3:=bh
 have bM:prog.cellsOf 49=1:=bh
 have c2:prog.cellsOf 4=1:=bh
 have c3:prog.cellsOf 9=1:=bh
 obtain⟨n,ba⟩:∃n,prog.types.size=n+1:=⟨prog.types.size - 1,by have:1<=prog.types.size:=auo bh;omega⟩;unfold keyOf;rw [hu];dsimp only;rw [U,ae];simp only [azz,ayw];rw [ba];have e:(J0 id wide name).cells.toList=[.int .u32 id,.bool wide,.string name]:=rfl;rw [e];unfold Program.keyLits;rw [hu];simp only [aM,aue,avd,List.mapM_cons,List.mapM_nil,ha,hb,av,A2,vz,alH,bM,c2,c3,aus,at5,aul,auA,Program.keyLits,avU,aut,auh];simp [nJ,iK,vx,hid,aG,jg]
theorem Pp{id O':Int}{wide Q7:Bool}{name PG:ByteArray}(hid:(Lit.int .u32 id).wf=true)(aG:name.size<=maxLen)(ag3:(Lit.int .u32 O').wf=true)(CS:PG.size<=maxLen)(h:jg id wide name=jg O' Q7 PG):id=O'/\wide=Q7/\name=PG:=by
 have U:=yQ (wide:=wide) hid aG;have ae:=yQ (wide:=Q7) ag3 CS;rw [<-h]at ae;have e:=JZ.inj U ae;unfold J0 at e;injection e with e
 have:=atW Array.toList e;simp at this;exact⟨this.1,this.2.1,this.2.2⟩
theorem Bv(h:0<=x/\x<4294967296):(Lit.int .u32 x).wf=true:=by
 have bw:IntKind.u32.min=0:=bk
 have bf:IntKind.u32.max=4294967295:=bk
 simp only [Lit.wf,bw,bf,atQ,atP];omega
section
open Go.Maps (Keyed)
def zS(ss:List ByteArray):Nat->Lit
 | 0=>iV qK
 |j+1=>iV (ss.getD j ⟨#[]⟩)
def yf(ms:List iz)(j:Nat):Lit:=iV (ed ms j).name
def ye(ms:List iz)(j:Nat):Lit:=jg (ed ms j).id (ed ms j).wide ⟨#[]⟩
def p3(m:cO)(aR:List hZ):Nat->List (Lit × Value)
 | 0=>[]
 |k+1=>(jg m.id m.wide (cn aR k).name,.agg (b1.cells (cn aR k)).toArray)::p3 m aR k
theorem QC(m:cO)(aR:List hZ):∀k,(p3 m aR k).length=k
 | 0=>rfl
 |k+1=>by simp [p3,QC m aR k]
def sQ(ms:List iz):Nat->List (Lit × Value)
 | 0=>[]
 |i+1=>p3 (ed ms i) (fM ms i) (fM ms i).length++sQ ms i
theorem JN{s:ByteArray}:xt ss s↔∃j,j<ss.length+1/\zS ss j=iV s:=by
 constructor
 · rintro (h|h)
   · obtain⟨j,ah,rfl⟩:=avh h;exact⟨j+1,bj,by simp [zS,List.getD,ah]⟩
   · exact⟨0,bj,by rw [h];rfl⟩
 · rintro ⟨j,ah,e⟩;cases j with
   |zero=>exact .inr (AQ e).symm
   |succ j=>
     refine .inl ?_;have:=AQ e;rw [<-this,avP,atT bj];exact at6 _
theorem alg{xs:List ByteArray}(h:AZ xs=0):∀x∈xs,gd x=true:=by
 have key:∀(xs ys:List ByteArray),qF ys xs=0->∀x∈xs,gd x=true:=by
   intro xs;induction xs with
   |nil=>intro ys _ x hx;cases hx
   |cons y xs df=>
    intro ys h x hx;unfold qF at h;by_cases e:gd y=false
    · rw [atM e]at h;cases h
    rw [atK e]at h;by_cases bf:(ys.any λk=>decide (y=k))=true
    · rw [atM bf]at h;cases h
    rw [atK bf]at h;rcases au1.1 hx with rfl|hx
    · simpa using e
    · exact df _ h x hx
 unfold AZ at h;by_cases e:xs.length=0
 · rw [atM e]at h;cases h
 rw [atK e]at h;by_cases bf:64<xs.length
 · rw [atM bf]at h;cases h
 rw [atK bf]at h;exact key xs [] h
theorem ale{s:b1}{n:Int}(h:n1 s ss n=0):AZ ss=0:=by
 unfold n1 at h;by_cases bw:gd s.name=false
 · rw [atM bw]at h;cases h
 rw [atK bw]at h;by_cases bf:zb s
 · rw [atM bf]at h;cases h
 rw [atK bf]at h;by_cases dj:bH.nU s.start s.size s.bV n≠0
 · rw [atM dj]at h;exact absurd h dj
 rw [atK dj]at h;by_cases fl:pZ s≠0
 · rw [atM fl]at h;exact absurd h fl
 rw [atK fl]at h;by_cases q7:m' s.unit≠0
 · rw [atM q7]at h;exact absurd h q7
 rw [atK q7]at h;exact h
theorem agN{m:cO}(h:mo m=0):gd m.name=true/\gd m.qQ=true:=by
 unfold mo at h;by_cases bw:gd m.name=false
 · rw [atM bw]at h;cases h
 rw [atK bw]at h;by_cases bf:Gu m<m.id
 · rw [atM bf]at h;cases h
 rw [atK bf]at h;by_cases dj:m.size<0\/8<m.size
 · rw [atM dj]at h;cases h
 rw [atK dj]at h;by_cases fl:gd m.qQ=false
 · rw [atM fl]at h;cases h
 exact⟨by simpa using bw,by simpa using fl⟩
structure qb(B:Nat)(w:World)(mD aa mJ bi nk:Nat)(ss:List ByteArray)(iK:Nat)(ms:List iz)(i:Nat)(ti:List (Lit × Value)):Prop where
 ord:B<=aa/\aa<mJ/\mJ<bi/\bi<nk/\nk<mD
 cell:w.heap[mD]? =some (.cells #[.map (some aa),.map (some mJ),.map (some bi),.map (some nk)] 192 (0,0))
 zm:eO prog 9 w aa (iH (zS ss) iK)
 Db:eO prog 9 w mJ (iH (yf ms) i)
 ids:eO prog 197 w bi (iH (ye ms) i)
 sigs:eO prog 197 w nk ti
theorem qb.below{B:Nat}{aa:Nat}{ms:List iz}{i:Nat}(h:qb B w mD aa mJ bi nk ss iK ms i ti)(hb:Below w.heap.size w w'):qb B w' mD aa mJ bi nk ss iK ms i ti:=
 ⟨h.ord,(hb.block _ (bO h.cell)).trans h.cell,h.zm.below hb,h.Db.below hb,h.ids.below hb,h.sigs.below hb⟩
theorem qb.c{B:Nat}{aa:Nat}{ms:List iz}{i:Nat}(h:qb B w mD aa mJ bi nk ss iK ms i ti)(j:Nat)(v:Value)(ah: [Value.map (some aa),.map (some mJ),.map (some bi),.map (some nk)][j]? =some v):w.cell? ⟨mD,0+j,none⟩=some v:=by
 rw [aub];exact aF h.cell (by simpa using ah)
def ur(B:Nat)(id:Int)(wide:Bool)(name:ByteArray)(w:World):Prop:=w.heap[B]? =some (.cells #[.int .u32 id,.bool wide,.string name] 197 (0,0))
theorem ur.below{B:Nat}{id:Int}{wide:Bool}{name:ByteArray}(h:ur B id wide name w)(hb:Below w.heap.size w w'):ur B id wide name w':=(hb.block _ (bO h)).trans h
theorem D9(w:World):(zeroValue 4).run prog w=.ok (.bool false) w:=auz w
theorem abj(cy w:World)(m:cO)(aR:List hZ)(ss:List ByteArray)(ms:List iz)(i:Nat)(mD aa mJ bi nk:Nat)(ti:List (Lit × Value))(hm:ed ms i=m)(aW:fM ms i=aR)(gW:i<1000)(nz:ti.length<=1000000)(eb:xY cy m aR)(aH:∀p∈aR,rY p.1)(hid:0<=m.id/\m.id<4294967296)(cT:ni cy)(kQ:Below cy.heap.size cy w)(cv:qb cy.heap.size w mD aa mJ bi nk ss (ss.length+1) ms i ti)(eC:ss.length<=64)(Fv:∀j,j<i->0<=(ed ms j).id/\(ed ms j).id<4294967296):
   bd prog 78 [.pointer (some ⟨mD,0,none⟩),.agg (cO.cells m).toArray].toArray w (λv w'=>v=po (j3 ss ms i).1 (j3 ss ms i).2.1 (j3 ss ms i).2.2/\Below cy.heap.size cy w'/\
     ((j3 ss ms i).1=0->qb cy.heap.size w' mD aa mJ bi nk ss (ss.length+1) ms (i+1) (p3 m aR aR.length++ti))):=by
 have hlen:=eb.len;have tt:=eb.bytes;have yJ:=kQ.size;have bF:j3 ss ms i=j3 ss ms i:=rfl
 conv at bF=>rhs;unfold j3
 rw [hm,aW]at bF;obtain⟨E,EX⟩:∃x,x=j3 ss ms i:=⟨_,rfl⟩;rw [<-EX]at bF ⊢;clear EX;refine dP func78 rfl 103 rfl 105 rfl (λa I=>?_);revert a;refine ad λa I=>?_;refine di I (cs:=(cO.cells m).toArray) rfl (k:=λa aq aE aT b8 I=>?_);have aB:=aK (atL _ w) aT (atI _);have oq:jY w.heap.size m aq:=aE;have gD:=cv.below aB;have mM:=kQ.trans (aB.mono yJ);have aq8:=bO cv.cell;clear aE aT;revert a;(repeat first|refine ag ?_|refine J (bJ (dy oq)) ?_);intro a I;refine aQ I (Sp aq m aR (zA.below eb mM) aH (cT.below mM)) λa v ax ab I=>?_;obtain⟨rfl,aC⟩:=ab;have iF:=oq.below aC;have gE:=gD.below aC;have ey:=mM.trans (aC.mono mM.size);clear oq gD aB;by_cases aJ:(jh m aR).1=0
 case neg=>
   rw [atM aJ]at bF;rw [show ∀x y,po (jh m aR).1 x y=mg (jh m aR).1 x y from λx y=>atK aJ]at I;revert a;refine ad λa I=>?_;refine bc I rfl rfl ⟨?_,ey,λh=>?_⟩
   · rw [bF];exact(atK aJ).symm
   · rw [bF]at h;exact absurd h aJ
 rw [atK (λh=>h aJ)]at bF;rw [show ∀x y,po (jh m aR).1 x y=.nilIface from λx y=>atM aJ]at I;have u5:=JY.1 aJ;obtain⟨aiv,Gf⟩:=agN u5.head;have o3:=Bv hid;have aso:=zt aiv;have asp:=zt Gf;revert a;(repeat first|refine ag ?_|refine J (cA (vs:=[(0,.int .u32 m.id),(1,.bool m.wide)]) (cells:=#[.int .u32 m.id,.bool m.wide,.string ⟨#[]⟩]) bh ⟨rfl,rfl,rfl,rfl,trivial⟩) ?_|refine J (af (iF.c 2 _ rfl)) ?_|refine J (af (iF.c 3 _ rfl)) ?_);intro a I;refine b6 I WN λa a6 bR bz eE I=>?_;refine cE I (cs:=#[.int .u32 m.id,.bool m.wide,.string ⟨#[]⟩]) bR (by simp [Value.oneCell']) λa bZ nB bD eY I=>?_;have nv:=aK (aK (atL _ ax) bz (atI _)) bD bj;have nB:ur ax.heap.size m.id m.wide ⟨#[]⟩ bZ:=nB;have nA:=iF.below nv;have j4:=gE.below nv;have iC:=ey.trans (nv.mono ey.size);have yK:=iC.size;have arS:=bO iF;clear bR bz bD iF gE nv;have uq:Keyed prog 9:=avQ auh;have BA:=Keyed.of_law JZ;have yA:∀ak,Below bZ.heap.size bZ ak->(Instr.lookup 188 (.map (some mJ)) (.string m.name) false).run prog ak=.ok ((eD (iV m.name) (iH (yf ms) i)).getD (.bool false)) ak:=λak e=>
   (j4.Db.below e).look uq auT (D9 _) (vo auh m.name bn)
 have CK:∀ak,Below bZ.heap.size bZ ak->(Instr.lookup 189 (.map (some bi)) (.agg #[.int .u32 m.id,.bool m.wide,.string ⟨#[]⟩]) false).run prog ak=.ok ((eD (jg m.id m.wide ⟨#[]⟩) (iH (ye ms) i)).getD (.bool false)) ak:=λak e=>
   (j4.ids.below e).look BA awj (D9 _) (yQ o3 bk)
 have FE:∀ak,Below bZ.heap.size bZ ak->(Instr.lookup 188 (.map (some aa)) (.string m.qQ) false).run prog ak=.ok ((eD (iV m.qQ) (iH (zS ss) (ss.length+1))).getD (.bool false)) ak:=λak e=>
   (j4.zm.below e).look uq auT (D9 _) (vo auh m.qQ bn)
 have NR:(∃j,j<i/\yf ms j=iV m.name)↔∃j,j<i/\(ed ms j).name=m.name:=⟨λ⟨j,ah,e⟩=>⟨j,ah,AQ e⟩,λ⟨j,ah,e⟩=>⟨j,ah,by unfold yf;rw [e]⟩⟩;have Vf:(∃j,j<i/\ye ms j=jg m.id m.wide ⟨#[]⟩)↔∃j,j<i/\tZ (ed ms j) m.id m.wide:=⟨λ⟨j,ah,e⟩=>by
     obtain⟨bw,bf,_⟩:=Pp (Bv (Fv j ah)) bk o3 bk e;exact⟨j,ah,bw,bf⟩,λ⟨j,ah,e⟩=>⟨j,ah,by unfold ye;rw [e.1,e.2]⟩⟩
 have oh:∀n,Below bZ.heap.size bZ (bZ.drewN n):=λn=>eU (atL _ bZ) n;have bM:=j4.c 1 _ rfl;have c2:=j4.c 2 _ rfl;have c0:=j4.c 0 _ rfl;have m4:=nA.c 4 _ rfl;have m6:=nA.c 6 _ rfl;by_cases Gg:∃j,j<i/\(ed ms j).name=m.name
 · have e:=xr (NR.2 Gg);simp only [e]at yA;rw [atM (by obtain⟨j,ah,e⟩:=Gg;exact⟨j,ah,.inl e⟩)]at bF;revert a;(repeat first|refine ag ?_|refine J (bJ nA.pl) ?_|refine ck (λak ar=>h1 (yA ak (by obtain⟨n,rfl⟩:=ar;exact eU (atL _ _) n))) ?_|refine ck (λak ar=>ea ar bM) ?_|refine ck (λak ar=>ea ar m4) ?_|refine λ(_:Nat)=>?_);intros;rename_i g' a I;refine aQ I (lE _ 12 m.line m.eh) λa v bN ab I=>?_;obtain⟨rfl,cx⟩:=ab;revert a;refine ad λa I=>?_;refine bc I rfl rfl ⟨by rw [bF],(eU iC _).trans (cx.mono (eU iC _).size),λh=>?_⟩;rw [bF]at h;cases h
 by_cases JA:∃j,j<i/\tZ (ed ms j) m.id m.wide
 · have e:=vp (λh=>Gg (NR.1 h));simp only [e]at yA;have e:=xr (Vf.2 JA);simp only [e]at CK;rw [atM (by obtain⟨j,ah,e⟩:=JA;exact⟨j,ah,.inr e⟩)]at bF;revert a;(repeat first|refine ag ?_|refine J (bJ nA.pl) ?_|refine ck (λak ar=>h1 (yA ak (by obtain⟨n,rfl⟩:=ar;exact eU (atL _ _) n))) ?_|refine ck (λak ar=>h1 (CK ak (by obtain⟨n,rfl⟩:=ar;exact eU (atL _ _) n))) ?_|refine ck (λak ar=>bJ (by obtain⟨n,rfl⟩:=ar;exact dy nB)) ?_|refine ck (λak ar=>ea ar bM) ?_|refine ck (λak ar=>ea ar c2) ?_|refine ck (λak ar=>ea ar m4) ?_|refine λ(_:Nat)=>?_);intros;rename_i g' a I;refine aQ I (lE _ 12 m.line m.eh) λa v bN ab I=>?_;obtain⟨rfl,cx⟩:=ab;revert a;refine ad λa I=>?_;refine bc I rfl rfl ⟨by rw [bF],(eU iC _).trans (cx.mono (eU iC _).size),λh=>?_⟩;rw [bF]at h;cases h
 rw [atK (λ⟨j,ah,h⟩=>h.elim (λh=>Gg ⟨j,ah,h⟩) (λh=>JA ⟨j,ah,h⟩))]at bF;have e:=vp (λh=>Gg (NR.1 h));simp only [e]at yA;have e:=vp (λh=>JA (Vf.1 h));simp only [e]at CK;by_cases sv:xt ss m.qQ
 case neg=>
   have e:=vp (λh=>sv (JN.2 h));simp only [e]at FE;rw [atM sv]at bF;revert a;(repeat first|refine ag ?_|refine J (bJ nA.pl) ?_|refine ck (λak ar=>h1 (yA ak (by obtain⟨n,rfl⟩:=ar;exact eU (atL _ _) n))) ?_|refine ck (λak ar=>h1 (CK ak (by obtain⟨n,rfl⟩:=ar;exact eU (atL _ _) n))) ?_|refine ck (λak ar=>bJ (by obtain⟨n,rfl⟩:=ar;exact dy nB)) ?_|refine ck (λak ar=>h1 (FE ak (by obtain⟨n,rfl⟩:=ar;exact eU (eU (atL _ _) _) n))) ?_|refine ck (λak ar=>ea ar bM) ?_|refine ck (λak ar=>ea ar c2) ?_|refine ck (λak ar=>ea ar c0) ?_|refine ck (λak ar=>ea ar m4) ?_|refine ck (λak ar=>ea ar m6) ?_|refine λ(_:Nat)=>?_);intros;rename_i g' a I;refine aQ I (lE _ 13 m.line m.eh) λa v bN ab I=>?_;obtain⟨rfl,cx⟩:=ab;revert a;refine ad λa I=>?_;refine bc I rfl rfl ⟨by rw [bF],(eU (eU iC _) _).trans (cx.mono (eU (eU iC _) _).size),λh=>?_⟩;rw [bF]at h;cases h
 rw [atK (λh=>h sv)]at bF;have e:=xr (JN.1 sv);simp only [e]at FE;revert a;(repeat first|(intros;rename_i a I;(refine gJ (λak=>ak.heap[mD]? =some (.cells #[.map (some aa),.map (some mJ),.map (some bi),.map (some nk)] 192 (0,0))/\jY w.heap.size m ak/\ur ax.heap.size m.id m.wide ⟨#[]⟩ ak) [(0,true),(1,true),(2,true),(3,true),(4,true),(5,true),(6,true),(7,true),(8,true),(9,true),(10,true),(11,false),(12,true),(13,false),(14,false),(15,true),(16,false)] 9 mixed bh ⟨j4.cell,nA,nB⟩ ?_;simp only [fF,atZ,atS,atO,at1,aug]);revert a)|refine ag ?_|refine ck (λak ar=>h1 (yA ak (by obtain⟨n,rfl⟩:=ar;exact eU (atL _ _) n))) ?_|refine ck (λak ar=>h1 (CK ak (by obtain⟨n,rfl⟩:=ar;exact eU (atL _ _) n))) ?_|refine ck (λak ar=>bJ (by obtain⟨n,rfl⟩:=ar;exact dy nB)) ?_|refine ck (λak ar=>h1 (FE ak (by obtain⟨n,rfl⟩:=ar;exact eU (eU (atL _ _) _) n))) ?_|refine ck (λak ar=>ea ar bM) ?_|refine ck (λak ar=>ea ar c2) ?_|refine ck (λak ar=>ea ar c0) ?_|refine ck (λak ar=>ea ar m4) ?_|refine ck (λak ar=>ea ar m6) ?_|refine λ(_:Nat)=>?_);intros;rename_i g' a I;generalize k8:World.drewN (World.drewN (World.drewN bZ _) _) 1=Du;have Aj:Below bZ.heap.size bZ Du:=by rw [<-k8];exact eU (eU (oh _) _) 1
 clear k8 yA CK FE oh c0 bM c2 m4 m6;have N5:=nA.below Aj;have Oa:=nB.below Aj;have uR:=j4.below Aj;have gB:=iC.trans (Aj.mono iC.size);have O6:=Aj.size;have arW:=bO nB;have arT:=bO nA;have aq7:=bO uR.cell;have FR:=cv.ord;clear nA nB j4;have Lr:∀(ak:World) (j:Nat) (v:Value),ak.heap[mD]? =some (.cells #[.map (some aa),.map (some mJ),.map (some bi),.map (some nk)] 192 (0,0))->[Value.map (some aa),.map (some mJ),.map (some bi),.map (some nk)][j]? =some v->ak.cell? ⟨mD,0+j,none⟩=some v:=λak j v h ah=>by
   rw [aub];exact aF h (by simpa using ah)
 revert a;(repeat first|refine e3 ?_|refine cB (λak ar=>bJ (dy ar.2.2)) ?_|refine cB (λak ar=>af (Lr _ 1 _ ar.1 rfl)) ?_|refine cB (λak ar=>af (Lr _ 2 _ ar.1 rfl)) ?_|refine cB (λak ar=>af (ar.2.1.c 4 _ rfl)) ?_);intro a I;have ahd:(iH (yf ms) i).length<maxLen:=by rw [C7];unfold maxLen;omega
 have Vm:(iH (ye ms) i).length<maxLen:=by rw [C7];unfold maxLen;omega
 obtain⟨v0,as9,y8,xa,cf,fZ,FM⟩:=uR.Db.Ki (ay6 auh) auT (z:=.bool false) (λu=>auz u) (key:=.string m.name) (vo auh m.name bn) (.bool true) ahd;obtain⟨nQ,FX,kp,bE,hl⟩:=FM y8 rfl;have pQ:∀{xQ D5:World} {g:Nat} {b:Nat} {o:Obj},xQ.heap[b]? =some o->xQ.grownBy D5 (some g)->b≠g->D5.heap[b]? =some o:=λh az b5=>aD h az (by simpa using b5);have ahl:=bO N5;have ar4:=bO Oa;have LI:=pQ uR.cell cf bj;have N6:jY w.heap.size m y8:=pQ N5 cf bj;have Od:ur ax.heap.size m.id m.wide ⟨#[]⟩ y8:=pQ Oa cf bj;have LJ:=pQ LI bE bj;have N7:jY w.heap.size m nQ:=pQ N6 bE bj;have nC:ur ax.heap.size m.id m.wide ⟨#[]⟩ nQ:=pQ Od bE bj;have ZL:=(uR.zm.kept cf bm).kept bE bm;have WG:=(uR.ids.kept cf bm).kept bE bm;have Zy:=(uR.sigs.kept cf bm).kept bE bm;obtain⟨v1,as',Dv,Az,cG,hn,Vy⟩:=WG.Ki JZ awj (z:=.bool false) (λu=>auz u) (key:=.agg #[.int .u32 m.id,.bool m.wide,.string ⟨#[]⟩]) (kl:=jg m.id m.wide ⟨#[]⟩) (yQ o3 bk) (.bool true) Vm;obtain⟨xF,ah3,z6,gq,tK⟩:=Vy Dv rfl;have LK:=pQ LJ cG bj;have N8:jY w.heap.size m Dv:=pQ N7 cG bj;have Oe:ur ax.heap.size m.id m.wide ⟨#[]⟩ Dv:=pQ nC cG bj;have LH:=pQ LK gq bj;have FJ:jY w.heap.size m xF:=pQ N8 gq bj;have Vv:ur ax.heap.size m.id m.wide ⟨#[]⟩ xF:=pQ Oe gq bj;have MY:qb cy.heap.size xF mD aa mJ bi nk ss (ss.length+1) ms (i+1) ti:=by
   refine⟨cv.ord,LH,(ZL.kept cG bm).kept gq bm,?_,?_,(Zy.kept cG bm).kept gq bm⟩
   · have:iH (yf ms) (i+1)=(iV m.name,.bool true)::iH (yf ms) i:=by rw [iH];unfold yf;rw [hm]
     rw [this];exact(kp.kept cG bm).kept gq bm
   · have:iH (ye ms) (i+1)=(jg m.id m.wide ⟨#[]⟩,.bool true)::iH (ye ms) i:=by rw [iH];unfold ye;rw [hm]
     rw [this];exact z6
 have MQ:=(aK (aK (aK gB cf gB.size) bE (by have:=gB.size;omega)) cG (by have:=gB.size;omega)).grown gq (by have:=gB.size;omega) (λk au=>by cases au;omega);refine c7 ?_;refine st I (H2 xa) rfl (λa I=>?_);refine atJ ⟨rfl,⟨LI,N6,Od⟩,?_⟩;revert a;refine hH λa I=>?_;refine c7 ?_;refine gv I (HX FX) rfl (λa I=>?_);refine atJ ⟨rfl,⟨LJ,N7,nC⟩,?_⟩;refine c7 ?_;refine st I (H2 Az) rfl (λa I=>?_);refine atJ ⟨rfl,⟨LK,N8,Oe⟩,?_⟩;revert a;refine hH λa I=>?_;refine c7 ?_;refine gv I (HX ah3) rfl (λa I=>?_);refine atJ ⟨rfl,⟨LH,FJ,Vv⟩,?_⟩;refine fj ?_;clear FM Vy kp z6 ZL WG Zy LI LJ LK LH N6 N7 N8 Od nC Oe Vv cf bE cG gq uR N5 Oa;have aiD:=MQ.size;have tK:=bO FJ;have afz:=bO MY.cell;have ahO:∀k,k<aR.length->BH cy (cn aR k) (tx aR k):=λk au=>Z6 eb au;have Jm:=λk au x hx=>zt (alg (ale (Em (u5.one k au))) x hx);have On:=λk au=>zt (PH (Em (u5.one k au)));revert a;(repeat first|refine ag ?_|refine J (af (FJ.c 7 _ rfl)) ?_);intro a I;refine eg (λq a wr=>∃k,k<=m.dO/\q=m.dO - k/\(∀j,j<k->¬Bq ss aR j)/\Fr 105 [(0,.pointer (some ⟨mD,0,none⟩)),(3,.pointer (some ⟨w.heap.size,0,none⟩)),(68,.slice m.cn m.dO m.vI),(69,.int .i64 m.dO),(70,.int .i64 (k:Nat))] a/\
   jY w.heap.size m wr/\qb cy.heap.size wr mD aa mJ bi nk ss (ss.length+1) ms (i+1) (p3 m aR k++ti)/\Below cy.heap.size cy wr) m.dO
   ⟨0,auc _,rfl,λj ah=>absurd ah (auv _),I.bb,FJ,MY,MQ⟩ ?_
 clear I a FJ MY MQ aiD tK afz;rintro q a wr ⟨k,au,rfl,jy,I,N',ID,cH⟩;have bA:=cH.size;by_cases bu:k<m.dO
 case neg=>
   obtain rfl:k=m.dO:=bj
   rw [lH (λj ah=>jy j bj)]at bF;revert a;refine ad λa I=>?_;refine bc I rfl rfl ⟨by rw [bF];rfl,cH,λ_=>?_⟩;rw [hlen];exact ID
 have hP:k<aR.length:=bj
 obtain⟨b,o,eW,av⟩:=G3 eb cH hP;have OG:=ahO k hP;have VN:=Jm k hP;have ahQ:=On k hP;have hA:Bq ss aR k->E=(13,(cn aR k).line,(cn aR k).eh):=λh=>by rw [bF,tg hP h jy];rfl
 have OP:Bq ss aR k↔∃s,s∈tx aR k/\¬xt ss s:=azI;have eA:p3 m aR (k+1)=(jg m.id m.wide (cn aR k).name,.agg (b1.cells (cn aR k)).toArray)::p3 m aR k:=rfl;obtain⟨s,aG⟩:∃x,x=cn aR k:=⟨_,rfl⟩;obtain⟨xs,j9⟩:∃x,x=tx aR k:=⟨_,rfl⟩;rw [<-aG]at av OG ahQ hA eA;rw [<-j9]at OG VN OP;rw [eW]at I;have arU:=bO N';have arK:=bO ID.cell;revert a;(repeat first|refine ag ?_|refine J (dq (j:=k)) ?_|refine J (bJ (x6 av)) ?_);intro a I;refine b6 I kv λa hp aE aT b8 I=>?_;refine cE I (cs:=(b1.cells s).toArray) aE (kB _) λa fe eB aS cZ I=>?_;have aC:=aK (aK (atL _ wr) aT (atI _)) aS bj;have eB:js wr.heap.size s fe:=eB;have iF:=N'.below aC;have gE:=ID.below aC;have ey:=cH.trans (aC.mono bA);clear aE aT aS N' ID;have OH:=OG.below ey;have qD:=OH.len;have vi:=OH.bytes;revert a;(repeat first|refine ag ?_|refine J (af (eB.c 18 _ rfl)) ?_);intro a I;refine eg (λq a ak=>∃j:Nat,j<=s.p5/\q=s.p5 - j/\(∀je (h:je<xs.length),je<j->xt ss xs[je])/\Fr 105 [(0,.pointer (some ⟨mD,0,none⟩)),(3,.pointer (some ⟨w.heap.size,0,none⟩)),(8,.pointer (some ⟨wr.heap.size,0,none⟩)),(68,.slice (some ⟨b,o,none⟩) m.dO m.vI),(69,.int .i64 m.dO),(70,.int .i64 (k:Nat)),(75,.slice s.azO s.p5 s.Ha),(76,.int .i64 s.p5),(77,.int .i64 (j:Nat))] a/\ak=fe) s.p5
   ⟨0,auc _,rfl,λje _ h=>absurd h (auv _),I.bb,rfl⟩ ?_
 clear I a;rintro q a ak ⟨j,ah,rfl,CI,I,ar⟩;subst ar;by_cases arE:j<s.p5
 · have N0:j<xs.length:=bj
   obtain⟨hM,kb,UF,Ct⟩:=OH.rd j N0;have Wr:=VN _ (at6 N0);have aN:=gE.zm.look uq auT (D9 _) (vo auh xs[j] bn);rw [UF]at I;by_cases Jf:xt ss xs[j]
   · rw [xr (JN.1 Jf)]at aN;revert a;(repeat first|refine ag ?_|refine J (h1 aN) ?_|refine J (af Ct) ?_|refine J (af (gE.c 0 _ rfl)) ?_);intro a I;exact⟨s.p5 - (j+1),bj,j+1,bj,rfl,λje U ae=>by
      by_cases e:je=j
      · subst e;exact Jf
      · exact CI je U bj,by rw [UF];exact I.bb,rfl⟩
   · rw [vp (λh=>Jf (JN.2 h))]at aN;have T0:=hA (OP.2 ⟨xs[j],at6 N0,Jf⟩);revert a;(repeat first|refine ag ?_|refine J (h1 aN) ?_|refine J (bJ eB.pl) ?_|refine J (af Ct) ?_|refine J (af (gE.c 0 _ rfl)) ?_);intro a I;refine aQ I (lE _ 13 s.line s.eh) λa v bN ab I=>?_;obtain⟨rfl,cx⟩:=ab;revert a;refine ad λa I=>?_;refine bc I rfl rfl ⟨by rw [T0],ey.trans (cx.mono ey.size),λh=>?_⟩;rw [T0]at h;cases h
 obtain rfl:j=s.p5:=bj
 have ahC:¬Bq ss aR k:=λh=>by
   obtain⟨x,hx,ae⟩:=OP.1 h;obtain⟨je,h4,rfl⟩:=avh hx;exact ae (CI je h4 bj)
 have ar':=iF.c 2 _ rfl;revert a;(repeat first|(intro a I;(refine gJ (λQ8=>Q8.heap[mD]? =some (.cells #[.map (some aa),.map (some mJ),.map (some bi),.map (some nk)] 192 (0,0))/\jY w.heap.size m Q8/\js wr.heap.size s Q8) [(0,true),(1,true),(2,true),(3,true),(4,true),(5,true),(6,true),(7,true),(8,true),(9,true),(10,true),(11,true),(12,false)] 19 mixed bh ⟨gE.cell,iF,eB⟩ ?_;simp only [fF,atZ,atS,atO,at1,aug]);revert a)|refine ag ?_);intro a I;have nx:Below ak.heap.size ak (ak.drewN 1):=eU (atL _ ak) 1;generalize ak.drewN 1=iM at*;have sx:=iF.below nx;have fS:=eB.below nx;have tm:=gE.below nx;have gh:=ey.trans (nx.mono ey.size);have lg:=nx.size;have fE:=aC.size;have arY:=bO eB;revert a;(repeat first|refine e3 ?_|refine cB (λak ar=>bJ (dy ar.2.2)) ?_|refine cB (λak ar=>cA (vs:=[(0,.int .u32 m.id),(1,.bool m.wide),(2,.string s.name)]) (cells:=#[.int .u32 m.id,.bool m.wide,.string s.name]) bh ⟨rfl,rfl,rfl,rfl,rfl,rfl,trivial⟩) ?_|refine cB (λak ar=>af (Lr _ 3 _ ar.1 rfl)) ?_|refine cB (λak ar=>af (ar.2.1.c 2 _ rfl)) ?_|refine cB (λak ar=>af (ar.2.1.c 3 _ rfl)) ?_|refine cB (λak ar=>af (ar.2.2.c 2 _ rfl)) ?_);intro a I;obtain⟨ib,mv,q',bD,eY⟩:=tm.sigs.put BA ayn (key:=.agg #[.int .u32 m.id,.bool m.wide,.string s.name]) (kl:=jg m.id m.wide s.name) (yQ o3 bn) (.agg (b1.cells s).toArray) (by rw [atV,QC];unfold maxLen;omega);have nA:jY w.heap.size m ib:=pQ sx bD bj;have lT:js wr.heap.size s ib:=pQ fS bD bj;have Sk:=pQ tm.cell bD bj;refine c7 ?_;refine gv I (r6 mv) rfl (λa I=>?_);refine atJ ⟨rfl,⟨Sk,nA,lT⟩,fj ?_⟩;revert a;refine ad λa I=>?_;refine⟨m.dO - (k+1),bj,k+1,bj,rfl,λj ah=>?_,by rw [eW];exact I.bb,nA,⟨FR,Sk,tm.zm.kept bD bm,tm.Db.kept bD bm,tm.ids.kept bD bm,by rw [eA];exact q'⟩,aK gh bD gh.size⟩;by_cases e:j=k
 · subst e;exact ahC
 · exact jy j bj
end
section
open Classical in
theorem Xd(k:Lit)(p:Lit × Value)(r:List (Lit × Value)):eD k (p::r)=if k=p.1 then some p.2 else eD k r:=rfl
theorem Zz{m:cO}:∀{k:Nat},(∀j,j<k->jg m.id m.wide (cn aR j).name≠key)->eD key (p3 m aR k++rest)=eD key rest
 | 0,_=>rfl
 |k+1,h=>by
  show eD key ((_,_)::(p3 m aR k++rest))=_;rw [Xd];rw [atK (λe=>h k bj e.symm)];exact Zz λj ah=>h j bj
theorem ZA{m:cO}{i:Nat}:∀{k:Nat},i<k->jg m.id m.wide (cn aR i).name=key->(∀j,i<j->j<k->jg m.id m.wide (cn aR j).name≠key)->eD key (p3 m aR k++rest)=some (.agg (b1.cells (cn aR i)).toArray)
 | 0,h,_,_=>absurd h (auv _)
 |k+1,h,e,ba=>by
  show eD key ((_,_)::(p3 m aR k++rest))=_;rw [Xd];by_cases ae:i=k
  · subst ae;rw [atM e.symm]
  · rw [atK (λbf=>ba k bj bj bf.symm)];exact ZA bj e λj ah Fz=>ba j ah bj
structure Hr(ms:List iz)(n:Nat):Prop where
 id:∀i,i<n->0<=(ed ms i).id/\(ed ms i).id<4294967296
 ji:∀i,i<n->∀k,k<(fM ms i).length->(cn (fM ms i) k).name.size<=64
 names:∀i,i<n->∀k,k<(fM ms i).length->∀j,j<k->(cn (fM ms i) j).name≠(cn (fM ms i) k).name
 ids:∀i,i<n->∀j,j<i->¬tZ (ed ms j) (ed ms i).id (ed ms i).wide
theorem Xf{ms:List iz}:∀(n:Nat),Hr ms n->∀(id:Int) (wide:Bool) (name:ByteArray),(0<=id/\id<4294967296)->name.size<=maxLen->
  (∃i k,i<n/\k<(fM ms i).length/\tZ (ed ms i) id wide/\(cn (fM ms i) k).name=name/\eD (jg id wide name) (sQ ms n)=some (.agg (b1.cells (cn (fM ms i) k)).toArray))\/
  ((¬∃i k,i<n/\k<(fM ms i).length/\tZ (ed ms i) id wide/\(cn (fM ms i) k).name=name)/\eD (jg id wide name) (sQ ms n)=none)
 | 0,_,_,_,_,_,_=>.inr ⟨λ⟨_,_,h,_⟩=>absurd h (auv _),rfl⟩
 |n+1,H,id,wide,name,hid,CN=>by
  have NU:∀k,k<(fM ms n).length->jg (ed ms n).id (ed ms n).wide (cn (fM ms n) k).name=jg id wide name->tZ (ed ms n) id wide/\(cn (fM ms n) k).name=name:=λk au e=>by
    obtain⟨bw,bf,dj⟩:=Pp (Bv (H.id n bj)) (atN (H.ji n bj k au) bn) (Bv hid) CN e;exact⟨⟨bw,bf⟩,dj⟩
  by_cases hx:∃k,k<(fM ms n).length/\tZ (ed ms n) id wide/\(cn (fM ms n) k).name=name
  · obtain⟨k,au,aG,ba⟩:=hx;refine .inl ⟨n,k,bj,au,aG,ba,?_⟩;show eD _ (p3 _ _ _++_)=_;refine ZA au (by rw [aG.1,aG.2,ba]) λj CI ah e=>?_;have:=(NU j ah e).2;exact H.names n bj j ah k CI (ba.trans this.symm)
  · have U:eD (jg id wide name) (sQ ms (n+1))=eD (jg id wide name) (sQ ms n):=by
      show eD _ (p3 _ _ _++_)=_;exact Zz λj ah e=>hx ⟨j,ah,(NU j ah e).1,(NU j ah e).2⟩
    rw [U];rcases Xf n ⟨λi ai=>H.id i bj,λi ai=>H.ji i bj,λi ai=>H.names i bj,λi ai=>H.ids i bj⟩ id wide name hid CN with ⟨i,k,ai,h⟩|⟨h,ae⟩
    · exact .inl ⟨i,k,bj,h⟩
    · refine .inr ⟨?_,ae⟩;rintro ⟨i,k,ai,au,aG⟩;by_cases e:i=n
      · subst e;exact hx ⟨k,au,aG⟩
      · exact h ⟨i,k,bj,au,aG⟩
theorem alI{ms:List iz}(H:Hr ms ms.length){id:Int}{wide:Bool}{name:ByteArray}{s t:b1}(aG:xz ms id wide name s)(bW:xz ms id wide name t):s=t:=by
 obtain⟨i,k,ai,au,U,ae,rfl⟩:=aG;obtain⟨je,cS,h4,As,jI,q9,rfl⟩:=bW;have uI:i=je:=by
   rcases axH i je with h|h|h
   · exact absurd ⟨U.1.trans jI.1.symm,U.2.trans jI.2.symm⟩ (H.ids je h4 i h)
   · exact h
   · exact absurd ⟨jI.1.trans U.1.symm,jI.2.trans U.2.symm⟩ (H.ids i ai je h)
 subst uI;rcases axH k cS with h|h|h
 · exact absurd (ae.trans q9.symm) (H.names i ai cS As k h)
 · rw [h]
 · exact absurd (q9.trans ae.symm) (H.names i ai k au cS h)
theorem H'{ms:List iz}{i:Nat}(h:(j3 ss ms i).1=0):(jh (ed ms i) (fM ms i)).1=0/\(∀j,j<i->¬((ed ms j).name=(ed ms i).name\/tZ (ed ms j) (ed ms i).id (ed ms i).wide))/\xt ss (ed ms i).qQ/\∀k,k<(fM ms i).length->¬Bq ss (fM ms i) k:=by
 unfold j3 at h;by_cases bw:(jh (ed ms i) (fM ms i)).1≠0
 · rw [atM bw]at h;exact absurd h bw
 rw [atK bw]at h;by_cases bf:∃k,k<i/\((ed ms k).name=(ed ms i).name\/tZ (ed ms k) (ed ms i).id (ed ms i).wide)
 · rw [atM bf]at h;cases h
 rw [atK bf]at h;by_cases dj:¬xt ss (ed ms i).qQ
 · rw [atM dj]at h;cases h
 rw [atK dj]at h;refine⟨auV bw,λj ah hx=>bf ⟨j,ah,hx⟩,auV dj,?_⟩;rcases zV (Bq ss (fM ms i)) (fM ms i).length with ⟨_,ba⟩|⟨k,au,_⟩
 · exact ba
 · rw [au]at h;cases h
theorem aep{ms:List iz}(hid:∀i,i<ms.length->0<=(ed ms i).id/\(ed ms i).id<4294967296)(h:∀i,i<ms.length->(j3 ss ms i).1=0):Hr ms ms.length:=by
 refine⟨hid,λi ai k au=>?_,λi ai k au j ah=>?_,λi ai j ah hx=>?_⟩
 · have az:=JY.1 (H' (h i ai)).1;exact zt (PH (Em (az.one k au)))
 · have az:=JY.1 (H' (h i ai)).1;exact alf (az.one k au) j ah
 · exact(H' (h i ai)).2.1 j ah (.inr hx)
end
end
section
open Go.Maps (Keyed)
section
variable {P:Program} {Q:Exit->Act->World->Prop} {a:Act} {w:World}
theorem abG{x y:Code}(M:Act->World->Prop)(U:x.wp P (Exit.then M Q) a w)(ae:∀a w,M a w->y.wp P Q a w):(Code.seq x y).wp P Q a w:=
 ay9 (wp_mono U (λe a w h=>by cases e<;>first|exact ae _ _ h|exact h))
end
attribute [local irreducible] wpList wpQuiet wpStill Code.wp Exit.then Exit.inBlock bodyPost Calls bL eT
def rU(B:Nat)(d:iN)(w:World):Prop:=w.heap[B]? =some (.cells (iN.cells d).toArray 110 (0,0))
theorem rU.below{B:Nat}(h:rU B d w)(hb:Below w.heap.size w w'):rU B d w':=(hb.block _ (bO h)).trans h
theorem rU.c{B:Nat}(h:rU B d w)(o:Nat)(x:Value)(hx:(iN.cells d)[o]? =some x):w.cell? ⟨B,o,none⟩=some x:=aF h (by simpa using hx)
theorem Kd{b o:Nat}{x y:Value}(aJ:w.cell? ⟨b,o,none⟩=some x)(U:w.cell? ⟨b,o+1,none⟩=some y):∀j v,(#[x,y]:Array Value)[j]? =some v->w.cell? ⟨b,o+j,none⟩=some v:=by
 intro j v h;rcases(show j=0\/j=1\/2<=j by omega)with rfl|rfl|ah
 · simp at h;subst h;exact aJ
 · simp at h;subst h;exact U
 · rw [Array.getElem?_eq_none (by simpa using ah)]at h;cases h
theorem Xr:∀(xs ys:List ByteArray),qF ys xs≠5
 | [],ys=>by simp [qF]
 |x::xs,ys=>by
  unfold qF;split
  · omega
  · split
    · omega
    · exact Xr xs _
noncomputable def L9(ms:List iz)(ts:List s5):xV:=Bp (kO (λi=>r9 ms ts i≠0) ts.length) (λi=>(r9 ms ts i,(ei ts i).line,(ei ts i).eh)) Gx
noncomputable def EC(ss:List ByteArray)(ms:List iz)(ts:List s5):xV:=
 if 512<ms.length then(5,(ed ms 512).line,(ed ms 512).eh)
 else Bp (kO (λi=>(j3 ss ms i).1≠0) ms.length) (j3 ss ms) (L9 ms ts)
theorem XT{wr:World}{n c:Nat}{ms:List iz}(eb:Rk w ay n c ms)(hb:Below w.heap.size w wr){k:Nat}(au:k<ms.length):
  ∃b o,ay=some ⟨b,o,none⟩/\∀q v,(cO.cells (ed ms k))[q]? =some v->wr.cell? ⟨b,o+k*8+q,none⟩=some v:=by
 obtain⟨b,o,eW,av⟩:=eb.rd k (by simpa using au);have e:(ms.map (·.1))[k]'(by simpa using au)=ms[k].1:=bl
 rw [e]at av;rw [PE au];exact⟨b,o,eW,λq v aZ=>(hb.cell (p:=⟨b,o+k*8+q,none⟩) (aui w _ (av q v aZ))).trans (av q v aZ)⟩
theorem aoU{wr:World}{n c:Nat}(eb:RJ w ay n c ts)(hb:Below w.heap.size w wr){k:Nat}(au:k<ts.length):
  ∃b o,ay=some ⟨b,o,none⟩/\∀q v,(nY.cells (ei ts k))[q]? =some v->wr.cell? ⟨b,o+k*6+q,none⟩=some v:=by
 obtain⟨b,o,eW,av⟩:=eb.rd k (by simpa using au);have e:(ts.map (·.1))[k]'(by simpa using au)=ts[k].1:=bl
 rw [e]at av;rw [KS au];exact⟨b,o,eW,λq v aZ=>(hb.cell (p:=⟨b,o+k*6+q,none⟩) (aui w _ (av q v aZ))).trans (av q v aZ)⟩
theorem aoI{i:Nat}(h:gd (ss.getD i ⟨#[]⟩)=false\/ss.getD i ⟨#[]⟩=qK):qV ss i=11:=by unfold qV;rw [atM h]
theorem aoK{i:Nat}(h:¬(gd (ss.getD i ⟨#[]⟩)=false\/ss.getD i ⟨#[]⟩=qK))(ae:∃k,k<i/\ss.getD k ⟨#[]⟩=ss.getD i ⟨#[]⟩):qV ss i=12:=by unfold qV;rw [atK h,atM ae]
theorem aoJ{i:Nat}(h:¬(gd (ss.getD i ⟨#[]⟩)=false\/ss.getD i ⟨#[]⟩=qK))(ae:¬∃k,k<i/\ss.getD k ⟨#[]⟩=ss.getD i ⟨#[]⟩):qV ss i=0:=by unfold qV;rw [atK h,atK ae]
theorem aeC{s:ByteArray}{i:Nat}(aG:s≠qK):(∃j,j<i+1/\zS ss j=iV s)↔∃k,k<i/\ss.getD k ⟨#[]⟩=s:=by
 constructor
 · rintro ⟨j,ah,e⟩;cases j with
   |zero=>exact absurd (AQ e).symm aG
   |succ j=>exact⟨j,bj,AQ e⟩
 · rintro ⟨k,au,e⟩;exact⟨k+1,bj,by show iV (ss.getD k ⟨#[]⟩)=iV s;rw [e]⟩
def B7(ts:List s5)(j:Nat):Lit:=jg (ei ts j).id (ei ts j).wide (ei ts j).sig
theorem ad9{ms:List iz}{i:Nat}(h:¬∃s,xz ms (ei ts i).id (ei ts i).wide (ei ts i).sig s):r9 ms ts i=13:=by unfold r9;rw [dif_neg h]
theorem aea{ms:List iz}{i:Nat}{s:b1}(h:xz ms (ei ts i).id (ei ts i).wide (ei ts i).sig s)(ae:∃k,k<i/\(ei ts k).id=(ei ts i).id/\(ei ts k).wide=(ei ts i).wide/\(ei ts k).sig=(ei ts i).sig):r9 ms ts i=12:=by
 unfold r9;rw [azK ⟨s,h⟩,atM ae]
theorem ad'{ms:List iz}{i:Nat}{s:b1}(H:Hr ms ms.length)(h:xz ms (ei ts i).id (ei ts i).wide (ei ts i).sig s)(ae:¬∃k,k<i/\(ei ts k).id=(ei ts i).id/\(ei ts k).wide=(ei ts i).wide/\(ei ts k).sig=(ei ts i).sig):r9 ms ts i=zc s (DX ts i):=by
 have hex:∃s,xz ms (ei ts i).id (ei ts i).wide (ei ts i).sig s:=⟨s,h⟩;unfold r9;rw [azK hex,atK ae,alI H (axS hex) h]
theorem agL{m:cO}(h:mo m=0):m.dO<=64:=by
 unfold mo at h;by_cases bw:gd m.name=false
 · rw [atM bw]at h;cases h
 rw [atK bw]at h;by_cases bf:Gu m<m.id
 · rw [atM bf]at h;cases h
 rw [atK bf]at h;by_cases dj:m.size<0\/8<m.size
 · rw [atM dj]at h;cases h
 rw [atK dj]at h;by_cases fl:gd m.qQ=false
 · rw [atM fl]at h;cases h
 rw [atK fl]at h;by_cases q7:64<m.dO
 · rw [atM q7]at h;cases h
 omega
def vV(B:Nat)(t:nY)(w:World):Prop:=w.heap[B]? =some (.cells (nY.cells t).toArray 139 (0,0))
theorem vV.below{B:Nat}{t:nY}(h:vV B t w)(hb:Below w.heap.size w w'):vV B t w':=(hb.block _ (bO h)).trans h
theorem vV.c{B:Nat}{t:nY}(h:vV B t w)(o:Nat)(x:Value)(hx:(nY.cells t)[o]? =some x):w.cell? ⟨B,0+o,none⟩=some x:=aF h (by simpa using hx)
theorem vV.pl{B:Nat}{t:nY}(h:vV B t w):∀j v,(#[.int .i64 t.line,.int .i64 t.eh]:Array Value)[j]? =some v->w.cell? ⟨B,0+0+j,none⟩=some v:=Kd (h.c 0 _ rfl) (h.c 1 _ rfl)
def ZC:b1:=⟨0,0,⟨#[]⟩,0,0,0,0,false,false,0,0,0,0,0,0,0,0,⟨#[]⟩,none,0,0⟩
theorem acQ(w:World)(d:iN)(ss:List ByteArray)(ms:List iz)(ts:List s5)(eb:Ri w d ss ms ts)(cT:ni w):
   bd prog 37 [.agg (iN.cells d).toArray].toArray w (λv w'=>v=po (uF d ss ms ts).1 (uF d ss ms ts).2.1 (uF d ss ms ts).2.2/\Below w.heap.size w w'):=by
 have bF:uF d ss ms ts=uF d ss ms ts:=rfl
 conv at bF=>rhs;unfold uF
 change uF d ss ms ts=(if d.Ae=true/\m' d.xP≠0 then(m' d.xP,d.Hg,d.Hf)else if 64<ss.length then(5,d.ub,d.ua)else Bp (kO (λi=>qV ss i≠0) ss.length) (λi=>(qV ss i,d.ub,d.ua)) (EC ss ms ts))at bF;obtain⟨E,EX⟩:∃x,x=uF d ss ms ts:=⟨_,rfl⟩;rw [<-EX]at bF ⊢;clear EX;have eC:=eb.aoo;have asv:=eb.anZ;have Vu:=eb.msgs.len;have ar9:=eb.msgs.bytes;have tL:=eb.DU.len;have asE:=eb.DU.bytes;refine cF func37 rfl 159 rfl 160 rfl (λa I=>?_);refine fC (fB _ ?_);refine di I (cs:=(iN.cells d).toArray) rfl (k:=λa aq aE aT b8 I=>?_);have aB:=aK (atL _ w) aT (atI _);have oh:rU w.heap.size d aq:=aE;clear aE aT;refine st I k5 rfl (λa I=>atJ (mb ?_));have aag:∀ak,rU w.heap.size d ak->∀j v,(#[.int .i64 d.Hg,.int .i64 d.Hf]:Array Value)[j]? =some v->ak.cell? ⟨w.heap.size,0+1+0+j,none⟩=some v:=λak h=>Kd (h.c 1 _ rfl) (h.c 2 _ rfl);have G5:∀ak,rU w.heap.size d ak->∀j v,(#[.int .i64 d.ub,.int .i64 d.ua]:Array Value)[j]? =some v->ak.cell? ⟨w.heap.size,0+4+0+j,none⟩=some v:=λak h=>Kd (h.c 4 _ rfl) (h.c 5 _ rfl);refine abG (λa ax=>Fr 160 [(1,.pointer (some ⟨w.heap.size,0,none⟩))] a/\rU w.heap.size d ax/\Below w.heap.size w ax/\¬(d.Ae=true/\m' d.xP≠0)) ?_ ?_
 · cases ao:d.Ae with
   |false=>
     have c0:aq.cell? ⟨w.heap.size,0+0,none⟩=some (.bool d.Ae):=oh.c 0 _ rfl;rw [ao]at c0;revert a;(repeat first|refine ag ?_|refine J (af c0) ?_);intro a I;exact⟨I.bb,oh,aB,λh=>Bool.noConfusion h.1⟩
   |true=>
     have c0:aq.cell? ⟨w.heap.size,0+0,none⟩=some (.bool d.Ae):=oh.c 0 _ rfl;rw [ao]at c0;have c3:aq.cell? ⟨w.heap.size,0+1+2,none⟩=some (.string d.xP):=oh.c 3 _ rfl;revert a;(repeat first|refine ag ?_|refine J (af c0) ?_|refine J (af c3) ?_);intro a I;refine aQ I (QO aq d.xP (cT.below aB)) λa v ax ab I=>?_;obtain⟨⟨ZZ,xg,rfl⟩,aC⟩:=ab;rw [QN xg]at I;have mP:=oh.below aC;replace aC:=aB.trans (aC.mono aB.size);generalize m' d.xP=lu at*;by_cases bW:lu=0
     · revert a;refine ad λa I=>?_;exact⟨I.bb,mP,aC,λh=>h.2 bW⟩
     · revert a;(repeat first|refine ag ?_|refine J (bJ (aag _ mP)) ?_);intro a I;refine aQ I (lE ax lu d.Hg d.Hf) λa v a6 ab I=>?_;obtain⟨rfl,a1⟩:=ab;revert a;refine ad λa I=>?_;refine bc I rfl rfl ⟨?_,aC.trans (a1.mono aC.size)⟩;rw [bF,atM ⟨ao,bW⟩]
 clear I a;rintro a ax ⟨I,mP,aC,ahD⟩;rw [atK ahD]at bF;have uq:Keyed prog 9:=avQ auh;have BA:=Keyed.of_law JZ;have fE:=aC.size;have arP:=bO mP;refine fC (fB _ ?_);refine st I (qm auT) rfl (λa I=>?_);have CA:ax.grownBy (ax.alloc (.map #[] 0)) none:=auw ax _ none;have asq:(ax.alloc (.map #[] 0)).heap.size=ax.heap.size+1:=bl
 obtain⟨p7,VT,Ci,yy,CT⟩:=(eO.new (P:=prog) (k:=9) ax).put uq auT (key:=.string qK) (vo auh qK bk) (.bool true) (by simp;unfold maxLen;omega);generalize ax.alloc (.map #[] 0)=atG at*;refine gv I (lF VT) rfl (λa I=>?_);refine st I hv rfl (λa I=>?_);refine st I (qm auT) rfl (λa I=>?_);have Ue:=eO.new (P:=prog) (k:=9) p7;have NN:p7.grownBy (p7.alloc (.map #[] 0)) none:=auw p7 _ none;have asr:(p7.alloc (.map #[] 0)).heap.size=p7.heap.size+1:=bl
 generalize p7.alloc (.map #[] 0)=p8 at*;refine st I (qm awj) rfl (λa I=>?_);have Uf:=eO.new (P:=prog) (k:=197) p8;have u2:p8.grownBy (p8.alloc (.map #[] 0)) none:=auw p8 _ none;have ass:(p8.alloc (.map #[] 0)).heap.size=p8.heap.size+1:=bl
 generalize p8.alloc (.map #[] 0)=oL at*;refine st I (qm ayn) rfl (λa I=>?_);have Ug:=eO.new (P:=prog) (k:=197) oL;have Fm:oL.grownBy (oL.alloc (.map #[] 0)) none:=auw oL _ none;have ast:(oL.alloc (.map #[] 0)).heap.size=oL.heap.size+1:=bl
 generalize oL.alloc (.map #[] 0)=zs at*;refine st I (cA (vs:=[(0,.map (some ax.heap.size)),(1,.map (some p7.heap.size)),(2,.map (some p8.heap.size)),(3,.map (some oL.heap.size))]) (cells:=#[.map (some ax.heap.size),.map (some p7.heap.size),.map (some p8.heap.size),.map (some oL.heap.size)]) bh ⟨rfl,rfl,rfl,rfl,rfl,rfl,rfl,rfl,trivial⟩) rfl (λa I=>?_);refine di I (cs:=#[.map (some ax.heap.size),.map (some p7.heap.size),.map (some p8.heap.size),.map (some oL.heap.size)]) rfl (k:=λa aak U9 CC asA I=>?_);have E8:=(((aK (aK (aK (atL _ ax) CA (atI _)) yy bj) NN bj).grown u2 bj (λk au=>by cases au)).grown Fm bj (λk au=>by cases au)).grown CC bj (λk au=>by cases au);have T8:qb ax.heap.size aak zs.heap.size ax.heap.size p7.heap.size p8.heap.size oL.heap.size ss 1 ms 0 []:=by
   refine⟨⟨bj,bj,bj,bj,bj⟩,U9,?_,?_,?_,?_⟩
   · exact((((Ci.kept NN bl).kept u2 bl).kept Fm bl).kept CC bl)
   · exact(((Ue.kept u2 bl).kept Fm bl).kept CC bl)
   · exact((Uf.kept Fm bl).kept CC bl)
   · exact Ug.kept CC bl
 clear Ci Ue Uf Ug CA yy NN u2 Fm CC U9 VT;have Mf:∀ak,rU w.heap.size d ak->ak.cell? ⟨w.heap.size,0+4+2,none⟩=some (.slice d.c6 d.oI d.Bk):=λak h=>h.c 6 _ rfl;have UZ:=mP.below E8;have TY:=aC.trans (E8.mono fE);revert a;(repeat first|refine ag ?_|refine J (af (Mf _ UZ)) ?_);intro a I;refine aQ I (Xs aak ss d.c6 d.oI d.Bk 64 eC (eb.ZJ.below TY) bk) λa v a6 ab I=>?_;obtain⟨rfl,a1⟩:=ab;have tm:=T8.below a1;replace a1:=E8.trans (a1.mono E8.size);have nx:=mP.below a1;clear T8 UZ TY E8;by_cases qp:(64:Int) <d.oI
 · rw [atM qp]at I;rw [atM bj]at bF;revert a;(repeat first|refine ag ?_|refine J (bJ (G5 _ nx)) ?_);intro a I;refine aQ I (lE a6 5 d.ub d.ua) λa v bZ ab I=>?_;obtain⟨rfl,b7⟩:=ab;revert a;refine ad λa I=>?_;refine bc I rfl rfl ⟨by rw [bF],(aC.trans (a1.mono fE)).trans (b7.mono (atN fE a1.size))⟩
 rw [atK qp]at I;rw [atK bj]at bF;have w4:=Xr ss [];generalize qF [] ss=akj at*;revert a;(repeat first|refine ag ?_|refine J (af (Mf _ nx)) ?_);intro a I;refine eg (λq a wr=>∃k,k<=d.oI/\q=d.oI - k/\(∀j,j<k->qV ss j=0)/\Fr 160 [(1,.pointer (some ⟨w.heap.size,0,none⟩)),(4,.pointer (some ⟨zs.heap.size,0,none⟩)),(51,.slice d.c6 d.oI d.Bk),(52,.int .i64 d.oI),(53,.int .i64 (k:Nat))] a/\
   qb ax.heap.size wr zs.heap.size ax.heap.size p7.heap.size p8.heap.size oL.heap.size ss (k+1) ms 0 []/\Below ax.heap.size ax wr) d.oI
   ⟨0,auc _,rfl,λj ah=>absurd ah (auv _),I.bb,tm,a1⟩ ?_
 clear I a tm a1 nx;rintro q a wr ⟨k,au,rfl,jy,I,cv,cH⟩;have bA:=cH.size;have cd:=mP.below cH;have aH:=aC.trans (cH.mono fE);by_cases bu:k<d.oI
 case pos=>
   have hP:k<ss.length:=bj
   obtain⟨b,o,eW,av⟩:=eb.ZJ.below aH k hP;have hA:∀e,qV ss k=e->e≠0->E=(e,d.ub,d.ua):=λe he h=>by
     rw [bF,tg hP (by rw [he];exact h) (λj ah e=>e (jy j ah)),<-he];rfl
   have u3:ss.getD k ⟨#[]⟩=ss[k]:=by rw [avP,atT hP];rfl
   rw [<-u3]at av;have Qq:=aoI (ss:=ss) (i:=k);have Zd:=aoK (ss:=ss) (i:=k);have h8:=aoJ (ss:=ss) (i:=k);have ND:=λ(h:ss.getD k ⟨#[]⟩≠qK)=>aeC (ss:=ss) (i:=k) h;obtain⟨s,aG⟩:∃x,x=ss.getD k ⟨#[]⟩:=⟨_,rfl⟩;rw [<-aG]at av Qq Zd h8 ND;rw [eW]at I;revert a;(repeat first|refine ag ?_|refine J (af av) ?_);intro a I;refine aQ I (Hh wr s) λa v hp ab I=>?_;obtain⟨rfl,IZ⟩:=ab;have gD:=cv.below IZ;have wS:=cH.trans (IZ.mono bA);have Nu:=mP.below wS;cases hw:gd s with
   |false=>
     rw [hw]at I;have tk:=hA 11 (Qq (.inl hw)) bk;revert a;(repeat first|refine ag ?_|refine J (bJ (G5 _ Nu)) ?_);intro a I;refine aQ I (lE hp 11 d.ub d.ua) λa v bZ ab I=>?_;obtain⟨rfl,b7⟩:=ab;revert a;refine ad λa I=>?_;exact bc I rfl rfl ⟨by rw [tk],(aC.trans (wS.mono fE)).trans (b7.mono (atN fE wS.size))⟩
   |true=>
   rw [hw]at I;by_cases kU:s=qK
   · have aI:decide (s=(⟨#[86,101,99,116,111,114,95,95,88,88,88]⟩:ByteArray))=true:=aur kU;have tk:=hA 11 (Qq (.inr kU)) bk;revert a;(repeat first|refine ag ?_|refine J (bJ (G5 _ Nu)) ?_);intro a I;refine aQ I (lE hp 11 d.ub d.ua) λa v bZ ab I=>?_;obtain⟨rfl,b7⟩:=ab;revert a;refine ad λa I=>?_;exact bc I rfl rfl ⟨by rw [tk],(aC.trans (wS.mono fE)).trans (b7.mono (atN fE wS.size))⟩
   have aI:decide (s=(⟨#[86,101,99,116,111,114,95,95,88,88,88]⟩:ByteArray))=false:=auk kU;have V2:=zt hw;have iS:¬(gd s=false\/s=qK):=λh=>h.elim (λe=>by rw [hw]at e;cases e) kU;have aN:=gD.zm.look uq auT (D9 _) (vo auh s bn);by_cases yw:∃i,i<k/\ss.getD i ⟨#[]⟩=s
   · rw [xr ((ND kU).2 yw)]at aN;have tk:=hA 12 (Zd iS yw) bk;revert a;(repeat first|refine ag ?_|refine J (h1 aN) ?_|refine J (bJ (G5 _ Nu)) ?_|refine J (af (gD.c 0 _ rfl)) ?_);intro a I;refine aQ I (lE hp 12 d.ub d.ua) λa v bZ ab I=>?_;obtain⟨rfl,b7⟩:=ab;revert a;refine ad λa I=>?_;exact bc I rfl rfl ⟨by rw [tk],(aC.trans (wS.mono fE)).trans (b7.mono (atN fE wS.size))⟩
   rw [vp (λh=>yw ((ND kU).1 h))]at aN;obtain⟨fe,gX,se,aS,cZ⟩:=gD.zm.put uq auT (key:=.string s) (vo auh s bn) (.bool true) (by rw [C7];unfold maxLen;omega);have FR:=gD.ord;have ahf:=bO gD.cell;revert a;(repeat first|refine ag ?_|refine J (h1 aN) ?_|refine J (af (gD.c 0 _ rfl)) ?_);intro a I;refine gv I (r6 gX) rfl (λa I=>?_);revert a;refine ad λa I=>?_;refine⟨d.oI - (k+1),bj,k+1,bj,rfl,λj ah=>?_,by rw [eW];exact I.bb,⟨FR,aD gD.cell aS bm,?_,gD.Db.kept aS bm,gD.ids.kept aS bm,gD.sigs.kept aS bm⟩,aK wS aS wS.size⟩
   · by_cases e:j=k
     · subst e;exact h8 iS yw
     · exact jy j bj
   · have:iH (zS ss) (k+1+1)=(iV s,.bool true)::iH (zS ss) (k+1):=by rw [aG];rfl
     rw [this];exact se
 obtain rfl:k=d.oI:=bj
 rw [lH (λi ai e=>e (jy i bj))]at bF;replace bF:E=EC ss ms ts:=bF;clear jy Mf G5 aag cd;have cd:=mP.below cH;have Fv:∀i,i<ms.length->0<=(ed ms i).id/\(ed ms i).id<4294967296:=λi ai=>by
   rw [PE ai];exact(eb.msgs.zG _ (at6 ai)).2
 have MU:EC ss ms ts=EC ss ms ts:=rfl
 conv at MU=>rhs;unfold EC
 rw [MU]at bF;clear MU;have S6:∀ak,rU w.heap.size d ak->ak.cell? ⟨w.heap.size,0+7,none⟩=some (.slice d.f' d.qH d.Dc):=λak h=>h.c 7 _ rfl;have aeb:∀ak,rU w.heap.size d ak->ak.cell? ⟨w.heap.size,0+8,none⟩=some (.slice d.hX d.ug d.kY):=λak h=>h.c 8 _ rfl;by_cases qu:(d.qH:Int)>512
 · rw [atM bj]at bF;obtain⟨b,o,eW,av⟩:=XT eb.msgs aH (k:=512) bj;have pt:=S6 _ cd;rw [eW]at pt;have al2:=Kd (av 0 _ rfl) (av 1 _ rfl);revert a;(repeat first|refine ag ?_|refine J (dq (j:=512)) ?_|refine J (bJ al2) ?_|refine J (af pt) ?_);intro a I;refine aQ I (lE wr 5 _ _) λa v bZ ab I=>?_;obtain⟨rfl,b7⟩:=ab;revert a;refine ad λa I=>?_;exact bc I rfl rfl ⟨by rw [bF],aH.trans (b7.mono aH.size)⟩
 rw [atK bj]at bF;revert a;(repeat first|refine ag ?_|refine J (af (S6 _ cd)) ?_);intro a I;refine eg (λq a wr=>∃i,i<=d.qH/\q=d.qH - i/\(∀j,j<i->(j3 ss ms j).1=0)/\Fr 160 [(1,.pointer (some ⟨w.heap.size,0,none⟩)),(4,.pointer (some ⟨zs.heap.size,0,none⟩)),(97,.slice d.f' d.qH d.Dc),(98,.int .i64 d.qH),(99,.int .i64 (i:Nat))] a/\
   qb ax.heap.size wr zs.heap.size ax.heap.size p7.heap.size p8.heap.size oL.heap.size ss (ss.length+1) ms i (sQ ms i)/\(sQ ms i).length<=64*i/\Below ax.heap.size ax wr) d.qH
   ⟨0,auc _,rfl,λj ah=>absurd ah (auv _),I.bb,by rw [eC];exact cv,atI 0,cH⟩ ?_
 clear I a cv cH bA cd aH;rintro q a wr ⟨i,ai,rfl,jy,I,cv,arG,cH⟩;have bA:=cH.size;have cd:=mP.below cH;have aH:=aC.trans (cH.mono fE);by_cases bu:i<d.qH
 case pos=>
   have gW:i<ms.length:=bj
   obtain⟨b,o,eW,av⟩:=XT eb.msgs aH gW;have va:xY w (ed ms i) (fM ms i):=by rw [PE gW,XO gW];exact eb.msgs.each _ (at6 gW)
   have ahp:∀p∈fM ms i,rY p.1:=by rw [XO gW];exact(eb.msgs.zG _ (at6 gW)).1
   rw [eW]at I;revert a;(repeat first|refine ag ?_|refine J (dq (j:=i)) ?_|refine J (bJ (x6 av)) ?_);intro a I;refine b6 I yN λa hp aE aT b8 I=>?_;refine cE I (cs:=(cO.cells (ed ms i)).toArray) aE (AY _) λa fe iF aS cZ I=>?_;have I0:=aK (aK (atL _ wr) aT (atI _)) aS bj;have gE:=cv.below I0;have I4:=cH.trans (I0.mono bA);have iF:jY wr.heap.size (ed ms i) fe:=iF;clear aE aT aS;revert a;(repeat first|refine ag ?_|refine J (bJ (dy iF)) ?_);intro a I;refine aQ I (abj ax fe (ed ms i) (fM ms i) ss ms i _ _ _ _ _ (sQ ms i) rfl rfl bj bj (zA.below va aC) ahp (Fv i gW) (cT.below aC) I4 gE bj (λj ah=>Fv j bj)) λa v iM ab I=>?_;obtain⟨rfl,UN,tm⟩:=ab;have T2:=λ(h:(j3 ss ms i).1≠0)=>tg (bad:=λi=>(j3 ss ms i).1≠0) gW h (λj ah e=>e (jy j ah));have U1:(j3 ss ms i).1=0->(fM ms i).length<=64:=λh=>by
     have:=agL (JY.1 (H' h).1).head;have:=va.len;omega
   obtain⟨zO,Nr⟩:∃x,x=j3 ss ms i:=⟨_,rfl⟩;rw [<-Nr]at I tm T2 U1;by_cases aJ:zO.1=0
   case neg=>
     rw [show ∀x y,po zO.1 x y=mg zO.1 x y from λx y=>atK aJ]at I;revert a;refine ad λa I=>?_;refine bc I rfl rfl ⟨?_,aC.trans (UN.mono fE)⟩;rw [bF,T2 aJ];show mg zO.1 zO.2.1 zO.2.2=po (j3 ss ms i).1 (j3 ss ms i).2.1 (j3 ss ms i).2.2;rw [<-Nr];exact(atK aJ).symm
   rw [show ∀x y,po zO.1 x y=.nilIface from λx y=>atM aJ]at I;have j4:=tm aJ;have arJ:=U1 aJ;revert a;refine ad λa I=>?_;refine⟨d.qH - (i+1),bj,i+1,bj,rfl,λj ah=>?_,by rw [eW];exact I.bb,j4,?_,UN⟩
   · by_cases e:j=i
     · subst e;rw [<-Nr];exact aJ
     · exact jy j bj
   · show(p3 _ _ _++_).length<=_;rw [atV,QC];omega
 obtain rfl:i=d.qH:=bj
 rw [lH (λj ah e=>e (jy j bj))]at bF;replace bF:E=L9 ms ts:=bF;have U4:=aep Fv λj ah=>jy j bj;rw [<-Vu]at cv;unfold L9 at bF;clear jy;revert a;refine ad λa I=>?_;refine st I (qm awj) rfl (λa I=>?_);have uU:=eO.new (P:=prog) (k:=197) wr;have br:wr.grownBy (wr.alloc (.map #[] 0)) none:=auw wr _ none;have dw:(wr.alloc (.map #[] 0)).heap.size=wr.heap.size+1:=bl
 generalize wr.alloc (.map #[] 0)=bN at*;have cx:=aK (atL _ wr) br (atI _);have z7:=cv.below cx;have U3:=cd.below cx;have ob:=aH.trans (cx.mono aH.size);have AN:=aH.size;have afA:=bO cv.cell;clear br cx cv cd cH;revert a;(repeat first|refine ag ?_|refine J (af (aeb _ U3)) ?_);intro a I;refine eg (λq a ak=>∃i,i<=d.ug/\q=d.ug - i/\(∀j,j<i->r9 ms ts j=0)/\Fr 160 [(4,.pointer (some ⟨zs.heap.size,0,none⟩)),(11,.map (some wr.heap.size)),(112,.slice d.hX d.ug d.kY),(113,.int .i64 d.ug),(114,.int .i64 (i:Nat))] a/\
   qb ax.heap.size ak zs.heap.size ax.heap.size p7.heap.size p8.heap.size oL.heap.size ss (ss.length+1) ms ms.length (sQ ms ms.length)/\eO prog 197 ak wr.heap.size (iH (B7 ts) i)/\Below w.heap.size w ak) d.ug
   ⟨0,auc _,rfl,λj ah=>absurd ah (auv _),I.bb,z7,uU,ob⟩ ?_
 clear I a z7 uU U3 ob aH bA;rintro q a ak ⟨i,ai,rfl,jy,I,cv,bs,aH⟩;have bA:=aH.size;by_cases rm:i<d.ug
 case neg=>
   obtain rfl:i=d.ug:=bj
   rw [lH (λj ah e=>e (jy j bj))]at bF;revert a;refine ad λa I=>?_;exact bc I rfl rfl ⟨by rw [bF];rfl,aH⟩
 have gW:i<ts.length:=bj
 obtain⟨b,o,eW,av⟩:=aoU eb.DU aH gW;have F0:RowsIn w (ei ts i) (DX ts i):=by rw [KS gW,apg gW];exact eb.DU.each _ (at6 gW)
 have mS:(0<=(ei ts i).id/\(ei ts i).id<4294967296)/\(ei ts i).sig.size<=maxLen:=by rw [KS gW];exact eb.DU.zG _ (at6 gW)
 have Wc:∀j,j<ts.length->(0<=(ei ts j).id/\(ei ts j).id<4294967296)/\(ei ts j).sig.size<=maxLen:=λj ah=>by rw [KS ah];exact eb.DU.zG _ (at6 ah)
 have hA:∀e,r9 ms ts i=e->e≠0->E=(e,(ei ts i).line,(ei ts i).eh):=λe he h=>by
   rw [bF,tg gW (by rw [he];exact h) (λj ah e=>e (jy j ah)),<-he];rfl
 have N3:=Xf (ms:=ms) ms.length U4 (ei ts i).id (ei ts i).wide (ei ts i).sig mS.1 mS.2;have yw:(∃j,j<i/\B7 ts j=jg (ei ts i).id (ei ts i).wide (ei ts i).sig)↔∃k,k<i/\(ei ts k).id=(ei ts i).id/\(ei ts k).wide=(ei ts i).wide/\(ei ts k).sig=(ei ts i).sig:=
   ⟨λ⟨j,ah,e⟩=>⟨j,ah,Pp (Bv (Wc j bj).1) (Wc j bj).2 (Bv mS.1) mS.2 e⟩,λ⟨j,ah,bw,bf,dj⟩=>⟨j,ah,by unfold B7;rw [bw,bf,dj]⟩⟩
 have UY:=ad9 (ms:=ms) (ts:=ts) (i:=i);have UX:=λs=>aea (ms:=ms) (ts:=ts) (i:=i) (s:=s);have Nt:=λs=>ad' (ms:=ms) (ts:=ts) (i:=i) (s:=s) U4;obtain⟨t,bW⟩:∃x,x=ei ts i:=⟨_,rfl⟩;obtain⟨rs,mR⟩:∃x,x=DX ts i:=⟨_,rfl⟩;rw [<-bW]at av F0 mS hA N3 yw UY UX Nt;rw [<-mR]at F0 Nt;have O1:=Bv mS.1;rw [eW]at I;have ahf:=bO cv.cell;have FR:=cv.ord;have arL:=bs.lt;revert a;(repeat first|refine ag ?_|refine J (dq (j:=i)) ?_|refine J (bJ (x6 av)) ?_);intro a I;refine b6 I aiY λa hp aE aT b8 I=>?_;refine cE I (cs:=(nY.cells t).toArray) aE (aoT _) λa fe lf aS cZ I=>?_;have Nh:=aK (aK (atL _ ak) aT (atI _)) aS bj;have lf:vV ak.heap.size t fe:=lf;clear aE aT aS;revert a;(repeat first|refine ag ?_|refine J (cA (vs:=[(0,.int .u32 t.id),(1,.bool t.wide),(2,.string t.sig)]) (cells:=#[.int .u32 t.id,.bool t.wide,.string t.sig]) bh ⟨rfl,rfl,rfl,rfl,rfl,rfl,trivial⟩) ?_|refine J (af (lf.c 2 _ rfl)) ?_|refine J (af (lf.c 3 _ rfl)) ?_|refine J (af (lf.c 4 _ rfl)) ?_);intro a I;refine b6 I WN λa iM bR bz eE I=>?_;refine cE I (cs:=#[.int .u32 t.id,.bool t.wide,.string t.sig]) bR (by simp [Value.oneCell']) λa ib nB bD eY I=>?_;have nv:=aK (aK (atL _ fe) bz (atI _)) bD bj;have Wb:=lf.below nv;have nB:ur fe.heap.size t.id t.wide t.sig ib:=nB;have b7:=Nh.trans (nv.mono Nh.size);have j4:=cv.below b7;have q':=bs.below b7;clear bR bz bD nv lf Nh;have qA:∀p',Below ib.heap.size ib p'->(Instr.lookup 190 (.map (some oL.heap.size)) (.agg #[.int .u32 t.id,.bool t.wide,.string t.sig]) true).run prog p'=.ok (.tuple #[(eD (jg t.id t.wide t.sig) (sQ ms ms.length)).getD (.agg (b1.cells ZC).toArray),.bool (eD (jg t.id t.wide t.sig) (sQ ms ms.length)).isSome]) p':=λp' e=>
   (j4.sigs.below e).look_ok BA ayn (zeroValue133 p') (yQ O1 mS.2)
 obtain⟨vL,J4,Vq,d'⟩:∃vL J4,(∀p',Below ib.heap.size ib p'->(Instr.lookup 190 (.map (some oL.heap.size)) (.agg #[.int .u32 t.id,.bool t.wide,.string t.sig]) true).run prog p'=.ok (.tuple #[.agg (b1.cells vL).toArray,.bool J4]) p')/\((J4=true/\xz ms t.id t.wide t.sig vL)\/(J4=false/\¬∃s,xz ms t.id t.wide t.sig s)):=by
   rcases N3 with ⟨je,cS,U,ae,aM,cc,gA⟩|⟨U,ae⟩
   · exact⟨cn (fM ms je) cS,true,λp' e=>by have:=qA p' e;rw [gA]at this;exact this,.inl ⟨rfl,je,cS,U,ae,aM,cc,rfl⟩⟩
   · exact⟨ZC,false,λp' e=>by have:=qA p' e;rw [ae]at this;exact this,.inr ⟨rfl,λ⟨s,je,cS,e6,a2,a3,a4,_⟩=>U ⟨je,cS,e6,a2,a3,a4⟩⟩⟩
 clear qA N3;revert a;(repeat first|(intro a I;(refine gJ (λp'=>Below ib.heap.size ib p') [(0,true),(1,true),(2,true),(3,true),(4,true),(5,true),(6,true),(7,true),(8,true),(9,false),(10,false),(11,true)] 32 mixed bh (eU (atL _ ib) 1) ?_;simp only [fF,atZ,atS,atO,at1,aug]);revert a)|refine ag ?_);intro a I;have lb:Below ib.heap.size ib (ib.drewN 1):=eU (atL _ ib) 1;generalize ib.drewN 1=lY at*;revert a;(repeat first|refine e3 ?_|refine cB (λak ar=>bJ (dy (nB.below ar))) ?_|refine cB (λak ar=>h1 (Vq ak ar)) ?_|refine cB (λak ar=>af ((j4.below ar).c 3 _ rfl)) ?_);intro a I;refine c7 ?_;refine b6 I kv λa Du cI cM fm I=>?_;have bP:=lb.trans (aK (atL _ lY) cM (atI _)|>.mono lb.size);refine atJ ⟨rfl,bP,c7 ?_⟩;refine cE I (cs:=(b1.cells vL).toArray) cI (kB _) λa y8 iG cf fZ I=>?_;have ru:=lb.size;have b2:=bP.grown cf bP.size (λk au=>by cases au;exact ru);refine atJ ⟨rfl,b2,?_⟩;revert a;refine hH λa I=>?_;refine fj ?_;have iG:js lY.heap.size vL y8:=iG;have Ju:=Wb.below b2;have FM:=nB.below b2;have yk:=j4.below b2;have uV:=q'.below b2;have agu:=b7.trans (b2.mono b7.size);have pz:=aH.trans (agu.mono bA);have yK:=b7.size;clear cI cM cf bP Vq nB Wb j4 q' lb;rcases d' with ⟨rfl,VB⟩|⟨rfl,ahB⟩
 case inr=>
   have tk:=hA 13 (UY ahB) bk;revert a;(repeat first|refine ag ?_|refine J (bJ Ju.pl) ?_);intro a I;refine aQ I (lE y8 13 t.line t.eh) λa v nQ ab I=>?_;obtain⟨rfl,c'⟩:=ab;revert a;refine ad λa I=>?_;exact bc I rfl rfl ⟨by rw [tk],pz.trans (c'.mono pz.size)⟩
 have iu:=uV.look BA awj (D9 _) (key:=.agg #[.int .u32 t.id,.bool t.wide,.string t.sig]) (kl:=jg t.id t.wide t.sig) (yQ O1 mS.2);by_cases tw:∃k,k<i/\(ei ts k).id=t.id/\(ei ts k).wide=t.wide/\(ei ts k).sig=t.sig
 · rw [xr (yw.2 tw)]at iu;have tk:=hA 12 (UX vL VB tw) bk;revert a;(repeat first|refine ag ?_|refine J (bJ (dy FM)) ?_|refine J (h1 iu) ?_|refine J (bJ Ju.pl) ?_);intro a I;refine aQ I (lE y8 12 t.line t.eh) λa v nQ ab I=>?_;obtain⟨rfl,c'⟩:=ab;revert a;refine ad λa I=>?_;exact bc I rfl rfl ⟨by rw [tk],pz.trans (c'.mono pz.size)⟩
 rw [vp (λh=>tw (yw.1 h))]at iu;have VU:=Nt vL VB tw;obtain⟨nQ,FX,kp,bE,hl⟩:=uV.put BA awj (key:=.agg #[.int .u32 t.id,.bool t.wide,.string t.sig]) (kl:=jg t.id t.wide t.sig) (yQ O1 mS.2) (.bool true) (by rw [C7];unfold maxLen;omega);have arZ:=bO iG;have Vs:=bO Ju;have kV:js lY.heap.size vL nQ:=aD iG bE bm;have AI:vV ak.heap.size t nQ:=aD Ju bE bm;have M0:qb ax.heap.size nQ zs.heap.size ax.heap.size p7.heap.size p8.heap.size oL.heap.size ss (ss.length+1) ms ms.length (sQ ms ms.length):=by
   have arO:=afA;exact⟨FR,aD yk.cell bE bm,yk.zm.kept bE bm,yk.Db.kept bE bm,yk.ids.kept bE bm,yk.sigs.kept bE bm⟩
 have afZ:eO prog 197 nQ wr.heap.size (iH (B7 ts) (i+1)):=by
   have:iH (B7 ts) (i+1)=(jg t.id t.wide t.sig,.bool true)::iH (B7 ts) i:=by rw [bW];rfl
   rw [this];exact kp
 have Cd:=pz.grown bE pz.size (λk au=>by cases au;exact AN);revert a;(repeat first|refine ag ?_|refine J (bJ (dy FM)) ?_|refine J (h1 iu) ?_);intro a I;refine gv I (r6 FX) rfl (λa I=>?_);revert a;(repeat first|refine ag ?_|refine J (bJ (dy kV)) ?_|refine J (af (AI.c 5 _ rfl)) ?_);intro a I;refine aQ I (ang nQ vL t.rw t.GS t.Qp rs F0.len (F0.rd.below Cd) F0.val (cT.below Cd)) λa v Dv ab I=>?_;obtain⟨rfl,dT⟩:=ab;have IC:=M0.below dT;have sf:=afZ.below dT;have Jv:=AI.below dT;have MR:=Cd.trans (dT.mono Cd.size);generalize zc vL rs=GJ at*;by_cases lR:GJ=0
 · revert a;refine ad λa I=>?_;refine⟨d.ug - (i+1),bj,i+1,bj,rfl,λj ah=>?_,by rw [eW];exact I.bb,IC,sf,MR⟩;by_cases e:j=i
   · subst e;rw [VU];exact lR
   · exact jy j bj
 · have tk:=hA GJ VU lR;revert a;(repeat first|refine ag ?_|refine J (bJ Jv.pl) ?_);intro a I;refine aQ I (lE Dv GJ t.line t.eh) λa v xF ab I=>?_;obtain⟨rfl,gN⟩:=ab;revert a;refine ad λa I=>?_;exact bc I rfl rfl ⟨by rw [tk],MR.trans (gN.mono MR.size)⟩
end
end Go.Proofs.YtnkjmbbddmgjiaaGreatDoor