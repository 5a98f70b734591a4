import Derived.Test.YtnkjmbbddmgjiaaGreatDoorSumLawCheckedS12
set_option linter.unusedSimpArgs false
set_option linter.unusedVariables false
set_option maxRecDepth 1000000
set_option maxHeartbeats 400000000
namespace Go.Proofs.YtnkjmbbddmgjiaaGreatDoor
open Go.RowKit Go.Proofs.Tryz
variable {w:World}{x:Ins}{ap ki e6:Option Addr}{slots:Nat}
section
attribute [local irreducible] wpList wpQuiet wpStill Code.wp Exit.then Exit.inBlock bodyPost Calls bL eT
theorem Te:∀(p:List Ins) (l:List Bool),l.length=p.length+1->(mK p l).length=p.length+1
 | [],l,h=>by rw [mK];exact h
 |x::p,l,h=>by
  rw [mK,aue,Te p _ (by split<;>(try rw [av5])<;>(rw [List.length_tail,h];rfl))];rfl
theorem hJ.an8{g i n:Nat}{rest:List Value}{xs:List Ins}(ai:xs[i]? =some x)(h:w.heap[g]? =some (.cells ((xs.flatMap Ins.cells++rest).toArray.setIfInBounds (0+i*5+3) (.int .i64 (n:Nat))) 66 (0,0))):hJ w g rest (xs.set i { x with n:=n }):=by
 obtain⟨tD,he⟩:=atY.1 ai;have aN:=AP xs;have e:=zX j' (cs:=[Value.int .i64 (n:Nat)]) (p:=3) (q:=4) xs i tD { x with n:=n } bk bk (by rw [he];simp [Ins.cells]);unfold hJ;rw [h,<-e,auR,axq,atM (by rw [atV];omega),aub,awB bj,awC bj];simp
theorem aeZ(w:World)(bF:Env w)(p:List Ins)(aW:∀x∈p,fc x){cp:Nat}(cj:dA w ap 5 Ins.cells p)(kS:p.length<=cp)(hlen:p.length<=16384)(size slots:Nat)(bT:size<=8)(eC:slots<=64)(gi:hG size slots p=true):bd prog 118 [.slice ap p.length cp,.int .i64 (size:Nat),.int .i64 (slots:Nat)].toArray w
   (λv w'=>(∃ay c,v=.tuple #[.slice ay (uM p).length c,.nilIface]/\oO ay/\(uM p).length<=c/\dA w' ay 5 Ins.cells (uM p))/\Below w.heap.size w w'):=by
 obtain⟨cT,_⟩:=rP.1 gi;have o2:=sS cT;have vh:∀x∈p,dW x=true/\x.bK<2^64:=λx hx=>⟨by obtain⟨i,ai,rfl⟩:=avh hx;exact(rM cT i ai).1,(aW x hx).bK⟩;have pM:=λx hx=>(vh x hx).1;have ml:=(GA p _ vh o2 (Mk p (List.replicate (p.length+1) false) bl o2)).1;have Ny:=Te p (List.replicate (p.length+1) false) bl;have lO:((p.length:Nat):Int)+1=((p.length+1:Nat):Int):=bj
 have so:uM p=ho (iX p (mK p (List.replicate (p.length+1) false))) p:=rfl;rw [so];refine mf func118 rfl 133 rfl 136 rfl (λa I=>?_);revert a;refine ad λa I=>?_;refine aQ I (Bt w bF p aW cj hlen size slots bT eC) λa v aq ab I=>?_;obtain⟨⟨_,rfl⟩|⟨mN,_⟩,aB⟩:=ab
 case inr=>rw [gi]at mN;cases mN
 revert a;refine ad λa I=>?_;refine aQ I (aeq aq p o2 (cj.below aB) hlen) λa v ax ab I=>?_;obtain⟨ge,rfl,u4,z1,aC⟩:=ab;have dK:=aB.trans (aC.mono aB.size);generalize mK p (List.replicate (p.length+1) false)=es at*;revert a;refine ad λa I=>?_;refine aQ I (alk ax p (λi h=>pM _ (at6 h)) o2 (cj.below dK) hlen) λa v a6 ab I=>?_;obtain⟨dQ,dh,rfl,an,Ui,tH,dv,a1⟩:=ab;have sk:=dK.trans (a1.mono dK.size);have IB:=z1.below a1;revert a;refine ad λa I=>?_;refine oJ I (aA _ _ rfl) sF rfl (c:=p.length+1) (base:=a6.heap.size) bj bn (atI _) lO (k:=λa bZ sA bD I=>?_);have wM:hK bZ a6.heap.size (List.replicate (p.length+1) 0):=by have:=vB sA;unfold hK;rw [this,awc];rfl
 have I1:=ca bD;have Cf:pg w es dh ge dQ a6.heap.size none 0 [] (List.replicate (p.length+1) 0) bZ:=⟨auH bZ w.heap.size _ _,IB.below I1,Ui.below I1,wM,sk.trans (I1.mono sk.size)⟩;have Fs:=sk.size;generalize gj:iX p es=aa at*;have MS:Hq aa p es 0 [] (List.replicate (p.length+1) 0):=⟨auc _,by rw [<-gj];rfl,λk=>by rw [aub,<-gj];rfl,bl,bl,λj h=>by cases h⟩;obtain⟨C0,pH,FG⟩:=TH ml;have arh:=(Ca ml).2;clear z1 aC aB IB Ui a1 wM I1 bD sA dK sk u4 an lO;generalize a6.heap.size=fH at*;revert a;(repeat first|(intro a I;(refine ma 7 (λa cm=>∃ay c O pl,Fr 136 [(0,.slice ap p.length cp),(11,.slice ay O.length c),(12,.slice (some ⟨fH,0,none⟩) (p.length+1) (p.length+1))] a/\pg w es dh ge dQ fH ay c O pl cm/\O=ka aa p/\pl.length=p.length+1/\(∀j,j<p.length->pl[j]? =some (b9 aa 0- b9 aa j))) ?_ ?_);revert a)|refine ag ?_);intro a I
 · refine⟨?_⟩;revert a;refine ad λa I=>?_;refine eg (λq a wr=>∃(i:Nat) (ay:Option Addr) (c:Nat) (O:List Ins) (pl:List Nat),q=p.length - i/\Fr 136 [(0,.slice ap p.length cp),(9,.slice (some ⟨ge,0,none⟩) (p.length+1) (p.length+1)),(10,.slice (some ⟨dQ,0,none⟩) (p.length+1) (p.length+1)),(11,.slice ay O.length c),(12,.slice (some ⟨fH,0,none⟩) (p.length+1) (p.length+1)),(13,.int .i64 (i:Nat))] a/\pg w es dh ge dQ fH ay c O pl wr/\Hq aa p es i O pl) p.length
     ⟨0,none,0,[],_,rfl,I.bb,Cf,MS⟩ ?_
   clear I Cf MS;rintro q a wr ⟨i,ay,c,O,pl,rfl,I,dG,jd⟩;have ag4:=jd.le;by_cases bu:i<p.length
   · obtain⟨g,o,rfl,_⟩:=(cj.below dG.b) i bu;obtain⟨hp,fe,iM,ib,_⟩:=Yx (q:=p.drop i) (es.drop i) (by rw [atU];omega) (λx hx=>vh x (auG hx));rw [atU]at fe;have gr:=anc wr p i bu aW pM (cj.below dG.b) kS hlen Ny dG.be dG.yX tH dv;have gY:=λ(kc:List Nat) (aN:kc.length=pl.length)=>ac2 jd bu vh (kc:=kc) aN;have are:O.length<=16384:=by have:=jd.t;omega
     generalize asi:gI (p.drop i) (es.drop i)=amY at*;obtain⟨hU,n⟩:=amY;simp only at hp fe iM ib gY gr;revert a;refine ad λa I=>?_;refine aQ I gr λa v bN ab I=>?_;obtain⟨rfl,cx⟩:=ab;replace dG:=dG.below cx;have asI:=dG.b.size;revert a;refine ad λa I=>?_;refine b6 I yO λa bQ cI cM fm I=>?_
     skip
     refine cE I (cs:=hU.cells.toArray) cI (lh _) λa bt c8 cf fZ I=>?_;replace dG:=dG.below ((ca cM).grown cf (ca cM).size (λk au=>by cases au;exact atI _));have bs:gR bN.heap.size hU bt:=c8;clear cI cM c8 cf cx gr;have ahP:=jd.Kg;revert a;(repeat first|(intro a I;(refine ma 10 (λa cm=>∃kc,Fr 136 [(0,.slice (some ⟨g,o,none⟩) p.length cp),(9,.slice (some ⟨ge,0,none⟩) (p.length+1) (p.length+1)),(10,.slice (some ⟨dQ,0,none⟩) (p.length+1) (p.length+1)),(11,.slice ay O.length c),(12,.slice (some ⟨fH,0,none⟩) (p.length+1) (p.length+1)),(13,.int .i64 (i:Nat)),(14,.pointer (some ⟨bN.heap.size,0,none⟩)),(15,.int .i64 (n:Nat))] a/\pg w es dh ge dQ fH ay c O kc cm/\gR bN.heap.size hU cm/\kc.length=pl.length/\(∀j,j<i->kc[j]? =pl[j]?)/\(∀j,j<n->kc[i+j]? =some O.length)) ?_ ?_);revert a)|refine ag ?_);intro a I
     · refine⟨?_⟩;revert a;refine ad λa I=>?_;refine eg (λq a cm=>∃(k:Nat) (kc:List Nat),k<=n/\q=n - k/\Fr 136 [(0,.slice (some ⟨g,o,none⟩) p.length cp),(9,.slice (some ⟨ge,0,none⟩) (p.length+1) (p.length+1)),(10,.slice (some ⟨dQ,0,none⟩) (p.length+1) (p.length+1)),(11,.slice ay O.length c),(12,.slice (some ⟨fH,0,none⟩) (p.length+1) (p.length+1)),(13,.int .i64 (i:Nat)),(14,.pointer (some ⟨bN.heap.size,0,none⟩)),(15,.int .i64 (n:Nat)),(16,.int .i64 ((i+k:Nat):Int))] a/\pg w es dh ge dQ fH ay c O kc cm/\gR bN.heap.size hU cm/\kc.length=pl.length/\(∀j,j<i->kc[j]? =pl[j]?)/\(∀j,j<k->kc[i+j]? =some O.length)) n
         ⟨0,pl,auc _,rfl,I.bb,dG,bs,rfl,λ_ _=>rfl,λj h=>by cases h⟩ ?_
       clear I dG bs;rintro q a cm ⟨k,kc,au,rfl,I,dG,bs,aN,aJ,U⟩;by_cases sv:k<n
       · have N2:((i+k:Nat):Int) <(i:Nat)+(n:Nat):=bj
         revert a;refine ad λa I=>?_;refine cr I (aw _ _ rfl) dG.pl (i:=0+(i+k)) bm rfl rfl rfl (k:=λa cD en bE hl I=>?_);have MV:=dG.set Fs en bE;have kp:=ala bs dG.pl bE;revert a;refine ad λa I=>?_;exact⟨n - (k+1),bj,k+1,kc.set (i+k) O.length,bj,rfl,I.bb,MV,kp,by rw [av5];exact aN,λj ah=>by rw [auO bj];exact aJ j ah,λj ah=>by
           by_cases e:j=k
           · subst e;rw [auS bj]
           · rw [auO bj];exact U j bj⟩
       · obtain rfl:k=n:=bj
         have N2:¬((i+k:Nat):Int) <(i:Nat)+(k:Nat):=bj
         revert a;refine ad λa I=>?_;exact⟨kc,I.bb,dG,bs,aN,aJ,U⟩
     clear I dG bs;rintro a cD ⟨kc,I,dG,bs,aN,aJ,U⟩;have l9:cD.cell? ⟨bN.heap.size,0+7,none⟩=some (.int .i64 (hU.size:Nat)):=aF bs rfl;by_cases ba:hU.size<n
     · have Jk:(hU.size:Int) <(n:Int):=bj
       have Jz:=ib ba;simp only [atM ba]at gY;revert a;(repeat first|refine ag ?_|refine J (bJ bs.all) ?_|refine J (af l9) ?_);intro a I;refine aQ I (akV cD hU Jz) λa v dt ab I=>?_;obtain⟨⟨eM,c2,rfl,e0⟩,dT⟩:=ab;have MW:=dG.below dT;have Ff:(gK hU).length<=4:=by have:=St hU;unfold sI at this;split at this<;>omega
       have mR:dA dt eM 5 Ins.cells (gK hU):=by
         rcases Dm e0 rfl with ⟨U,ae⟩|⟨g2,c3,rest,U,_,_,aM⟩
         · rw [ae];intro i ai;cases ai
         · injection U with U;rw [U];exact aM.rd
       revert a;refine ad λa I=>?_;refine G8 (ys:=gK hU) (n:=O.length) (m:=(gK hU).length) I j' bk (aA _ _ rfl) fK rfl MW.own rfl mR (λy v ao=>jN y v (by simpa using ao)) bj bn MW.b.size (k:=λa Eo c3 gw pK bz I=>?_);have z6:=MW.app rfl pK bz;revert a;refine ad λa I=>?_;exact⟨p.length - (i+n),bj,i+n,Eo,c3,O++gK hU,kc,rfl,by rw [atV];exact I.bb,z6,gY kc aN aJ U⟩
     · have Jk:¬(hU.size:Int) <(n:Int):=bj
       simp only [atK ba]at gY;have tL:((p.drop i).take n).length=n:=by rw [aw8,atU];omega
       revert a;(repeat first|refine ag ?_|refine J (adL (aA _ _ rfl) (aw _ _ rfl) (i:=i) (m:=n) rfl rfl rfl rfl rfl bj bj) ?_|refine J (af l9) ?_);intro a I;refine G8 (ys:=(p.drop i).take n) (n:=O.length) (m:=n) I j' bk (aA _ _ rfl) fK rfl dG.own tL (amM (cj.below dG.b) i n) (λy v ao=>jN y v (by simpa using ao)) bj bn dG.b.size (k:=λa Eo c3 gw pK bz I=>?_);have z6:=dG.app tL pK bz;revert a;refine ad λa I=>?_;refine eg (λq a cm=>∃(k:Nat) (y1:List Nat),k<=n/\q=n - k/\Fr 136 [(0,.slice (some ⟨g,o,none⟩) p.length cp),(9,.slice (some ⟨ge,0,none⟩) (p.length+1) (p.length+1)),(10,.slice (some ⟨dQ,0,none⟩) (p.length+1) (p.length+1)),(11,.slice Eo (O.length+n) c3),(12,.slice (some ⟨fH,0,none⟩) (p.length+1) (p.length+1)),(13,.int .i64 (i:Nat)),(15,.int .i64 (n:Nat)),(17,.int .i64 ((i+k:Nat):Int))] a/\pg w es dh ge dQ fH Eo c3 (O++(p.drop i).take n) y1 cm/\y1.length=pl.length/\(∀j,j<i->y1[j]? =pl[j]?)/\(∀j,j<k->y1[i+j]? =some (O.length+j))) n
         ⟨0,kc,auc _,rfl,I.bb,z6,aN,aJ,λj h=>by cases h⟩ ?_
       clear I dG bs l9 U aJ aN z6 pK bz;rintro q a cm ⟨k,y1,au,rfl,I,dG,aN,aJ,U⟩;by_cases sv:k<n
       · have N2:((i+k:Nat):Int) <(i:Nat)+(n:Nat):=bj
         have tM:((O.length+n:Nat):Int)- (n:Nat)+((i+k:Nat):Int)- (i:Nat)=((O.length+k:Nat):Int):=bj
         revert a;refine ad λa I=>?_;refine cr I (aw _ _ rfl) dG.pl (i:=0+(i+k)) bm rfl rfl rfl (k:=λa nT ks tB Js I=>?_);rw [tM]at ks;have afM:=dG.set Fs ks tB;revert a;refine ad λa I=>?_;exact⟨n - (k+1),bj,k+1,y1.set (i+k) (O.length+k),bj,rfl,I.bb,afM,by rw [av5];exact aN,λj ah=>by rw [auO bj];exact aJ j ah,λj ah=>by
           by_cases e:j=k
           · subst e;rw [auS bj]
           · rw [auO bj];exact U j bj⟩
       · obtain rfl:k=n:=bj
         have N2:¬((i+k:Nat):Int) <(i:Nat)+(k:Nat):=bj
         revert a;refine ad λa I=>?_;exact⟨p.length - (i+k),bj,i+k,Eo,c3,_,y1,rfl,by rw [atV,tL];exact I.bb,dG,gY y1 aN aJ U⟩
   · obtain rfl:i=p.length:=bj
     have hu:=jd.u;have bA:ka (iX (p.drop p.length) (es.drop p.length)) (p.drop p.length)=[]:=by rw [auD,Yu];rfl
     rw [bA,avC]at hu;revert a;refine ad λa I=>?_;exact⟨ay,c,O,pl,I.bb,dG,hu.symm,jd.Kg,jd.P2⟩
 clear I Cf MS;rintro a cm ⟨ay,c,O,pl,I,dG,rfl,ahP,VJ⟩;obtain⟨aX,afy,af1,bU,hb⟩:=dG;rw [C0]at I aX;have gr:(ay=none/\c=0/\ka aa p=[])\/∃g rest,ay=some ⟨g,0,none⟩/\w.heap.size<=g/\b9 aa 0<=c/\hJ cm g rest (ka aa p):=by
   rcases Dm aX C0 with ⟨U,ae⟩|⟨g,c2,rest,U,ae,aM,cc⟩
   · injection U with U jI MF;exact .inl ⟨U,MF,ae⟩
   · injection U with U jI MF;exact .inr ⟨g,rest,U,ae,MF▸aM,cc⟩
 clear aX afy af1;revert a;refine ad λa I=>?_;refine cr I (aw _ _ rfl) bU (i:=0+p.length) bm rfl rfl rfl (k:=λa bN bB br dw I=>?_);have Ch:=hK.set bB;have cx:=hb.grown br hb.size (λk au=>by cases au;exact Fs);have Om:∀j,j<=p.length->(pl.set p.length (b9 aa 0))[j]? =some (b9 aa 0- b9 aa j):=λj ah=>by
   by_cases e:j=p.length
   · subst e;rw [auS bj,FG];rfl
   · rw [auO bj];exact VJ j bj
 have F2:(ay=none/\c=0/\ka aa p=[])\/∃g rest,ay=some ⟨g,0,none⟩/\w.heap.size<=g/\b9 aa 0<=c/\hJ bN g rest (fixC aa p 0):=by
   rcases gr with h|⟨g,rest,U,ae,aM,cc⟩
   · exact .inl h
   · exact .inr ⟨g,rest,U,ae,aM,by rw [Ij];exact aD cc br (by have:=c1 cc bU bk;simpa using this)⟩
 generalize pl.set p.length (b9 aa 0)=P1 at Ch Om;have arR:P1.length=p.length+1\/True:=.inr trivial;clear bB br gr hb bU VJ;revert a;refine ad λa I=>?_;refine eg (λq a wr=>∃(i:Nat),i<=p.length/\q=p.length - i/\Fr 136 [(11,.slice ay (b9 aa 0) c),(12,.slice (some ⟨fH,0,none⟩) (p.length+1) (p.length+1)),(104,.slice ap p.length cp),(105,.int .i64 (p.length:Nat)),(106,.int .i64 (i:Nat))] a/\((ay=none/\c=0/\ka aa p=[])\/∃g rest,ay=some ⟨g,0,none⟩/\w.heap.size<=g/\b9 aa 0<=c/\hJ wr g rest (fixC aa p i))/\hK wr fH P1/\Below w.heap.size w wr) p.length
   ⟨0,auc _,rfl,I.bb,F2,Ch,cx⟩ ?_
 clear I F2 Ch cx;rintro q a wr ⟨i,ai,rfl,I,gr,bU,hb⟩;by_cases bu:i<p.length
 · obtain⟨g,o,rfl,av⟩:=(cj.below hb) i bu;have hx:=aW _ (at6 bu);obtain⟨U5,sn⟩:=aeJ ml i bu;have ahN:=Om i bj;generalize p[i]=x at av hx U5 sn;replace av:∀j v,x.cells.toArray[j]? =some v->wr.cell? ⟨g,o+i*5+j,none⟩=some v:=λj v ah=>av j v (by simpa using ah);revert a;(repeat first|refine ag ?_|refine J (dq (j:=i)) ?_|refine J (bJ av) ?_);intro a I;refine b6 I fK λa bN bB br dw I=>?_;revert a;refine ad λa I=>?_;refine cE I (cs:=x.cells.toArray) bB (jN x) λa bQ cI cM fm I=>?_;have bP:=aK (aK (atL _ wr) br (atI _)) cM bj;have Ad:dd wr.heap.size x bQ:=cI;revert a;(repeat first|refine ag ?_|refine J (bJ Ad.all) ?_);intro a I;refine aQ I (QD bQ x) λa v bt gF I=>?_;obtain⟨rfl,b2⟩:=gF;have I3:=bP.trans (b2.mono bP.size);have aL:=Ad.below b2;have ym:=bU.below I3;have o0:=hb.trans (I3.mono hb.size);have VZ:(ay=none/\c=0/\ka aa p=[])\/∃g rest,ay=some ⟨g,0,none⟩/\w.heap.size<=g/\b9 aa 0<=c/\hJ bt g rest (fixC aa p i):=by
     rcases gr with h|⟨g,rest,U,ae,aM,cc⟩
     · exact .inl h
     · exact .inr ⟨g,rest,U,ae,aM,cc.below I3⟩
   have db:bt.cell? ⟨wr.heap.size,0+3,none⟩=some (.int .i64 (x.n:Nat)):=aF aL rfl;clear bB br cI cM bP Ad gr bU hb b2 I3 av;cases ah:dx x with
   |false=>
     rw [ah]at I;revert a;refine ad λa I=>?_;exact⟨p.length - (i+1),bj,i+1,bj,rfl,I.bb,by rw [sn ah];exact VZ,ym,o0⟩
   |true=>
     rw [ah]at I;obtain⟨f1,f2,f3,f4,f5⟩:=U5 ah;have On:=Om (i+1+x.n) f3;have ag4:=yS aa i;have Ff:(fixC aa p i).length=b9 aa 0:=by unfold fixC;rw [atV,aw8,atU,C0,pH];omega
     obtain⟨Iq,rest,rfl,rk,wY,Uq⟩:∃g rest,ay=some ⟨g,0,none⟩/\w.heap.size<=g/\b9 aa 0<=c/\hJ bt g rest (fixC aa p i):=by
       rcases VZ with ⟨_,_,h⟩|h
       · rw [h]at C0;simp at C0;omega
       · exact h
     have bM:=ym.cell ahN;have c2:=ym.cell On;have tM:((b9 aa 0- b9 aa (i+1+x.n):Nat):Int)- ((b9 aa 0- b9 aa i:Nat):Int)- 1=((b9 aa (i+1)- b9 aa (i+1+x.n):Nat):Int):=bj
     have eC:b9 aa 0- b9 aa i<b9 aa 0:=bj
     revert a;(repeat first|(intro a I;(refine kI 27 21 mixed bh ?_;simp only [aul,auA,at5,aus]);revert a)|refine ag ?_|refine b4 (gT (j:=i+1+x.n) rfl rfl rfl bj) ?_|refine b4 (dq (j:=b9 aa 0- b9 aa i) rfl rfl rfl bj) ?_|refine b4 (af bM) ?_|refine b4 (af c2) ?_|refine b4 (af db) ?_);intro a I;refine cr I (aw _ _ rfl) (show(bt.drewN 1).heap[Iq]? =_ from Uq) (i:=0+(b9 aa 0- b9 aa i)*5+3) (by have:=AP (fixC aa p i);simp only [av4,atV];omega) rfl rfl rfl (k:=λa cD en bE hl I=>?_);replace bE:=iQ bE;rw [tM]at en;have j6:=hJ.an8 f5 en;have nu:hK cD fH P1:=aD ym bE (by have:=c1 ym Uq bk;simpa using this);revert a;refine ad λa I=>?_;exact⟨p.length - (i+1),bj,i+1,bj,rfl,I.bb,.inr ⟨Iq,rest,rfl,rk,wY,by rw [f4];exact j6⟩,nu,o0.grown bE o0.size (λk au=>by cases au;exact rk)⟩
 · obtain rfl:i=p.length:=bj
   rw [aeI ml]at gr;revert a;refine ad λa I=>?_;refine eI I rfl rfl rfl ⟨⟨ay,c,by rw [pH],?_⟩,hb⟩;rcases gr with ⟨rfl,rfl,h⟩|⟨g,rest,rfl,_,aM,cc⟩
   · have aJ:b9 aa 0=0:=by rw [<-C0,h];rfl
     have hm:=avD (by rw [pH,aJ]);rw [hm];exact⟨(λb h=>by cases h),atI _,(λi ai=>by cases ai)⟩
   · exact⟨(λb h=>by cases h;exact⟨_,_,rfl⟩),(by rw [pH];exact aM),cc.rd⟩
def Ec(w w':World)(q:List Ins)(v:Value):Prop:=(∃ay c,v=.tuple #[.slice ay q.length c,.nilIface]/\oO ay/\q.length<=c/\dA w' ay 5 Ins.cells q)/\Below w.heap.size w w'
def ox(ay:Option Addr)(n c size slots:Nat):Array Value:=#[.slice ay n c,.int .i64 (size:Nat),.int .i64 (slots:Nat)]
theorem ajq(w:World)(bF:Env w)(p:List Ins)(aW:∀x∈p,fc x){cp:Nat}(od:oO ap)(cj:dA w ap 5 Ins.cells p)(hlen:p.length<=16384)(size slots:Nat)(bT:size<=8)(eC:slots<=64)(gi:hG size slots p=true):bd prog 64 [.agg (ox ap p.length cp size slots)].toArray w (λv w'=>Ec w w' (th p) v):=by
 have pH:=(Tv (λx hx=>(aW x hx).bK) gi).2.2.1;refine cF func64 rfl 12 rfl 13 rfl (λa I=>?_);revert a;refine ad λa I=>?_;refine di I (cs:=ox ap p.length cp size slots) rfl (k:=λa aq aE aT b8 I=>?_);have aB:=ca aT;have c0:aq.cell? ⟨w.heap.size,0+0,none⟩=some (.slice ap p.length cp):=aF aE rfl;have bM:aq.cell? ⟨w.heap.size,0+1,none⟩=some (.int .i64 (size:Nat)):=aF aE rfl;have c2:aq.cell? ⟨w.heap.size,0+2,none⟩=some (.int .i64 (slots:Nat)):=aF aE rfl;revert a;(repeat first|refine ag ?_|refine J (af c0) ?_|refine J (af bM) ?_|refine J (af c2) ?_);intro a I;refine aQ I (aeR aq (bF.below aB) p aW od (cj.below aB) hlen size slots bT eC gi) λa v ax ab I=>?_;obtain⟨⟨ay,c,rfl,U,ae,aM⟩,aC⟩:=ab;revert a;refine ad λa I=>?_;exact eI I rfl rfl rfl ⟨⟨ay,c,by rw [pH];rfl,U,by rw [pH];exact ae,aM⟩,aB.trans (aC.mono aB.size)⟩
theorem ajr(w:World)(bF:Env w)(p:List Ins)(aW:∀x∈p,fc x){cp:Nat}(cj:dA w ap 5 Ins.cells p)(kS:p.length<=cp)(hlen:p.length<=16384)(size slots:Nat)(bT:size<=8)(eC:slots<=64)(gi:hG size slots p=true):bd prog 65 [.agg (ox ap p.length cp size slots)].toArray w (λv w'=>Ec w w' (uM p) v):=by
 refine cF func65 rfl 12 rfl 13 rfl (λa I=>?_);revert a;refine ad λa I=>?_;refine di I (cs:=ox ap p.length cp size slots) rfl (k:=λa aq aE aT b8 I=>?_);have aB:=ca aT;have c0:aq.cell? ⟨w.heap.size,0+0,none⟩=some (.slice ap p.length cp):=aF aE rfl;have bM:aq.cell? ⟨w.heap.size,0+1,none⟩=some (.int .i64 (size:Nat)):=aF aE rfl;have c2:aq.cell? ⟨w.heap.size,0+2,none⟩=some (.int .i64 (slots:Nat)):=aF aE rfl;revert a;(repeat first|refine ag ?_|refine J (af c0) ?_|refine J (af bM) ?_|refine J (af c2) ?_);intro a I;refine aQ I (aeZ aq (bF.below aB) p aW (cj.below aB) kS hlen size slots bT eC gi) λa v ax ab I=>?_;obtain⟨⟨ay,c,rfl,U,ae,aM⟩,aC⟩:=ab;revert a;refine ad λa I=>?_;exact eI I rfl rfl rfl ⟨⟨ay,c,rfl,U,ae,aM⟩,aB.trans (aC.mono aB.size)⟩
theorem ajp(w:World)(bF:Env w)(p:List Ins)(aW:∀x∈p,fc x){cp:Nat}(cj:dA w ap 5 Ins.cells p)(hlen:p.length<=16384)(size slots:Nat)(bT:size<=8)(eC:slots<=64)(gi:hG size slots p=true):bd prog 66 [.agg (ox ap p.length cp size slots)].toArray w (λv w'=>Ec w w' (uG p) v):=by
 refine cF func66 rfl 12 rfl 13 rfl (λa I=>?_);revert a;refine ad λa I=>?_;refine di I (cs:=ox ap p.length cp size slots) rfl (k:=λa aq aE aT b8 I=>?_);have aB:=ca aT;have c0:aq.cell? ⟨w.heap.size,0+0,none⟩=some (.slice ap p.length cp):=aF aE rfl;have bM:aq.cell? ⟨w.heap.size,0+1,none⟩=some (.int .i64 (size:Nat)):=aF aE rfl;have c2:aq.cell? ⟨w.heap.size,0+2,none⟩=some (.int .i64 (slots:Nat)):=aF aE rfl;revert a;(repeat first|refine ag ?_|refine J (af c0) ?_|refine J (af bM) ?_|refine J (af c2) ?_);intro a I;refine aQ I (akg aq (bF.below aB) p aW (cj.below aB) hlen size slots bT eC gi) λa v ax ab I=>?_;obtain⟨⟨ay,c,rfl,U,ae,aM⟩,aC⟩:=ab;revert a;refine ad λa I=>?_;exact eI I rfl rfl rfl ⟨⟨ay,c,rfl,U,ae,aM⟩,aB.trans (aC.mono aB.size)⟩
theorem L4{l:List (Nat × Value)}{x y:Operand}{t' ty:TypeId}{u v:Ins}{b:Bool}(hb:(!kn u.cells v.cells)=b)(hx:a7 l x (.agg u.cells.toArray):=by exact rfl)(aO:a7 l y (.agg v.cells.toArray):=by exact rfl):bL prog l w (.binOp .neq 66 x y t') ty (.bool b) w:=by
 subst hb;exact HZ WT (JH _) (JH _) hx aO rfl
theorem aiR(w:World)(p q:List Ins){cp cq:Nat}(cj:dA w ap 5 Ins.cells p)(j5:dA w ki 5 Ins.cells q)(u9:p.length<=16384)(w5:q.length<=16384):bd prog 33 [.slice ap p.length cp,.slice ki q.length cq].toArray w (λv w'=>v=.bool (decide (p=q))/\Below w.heap.size w w'):=by
 refine dP func33 rfl 24 rfl 26 rfl (λa I=>?_);by_cases aN:p.length=q.length
 · have tD:(p.length:Int)=(q.length:Int):=bj
   revert a;refine ad λa I=>?_;refine eg (λk a wr=>∃(i:Nat),i<=p.length/\k=p.length - i/\Fr 26 [(0,.slice ap p.length cp),(1,.slice ki q.length cq),(12,.int .i64 (p.length:Nat)),(13,.int .i64 (i:Nat))] a/\p.take i=q.take i/\Below w.heap.size w wr) p.length ⟨0,auc _,rfl,I.bb,rfl,atL _ _⟩ ?_;clear I;rintro k a wr ⟨i,ai,rfl,I,he,hb⟩;by_cases bu:i<p.length
   · obtain⟨g,o,rfl,av⟩:=(cj.below hb) i bu;obtain⟨jx,my,rfl,jJ⟩:=(j5.below hb) i bj;have Gb:=auP bu;have OQ:q.take (i+1)=q.take i++ [q[i]'bj]:=auP bj;generalize p[i]=x at av Gb;generalize q[i]'bj=y at jJ OQ;replace av:∀j v,x.cells.toArray[j]? =some v->wr.cell? ⟨g,o+i*5+j,none⟩=some v:=λj v ah=>av j v (by simpa using ah);replace jJ:∀j v,y.cells.toArray[j]? =some v->wr.cell? ⟨jx,my+i*5+j,none⟩=some v:=λj v ah=>jJ j v (by simpa using ah);by_cases JB:x=y
     · have b5:(!kn x.cells y.cells)=false:=by rw [JG,aur JB];rfl
       revert a;(repeat first|refine ag ?_|refine ck (λak ar=>dq (j:=i)) ?_|refine ck (λak ar=>bJ (by obtain⟨n,rfl⟩:=ar;exact av)) ?_|refine ck (λak ar=>bJ (by obtain⟨n,rfl⟩:=ar;exact jJ)) ?_|refine ck (λak ar=>L4 (u:=x) (v:=y) b5) ?_|refine λ(_:Nat)=>?_);intros;rename_i g' a I;exact⟨p.length - (i+1),bj,i+1,bj,rfl,I.bb,by rw [Gb,OQ,he,JB],hb.trans (cP.below ⟨_,rfl⟩ _)⟩
     · have b5:(!kn x.cells y.cells)=true:=by rw [JG,auk JB];rfl
       revert a;(repeat first|refine ag ?_|refine ck (λak ar=>dq (j:=i)) ?_|refine ck (λak ar=>bJ (by obtain⟨n,rfl⟩:=ar;exact av)) ?_|refine ck (λak ar=>bJ (by obtain⟨n,rfl⟩:=ar;exact jJ)) ?_|refine ck (λak ar=>L4 (u:=x) (v:=y) b5) ?_|refine λ(_:Nat)=>?_);intros;rename_i g' a I;refine bc I rfl rfl ⟨?_,hb.trans (cP.below ⟨_,rfl⟩ _)⟩;rw [auk (λe=>JB (by
        rw [e]at Gb;rw [OQ]at Gb;have:=List.append_inj_right' Gb rfl;injection this with this
        exact this.symm))]
   · obtain rfl:i=p.length:=bj
     revert a;refine ad λa I=>?_;refine bc I rfl rfl ⟨?_,hb⟩;rw [aur (by rw [av0,aN,av0]at he;exact he)]
 · have tD:¬(p.length:Int)=(q.length:Int):=bj
   revert a;refine ad λa I=>?_;exact bc I rfl rfl ⟨by rw [auk (λe=>aN (by rw [e]))],atL _ _⟩
theorem adV{f:Fd}{z y:Ins}{aa r:List Nat}(bA:fc z)(aH:∀c∈aa,c<256)(h:iq z aa f=some (y,r)):fc y/\∀c∈r,c<256:=by
 obtain⟨dL,z2,z3,z4,z5⟩:=bA;have F4:∀v nP,jm aa 0=some (v,nP)->v<2^64/\∀c∈nP,c<256:=λv nP h=>by
  obtain⟨U,ae,_⟩:=DF aa 0 v nP aH h;exact⟨by simpa using ae,λc av=>aH c (by rw [U];exact avt _ av)⟩
 cases f with
 |sm g bq ai=>
  cases aa with
  |nil=>cases h
  |cons c q=>
   obtain⟨rfl,rfl⟩:=aw' (aud h);have av:=aH c auy;refine⟨?_,λd aI=>aH d (at0 _ aI)⟩;cases g
   · exact⟨dL,by show c<_;omega,z3,z4,z5⟩
   · exact⟨dL,z2,by show c<_;omega,z4,z5⟩
   · exact⟨dL,z2,z3,by show c<_;omega,z5⟩
 |bytes=>
  cases aa with
  |nil=>cases h
  |cons c q=>
   obtain⟨rfl,rfl⟩:=aw' (aud h);have av:=aH c auy;exact⟨⟨dL,z2,z3,by show c<_;omega,z5⟩,λd aI=>aH d (at0 _ aI)⟩
 |skip=>
  simp only [iq,at7]at h;obtain⟨⟨v,nP⟩,U,ae⟩:=h;obtain⟨rfl,rfl⟩:=aw' ae;exact⟨⟨dL,z2,z3,by show min v 16385<_;omega,z5⟩,(F4 _ _ U).2⟩
 |num=>
  simp only [iq,at7]at h;obtain⟨⟨v,nP⟩,U,ae⟩:=h;obtain⟨rfl,rfl⟩:=aw' ae;exact⟨⟨dL,z2,z3,z4,(F4 _ _ U).1⟩,(F4 _ _ U).2⟩
 |sign=>
  simp only [iq,at7]at h;obtain⟨⟨v,nP⟩,U,ae⟩:=h;obtain⟨rfl,rfl⟩:=aw' ae;exact⟨⟨dL,z2,z3,z4,(F4 _ _ U).1⟩,(F4 _ _ U).2⟩
theorem SV:∀(a8:List Fd) {z y:Ins} {aa r:List Nat},fc z->(∀c∈aa,c<256)->k6 z aa a8=some (y,r)->fc y
 | [],z,y,aa,r,bA,_,h=>by obtain⟨rfl,_⟩:=aw' (aud h);exact bA
 |f::a8,z,y,aa,r,bA,aH,h=>by
  rw [k6]at h;cases aI:iq z aa f with
  |none=>rw [aI]at h;cases h
  |some u=>
   obtain⟨zv,nP⟩:=u;rw [aI]at h;obtain⟨U,ae⟩:=adV bA aH aI;exact SV a8 U ae h
theorem Ta(x:Ins)(f:Fd):∀c∈ns x f,c<256:=by
 intro c av;cases f with
 |sm r bq ai=>simp only [ns,avA]at av;rw [av];exact avI _ bk
 |bytes=>simp only [ns,avA]at av;rw [av];exact avI _ bk
 |skip=>exact DG _ c av
 |num=>exact DG _ c av
 |sign=>exact DG _ c av
theorem am1(h:dW x=true):fc x:=by
 obtain⟨a8,dz,_⟩:=nS h;have ft:=tT dz;unfold dW at h;rw [dz]at h;simp only [atP]at h;cases aI:k6 (eQ x.op) (h3 x a8) a8 with
 |none=>rw [aI]at h;cases h.2
 |some u=>
  obtain⟨y,r⟩:=u;rw [aI]at h;have he:=auo h.2;rw [<-he];refine SV a8 ⟨by show x.op<_;omega,by show 0<_;decide,by show 0<_;decide,by show 0<_;decide,by show 0<_;decide⟩ (λc av=>?_) aI;obtain⟨f,_,bC⟩:=awa.1 av;exact Ta x f c bC
theorem D3{size:Nat}{p:List Ins}(h:hG size slots p=true):∀x∈p,fc x:=λx hx=>by
 obtain⟨i,ai,rfl⟩:=avh hx;exact am1 (rM (rP.1 h).1 i ai).1
theorem KZ{size:Nat}{p:List Ins}(h:hG size slots p=true):∀x∈p,x.bK<2^64:=λx hx=>(D3 h x hx).bK
theorem ac1(p:List Ins):oS p<=p.length:=by
 unfold oS;exact List.countP_le_length
def oA(p:List Ins):Nat:=p.length*(p.length+1)+oS p
structure l7(size slots:Nat)(p q:List Ins):Prop where
 vR:hG size slots q=true
 len:q.length<=p.length
 run:∀aV s k cS,(∀v∈aV,v<2^64)->jb size slots s->gG (da aV q s cS)=gG (da aV p s k)
 less:q=p\/oA q<oA p
theorem Xp{p q:List Ins}(h:q.length<p.length):oA q<oA p:=by
 have U:=ac1 q;unfold oA;have:q.length*(q.length+1)+q.length<p.length*(p.length+1):=by
  have ae:q.length*(q.length+1)<=q.length*(p.length+1):=Nat.mul_le_mul_left _ bj;have aM:q.length*(p.length+1)+(p.length+1)<=p.length*(p.length+1):=by
   rw [<-Nat.succ_mul];exact avy _ bj
  omega
 omega
theorem al8{size:Nat}(bT:size<=8){p:List Ins}(kT:p.length<=16384)(h:hG size slots p=true):l7 size slots p (uM p):=by
 obtain⟨U,ae,aM⟩:=aeY bT kT (KZ h) h;refine⟨U,?_,ae,?_⟩
 · rcases aM with e|e
   · rw [e];exact atI _
   · exact awO e
 · rcases aM with e|e
   · exact .inl e
   · exact .inr (Xp e)
theorem al6{size:Nat}{p:List Ins}(h:hG size slots p=true):l7 size slots p (uG p):=by
 obtain⟨U,ae,aM⟩:=ad7 (KZ h) h;refine⟨U,?_,λaV s k cS _ aH=>ae aV s k cS aH.r,?_⟩
 · rcases aM with e|e
   · rw [e];exact atI _
   · exact awO e
 · rcases aM with e|e
   · exact .inl e
   · exact .inr (Xp e)
theorem al7{size:Nat}{p:List Ins}(h:hG size slots p=true):l7 size slots p (th p):=by
 obtain⟨U,ae,aM,cc⟩:=Tv (KZ h) h;refine⟨U,azH aM,λaV s k cS _ aH=>by rw [ae aV s cS aH.r];exact GR p s cS k,?_⟩;rcases cc with e|e
 · exact .inl e
 · exact .inr (by unfold oA;rw [aM];omega)
theorem l7.trans{size:Nat}{p q r:List Ins}(h:l7 size slots p q)(k:l7 size slots q r):l7 size slots p r:=by
 refine⟨k.vR,atN k.len h.len,λaV s h' lW ai aH=>(k.run aV s h' lW ai aH).trans (h.run aV s h' h' ai aH),?_⟩;rcases h.less with e|e<;>rcases k.less with bf|bf
 · exact .inl (bf.trans e)
 · exact .inr (by rw [<-e];exact bf)
 · exact .inr (by rw [bf];exact e)
 · exact .inr (Nat.lt_trans bf e)
theorem l7.refl{size:Nat}{p:List Ins}(h:hG size slots p=true):l7 size slots p p:=⟨h,atI _,λaV s k cS _ _=>GR p s cS k,.inl rfl⟩
def uK(n:Nat):Value:=.func (.func n) #[] #[]
def A9:List Nat:=[64,65,66]
theorem al'(w:World):bd prog 32 [].toArray w (λv w'=>∃g,v=.slice (some ⟨g,0,none⟩) 3 3/\ee w' (some ⟨g,0,none⟩) uK A9/\Below w.heap.size w w'):=by
 refine yd func32 rfl 2 rfl 2 rfl (λa I=>?_);revert a;refine ad λa I=>?_;refine G9 I uK A9 [(0,uK 64),(1,uK 65),(2,uK 66)] (aA _ _ rfl) ai' rfl bh ⟨rfl,rfl,rfl,rfl,rfl,rfl,trivial⟩ (k:=λa aq an hb ab I=>?_);revert a;refine ad λa I=>?_;exact bc I rfl rfl ⟨_,rfl,ab,hb⟩
theorem al9(w:World)(bF:Env w)(p:List Ins){cp:Nat}(od:oO ap)(kS:p.length<=cp)(cj:dA w ap 5 Ins.cells p)(hlen:p.length<=16384)(size slots:Nat)(bT:size<=8)(eC:slots<=64)(gi:hG size slots p=true)(i:Nat)(ai:i<3):∃q,l7 size slots p q/\kD prog (uK (A9[i]'ai)) [.agg (ox ap p.length cp size slots)] w (λv w'=>Ec w w' q v):=by
 have aW:=D3 gi
 match i,ai with
 | 0,_=>exact⟨_,al7 gi,_,#[],#[],rfl,acy,ajq w bF p aW od cj hlen size slots bT eC gi⟩
 | 1,_=>exact⟨_,al8 bT hlen gi,_,#[],#[],rfl,acz,ajr w bF p aW cj kS hlen size slots bT eC gi⟩
 | 2,_=>exact⟨_,al6 gi,_,#[],#[],rfl,acA,ajp w bF p aW cj hlen size slots bT eC gi⟩
theorem S2{w':World}{py:Nat}{gP:Option Addr}{n c size:Nat}(an:w.grownBy w' (some py))(az:w.heap[py]? =some (.cells (ox gP n c size slots) 92 (0,0))):
   (∀(q:List Ins) (ay:Option Addr),dA w ay 5 Ins.cells q->dA w' ay 5 Ins.cells q)/\(∀gs,ee w (some ⟨gs,0,none⟩) uK A9->ee w' (some ⟨gs,0,none⟩) uK A9):=by
 have Vl:∀(b o:Nat) (v:Value),b≠py->w.cell? ⟨b,o,none⟩=some v->w'.cell? ⟨b,o,none⟩=some v:=λb o v b5 av=>by
   have bu:=aui w _ av;have he:=an.block b bu (by simpa using b5);unfold World.cell? at av ⊢;simp only [he]at av ⊢;exact av
 refine⟨λq ay h i ai=>?_,λgs h i ai=>?_⟩
 · obtain⟨b,o,ha,av⟩:=h i ai;have b5:b≠py:=by
    rintro rfl;have cc:=av 4 (.int .u64 (q[i].bK:Nat)) rfl;unfold World.cell? at cc;simp [az,ox]at cc
   exact⟨b,o,ha,λj v ah=>Vl _ _ _ b5 (av j v ah)⟩
 · obtain⟨b,o,ha,av⟩:=h i ai;have b5:gs≠py:=by
    rintro rfl;obtain⟨b,o,e,aJ⟩:=h 0 bk;injection e with e;injection e with bw bf;subst bw;subst bf
    have U:w.cell? ⟨gs,0+0,none⟩=some (.slice gP n c):=aF az rfl;rw [U]at aJ;cases aJ
   injection ha with e;injection e with bw bf;subst bw;subst bf
   exact⟨_,_,rfl,Vl _ _ _ b5 av⟩
theorem PV(w:World)(bF:Env w)(p:List Ins)(aW:∀x∈p,fc x){cp:Nat}(od:oO ap)(cj:dA w ap 5 Ins.cells p)(hlen:p.length<=16384)(size slots:Nat)(bT:size<=8)(eC:slots<=64)(gi:hG size slots p=true):bd prog 12 [.slice ap p.length cp,.int .i64 (size:Nat),.int .i64 (slots:Nat)].toArray w (λv w'=>∃q,l7 size slots p q/\Ec w w' q v):=by
 refine mf func12 rfl 53 rfl 56 rfl (λa I=>?_);revert a;refine ad λa I=>?_;refine aQ I (Bt w bF p aW cj hlen size slots bT eC) λa v aq ab I=>?_;obtain⟨⟨_,rfl⟩|⟨mN,_⟩,aB⟩:=ab
 case inr=>rw [gi]at mN;cases mN
 revert a;refine ad λa I=>?_;refine aQ I (WD aq p od (cj.below aB) hlen) λa v ax ab I=>?_;obtain⟨aZ,aC⟩:=ab;have pL:∃gP c,v=.slice gP p.length c/\oO gP/\p.length<=c/\dA ax gP 5 Ins.cells p:=by
  rcases aZ with ⟨rfl,aJ⟩|⟨g,c,rest,rfl,U,ae,aM⟩
  · exact⟨none,0,by rw [aJ];rfl,(λa h=>by cases h),by rw [aJ];exact atI _,by rw [aJ];exact λi ai=>(by cases ai)⟩
  · exact⟨_,c,rfl,(λa h=>by cases h;exact⟨_,_,rfl⟩),ae,aM.rd⟩
 obtain⟨gP,c,rfl,tG,sB,j5⟩:=pL;clear aZ;have dK:=aB.trans (aC.mono aB.size);revert a;(repeat first|refine ag ?_|refine J (cA (vs:=[(0,.slice gP p.length c),(1,.int .i64 (size:Nat)),(2,.int .i64 (slots:Nat))]) (cells:=ox gP p.length c size slots) bh ⟨rfl,rfl,rfl,rfl,rfl,rfl,trivial⟩) ?_);intro a I;refine b6 I ai9 λa a6 bR bz eE I=>?_
 skip
 refine cE I (cs:=ox gP p.length c size slots) bR (by intro v ao;simp [ox]at ao;rcases ao with rfl|rfl|rfl<;>rfl) λa bZ bX bD eY I=>?_;have nv:=(ca bz).grown bD (ca bz).size (λk au=>by cases au;exact atI _);have b7:=dK.trans (nv.mono dK.size);replace j5:=j5.below nv;have Vb:=dK.size;generalize ax.heap.size=py at*;clear aB aC dK nv bR bz bD;revert a;refine ad λa I=>?_;refine eg (λk a wr=>∃(q:List Ins) (gP:Option Addr) (c:Nat) (i':Bool),k=(if i'=true then oA q+1 else 0)/\Fr 56 [(9,.pointer (some ⟨py,0,none⟩)),(10,.bool i')] a/\l7 size slots p q/\oO gP/\q.length<=c/\dA wr gP 5 Ins.cells q/\wr.heap[py]? =some (.cells (ox gP q.length c size slots) 92 (0,0))/\Below w.heap.size w wr) (oA p+1)
  ⟨p,gP,c,true,rfl,I.bb,l7.refl gi,tG,sB,j5,bX,b7⟩ ?_
 clear I tG sB j5 bX b7;rintro k a wr ⟨q,gP,c,i',rfl,I,sg,tG,sB,j5,az,hb⟩;cases i' with
 |false=>
  have c0:wr.cell? ⟨py,0+0,none⟩=some (.slice gP q.length c):=aF az rfl;revert a;(repeat first|refine ag ?_|refine J (af c0) ?_);intro a I;exact eI I rfl rfl rfl ⟨q,sg,⟨gP,c,rfl,tG,sB,j5⟩,hb⟩
 |true=>
  rw [atM rfl];revert a;refine ad λa I=>?_;refine aQ I (al' wr) λa v bN ab I=>?_;obtain⟨gs,rfl,bS,cx⟩:=ab;revert a;refine ad λa I=>?_;refine eg (λk a cm=>∃(i:Nat) (eL:List Ins) (gP:Option Addr) (c:Nat) (i':Bool),i<=3/\k=3- i/\Fr 56 [(9,.pointer (some ⟨py,0,none⟩)),(10,.bool i'),(28,.slice (some ⟨gs,0,none⟩) 3 3),(29,.int .i64 3),(30,.int .i64 (i:Nat))] a/\l7 size slots q eL/\(i'=true->oA eL<oA q)/\oO gP/\eL.length<=c/\dA cm gP 5 Ins.cells eL/\cm.heap[py]? =some (.cells (ox gP eL.length c size slots) 92 (0,0))/\ee cm (some ⟨gs,0,none⟩) uK A9/\Below w.heap.size w cm) 3
    ⟨0,q,gP,c,false,bj,rfl,I.bb,l7.refl sg.vR,(λh=>by cases h),tG,sB,j5.below cx,(cx.block _ (bO az)).trans az,bS,hb.trans (cx.mono hb.size)⟩ ?_
  clear I tG sB j5 az hb bS cx gP c;rintro k a cm ⟨i,eL,gP,c,i',ai,rfl,I,Cj,We,tG,sB,j5,az,bS,hb⟩;by_cases bu:i<3
  · have Ji:(i:Int) <3:=bj
    have ve:=atN Cj.len (atN sg.len hlen);obtain⟨kd,wP,agD⟩:=al9 cm (bF.below hb) eL tG sB j5 ve size slots bT eC Cj.vR i bu;have No:cm.cell? ⟨gs,0+i,none⟩=some (uK (A9[i]'bu)):=by
     obtain⟨b,o,e,av⟩:=bS i bu;injection e with e;injection e with bw bf;subst bw;subst bf;exact av
    have ag7:∀j v,(ox gP eL.length c size slots)[j]? =some v->cm.cell? ⟨py,0+j,none⟩=some v:=λj v ah=>aF az (by rw [aub];exact ah);revert a;(repeat first|refine ag ?_|refine J (im underlying95 No) ?_|refine J (bJ ag7) ?_);intro a I;refine iZ I agD ⟨rfl,trivial⟩ (k:=λa v bQ ab I=>?_);obtain⟨⟨Ds,c2,rfl,VO,VP,M9⟩,bP⟩:=ab;have cI:=(bP.block _ (bO az)).trans az;have Ur:=bS.below bP;have af6:=j5.below bP;have oZ:=hb.trans (bP.mono hb.size);have abC:bQ.cell? ⟨py,0+0,none⟩=some (.slice gP eL.length c):=aF cI rfl;have ahV:=atN wP.len ve;have ez:oA eL<=oA q:=by
     rcases Cj.less with e|e
     · rw [e];exact atI _
     · exact awO e
    have iF:oA kd<=oA eL:=by
     rcases wP.less with e|e
     · rw [e];exact atI _
     · exact awO e
    cases i' with
    |true=>
     have w5:=We rfl;revert a;refine ad λa I=>?_;refine cr I (aw _ _ rfl) cI (i:=0+0) (by show 0+0<3;decide) rfl rfl rfl (k:=λa cD en bE hl I=>?_);have NM:cD.heap[py]? =some (.cells (ox Ds kd.length c2 size slots) 92 (0,0)):=en;have c':=oZ.grown bE oZ.size (λk au=>by cases au;exact Vb);have Fi:=S2 bE cI;revert a;refine ad λa I=>?_;exact⟨3- (i+1),bj,i+1,kd,Ds,c2,true,bj,rfl,I.bb,Cj.trans wP,λ_=>by omega,VO,VP,Fi.1 kd Ds M9,NM,Fi.2 gs Ur,c'⟩
    |false=>
     revert a;(repeat first|refine ag ?_|refine J (af abC) ?_);intro a I;refine ig I (aiR bQ kd eL M9 af6 ahV ve) acn ⟨rfl,rfl,trivial⟩ (k:=λa v bt ab I=>?_);obtain⟨rfl,b2⟩:=ab;have c8:=(b2.block _ (bO cI)).trans cI;have o0:=oZ.trans (b2.mono oZ.size);have ahi:(!decide (kd=eL))=true->oA kd<oA q:=λh=>by
       rcases wP.less with e|e
       · rw [aur e]at h;cases h
       · omega
     revert a;refine ad λa I=>?_;refine cr I (aw _ _ rfl) c8 (i:=0+0) (by show 0+0<3;decide) rfl rfl rfl (k:=λa cD en bE hl I=>?_);have NM:cD.heap[py]? =some (.cells (ox Ds kd.length c2 size slots) 92 (0,0)):=en;have c':=o0.grown bE o0.size (λk au=>by cases au;exact Vb);have Fi:=S2 bE c8;revert a;refine ad λa I=>?_;exact⟨3- (i+1),bj,i+1,kd,Ds,c2,_,bj,rfl,I.bb,Cj.trans wP,ahi,VO,VP,Fi.1 kd Ds (M9.below b2),NM,Fi.2 gs (Ur.below b2),c'⟩
  · obtain rfl:i=3:=bj
    revert a;refine ad λa I=>?_;refine⟨if i'=true then oA eL+1 else 0,?_,eL,gP,c,i',rfl,I.bb,sg.trans Cj,tG,sB,j5,az,hb⟩;cases i' with
    |false=>simp
    |true=>have:=We rfl;simp;omega
theorem ame(w:World)(k n:Int)(U:1<=n)(ae:n<=4611686018427387904):
   bd prog 24 #[.int .i64 k,.int .i64 n] w (λv w'=>v=.int .i64 (k%n)/\w'=w):=by
 have du:=ax6 k (show n≠0 by omega);have fk:=axr k (show 0<n by omega);by_cases au:0<=k
 · refine dP func24 rfl 14 rfl 16 rfl (λa I=>?_);revert a;refine ad λa I=>?_;exact bc I rfl rfl ⟨rfl,rfl⟩
 · have bw:k.tmod n= -((-k)%n):=by
     rw [<-ayb bj,Int.neg_tmod];simp
   have c0:=ax6 (-k) (show n≠0 by omega);have bM:=axr (-k) (show 0<n by omega);have c2:=Int.emod_add_mul_ediv (-k) n;by_cases aj:(-k)%n=0
   · have bf:k%n=k.tmod n:=S9 (q:= -((-k)/n)) bj bj (by rw [Int.mul_neg];omega);have dj:k.tmod n=0:=bj
     clear du fk c2;refine dP func24 rfl 14 rfl 16 rfl (λa I=>?_);revert a;(repeat first|refine ag ?_|refine J (SJ (h:=by omega)) ?_);intro a I;exact bc I rfl rfl ⟨by rw [bf],rfl⟩
   · have bf:k%n=k.tmod n+n:=S9 (q:= -((-k)/n)- 1) bj bj (by rw [Int.mul_sub,Int.mul_neg];omega);have dj:k.tmod n<0/\ -4611686018427387904<k.tmod n:=bj
     clear du fk c2;refine dP func24 rfl 14 rfl 16 rfl (λa I=>?_);revert a;(repeat first|refine ag ?_|refine J (SJ (h:=by omega)) ?_);intro a I;exact bc I rfl rfl ⟨by rw [bf],rfl⟩
theorem aat(w:World)(k n:Int)(U:1<=n)(ae:n<=4611686018427387904):bd prog 8 [.int .i64 k,.int .i64 n].toArray w (λv w'=>v=.int .i64 (k%n)/\w'=w):=by
 refine dP func8 rfl 6 rfl 8 rfl (λa I=>?_);revert a;refine ad λa I=>?_;refine aQ I (ame w k n U ae) λa v aq ab I=>?_;obtain⟨rfl,hw⟩:=ab;revert a;refine ad λa I=>?_;exact bc I rfl rfl ⟨rfl,hw⟩
def rI(p:List Nat)(n:Nat):List Nat:=(List.range n).map λi=>p[i]?.getD 0
theorem Ys(p:List Nat)(n:Nat):(rI p n).length=n:=by simp [rI]
theorem Kb(p:List Nat)(n:Nat):rI p (n+1)=rI p n++ [p[n]?.getD 0]:=by simp [rI,List.range_succ]
theorem apd(w:World)(p:List Nat){cp:Nat}(cj:ee w ap ek p)(u9:p.length<=9223372036854775807)(n:Nat)(ba:n<=64):bd prog 9 [.slice ap p.length cp,.int .i64 (n:Nat)].toArray w (λv w'=>(∃ay c,v=.slice ay n c/\ee w' ay ek (rI p n))/\Below w.heap.size w w'):=by
 refine dP func9 rfl 24 rfl 26 rfl (λa I=>?_);revert a;refine ad λa I=>?_;refine eg (λq a wr=>∃(i:Nat) (ay:Option Addr) (c:Nat),i<=n/\q=n - i/\Fr 26 [(0,.slice ap p.length cp),(1,.int .i64 (n:Nat)),(5,.slice ay i c),(6,.int .i64 (i:Nat))] a/\wr.ownsRow w.heap.size 5 1 (.slice ay i c) i ((rI p i).map ek)/\Below w.heap.size w wr) n
   ⟨0,none,0,auc _,rfl,I.bb,auH w w.heap.size _ _,atL _ _⟩ ?_
 clear I;rintro q a wr ⟨i,ay,c,ai,rfl,I,aX,hb⟩;by_cases bu:i<n
 · have Ji:(i:Int) <(n:Int):=bj
   by_cases u6:i<p.length
   · have NV:(i:Int) <(p.length:Int):=bj
     obtain⟨g,o,rfl,av⟩:=(cj.below hb) i u6;have e:p[i]?.getD 0=p[i]:=by rw [atT u6];rfl
     simp only [ek]at av;revert a;(repeat first|refine ag ?_|refine J (af av) ?_);intro a I;refine vJ I (aA _ _ rfl) mT rfl aX bj bn hb.size (k:=λa eM fr ax eR an I=>?_);revert a;refine ad λa I=>?_;exact⟨n - (i+1),bj,i+1,eM,fr,bj,rfl,I.bb,by rw [Kb,e,awP];exact eR,j0 hb hb.size aX an⟩
   · have NV:¬(i:Int) <(p.length:Int):=bj
     have e:p[i]?.getD 0=0:=by rw [avf bj];rfl
     revert a;refine ad λa I=>?_;refine vJ I (aA _ _ rfl) mT rfl aX bj bn hb.size (k:=λa eM fr ax eR an I=>?_);revert a;refine ad λa I=>?_;exact⟨n - (i+1),bj,i+1,eM,fr,bj,rfl,I.bb,by rw [Kb,e,awP];exact eR,j0 hb hb.size aX an⟩
 · obtain rfl:i=n:=bj
   revert a;refine ad λa I=>?_;exact bc I rfl rfl ⟨⟨ay,c,rfl,(nL aX).2⟩,hb⟩
theorem QV(w:World)(xs:List Nat){a2:Option Addr}{bM c2:Nat}(U:ee w e6 ek xs)(ae:ee w a2 ek xs)(hb:xs.length<=9223372036854775807):
   bd prog 7 [.slice e6 xs.length bM,.slice a2 xs.length c2].toArray w (λv w'=>v=.bool true/\Below w.heap.size w w'):=by
 refine dP func7 rfl 24 rfl 26 rfl (λa I=>?_);revert a;refine ad λa I=>?_;refine eg (λn a w'=>∃k,k<=xs.length/\n=xs.length - k/\Fr 26 [(0,.slice e6 xs.length bM),(1,.slice a2 xs.length c2),(5,.int .i64 (k:Nat))] a/\Below w.heap.size w w') xs.length
   ⟨0,bj,rfl,I.bb,atL _ _⟩ ?_
 clear I a;rintro n a w' ⟨k,au,rfl,I,gU⟩;by_cases bu:k<xs.length
 · obtain⟨fk,vy,rfl,ri⟩:=(U.below gU) k bu;obtain⟨hM,kb,rfl,kq⟩:=(ae.below gU) k bu;simp only [ek]at ri kq;revert a;(repeat first|refine ag ?_|refine ck (λak ar=>ea ar ri) ?_|refine ck (λak ar=>ea ar kq) ?_|refine λ(_:Nat)=>?_);intros;rename_i g' a I;exact⟨xs.length - (k+1),bj,k+1,bj,rfl,I.bb,gU.trans (cP.below ⟨_,rfl⟩ _)⟩
 · revert a;refine ad λa I=>?_;exact bc I rfl rfl ⟨rfl,gU⟩
theorem api(w:World)(xs:List Bool){a2:Option Addr}{bM c2:Nat}(U:ee w e6 Value.bool xs)(ae:ee w a2 Value.bool xs)(hb:xs.length<=9223372036854775807):
   bd prog 34 [.slice e6 xs.length bM,.slice a2 xs.length c2].toArray w (λv w'=>v=.bool true/\Below w.heap.size w w'):=by
 refine dP func34 rfl 24 rfl 26 rfl (λa I=>?_);revert a;refine ad λa I=>?_;refine eg (λn a w'=>∃k,k<=xs.length/\n=xs.length - k/\Fr 26 [(0,.slice e6 xs.length bM),(1,.slice a2 xs.length c2),(5,.int .i64 (k:Nat))] a/\Below w.heap.size w w') xs.length
   ⟨0,bj,rfl,I.bb,atL _ _⟩ ?_
 clear I a;rintro n a w' ⟨k,au,rfl,I,gU⟩;by_cases bu:k<xs.length
 · obtain⟨fk,vy,rfl,ri⟩:=(U.below gU) k bu;obtain⟨hM,kb,rfl,kq⟩:=(ae.below gU) k bu;generalize xs[k]=b at ri kq;cases b<;>
   ( (revert a;(repeat first|refine ag ?_|refine ck (λak ar=>ea ar ri) ?_|refine ck (λak ar=>ea ar kq) ?_|refine λ(_:Nat)=>?_);intros;rename_i g' a I)
     exact⟨xs.length - (k+1),bj,k+1,bj,rfl,I.bb,gU.trans (cP.below ⟨_,rfl⟩ _)⟩)
 · revert a;refine ad λa I=>?_;exact bc I rfl rfl ⟨rfl,gU⟩
theorem apj(w:World)(p:List Ins){cp cq:Nat}(cj:dA w ap 5 Ins.cells p)(j5:dA w ki 5 Ins.cells p)(u9:p.length<=16384):bd prog 13 [.slice ap p.length cp,.slice ki p.length cq].toArray w (λv w'=>v=.bool true/\Below w.heap.size w w'):=by
 refine dP func13 rfl 24 rfl 26 rfl (λa I=>?_);revert a;refine ad λa I=>?_;refine eg (λk a wr=>∃(i:Nat),i<=p.length/\k=p.length - i/\Fr 26 [(0,.slice ap p.length cp),(1,.slice ki p.length cq),(5,.int .i64 (i:Nat))] a/\Below w.heap.size w wr) p.length ⟨0,auc _,rfl,I.bb,atL _ _⟩ ?_;clear I;rintro k a wr ⟨i,ai,rfl,I,hb⟩;by_cases bu:i<p.length
 · obtain⟨g,o,rfl,av⟩:=(cj.below hb) i bu;obtain⟨jx,my,rfl,jJ⟩:=(j5.below hb) i bu;generalize p[i]=x at av jJ;replace av:∀j v,x.cells.toArray[j]? =some v->wr.cell? ⟨g,o+i*5+j,none⟩=some v:=λj v ah=>av j v (by simpa using ah);replace jJ:∀j v,x.cells.toArray[j]? =some v->wr.cell? ⟨jx,my+i*5+j,none⟩=some v:=λj v ah=>jJ j v (by simpa using ah);have b5:(!kn x.cells x.cells)=false:=by rw [JG,aur rfl];rfl
   revert a;(repeat first|refine ag ?_|refine ck (λak ar=>dq (j:=i)) ?_|refine ck (λak ar=>bJ (by obtain⟨n,rfl⟩:=ar;exact av)) ?_|refine ck (λak ar=>bJ (by obtain⟨n,rfl⟩:=ar;exact jJ)) ?_|refine ck (λak ar=>L4 (u:=x) (v:=x) b5) ?_|refine λ(_:Nat)=>?_);intros;rename_i g' a I;exact⟨p.length - (i+1),bj,i+1,bj,rfl,I.bb,hb.trans (cP.below ⟨_,rfl⟩ _)⟩
 · revert a;refine ad λa I=>?_;exact bc I rfl rfl ⟨rfl,hb⟩
end
end Go.Proofs.YtnkjmbbddmgjiaaGreatDoor