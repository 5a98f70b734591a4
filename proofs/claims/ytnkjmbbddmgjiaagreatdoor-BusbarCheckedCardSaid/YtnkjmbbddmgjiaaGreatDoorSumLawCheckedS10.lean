import Derived.Test.YtnkjmbbddmgjiaaGreatDoorSumLawCheckedS9
set_option linter.unusedSimpArgs false
set_option linter.unusedVariables false
set_option maxRecDepth 1000000
set_option maxHeartbeats 400000000
namespace Go.Proofs.YtnkjmbbddmgjiaaGreatDoor
open Go.RowKit Go.Proofs.Tryz
variable {y x cz z:Ins}{L:List (Option dp)}{K:dp}{w w':World}{ap:Option Addr}{l:List Bool}{j v slots:Nat}{dh:List eJ}{fv:eJ}{aV:List Nat}{ep:List Ins}{d:Int}{M s0:Nat->Bool}
section
attribute [local irreducible] wpList wpQuiet wpStill Code.wp Exit.then Exit.inBlock bodyPost Calls bL eT
theorem S3(L:List (Option dp))(i m:Nat)(k:dp):(pS L (i+m) k).drop i=pS (L.drop i) m k:=by
 unfold pS;rw [ayM];rw [atK bj,auL,show i+m - i=m by omega]
def q8(y:Ins)(L:List (Option dp))(i:Nat)(k:dp):List (Option dp):=if fs y=true then pS L (i+1) k else L
def s8(y:Ins)(L:List (Option dp))(i:Nat)(k:dp):List (Option dp):=if dx y=true then pS (q8 y L i k) (i+1+y.n) k else q8 y L i k
theorem abn(y:Ins)(L:List (Option dp))(i:Nat)(k:dp):(s8 y L i k).drop (i+1)=qJ y (L.drop (i+1)) k:=by
 have bC:(q8 y L i k).drop (i+1)=if fs y=true then pS (L.drop (i+1)) 0 k else L.drop (i+1):=by
   unfold q8;split
   · exact S3 L (i+1) 0 k
   · rfl
 unfold s8 qJ;dsimp only;split
 · rw [S3,bC]
 · exact bC
theorem Tl(y:Ins)(L:List (Option dp))(i:Nat)(k:dp):(q8 y L i k).length=L.length:=by unfold q8;split<;>simp [JV]
theorem abm(y:Ins)(L:List (Option dp))(i:Nat)(k:dp):(s8 y L i k).length=L.length:=by unfold s8;split<;>simp [JV,Tl]
theorem Tk{i:Nat}{k:dp}(h:rS L)(au:qf k):rS (q8 y L i k):=by unfold q8;split;exact Gs h au;exact h
theorem abl{i:Nat}{k:dp}(h:rS L)(au:qf k):rS (s8 y L i k):=by unfold s8;split;exact Gs (Tk h au) au;exact Tk h au
theorem abu(h:rT x K y)(hx:fc x)(ft:x.op<20)(cv:qf K):fc y/\y.op<20:=by
 cases h with
 |same=>exact⟨hx,ft⟩
 |const v ao=>exact⟨⟨by show(1:Nat) <2^62;decide,hx.a,by show(0:Nat) <2^62;decide,by show(0:Nat) <2^62;decide,PA ao cv hx.bK⟩,by show(1:Nat) <20;decide⟩
 |pass v U ae aM=>exact⟨⟨by show(18:Nat) <2^62;decide,by show(0:Nat) <2^62;decide,by show(0:Nat) <2^62;decide,hx.n,by show(0:Nat) <2^64;decide⟩,by show(18:Nat) <20;decide⟩
 |stay v U ae aM=>exact⟨⟨by show(18:Nat) <2^62;decide,by show(0:Nat) <2^62;decide,by show(0:Nat) <2^62;decide,by show(0:Nat) <2^62;decide,by show(0:Nat) <2^64;decide⟩,by show(18:Nat) <20;decide⟩
 |fits v U ae aM=>exact⟨⟨by show(18:Nat) <2^62;decide,by show(0:Nat) <2^62;decide,by show(0:Nat) <2^62;decide,by show(0:Nat) <2^62;decide,by show(0:Nat) <2^64;decide⟩,by show(18:Nat) <20;decide⟩
theorem abv{m:Nat}(h:rT x K y)(hx:dx x=true->x.n<=m):dx y=true->y.n<=m:=by
 cases h with
 |same=>exact hx
 |const v ao=>intro ah;cases ah
 |pass v U ae aM=>intro _;exact hx (lj (.inr U))
 |stay v U ae aM=>intro _;exact auc _
 |fits v U ae aM=>intro _;exact auc _
theorem akN{base A m:Nat}(eK:w.heap[A]? =some (.cells (List.replicate m (Value.map none)).toArray 276 (0,0))):jX w base 0 A (List.replicate m none) (List.replicate m none):=by
 have key:∀(j:Nat) (b:Nat),(List.replicate m (none:Option Nat))[j]? ≠some (some b):=λj b h=>by
   rw [au0]at h;split at h<;>cases h
 refine⟨by rw [eK,awc],bl,λj b h=>absurd h (key j b),λj h=>?_,λj k b h=>absurd h (key j b)⟩;rw [au0]at h ⊢;split at h
 · rename_i U;rw [atM U]
 · cases h
theorem DL{p:List Ins}(h:l8 p){i:Nat}(ai:i<p.length):dx p[i]=true->p[i].n<=p.length - i - 1:=by
 have:=h.drop i;rw [aua ai]at this;intro ah;have U:=this.1 ah;rw [atU]at U;omega
theorem aeR(w:World)(bF:Env w)(p:List Ins)(aW:∀x∈p,fc x){cp:Nat}(od:oO ap)(cj:dA w ap 5 Ins.cells p)(hlen:p.length<=16384)(size slots:Nat)(bT:size<=8)(eC:slots<=64)(gi:hG size slots p=true):bd prog 117 [.slice ap p.length cp,.int .i64 (size:Nat),.int .i64 (slots:Nat)].toArray w
   (λv w'=>(∃ay c,v=.tuple #[.slice ay p.length c,.nilIface]/\oO ay/\p.length<=c/\dA w' ay 5 Ins.cells (th p))/\Below w.heap.size w w'):=by
 obtain⟨cT,_⟩:=rP.1 gi;have o2:=sS cT;refine mf func117 rfl 105 rfl 108 rfl (λa I=>?_);revert a;refine ad λa I=>?_;refine aQ I (Bt w bF p aW cj hlen size slots bT eC) λa v aq ab I=>?_;obtain⟨⟨_,rfl⟩|⟨mN,_⟩,aB⟩:=ab
 case inr=>rw [gi]at mN;cases mN
 revert a;refine ad λa I=>?_;refine aQ I (WD aq p od (cj.below aB) hlen) λa v ax ab I=>?_;obtain⟨aZ,aC⟩:=ab;have pL:∃gP c,v=.slice gP p.length c/\oO gP/\p.length<=c/\(0<p.length->∃g rest,gP=some ⟨g,0,none⟩/\aq.heap.size<=g/\hJ ax g rest p):=by
   rcases aZ with ⟨rfl,aJ⟩|⟨g,c,rest,rfl,U,ae,aM⟩
   · exact⟨none,0,by rw [aJ];rfl,(λa h=>by cases h),by rw [aJ];exact atI _,λh=>by rw [aJ]at h;cases h⟩
   · exact⟨_,c,rfl,(λa h=>by cases h;exact⟨_,_,rfl⟩),ae,λ_=>⟨g,rest,rfl,U,aM⟩⟩
 obtain⟨gP,c,rfl,tG,sB,gr⟩:=pL;clear aZ;have dK:=aB.trans (aC.mono aB.size);have lO:((p.length:Nat):Int)+1=((p.length+1:Nat):Int):=bj
 revert a;refine ad λa I=>?_;refine oJ I (aA _ _ rfl) ai3 rfl (c:=p.length+1) (base:=ax.heap.size) bj bn (atI _) lO (k:=λa a6 pK bz I=>?_);have Ix:=vB pK;have a1:=dK.trans ((ca bz).mono dK.size);have afw:=bO Ix;revert a;refine ad λa I=>?_;refine st I (qm (aA _ _ rfl)) rfl (λa I=>?_);have j4:jr (a6.alloc (.map #[] 0)) 0 a6.heap.size AR:=l5.new a6;have bD:a6.grownBy (a6.alloc (.map #[] 0)) none:=auw a6 _ none;have b7:=a1.trans ((ca bD).mono a1.size);have wI:=aD Ix bD bl;have lT:=bD.size;have VY:0<p.length->∃g rest,gP=some ⟨g,0,none⟩/\aq.heap.size<=g/\hJ (a6.alloc (.map #[] 0)) g rest p:=λh=>by
   obtain⟨g,rest,U,ae,aM⟩:=gr h;exact⟨g,rest,U,ae,aD (aD aM bz bl) bD bl⟩
 generalize a6.alloc (.map #[] 0)=bZ at*;revert a;(repeat first|refine ag ?_|refine J (gT (j:=0) rfl rfl rfl bj) ?_);intro a I;refine cr I (aw _ _ rfl) wI (i:=0+0) bl rfl rfl rfl (k:=λa bN bB br dw I=>?_);have bs:jX bN w.heap.size 0 ax.heap.size (some a6.heap.size::List.replicate p.length none) (some AR::List.replicate p.length none):=by
   have aJ:jX bZ w.heap.size 0 ax.heap.size (List.replicate (p.length+1) none) (List.replicate (p.length+1) none):=akN wI;have:=aJ.met (w':=bZ) (w'':=bN) (j:=0) (b':=a6.heap.size) (K':=AR) bl a1.size (awK _ _) bj (λi ai=>by rw [au0]at ai;split at ai<;>cases ai) j4 (by rw [bB,awc]) br;simpa [avR]using this
 have cx:=b7.grown br b7.size (λk au=>by cases au;exact dK.size);have F2:0<p.length->∃g rest,gP=some ⟨g,0,none⟩/\w.heap.size<=g/\hJ bN g rest ([]++p.drop 0):=λh=>by
   obtain⟨g,rest,U,ae,aM⟩:=VY h;exact⟨g,rest,U,by have:=aB.size;omega,by rw [awp,aus];exact aD aM br (by have:=c1 aM wI bk;simpa using this)⟩
 have TX:=dK.size;clear gr VY Ix wI bz bD br bB j4 pK aB aC dK a1 b7;revert a;refine ad λa I=>?_;refine eg (λq a wr=>∃(i:Nat) (L:List (Option dp)) (aa:List (Option Nat)) (done:List Ins),i<=p.length/\q=p.length - i/\Fr 108 [(9,.slice gP p.length c),(10,.slice (some ⟨ax.heap.size,0,none⟩) (p.length+1) (p.length+1)),(31,.int .i64 (p.length:Nat)),(32,.int .i64 (i:Nat))] a/\done.length=i/\th p=done++hj (p.drop i) (L.drop i)/\L.length=p.length+1/\rS L/\jX wr w.heap.size i ax.heap.size aa L/\(0<p.length->∃g rest,gP=some ⟨g,0,none⟩/\w.heap.size<=g/\hJ wr g rest (done++p.drop i))/\Below w.heap.size w wr) p.length
   ⟨0,_,_,[],auc _,rfl,I.bb,rfl,by simp [th],bl,(λK cv=>by
     rcases au1.1 cv with h|h
     · injection h with h;subst h;intro r v ao;cases ao
     · cases awq h),bs,F2,cx⟩ ?_
 clear I bs cx F2;rintro q a wr ⟨i,L,aa,done,ai,rfl,I,tv,so,IG,M4,bs,gr,hb⟩;by_cases bu:i<p.length
 · obtain⟨g,rest,rfl,sr,ab⟩:=gr bj;have I5:=bs.len.trans IG;have hx:=aW _ (at6 bu);obtain⟨aj,-⟩:=rM cT i bu;have j9:=DL o2 bu;have Ah:aa[i]? =some aa[i]:=atT bj;have pr:=bs.cell Ah;rw [aua bu]at so ab;generalize p[i]=x at so ab hx aj j9;have ft:x.op<20:=by obtain⟨a8,dz,_⟩:=nS aj;exact tT dz
   have Ub:(L.drop i).tail=L.drop (i+1):=bl
   have IE:(L.drop i)[0]? =L[i]? :=by rw [auL,avo]
   rw [hj]at so;generalize arp:aa[i]=s7 at Ah pr;cases s7 with
   |none=>
     have Ua:=bs.J1 i Ah;have bw:rD x (L.drop i)=x:=by unfold rD;rw [IE,Ua];rfl
     have bf:ix x (L.drop i)=L.drop (i+1):=by unfold ix;rw [IE,Ua,<-Ub];rfl
     rw [bw,bf]at so;revert a;(repeat first|refine ag ?_|refine J (HY (aA _ _ rfl)) ?_|refine J (af pr) ?_);intro a I;exact⟨p.length - (i+1),bj,i+1,L,aa,done++ [x],bj,rfl,I.bb,by simp [tv],by rw [so];simp,IG,M4,bs.more bj,λ_=>⟨g,rest,rfl,sr,by simpa using ab⟩,hb⟩
   |some du=>
     obtain⟨kQ,K,IF,cv⟩:=bs.wD i du Ah;have yl:=M4 K (auF IF);have bw:rD x (L.drop i)=h0 x K:=by unfold rD;rw [IE,IF];rfl
     have bf:ix x (L.drop i)=qJ (h0 x K) (L.drop (i+1)) (mH (h0 x K) K):=by unfold ix;rw [IE,IF,Ub];rfl
     rw [bw,bf,<-abn]at so;have UP:=BP x K;revert a;(repeat first|(intro a I;(refine gJ (λak:World=>ak.heap[ax.heap.size]? =wr.heap[ax.heap.size]?) [(0,true),(1,true),(2,true),(3,true),(4,true),(6,true),(7,true),(8,true),(9,true),(5,false),(10,false),(11,true),(12,false)] 11 mixed bh rfl ?_;simp only [fF,atZ,at1,aug,atS,atO]);revert a)|refine ag ?_|refine J (HY (aA _ _ rfl)) ?_|refine J (af pr) ?_);intro a I;have Us:∀ak:World,ak.heap[ax.heap.size]? =wr.heap[ax.heap.size]? ->ak.cell? ⟨ax.heap.size,0+i,none⟩=some (.map (some du)):=λak h=>aF (h.trans bs.fV) (by rw [aub];simp [Ah]);revert a;(repeat first|refine e3 ?_|refine cB (λak ar=>dq (j:=i)) ?_|refine cB (λak ar=>af (Us ak ar)) ?_);intro a I;have CA:=c1 ab bs.fV bk;have NS:i<(done++x::p.drop (i+1)).length:=by simp [tv]
     have Wt:(done++x::p.drop (i+1))[i]=x:=by simp [tv]
     have Fg:∀j v,x.cells.toArray[j]? =some v->(wr.drewN 1).cell? ⟨g,0+i*5+j,none⟩=some v:=λj v ah=>ab.cell NS j v (by rw [Wt];exact ah);refine c7 ?_;refine st I (bJ Fg) rfl (λa I=>atJ ⟨rfl,rfl,?_⟩);refine c7 ?_;have gD:jr (wr.drewN 1) i du K:=cv;refine aQ I (abd (wr.drewN 1) x hx aj gD yl) λa v bQ gF I=>?_;obtain⟨rfl,bP⟩:=gF;have EZ:=(bs.below (cP.below ⟨1,rfl⟩ _)).below bP;have Aa:=hJ.below (w:=wr.drewN 1) ab bP;have oZ:=(hb.trans (cP.below ⟨1,rfl⟩ _)).trans (bP.mono hb.size);refine atJ ⟨rfl,EZ.fV.trans bs.fV.symm,?_⟩;obtain⟨O5,Wx⟩:=abu UP hx ft yl;have vk:=abv UP j9;generalize h0 x K=y at I O5 Wx vk so;revert a;(repeat first|refine e3 ?_|refine cB (λak ar=>dq (j:=i)) ?_);intro a I;refine c7 ?_;have fm:(((done++x::p.drop (i+1)).flatMap Ins.cells)++rest).toArray.size>=0+i*5+5:=by
       have:=AP (done++x::p.drop (i+1));simp only [av4,atV]at this ⊢;rw [atV]at NS;omega
     refine qT I (o:=0+i*5) (cs:=y.cells.toArray) (aw _ _ rfl) rfl fm Aa (ry y) (k:=λa bt c8 cf fZ I=>?_);have IQ:hJ bt g rest (done++y::p.drop (i+1)):=by
       have:=hJ.set (y:=y) NS c8
       rwa [show(done++x::p.drop (i+1)).set i y=done++y::p.drop (i+1) by rw [ay' _ _ bj,tv,ayg];rfl]at this
     have uV:=EZ.cells Aa (λe=>CA e.symm) cf;have b2:=oZ.grown cf oZ.size (λk au=>by cases au;exact sr);refine atJ ⟨rfl,uV.fV.trans bs.fV.symm,?_⟩;refine fj ?_;clear EZ Aa oZ c8 cf fm gD bP Fg Wt ab bs gr;have xi:(done++y::p.drop (i+1))[i]'(by simp [tv])=y:=by simp [tv]
     have tu:=λj v ah=>IQ.cell (i:=i) (by simp [tv]) j v (by rw [xi];exact ah);revert a;(repeat first|refine ag ?_|refine J (dq (j:=i)) ?_|refine J (bJ tu) ?_);intro a I;refine b6 I fK λa cD en bE hl I=>?_;refine cE I (cs:=y.cells.toArray) en (ry y) λa dt dm cG hn I=>?_;have aL:dd bt.heap.size y dt:=dm;have kp:=uV.below (ca bE);have j6:=IQ.below (ca bE);have aq6:=bO uV.fV;have arz:=bO IQ;have sf:=kp.cells en bj cG;have yp:hJ dt g rest (done++y::p.drop (i+1)):=aD j6 cG bm;have c':=b2.trans ((ca bE).mono b2.size);have dT:=c'.grown cG c'.size (λk au=>by cases au;exact b2.size);have IC:jr dt i du K:=by
       obtain⟨_,uo,ae,aM⟩:=sf.wD i du Ah;rw [IF]at ae;injection ae with ae;injection ae with ae;rw [ae];exact aM
     clear en bE dm cG kp j6 c' b2 uV IQ tu;have Ut:∀ak:World,ak.heap[ax.heap.size]? =dt.heap[ax.heap.size]? ->ak.cell? ⟨ax.heap.size,0+i,none⟩=some (.map (some du)):=λak h=>aF (h.trans sf.fV) (by rw [aub];simp [Ah]);revert a;(repeat first|(intro a I;(refine gJ (λak:World=>ak.heap[ax.heap.size]? =dt.heap[ax.heap.size]? /\dd bt.heap.size y ak) [(1,true),(2,true),(3,true),(4,true),(0,true),(5,false),(6,true)] 13 mixed bh ⟨rfl,aL⟩ ?_;simp only [fF,atZ,at1,aug,atS,atO]);revert a)|refine ag ?_);intro a I;revert a;(repeat first|refine e3 ?_|refine cB (λak ar=>bJ ar.2.all) ?_|refine cB (λak ar=>af (Ut ak ar.1)) ?_);intro a I;refine c7 ?_;have T7:jr (dt.drewN 1) i du K:=IC;refine aQ I (aaX (dt.drewN 1) y O5 Wx T7 bn) λa v gw gF I=>?_;obtain⟨rz,rfl,w3,z8,gN⟩:=gF;have wN:=((sf.below (cP.below ⟨1,rfl⟩ _)).below gN).more (Nat.le_succ i);have Ab:=dd.below (w:=dt.drewN 1) aL gN;have Ck:=hJ.below (w:=dt.drewN 1) yp gN;have oY:=(dT.trans (cP.below ⟨1,rfl⟩ _)).trans (gN.mono dT.size);refine atJ ⟨rfl,⟨wN.fV.trans sf.fV.symm,Ab⟩,?_⟩;revert a;refine hH λa I=>?_;refine fj ?_;have CH:∀j:Nat,aa[j]? ≠some (some rz):=λj ah=>by
       obtain⟨_,uo,_,aM⟩:=sf.wD j rz ah;have:=aM.lt;have cc:dt.heap.size<=rz:=w3;omega
     have ag':=RT yl O5.bK;have ark:w.heap.size<=bt.heap.size:=bj
     generalize mH y K=yR at*;clear sf aL yp dT IC T7 gN Ut Us w3 lO;revert a;(repeat first|(intro a I;(refine ma 14 (λa cm=>∃zH,Fr 108 [(9,.slice (some ⟨g,0,none⟩) p.length c),(10,.slice (some ⟨ax.heap.size,0,none⟩) (p.length+1) (p.length+1)),(11,.int .i64 (i:Nat)),(12,.pointer (some ⟨bt.heap.size,0,none⟩)),(13,.map (some rz)),(31,.int .i64 (p.length:Nat)),(32,.int .i64 (i:Nat))] a/\jX cm w.heap.size (i+1) ax.heap.size zH (q8 y L i yR)/\jr cm (i+1) rz yR/\(∀j:Nat,zH[j]? ≠some (some rz))/\dd bt.heap.size y cm/\hJ cm g rest (done++y::p.drop (i+1))/\Below w.heap.size w cm) ?_ ?_);revert a)|refine ag ?_);intro a I
     · refine⟨?_⟩;by_cases bC:fs y=true
       · have yx:y.op≠0/\y.op≠18:=by simpa [fs]using bC
         have Nk:aa[i+1]? =some aa[i+1]:=atT bj;have Lv:=wN.cell Nk;revert a;(repeat first|refine ag ?_|refine J (gT (j:=i+1) rfl rfl bj bj) ?_|refine J (af Ab.op) ?_|refine J (af Lv) ?_);intro a I;refine aQ I (XM wN (j:=i+1) bj z8 CH oY.size) λa v nT gF I=>?_;obtain⟨b',rfl,yu,oe,lN,ks,Cx,MZ⟩:=gF;have Iw:=aD wN.fV ks (by simpa using oe _ _ _ _ wN.fV);revert a;(repeat first|refine ag ?_|refine J (gT (j:=i+1) rfl rfl bj bj) ?_);intro a I;refine cr I (aw _ _ rfl) Iw (i:=0+(i+1)) bm rfl rfl rfl (k:=λa k0 oj om Jt I=>?_);revert a;refine ad λa I=>?_;have aha:=ks.block _ z8.lt (by simpa using lN.symm);have N1:=z8.fV aha (atI _);have gO:=oY.grown ks oY.size (λk au=>by cases au;exact yu);refine⟨aa.set (i+1) (some b'),I.bb,?_,N1.fV (om.block _ N1.lt (by simpa using N1.ne Iw)) (atI _),λj ah=>?_,aD (aD Ab ks (by simpa using oe _ _ _ _ Ab)) om bm,aD (aD Ck ks (by simpa using oe _ _ _ _ Ck)) om (by simpa using CA),gO.grown om gO.size (λk au=>by cases au;exact TX)⟩
         · unfold q8;rw [atM bC];exact wN.met (j:=i+1) bj yu ks (oe _ _ _ _ wN.fV).symm Cx MZ oj om
         · rw [awr]at ah;split at ah
           · split at ah
             · injection ah with ah;injection ah with ah;exact lN ah
             · cases ah
           · exact CH j ah
       · have yx:y.op=0\/y.op=18:=by
           simp only [fs,auI,avp,aup]at bC;omega
         have agR:q8 y L i yR=L:=by unfold q8;rw [atK bC]
         rw [agR];rcases yx with h|h
         all_goals
           revert a;(repeat first|refine ag ?_|refine J (af Ab.op) ?_);intro a I;exact⟨aa,I.bb,wN,z8,CH,Ab,Ck,oY⟩
     clear I wN z8 CH Ab Ck oY;rintro a cm ⟨zH,I,bs,z8,CH,aL,ab,hb⟩;have UQ:zH.length=p.length+1:=by rw [bs.len,Tl,IG]
     have fin:∀(Ls:List (Option Nat)) (wn:World) (a:Act),Fr 108 [(9,.slice (some ⟨g,0,none⟩) p.length c),(10,.slice (some ⟨ax.heap.size,0,none⟩) (p.length+1) (p.length+1)),(31,.int .i64 (p.length:Nat)),(32,.int .i64 ((i:Nat)+1:Int))] a->jX wn w.heap.size (i+1) ax.heap.size Ls (s8 y L i yR)->hJ wn g rest (done++y::p.drop (i+1))->Below w.heap.size w wn->
         ∃sJ,sJ<p.length - i/\∃(je:Nat) (L:List (Option dp)) (aa:List (Option Nat)) (done:List Ins),je<=p.length/\sJ=p.length - je/\Fr 108 [(9,.slice (some ⟨g,0,none⟩) p.length c),(10,.slice (some ⟨ax.heap.size,0,none⟩) (p.length+1) (p.length+1)),(31,.int .i64 (p.length:Nat)),(32,.int .i64 (je:Nat))] a/\done.length=je/\th p=done++hj (p.drop je) (L.drop je)/\L.length=p.length+1/\rS L/\jX wn w.heap.size je ax.heap.size aa L/\(0<p.length->∃jx rest,(some (⟨g,0,none⟩:Addr))=some ⟨jx,0,none⟩/\w.heap.size<=jx/\hJ wn jx rest (done++p.drop je))/\Below w.heap.size w wn:=λLs wn a I bs ab hb=>
       ⟨p.length - (i+1),bj,i+1,s8 y L i yR,Ls,done++ [y],bj,rfl,I,by simp [tv],by rw [so];simp,by rw [abm,IG],abl M4 ag',bs,λ_=>⟨g,rest,rfl,sr,by simpa using ab⟩,hb⟩
     by_cases ah:dx y=true
     · have yz:y.op=18\/y.op=19:=by simpa [dx]using ah
       have Ww:=vk ah;have db:cm.cell? ⟨bt.heap.size,0+3,none⟩=some (.int .i64 (y.n:Nat)):=aF aL rfl;have adi:∀ak:World,dd bt.heap.size y ak->ak.cell? ⟨bt.heap.size,0+3,none⟩=some (.int .i64 (y.n:Nat)):=λak h=>aF h rfl;have Nk:zH[i+1+y.n]? =some zH[i+1+y.n]:=atT bj;have Lv:(cm.drewN 1).cell? ⟨ax.heap.size,0+(i+1+y.n),none⟩=_:=bs.cell Nk;rcases yz with h|h
       all_goals
         revert a;(repeat first|(intro a I;(refine gJ (λak:World=>dd bt.heap.size y ak) [(0,true),(1,true),(2,true),(3,true),(4,true),(5,true),(6,true),(7,true),(8,true),(9,true),(10,true),(11,true),(12,true),(14,true),(13,false),(15,false),(16,true),(17,false)] 17 mixed bh aL ?_;simp only [fF,atZ,at1,aug,atS,atO]);revert a)|refine ag ?_|refine J (af aL.op) ?_);intro a I;revert a;(repeat first|refine e3 ?_|refine cB (λak ar=>gT (j:=i+1+y.n) rfl rfl bj bj) ?_|refine cB (λak ar=>af (adi ak ar)) ?_);intro a I;refine c7 ?_;refine st I (af Lv) rfl (λa I=>atJ ⟨rfl,aL,?_⟩);refine c7 ?_;have afS:jr (cm.drewN 1) (i+1) rz yR:=z8;refine aQ I (XM (bs.below (cP.below ⟨1,rfl⟩ _)) (j:=i+1+y.n) bj afS CH hb.size) λa v nT gF I=>?_;obtain⟨b',rfl,yu,oe,lN,ks,Cx,MZ⟩:=gF;replace ks:=iQ ks;replace oe:∀(g:Nat) (c:Array Value) (e:TypeId) (f:Nat × Nat),cm.heap[g]? =some (.cells c e f)->g≠b':=oe;have Iw:=aD bs.fV ks (by simpa using oe _ _ _ _ bs.fV);have Uz:dd bt.heap.size y nT:=aD aL ks (by simpa using oe _ _ _ _ aL);refine atJ ⟨rfl,Uz,?_⟩;revert a;(repeat first|refine e3 ?_|refine cB (λak ar=>gT (j:=i+1+y.n) rfl rfl bj bj) ?_);intro a I;refine c7 ?_;refine cr I (aw _ _ rfl) Iw (i:=0+(i+1+y.n)) bm rfl rfl rfl (k:=λa k0 oj om Jt I=>?_);refine atJ ⟨rfl,aD Uz om bm,?_⟩;refine fj ?_;have gO:=hb.grown ks hb.size (λk au=>by cases au;exact yu);revert a;refine ad λa I=>?_;refine fin (zH.set (i+1+y.n) (some b')) _ _ (I.bb) ?_ (aD (aD ab ks (by simpa using oe _ _ _ _ ab)) om (by simpa using CA)) (gO.grown om gO.size (λk au=>by cases au;exact TX));unfold s8;rw [atM ah];exact bs.met (j:=i+1+y.n) bj yu ks (oe _ _ _ _ bs.fV).symm Cx MZ oj om
     · have yz:y.op≠18/\y.op≠19:=by
         simp only [dx,au9,atQ]at ah;omega
       have agv:s8 y L i yR=q8 y L i yR:=by unfold s8;rw [atK ah]
       revert a;(repeat first|refine ag ?_|refine J (af aL.op) ?_);intro a I;exact fin _ _ _ (I.bb) (agv▸bs) ab hb
 · obtain rfl:i=p.length:=bj
   rw [auD,hj,avC]at so;revert a;refine ad λa I=>?_;refine eI I rfl rfl rfl ⟨⟨gP,c,rfl,tG,sB,?_⟩,hb⟩;rw [so];by_cases aJ:0<p.length
   · obtain⟨g,rest,rfl,_,ab⟩:=gr aJ;rw [auD,avC]at ab;exact ab.rd
   · obtain rfl:done=[]:=avD bj;intro i ai;cases ai
def gx(w:World)(g:Nat)(l:List Bool):Prop:=w.heap[g]? =some (.cells (l.map Value.bool).toArray 4 (0,0))
theorem gx.cell{g:Nat}(h:gx w g l)(ah:j<l.length):w.cell? ⟨g,0+j,none⟩=some (.bool (l[j]?.getD false)):=aF h (by rw [aub];simp [ah])
theorem gx.below{g:Nat}(h:gx w g l)(hb:Below w.heap.size w w'):gx w' g l:=(hb.block _ (bO h)).trans h
theorem gx.set{g:Nat}{b:Bool}(h:w.heap[g]? =some (.cells ((l.map Value.bool).toArray.setIfInBounds (0+j) (.bool b)) 4 (0,0))):gx w g (l.set j b):=by
 unfold gx;rw [h,auR,aub,aww]
def kK(x:Ins)(l:List Bool)(i:Nat):List Bool:=if dx x=true then l.set (i+1+x.n) true else l
def r5(x:Ins)(l:List Bool)(i:Nat):List Bool:=if fs x=true then(kK x l i).set (i+1) true else kK x l i
theorem Sw(x:Ins)(l:List Bool)(i:Nat):(r5 x l i).length=l.length:=by unfold r5 kK;split<;>split<;>simp
theorem ac8(x:Ins)(l:List Bool)(i:Nat):(r5 x l i).drop (i+1)=(let a:=if dx x=true then(l.drop (i+1)).set x.n true else l.drop (i+1);if fs x=true then a.set 0 true else a):=by
 have ah:(kK x l i).drop (i+1)=if dx x=true then(l.drop (i+1)).set x.n true else l.drop (i+1):=by
   unfold kK;split
   · rw [ayM,atK bj,show i+1+x.n - (i+1)=x.n by omega]
   · rfl
 unfold r5;dsimp only;split
 · rw [ayM,atK bj,ah,ayg]
 · exact ah
theorem ac9(x:Ins)(l:List Bool)(i:Nat):(r5 x l i).take (i+1)=l.take (i+1):=by
 unfold r5 kK;split<;>split<;>simp [azs]
theorem ac7{p:List Ins}{i:Nat}(ai:i<l.length)(h:l[i]?.getD false=true):l.take i++kJ (x::p) (l.drop i)=(r5 x l i).take (i+1)++kJ p ((r5 x l i).drop (i+1)):=by
 have fD:(l.drop i)[0]?.getD false=true:=by rw [auL,avo];exact h
 have wF:(l.drop i).tail=l.drop (i+1):=bl
 rw [kJ,fD,atM rfl,wF,ac8,ac9,ayD];have:l[i]?.toList=[true]:=by
  cases aN:l[i]? with
  |none=>rw [aN]at h;cases h
  |some b=>rw [aN]at h;simp at h;rw [h];rfl
 rw [this,auJ];rfl
theorem ac6{p:List Ins}{i:Nat}(ai:i<l.length)(h:l[i]?.getD false=false):l.take i++kJ (x::p) (l.drop i)=l.take (i+1)++kJ p (l.drop (i+1)):=by
 have fD:(l.drop i)[0]?.getD false=false:=by rw [auL,avo];exact h
 have wF:(l.drop i).tail=l.drop (i+1):=bl
 rw [kJ,fD,atK bk,wF,ayD];have:l[i]?.toList=[false]:=by
  rw [atT ai]at h ⊢;simp at h ⊢;exact h
 rw [this,auJ];rfl
theorem akf(w:World)(p:List Ins)(o2:l8 p){cp:Nat}(cj:dA w ap 5 Ins.cells p)(hlen:p.length<=16384):bd prog 173 [.slice ap p.length cp].toArray w
   (λv w'=>∃g,v=.slice (some ⟨g,0,none⟩) (p.length+1) (p.length+1)/\w.heap.size<=g/\gx w' g (kJ p (true::List.replicate p.length false))/\Below w.heap.size w w'):=by
 have lO:((p.length:Nat):Int)+1=((p.length+1:Nat):Int):=bj
 refine cF func173 rfl 52 rfl 53 rfl (λa I=>?_);revert a;refine ad λa I=>?_;refine oJ I (aA _ _ rfl) Gi rfl (c:=p.length+1) (base:=w.heap.size) bj bn (atI _) lO (k:=λa aq eo aT I=>?_);have mM:gx aq w.heap.size (List.replicate (p.length+1) false):=by have:=vB eo;unfold gx;rw [this,awc]
 have aB:=ca aT;revert a;(repeat first|refine ag ?_|refine J (gT (j:=0) rfl rfl rfl bj) ?_);intro a I;refine cr I (aw _ _ rfl) mM (i:=0+0) bl rfl rfl rfl (k:=λa ax aP aS cZ I=>?_);have ey:gx ax w.heap.size (true::List.replicate p.length false):=by have:=gx.set aP;simpa [avR]using this
 have aC:=aK aB aS aB.size;clear mM aP aS aT eo aB;revert a;refine ad λa I=>?_;refine eg (λq a wr=>∃(i:Nat) (l:List Bool),i<=p.length/\q=p.length - i/\Fr 53 [(3,.slice (some ⟨w.heap.size,0,none⟩) (p.length+1) (p.length+1)),(12,.slice ap p.length cp),(13,.int .i64 (p.length:Nat)),(14,.int .i64 (i:Nat))] a/\l.length=p.length+1/\kJ p (true::List.replicate p.length false)=l.take i++kJ (p.drop i) (l.drop i)/\gx wr w.heap.size l/\Below w.heap.size w wr) p.length
   ⟨0,_,auc _,rfl,I.bb,bl,rfl,ey,aC⟩ ?_
 clear I ey aC lO;rintro q a wr ⟨i,l,ai,rfl,I,sw,mn,aH,hb⟩;by_cases bu:i<p.length
 · obtain⟨g,o,rfl,av⟩:=(cj.below hb) i bu;have j9:=DL o2 bu;rw [aua bu]at mn;generalize p[i]=x at av mn j9;replace av:∀j v,x.cells.toArray[j]? =some v->wr.cell? ⟨g,o+i*5+j,none⟩=some v:=λj v ah=>av j v (by simpa using ah);revert a;(repeat first|refine ag ?_|refine J (dq (j:=i)) ?_|refine J (bJ av) ?_);intro a I;refine b6 I fK λa bN bB br dw I=>?_;revert a;refine ad λa I=>?_;refine cE I (cs:=x.cells.toArray) bB (jN x) λa bQ cI cM fm I=>?_;have aL:dd wr.heap.size x bQ:=cI;have nz:=bO aH;have gB:gx bQ w.heap.size l:=aD (aH.below (ca br)) cM bm;have cx:=hb.trans ((ca br).mono hb.size);have bP:=aK cx cM cx.size;have zJ:=gB.cell (j:=i) bj;have db:bQ.cell? ⟨wr.heap.size,0+3,none⟩=some (.int .i64 (x.n:Nat)):=aF aL rfl;clear bB br cI cM cx aH hb av;cases Jg:l[i]?.getD false with
   |false=>
    rw [Jg]at zJ;rw [ac6 bj Jg]at mn;revert a;(repeat first|refine ag ?_|refine J (af zJ) ?_);intro a I;exact⟨p.length - (i+1),bj,i+1,l,bj,rfl,I.bb,sw,mn,gB,bP⟩
   |true=>
    rw [Jg]at zJ;rw [ac7 bj Jg]at mn;revert a;(repeat first|(intro a I;(refine ma 7 (λa cm=>Fr 53 [(3,.slice (some ⟨w.heap.size,0,none⟩) (p.length+1) (p.length+1)),(4,.int .i64 (i:Nat)),(5,.pointer (some ⟨wr.heap.size,0,none⟩)),(12,.slice (some ⟨g,o,none⟩) p.length cp),(13,.int .i64 (p.length:Nat)),(14,.int .i64 (i:Nat))] a/\gx cm w.heap.size (kK x l i)/\dd wr.heap.size x cm/\Below w.heap.size w cm) ?_ ?_);revert a)|refine ag ?_|refine J (af zJ) ?_);intro a I
    · refine⟨?_⟩;by_cases ah:dx x=true
      · have yz:x.op=18\/x.op=19:=by simpa [dx]using ah
        have C3:=j9 ah;rcases yz with h|h
        all_goals
         revert a;(repeat first|refine ag ?_|refine J (gT (j:=i+1+x.n) rfl rfl bj bj) ?_|refine J (af aL.op) ?_|refine J (af db) ?_);intro a I;refine cr I (aw _ _ rfl) gB (i:=0+(i+1+x.n)) bm rfl rfl rfl (k:=λa bt c8 cf fZ I=>?_);revert a;refine ad λa I=>?_;exact⟨I.bb,by unfold kK;rw [atM ah];exact gx.set c8,aD aL cf bm,aK bP cf bP.size⟩
      · have yz:x.op≠18/\x.op≠19:=by simp only [dx,au9,atQ]at ah;omega
        revert a;(repeat first|refine ag ?_|refine J (af aL.op) ?_);intro a I;exact⟨I.bb,by unfold kK;rw [atK ah];exact gB,aL,bP⟩
    clear I gB aL bP zJ db;rintro a cm ⟨I,aH,aL,hb⟩;have Je:(kK x l i).length=p.length+1:=by unfold kK;split<;>simp [sw]
    by_cases bC:fs x=true
    · have yx:x.op≠0/\x.op≠18:=by simpa [fs]using bC
      revert a;(repeat first|refine ag ?_|refine J (gT (j:=i+1) rfl rfl bj bj) ?_|refine J (af aL.op) ?_);intro a I;refine cr I (aw _ _ rfl) aH (i:=0+(i+1)) bm rfl rfl rfl (k:=λa bt c8 cf fZ I=>?_);revert a;refine ad λa I=>?_;exact⟨p.length - (i+1),bj,i+1,r5 x l i,bj,rfl,I.bb,by rw [Sw,sw],mn,by unfold r5;rw [atM bC];exact gx.set c8,aK hb cf hb.size⟩
    · have yx:x.op=0\/x.op=18:=by
        simp only [fs,auI,avp,aup]at bC;omega
      rcases yx with h|h
      all_goals
        revert a;(repeat first|refine ag ?_|refine J (af aL.op) ?_);intro a I;exact⟨p.length - (i+1),bj,i+1,r5 x l i,bj,rfl,I.bb,by rw [Sw,sw],mn,by unfold r5;rw [atK bC];exact aH,hb⟩
 · obtain rfl:i=p.length:=bj
   rw [auD,kJ,awd]at mn;revert a;refine ad λa I=>?_;exact bc I rfl rfl ⟨_,rfl,atI _,by rw [mn];exact aH,hb⟩
def kF(w:World)(g:Nat)(dh:List eJ):Prop:=w.heap[g]? =some (.cells (dh.flatMap er).toArray 292 (0,0))
theorem Ko(dh:List eJ):(dh.flatMap er).length=dh.length*16:=B9 vG dh
theorem kF.all{g:Nat}(h:kF w g dh)(ah:dh[j]? =some fv):∀q v,(er fv).toArray[q]? =some v->w.cell? ⟨g,0+j*16+q,none⟩=some v:=by
 obtain⟨aN,he⟩:=atY.1 ah;intro q v aZ;have pL:(er fv)[q]? =some v:=by simpa using aZ
 have Ot:q<16:=by have:=(atY.1 pL).1;rwa [vG]at this
 refine aF h ?_;rw [aub];have:=flat_get vG dh j aN q Ot;rw [he,pL]at this;simpa using this
theorem kF.set{g:Nat}(ah:j<dh.length)(h:w.heap[g]? =some (.cells ((dh.flatMap er).toArray.toList.take (0+j*16)++(er fv).toArray.toList++(dh.flatMap er).toArray.toList.drop (0+j*16+16)).toArray 292 (0,0))):kF w g (dh.set j fv):=by
 unfold kF;rw [h];have e:=zX vG (cs:=er fv) (p:=0) (q:=16) dh j ah fv bk bk (by rw [auA,ava (by rw [vG];exact atI _)];simp);rw [<-e];simp
theorem kF.below{g:Nat}(h:kF w g dh)(hb:Below w.heap.size w w'):kF w' g dh:=(hb.block _ (bO h)).trans h
def hK(w:World)(g:Nat)(l:List Nat):Prop:=w.heap[g]? =some (.cells (l.map λn:Nat=>Value.int .i64 (n:Nat)).toArray 3 (0,0))
theorem hK.cell{g n:Nat}{l:List Nat}(h:hK w g l)(ah:l[j]? =some n):w.cell? ⟨g,0+j,none⟩=some (.int .i64 (n:Nat)):=aF h (by rw [aub];simp [ah])
theorem hK.set{g n:Nat}{l:List Nat}(h:w.heap[g]? =some (.cells ((l.map λn:Nat=>Value.int .i64 (n:Nat)).toArray.setIfInBounds (0+j) (.int .i64 (n:Nat))) 3 (0,0))):hK w g (l.set j n):=by
 unfold hK;rw [h,auR,aub,aww]
theorem hK.below{g:Nat}{l:List Nat}(h:hK w g l)(hb:Below w.heap.size w w'):hK w' g l:=(hb.block _ (bO h)).trans h
theorem XE(n:Nat)(z:Array Value)(bA:z=(er oH).toArray):(madeCells z (n*16)).toList=(List.replicate n oH).flatMap er:=by
 subst bA;refine axF λj=>?_;by_cases ah:j<n*16
 · have ai:j/16<(List.replicate n oH).length:=bm
   have hm:j%16<16:=avI _ bk;have U:=flat_get vG (List.replicate n oH) (j/16) ai (j%16) hm;rw [show j/16*16+j%16=j by omega]at U;rw [U];simp only [madeCells,ay3,e2];simp [ah,er,hm]
 · rw [avf (by simp [madeCells];omega),avf (by rw [Ko];simp;omega)]
def hT(p:List Ins)(cs:List Bool)(j:Nat):eJ × Nat:=dn (p.drop j) (cs.drop j)
theorem JR(p:List Ins)(cs:List Bool)(j:Nat):(hT p cs j).2<=p.length:=atN (JS _ _) bl
theorem ako{p:List Ins}{cs:List Bool}{i:Nat}(ai:i<p.length):hT p cs i=if (lq p[i] (hT p cs (i+1)) (hT p cs (i+1+p[i].n))&&cs[i]?.getD false)=true then(kG p[i] (jj p[i] (hT p cs (i+1)) (hT p cs (i+1+p[i].n))),(hT p cs (i+1)).2+1)else(jj p[i] (hT p cs (i+1)) (hT p cs (i+1+p[i].n)),(hT p cs (i+1)).2):=by
 have h:=AV p[i] (p.drop (i+1)) (cs.drop i);rw [<-aua ai]at h;have bw:(cs.drop i).tail=cs.drop (i+1):=bl
 have bf:(cs.drop i)[0]? =cs[i]? :=by rw [auL,avo]
 have dj:(p.drop (i+1)).drop p[i].n=p.drop (i+1+p[i].n):=by rw [auQ]
 have fl:(cs.drop (i+1)).drop p[i].n=cs.drop (i+1+p[i].n):=by rw [auQ]
 rw [bw,bf,dj,fl]at h;exact h
theorem alY{base n sz:Nat}{e:TypeId}{v:Value}{xs:List Value}(h:w.ownsRow base e sz v n xs){k:Nat}(au:v.ownBlock=some k):k<w.heap.size:=by
 rcases h.2 with ⟨aJ,_⟩|⟨g,cap,cur,aJ,hb,az,_⟩
 · rw [aJ]at au;cases au
 · rw [aJ]at au;cases au;exact bO az
def zW(x:Ins)(n:Nat):Ins:=if dx x=true then { x with n:=n }else x
theorem ad6{p:List Ins}{cs:List Bool}{i:Nat}(ai:i<p.length):hy (p.drop i) (cs.drop i)=if (hT p cs i).2=(hT p cs (i+1)).2 then hy (p.drop (i+1)) (cs.drop (i+1))else zW p[i] ((hT p cs (i+1)).2- (hT p cs (i+1+p[i].n)).2)::hy (p.drop (i+1)) (cs.drop (i+1)):=by
 have bw:(cs.drop i).tail=cs.drop (i+1):=bl
 have h:hT p cs i=dn (p[i]::p.drop (i+1)) (cs.drop i):=by unfold hT;rw [<-aua ai]
 have dj:(p.drop (i+1)).drop p[i].n=p.drop (i+1+p[i].n):=by rw [auQ]
 have fl:(cs.drop (i+1)).drop p[i].n=cs.drop (i+1+p[i].n):=by rw [auQ]
 rw [h]
 conv=>lhs;rw [aua ai]
 rw [hy,bw,dj,fl];rfl
theorem akg(w:World)(bF:Env w)(p:List Ins)(aW:∀x∈p,fc x){cp:Nat}(cj:dA w ap 5 Ins.cells p)(hlen:p.length<=16384)(size slots:Nat)(bT:size<=8)(eC:slots<=64)(gi:hG size slots p=true):bd prog 119 [.slice ap p.length cp,.int .i64 (size:Nat),.int .i64 (slots:Nat)].toArray w
   (λv w'=>(∃ay c,v=.tuple #[.slice ay (uG p).length c,.nilIface]/\oO ay/\(uG p).length<=c/\dA w' ay 5 Ins.cells (uG p))/\Below w.heap.size w w'):=by
 obtain⟨cT,_⟩:=rP.1 gi;have o2:=sS cT;have lO:((p.length:Nat):Int)+1=((p.length+1:Nat):Int):=bj
 refine mf func119 rfl 200 rfl 203 rfl (λa I=>?_);revert a;refine ad λa I=>?_;refine aQ I (Bt w bF p aW cj hlen size slots bT eC) λa v aq ab I=>?_;obtain⟨⟨_,rfl⟩|⟨mN,_⟩,aB⟩:=ab
 case inr=>rw [gi]at mN;cases mN
 revert a;refine ad λa I=>?_;refine aQ I (akf aq p o2 (cj.below aB) hlen) λa v ax ab I=>?_;obtain⟨C,rfl,afC,IA,aC⟩:=ab;have Ff:(kJ p (true::List.replicate p.length false)).length=p.length+1:=by
   have key:∀(q:List Ins) (l:List Bool),l.length=q.length+1->(kJ q l).length=q.length+1:=by
     intro q;induction q with
     |nil=>intro l aN;exact aN
     |cons x q df=>
       intro l aN;rw [kJ,aue,df _ (by split<;>(try split)<;>(try split)<;>simp_all)];rfl
   exact key p _ bl
 have tw:uG p=hy p (kJ p (true::List.replicate p.length false)):=rfl;rw [tw];generalize kJ p (true::List.replicate p.length false)=cs at IA Ff;have dK:=aB.trans (aC.mono aB.size);have aq':w.heap.size<=C:=by have:=aB.size;omega
 revert a;refine ad λa I=>?_;refine QG I (aA _ _ rfl) JF (c:=p.length+1) (base:=ax.heap.size) bj bn (atI _) lO (k:=λa a6 pK bz I=>?_);have z':kF a6 ax.heap.size (List.replicate (p.length+1) oH):=by
   have:=vB pK;exact this.trans (atW (λl:List Value=>some (Obj.cells l.toArray 292 (0,0))) (XE (p.length+1) _ rfl))
 revert a;refine ad λa I=>?_;refine oJ I (aA _ _ rfl) sF rfl (c:=p.length+1) (base:=a6.heap.size) bj bn (atI _) lO (k:=λa bZ sA bD I=>?_);have wM:hK bZ a6.heap.size (List.replicate (p.length+1) 0):=by have:=vB sA;unfold hK;rw [this,awc];rfl
 have M':kF bZ ax.heap.size (List.replicate (p.length+1) oH):=aD z' bD bl;have MT:gx bZ C cs:=aD (aD IA bz bl) bD bl;have a1:=dK.trans ((ca bz).mono dK.size);have b7:=a1.trans ((ca bD).mono a1.size);have aq9:=bO IA;have arf:=bO z';clear pK bz sA bD z' a1 dK aB aC afC IA lO;revert a;(repeat first|(intro a I;(refine ma 7 (λa cm=>∃dh jP,Fr 203 [(0,.slice ap p.length cp),(11,.slice (some ⟨a6.heap.size,0,none⟩) (p.length+1) (p.length+1))] a/\jP.length=p.length+1/\(∀j,j<=p.length->jP[j]? =some (hT p cs j).2)/\kF cm ax.heap.size dh/\hK cm a6.heap.size jP/\Below w.heap.size w cm) ?_ ?_);revert a)|refine ag ?_);intro a I
 · refine⟨?_⟩;revert a;refine ad λa I=>?_;refine eg (λk a wr=>∃(dh:List eJ) (jP:List Nat),k<=p.length/\Fr 203 [(0,.slice ap p.length cp),(9,.slice (some ⟨C,0,none⟩) (p.length+1) (p.length+1)),(10,.slice (some ⟨ax.heap.size,0,none⟩) (p.length+1) (p.length+1)),(11,.slice (some ⟨a6.heap.size,0,none⟩) (p.length+1) (p.length+1)),(12,.int .i64 (((k:Nat):Int)- 1))] a/\dh.length=p.length+1/\jP.length=p.length+1/\(∀j,k<=j->j<=p.length->dh[j]? =some (hT p cs j).1/\jP[j]? =some (hT p cs j).2)/\kF wr ax.heap.size dh/\hK wr a6.heap.size jP/\gx wr C cs/\Below w.heap.size w wr) p.length
     ⟨_,_,atI _,I.bb,bl,bl,λj U ae=>by
       obtain rfl:j=p.length:=bj
       have e:hT p cs p.length=(oH,0):=by unfold hT;rw [auD,dn]
       rw [e];simp [au0],M',wM,MT,b7⟩ ?_
   clear I M' wM MT b7;rintro k a wr ⟨dh,jP,au,I,tH,sw,j7,ab,bU,jd,hb⟩;cases k with
   |zero=>
     revert a;refine ad λa I=>?_;exact⟨dh,jP,I.bb,sw,λj ah=>(j7 j (auc _) ah).2,ab,bU,hb⟩
   |succ i=>
     have bu:i<p.length:=au;rw [show(((i+1:Nat):Int)- 1)=((i:Nat):Int) by omega]at I;obtain⟨g,o,rfl,av⟩:=(cj.below hb) i bu;have hx:=aW _ (at6 bu);obtain⟨aj,-⟩:=rM cT i bu;have j9:=DL o2 bu;have gY:=ako (cs:=cs) bu;generalize p[i]=x at av hx aj j9 gY;have ft:x.op<20:=by obtain⟨a8,dz,_⟩:=nS aj;exact tT dz
     have re:fh x=true->x.a<16:=λh=>jB aj (.inl h);have vf:∀r∈hD x,r<16:=za aj;obtain⟨jL,rn⟩:=j7 (i+1) bj bj;have mq:dx x=true->dh[i+1+x.n]? =some (hT p cs (i+1+x.n)).1/\jP[i+1+x.n]? =some (hT p cs (i+1+x.n)).2:=λh=>j7 _ bj (by have:=j9 h;omega);have N4:=JR p cs (i+1);generalize hT p cs (i+1)=dC at gY jL rn N4;have Vo:=JR p cs (i+1+x.n);generalize hT p cs (i+1+x.n)=eF at gY mq Vo;replace av:∀j v,x.cells.toArray[j]? =some v->wr.cell? ⟨g,o+i*5+j,none⟩=some v:=λj v ah=>av j v (by simpa using ah);revert a;(repeat first|refine ag ?_|refine J (dq (j:=i)) ?_|refine J (bJ av) ?_);intro a I;refine b6 I fK λa bN bB br dw I=>?_;refine cE I (cs:=x.cells.toArray) bB (jN x) λa bQ cI cM fm I=>?_;revert a;refine ad λa I=>?_;refine b6 I JF λa bt c8 cf fZ I=>?_;have bP:=aK (aK (atL _ wr) br (atI _)) cM bj;have b2:=bP.trans ((ca cf).mono bP.size);have aL:dd wr.heap.size x bt:=aD cI cf bl;have af2:wr.heap.size<bQ.heap.size:=bj
     have dH:k4 bQ.heap.size oH bt:=c8;have af8:=bO ab;have afW:=bO bU;replace ab:=ab.below b2;replace bU:=bU.below b2;replace jd:=jd.below b2;have Wm:=hb.size;replace hb:=hb.trans (b2.mono hb.size);clear bB br cI cM c8 cf bP b2 av;have db:bt.cell? ⟨wr.heap.size,0+3,none⟩=some (.int .i64 (x.n:Nat)):=aF aL rfl;have Ev:=bU.cell rn;have BV:=ab.all jL;revert a;(repeat first|(intro a I;(refine ma 13 (λa cm=>Fr 203 [(0,.slice (some ⟨g,o,none⟩) p.length cp),(9,.slice (some ⟨C,0,none⟩) (p.length+1) (p.length+1)),(10,.slice (some ⟨ax.heap.size,0,none⟩) (p.length+1) (p.length+1)),(11,.slice (some ⟨a6.heap.size,0,none⟩) (p.length+1) (p.length+1)),(12,.int .i64 ((i:Nat):Int)),(13,.pointer (some ⟨wr.heap.size,0,none⟩)),(14,.pointer (some ⟨bQ.heap.size,0,none⟩)),(15,.bool (lq x dC eF))] a/\k4 bQ.heap.size (jj x dC eF) cm/\dd wr.heap.size x cm/\kF cm ax.heap.size dh/\hK cm a6.heap.size jP/\gx cm C cs/\Below w.heap.size w cm) ?_ ?_);revert a)|refine ag ?_);intro a I
     · refine⟨?_⟩;have arQ:=Vo;by_cases aJ:x.op=0
       · have e:lq x dC eF=decide ((0:Int) <(dC.2:Nat)):=by unfold lq;rw [atM aJ];simp
         have pv:jj x dC eF=oH:=by unfold jj;rw [atM aJ]
         rw [e,pv];revert a;(repeat first|refine ag ?_|refine J (gT (j:=i+1) rfl rfl bj bj) ?_|refine J (af aL.op) ?_|refine J (af Ev) ?_);intro a I;exact⟨I.bb,dH,aL,ab,bU,jd,hb⟩
       by_cases dD:x.op=18
       · have e:lq x dC eF=decide ((eF.2:Int) <(dC.2:Nat)):=by unfold lq;rw [atK aJ,atM (.inl dD)];simp
         have pv:jj x dC eF=eF.1:=by unfold jj;rw [atK aJ,atM dD]
         rw [e,pv];have ah:=lj (.inl dD);have C3:=j9 ah;obtain⟨Fx,j8⟩:=mq ah;have BW:=ab.all Fx;revert a;(repeat first|refine ag ?_|refine J (dq (j:=i+1+x.n) rfl rfl bj bj) ?_|refine J (fR (agg _ rfl) (aw _ _ rfl) (e2 _) BW) ?_|refine J (af aL.op) ?_|refine J (af db) ?_);intro a I;refine dX I (cs:=(er eF.1).toArray) (aw _ _ rfl) (e2 _) (e2 _) dH (sN _) (k:=λa cD en bE hl I=>?_);have mO:dd wr.heap.size x cD:=aD aL bE bm;have nu:hK cD a6.heap.size jP:=aD bU bE bm;have j6:kF cD ax.heap.size dh:=aD ab bE bm;have wK:gx cD C cs:=aD jd bE bm;have acZ:cD.cell? ⟨wr.heap.size,0+3,none⟩=some (.int .i64 (x.n:Nat)):=aF mO rfl;have LQ:=nu.cell rn;have LR:=nu.cell j8;revert a;(repeat first|refine ag ?_|refine ck (λak ar=>gT (j:=i+1) rfl rfl bj bj) ?_|refine ck (λak ar=>gT (j:=i+1+x.n) rfl rfl bj bj) ?_|refine ck (λak ar=>ea ar acZ) ?_|refine ck (λak ar=>ea ar LQ) ?_|refine ck (λak ar=>ea ar LR) ?_|refine λ(_:Nat)=>?_);intros;rename_i g' a I;exact⟨I.bb,en,mO,j6,nu,wK,(aK hb bE hb.size).trans (cP.below ⟨_,rfl⟩ _)⟩
       by_cases dZ:x.op=19
       · have e:lq x dC eF=decide ((eF.2:Int) <(dC.2:Nat)):=by unfold lq;rw [atK aJ,atM (.inr dZ)];simp
         have pv:jj x dC eF=vA dC.1 eF.1:=by unfold jj;rw [atK aJ,atK dD,atM dZ]
         rw [e,pv];have ah:=lj (.inr dZ);have C3:=j9 ah;obtain⟨Fx,j8⟩:=mq ah;have BW:=ab.all Fx;have SA:∀q v,(er dC.1).toArray[q]? =some v->(bt.drewN 1).cell? ⟨ax.heap.size,0+(i+1)*16+q,none⟩=some v:=BV;have SB:∀q v,(er eF.1).toArray[q]? =some v->(bt.drewN 1).cell? ⟨ax.heap.size,0+(i+1+x.n)*16+q,none⟩=some v:=BW;have aqE:(bt.drewN 1).cell? ⟨wr.heap.size,0+3,none⟩=some (.int .i64 (x.n:Nat)):=db;revert a;(repeat first|(intro a I;(refine kI 23 13 mixed bh ?_;simp only [aul,auA,at5,aus]);revert a)|refine ag ?_|refine J (dq (j:=i+1) rfl rfl bj bj) ?_|refine b4 (dq (j:=i+1) rfl rfl bj bj) ?_|refine J (dq (j:=i+1+x.n) rfl rfl bj bj) ?_|refine b4 (dq (j:=i+1+x.n) rfl rfl bj bj) ?_|refine J (fR (agg _ rfl) (aw _ _ rfl) (e2 _) SA) ?_|refine b4 (fR (agg _ rfl) (aw _ _ rfl) (e2 _) SA) ?_|refine J (fR (agg _ rfl) (aw _ _ rfl) (e2 _) SB) ?_|refine b4 (fR (agg _ rfl) (aw _ _ rfl) (e2 _) SB) ?_|refine J (af aL.op) ?_|refine b4 (af aL.op) ?_|refine J (af db) ?_|refine b4 (af db) ?_);intro a I;refine aQ I (alS (bt.drewN 1) dC.1 eF.1) λa v cD gF I=>?_;obtain⟨rfl,c'⟩:=gF;have wO:k4 bQ.heap.size oH cD:=(c'.block _ (bO dH)).trans dH;have mO:=dd.below (w:=bt.drewN 1) aL c';have nu:=hK.below (w:=bt.drewN 1) bU c';have j6:=kF.below (w:=bt.drewN 1) ab c';have wK:=gx.below (w:=bt.drewN 1) jd c';have nw:=(hb.trans (cP.below ⟨1,rfl⟩ _)).trans (c'.mono hb.size);refine dX I (cs:=(er (vA dC.1 eF.1)).toArray) (aw _ _ rfl) (e2 _) (e2 _) wO (sN _) (k:=λa dt dm cG hn I=>?_);have wQ:dd wr.heap.size x dt:=aD mO cG bm;have yn:hK dt a6.heap.size jP:=aD nu cG bm;have yp:kF dt ax.heap.size dh:=aD j6 cG bm;have Ce:gx dt C cs:=aD wK cG bm;have ac0:dt.cell? ⟨wr.heap.size,0+3,none⟩=some (.int .i64 (x.n:Nat)):=aF wQ rfl;have LQ:=yn.cell rn;have LR:=yn.cell j8;revert a;(repeat first|refine ag ?_|refine ck (λak ar=>gT (j:=i+1) rfl rfl bj bj) ?_|refine ck (λak ar=>gT (j:=i+1+x.n) rfl rfl bj bj) ?_|refine ck (λak ar=>ea ar ac0) ?_|refine ck (λak ar=>ea ar LQ) ?_|refine ck (λak ar=>ea ar LR) ?_|refine λ(_:Nat)=>?_);intros;rename_i g' a I;exact⟨I.bb,dm,wQ,yp,yn,Ce,(aK nw cG nw.size).trans (cP.below ⟨_,rfl⟩ _)⟩
       have pv:jj x dC eF=dC.1:=Gp _ _ aJ dD dZ;have e:lq x dC eF=(!fh x||dC.1 x.a):=by unfold lq;rw [atK aJ,atK bj]
       rw [e,pv];revert a;(repeat first|refine ag ?_|refine J (dq (j:=i+1) rfl rfl bj bj) ?_|refine J (fR (agg _ rfl) (aw _ _ rfl) (e2 _) BV) ?_|refine J (af aL.op) ?_);intro a I;refine dX I (cs:=(er dC.1).toArray) (aw _ _ rfl) (e2 _) (e2 _) dH (sN _) (k:=λa cD en bE hl I=>?_);have mO:dd wr.heap.size x cD:=aD aL bE bm;have nu:hK cD a6.heap.size jP:=aD bU bE bm;have j6:kF cD ax.heap.size dh:=aD ab bE bm;have wK:gx cD C cs:=aD jd bE bm;have nw:=aK hb bE hb.size;revert a;(repeat first|refine ag ?_|refine J (bJ mO.all) ?_);intro a I;refine aQ I (aay cD x ft) λa v dt gF I=>?_;obtain⟨rfl,dT⟩:=gF;have yo:k4 bQ.heap.size dC.1 dt:=(dT.block _ (bO en)).trans en;have sl:=nw.trans (dT.mono nw.size);by_cases hw:fh x=true
       · rw [atM hw]at I;rw [hw];have ha:=re hw;have abD:=yo.cell ha;revert a;(repeat first|refine ag ?_|refine J (dY (n:=16) (aA _ _ rfl) (aw _ _ rfl) (j:=x.a) rfl rfl rfl bj) ?_|refine J (af abD) ?_);intro a I;exact⟨I.bb,yo,mO.below dT,j6.below dT,nu.below dT,wK.below dT,sl⟩
       · rw [atK hw]at I;rw [avS.2 hw];revert a;refine ad λa I=>?_;exact⟨I.bb,yo,mO.below dT,j6.below dT,nu.below dT,wK.below dT,sl⟩
     · clear I dH aL ab bU jd hb db Ev BV mq;rintro a cm ⟨I,dH,aL,ab,bU,jd,hb⟩;have Ev:(cm.drewN 1).cell? ⟨a6.heap.size,0+(i+1),none⟩=some (.int .i64 (dC.2:Nat)):=bU.cell rn;generalize jj x dC eF=ol at*;generalize lq x dC eF=hE at*;revert a;(repeat first|(intro a I;(refine gJ (λak:World=>k4 bQ.heap.size ol ak/\ak.cell? ⟨a6.heap.size,0+(i+1),none⟩=some (.int .i64 (dC.2:Nat))) [(0,true),(1,true),(2,true),(3,true),(4,true),(5,true),(6,true),(7,true),(8,true),(9,true),(10,true),(11,false),(12,true),(13,false)] 25 mixed bh ⟨dH,Ev⟩ ?_;simp only [fF,atZ,at1,aug,atS,atO]);revert a)|refine ag ?_);intro a I;revert a;(repeat first|refine e3 ?_|refine cB (λak ar=>gT (j:=i+1) rfl rfl bj bj) ?_|refine cB (λak ar=>dq (j:=i) rfl rfl bj bj) ?_|refine cB (λak ar=>fR (agg _ rfl) (aw _ _ rfl) (e2 _) ar.1.all) ?_|refine cB (λak ar=>af ar.2) ?_);intro a I;refine c7 ?_;have mR:0+i*16+16<=(dh.flatMap er).toArray.size:=by have:=Ko dh;simp only [av4];omega
       refine qT I (o:=0+i*16) (cs:=(er ol).toArray) (aw _ _ rfl) (e2 _) mR (show(cm.drewN 1).heap[ax.heap.size]? =_ from ab) (sN _) (k:=λa cD en bE hl I=>?_);have j6:=kF.set bj en;replace bE:=iQ bE;have wO:k4 bQ.heap.size ol cD:=aD dH bE bm;have mO:dd wr.heap.size x cD:=aD aL bE bm;have nu:hK cD a6.heap.size jP:=aD bU bE bm;have wK:gx cD C cs:=aD jd bE bm;have c':=aK hb bE hb.size;refine atJ ⟨rfl,⟨wO,nu.cell rn⟩,?_⟩;revert a;refine hH λa I=>?_;refine c7 ?_;refine cr I (aw _ _ rfl) nu (i:=0+i) bm rfl rfl rfl (k:=λa dt dm cG hn I=>?_);have yn:=hK.set dm;have yp:kF dt ax.heap.size (dh.set i ol):=aD j6 cG bm;have yo:k4 bQ.heap.size ol dt:=aD wO cG bm;have wQ:dd wr.heap.size x dt:=aD mO cG bm;have Ce:gx dt C cs:=aD wK cG bm;have dT:=aK c' cG c'.size;refine atJ ⟨rfl,⟨yo,yn.cell (by rw [auO bj];exact rn)⟩,?_⟩;refine fj ?_;clear en bE dm cG ab dH aL bU jd hb j6 wO mO nu wK c' mR Ev;have fin:∀(rd:eJ) (Pw:Nat) (wn:World) (a:Act),hT p cs i=(rd,Pw)->Fr 203 [(0,.slice (some ⟨g,o,none⟩) p.length cp),(9,.slice (some ⟨C,0,none⟩) (p.length+1) (p.length+1)),(10,.slice (some ⟨ax.heap.size,0,none⟩) (p.length+1) (p.length+1)),(11,.slice (some ⟨a6.heap.size,0,none⟩) (p.length+1) (p.length+1)),(12,.int .i64 (((i:Nat):Int)- 1))] a->kF wn ax.heap.size (dh.set i rd)->hK wn a6.heap.size (jP.set i Pw)->gx wn C cs->Below w.heap.size w wn->
          ∃sJ,sJ<i+1/\∃(dh:List eJ) (jP:List Nat),sJ<=p.length/\Fr 203 [(0,.slice (some ⟨g,o,none⟩) p.length cp),(9,.slice (some ⟨C,0,none⟩) (p.length+1) (p.length+1)),(10,.slice (some ⟨ax.heap.size,0,none⟩) (p.length+1) (p.length+1)),(11,.slice (some ⟨a6.heap.size,0,none⟩) (p.length+1) (p.length+1)),(12,.int .i64 (((sJ:Nat):Int)- 1))] a/\dh.length=p.length+1/\jP.length=p.length+1/\(∀j,sJ<=j->j<=p.length->dh[j]? =some (hT p cs j).1/\jP[j]? =some (hT p cs j).2)/\kF wn ax.heap.size dh/\hK wn a6.heap.size jP/\gx wn C cs/\Below w.heap.size w wn:=λrd Pw wn a aN I ab bU jd hb=>
         ⟨i,awz i,_,_,bj,I,by simp [tH],by simp [sw],λj U ae=>by
          by_cases e:j=i
          · subst e;rw [aN,auS bj,auS bj];exact⟨rfl,rfl⟩
          · rw [auO (λh=>e h.symm),auO (λh=>e h.symm)];exact j7 j bj ae,ab,bU,jd,hb⟩
       have HG:=Ce.cell (j:=i) bj;cases hE with
       |false=>
         rw [awG,atK bk]at gY;revert a;refine ad λa I=>?_;exact fin _ _ _ _ gY (I.bb) yp yn Ce dT
       |true=>
         rw [auN]at gY;cases wU:cs[i]?.getD false with
         |false=>
          rw [wU]at HG gY;rw [atK bk]at gY;revert a;(repeat first|refine ag ?_|refine J (af HG) ?_);intro a I;exact fin _ _ _ _ gY (I.bb) yp yn Ce dT
         |true=>
          rw [wU]at HG gY;rw [atM rfl]at gY;revert a;(repeat first|refine ag ?_|refine J (fR (agg _ rfl) (aw _ _ rfl) (e2 _) yo.all) ?_|refine J (bJ wQ.all) ?_|refine J (af HG) ?_);intro a I;refine aQ I (aa0 dt ol x ft re vf) λa v gw gF I=>?_;obtain⟨rfl,gN⟩:=gF;have Ck:=yp.below gN;have afT:=yn.below gN;have afD:=Ce.below gN;have oY:=dT.trans (gN.mono dT.size);revert a;(repeat first|refine ag ?_|refine J (dq (j:=i) rfl rfl bj bj) ?_);intro a I;have mR:0+i*16+16<=((dh.set i ol).flatMap er).toArray.size:=by have:=Ko (dh.set i ol);simp only [av4,av5]at this ⊢;omega
          refine qT I (o:=0+i*16) (cs:=(er (kG x ol)).toArray) (aw _ _ rfl) (e2 _) mR Ck (sN _) (k:=λa nT ks tB Js I=>?_);have af7:kF nT ax.heap.size (dh.set i (kG x ol)):=by have:=kF.set (dh:=dh.set i ol) (j:=i) bm ks;rwa [List.set_set]at this
          have T9:hK nT a6.heap.size (jP.set i dC.2):=aD afT tB bm;have afE:gx nT C cs:=aD afD tB bm;have gO:=aK oY tB oY.size;have LP:=T9.cell (j:=i) (n:=dC.2) (by rw [auS bj]);revert a;(repeat first|refine ag ?_|refine J (af LP) ?_);intro a I;refine cr I (aw _ _ rfl) T9 (i:=0+i) bm rfl rfl rfl (k:=λa k0 oj om Jt I=>?_);have afU:hK k0 a6.heap.size (jP.set i (dC.2+1)):=by have:=hK.set (n:=dC.2+1) oj;rwa [List.set_set]at this
          revert a;refine ad λa I=>?_;exact fin _ _ _ _ gY (I.bb) (aD af7 om bm) afU (aD afE om bm) (aK gO om gO.size)
 clear I M' wM MT b7;rintro a cm ⟨dh,jP,I,sw,j7,ab,bU,hb⟩;clear ab;have arc:=bO bU;revert a;refine ad λa I=>?_;refine eg (λq a wr=>∃(i:Nat) (done:List Ins) (ay:Option Addr) (cap:Nat),i<=p.length/\q=p.length - i/\Fr 203 [(11,.slice (some ⟨a6.heap.size,0,none⟩) (p.length+1) (p.length+1)),(17,.slice ay done.length cap),(157,.slice ap p.length cp),(158,.int .i64 (p.length:Nat)),(159,.int .i64 (i:Nat))] a/\done.length<=i/\hy p cs=done++hy (p.drop i) (cs.drop i)/\wr.ownsRow w.heap.size 66 5 (.slice ay done.length cap) done.length (done.flatMap Ins.cells)/\hK wr a6.heap.size jP/\Below w.heap.size w wr) p.length
   ⟨0,[],none,0,auc _,rfl,I.bb,atI _,rfl,auH cm w.heap.size _ _,bU,hb⟩ ?_
 clear I bU hb;rintro q a wr ⟨i,done,ay,cap,ai,rfl,I,tv,qy,aX,bU,hb⟩;by_cases bu:i<p.length
 · obtain⟨g,o,rfl,av⟩:=(cj.below hb) i bu;have hx:=aW _ (at6 bu);have j9:=DL o2 bu;rw [ad6 bu]at qy;have kt:=j7 i bj;have iu:=j7 (i+1) bj;have FG:=JR p cs i;have N4:=JR p cs (i+1);have mq:dx p[i]=true->jP[i+1+p[i].n]? =some (hT p cs (i+1+p[i].n)).2/\(hT p cs (i+1+p[i].n)).2<=(hT p cs (i+1)).2:=λh=>by
     have U:=j9 h;refine⟨j7 _ bj,?_⟩;have:=(yc p[i].n (p.drop (i+1)) (cs.drop (i+1)) (by rw [atU];omega)).2.1;rw [auQ,auQ]at this;exact this
   generalize p[i]=x at av hx j9 qy mq;generalize hT p cs i=Ps at kt FG qy;generalize hT p cs (i+1)=dC at iu N4 qy mq;generalize hT p cs (i+1+x.n)=eF at qy mq;replace av:∀j v,x.cells.toArray[j]? =some v->wr.cell? ⟨g,o+i*5+j,none⟩=some v:=λj v ah=>av j v (by simpa using ah);revert a;(repeat first|refine ag ?_|refine J (dq (j:=i)) ?_|refine J (bJ av) ?_);intro a I;refine b6 I fK λa bN bB br dw I=>?_;revert a;refine ad λa I=>?_;refine cE I (cs:=x.cells.toArray) bB (jN x) λa bQ cI cM fm I=>?_;have bP:=aK (aK (atL _ wr) br (atI _)) cM bj;have aL:dd wr.heap.size x bQ:=cI;have ahJ:∀k,(Value.slice ay done.length cap).ownBlock=some k->k<wr.heap.size:=λk au=>alY aX au;have afW:=bO bU;have Wm:=hb.size;replace bU:=bU.below bP;replace aX:=cW aX bP;replace hb:=hb.trans (bP.mono hb.size);clear bB br cI cM bP av;have bM:=bU.cell kt;have c2:=bU.cell iu;have db:bQ.cell? ⟨wr.heap.size,0+3,none⟩=some (.int .i64 (x.n:Nat)):=aF aL rfl;by_cases he:Ps.2=dC.2
   · rw [atM he]at qy;have Nw:(Ps.2:Int)=(dC.2:Int):=bj
     revert a;(repeat first|refine ag ?_|refine ck (λak ar=>gT (j:=i+1) rfl rfl bj bj) ?_|refine ck (λak ar=>ea ar bM) ?_|refine ck (λak ar=>ea ar c2) ?_|refine λ(_:Nat)=>?_);intros;rename_i g' a I;exact⟨p.length - (i+1),bj,i+1,done,ay,cap,bj,rfl,I.bb,bj,qy,cW aX (cP.below ⟨_,rfl⟩ _),bU,hb.trans (cP.below ⟨_,rfl⟩ _)⟩
   · rw [atK he]at qy;have Nw:¬(Ps.2:Int)=(dC.2:Int):=bj
     revert a;(repeat first|(intros;rename_i a I;(refine ma 34 (λa cm=>Fr 203 [(11,.slice (some ⟨a6.heap.size,0,none⟩) (p.length+1) (p.length+1)),(17,.slice ay done.length cap),(19,.pointer (some ⟨wr.heap.size,0,none⟩)),(157,.slice (some ⟨g,o,none⟩) p.length cp),(158,.int .i64 (p.length:Nat)),(159,.int .i64 (i:Nat))] a/\dd wr.heap.size (zW x (dC.2- eF.2)) cm/\cm.ownsRow w.heap.size 66 5 (.slice ay done.length cap) done.length (done.flatMap Ins.cells)/\hK cm a6.heap.size jP/\Below w.heap.size w cm) ?_ ?_);revert a)|refine ag ?_|refine ck (λak ar=>gT (j:=i+1) rfl rfl bj bj) ?_|refine ck (λak ar=>ea ar bM) ?_|refine ck (λak ar=>ea ar c2) ?_|refine λ(_:Nat)=>?_);intros;rename_i g' a I
     · refine⟨?_⟩;by_cases ah:dx x=true
       · have yz:x.op=18\/x.op=19:=by simpa [dx]using ah
         have C3:=j9 ah;obtain⟨j8,NY⟩:=mq ah;have c3:=bU.cell j8;have AG:((dC.2:Nat):Int)- ((eF.2:Nat):Int)=((dC.2- eF.2:Nat):Int):=bj
         have NI:zW x (dC.2- eF.2)={ x with n:=dC.2- eF.2 }:=by unfold zW;rw [atM ah]
         rw [NI];rcases yz with h|h
         all_goals
          revert a;(repeat first|(intro a I;(refine kI 35 15 mixed bh ?_;simp only [aul,auA,at5,aus]);revert a)|refine ag ?_|refine J (gT (j:=i+1) rfl rfl bj bj) ?_|refine b4 (gT (j:=i+1) rfl rfl bj bj) ?_|refine J (gT (j:=i+1+x.n) rfl rfl bj bj) ?_|refine b4 (gT (j:=i+1+x.n) rfl rfl bj bj) ?_|refine J (af aL.op) ?_|refine b4 (af aL.op) ?_|refine J (af db) ?_|refine b4 (af db) ?_|refine J (af c2) ?_|refine b4 (af c2) ?_|refine J (af c3) ?_|refine b4 (af c3) ?_);intro a I;rw [AG]at I;refine cr I (aw _ _ rfl) aL (i:=0+3) (by show 0+3<5;decide) rfl rfl rfl (k:=λa cD en bE hl I=>?_);replace bE:=iQ (iQ bE);revert a;refine ad λa I=>?_;exact⟨I.bb,en,PX aX bE (λk au e=>by have:=ahJ k au;injection e with e;omega),aD bU bE bm,hb.grown bE hb.size (λk au=>by cases au;exact Wm)⟩
       · have yz:x.op≠18/\x.op≠19:=by simp only [dx,au9,atQ]at ah;omega
         have NI:zW x (dC.2- eF.2)=x:=by unfold zW;rw [atK ah]
         rw [NI];revert a;(repeat first|refine ag ?_|refine J (af aL.op) ?_);intro a I;exact⟨I.bb,aL,cW aX (cP.below ⟨_,rfl⟩ _),bU,hb.trans (cP.below ⟨_,rfl⟩ _)⟩
     clear I aL aX bU hb bM c2 db;rintro a cm ⟨I,aL,aX,bU,hb⟩;generalize zW x (dC.2- eF.2)=y at aL qy;revert a;(repeat first|refine ag ?_|refine J (bJ aL.all) ?_);intro a I;refine zk I (us:=y.cells.toArray) (aA _ _ rfl) fK rfl bk bk rfl (jN y) aX bj bn hb.size (k:=λa eM fr cD rq bE lL I=>?_);revert a;refine ad λa I=>?_;exact⟨p.length - (i+1),bj,i+1,done++ [y],eM,fr,bj,rfl,by simpa using I.xp (l':=[(11,.slice (some ⟨a6.heap.size,0,none⟩) (p.length+1) (p.length+1)),(17,.slice eM (done.length+1) fr),(157,.slice (some ⟨g,o,none⟩) p.length cp),(158,.int .i64 (p.length:Nat)),(159,.int .i64 ((i:Nat)+1:Int))]) ⟨rfl,rfl,rfl,rfl,rfl,trivial⟩,bm,by rw [qy];simp,by simpa using rq,aD bU bE (jk aX bU bk),j0 hb hb.size aX bE⟩
 · obtain rfl:i=p.length:=bj
   rw [auD,hy,avC]at qy;revert a;refine ad λa I=>?_;refine eI I rfl rfl rfl ⟨?_,hb⟩;rw [qy];rcases Dm aX rfl with ⟨U,ae⟩|⟨g,c,rest,U,_,_,ae⟩
   · exact⟨ay,cap,rfl,by injection U with U;rw [U];exact λa h=>(by cases h),(tU aX).1,by rw [ae];exact λi ai=>(by cases ai)⟩
   · refine⟨ay,cap,rfl,?_,(tU aX).1,?_⟩
     · injection U with U;rw [U];exact λa h=>by cases h;exact⟨_,_,rfl⟩
     · injection U with U;rw [U];exact ae.rd
def ll(a':List Nat)(q:Nat):Bool:=(a'[q/8]?.getD 0).testBit (q%8)
theorem Lt{b i:Nat}(hb:b<256)(ai:8<=i):b.testBit i=false:=awH (auj hb (aum (by decide:0<2) ai))
theorem ama{b:Nat}{aa:List Nat}(hb:b<256)(q:Nat):ll (b::aa) q=(b.testBit q||(decide (8<=q)&&ll aa (q - 8))):=by
 unfold ll;by_cases h:q<8
 · have bw:q/8=0:=bj
   have bf:q%8=q:=bj
   rw [bw,bf];simp;intro ko;omega
 · have bw:q/8=(q - 8)/8+1:=bj
   have bf:q%8=(q - 8)%8:=bj
   rw [bw,bf,atO,Lt hb bj];simp;intro U;omega
theorem amb(q:Nat):ll [] q=false:=by simp [ll]
theorem Z0(x i n:Nat):(x*2^n).testBit i=(decide (n<=i)&&x.testBit (i - n)):=by
 rw [avq,Nat.testBit_two_pow_mul]
theorem Xx:∀(aa:List Nat) (i v j:Nat),(∀c∈aa,c<256)->(qG aa i v).testBit j=(v.testBit j||(decide (8*i<=j)&&ll aa (j - 8*i)))
 | [],i,v,j,_=>by rw [qG,amb];simp
 |b::aa,i,v,j,h=>by
  have hb:=h b bl;rw [qG,Xx aa (i+1) _ j (λc av=>h c (by simp [av])),aw5,Z0,ama hb];by_cases U:8*i<=j
  · by_cases ae:8*(i+1)<=j
    · have aM:8<=j - 8*i:=bj
      have e:j - 8*(i+1)=j - 8*i - 8:=bj
      simp only [U,ae,aM,awx,auN,e,Bool.or_assoc]
    · have aM:¬8<=j - 8*i:=bj
      simp [U,ae,aM]
  · have ae:¬8*(i+1)<=j:=bj
    simp [U,ae]
theorem amc(a':List Nat)(b n q:Nat):ll ((a'.drop b).take n) q=(decide (q<8*n)&&ll a' (8*b+q)):=by
 unfold ll;have bw:(8*b+q)/8=b+q/8:=bj
 have bf:(8*b+q)%8=q%8:=bj
 rw [bw,bf,ayh];by_cases h:q<8*n
 · rw [atM bj,auL];simp [h]
 · rw [atK bj];simp [h]
theorem akr{a':List Nat}(aW:∀c∈a',c<256)(b n j:Nat):(mU false ((a'.drop b).take n)).testBit j=(decide (j<8*n)&&ll a' (8*b+j)):=by
 show(qG _ 0 0).testBit j=_;rw [Xx _ _ _ _ (λc av=>aW c (JW av)),amc];simp
theorem Yt(m k i:Nat):(m/2^k%256).testBit i=(decide (i<8)&&m.testBit (k+i)):=by
 rw [show(256:Nat)=2^8 from rfl,axn,ayN,axi]
theorem aoB(a':List Nat)(o n v mask q:Nat):ll (hW a' o n false v mask n) q=if q<8*a'.length/\8*o<=q/\q<8*(o+n)/\mask.testBit (q - 8*o)=true then v.testBit (q - 8*o)else ll a' q:=by
 unfold ll hW;by_cases aN:q<8*a'.length
 · have tD:q/8<a'.length:=bj
   rw [awo,atT tD];simp only [aug,aw6];by_cases av:o<=q/8/\q/8<o+n
   · rw [atM av];have e:ue false n (q/8- o)+q%8=q - 8*o:=by unfold ue;simp;omega
     unfold DO;rw [aw5,En,axo,Yt,Yt,e];have hm:q%8<8:=avI _ bk;simp only [hm,awx,auN];have U:8*o<=q:=bj
     have ae:q<8*(o+n):=bj
     cases hb:mask.testBit (q - 8*o)with
     |true=>simp [aN,U,ae]
     |false=>simp
   · rw [atK av,atK bj]
 · rw [avf bm,avf bj,atK (λh=>aN h.1)]
theorem amd{a b:List Nat}(aN:a.length=b.length)(ha:∀c∈a,c<256)(hb:∀c∈b,c<256)(h:∀q,q<8*a.length->ll a q=ll b q):a=b:=by
 refine awA aN λi U ae=>awY λj=>?_;by_cases ah:j<8
 · have:=h (8*i+j) bj;unfold ll at this;rw [show(8*i+j)/8=i by omega,show(8*i+j)%8=j by omega,atT U,atT ae]at this;exact this
 · rw [Lt (ha _ (at6 U)) bj,Lt (hb _ (at6 ae)) bj]
def KM(v:Nat)(i:Int):Bool:=decide (0<=i)&&v.testBit i.toNat
def zf(v:Nat)(s:Int):Nat:=if 0<=s then mA v s.toNat else v/2^(-s).toNat
theorem ag0(ao:v<2^64)(ah:64<=j):v.testBit j=false:=awH (auj ao (aum (by decide:0<2) ah))
theorem Zp(ao:v<2^64)(s:Int)(j:Nat):(zf v s).testBit j=(decide (j<64)&&KM v (j - s)):=by
 unfold zf KM;by_cases h:0<=s
 · rw [atM h];unfold mA;rw [axn,Z0];have e:(s.toNat<=j)↔(0<=(j:Int)- s):=bj
   have bf:((j:Int)- s).toNat=j - s.toNat:=bj
   simp only [e,bf]
 · rw [atK h,ayN];have e:0<=(j:Int)- s:=bj
   have bf:((j:Int)- s).toNat=j+(-s).toNat:=bj
   rw [bf];simp only [e,awx,auN];by_cases ah:j<64
   · simp [ah]
   · rw [ag0 ao bj];simp
def k7(aV:List Nat)(xs:List Ins)(s:cR):cR:=xs.foldl (λs x=>dI aV x s) s
def lr(x:Ins):Bool:=!(decide (x.op=0)||decide (x.op=17)||decide (x.op=18)||decide (x.op=19))
theorem Ql:∀(xs p:List Ins) (s:cR) (k:Nat),(∀x∈xs,lr x=true)->da aV (xs++p) s k=da aV p (k7 aV xs s) (k+xs.length)
 | [],p,s,k,_=>rfl
 |x::xs,p,s,k,h=>by
  have hx:=h x bl;simp only [lr,auI,avp,aup]at hx;rw [avb,da,atK hx.1.1.1,atK hx.1.1.2,atK hx.1.2,atK hx.2,Ql xs p _ _ (λy aO=>h y (by simp [aO]))];rw [aue,show k+(xs.length+1)=k+1+xs.length by omega];rfl
structure x5(s eP:cR)(t v:Nat):Prop where
 hit:eP.bI t=v
 De:∀r,r≠t->eP.bI r=s.bI r
 len:eP.r.length=16
 a':eP.a'=s.a'
 out:eP.out=s.out
 has:eP.has=s.has
theorem D0{s:cR}{t:Nat}(aN:s.r.length=16)(bW:t<16):x5 s (s.put t v) t v:=
 ⟨by rw [y2 _ _ _ _ bj,atM rfl],λr aj=>by rw [y2 _ _ _ _ bj,atK aj],by rw [Dr,aN],rfl,rfl,rfl⟩
theorem x5.trans{s s1 s2:cR}{t u:Nat}(h:x5 s s1 t v)(k:x5 s1 s2 t u):x5 s s2 t u:=⟨k.hit,λr aj=>(k.De r aj).trans (h.De r aj),k.len,k.a'.trans h.a',k.out.trans h.out,k.has.trans h.has⟩
inductive oQ (t:Nat):List Ins->Int->Prop where
 |nil:oQ t [] 0
 |shl (x:Ins) (h:x.op=6) (ha:x.a=t):oQ t [x] (x.n:Nat)
 |shr (x:Ins) (h:x.op=7) (ha:x.a=t):oQ t [x] (-((x.n:Nat):Int))
theorem Zw(ao:v<2^64):mA v 0=v:=by unfold mA;rw [Nat.pow_zero,axE];exact auU ao
theorem oQ.exec{t:Nat}(h:oQ t ep d)(bW:t<16){s:cR}(aN:s.r.length=16)(ao:s.bI t<2^64):x5 s (k7 aV ep s) t (zf (s.bI t) d):=by
 cases h with
 |nil=>exact⟨by simp [k7,zf,Zw ao],λ_ _=>rfl,aN,rfl,rfl,rfl⟩
 |shl x h ha=>
  have e:dI aV x s=s.put t (mA (s.bI t) x.n):=by unfold dI;simp only [h,ha]
  show x5 s (dI aV x s) t _;rw [e,show zf (s.bI t) (x.n:Nat)=mA (s.bI t) x.n by unfold zf;rw [atM bj];rfl];exact D0 aN bW
 |shr x h ha=>
  have e:dI aV x s=s.put t (s.bI t/2^x.n):=by unfold dI;simp only [h,ha]
  show x5 s (dI aV x s) t _;rw [e,show zf (s.bI t) (-((x.n:Nat):Int))=s.bI t/2^x.n by
   unfold zf;by_cases aJ:x.n=0
   · rw [aJ];simp [Zw ao]
   · rw [atK bj];simp]
  exact D0 aN bW
theorem oQ.str{t:Nat}(h:oQ t ep d):∀x∈ep,lr x=true:=by
 intro y aO;cases h with
 |nil=>cases aO
 |shl x h _=>rw [avA.1 aO];simp [lr,h]
 |shr x h _=>rw [avA.1 aO];simp [lr,h]
structure um(t other:Nat)(fQ:Int)(M:Nat->Bool)(s eP:cR):Prop where
 bI:∀r,r≠t->eP.bI r=s.bI r
 len:eP.r.length=16
 pl:eP.a'.length=s.a'.length
 a':∀q,q<8*s.a'.length->ll eP.a' q=if M q=true then KM (s.bI other) (q - fQ)else ll s.a' q
 out:eP.out=s.out
 has:eP.has=s.has
theorem um.trans{t other:Nat}{b:Int}{s s1 s2:cR}(b5:other≠t)(h:um t other b M s s1)(k:um t other b s0 s1 s2):um t other b (λq=>M q||s0 q) s s2:=by
 refine⟨λr aj=>(k.bI r aj).trans (h.bI r aj),k.len,k.pl.trans h.pl,λq aZ=>?_,k.out.trans h.out,k.has.trans h.has⟩;rw [k.a' q (by rw [h.pl];exact aZ),h.a' q aZ,h.bI _ b5];cases bs:M q<;>cases ard:s0 q<;>simp
theorem um.same{t other:Nat}{b:Int}{s s1 s2:cR}(h:um t other b M s s1)(k:um t other b s0 s s2)(bs:∀q,M q=s0 q)(U:∀c∈s1.a',c<256)(ae:∀c∈s2.a',c<256):ly (λr=>r≠t) s1 s2:=
 ⟨λr aj=>(h.bI r aj).trans (k.bI r aj).symm,h.len,k.len,amd (h.pl.trans k.pl.symm) U ae λq aZ=>by rw [h.pl]at aZ;rw [h.a' q aZ,k.a' q aZ,bs q],h.out.trans k.out.symm,h.has.trans k.has.symm⟩
def Ld(M:Nat->Bool)(a':List Nat)(i:Int):Bool:=decide (0<=i)&&(M i.toNat&&ll a' i.toNat)
structure uu(t other:Nat)(fQ:Int)(M:Nat->Bool)(s eP:cR):Prop where
 bI:∀r,r≠t->r≠other->eP.bI r=s.bI r
 len:eP.r.length=16
 J6:∀j,(eP.bI other).testBit j=((s.bI other).testBit j||(decide (j<64)&&Ld M s.a' (j - fQ)))
 a':eP.a'=s.a'
 out:eP.out=s.out
 has:eP.has=s.has
theorem uu.trans{t other:Nat}{b:Int}{s s1 s2:cR}(h:uu t other b M s s1)(k:uu t other b s0 s1 s2):uu t other b (λq=>M q||s0 q) s s2:=by
 refine⟨λr aj gX=>(k.bI r aj gX).trans (h.bI r aj gX),k.len,λj=>?_,k.a'.trans h.a',k.out.trans h.out,k.has.trans h.has⟩;rw [k.J6,h.J6,h.a'];unfold Ld;dsimp only;cases (s.bI other).testBit j<;>cases decide (j<64)<;>cases decide (0<=(j:Int)- b)<;>cases M ((j:Int)- b).toNat<;>cases s0 ((j:Int)- b).toNat<;>cases ll s.a' ((j:Int)- b).toNat<;>simp
theorem uu.same{t other:Nat}{b:Int}{s s1 s2:cR}(h:uu t other b M s s1)(k:uu t other b s0 s s2)(bs:∀q,M q=s0 q):ly (λr=>r≠t) s1 s2:=
 ⟨λr aj=>by
  by_cases e:r=other
  · subst e;refine awY λj=>?_;rw [h.J6,k.J6,show M=s0 from funext bs]
  · exact(h.bI r aj e).trans (k.bI r aj e).symm,h.len,k.len,h.a'.trans k.a'.symm,h.out.trans k.out.symm,h.has.trans k.has.symm⟩
def yW(b n bK:Nat)(q:Nat):Bool:=decide (8*b<=q)&&(decide (q<8*(b+n))&&bK.testBit (q - 8*b))
theorem aiX{size:Nat}{t other:Nat}{s:cR}(aH:jb size slots s)(bW:t<16)(aJ:cz.op=2)(oa:cz.a=t)(wH:cz.b=other)(hB:oQ t ep d)(bA:z.op=13)(kW:z.a=t)(ba:z.n<=8):
   um t other (8*(z.b:Nat)+d) (yW z.b z.n z.bK) s (k7 aV (cz::ep++ [z]) s):=by
 have fD:dI aV cz s=s.put t (s.bI other):=by unfold dI;simp only [aJ,oa,wH]
 have gb:=D0 (v:=s.bI other) aH.r bW;rw [<-fD]at gb;have fG:=gb.trans (hB.exec (aV:=aV) bW gb.len (by rw [gb.hit];exact aH.bI _));rw [gb.hit]at fG;have Mg:k7 aV (cz::ep++ [z]) s=dI aV z (k7 aV ep (dI aV cz s)):=by simp [k7,axG]
 rw [Mg];generalize k7 aV ep (dI aV cz s)=s1 at fG;have B6:dI aV z s1={ s1 with a':=hW s1.a' z.b z.n false (s1.bI z.a) z.bK z.n }:=by unfold dI;simp only [bA]
 rw [B6,kW,fG.hit];refine⟨λr aj=>fG.De r aj,fG.len,by show(hW s1.a' _ _ _ _ _ _).length=_;rw [zi,fG.a'],λq aZ=>?_,fG.out,fG.has⟩;show ll (hW s1.a' _ _ _ _ _ _) q=_;rw [aoB,fG.a',Zp (aH.bI _)];unfold yW;by_cases U:8*z.b<=q
 · by_cases ae:q<8*(z.b+z.n)
   · cases hm:z.bK.testBit (q - 8*z.b)with
     |true=>
      rw [atM ⟨aZ,U,ae,rfl⟩];simp only [U,ae,awx,azz,ayw];have aM:q - 8*z.b<64:=bj
      have e:((q - 8*z.b:Nat):Int)- d=(q:Int)- (8*(z.b:Nat)+d):=bj
      simp only [aM,awx,auN,e]
     |false=>simp
   · rw [atK (λh=>ae h.2.2.1)];simp [ae]
 · rw [atK (λh=>U h.2.1)];simp [U]
theorem alV{size:Nat}{t other:Nat}{s:cR}(aH:jb size slots s)(bW:t<16)(bp:other<16)(b5:other≠t)(aJ:cz.op=9)(oa:cz.a=t)(aO:y.op=8)(xh:y.a=t)(xi:y.bK<2^64)(hB:oQ t ep d)(bA:z.op=4)(kW:z.a=other)(sE:z.b=t):
   uu t other (d - 8*(cz.b:Nat)) (yW cz.b cz.n y.bK) s (k7 aV (cz::y::ep++ [z]) s):=by
 have fD:dI aV cz s=s.put t (mU false ((s.a'.drop cz.b).take cz.n)):=by unfold dI;simp only [aJ,oa]
 have gb:=D0 (v:=mU false ((s.a'.drop cz.b).take cz.n)) aH.r bW;rw [<-fD]at gb;have wA:∀s1:cR,dI aV y s1=s1.put t (s1.bI t &&& y.bK):=λs1=>by unfold dI;simp only [aO,xh]
 have bw:dI aV y (dI aV cz s)=(dI aV cz s).put t (mU false ((s.a'.drop cz.b).take cz.n) &&& y.bK):=by rw [wA,gb.hit]
 have fG:=gb.trans (D0 (v:=mU false ((s.a'.drop cz.b).take cz.n) &&& y.bK) gb.len bW);rw [<-bw]at fG;have ao:mU false ((s.a'.drop cz.b).take cz.n) &&& y.bK<2^64:=au6 _ xi;have fU:=fG.trans (hB.exec (aV:=aV) bW fG.len (by rw [fG.hit];exact ao));rw [fG.hit]at fU;have Mg:k7 aV (cz::y::ep++ [z]) s=dI aV z (k7 aV ep (dI aV y (dI aV cz s))):=by simp [k7,axG]
 rw [Mg];generalize k7 aV ep (dI aV y (dI aV cz s))=s1 at fU;have B6:dI aV z s1=s1.put other (s1.bI other ||| s1.bI t):=by unfold dI;simp only [bA,kW,sE]
 rw [B6];have fg:=D0 (v:=s1.bI other ||| s1.bI t) fU.len bp;refine⟨λr aj gX=>(fg.De r gX).trans (fU.De r aj),fg.len,λj=>?_,fg.a'.trans fU.a',fg.out.trans fU.out,fg.has.trans fU.has⟩;rw [fg.hit,aw5,fU.De _ b5,fU.hit,Zp ao]
 congr 2
 unfold KM Ld yW;by_cases U:0<=(j:Int)- d
 · have ae:0<=(j:Int)- (d - 8*(cz.b:Nat)):=bj
   have bw:((j:Int)- (d - 8*(cz.b:Nat))).toNat=8*cz.b+((j:Int)- d).toNat:=bj
   rw [bw];generalize ((j:Int)- d).toNat=i at*;rw [axo,akr aH.pX];have bf:(8*cz.b+i<8*(cz.b+cz.n))↔i<8*cz.n:=bj
   have dj:8*cz.b+i - 8*cz.b=i:=bj
   have fl:8*cz.b<=8*cz.b+i:=bj
   simp only [U,ae,bf,dj,fl,awx,auN];cases decide (i<8*cz.n)<;>cases ll s.a' (8*cz.b+i)<;>cases y.bK.testBit i<;>rfl
 · simp only [U,decide_false,awG];by_cases ae:0<=(j:Int)- (d - 8*(cz.b:Nat))
   · have aM:¬8*cz.b<=((j:Int)- (d - 8*(cz.b:Nat))).toNat:=bj
     simp [aM]
   · simp only [ae,decide_false,awG]
end
end Go.Proofs.YtnkjmbbddmgjiaaGreatDoor