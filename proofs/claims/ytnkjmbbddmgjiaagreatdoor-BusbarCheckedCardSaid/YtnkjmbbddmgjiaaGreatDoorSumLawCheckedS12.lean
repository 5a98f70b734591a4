import Derived.Test.YtnkjmbbddmgjiaaGreatDoorSumLawCheckedS11
set_option linter.unusedSimpArgs false
set_option linter.unusedVariables false
set_option maxRecDepth 1000000
set_option maxHeartbeats 400000000
namespace Go.Proofs.YtnkjmbbddmgjiaaGreatDoor
open Go.RowKit Go.Proofs.Tryz
variable {ap ay:Option Addr}{w w' cy:World}{x y:Operand}{cS:IntKind}{v:Int}{t' ty e:TypeId}{l:List (Nat × Value)}{j ge fH:Nat}{dh:List eJ}{fv:eJ}{es:List Bool}{O:List Ins}
section
attribute [local irreducible] wpList wpQuiet wpStill Code.wp Exit.then Exit.inBlock bodyPost Calls bL eT
theorem YQ(w:World)(p:List Ins)(i:Nat)(aW:∀x∈p,fc x)(aj:∀x∈p,dW x=true){cp:Nat}(cj:dA w ap 5 Ins.cells p)(kS:p.length<=cp)(hlen:p.length<=16384):bd prog 222 [.slice ap p.length cp,.int .i64 (i:Nat)].toArray w
   (λv w'=>nX (p.drop i) v/\Below w.heap.size w w'):=by
 refine dP func222 rfl 15 rfl 17 rfl (λa I=>?_);revert a;refine ad λa I=>?_;refine b6 I yO λa aq aE aT b8 I=>?_;have aB:=ca aT;by_cases ai:p.length<=i
 · have fI:hd (p.drop i)=none:=by rw [ava ai];rfl
   revert a;(repeat first|refine ag ?_|refine J (cA (vs:=[]) (cells:=jR.cells.toArray) bh trivial) ?_);intro a I;refine cE I (cs:=jR.cells.toArray) aE (lh _) λa dt dm cG hn I=>?_;revert a;refine ad λa I=>?_;exact h7 I rfl (agg _ rfl) (aw _ _ rfl) dm rfl rfl ⟨by unfold nX;rw [fI];rfl,aK aB cG aB.size⟩
 · have aI:=(cj.below aB).drop i cp kS;have dv:=aeX aq (p.drop i) (λx hx=>aW x (auG hx)) (λx hx=>aj x (auG hx)) aI (cp:=cp - i) (by rw [atU];omega) (by rw [atU];omega);rw [atU]at dv;revert a;refine ad λa I=>?_;refine aQ I dv λa v ax gF I=>?_;obtain⟨ao,aC⟩:=gF;have aP:=(aC.block _ (bO aE)).trans aE;have dK:=aB.trans (aC.mono aB.size);unfold nX at ao;subst ao;revert a;refine ad λa I=>?_;refine cE I (cs:=((hd (p.drop i)).getD jR).cells.toArray) aP (lh _) λa dt dm cG hn I=>?_;revert a;refine ad λa I=>?_;exact h7 I rfl (agg _ rfl) (aw _ _ rfl) dm rfl rfl ⟨rfl,aK dK cG dK.size⟩
def gR(B:Nat)(m:cQ)(w:World):Prop:=w.heap[B]? =some (.cells m.cells.toArray 286 (0,0))
theorem gR.all{B:Nat}{m:cQ}(h:gR B m w):∀j v,m.cells.toArray[j]? =some v->w.cell? ⟨B,0+j,none⟩=some v:=λj v ah=>aF h (by rw [aub];exact ah)
theorem gR.below{B:Nat}{m:cQ}(h:gR B m w)(hb:Below w.heap.size w w'):gR B m w':=(hb.block _ (bO h)).trans h
section
variable {P:Program} {w:World} {l:List (Nat × Value)}
theorem adF{k:IntKind}{m p:Int}{t:TypeId}(ao:(if m<p then p else m)=v)(hx:a7 l x (.int k m):=by exact rfl)(aO:a7 l y (.int cS p):=by exact rfl):bL P l w (.call { callee:=.builtin .max,args:=[x,y].toArray,argTypes:=[t,t'].toArray }) ty (.int k v) w:=by subst ao;exact SG hx aO
theorem SH{k:IntKind}{m p:Int}{t:TypeId}(ao:(if p<m then p else m)=v)(hx:a7 l x (.int k m):=by exact rfl)(aO:a7 l y (.int cS p):=by exact rfl):bL P l w (.call { callee:=.builtin .min,args:=[x,y].toArray,argTypes:=[t,t'].toArray }) ty (.int k v) w:=by subst ao;exact H3 hx aO
end
theorem ak4(a b:Nat):(if (b:Int) <(a:Int)then(b:Int)else(a:Int))=((min a b:Nat):Int):=by
 split<;>omega
theorem akP(a b:Nat):(if (a:Int) <(b:Int)then(b:Int)else(a:Int))=((max a b:Nat):Int):=by
 split<;>omega
theorem Zx{b bq ai k:Nat}(hb:b<2^(8*(ai - bq)))(U:k<=bq)(ae:bq<ai)(aM:ai<=8):b*2^(8*(bq - k)) <2^64:=by
 refine auj (avM hb (avL _)) ?_;rw [<-avZ];exact aum bk bj
theorem ajt(w:World)(m o:cQ)(hm:nj m)(bp:nj o):bd prog 224 [.agg m.cells.toArray,.agg o.cells.toArray].toArray w (λv w'=>v=.agg (kX m o).cells.toArray/\Below w.heap.size w w'):=by
 have m1:=hm.lt;have m2:=hm.ai;have vy:=bp.lt;have kb:=bp.ai;refine dP func224 rfl 36 rfl 38 rfl (λa I=>?_);revert a;refine ad λa I=>?_;refine di I rfl (k:=λa aq aE aT b8 I=>?_);refine di I rfl (k:=λa ax aP aS cZ I=>?_);refine b6 I yO λa a6 bR bz eE I=>?_;have aB:=ca aT;have aC:=aB.trans ((ca aS).mono aB.size);have a1:=aC.trans ((ca bz).mono aC.size);have bs:gR w.heap.size m a6:=aD (aD aE aS bl) bz bl;have dH:gR aq.heap.size o a6:=aD aP bz bl;have lS:=bO aE;have eB:=bO aP;clear aE aP aT aS bz aB aC;have HO:a6.cell? ⟨w.heap.size,0+4,none⟩=some (.int .i64 (m.bq:Nat)):=aF bs rfl;have Sn:a6.cell? ⟨w.heap.size,0+6,none⟩=some (.int .u64 (m.bits:Nat)):=aF bs rfl;have Sq:a6.cell? ⟨aq.heap.size,0+4,none⟩=some (.int .i64 (o.bq:Nat)):=aF dH rfl;have Sr:a6.cell? ⟨aq.heap.size,0+6,none⟩=some (.int .u64 (o.bits:Nat)):=aF dH rfl;have va:=ak4 m.bq o.bq;have bw:(8:Int)*((m.bq:Nat)- (min m.bq o.bq:Nat):Int)=((8*(m.bq - min m.bq o.bq):Nat):Int):=bj
 have bf:(8:Int)*((o.bq:Nat)- (min m.bq o.bq:Nat):Int)=((8*(o.bq - min m.bq o.bq):Nat):Int):=bj
 have s1:=Zx hm.bits (aza m.bq o.bq) m1 m2;have s2:=Zx bp.bits (axW m.bq o.bq) vy kb;have jO:min m.bq o.bq<=8:=bj
 generalize au:min m.bq o.bq=k at*;have DC:m.bits*2^(8*(m.bq - k)) <2^IntKind.u64.bits:=s1;have Kz:o.bits*2^(8*(o.bq - k)) <2^IntKind.u64.bits:=s2;revert a;(repeat first|(intro a I;(refine kI 2 18 mixed bh ?_;simp only [aul,auA,at5,aus]);revert a)|refine ag ?_|refine J (SH va) ?_|refine b4 (SH va) ?_|refine J (n9 (m:=8) (n:=((m.bq:Nat)- (k:Nat):Int)) rfl rfl bj) ?_|refine b4 (n9 (m:=8) (n:=((m.bq:Nat)- (k:Nat):Int)) rfl rfl bj) ?_|refine J (n9 (m:=8) (n:=((o.bq:Nat)- (k:Nat):Int)) rfl rfl bj) ?_|refine b4 (n9 (m:=8) (n:=((o.bq:Nat)- (k:Nat):Int)) rfl rfl bj) ?_|refine J (wv (a:=m.bits) (b:=8*(m.bq - k)) rfl rfl rfl bw rfl (by show _<=64;omega) DC) ?_|refine b4 (wv (a:=m.bits) (b:=8*(m.bq - k)) rfl rfl rfl bw rfl (by show _<=64;omega) DC) ?_|refine J (wv (a:=o.bits) (b:=8*(o.bq - k)) rfl rfl rfl bf rfl (by show _<=64;omega) Kz) ?_|refine b4 (wv (a:=o.bits) (b:=8*(o.bq - k)) rfl rfl rfl bf rfl (by show _<=64;omega) Kz) ?_|refine J (fi (a:=m.bits*2^(8*(m.bq - k))) (b:=o.bits*2^(8*(o.bq - k))) rfl rfl rfl rfl rfl DC Kz) ?_|refine b4 (fi (a:=m.bits*2^(8*(m.bq - k))) (b:=o.bits*2^(8*(o.bq - k))) rfl rfl rfl rfl rfl DC Kz) ?_|refine J (af HO) ?_|refine b4 (af HO) ?_|refine J (af Sn) ?_|refine b4 (af Sn) ?_|refine J (af Sq) ?_|refine b4 (af Sq) ?_|refine J (af Sr) ?_|refine b4 (af Sr) ?_);intro a I;refine cr I (aw _ _ rfl) (show(a6.drewN 1).heap[w.heap.size]? =_ from bs) (i:=0+6) (by show 0+6<8;decide) rfl rfl rfl (k:=λa bZ bX bD eY I=>?_);replace bD:=iQ bD;have q':gR w.heap.size { m with bits:=m.bits*2^(8*(m.bq - k)) ||| o.bits*2^(8*(o.bq - k)) } bZ:=bX;have IK:gR aq.heap.size o bZ:=aD dH bD bm;have mv:=aD bR bD bm;have b7:=aK a1 bD a1.size;have acX:bZ.cell? ⟨w.heap.size,0+5,none⟩=some (.int .i64 (m.ai:Nat)):=aF q' rfl;have aqF:bZ.cell? ⟨aq.heap.size,0+5,none⟩=some (.int .i64 (o.ai:Nat)):=aF IK rfl;have u':=akP m.ai o.ai;have adh:∀ak,gR aq.heap.size o ak->ak.cell? ⟨aq.heap.size,0+5,none⟩=some (.int .i64 (o.ai:Nat)):=λak h=>aF h rfl;revert a;(repeat first|(intro a I;(refine gJ (λak:World=>gR aq.heap.size o ak) [(0,true),(1,true),(3,true),(4,true),(2,false),(5,true),(6,true),(7,false),(8,true),(9,false)] 3 mixed bh IK ?_;simp only [fF,atZ,at1,aug,atS,atO]);revert a)|refine ag ?_);intro a I;revert a;(repeat first|refine e3 ?_|refine cB (λak ar=>af (adh ak ar)) ?_);intro a I;refine c7 ?_;refine st I (af (show(bZ.drewN 1).cell? ⟨w.heap.size,0+5,none⟩=some (.int .i64 (m.ai:Nat))from acX)) rfl (λa I=>atJ ⟨rfl,IK,?_⟩);revert a;(repeat first|refine e3 ?_|refine cB (λak ar=>adF u') ?_);intro a I;refine c7 ?_;refine cr I (aw _ _ rfl) (show(bZ.drewN 1).heap[w.heap.size]? =_ from q') (i:=0+4) (by show 0+4<8;decide) rfl rfl rfl (k:=λa bN bB br dw I=>?_);replace br:=iQ br;have Uj:gR aq.heap.size o bN:=aD IK br bm;refine atJ ⟨rfl,Uj,?_⟩;revert a;refine hH λa I=>?_;refine c7 ?_;refine cr I (aw _ _ rfl) bB (i:=0+5) (by show 0+5<8;decide) rfl rfl rfl (k:=λa bQ cI cM fm I=>?_);refine atJ ⟨rfl,aD Uj cM bm,?_⟩;refine fj ?_;have EZ:gR w.heap.size (kX m o) bQ:=by
  have e:kX m o={ m with bq:=k,ai:=max m.ai o.ai,bits:=m.bits*2^(8*(m.bq - k)) ||| o.bits*2^(8*(o.bq - k)) }:=by
   unfold kX;rw [au,ayY,ayY]
  rw [e];exact cI
 have Jo:=aD (aD mv br bm) cM bm;have cx:=aK b7 br b7.size;have bP:=aK cx cM cx.size;revert a;(repeat first|refine ag ?_|refine J (bJ EZ.all) ?_);intro a I;refine cE I (cs:=(kX m o).cells.toArray) Jo (lh _) λa bt c8 cf fZ I=>?_;revert a;refine ad λa I=>?_;exact ff I rfl (agg _ rfl) (aw _ _ rfl) c8 rfl ⟨rfl,aK bP cf bP.size⟩
section
variable {P:Program} {Q:Exit->Act->World->Prop} {a:Act} {w:World}
theorem abE(id:Nat){c y:Code}(gQ:Act->World->Prop)(U:Lb ((Code.block id c).wp P (Exit.then (λaU w'=>gQ aU w') Q) a w))(ae:∀aU w',gQ aU w'->y.wp P Q aU w'):(Code.seq (Code.block id c) y).wp P Q a w:=Lw gQ U.out ae
end
theorem Ym{base n s:Nat}{cs:Array Value}(av:cs.size=n*s)(hb:base<=w.heap.size)(ba:n<=maxLen):(w.alloc (.cells cs e)).ownsRow base e s (.slice (some ⟨w.heap.size,0,none⟩) n n) n cs.toList:=by
 refine⟨by simp [av],.inr ⟨w.heap.size,n,cs,rfl,hb,auE w _,atI _,ba,av,?_⟩⟩;rw [awI (by simp [av])]
def kr(m:cQ):List Ins:=if m.jf=true then [⟨2,m.t,m.other,0,0⟩]else [⟨9,m.t,m.bq,m.ai - m.bq,0⟩,⟨8,m.t,0,0,m.bits⟩]
def C'(m:cQ):Ins:=if m.jf=true then⟨13,m.t,m.bq,m.ai - m.bq,m.bits⟩else⟨4,m.other,m.t,0,0⟩
theorem ac4(m:cQ):gK m=kr m++hV m.t (l0 m)++ [C' m]:=by unfold gK kr C';split<;>simp
theorem akV(w:World)(m:cQ)(hm:nj m):bd prog 171 [.agg m.cells.toArray].toArray w (λv w'=>(∃ay c,v=.slice ay (gK m).length c/\w'.ownsRow w.heap.size 66 5 (.slice ay (gK m).length c) (gK m).length ((gK m).flatMap Ins.cells))/\Below w.heap.size w w'):=by
 have m1:=hm.lt;have m2:=hm.ai;have mt:=hm.t;have PD:=hm.other;have s1:=hm.s1;have s2:=hm.s2;have pD:m.bits<2^64:=auj hm.bits (aum bk bj);have tt: -127<=m.fQ/\m.fQ<=127:=by unfold l0 at s1 s2;split at s1<;>rename_i ai<;>simp only [ai,ayw,axp,awe]at s2<;>omega
 refine cF func171 rfl 100 rfl 101 rfl (λa I=>?_);revert a;refine ad λa I=>?_;refine di I rfl (k:=λa aq aE aT b8 I=>?_);have M5:gR w.heap.size m aq:=aE;have aB:=ca aT;have cells:∀ak,gR w.heap.size m ak->ak.cell? ⟨w.heap.size,0+0+0,none⟩=some (.bool m.jf)/\ak.cell? ⟨w.heap.size,0+0+1,none⟩=some (.int .i64 (m.t:Nat))/\ak.cell? ⟨w.heap.size,0+0+2,none⟩=some (.int .i64 (m.other:Nat))/\ak.cell? ⟨w.heap.size,0+0+3,none⟩=some (.int .i64 m.fQ)/\ak.cell? ⟨w.heap.size,0+4,none⟩=some (.int .i64 (m.bq:Nat))/\ak.cell? ⟨w.heap.size,0+5,none⟩=some (.int .i64 (m.ai:Nat))/\ak.cell? ⟨w.heap.size,0+6,none⟩=some (.int .u64 (m.bits:Nat)):=λak h=>⟨aF h rfl,aF h rfl,aF h rfl,aF h rfl,aF h rfl,aF h rfl,aF h rfl⟩;obtain⟨c0,bM,c2,c3,c4,c5,kj⟩:=cells aq M5;have AG:((m.ai:Nat):Int)- ((m.bq:Nat):Int)=((m.ai - m.bq:Nat):Int):=bj
 revert a;(repeat first|refine ag ?_|refine J (cA (vs:=[(0,.int .i64 2),(1,.int .i64 (m.t:Nat)),(2,.int .i64 (m.other:Nat))]) (cells:=(Ins.cells ⟨2,m.t,m.other,0,0⟩).toArray) bh ⟨rfl,rfl,rfl,rfl,rfl,rfl,trivial⟩) ?_|refine J (af bM) ?_|refine J (af c2) ?_);intro a I;refine st I (np (us:=(Ins.cells ⟨2,m.t,m.other,0,0⟩).toArray) (aA _ _ rfl) fK bk bk rfl) rfl (λa I=>?_);have e0:=Ym (w:=aq) (base:=w.heap.size) (n:=1) (s:=5) (e:=66) (cs:=(Ins.cells ⟨2,m.t,m.other,0,0⟩).toArray) rfl aB.size bn;have aS:=auw aq (.cells (Ins.cells ⟨2,m.t,m.other,0,0⟩).toArray 66) none;have aC:=aB.trans ((ca aS).mono aB.size);have se:gR w.heap.size m (aq.alloc (.cells (Ins.cells ⟨2,m.t,m.other,0,0⟩).toArray 66)):=aD M5 aS bl;generalize aq.alloc (.cells (Ins.cells ⟨2,m.t,m.other,0,0⟩).toArray 66)=ax at*;clear c0 bM c2 c3 c4 c5 kj M5 aE aT aS;obtain⟨c0,bM,c2,c3,c4,c5,kj⟩:=cells ax se;revert a;(repeat first|(intro a I;(refine ma 3 (λa cm=>∃g n,Fr 101 [(1,.pointer (some ⟨w.heap.size,0,none⟩)),(3,.slice (some ⟨g,0,none⟩) n n),(4,.int .i64 (l0 m))] a/\n=(kr m).length/\cm.ownsRow w.heap.size 66 5 (.slice (some ⟨g,0,none⟩) n n) n ((kr m).flatMap Ins.cells)/\gR w.heap.size m cm/\Below w.heap.size w cm) ?_ ?_);revert a)|refine ag ?_|refine J (n9 (m:=8) (n:=(m.bq:Nat)) rfl rfl bj) ?_|refine J (af c3) ?_|refine J (af c4) ?_);intro a I
 · refine⟨?_⟩;cases ai:m.jf with
   |true=>
     have bw:kr m=[⟨2,m.t,m.other,0,0⟩]:=by unfold kr;rw [atM ai]
     have bf:l0 m=m.fQ - 8*(m.bq:Nat):=by unfold l0;rw [atM ai]
     rw [ai]at c0;revert a;(repeat first|refine ag ?_|refine J (af c0) ?_);intro a I;exact⟨aq.heap.size,1,by rw [bf];exact I.bb,by rw [bw];rfl,by rw [bw];simpa using e0,se,aC⟩
   |false=>
     have bw:kr m=[⟨9,m.t,m.bq,m.ai - m.bq,0⟩,⟨8,m.t,0,0,m.bits⟩]:=by unfold kr;rw [atK (by rw [ai];decide)]
     have bf:l0 m=m.fQ+8*(m.bq:Nat):=by unfold l0;rw [atK (by rw [ai];decide)]
     rw [ai]at c0;revert a;(repeat first|refine ag ?_|refine J (uE (cA (vs:=[(0,.int .i64 9),(1,.int .i64 (m.t:Nat)),(2,.int .i64 (m.bq:Nat)),(3,.int .i64 ((m.ai:Nat)- (m.bq:Nat):Int))]) (cells:=#[.int .i64 9,.int .i64 (m.t:Nat),.int .i64 (m.bq:Nat),.int .i64 ((m.ai:Nat)- (m.bq:Nat):Int),.int .u64 0]) bh ⟨rfl,rfl,rfl,rfl,rfl,rfl,rfl,rfl,trivial⟩) (show _=Value.agg (Ins.cells ⟨9,m.t,m.bq,m.ai - m.bq,0⟩).toArray by rw [AG];rfl)) ?_|refine J (cA (vs:=[(0,.int .i64 8),(1,.int .i64 (m.t:Nat)),(4,.int .u64 (m.bits:Nat))]) (cells:=(Ins.cells ⟨8,m.t,0,0,m.bits⟩).toArray) bh ⟨rfl,rfl,rfl,rfl,rfl,rfl,trivial⟩) ?_|refine J (af c0) ?_|refine J (af bM) ?_|refine J (af c4) ?_|refine J (af c5) ?_|refine J (af kj) ?_);intro a I;refine st I (oT (us:=[(Ins.cells ⟨9,m.t,m.bq,m.ai - m.bq,0⟩).toArray,(Ins.cells ⟨8,m.t,0,0,m.bits⟩).toArray]) (aA _ _ rfl) fK bk bk bk rfl (by simp [Ins.cells]) ⟨rfl,rfl,rfl,rfl,trivial⟩) rfl (λa I=>?_);have pK:=Ym (w:=ax) (base:=w.heap.size) (n:=2) (s:=5) (e:=66) (cs:=([(Ins.cells ⟨9,m.t,m.bq,m.ai - m.bq,0⟩).toArray,(Ins.cells ⟨8,m.t,0,0,m.bits⟩).toArray].flatMap λu=>u.toList).toArray) (by simp [Ins.cells]) aC.size bn;have bz:=auw ax (.cells ([(Ins.cells ⟨9,m.t,m.bq,m.ai - m.bq,0⟩).toArray,(Ins.cells ⟨8,m.t,0,0,m.bits⟩).toArray].flatMap λu=>u.toList).toArray 66) none;have a1:=aC.trans ((ca bz).mono aC.size);have uT:gR w.heap.size m _:=aD se bz bl;generalize ax.alloc (.cells ([(Ins.cells ⟨9,m.t,m.bq,m.ai - m.bq,0⟩).toArray,(Ins.cells ⟨8,m.t,0,0,m.bits⟩).toArray].flatMap λu=>u.toList).toArray 66)=a6 at*;obtain⟨d0,d1,d2,d3,d4,d5,d6⟩:=cells a6 uT;revert a;(repeat first|refine ag ?_|refine J (n9 (m:=8) (n:=(m.bq:Nat)) rfl rfl bj) ?_|refine J (af d3) ?_|refine J (af d4) ?_);intro a I;exact⟨ax.heap.size,2,by rw [bf];exact I.bb,by rw [bw];rfl,by rw [bw];simpa using pK,uT,a1⟩
 clear I e0 se aC c0 bM c2 c3 c4 c5 kj a;rintro a bZ ⟨g,n,I,rfl,bp,bs,hb⟩;rw [ac4];obtain⟨c0,bM,c2,c3,c4,c5,kj⟩:=cells bZ bs;generalize asx:l0 m=s at I s1 s2 ⊢;have agZ:(kr m).length<=2:=by unfold kr;split<;>simp
 revert a;(repeat (intro a I;(refine abE 0 (λa cm=>∃ay c,Fr 101 [(1,.pointer (some ⟨w.heap.size,0,none⟩)),(3,.slice ay (kr m++hV m.t s).length c)] a/\cm.ownsRow w.heap.size 66 5 (.slice ay (kr m++hV m.t s).length c) (kr m++hV m.t s).length ((kr m++hV m.t s).flatMap Ins.cells)/\gR w.heap.size m cm/\Below w.heap.size w cm) ?_ ?_);revert a));intro a I
 · refine⟨?_⟩;have push:∀(y:Ins) (aU:Act) (eM:Option Addr) (fr:Nat) (w':World),hV m.t s=[y]->w'.ownsRow w.heap.size 66 5 (.slice eM ((kr m).length+1) fr) ((kr m).length+1) ((kr m).flatMap Ins.cells++y.cells.toArray.toList)->Fr 101 [(1,.pointer (some ⟨w.heap.size,0,none⟩)),(3,.slice eM ((kr m).length+1) fr)] aU->gR w.heap.size m w'->Below w.heap.size w w'->∃ay c,Fr 101 [(1,.pointer (some ⟨w.heap.size,0,none⟩)),(3,.slice ay (kr m++hV m.t s).length c)] aU/\w'.ownsRow w.heap.size 66 5 (.slice ay (kr m++hV m.t s).length c) (kr m++hV m.t s).length ((kr m++hV m.t s).flatMap Ins.cells)/\gR w.heap.size m w'/\Below w.heap.size w w':=λy aU eM fr w' aO bp I bs hb=>by
     rw [aO];exact⟨eM,fr,by simpa using I,by simpa using bp,bs,hb⟩
   by_cases aW:0<s
   · obtain⟨k,rfl⟩:∃k:Nat,s=(k:Int):=⟨s.toNat,bj⟩;have aO:hV m.t (k:Int)=[⟨6,m.t,0,k,0⟩]:=by unfold hV;rw [atM aW,avJ]
     revert a;(repeat first|refine ag ?_|refine J (cA (vs:=[(0,.int .i64 6),(1,.int .i64 (m.t:Nat)),(3,.int .i64 (k:Nat))]) (cells:=(Ins.cells ⟨6,m.t,0,k,0⟩).toArray) bh ⟨rfl,rfl,rfl,rfl,rfl,rfl,trivial⟩) ?_|refine J (af bM) ?_);intro a I;refine zk I (us:=(Ins.cells ⟨6,m.t,0,k,0⟩).toArray) (aA _ _ rfl) fK rfl bk bk rfl (jN _) bp bj bn hb.size (k:=λa eM fr cD rq bE lL I=>?_);revert a;refine ad λa I=>?_;exact push _ _ eM fr _ aO rq (I.bb) (aD bs bE (jk bp bs bk)) (j0 hb hb.size bp bE)
   · by_cases ba:s<0
     · obtain⟨k,au⟩:∃k:Nat,(0:Int)- s=(k:Int):=⟨(-s).toNat,bj⟩;have aO:hV m.t s=[⟨7,m.t,0,k,0⟩]:=by unfold hV;rw [atK aW,atM ba,show(-s).toNat=k by omega]
       revert a;(repeat first|refine ag ?_|refine J (uE (L6 (m:=s) rfl bj) (show _=Value.int .i64 (k:Nat) by rw [au])) ?_|refine J (cA (vs:=[(0,.int .i64 7),(1,.int .i64 (m.t:Nat)),(3,.int .i64 (k:Nat))]) (cells:=(Ins.cells ⟨7,m.t,0,k,0⟩).toArray) bh ⟨rfl,rfl,rfl,rfl,rfl,rfl,trivial⟩) ?_|refine J (af bM) ?_);intro a I;refine zk I (us:=(Ins.cells ⟨7,m.t,0,k,0⟩).toArray) (aA _ _ rfl) fK rfl bk bk rfl (jN _) bp bj bn hb.size (k:=λa eM fr cD rq bE lL I=>?_);revert a;refine ad λa I=>?_;exact push _ _ eM fr _ aO rq (I.bb) (aD bs bE (jk bp bs bk)) (j0 hb hb.size bp bE)
     · have aO:hV m.t s=[]:=by unfold hV;rw [atK aW,atK ba]
       revert a;refine ad λa I=>?_;rw [aO,avC];exact⟨_,_,I.bb,bp,bs,hb⟩
 clear I bp bs hb c0 bM c2 c3 c4 c5 kj a;rintro a bN ⟨ay,c,I,bp,bs,hb⟩;obtain⟨c0,bM,c2,c3,c4,c5,kj⟩:=cells bN bs;have sw:(kr m++hV m.t s).length<=3:=by
   have:(hV m.t s).length<=1:=by unfold hV;split<;>(try split)<;>simp
   rw [atV];omega
 generalize kr m++hV m.t s=l at*;cases ai:m.jf with
 |true=>
   have el:C' m=⟨13,m.t,m.bq,m.ai - m.bq,m.bits⟩:=by unfold C';rw [atM ai]
   rw [ai]at c0;rw [el];revert a;(repeat first|refine ag ?_|refine J (uE (cA (vs:=[(0,.int .i64 13),(1,.int .i64 (m.t:Nat)),(2,.int .i64 (m.bq:Nat)),(3,.int .i64 ((m.ai:Nat)- (m.bq:Nat):Int)),(4,.int .u64 (m.bits:Nat))]) (cells:=#[.int .i64 13,.int .i64 (m.t:Nat),.int .i64 (m.bq:Nat),.int .i64 ((m.ai:Nat)- (m.bq:Nat):Int),.int .u64 (m.bits:Nat)]) bh ⟨rfl,rfl,rfl,rfl,rfl,rfl,rfl,rfl,rfl,rfl,trivial⟩) (show _=Value.agg (Ins.cells ⟨13,m.t,m.bq,m.ai - m.bq,m.bits⟩).toArray by rw [AG];rfl)) ?_|refine J (af c0) ?_|refine J (af bM) ?_|refine J (af c4) ?_|refine J (af c5) ?_|refine J (af kj) ?_);intro a I;refine zk I (us:=(Ins.cells ⟨13,m.t,m.bq,m.ai - m.bq,m.bits⟩).toArray) (aA _ _ rfl) fK rfl bk bk rfl (jN _) bp bj bn hb.size (k:=λa eM fr cD rq bE lL I=>?_);revert a;refine ad λa I=>?_;exact bc I rfl rfl ⟨⟨eM,fr,bl,by simpa using rq⟩,j0 hb hb.size bp bE⟩
 |false=>
   have el:C' m=⟨4,m.other,m.t,0,0⟩:=by unfold C';rw [atK (by rw [ai];decide)]
   rw [ai]at c0;rw [el];revert a;(repeat first|refine ag ?_|refine J (cA (vs:=[(0,.int .i64 4),(1,.int .i64 (m.other:Nat)),(2,.int .i64 (m.t:Nat))]) (cells:=(Ins.cells ⟨4,m.other,m.t,0,0⟩).toArray) bh ⟨rfl,rfl,rfl,rfl,rfl,rfl,trivial⟩) ?_|refine J (af c0) ?_|refine J (af bM) ?_|refine J (af c2) ?_);intro a I;refine zk I (us:=(Ins.cells ⟨4,m.other,m.t,0,0⟩).toArray) (aA _ _ rfl) fK rfl bk bk rfl (jN _) bp bj bn hb.size (k:=λa eM fr cD rq bE lL I=>?_);revert a;refine ad λa I=>?_;exact bc I rfl rfl ⟨⟨eM,fr,bl,by simpa using rq⟩,j0 hb hb.size bp bE⟩
theorem Sv(x:Ins)(l:List Bool)(i:Nat):(kK x l i).length=l.length:=by unfold kK;split<;>simp
theorem aem{x:Ins}{p:List Ins}{l:List Bool}{i:Nat}(ai:i<l.length):l.take i++mK (x::p) (l.drop i)=(kK x l i).take (i+1)++mK p ((kK x l i).drop (i+1)):=by
 have wF:(l.drop i).tail=l.drop (i+1):=bl
 have bw:(kK x l i).take (i+1)=l.take (i+1):=by unfold kK;split<;>simp [azs]
 have bf:(kK x l i).drop (i+1)=if dx x=true then(l.drop (i+1)).set x.n true else l.drop (i+1):=by
  unfold kK;split
  · rw [ayM,atK bj,show i+1+x.n - (i+1)=x.n by omega]
  · rfl
 rw [mK,wF,bw,bf,ayD,auL,avo];have:l[i]?.toList=[l[i]?.getD false]:=by rw [atT ai];rfl
 rw [this,auJ];rfl
theorem aeq(w:World)(p:List Ins)(o2:l8 p){cp:Nat}(cj:dA w ap 5 Ins.cells p)(hlen:p.length<=16384):bd prog 168 [.slice ap p.length cp].toArray w
   (λv w'=>∃g,v=.slice (some ⟨g,0,none⟩) (p.length+1) (p.length+1)/\w.heap.size<=g/\gx w' g (mK p (List.replicate (p.length+1) false))/\Below w.heap.size w w'):=by
 have lO:((p.length:Nat):Int)+1=((p.length+1:Nat):Int):=bj
 refine cF func168 rfl 27 rfl 28 rfl (λa I=>?_);revert a;refine ad λa I=>?_;refine oJ I (aA _ _ rfl) Gi rfl (c:=p.length+1) (base:=w.heap.size) bj bn (atI _) lO (k:=λa aq eo aT I=>?_);have mM:gx aq w.heap.size (List.replicate (p.length+1) false):=by have:=vB eo;unfold gx;rw [this,awc]
 have aB:=ca aT;clear eo aT;revert a;refine ad λa I=>?_;refine eg (λq a wr=>∃(i:Nat) (l:List Bool),i<=p.length/\q=p.length - i/\Fr 28 [(3,.slice (some ⟨w.heap.size,0,none⟩) (p.length+1) (p.length+1)),(10,.slice ap p.length cp),(11,.int .i64 (p.length:Nat)),(12,.int .i64 (i:Nat))] a/\l.length=p.length+1/\mK p (List.replicate (p.length+1) false)=l.take i++mK (p.drop i) (l.drop i)/\gx wr w.heap.size l/\Below w.heap.size w wr) p.length
   ⟨0,_,auc _,rfl,I.bb,bl,rfl,mM,aB⟩ ?_
 clear I mM aB lO;rintro q a wr ⟨i,l,ai,rfl,I,sw,mn,aH,hb⟩;by_cases bu:i<p.length
 · obtain⟨g,o,rfl,av⟩:=(cj.below hb) i bu;have j9:=DL o2 bu;rw [aua bu,aem bj]at mn;generalize p[i]=x at av mn j9;replace av:∀j v,x.cells.toArray[j]? =some v->wr.cell? ⟨g,o+i*5+j,none⟩=some v:=λj v ah=>av j v (by simpa using ah);revert a;(repeat first|refine ag ?_|refine J (dq (j:=i)) ?_|refine J (bJ av) ?_);intro a I;refine b6 I fK λa bN bB br dw I=>?_;revert a;refine ad λa I=>?_;refine cE I (cs:=x.cells.toArray) bB (jN x) λa bQ cI cM fm I=>?_;have Ad:dd wr.heap.size x bQ:=cI;have nz:=bO aH;have gB:gx bQ w.heap.size l:=aD (aH.below (ca br)) cM bm;have cx:=hb.trans ((ca br).mono hb.size);have bP:=aK cx cM cx.size;revert a;(repeat first|refine ag ?_|refine J (bJ Ad.all) ?_);intro a I;refine aQ I (QD bQ x) λa v bt gF I=>?_;obtain⟨rfl,b2⟩:=gF;have aL:=Ad.below b2;have pz:=gB.below b2;have o0:=bP.trans (b2.mono bP.size);have db:bt.cell? ⟨wr.heap.size,0+3,none⟩=some (.int .i64 (x.n:Nat)):=aF aL rfl;clear bB br cI cM cx aH hb av gB bP Ad;cases ah:dx x with
   |true=>
    rw [ah]at I;have C3:=j9 ah;revert a;(repeat first|refine ag ?_|refine J (gT (j:=i+1+x.n) rfl rfl bj bj) ?_|refine J (af db) ?_);intro a I;refine cr I (aw _ _ rfl) pz (i:=0+(i+1+x.n)) bm rfl rfl rfl (k:=λa cD en bE hl I=>?_);revert a;refine ad λa I=>?_;exact⟨p.length - (i+1),bj,i+1,kK x l i,bj,rfl,I.bb,by rw [Sv,sw],mn,by unfold kK;rw [atM ah];exact gx.set en,aK o0 bE o0.size⟩
   |false=>
    rw [ah]at I;revert a;refine ad λa I=>?_;exact⟨p.length - (i+1),bj,i+1,kK x l i,bj,rfl,I.bb,by rw [Sv,sw],mn,by unfold kK;rw [atK (by rw [ah];decide)];exact pz,o0⟩
 · obtain rfl:i=p.length:=bj
   rw [auD,mK,awd]at mn;revert a;refine ad λa I=>?_;exact bc I rfl rfl ⟨_,rfl,atI _,by rw [mn];exact aH,hb⟩
def qh(B:Nat)(a:eJ)(w:World):Prop:=w.heap[B]? =some (.cells (er a).toArray 291 (0,0))
theorem qh.cell{B:Nat}{a:eJ}(h:qh B a w){r:Nat}(aj:r<16):w.cell? ⟨B,0+r,none⟩=some (.bool (a r)):=aF h (Kt a aj)
theorem qh.all{B:Nat}{a:eJ}(h:qh B a w):∀j v,(er a).toArray[j]? =some v->w.cell? ⟨B,0+j,none⟩=some v:=λj v ah=>aF h (by rw [aub];exact ah)
def l6(w:World)(g:Nat)(dh:List eJ):Prop:=w.heap[g]? =some (.cells (dh.flatMap er).toArray 291 (0,0))
theorem l6.all{g:Nat}(h:l6 w g dh)(ah:dh[j]? =some fv):∀q v,(er fv).toArray[q]? =some v->w.cell? ⟨g,0+j*16+q,none⟩=some v:=by
 obtain⟨aN,he⟩:=atY.1 ah;intro q v aZ;have pL:(er fv)[q]? =some v:=by simpa using aZ
 have Ot:q<16:=by have:=(atY.1 pL).1;rwa [vG]at this
 refine aF h ?_;rw [aub];have:=flat_get vG dh j aN q Ot;rw [he,pL]at this;simpa using this
theorem l6.set{g:Nat}(ah:j<dh.length)(h:w.heap[g]? =some (.cells ((dh.flatMap er).toArray.toList.take (0+j*16)++(er fv).toArray.toList++(dh.flatMap er).toArray.toList.drop (0+j*16+16)).toArray 291 (0,0))):l6 w g (dh.set j fv):=by
 unfold l6;rw [h];have e:=zX vG (cs:=er fv) (p:=0) (q:=16) dh j ah fv bk bk (by rw [auA,ava (by rw [vG];exact atI _)];simp);rw [<-e];simp
theorem l6.below{g:Nat}(h:l6 w g dh)(hb:Below w.heap.size w w'):l6 w' g dh:=(hb.block _ (bO h)).trans h
def o7(p:List Ins)(j:Nat):eJ:=nK (p.drop j)
theorem alj{p:List Ins}{i:Nat}(ai:i<p.length):o7 p i=Gv p[i] (o7 p (i+1)) (o7 p (i+1+p[i].n)):=by
 have h:=X5 p[i] (p.drop (i+1));rw [<-aua ai,auQ]at h;exact h
def zF(x:Ins)(dC eF:eJ):eJ:=λr=>(fs x&&dC r)||(dx x&&eF r)
theorem alk(w:World)(p:List Ins)(cT:∀i (h:i<p.length),dW p[i]=true)(o2:l8 p){cp:Nat}(cj:dA w ap 5 Ins.cells p)(hlen:p.length<=16384):bd prog 169 [.slice ap p.length cp].toArray w
  (λv w'=>∃g dh,v=.slice (some ⟨g,0,none⟩) (p.length+1) (p.length+1)/\w.heap.size<=g/\l6 w' g dh/\dh.length=p.length+1/\(∀j,j<=p.length->dh[j]? =some (o7 p j))/\Below w.heap.size w w'):=by
 have lO:((p.length:Nat):Int)+1=((p.length+1:Nat):Int):=bj
 refine cF func169 rfl 106 rfl 107 rfl (λa I=>?_);revert a;refine ad λa I=>?_;refine QG I (aA _ _ rfl) WQ (c:=p.length+1) (base:=w.heap.size) bj bn (atI _) lO (k:=λa aq eo aT I=>?_);have sh:l6 aq w.heap.size (List.replicate (p.length+1) oH):=by
  have:=vB eo;exact this.trans (atW (λl:List Value=>some (Obj.cells l.toArray 291 (0,0))) (XE (p.length+1) _ rfl))
 have aB:=ca aT;clear eo aT lO;revert a;refine ad λa I=>?_;refine eg (λk a wr=>∃(dh:List eJ),k<=p.length/\Fr 107 [(0,.slice ap p.length cp),(3,.slice (some ⟨w.heap.size,0,none⟩) (p.length+1) (p.length+1)),(4,.int .i64 (((k:Nat):Int)- 1))] a/\dh.length=p.length+1/\(∀j,k<=j->j<=p.length->dh[j]? =some (o7 p j))/\l6 wr w.heap.size dh/\Below w.heap.size w wr) p.length
  ⟨_,atI _,I.bb,bl,λj U ae=>by
    obtain rfl:j=p.length:=bj
    have e:o7 p p.length=oH:=by unfold o7;rw [auD,nK]
    rw [e];simp [au0],sh,aB⟩ ?_
 clear I sh aB;rintro k a wr ⟨dh,au,I,tH,j7,ab,hb⟩;cases k with
 |zero=>
  revert a;refine ad λa I=>?_;exact bc I rfl rfl ⟨_,dh,rfl,atI _,ab,tH,λj ah=>j7 j (auc _) ah,hb⟩
 |succ i=>
  have bu:i<p.length:=au;rw [show(((i+1:Nat):Int)- 1)=((i:Nat):Int) by omega]at I;obtain⟨g,o,rfl,av⟩:=(cj.below hb) i bu;have aj:=cT i bu;have j9:=DL o2 bu;have gY:=alj bu;have jL:=j7 (i+1) bj bj;have mq:dx p[i]=true->dh[i+1+p[i].n]? =some (o7 p (i+1+p[i].n)):=λh=>j7 _ bj (by have:=j9 h;omega);generalize p[i]=x at av aj j9 gY mq;have ft:x.op<20:=by obtain⟨a8,dz,_⟩:=nS aj;exact tT dz
  have re:fh x=true->x.a<16:=λh=>jB aj (.inl h);have vf:∀r∈hD x,r<16:=za aj;generalize o7 p (i+1)=dC at gY jL;generalize o7 p (i+1+x.n)=eF at gY mq;replace av:∀j v,x.cells.toArray[j]? =some v->wr.cell? ⟨g,o+i*5+j,none⟩=some v:=λj v ah=>av j v (by simpa using ah);revert a;(repeat first|refine ag ?_|refine J (dq (j:=i)) ?_|refine J (bJ av) ?_);intro a I;refine b6 I fK λa bN bB br dw I=>?_;refine cE I (cs:=x.cells.toArray) bB (jN x) λa bQ cI cM fm I=>?_;revert a;refine ad λa I=>?_;refine b6 I WQ λa bt c8 cf fZ I=>?_;have bP:=aK (aK (atL _ wr) br (atI _)) cM bj;have b2:=bP.trans ((ca cf).mono bP.size);have aL:dd wr.heap.size x bt:=aD cI cf bl;have af2:wr.heap.size<bQ.heap.size:=bj
  have dH:qh bQ.heap.size oH bt:=c8;have af8:=bO ab;replace ab:=ab.below b2;replace hb:=hb.trans (b2.mono hb.size);clear bB br cI cM c8 cf bP b2 av;have BV:=ab.all jL;revert a;(repeat first|(intro a I;(refine ma 7 (λa cm=>Fr 107 [(0,.slice (some ⟨g,o,none⟩) p.length cp),(3,.slice (some ⟨w.heap.size,0,none⟩) (p.length+1) (p.length+1)),(4,.int .i64 ((i:Nat):Int)),(5,.pointer (some ⟨wr.heap.size,0,none⟩)),(6,.pointer (some ⟨bQ.heap.size,0,none⟩))] a/\qh bQ.heap.size (λr=>fs x&&dC r) cm/\dd wr.heap.size x cm/\l6 cm w.heap.size dh/\Below w.heap.size w cm) ?_ ?_);revert a)|refine ag ?_);intro a I
  · refine⟨?_⟩;by_cases bC:fs x=true
    · have yx:x.op≠0/\x.op≠18:=by simpa [fs]using bC
      revert a;(repeat first|refine ag ?_|refine J (dq (j:=i+1) rfl rfl bj bj) ?_|refine J (fR (agg _ rfl) (aw _ _ rfl) (e2 _) BV) ?_|refine J (af aL.op) ?_);intro a I;refine dX I (cs:=(er dC).toArray) (aw _ _ rfl) (e2 _) (e2 _) dH (sN _) (k:=λa cD en bE hl I=>?_);revert a;refine ad λa I=>?_;have e:(λr=>fs x&&dC r)=dC:=by funext r;rw [bC,auN]
      exact⟨I.bb,by rw [e];exact en,aD aL bE bm,aD ab bE bm,aK hb bE hb.size⟩
    · have yx:x.op=0\/x.op=18:=by
        simp only [fs,auI,avp,aup]at bC;omega
      have e:(λr=>fs x&&dC r)=oH:=by funext r;rw [avS.2 bC,awG];rfl
      rw [e];rcases yx with h|h
      all_goals
        revert a;(repeat first|refine ag ?_|refine J (af aL.op) ?_);intro a I;exact⟨I.bb,dH,aL,ab,hb⟩
  clear I dH aL ab hb BV;rintro a cm ⟨I,dH,aL,ab,hb⟩;revert a;(repeat (intro a I;(refine ma 9 (λa cm=>Fr 107 [(0,.slice (some ⟨g,o,none⟩) p.length cp),(3,.slice (some ⟨w.heap.size,0,none⟩) (p.length+1) (p.length+1)),(4,.int .i64 ((i:Nat):Int)),(5,.pointer (some ⟨wr.heap.size,0,none⟩)),(6,.pointer (some ⟨bQ.heap.size,0,none⟩))] a/\qh bQ.heap.size (zF x dC eF) cm/\dd wr.heap.size x cm/\l6 cm w.heap.size dh/\Below w.heap.size w cm) ?_ ?_);revert a));intro a I
  · refine⟨?_⟩;revert a;(repeat first|refine ag ?_|refine J (bJ aL.all) ?_);intro a I;refine aQ I (QD cm x) λa v cD gF I=>?_;obtain⟨rfl,c'⟩:=gF;have wO:qh bQ.heap.size (λr=>fs x&&dC r) cD:=(c'.block _ (bO dH)).trans dH;have mO:=aL.below c';have j6:=ab.below c';have nw:=hb.trans (c'.mono hb.size);have db:cD.cell? ⟨wr.heap.size,0+3,none⟩=some (.int .i64 (x.n:Nat)):=aF mO rfl;cases ah:dx x with
    |false=>
      rw [ah]at I;have e:zF x dC eF=λr=>fs x&&dC r:=by unfold zF;funext r;rw [ah];simp
      rw [e];revert a;refine ad λa I=>?_;exact⟨I.bb,wO,mO,j6,nw⟩
    |true=>
      rw [ah]at I;have C3:=j9 ah;have BW:=j6.all (mq ah);have Uk:qh bQ.heap.size (lk (λr=>fs x&&dC r) eF 0) cD:=by
        have:lk (λr=>fs x&&dC r) eF 0=λr=>fs x&&dC r:=by funext r;simp [lk]
        rw [this];exact wO
      have bf:er (zF x dC eF)=er (lk (λr=>fs x&&dC r) eF 16):=Dy λr aj=>by unfold zF lk;rw [atM aj,ah,auN]
      generalize (λr=>fs x&&dC r)=yg at*;revert a;(repeat first|refine ag ?_|refine J (dq (j:=i+1+x.n) rfl rfl bj bj) ?_|refine J (fR (agg _ rfl) (aw _ _ rfl) (e2 _) BW) ?_|refine J (af db) ?_);intro a I;refine eg (λq a Hk=>∃k,k<=16/\q=16- k/\Fr 107 [(0,.slice (some ⟨g,o,none⟩) p.length cp),(3,.slice (some ⟨w.heap.size,0,none⟩) (p.length+1) (p.length+1)),(4,.int .i64 ((i:Nat):Int)),(5,.pointer (some ⟨wr.heap.size,0,none⟩)),(6,.pointer (some ⟨bQ.heap.size,0,none⟩)),(46,.agg (er eF).toArray),(47,.int .i64 (k:Nat))] a/\qh bQ.heap.size (lk yg eF k) Hk/\dd wr.heap.size x Hk/\l6 Hk w.heap.size dh/\Below w.heap.size w Hk) 16
        ⟨0,bj,rfl,I.bb,Uk,mO,j6,nw⟩ ?_
      clear I wO mO j6 nw Uk db BW;rintro q a Hk ⟨k,arF,rfl,I,dH,aL,ab,hb⟩;by_cases rm:k<16
      · have pr:=dH.cell rm;have nq:lk yg eF k k=yg k:=by simp [lk]
        rw [nq]at pr;have Fz:(er eF).toArray[k]? =some (.bool (eF k)):=by have:=Kt eF rm;rwa [aub]at this
        cases wR:yg k with
        |true=>
         rw [wR]at pr;revert a;(repeat first|refine ag ?_|refine J (B1 (n:=16) (aA _ _ rfl) (aA _ _ rfl) rfl (aw _ _ rfl) Fz rfl rfl rfl bj) ?_|refine J (dY (n:=16) (aA _ _ rfl) (aw _ _ rfl) (j:=k) rfl rfl rfl bj) ?_|refine J (af pr) ?_);intro a I;refine cr I (aw _ _ rfl) dH (i:=0+k) (by rw [e2];omega) rfl rfl rfl (k:=λa dt dm cG hn I=>?_);rw [qP,PW yg eF k true (by rw [wR];rfl)]at dm;revert a;refine ad λa I=>?_;exact⟨16- (k+1),bj,k+1,bj,rfl,I.bb,dm,aD aL cG bm,aD ab cG bm,aK hb cG hb.size⟩
        |false=>
         rw [wR]at pr;revert a;(repeat first|refine ag ?_|refine J (B1 (n:=16) (aA _ _ rfl) (aA _ _ rfl) rfl (aw _ _ rfl) Fz rfl rfl rfl bj) ?_|refine J (dY (n:=16) (aA _ _ rfl) (aw _ _ rfl) (j:=k) rfl rfl rfl bj) ?_|refine J (af pr) ?_);intro a I;refine cr I (aw _ _ rfl) dH (i:=0+k) (by rw [e2];omega) rfl rfl rfl (k:=λa dt dm cG hn I=>?_);rw [qP,PW yg eF k (eF k) (by rw [wR];rfl)]at dm;revert a;refine ad λa I=>?_;exact⟨16- (k+1),bj,k+1,bj,rfl,I.bb,dm,aD aL cG bm,aD ab cG bm,aK hb cG hb.size⟩
      · obtain rfl:k=16:=bj
        revert a;refine ad λa I=>?_;exact⟨I.bb,by unfold qh;rw [bf];exact dH,aL,ab,hb⟩
  clear I dH aL ab hb;rintro a cm ⟨I,dH,aL,ab,hb⟩;have mm:Gv x dC eF=kG x (zF x dC eF):=rfl;rw [mm]at gY;generalize zF x dC eF=aa at*;clear mq jL;have cV:cm.cell? ⟨wr.heap.size,0+1,none⟩=some (.int .i64 (x.a:Nat)):=aF aL rfl;have cb:cm.cell? ⟨wr.heap.size,0+2,none⟩=some (.int .i64 (x.b:Nat)):=aF aL rfl;revert a;(repeat (intro a I;(refine ma 15 (λa cm=>Fr 107 [(0,.slice (some ⟨g,o,none⟩) p.length cp),(3,.slice (some ⟨w.heap.size,0,none⟩) (p.length+1) (p.length+1)),(4,.int .i64 ((i:Nat):Int)),(6,.pointer (some ⟨bQ.heap.size,0,none⟩))] a/\qh bQ.heap.size (kG x aa) cm/\l6 cm w.heap.size dh/\Below w.heap.size w cm) ?_ ?_);revert a));intro a I
  · refine⟨?_⟩;have fin:∀(xA:eJ) (wn:World) (a:Act),(∀r,kG x aa r=xA r)->qh bQ.heap.size xA wn->Fr 107 [(0,.slice (some ⟨g,o,none⟩) p.length cp),(3,.slice (some ⟨w.heap.size,0,none⟩) (p.length+1) (p.length+1)),(4,.int .i64 ((i:Nat):Int)),(6,.pointer (some ⟨bQ.heap.size,0,none⟩))] a->l6 wn w.heap.size dh->Below w.heap.size w wn->Fr 107 [(0,.slice (some ⟨g,o,none⟩) p.length cp),(3,.slice (some ⟨w.heap.size,0,none⟩) (p.length+1) (p.length+1)),(4,.int .i64 ((i:Nat):Int)),(6,.pointer (some ⟨bQ.heap.size,0,none⟩))] a/\qh bQ.heap.size (kG x aa) wn/\l6 wn w.heap.size dh/\Below w.heap.size w wn:=λxA wn a he dH I ab hb=>⟨I,by rw [show kG x aa=xA from funext he];exact dH,ab,hb⟩;by_cases g1:x.op=1\/x.op=9\/x.op=10\/x.op=15
    · have hQ:hD x=[]/\fh x=true:=by rcases g1 with h|h|h|h<;>rw [mz h,iL h]<;>exact⟨rfl,rfl⟩
      have ha:=re hQ.2;rcases g1 with h|h|h|h
      all_goals
        revert a;(repeat first|refine ag ?_|refine J (dY (n:=16) (aA _ _ rfl) (aw _ _ rfl) (j:=x.a) rfl rfl rfl bj) ?_|refine J (af aL.op) ?_|refine J (af cV) ?_);intro a I;refine cr I (aw _ _ rfl) dH (i:=0+x.a) (by rw [e2];omega) rfl rfl rfl (k:=λa dt dm cG hn I=>?_);rw [qP]at dm;revert a;refine ad λa I=>?_;exact fin _ _ _ (λr=>by rw [vX,hQ.1];unfold oy;rw [atM hQ.2];simp) dm (I.bb) (aD ab cG bm) (aK hb cG hb.size)
    by_cases g2:x.op=2
    · have hQ:hD x=[x.b]/\fh x=true:=by rw [mz g2,iL g2];exact⟨rfl,rfl⟩
      have ha:=re hQ.2;have pC:=vf x.b (by rw [hQ.1];simp);revert a;(repeat first|refine ag ?_|refine J (dY (n:=16) (aA _ _ rfl) (aw _ _ rfl) (j:=x.a) rfl rfl rfl bj) ?_|refine J (af aL.op) ?_|refine J (af cV) ?_);intro a I;refine cr I (aw _ _ rfl) dH (i:=0+x.a) (by rw [e2];omega) rfl rfl rfl (k:=λa dt dm cG hn I=>?_);rw [qP]at dm;have wQ:dd wr.heap.size x dt:=aD aL cG bm;have acO:dt.cell? ⟨wr.heap.size,0+2,none⟩=some (.int .i64 (x.b:Nat)):=aF wQ rfl;have dT:=aK hb cG hb.size;revert a;(repeat first|refine ag ?_|refine J (dY (n:=16) (aA _ _ rfl) (aw _ _ rfl) (j:=x.b) rfl rfl rfl bj) ?_|refine J (af acO) ?_);intro a I;refine cr I (aw _ _ rfl) dm (i:=0+x.b) (by rw [e2];omega) rfl rfl rfl (k:=λa gw rj gq tK I=>?_);rw [qP]at rj;revert a;refine ad λa I=>?_;exact fin _ _ _ (λr=>by rw [vX,hQ.1];unfold oy;rw [atM hQ.2];by_cases e:r=x.b<;>simp [mC,e]) rj (I.bb) (aD (aD ab cG bm) gq bm) (aK dT gq dT.size)
    by_cases g3:x.op=3\/x.op=4\/x.op=5
    · have hQ:hD x=[x.a,x.b]/\fh x=true:=by rcases g3 with h|h|h<;>rw [mz h,iL h]<;>exact⟨rfl,rfl⟩
      have ha:=re hQ.2;have pC:=vf x.b (by rw [hQ.1];simp);have LY:∀ak,dd wr.heap.size x ak->ak.cell? ⟨wr.heap.size,0+1,none⟩=some (.int .i64 (x.a:Nat)):=λak h=>aF h rfl;have LZ:∀ak,dd wr.heap.size x ak->ak.cell? ⟨wr.heap.size,0+2,none⟩=some (.int .i64 (x.b:Nat)):=λak h=>aF h rfl;rcases g3 with h|h|h
      all_goals
        revert a;(repeat first|(intro a I;(refine gJ (λak=>dd wr.heap.size x ak) [(0,true),(1,true),(2,true),(3,true),(4,true),(5,false),(6,true),(7,false)] 27 mixed bh aL ?_;simp only [fF,atZ,at1,aug,atS,atO]);revert a)|refine ag ?_|refine J (af aL.op) ?_);intro a I;revert a;(repeat first|refine e3 ?_|refine cB (λak ar=>dY (n:=16) (aA _ _ rfl) (aw _ _ rfl) (j:=x.a) rfl rfl rfl bj) ?_|refine cB (λak ar=>af (LY ak ar)) ?_|refine cB (λak ar=>af (LZ ak ar)) ?_);intro a I;refine c7 ?_;refine cr I (aw _ _ rfl) (show(cm.drewN 1).heap[bQ.heap.size]? =_ from dH) (i:=0+x.a) (by rw [e2];omega) rfl rfl rfl (k:=λa dt dm cG hn I=>?_);replace cG:=iQ cG;rw [qP]at dm;have wQ:dd wr.heap.size x dt:=aD aL cG bm;have dT:=aK hb cG hb.size;refine atJ ⟨rfl,wQ,?_⟩;revert a;(repeat first|refine e3 ?_|refine cB (λak ar=>dY (n:=16) (aA _ _ rfl) (aw _ _ rfl) (j:=x.b) rfl rfl rfl bj) ?_);intro a I;refine c7 ?_;refine cr I (aw _ _ rfl) dm (i:=0+x.b) (by rw [e2];omega) rfl rfl rfl (k:=λa gw rj gq tK I=>?_);rw [qP]at rj;refine atJ ⟨rfl,aD wQ gq bm,?_⟩;refine fj ?_;revert a;refine ad λa I=>?_;exact fin _ _ _ (λr=>by rw [vX,hQ.1];unfold oy;rw [atM hQ.2];by_cases e:r=x.b<;>by_cases bf:r=x.a<;>simp [mC,e,bf]) rj (I.bb) (aD (aD ab cG bm) gq bm) (aK dT gq dT.size)
    by_cases g4:x.op=6\/x.op=7\/x.op=8\/x.op=11\/x.op=12\/x.op=13\/x.op=14\/x.op=16\/x.op=17\/x.op=19
    · have hQ:hD x=[x.a]:=by rcases g4 with h|h|h|h|h|h|h|h|h|h<;>rw [mz h]<;>rfl
      have ha:=vf x.a (by rw [hQ];simp);rcases g4 with h|h|h|h|h|h|h|h|h|h
      all_goals
        revert a;(repeat first|refine ag ?_|refine J (dY (n:=16) (aA _ _ rfl) (aw _ _ rfl) (j:=x.a) rfl rfl rfl bj) ?_|refine J (af aL.op) ?_|refine J (af cV) ?_);intro a I;refine cr I (aw _ _ rfl) dH (i:=0+x.a) (by rw [e2];omega) rfl rfl rfl (k:=λa dt dm cG hn I=>?_);rw [qP]at dm;revert a;refine ad λa I=>?_;exact fin _ _ _ (λr=>by rw [vX,hQ];by_cases e:r=x.a<;>by_cases hw:fh x=true<;>simp [oy,mC,e,hw]) dm (I.bb) (aD ab cG bm) (aK hb cG hb.size)
    have g5:x.op=0\/x.op=18:=bj
    have hQ:hD x=[]/\fh x=false:=by rcases g5 with h|h<;>rw [mz h,iL h]<;>exact⟨rfl,rfl⟩
    rcases g5 with h|h
    all_goals
      revert a;(repeat first|refine ag ?_|refine J (af aL.op) ?_);intro a I;exact fin _ _ _ (λr=>by rw [vX,hQ.1];unfold oy;rw [atK (by rw [hQ.2];decide)];simp) dH (I.bb) ab hb
  clear I dH aL ab hb cV cb;rintro a wn ⟨I,dH,ab,hb⟩;revert a;(repeat first|refine ag ?_|refine J (dq (j:=i) rfl rfl bj bj) ?_|refine J (fR (agg _ rfl) (aw _ _ rfl) (e2 _) dH.all) ?_);intro a I;have mR:0+i*16+16<=(dh.flatMap er).toArray.size:=by have:=Ko dh;simp only [av4];omega
  refine qT I (o:=0+i*16) (cs:=(er (kG x aa)).toArray) (aw _ _ rfl) (e2 _) mR ab (sN _) (k:=λa cD en bE hl I=>?_);have j6:=l6.set bj en;revert a;refine ad λa I=>?_;exact⟨i,awz i,_,bj,I.bb,by simp [tH],λj U ae=>by
    by_cases e:j=i
    · subst e;rw [gY,auS bj]
    · rw [auO (λh=>e h.symm)];exact j7 j bj ae,j6,aK hb bE hb.size⟩
def nH(es:List Bool)(i j:Nat):Bool:=q3 ((es.drop i).take (j - i))
theorem ajc{i:Nat}(h:j<=i):nH es i j=false:=by unfold nH;rw [show j - i=0 by omega,auA];rfl
theorem ajd{i:Nat}(h:i<j)(aN:i<es.length):nH es i j=(es[i]?.getD false||nH es (i+1) j):=by
 unfold nH;rw [aua aN,show j - i=(j - (i+1))+1 by omega,aul,atT aN];rfl
theorem aje(w:World)(es:List Bool)(i j:Nat)(ai:i<=16385)(ah:j<=es.length)(aN:es.length<=16385){dJ g:Nat}(hx:w.cell? ⟨dJ,0,none⟩=some (.slice (some ⟨g,0,none⟩) es.length es.length))(aH:gx w g es):
   bd prog 223 [.int .i64 (i:Nat),.int .i64 (j:Nat),.pointer (some ⟨dJ,0,none⟩)].toArray w (λv w'=>v=.bool (nH es i j)/\Below w.heap.size w w'):=by
 refine mf func223 rfl 14 rfl 17 rfl (λa I=>?_);revert a;refine ad λa I=>?_;refine eg (λq a wr=>∃(k:Nat),i<=k/\k<=16385/\q=j - k/\Fr 17 [(1,.int .i64 (j:Nat)),(2,.pointer (some ⟨dJ,0,none⟩)),(6,.int .i64 (k:Nat))] a/\nH es i j=nH es k j/\Below w.heap.size w wr) (j - i) ⟨i,atI _,ai,rfl,I.bb,rfl,atL _ _⟩ ?_;clear I;rintro q a wr ⟨k,Vg,au,rfl,I,he,hb⟩;have fJ:=eG hx hb;by_cases CI:k<j
 · have av:=(aH.below hb).cell (j:=k) bj;rw [ajd CI bj]at he;cases lN:es[k]?.getD false with
   |true=>
    rw [lN]at he av;revert a;(repeat first|refine ag ?_|refine J (af fJ) ?_|refine J (af av) ?_);intro a I;exact bc I rfl rfl ⟨by rw [he];rfl,hb⟩
   |false=>
    rw [lN]at he av;revert a;(repeat first|refine ag ?_|refine J (af fJ) ?_|refine J (af av) ?_);intro a I;exact⟨j - (k+1),bj,k+1,bj,bj,rfl,I.bb,he,hb⟩
 · rw [ajc (i:=k) bj]at he;revert a;refine ad λa I=>?_;exact bc I rfl rfl ⟨by rw [he],hb⟩
def lx(m:cQ):List Value:=[.bool m.jf,.int .i64 (m.t:Nat),.int .i64 (m.other:Nat),.int .i64 m.fQ]
theorem apY:Il prog 284 [.bool,.int .i64,.int .i64,.int .i64]=true:=bh
theorem aal(o m:cQ):kn (lx o) (lx m)=decide (p1 o m):=by
 by_cases h:p1 o m
 · rw [aur h];obtain⟨U,ae,aM,cc⟩:=h;simp [lx,kn,zQ,U,ae,aM,cc]
 · rw [auk h];cases he:kn (lx o) (lx m)
   · rfl
   · exfalso;apply h;simp only [lx,kn,zQ,atP,av',and_true]at he;exact⟨he.1,bj,bj,he.2.2.2⟩
theorem SO{o m:cQ}{b:Bool}(hb:(!kn (lx o) (lx m))=b)(hx:a7 l x (.agg (lx o).toArray):=by exact rfl)(aO:a7 l y (.agg (lx m).toArray):=by exact rfl):bL prog l w (.binOp .neq 284 x y t') ty (.bool b) w:=by
 subst hb;exact HZ apY rfl rfl hx aO rfl
def sa(q:List Ins)(es:List Bool)(all:cQ):Bool:=match hd q with
 |none=>false
 |some o=>zZ o all es (nK (q.drop o.size))
def gI(p:List Ins)(es:List Bool):cQ × Nat:=match hd p with
 |none=>(⟨false,0,0,0,0,0,0,1⟩,1)
 |some m=>if q3 ((es.drop 1).take (m.size - 1))=true then(m,m.size)else hk (p.drop m.size) (es.drop m.size) m m.size
theorem TC{q:List Ins}{all:cQ}{n:Nat}(h:sa q es all=false):hk q es all n=(all,n):=by
 cases aZ:hd q with
 |none=>exact TI aZ
 |some o=>rw [ME aZ,atK];unfold sa at h;rw [aZ]at h;simp only at h;rw [h];decide
theorem TD{q:List Ins}{all:cQ}{n:Nat}(h:sa q es all=true):∃o,hd q=some o/\p1 o all/\hk q es all n=hk (q.drop o.size) (es.drop o.size) (kX all o) (n+o.size):=by
 cases aZ:hd q with
 |none=>unfold sa at h;rw [aZ]at h;cases h
 |some o=>
  unfold sa at h;rw [aZ]at h;simp only at h;refine⟨o,rfl,?_,by rw [ME aZ,atM h]⟩;unfold zZ at h;rw [atP]at h;exact auo h.1
theorem anc(w:World)(p:List Ins)(i:Nat)(ai:i<p.length)(aW:∀x∈p,fc x)(aj:∀x∈p,dW x=true){cp:Nat}(cj:dA w ap 5 Ins.cells p)(kS:p.length<=cp)(hlen:p.length<=16384){es:List Bool}(Ny:es.length=p.length+1){uN:Nat}(bF:gx w uN es){dh:List eJ}{dQ:Nat}(ab:l6 w dQ dh)(tH:dh.length=p.length+1)(dv:∀j,j<=p.length->dh[j]? =some (o7 p j)):
  bd prog 170 [.slice ap p.length cp,.int .i64 (i:Nat),.slice (some ⟨uN,0,none⟩) (p.length+1) (p.length+1),.slice (some ⟨dQ,0,none⟩) (p.length+1) (p.length+1)].toArray w
  (λv w'=>v=.tuple #[.agg (gI (p.drop i) (es.drop i)).1.cells.toArray,.int .i64 ((gI (p.drop i) (es.drop i)).2:Nat)]/\Below w.heap.size w w'):=by
 have Oy:∀x∈p,dW x=true/\x.bK<2^64:=λx hx=>⟨aj x hx,(aW x hx).bK⟩;refine wE func170 rfl 89 rfl 93 rfl (λa I=>?_);revert a;refine ad λa I=>?_;refine di I rfl (k:=λa aq aE aT b8 I=>?_);refine b6 I yO λa ax aP aS cZ I=>?_;have aB:=ca aT;have aC:=aB.trans ((ca aS).mono aB.size);have ow:ax.cell? ⟨w.heap.size,0,none⟩=some (.slice (some ⟨uN,0,none⟩) (p.length+1) (p.length+1)):=aF (aD aE aS bl) rfl;have lS:=bO aE;have eB:=bO aP;revert a;refine ad λa I=>?_;refine aQ I (YQ ax p i aW aj (cj.below aC) kS hlen) λa v a6 gF I=>?_;obtain⟨ao,a1⟩:=gF;have sk:=aC.trans (a1.mono aC.size);have bR:=(a1.block _ eB).trans aP;have nG:=eG ow a1;unfold nX at ao;subst ao;have fS:=a1.size;clear aE aT aS aB aC ow aP a1;revert a;refine ad λa I=>?_;refine b6 I yO λa bZ bX bD eY I=>?_
 skip
 refine cE I (cs:=((hd (p.drop i)).getD jR).cells.toArray) bX (lh _) λa bN bB br dw I=>?_;have b7:=sk.trans ((ca bD).mono sk.size);have cx:=aK b7 br b7.size;have Jp:=aD (aD bR bD bl) br bm;have Wq:=eG nG ((ca bD).grown br (ca bD).size (λk au=>by cases au;exact atI _));have xc:=bO bB;clear bD br bX b7 bR nG sk;cases hm:hd (p.drop i)with
 |none=>
  rw [hm]at I;have gr:gI (p.drop i) (es.drop i)=(⟨false,0,0,0,0,0,0,1⟩,1):=by unfold gI;rw [hm]
  revert a;(repeat first|refine ag ?_|refine J (cA (vs:=[(4,.int .i64 1)]) (cells:=(cQ.cells ⟨false,0,0,0,0,0,0,1⟩).toArray) bh ⟨rfl,rfl,trivial⟩) ?_);intro a I;refine cE I (cs:=(cQ.cells ⟨false,0,0,0,0,0,0,1⟩).toArray) Jp (lh _) λa dt dm cG hn I=>?_;revert a;refine ad λa I=>?_;exact h7 I rfl (agg _ rfl) (aw _ _ rfl) dm rfl rfl ⟨by rw [gr];rfl,aK cx cG cx.size⟩
 |some m=>
  rw [hm]at I bB;have uU:gR a6.heap.size m bN:=bB;obtain⟨_,_,_,_,_,o3,_⟩:=Dw hm (λx hx=>Oy x (auG hx));have bT:=vE hm;rw [atU]at bT;have l9:bN.cell? ⟨a6.heap.size,0+7,none⟩=some (.int .i64 (m.size:Nat)):=aF uU rfl;clear bB;revert a;(repeat first|refine ag ?_|refine J (bJ uU.all) ?_|refine J (af l9) ?_);intro a I;refine b6 I yO λa bQ cI cM fm I=>?_
  skip
  refine cE I (cs:=m.cells.toArray) cI (lh _) λa bt c8 cf fZ I=>?_;have uY:=ca cM;have E5:=aK uY cf uY.size;have TT:gR bN.heap.size m bt:=c8;have uV:=uU.below E5;have Ow:=(E5.block _ (bO Jp)).trans Jp;have O2:=eG Wq E5;have b2:=cx.trans (E5.mono cx.size);clear cI cM c8 cf uY E5 uU Jp Wq cx l9;have Sm:∀(ak:World) (j k:Nat),Below w.heap.size w ak->ak.cell? ⟨w.heap.size,0,none⟩=some (.slice (some ⟨uN,0,none⟩) (p.length+1) (p.length+1))->j<=p.length->k<=p.length->kD prog (.func (.func 223) #[] #[.pointer (some ⟨w.heap.size,0,none⟩)]) [.int .i64 (j:Nat),.int .i64 (k:Nat)] ak (λv w'=>v=.bool (nH es j k)/\Below ak.heap.size ak w'):=λak j k hb hx ah au=>⟨_,#[],#[.pointer (some ⟨w.heap.size,0,none⟩)],rfl,ace,by
   have:=aje ak es j k bj bj bj (dJ:=w.heap.size) (g:=uN) (by rw [Ny];exact hx) (bF.below hb);exact this⟩
  revert a;(repeat first|refine ag ?_|refine J (wm (vs:=[.pointer (some ⟨w.heap.size,0,none⟩)]) ⟨rfl,trivial⟩) ?_);intro a I;refine iZ I (Sm bt (i+1) (i+m.size) b2 O2 bj bj) ⟨rfl,rfl,trivial⟩ (k:=λa v cD gF I=>?_);obtain⟨rfl,c'⟩:=gF;have TU:=TT.below c';have kp:=uV.below c';have Ox:=(c'.block _ (bO Ow)).trans Ow;have Ws:=eG O2 c';have nw:=b2.trans (c'.mono b2.size);have Vh:nH es (i+1) (i+m.size)=q3 (((es.drop i).drop 1).take (m.size - 1)):=by unfold nH;rw [auQ,show i+m.size - (i+1)=m.size - 1 by omega]
  have gr:gI (p.drop i) (es.drop i)=if nH es (i+1) (i+m.size)=true then(m,m.size)else hk ((p.drop i).drop m.size) ((es.drop i).drop m.size) m m.size:=by unfold gI;rw [hm,Vh]
  clear TT uV Ow O2 b2 c' Vh;cases CF:nH es (i+1) (i+m.size)with
  |true=>
   rw [CF]at I gr;rw [atM rfl]at gr;revert a;(repeat first|refine ag ?_|refine J (bJ kp.all) ?_);intro a I;refine cE I (cs:=m.cells.toArray) Ox (lh _) λa dt dm cG hn I=>?_;revert a;refine ad λa I=>?_;exact h7 I rfl (agg _ rfl) (aw _ _ rfl) dm rfl rfl ⟨by rw [gr],aK nw cG nw.size⟩
  |false=>
   rw [CF]at I gr;rw [atK bk,auQ,auQ]at gr;revert a;refine ad λa I=>?_;refine eg (λq a wr=>∃(n:Nat) (all:cQ) (rc:cQ),i+n<=p.length/\q=p.length - n/\Fr 93 [(0,.slice ap p.length cp),(1,.int .i64 (i:Nat)),(3,.slice (some ⟨dQ,0,none⟩) (p.length+1) (p.length+1)),(8,.pointer (some ⟨aq.heap.size,0,none⟩)),(10,.pointer (some ⟨a6.heap.size,0,none⟩)),(12,.int .i64 (n:Nat)),(13,.pointer (some ⟨bN.heap.size,0,none⟩)),(14,.func (.func 223) #[] #[.pointer (some ⟨w.heap.size,0,none⟩)])] a/\nj all/\p1 all m/\all.size=m.size/\gI (p.drop i) (es.drop i)=hk (p.drop (i+n)) (es.drop (i+n)) all n/\gR a6.heap.size m wr/\gR bN.heap.size all wr/\gR aq.heap.size rc wr/\wr.cell? ⟨w.heap.size,0,none⟩=some (.slice (some ⟨uN,0,none⟩) (p.length+1) (p.length+1))/\Below w.heap.size w wr) (p.length - m.size)
     ⟨m.size,m,jR,bj,rfl,I.bb,o3,⟨rfl,rfl,rfl,rfl⟩,rfl,gr,kp,TU,Ox,Ws,nw⟩ ?_
   clear I kp TU Ox Ws nw gr CF;rintro as6 a wr ⟨n,all,rc,eb,rfl,I,Wn,Jr,V9,gr,bs,eK,mR,hx,hb⟩;have U8:=bO eK;revert a;refine ad λa I=>?_;refine aQ I (YQ wr p (i+n) aW aj (cj.below hb) kS hlen) λa v xQ gF I=>?_;obtain⟨ao,E9⟩:=gF;unfold nX at ao;subst ao;revert a;refine ad λa I=>?_;refine b6 I yO λa D5 iD CD asB I=>?_
   skip
   refine dX I (cs:=((hd (p.drop (i+n))).getD jR).cells.toArray) (aw _ _ rfl) rfl rfl iD (lh _) (k:=λa oM wY Vd asC I=>?_);have ou:=E9.trans ((ca CD).mono E9.size);have AA:=ou.grown Vd ou.size (λk au=>by cases au;exact E9.size);have oe:=hb.trans (AA.mono hb.size);have IJ:=bs.below AA;have TV:=eK.below AA;have V0:=mR.below AA;have O3:=eG hx AA;have arx:=E9.size;obtain⟨o,bp⟩:∃o,o=(hd (p.drop (i+n))).getD jR:=⟨_,rfl⟩;rw [<-bp]at wY;have dH:gR xQ.heap.size o oM:=wY;have VF:i+n+o.size<=p.length:=by
     cases aZ:hd (p.drop (i+n))with
     |none=>rw [aZ]at bp;rw [bp];exact eb
     |some my=>
      have:=(vE aZ).2;rw [aZ]at bp;rw [atU]at this;rw [bp];show i+n+my.size<=p.length;omega
   clear iD CD Vd wY E9 ou bs eK mR hx AA;have HQ:oM.cell? ⟨xQ.heap.size,0+7,none⟩=some (.int .i64 (o.size:Nat)):=aF dH rfl;revert a;(repeat first|(intro a I;(refine abF 11 (λa cm=>Fr 93 [(0,.slice ap p.length cp),(1,.int .i64 (i:Nat)),(3,.slice (some ⟨dQ,0,none⟩) (p.length+1) (p.length+1)),(8,.pointer (some ⟨aq.heap.size,0,none⟩)),(10,.pointer (some ⟨a6.heap.size,0,none⟩)),(12,.int .i64 (n:Nat)),(13,.pointer (some ⟨bN.heap.size,0,none⟩)),(14,.func (.func 223) #[] #[.pointer (some ⟨w.heap.size,0,none⟩)]),(15,.pointer (some ⟨xQ.heap.size,0,none⟩)),(80,.bool (!sa (p.drop (i+n)) (es.drop (i+n)) all))] a/\Below oM.heap.size oM cm) ?_ ?_);revert a)|refine ag ?_|refine J (af HQ) ?_);intro a I
   · refine⟨?_⟩;have AM:∀j v,(lx o).toArray[j]? =some v->oM.cell? ⟨xQ.heap.size,0+0+j,none⟩=some v:=λj v ah=>aF dH (by rcases j with _|_|_|_|j<;>first|exact ah|(simp [lx]at ah));have Jz:∀j v,(lx m).toArray[j]? =some v->oM.cell? ⟨a6.heap.size,0+0+j,none⟩=some v:=λj v ah=>aF IJ (by rcases j with _|_|_|_|j<;>first|exact ah|(simp [lx]at ah));have sy:oM.cell? ⟨a6.heap.size,0+0+1,none⟩=some (.int .i64 (m.t:Nat)):=aF IJ rfl;have hQ:∀ak,Below oM.heap.size oM ak->kD prog (.func (.func 223) #[] #[.pointer (some ⟨w.heap.size,0,none⟩)]) [.int .i64 ((i+n:Nat):Int),.int .i64 ((i+n+o.size:Nat):Int)] ak (λu w'=>u=.bool (nH es (i+n) (i+n+o.size))/\Below oM.heap.size oM w'):=λak ar=>(Sm ak (i+n) (i+n+o.size) (oe.trans (ar.mono oe.size)) (eG O3 ar) eb VF).mono λv w' h=>⟨h.1,ar.trans (h.2.mono ar.size)⟩;cases aZ:hd (p.drop (i+n))with
     |none=>
      have az:sa (p.drop (i+n)) (es.drop (i+n)) all=false:=by unfold sa;rw [aZ]
      rw [aZ]at I;revert a;(repeat first|(intro a I;(refine BR (λak=>Below oM.heap.size oM ak) 11 mixed bh (eU (atL _ _) 1) ?_);revert a)|refine ag ?_);intro a I
      skip
      refine tX ?_;intro ax aC;revert a;refine ad λa I=>?_;refine And.intro ?_ aC;rw [az];exact I.bb
     |some my=>
      obtain rfl:o=my:=by rw [bp,aZ];rfl
      rw [aZ]at I;have rk:sa (p.drop (i+n)) (es.drop (i+n)) all=(decide (p1 o m)&&(!nH es (i+n) (i+n+o.size)&& !o7 p (i+n+o.size) m.t)):=by
        unfold sa zZ;rw [aZ];have bw:p1 o all↔p1 o m:=by
         unfold p1 at Jr ⊢;obtain⟨s1,s2,Qr,Qs⟩:=Jr;rw [s1,s2,Qr,Qs]
        have bf:nH es (i+n) (i+n+o.size)=q3 ((es.drop (i+n)).take o.size):=by unfold nH;rw [show i+n+o.size - (i+n)=o.size by omega]
        have dj:o7 p (i+n+o.size)=nK ((p.drop (i+n)).drop o.size):=by unfold o7;rw [auQ]
        rw [bf,dj,Jr.2.1];simp only [bw]
      have vb:=(ab.below oe).all (dv _ VF) m.t _ (by have:=Kt (o7 p (i+n+o.size)) o3.t;rwa [aub]at this);have asa:=o3.t;by_cases aG:p1 o m
      · have b5:(!kn (lx o) (lx m))=false:=by rw [aal,aur aG];rfl
        rw [aur aG,auN]at rk;revert a;(repeat first|(intro a I;(refine BR (λak=>Below oM.heap.size oM ak) 11 mixed bh (eU (atL _ _) 1) ?_);revert a)|refine ag ?_);intro a I;revert a;(repeat first|refine rQ ?_|refine ck (λak ar=>fR (cs:=(lx o).toArray) (agg _ rfl) (aw _ _ rfl) rfl (λj v ah=>eG (AM j v ah) ar)) ?_|refine ck (λak ar=>fR (cs:=(lx m).toArray) (agg _ rfl) (aw _ _ rfl) rfl (λj v ah=>eG (Jz j v ah) ar)) ?_|refine ck (λak ar=>SO (o:=o) (m:=m) b5) ?_);intro a I;refine YJ I hQ ⟨rfl,rfl,trivial⟩ (k:=λa I=>?_);cases CF:nH es (i+n) (i+n+o.size)with
        |true=>
         rw [CF]at I rk;revert a;refine apX λa I=>?_;refine tX ?_;intro ax aC;revert a;refine ad λa I=>?_;refine And.intro ?_ aC;rw [rk];exact I.bb
        |false=>
         rw [CF]at I rk;cases kU:o7 p (i+n+o.size) m.t with
         |true=>
          rw [kU]at vb rk;revert a;(repeat first|refine rQ ?_|refine ck (λak ar=>dq (j:=i+n+o.size) rfl rfl rfl bj) ?_|refine ck (λak ar=>dY (n:=16) (aA _ _ rfl) (aw _ _ rfl) (j:=m.t) rfl rfl rfl bj) ?_|refine ck (λak ar=>af (eG sy ar)) ?_|refine ck (λak ar=>af (eG vb ar)) ?_);intro a I;refine tX ?_;intro ax aC;revert a;refine ad λa I=>?_;refine And.intro ?_ aC;rw [rk];exact I.bb
         |false=>
          rw [kU]at vb rk;revert a;(repeat first|refine rQ ?_|refine ck (λak ar=>dq (j:=i+n+o.size) rfl rfl rfl bj) ?_|refine ck (λak ar=>dY (n:=16) (aA _ _ rfl) (aw _ _ rfl) (j:=m.t) rfl rfl rfl bj) ?_|refine ck (λak ar=>af (eG sy ar)) ?_|refine ck (λak ar=>af (eG vb ar)) ?_);intro a I;refine tX ?_;intro ax aC;revert a;refine ad λa I=>?_;refine And.intro ?_ aC;rw [rk];exact I.bb
      · have b5:(!kn (lx o) (lx m))=true:=by rw [aal,auk aG];rfl
        rw [auk aG,awG]at rk;revert a;(repeat first|(intro a I;(refine BR (λak=>Below oM.heap.size oM ak) 11 mixed bh (eU (atL _ _) 1) ?_);revert a)|refine ag ?_);intro a I;revert a;(repeat first|refine rQ ?_|refine ck (λak ar=>fR (cs:=(lx o).toArray) (agg _ rfl) (aw _ _ rfl) rfl (λj v ah=>eG (AM j v ah) ar)) ?_|refine ck (λak ar=>fR (cs:=(lx m).toArray) (agg _ rfl) (aw _ _ rfl) rfl (λj v ah=>eG (Jz j v ah) ar)) ?_|refine ck (λak ar=>SO (o:=o) (m:=m) b5) ?_);intro a I;refine tX ?_;intro ax aC;revert a;refine ad λa I=>?_;refine And.intro ?_ aC;rw [rk];exact I.bb
   clear I HQ;rintro a cm ⟨I,e4⟩;have I8:=oe.trans (e4.mono oe.size);have Uh:=IJ.below e4;have MP:=TV.below e4;have V1:=V0.below e4;have Ul:=dH.below e4;have aiz:=eG O3 e4;clear IJ TV V0 dH O3;cases az:sa (p.drop (i+n)) (es.drop (i+n)) all with
   |false=>
     rw [az,Bool.not_false]at I;rw [TC az]at gr;have l9:cm.cell? ⟨a6.heap.size,0+7,none⟩=some (.int .i64 (m.size:Nat)):=aF Uh rfl;revert a;(repeat first|refine ag ?_|refine J (af l9) ?_);intro a I;refine cr I (aw _ _ rfl) MP (i:=0+7) (by show 0+7<8;decide) rfl rfl rfl (k:=λa dt dm cG hn I=>?_);have MO:gR bN.heap.size all dt:=by
      have e:all={ all with size:=m.size }:=by rw [<-V9]
      rw [e];exact dm
     have Az:=aD V1 cG bm;have dT:=aK I8 cG I8.size;revert a;(repeat first|refine ag ?_|refine J (bJ MO.all) ?_);intro a I;refine cE I (cs:=all.cells.toArray) Az (lh _) λa gw rj gq tK I=>?_;revert a;refine ad λa I=>?_;exact h7 I rfl (agg _ rfl) (aw _ _ rfl) rj rfl rfl ⟨by rw [gr],aK dT gq dT.size⟩
   |true=>
     rw [az,Bool.not_true]at I;obtain⟨my,aZ,xf,agW⟩:=TD (n:=n) az;obtain rfl:o=my:=by rw [bp,aZ];rfl
     obtain⟨_,_,_,_,_,AM,_⟩:=Dw aZ (λx hx=>Oy x (auG hx));have e0:=(vE aZ).1;rw [agW,auQ,auQ]at gr;revert a;(repeat first|refine ag ?_|refine J (bJ MP.all) ?_|refine J (bJ Ul.all) ?_);intro a I;refine aQ I (ajt cm all o Wn AM) λa v ap6 gF I=>?_;obtain⟨rfl,rf⟩:=gF;have UT:=I8.trans (rf.mono I8.size);have TW:=MP.below rf;have af0:=Uh.below rf;have ah5:=V1.below rf;have af3:=Ul.below rf;have aiy:=eG aiz rf
     skip
     refine cE I (cs:=(kX all o).cells.toArray) TW (lh _) λa dt dm cG hn I=>?_;have MO:gR bN.heap.size (kX all o) dt:=dm;have sf:gR a6.heap.size m dt:=aD af0 cG bm;have Az:gR aq.heap.size rc dt:=aD ah5 cG bm;have yo:gR xQ.heap.size o dt:=aD af3 cG bm;have dT:=aK UT cG UT.size;have aix:dt.cell? ⟨w.heap.size,0,none⟩=some (.slice (some ⟨uN,0,none⟩) (p.length+1) (p.length+1)):=by
      have NZ:Below bN.heap.size ap6 dt:=aK (atL _ _) cG (by have:=bO TW;omega);exact(NZ.cell (show w.heap.size<bN.heap.size by omega)).trans aiy
     have HQ:dt.cell? ⟨xQ.heap.size,0+7,none⟩=some (.int .i64 (o.size:Nat)):=aF yo rfl;revert a;(repeat first|refine ag ?_|refine J (af HQ) ?_);intro a I;exact⟨p.length - (n+o.size),bj,n+o.size,kX all o,rc,bj,rfl,I.bb,Pk Wn AM ⟨xf.1.symm,xf.2.1.symm,xf.2.2.1.symm,xf.2.2.2.symm⟩,Jr,V9,by rw [gr,awb],sf,MO,Az,aix,dT⟩
def ka:List (Option (Nat × cQ))->List Ins->List Ins
 | [],_=>[]
 |none::_,[]=>[]
 |none::aa,x::p=>x::ka aa p
 |some (n,m)::aa,p=>gK m++ka aa (p.drop n)
theorem yS:∀(aa:List (Option (Nat × cQ))) (j:Nat),b9 aa j<=b9 aa 0
 | [],j=>by simp [b9]
 |none::aa,0=>atI _
 |none::aa,j+1=>by have:=yS aa j;simp only [b9];omega
 |some (n,m)::aa,j=>by
  have:=yS aa (j - n);simp only [b9];by_cases aJ:0<n
  · rw [atM aJ];split<;>omega
  · obtain rfl:n=0:=bj
    simp only [auv,axp,ay7]at this ⊢;exact this
theorem TH{aa:List (Option (Nat × cQ))}{p:List Ins}(h:l4 aa p):(ka aa p).length=b9 aa 0/\(ho aa p).length=b9 aa 0/\b9 aa p.length=0:=by
 refine⟨?_,(Ca h).1,?_⟩
 · induction h with
   |nil=>rfl
   |one x p aa ah h df=>simp only [ka,b9,aue,df];omega
   |tR xs p m aa aj aG aW aN h df=>simp only [ka,b9,atV,avK,df,atM aW]
 · induction h with
   |nil=>rfl
   |one x p aa ah h df=>simpa only [b9,aue]using df
   |tR xs p m aa aj aG aW aN h df=>
    simp only [b9,atV];rw [atK bj,au2];exact df
def fixC(aa:List (Option (Nat × cQ)))(p:List Ins)(i:Nat):List Ins:=(ho aa p).take (b9 aa 0- b9 aa i)++(ka aa p).drop (b9 aa 0- b9 aa i)
theorem Ij(aa:List (Option (Nat × cQ)))(p:List Ins):fixC aa p 0=ka aa p:=by unfold fixC;rw [ayg];simp
theorem aeI{aa:List (Option (Nat × cQ))}{p:List Ins}(h:l4 aa p):fixC aa p p.length=ho aa p:=by
 obtain⟨U,ae,aM⟩:=TH h;unfold fixC;rw [aM,ay7,<-ae,av0,ae,<-U,auD,avC]
theorem Mr(x:Ins)(aa:List (Option (Nat × cQ)))(p:List Ins)(j:Nat):fixC (none::aa) (x::p) (j+1)=(if dx x=true then { x with n:=b9 aa 0- b9 aa x.n }else x)::fixC aa p j:=by
 have:=yS aa j;unfold fixC;simp only [b9,ho,ka];rw [show 1+b9 aa 0- b9 aa j=(b9 aa 0- b9 aa j)+1 by omega,aul,at5];rfl
theorem Ms(n:Nat)(m:cQ)(aa:List (Option (Nat × cQ)))(p:List Ins)(j:Nat)(ba:0<n):fixC (some (n,m)::aa) p (n+j)=gK m++fixC aa (p.drop n) j:=by
 have:=yS aa j;unfold fixC;simp only [b9,ho,ka];rw [atM ba,atK bj,au2,show(gK m).length+b9 aa 0- b9 aa j=(gK m).length+(b9 aa 0- b9 aa j) by omega,List.take_length_add_append,List.drop_length_add_append,auJ]
theorem Tq(n:Nat)(m:cQ)(aa:List (Option (Nat × cQ)))(p:List Ins)(j:Nat)(ba:0<n)(ah:j<n):fixC (some (n,m)::aa) p j=gK m++ka aa (p.drop n):=by
 unfold fixC;simp only [b9,ho,ka];rw [atM ba,atM ah,ayg];simp
def yi(aa:List (Option (Nat × cQ)))(i:Nat)(x:Ins):Ins:={ x with n:=b9 aa (i+1)- b9 aa (i+1+x.n) }
theorem aeJ{aa:List (Option (Nat × cQ))}{p:List Ins}(h:l4 aa p):∀i (ai:i<p.length),
  (dx p[i]=true->b9 aa i=1+b9 aa (i+1)/\b9 aa (i+1+p[i].n)<=b9 aa (i+1)/\i+1+p[i].n<=p.length/\fixC aa p (i+1)=(fixC aa p i).set (b9 aa 0- b9 aa i) (yi aa i p[i])/\(fixC aa p i)[b9 aa 0- b9 aa i]? =some p[i])/\(dx p[i]=false->fixC aa p (i+1)=fixC aa p i):=by
 induction h with
 |nil=>intro i ai;cases ai
 |one x p aa ah h df=>
  intro i ai;cases i with
  |zero=>
    have fD:b9 (none::aa) 0- b9 (none::aa) 0=0:=ayg _;have B6:=Mr x aa p 0;rw [Ij]at B6;rw [fD,Ij,B6];simp only [axA];refine⟨λhx=>?_,λhx=>?_⟩
    · rw [atM hx];refine⟨rfl,?_,?_,?_,rfl⟩
      · rw [aub,axi 1 x.n];simp only [b9];exact yS aa x.n
      · have:=(ah hx).1;simp only [aue];omega
      · rw [ka,List.set_cons_zero];unfold yi;rw [aub,axi 1 x.n];rfl
    · rw [atK (by rw [hx];decide)];rfl
  |succ i=>
    have h4:i<p.length:=by simpa using ai
    obtain⟨U,ae⟩:=df i h4;have hle:=yS aa i;simp only [axB];rw [Mr,Mr];refine⟨λhx=>?_,λhx=>by rw [ae hx]⟩;obtain⟨e6,a2,a3,a4,a5⟩:=U hx;have es:b9 (none::aa) 0- b9 (none::aa) (i+1)=(b9 aa 0- b9 aa i)+1:=by simp only [b9];omega
    have uH:yi (none::aa) (i+1) p[i]=yi aa i p[i]:=by
      unfold yi;rw [show i+1+1+p[i].n=(i+1+p[i].n)+1 by omega];rfl
    rw [es,uH,List.set_cons_succ,atO,a4,a5];refine⟨e6,?_,by simp only [aue];omega,rfl,rfl⟩;rw [show i+1+1+p[i].n=(i+1+p[i].n)+1 by omega];exact a2
 |tR xs p m aa aj aG aW aN h df=>
  intro i ai;by_cases bu:i<xs.length
  · have hx:dx (xs++p)[i]=false:=by
      rw [List.getElem_append_left bu];exact(ZQ (aj.str _ (at6 bu))).2
    refine⟨λh=>(by rw [hx]at h;cases h),λ_=>?_⟩;rw [Tq _ _ _ _ i aW bu];by_cases he:i+1<xs.length
    · rw [Tq _ _ _ _ _ aW he]
    · obtain he:i+1=xs.length+0:=bj
      rw [he,Ms _ _ _ _ 0 aW,Ij]
  · obtain⟨j,rfl⟩:∃j,i=xs.length+j:=⟨i - xs.length,bj⟩;have tC:j<p.length:=by simp only [atV]at ai;omega
    obtain⟨U,ae⟩:=df j tC;have hle:=yS aa j;have sq:(xs++p)[xs.length+j]=p[j]:=by rw [List.getElem_append_right bj];simp
    rw [sq,Ms _ _ _ _ j aW,awb,Ms _ _ _ _ (j+1) aW,avK];have el:∀k,b9 (some (xs.length,m)::aa) (xs.length+k)=b9 aa k:=λk=>by simp only [b9];rw [atK bj,au2]
    have fD:b9 (some (xs.length,m)::aa) 0=(gK m).length+b9 aa 0:=by simp only [b9];rw [atM aW]
    refine⟨λhx=>?_,λhx=>by rw [ae hx]⟩;obtain⟨e6,a2,a3,a4,a5⟩:=U hx;have uH:yi (some (xs.length,m)::aa) (xs.length+j) p[j]=yi aa j p[j]:=by
      unfold yi;rw [show xs.length+j+1=xs.length+(j+1) by omega,show xs.length+(j+1)+p[j].n=xs.length+(j+1+p[j].n) by omega,el,el]
    rw [uH,fD,el,show(gK m).length+b9 aa 0- b9 aa j=(gK m).length+(b9 aa 0- b9 aa j) by omega];refine⟨by rw [el];exact e6,?_,by simp only [atV];omega,?_,?_⟩
    · rw [show xs.length+(j+1)+p[j].n=xs.length+(j+1+p[j].n) by omega,el,el];exact a2
    · rw [a4,ay' _ _ bj,au2]
    · rw [avg bj,au2,a5]
theorem TK:∀(N:Nat) (q:List Ins) (es:List Bool) (all:cQ) (n:Nat),q.length<N->(∀x∈q,dW x=true/\x.bK<2^64)->nj all->nj (hk q es all n).1/\(hk q es all n).1.size=all.size/\n<=(hk q es all n).2/\(hk q es all n).2<=n+q.length
 | 0,_,_,_,_,h,_,_=>by omega
 |N+1,q,es,all,n,h,aj,hw=>by
  cases az:sa q es all with
  |false=>rw [TC az];exact⟨hw,rfl,atI _,Nat.le_add_right _ _⟩
  |true=>
   obtain⟨o,aZ,xf,he⟩:=TD (n:=n) az;obtain⟨_,_,_,_,_,AM,_⟩:=Dw aZ aj;have bT:=vE aZ;have df:=TK N (q.drop o.size) (es.drop o.size) (kX all o) (n+o.size) (by rw [atU];omega) (λx hx=>aj x (auG hx)) (Pk hw AM ⟨xf.1.symm,xf.2.1.symm,xf.2.2.1.symm,xf.2.2.2.symm⟩);rw [he];rw [atU]at df;exact⟨df.1,df.2.1,bj,bj⟩
theorem Yx{q:List Ins}(es:List Bool)(aZ:0<q.length)(aj:∀x∈q,dW x=true/\x.bK<2^64):1<=(gI q es).2/\(gI q es).2<=q.length/\(gI q es).1.size<=(gI q es).2/\((gI q es).1.size<(gI q es).2->nj (gI q es).1)/\
  iX q es=if (gI q es).1.size<(gI q es).2 then some ((gI q es).2,(gI q es).1)::iX (q.drop (gI q es).2) (es.drop (gI q es).2)else List.replicate (gI q es).2 none++iX (q.drop (gI q es).2) (es.drop (gI q es).2):=by
 cases hm:hd q with
 |none=>
  have e:gI q es=(⟨false,0,0,0,0,0,0,1⟩,1):=by unfold gI;rw [hm]
  rw [e];refine⟨atI _,aZ,atI _,λh=>absurd h bk,?_⟩;rw [atK bk];cases q with
  |nil=>cases aZ
  |cons x q=>rw [Yv hm];simp
 |some m=>
  obtain⟨_,_,_,_,_,o3,_⟩:=Dw hm aj;have bT:=vE hm;have az:=TK (q.length+1) (q.drop m.size) (es.drop m.size) m m.size (by rw [atU];omega) (λx hx=>aj x (auG hx)) o3;rw [atU]at az;rw [Yw hm];by_cases ai:q3 ((es.drop 1).take (m.size - 1))=true
  · have e:gI q es=(m,m.size):=by unfold gI;rw [hm];simp only;rw [atM ai]
    rw [e,atM ai];refine⟨bj,bT.2,atI _,λh=>absurd h (ax2 _),?_⟩;rw [atK (ax2 _)]
  · have e:gI q es=hk (q.drop m.size) (es.drop m.size) m m.size:=by unfold gI;rw [hm];simp only;rw [atK ai]
    rw [e,atK ai];generalize hk (q.drop m.size) (es.drop m.size) m m.size=r at*;obtain⟨g1,g2,g3,g4⟩:=az;rw [g2];refine⟨bj,bj,g3,λ_=>g1,?_⟩;by_cases bu:m.size<r.2
    · rw [atM bu,atM bu]
    · rw [atK bu,atK bu,show r.2=m.size by omega]
theorem XF:∀(n:Nat) (aa:List (Option (Nat × cQ))) (q:List Ins),n<=q.length->ka (List.replicate n none++aa) q=q.take n++ka aa (q.drop n)
 | 0,aa,q,_=>by simp
 |n+1,aa,[],h=>by simp at h
 |n+1,aa,x::q,h=>by
  have:=XF n aa q (by simpa using h);rw [avR,avb,ka,this];rfl
theorem JO:∀(n:Nat) (aa:List (Option (Nat × cQ))) (j:Nat),b9 (List.replicate n none++aa) j=if j<n then(n - j)+b9 aa 0 else b9 aa (j - n)
 | 0,aa,j=>by simp
 |n+1,aa,0=>by
  have:=JO n aa 0;rw [avR,avb,b9,this,atM (show 0<n+1 by omega)];by_cases h:0<n
  · rw [atM h];omega
  · obtain rfl:n=0:=bj
    simp
 |n+1,aa,j+1=>by
  have:=JO n aa j;rw [avR,avb,b9,this];by_cases h:j<n
  · rw [atM h,atM bj];omega
  · rw [atK h,atK bj,Nat.add_sub_add_right]
end
section
section
theorem adL{P:Program}{w:World}{bq ai:Operand}{b o n c i m s:Nat}{k xn:IntKind}{q pY:Int}{t ty:TypeId}(b0:P.underlying t=some (.slice e))(aG:(P.info? e).map (·.size)=some s)(hx:a7 l x (.slice (some ⟨b,o,none⟩) n c):=by exact rfl)(aN:a7 l bq (.int xn pY):=by exact rfl)(fa:a7 l ai (.int k q):=by exact rfl)(tF:pY=(i:Int):=by exact rfl)(aZ:q=((i+m:Nat):Int):=by exact rfl)(h4:i<c:=by omega)(ah:i+m<=c:=by omega):
  bL P l w (.slice t x (some bq) (some ai) none) ty (.slice (some ⟨b,o+i*s,none⟩) m (c - i)) w:=by
 intro cC aY d pos bx Iq;obtain⟨j,mq⟩:∃j,j=i+m:=⟨_,rfl⟩;rw [<-mq]at aZ ah;have Jc:i<=j:=bj
 have ez:j - i=m:=bj
 clear mq;subst aZ;subst tF;obtain⟨pb,U,ae⟩:=at7.1 aG;have bw:¬c=i:=bj
 simp [execOp,Instr.sliceAt,Instr.slice,Instr.sliceBounds,run_sliceBound ah,run_sliceBound Jc,aY _ _ hx,aY _ _ aN,aY _ _ fa,auf b0,sizeOf,typeInfo,U,ae,bw,addr_add,ez]
end
attribute [local irreducible] wpList wpQuiet wpStill Code.wp Exit.then Exit.inBlock bodyPost Calls bL eT
theorem amM{b o:Nat}{xs:List Ins}(h:dA w (some ⟨b,o,none⟩) 5 Ins.cells xs)(i m:Nat):dA w (some ⟨b,o+i*5,none⟩) 5 Ins.cells ((xs.drop i).take m):=by
 have U:=h.drop i (max xs.length (i+1)) bj;rw [atK bj]at U;have ae:=U.take m;have e:Option.map (λx:Addr=>x.add (i*5)) (some ⟨b,o,none⟩)=some ⟨b,o+i*5,none⟩:=by simp [addr_add]
 rw [e]at ae;exact ae
structure pg(cy:World)(es:List Bool)(dh:List eJ)(ge dQ fH:Nat)(ay:Option Addr)(c:Nat)(O:List Ins)(pl:List Nat)(w:World):Prop where
 own:w.ownsRow cy.heap.size 66 5 (.slice ay O.length c) O.length (O.flatMap Ins.cells)
 be:gx w ge es
 yX:l6 w dQ dh
 pl:hK w fH pl
 b:Below cy.heap.size cy w
theorem pg.below{dQ:Nat}{c:Nat}{pl:List Nat}(h:pg cy es dh ge dQ fH ay c O pl w)(hb:Below w.heap.size w w'):pg cy es dh ge dQ fH ay c O pl w':=
 ⟨cW h.own hb,h.be.below hb,h.yX.below hb,h.pl.below hb,h.b.trans (hb.mono h.b.size)⟩
theorem pg.set{dQ:Nat}{c:Nat}{pl:List Nat}(h:pg cy es dh ge dQ fH ay c O pl w)(Fs:cy.heap.size<=fH){n:Nat}(az:w'.heap[fH]? =some (.cells ((pl.map λn:Nat=>Value.int .i64 (n:Nat)).toArray.setIfInBounds (0+j) (.int .i64 (n:Nat))) 3 (0,0)))(an:w.grownBy w' (some fH)):pg cy es dh ge dQ fH ay c O (pl.set j n) w':=
 ⟨gH h.own an (λe=>jk h.own h.pl bk e.symm),aD h.be an (by have:=c1 h.be h.pl bk;simpa using this),aD h.yX an (by have:=c1 h.yX h.pl bk;simpa using this),hK.set az,h.b.grown an h.b.size (λk au=>by cases au;exact Fs)⟩
theorem pg.app{dQ:Nat}{ej:Option Addr}{c eS m:Nat}{Y:List Ins}{pl:List Nat}(h:pg cy es dh ge dQ fH ay c O pl w)(hm:Y.length=m)(bp:w'.ownsRow cy.heap.size 66 5 (.slice ej (O.length+m) eS) (O.length+m) (O.flatMap Ins.cells++Y.flatMap Ins.cells))(an:w.grownBy w' (Value.slice ay O.length c).ownBlock):pg cy es dh ge dQ fH ej eS (O++Y) pl w':=
 ⟨by rw [atV,hm,avT];exact bp,aD h.be an (jk h.own h.be bk),aD h.yX an (jk h.own h.yX bk),aD h.pl an (jk h.own h.pl bk),j0 h.b h.b.size h.own an⟩
theorem ala{g:Nat}{m:cQ}{pl:List Nat}(h:gR g m w)(aW:hK w fH pl)(an:w.grownBy w' (some fH)):gR g m w':=aD h an (by have:=c1 h aW bk;simpa using this)
structure Hq(aa:List (Option (Nat × cQ)))(p:List Ins)(es:List Bool)(i:Nat)(O:List Ins)(pl:List Nat):Prop where
 le:i<=p.length
 u:ka aa p=O++ka (iX (p.drop i) (es.drop i)) (p.drop i)
 k:∀k,b9 aa (i+k)=b9 (iX (p.drop i) (es.drop i)) k
 t:O.length+b9 aa i=b9 aa 0
 Kg:pl.length=p.length+1
 P2:∀j,j<i->pl[j]? =some (b9 aa 0- b9 aa j)
theorem ac2{aa:List (Option (Nat × cQ))}{p:List Ins}{i:Nat}{pl:List Nat}(h:Hq aa p es i O pl)(ai:i<p.length)(aj:∀x∈p,dW x=true/\x.bK<2^64){kc:List Nat}(aN:kc.length=pl.length)(aJ:∀j,j<i->kc[j]? =pl[j]?)(U:∀j,j<(gI (p.drop i) (es.drop i)).2->kc[i+j]? =some (if (gI (p.drop i) (es.drop i)).1.size<(gI (p.drop i) (es.drop i)).2 then O.length else O.length+j)):
   Hq aa p es (i+(gI (p.drop i) (es.drop i)).2) (O++if (gI (p.drop i) (es.drop i)).1.size<(gI (p.drop i) (es.drop i)).2 then gK (gI (p.drop i) (es.drop i)).1 else(p.drop i).take (gI (p.drop i) (es.drop i)).2) kc:=by
 obtain⟨hp,fe,iM,ib,lY⟩:=Yx (q:=p.drop i) (es.drop i) (by rw [atU];omega) (λx hx=>aj x (auG hx));rw [atU]at fe;have hu:=h.u;have au:=h.k;have bW:=h.t;generalize vh:gI (p.drop i) (es.drop i)=r at*;obtain⟨hU,n⟩:=r;simp only at hp fe iM ib lY U ⊢;rw [auQ,auQ]at lY;have hx:=au 0;rw [avo]at hx;by_cases ba:hU.size<n
 · rw [atM ba]at lY ⊢;simp only [atM ba]at U;rw [lY]at hu au hx;have sv:∀k,b9 aa (i+(n+k))=b9 (iX (p.drop (i+n)) (es.drop (i+n))) k:=λk=>by rw [au];simp only [b9];rw [atK bj,au2]
   have eb:∀j,j<n->b9 aa (i+j)=b9 aa i:=λj ah=>by rw [au,hx];simp only [b9];rw [atM ah,atM bj]
   have iS:=sv 0;rw [avo]at iS;have Ve:b9 aa i=(gK hU).length+b9 aa (i+n):=by rw [hx,iS];simp only [b9];rw [atM bj]
   refine⟨bj,?_,λk=>by rw [awb];exact sv k,by rw [atV];omega,by rw [aN];exact h.Kg,λj ah=>?_⟩
   · rw [hu,ka,auQ,auJ]
   · by_cases Fy:j<i
     · rw [aJ j Fy];exact h.P2 j Fy
     · obtain⟨d,rfl⟩:∃d,j=i+d:=⟨j - i,bj⟩;rw [U d bj,eb d bj]
       congr 1;omega
 · rw [atK ba]at lY ⊢;simp only [atK ba]at U;rw [lY]at hu au hx;have sv:∀k,b9 aa (i+(n+k))=b9 (iX (p.drop (i+n)) (es.drop (i+n))) k:=λk=>by rw [au,JO,atK bj,au2]
   have iS:=sv 0;rw [avo]at iS;have eb:∀j,j<n->b9 aa (i+j)=(n - j)+b9 aa (i+n):=λj ah=>by rw [au,JO,atM ah,iS]
   have Ve:=eb 0 bj;rw [avo]at Ve;have tL:((p.drop i).take n).length=n:=by rw [aw8,atU];omega
   refine⟨bj,?_,λk=>by rw [awb];exact sv k,by rw [atV,tL];omega,by rw [aN];exact h.Kg,λj ah=>?_⟩
   · rw [hu,XF _ _ _ (by rw [atU];omega),auQ,auJ]
   · by_cases Fy:j<i
     · rw [aJ j Fy];exact h.P2 j Fy
     · obtain⟨d,rfl⟩:∃d,j=i+d:=⟨j - i,bj⟩;rw [U d bj,eb d bj]
       congr 1;omega
end
end Go.Proofs.YtnkjmbbddmgjiaaGreatDoor