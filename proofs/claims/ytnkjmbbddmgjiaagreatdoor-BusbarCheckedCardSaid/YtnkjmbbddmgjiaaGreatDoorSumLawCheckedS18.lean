import Derived.Test.YtnkjmbbddmgjiaaGreatDoorSumLawCheckedS17
set_option linter.unusedSimpArgs false
set_option linter.unusedVariables false
set_option maxRecDepth 1000000
set_option maxHeartbeats 400000000
namespace Go.Proofs.YtnkjmbbddmgjiaaGreatDoor
open Go.RowKit Go.Proofs.Tryz
variable {w cy w':World}{x:Operand}{z v:Value}{e ty e' sW:TypeId}{bx:Array Edge}{ay:Option Addr}{xs ys:List Value}{jG Lo e1 eL de db j n2:Nat}{f:FuncId}
section
attribute [local irreducible] wpList wpQuiet wpStill Code.wp Exit.then Exit.inBlock bodyPost Calls bL eT
section
attribute [local irreducible] Code.rounds
def et(ay:Option Addr)(n c:Nat):cO:=⟨2,1,256,false,aa [77],2,aa [65],ay,n,c⟩
structure pj(base:Nat)(w:World)(ay:Option Addr)(c p q:Nat):Prop where
 own:w.ownsRow base 133 19 (.slice ay 2 c) 2 ([mX (some ⟨p,0,none⟩) 1,dO (some ⟨q,0,none⟩) 1].flatMap b1.cells)
 pc:w.heap[p]? =some (.cells #[.string (aa [65])] 9 (0,0))/\base<=p
 pd:w.heap[q]? =some (.cells #[.string (aa [66])] 9 (0,0))/\base<=q
theorem DQ{P:Program}{ops:Array Oper}{Q:Exit->Act->World->Prop}{a:Act}{rest:List Oper}{N:Nat}{l:List (Nat × Value)}(h:Fr N l a){d g:Nat}{s:Operand}{us:Array Value}{t ty:TypeId}{pos:String}{bx:Array Edge}{bytes n base cap sz:Nat}(b0:P.underlying t=some (.slice e))(ai:(P.info? e).map (λi=>(i.zero,i.size,i.bytes))=some (some z,sz,bytes))(bA:z.cells.size=sz)(aJ:0<sz)(yG:us.size=sz)(hu:∀v∈us,v.oneCell'=true)(aX:w.ownsRow base e sz (.slice ay n cap) n xs)(az:w.heap[g]? =some (.cells us e (0,0)))(lM:(n+1)*bytes<=140737488355328)(hm:n+1<=maxLen)(mm:base<=w.heap.size)(aG:a7 l s (.slice ay n cap):=by exact rfl)(hx:a7 l x (.slice (some ⟨g,0,none⟩) 1 1):=by exact rfl)(aI:Nat.blt d N=true:=by exact rfl)(k:∀aU ej ev w',w'.ownsRow base e sz (.slice ej (n+1) ev) (n+1) (xs++us.toList)->w.grownBy w' (Value.slice ay n cap).ownBlock->Fr N ((d,.slice ej (n+1) ev)::l) aU->wpList P ops Q rest aU w'):
   wpList P ops Q (⟨some d,.call { callee:=.builtin .append,args:=[s,x].toArray,argTypes:=[t,t].toArray },ty,pos,bx,none⟩::rest) a w:=by
 obtain⟨i,g1,g2,g3,g4⟩:=avH ai;refine ayC _ rfl s x t rfl base e i z sz bytes b0 g1 g2 g3 g4 bA aJ (.slice ay n cap) n xs (h.eval _ _ aG) aX ⟨g,0,none⟩ 1 1 us.toList (h.eval _ _ hx) (by simp [yG]) ?_ ?_ hm lM mm ?_
 · intro j v ah;rw [addr_add,aub];exact aF az (by simpa using ah)
 · intro v ao;exact hu v (by simpa using ao)
 · intro iy w' mr an CM;obtain⟨ej,ev,rfl,_,_⟩:=tW mr;exact k _ ej ev w' mr an (h.put aI _)
theorem il.grow{B:Nat}{g t c k b fo:Nat}{cs fY:Array Value}(h:il B cy w g t c k e b fo cs fY){n cp s:Nat}(aX:w.ownsRow cy.heap.size e' s (.slice ay n cp) n xs)(an:w.grownBy w' (Value.slice ay n cp).ownBlock)(b5:e'≠e):il B cy w' g t c k e b fo cs fY:=by
 cases bp:(Value.slice ay n cp).ownBlock with
 |none=>rw [bp]at an;exact h.below (fA an)
 |some q=>
  have aZ:=(avc aX q bp).1;rw [bp]at an;have eH:=bp▸fT aX h.dJ b5;have e1:=bp▸fT aX h.rs b5;have:=h.az;exact⟨h.eN.kept an bj bj,tj h.dQ an aZ,aD h.dJ an eH,aD h.rs an e1,h.U,h.ae,h.aM,h.az,h.nr.kept an (atN h.aH.2 aZ),h.aH⟩
theorem amf{B:Nat}(w:World)(bF:mE B w){g t c:Nat}(h:gy w g t c 4)(sd:B<=g)(uQ:B<=w.heap.size):
   bd prog 129 [.pointer (some ⟨g,0,none⟩)].toArray w (λv w'=>∃ay cp p q,v=.agg (cO.cells (et ay 2 cp)).toArray/\pj w.heap.size w' ay cp p q/\gy w' g t c 50/\w.grownBy w' (some g)):=by
 refine cF func129 rfl 42 rfl 43 rfl (λa I=>?_);revert a;refine ad λa I=>?_;refine b6 I yN λa aq aE aT b8 I=>?_;have aB:=fA aT;have w4:=h.lt;revert a;refine ad λa I=>?_;refine aQ I (rB aq (h.below aB) (fx bk) [66,79,95] bh bk) λa v ax ab I=>?_;obtain⟨rfl,wP,aS⟩:=ab;have aP:=aD aE aS bm;revert a;(repeat first|refine ag ?_|refine J (B0 (v:=.agg #[.int .i64 2,.int .i64 1]) bh) ?_|refine J (cA (vs:=[(0,.agg #[.int .i64 2,.int .i64 1])]) (cells:=(cO.cells ⟨2,1,0,false,aa [],0,aa [],none,0,0⟩).toArray) bh ⟨rfl,rfl,trivial⟩) ?_);intro a I;have MC:=gL (sb aB) aS;have eB:=MC.size;refine b6 I yN λa bZ bX bD eY I=>?_;refine dX I (aw _ _ rfl) rfl rfl bX (AY _) (k:=λa bN bB br dw I=>?_);have iu:=bO aP;have tn:=(wP.below (fA bD)).kept br bj bj;obtain⟨b,hb⟩:∃b,b=ax.heap.size:=⟨_,rfl⟩;obtain⟨fo,Jq⟩:∃fo,fo=w.heap.size:=⟨_,rfl⟩;obtain⟨fY,OA,pk⟩:∃fY:Array Value,fY.size=8/\il B w bN g t c 5 124 b fo (cO.cells ⟨2,1,0,false,aa [],0,aa [],none,0,0⟩).toArray fY:=
   ⟨_,rfl,tn,tj (gL MC (It bD)) br eB,by rw [hb];exact bB,by rw [Jq];exact aD (aD aP bD bl) br bm,bj,bj,bj,w4,((((bF.below aB).kept aS sd).below (fA bD)).kept br bj),sd,uQ⟩
 rw [<-hb,<-Jq]at I;revert a;refine ad λa I=>?_;refine aQ I (aiO bN pk.nr.env pk.eN (fx bk) rfl alC bk) λa v bQ ab I=>?_;obtain⟨rfl,cj,an⟩:=ab;have x3:=pk.call cj an;revert a;refine ad λa I=>?_;refine cr I (aw _ _ rfl) x3.dJ (i:=0+2) (by show 2<8;decide) rfl rfl rfl (k:=λa bt az an bT I=>?_);have BG:=x3.store az an;revert a;refine ad λa I=>?_;refine cr I (aw _ _ rfl) BG.dJ (i:=0+3) (by show 3<8;decide) rfl rfl rfl (k:=λa cD az an bT I=>?_);have Eg:=BG.store az an;revert a;refine ad λa I=>?_;refine aQ I (Dh _ Eg.eN (fx bk) bo rfl bk bk) λa v dt ab I=>?_;obtain⟨rfl,cj,an⟩:=ab;have Eh:=Eg.call cj an;revert a;refine ad λa I=>?_;refine cr I (aw _ _ rfl) Eh.dJ (i:=0+4) (by show 4<8;decide) rfl rfl rfl (k:=λa gw az an bT I=>?_);have BE:=Eh.store az an;revert a;refine ad λa I=>?_;refine aQ I (rB _ BE.eN (fx bk) [58] bh bk) λa v nT ab I=>?_;obtain⟨rfl,cj,an⟩:=ab;have BF:=BE.call cj an;revert a;refine ad λa I=>?_;refine aQ I (K4 _ BF.nr.env BF.eN (fx bk) rfl X7 2147483648 bk bk) λa v k0 ab I=>?_;obtain⟨rfl,cj,an⟩:=ab;have Ed:=BF.call cj an;revert a;(repeat first|refine ag ?_|refine J (e8 (aA _ _ rfl) (aA _ _ rfl) rfl (Rb (u:=2) bk)) ?_);intro a I;refine cr I (aw _ _ rfl) Ed.dJ (i:=0+5) (by show 5<8;decide) rfl rfl rfl (k:=λa p6 az an bT I=>?_);have Ee:=Ed.store az an;revert a;refine ad λa I=>?_;refine aQ I (Dh _ Ee.eN (fx bk) bo rfl bk bk) λa v lv ab I=>?_;obtain⟨rfl,cj,an⟩:=ab;have Ef:=Ee.call cj an;revert a;refine ad λa I=>?_;refine cr I (aw _ _ rfl) Ef.dJ (i:=0+6) (by show 6<8;decide) rfl rfl rfl (k:=λa zr az an bT I=>?_);have Lf:il B w zr g t c 10 124 b fo (cO.cells (et none 0 0)).toArray fY:=Ef.store az an;have S:=Lf;have aX:=auH zr w.heap.size 133 19;revert a;(repeat first|(intro a I;refine gp ?_;revert a)|(intro a I;refine auX 3 ?_;revert a)|refine ag ?_);intro a I;refine aQ I (xJ _ S.eN (fx bk) [83,71,95] true bh) λa v W ab I=>?_;obtain⟨rfl,hb⟩:=ab;replace S:=S.below hb;replace aX:=cW aX hb;revert a;(repeat first|(intro a I;(refine r4 (λ_=>True) (λa W=>∃ay bM p,Fr 43 [(0,.pointer (some ⟨g,0,none⟩)),(2,.pointer (some ⟨fo,0,none⟩)),(3,.pointer (some ⟨b,0,none⟩))] a/\il B w W g t c 30 124 b fo (cO.cells (et ay 1 bM)).toArray fY/\W.ownsRow w.heap.size 133 19 (.slice ay 1 bM) 1 ([mX (some ⟨p,0,none⟩) 1].flatMap b1.cells)/\W.heap[p]? =some (.cells #[.string (aa [65])] 9 (0,0))/\w.heap.size<=p) (.read 0 (.read 2 (.two 1 3 (.cJ 3 (.cJ 4 (.cJ 5 (.read 6 (.cJ 7 .done))))) (.two 1 4 (.cJ 4 (.cJ 5 (.read 6 (.cJ 7 .done)))) (.cJ 1 (.cJ 5 (.read 6 (.cJ 7 .done)))))))) 10 mixed bh trivial ?_ ?_;rotate_left);revert a)|refine ag ?_|refine J (af (aF S.dJ rfl)) ?_);intro a I
 · replace S:=S.below (cP.below (w:=W) (w':=W.drewN 1) ⟨1,rfl⟩ _);replace aX:=cW aX (cP.below (w:=W) (w':=W.drewN 1) ⟨1,rfl⟩ _);revert a;refine jq λa I=>?_;refine ln rfl rfl ?_ ?_;all_goals repeat' (first
    |refine dV rfl ?_
    |refine ln rfl rfl ?_ ?_
    |(refine st I (af (aF S.dJ rfl)) rfl (λa I=>?_);refine atJ ⟨rfl,trivial,?_⟩)
    |(refine aQ I (YH _ S.nr S.eN sd (atN uQ S.sz) aof) λa v W ab I=>?_;obtain⟨p,rfl,aW,u9,cj,an⟩:=ab;replace u9:=atN S.sz u9;replace aX:=gH aX an (fT aX S.eN.cur bk).symm;replace S:=S.call cj an;refine atJ ⟨rfl,trivial,?_⟩)
    |(refine st I (np (us:=(b1.cells (mX (some ⟨p,0,none⟩) 1)).toArray) (aA _ _ rfl) kv bk bk rfl rfl) rfl (λa I=>?_);have eV:=auE W (.cells (b1.cells (mX (some ⟨p,0,none⟩) 1)).toArray 133);have cY:=e7 W (.cells (b1.cells (mX (some ⟨p,0,none⟩) 1)).toArray 133);replace S:=S.below cY;replace aW:=bG cY aW;replace aX:=cW aX cY;refine atJ ⟨rfl,trivial,?_⟩))
   all_goals
    refine DQ I (aA _ _ rfl) kv rfl bk rfl (kB _) aX eV bk bk S.sz (k:=λa vY bM nZ eR aS I=>?_);replace S:=S.grow aX aS bk;replace aW:=aD aW aS (fT aX aW bk);refine atJ ⟨rfl,trivial,?_⟩;revert a;refine jq λa I=>?_;refine dV rfl ?_;refine cr I (aw _ _ rfl) S.dJ (i:=0+7) (by show 7<8;decide) rfl rfl rfl (k:=λa lC az an bT I=>?_);replace aW:=aD aW an (by have:=c1 aW S.dJ bk;simp;exact this);replace aX:=gH eR an (fT eR S.dJ bk).symm;refine atJ ⟨rfl,trivial,?_⟩;refine iw ⟨vY,bM,p,I.bb,S.store az an,aX,aW,u9⟩
 clear I S aX;rintro a W ⟨ay,bM,p,I,S,aX,aW,u9⟩;revert a;(repeat first|(intro a I;refine gp ?_;revert a)|refine ag ?_);intro a I;refine aQ I (xJ _ S.eN (fx bk) [83,71,95] true bh) λa v W ab I=>?_;obtain⟨rfl,hb⟩:=ab;replace S:=S.below hb;replace aX:=cW aX hb;replace aW:=bG hb aW;revert a;(repeat first|(intro a I;(refine r4 (λ_=>True) (λa W=>∃ay bM q,Fr 43 [(0,.pointer (some ⟨g,0,none⟩)),(2,.pointer (some ⟨fo,0,none⟩)),(3,.pointer (some ⟨b,0,none⟩))] a/\il B w W g t c 50 124 b fo (cO.cells (et ay 2 bM)).toArray fY/\W.ownsRow w.heap.size 133 19 (.slice ay 2 bM) 2 ([mX (some ⟨p,0,none⟩) 1,dO (some ⟨q,0,none⟩) 1].flatMap b1.cells)/\W.heap[p]? =some (.cells #[.string (aa [65])] 9 (0,0))/\W.heap[q]? =some (.cells #[.string (aa [66])] 9 (0,0))/\w.heap.size<=q) (.read 0 (.read 2 (.two 1 3 (.cJ 3 (.cJ 4 (.cJ 5 (.read 6 (.cJ 7 .done))))) (.two 1 4 (.cJ 4 (.cJ 5 (.read 6 (.cJ 7 .done)))) (.cJ 1 (.cJ 5 (.read 6 (.cJ 7 .done)))))))) 10 mixed bh trivial ?_ ?_;rotate_left);revert a)|refine ag ?_|refine J (af (aF S.dJ rfl)) ?_);intro a I
 · replace S:=S.below (cP.below (w:=W) (w':=W.drewN 1) ⟨1,rfl⟩ _);replace aX:=cW aX (cP.below (w:=W) (w':=W.drewN 1) ⟨1,rfl⟩ _);replace aW:=bG (cP.below (w:=W) (w':=W.drewN 1) ⟨1,rfl⟩ _) aW;revert a;refine jq λa I=>?_;refine ln rfl rfl ?_ ?_;all_goals repeat' (first
    |refine dV rfl ?_
    |refine ln rfl rfl ?_ ?_
    |(refine st I (af (aF S.dJ rfl)) rfl (λa I=>?_);refine atJ ⟨rfl,trivial,?_⟩)
    |(refine aQ I (YH _ S.nr S.eN sd (atN uQ S.sz) aog) λa v W ab I=>?_;obtain⟨q,rfl,aZ,w5,cj,an⟩:=ab;replace w5:=atN S.sz w5;replace aW:=aD aW an (by have:=c1 aW S.eN.cur bk;simp;exact this);replace aX:=gH aX an (fT aX S.eN.cur bk).symm;replace S:=S.call cj an;refine atJ ⟨rfl,trivial,?_⟩)
    |(refine st I (np (us:=(b1.cells (dO (some ⟨q,0,none⟩) 1)).toArray) (aA _ _ rfl) kv bk bk rfl rfl) rfl (λa I=>?_);have eV:=auE W (.cells (b1.cells (dO (some ⟨q,0,none⟩) 1)).toArray 133);have cY:=e7 W (.cells (b1.cells (dO (some ⟨q,0,none⟩) 1)).toArray 133);replace S:=S.below cY;replace aZ:=bG cY aZ;replace aW:=bG cY aW;replace aX:=cW aX cY;refine atJ ⟨rfl,trivial,?_⟩))
   all_goals
    refine DQ I (aA _ _ rfl) kv rfl bk rfl (kB _) aX eV bk bk S.sz (k:=λa vY bM nZ eR aS I=>?_);replace S:=S.grow aX aS bk;replace aZ:=aD aZ aS (fT aX aZ bk);replace aW:=aD aW aS (fT aX aW bk);refine atJ ⟨rfl,trivial,?_⟩;revert a;refine jq λa I=>?_;refine dV rfl ?_;refine cr I (aw _ _ rfl) S.dJ (i:=0+7) (by show 7<8;decide) rfl rfl rfl (k:=λa lC az an bT I=>?_);replace aZ:=aD aZ an (by have:=c1 aZ S.dJ bk;simp;exact this);replace aW:=aD aW an (by have:=c1 aW S.dJ bk;simp;exact this);replace aX:=gH eR an (fT eR S.dJ bk).symm;refine atJ ⟨rfl,trivial,?_⟩;refine iw ⟨vY,bM,q,I.bb,S.store az an,aX,aW,aZ,w5⟩
 clear I S aX aW;rintro a W ⟨ay,bM,q,I,S,aX,aW,aZ,w5⟩;revert a;(repeat first|(intro a I;refine gp ?_;revert a)|refine ag ?_);intro a I;refine aQ I (xJ _ S.eN (fx bk) [83,71,95] false bh) λa v mG ab I=>?_;obtain⟨rfl,hb⟩:=ab;replace S:=S.below hb;replace aX:=cW aX hb;replace aW:=bG hb aW;replace aZ:=bG hb aZ;revert a;(repeat first|refine ag ?_|refine J (bJ (dy S.dJ)) ?_);intro a I;refine dX I (aw _ _ rfl) rfl OA S.rs (AY _) (k:=λa apR az an bT I=>?_);obtain⟨tp,cf⟩:=S.fin an;revert a;refine ad λa I=>?_;refine ff I rfl (agg _ rfl) (aw _ _ rfl) az rfl ⟨ay,bM,p,q,rfl,⟨gH aX an (fT aX S.rs bk).symm,⟨aD aW an ?_,u9⟩,⟨aD aZ an ?_,w5⟩⟩,tp,cf⟩
 · have:=c1 aW S.rs bk;simp;exact this
 · have:=c1 aZ S.rs bk;simp;exact this
structure nW(B:Nat)(cy w:World)(g t c k:Nat)(e:TypeId)(b:Nat)(cs:Array Value):Prop where
 eN:gy w g t c k
 dQ:cy.grownBy w (some g)
 dJ:w.heap[b]? =some (.cells cs e (0,0))
 U:cy.heap.size<=b
 az:g<cy.heap.size/\t<cy.heap.size
 nr:mE B w
 aH:B<=g/\B<=cy.heap.size
section
variable {B:Nat} {cy w w':World} {g t c k cS b:Nat} {e:TypeId} {cs Ey:Array Value}
theorem nW.call(h:nW B cy w g t c k e b cs)(cj:gy w' g t c cS)(an:w.grownBy w' (some g)):nW B cy w' g t c cS e b cs:=by
 have:=h.U;have:=h.az;exact⟨cj,gL h.dQ an,aD h.dJ an bm,h.U,h.az,h.nr.kept an h.aH.1,h.aH⟩
theorem nW.below(h:nW B cy w g t c k e b cs)(hb:Below w.heap.size w w'):nW B cy w' g t c k e b cs:=
 ⟨h.eN.below hb,MD h.dQ hb,bG hb h.dJ,h.U,h.az,h.nr.below hb,h.aH⟩
theorem nW.store(h:nW B cy w g t c k e b cs)(az:w'.heap[b]? =some (.cells Ey e (0,0)))(an:w.grownBy w' (some b)):nW B cy w' g t c k e b Ey:=by
 have:=h.U;have:=h.az;exact⟨h.eN.kept an bj bj,tj h.dQ an h.U,az,h.U,h.az,h.nr.kept an (atN h.aH.2 h.U),h.aH⟩
theorem nW.sz(h:nW B cy w g t c k e b cs):cy.heap.size<=w.heap.size:=h.dQ.size
theorem nW.grow(h:nW B cy w g t c k e b cs){n cp s:Nat}(aX:w.ownsRow cy.heap.size e' s (.slice ay n cp) n xs)(an:w.grownBy w' (Value.slice ay n cp).ownBlock)(b5:e'≠e):nW B cy w' g t c k e b cs:=by
 cases bp:(Value.slice ay n cp).ownBlock with
 |none=>rw [bp]at an;exact h.below (fA an)
 |some q=>
  have aZ:=(avc aX q bp).1;rw [bp]at an;have eH:=bp▸fT aX h.dJ b5;have:=h.az;exact⟨h.eN.kept an bj bj,tj h.dQ an aZ,aD h.dJ an eH,h.U,h.az,h.nr.kept an (atN h.aH.2 aZ),h.aH⟩
end
theorem rF{base n s:Nat}(h:w.ownsRow base e s v n xs)(hb:jG<=base):w.ownsRow jG e s v n xs:=
 ⟨h.1,h.2.imp id (λ⟨g,cap,cur,aJ,U,r⟩=>⟨g,cap,cur,aJ,atN hb U,r⟩)⟩
theorem Yo{base n c2 s s2:Nat}{bf:TypeId}{a2:Option Addr}(h:w.ownsRow base e s v n xs)(ae:w.ownsRow Lo bf s2 (.slice a2 e1 c2) e1 ys)(b5:e≠bf)(an:w.grownBy w' (Value.slice a2 e1 c2).ownBlock):w'.ownsRow base e s v n xs:=by
 rcases ae.2 with ⟨aJ,_⟩|⟨g,cap,cur,aJ,_,az,_⟩
 · rw [aJ]at an;exact A7 h an
 · rw [aJ]at an;exact gH h an (jk h az b5).symm
theorem pj.C5{base c2 s2:Nat}{bf:TypeId}{a2:Option Addr}{c p q:Nat}(h:pj base w ay c p q)(ae:w.ownsRow Lo bf s2 (.slice a2 e1 c2) e1 ys)(U:133≠bf)(aM:bf≠9)(an:w.grownBy w' (Value.slice a2 e1 c2).ownBlock):pj base w' ay c p q:=
 ⟨Yo h.own ae U an,⟨aD h.pc.1 an (fT ae h.pc.1 aM),h.pc.2⟩,⟨aD h.pd.1 an (fT ae h.pd.1 aM),h.pd.2⟩⟩
theorem pj.below{base:Nat}{c p q:Nat}(h:pj base w ay c p q)(hb:Below w.heap.size w w'):pj base w' ay c p q:=
 ⟨cW h.own hb,⟨bG hb h.pc.1,h.pc.2⟩,⟨bG hb h.pd.1,h.pd.2⟩⟩
theorem pj.lower{base:Nat}{c p q:Nat}(h:pj base w ay c p q)(hb:jG<=base):pj jG w ay c p q:=
 ⟨rF h.own hb,⟨h.pc.1,atN hb h.pc.2⟩,⟨h.pd.1,atN hb h.pd.2⟩⟩
def qU(hL:Option Addr)(n db:Nat):Array Value:=#[.int .i64 1,.int .i64 1,.slice hL n db]
theorem KH(hL:Option Addr)(n db:Nat):∀v∈qU hL n db,v.oneCell'=true:=by
 intro v ao;simp [qU]at ao;rcases ao with rfl|rfl|rfl<;>rfl
def ZM(hL:Option Addr)(db:Nat):Value:=.iface 106 (.agg (qU hL 2 db))
def XS(ay:Option Addr)(cp:Nat):Value:=.iface 124 (.agg (cO.cells (et ay 2 cp)).toArray)
structure BI(base:Nat)(w:World)(al:Option Addr)(de:Nat)(hL:Option Addr)(db:Nat)(ay:Option Addr)(cp p q:Nat):Prop where
 nodes:w.ownsRow base 178 1 (.slice al 2 de) 2 [ZM hL db,XS ay cp]
 names:w.ownsRow base 9 1 (.slice hL 2 db) 2 [.string (aa [65]),.string (aa [66])]
 ms:pj base w ay cp p q
theorem amo{B:Nat}(w:World)(bF:mE B w){g t c:Nat}(h:gy w g t c 0)(sd:B<=g)(uQ:B<=w.heap.size):
   bd prog 69 [.pointer (some ⟨g,0,none⟩)].toArray w (λv w'=>∃al de hL db ay cp p q,v=.slice al 2 de/\BI w.heap.size w' al de hL db ay cp p q/\w.grownBy w' (some g)):=by
 refine cF func69 rfl 79 rfl 80 rfl (λa I=>?_);revert a;refine ad λa I=>?_;refine aQ I (LW w h (fx bk) bh) λa v aq aB I=>?_;have w4:=h.lt;revert a;refine ad λa I=>?_;refine aQ I (xJ aq (h.below aB) (fx bk) [86,69,82,83,73,79,78] false bh) λa v ax ab I=>?_;obtain⟨rfl,aC⟩:=ab;have gV:=aB.trans (aC.mono aB.size);revert a;refine ad λa I=>?_;refine aQ I (rB ax (h.below gV) (fx bk) [66,85,95] bh bk) λa v a6 ab I=>?_;obtain⟨rfl,E1,bz⟩:=ab;revert a;(repeat first|refine ag ?_|refine J (B0 (v:=.agg #[.int .i64 1,.int .i64 1]) bh) ?_|refine J (cA (vs:=[(0,.agg #[.int .i64 1,.int .i64 1])]) (cells:=qU none 0 0) bh ⟨rfl,rfl,trivial⟩) ?_);intro a I;have EN:=gL (sb gV) bz;have fS:=EN.size;refine b6 I Gh λa bZ bX bD eY I=>?_;refine dX I (aw _ _ rfl) rfl rfl bX (KH _ _ _) (k:=λa bN bB br dw I=>?_);have IL:=(E1.below (fA bD)).kept br bj bj;have S:nW B w bN g t c 1 106 a6.heap.size (qU none 0 0):=
   ⟨IL,tj (gL EN (It bD)) br fS,bB,fS,w4,((((bF.below gV).kept bz sd).below (fA bD)).kept br bj),sd,uQ⟩
 obtain⟨b,hb⟩:∃b,b=a6.heap.size:=⟨_,rfl⟩;rw [<-hb]at S I;revert a;refine ad λa I=>?_;refine aQ I (rB _ S.eN (fx bk) [58] bh bk) λa v bQ ab I=>?_;obtain⟨rfl,cj,an⟩:=ab;replace S:=S.call cj an;have aX:=auH bQ w.heap.size 9 1;revert a;(repeat first|(intro a I;refine gp ?_;revert a)|(intro a I;refine auX 3 ?_;revert a)|refine ag ?_);intro a I;refine aQ I (PI _ S.eN (fx bk) bo rfl) λa v W ab I=>?_;obtain⟨rfl,hb⟩:=ab;replace S:=S.below hb;replace aX:=cW aX hb;revert a;(repeat first|(intro a I;(refine r4 (λ_=>True) (λa W=>∃hL bM,Fr 80 [(0,.pointer (some ⟨g,0,none⟩)),(3,.slice none 0 0),(5,.pointer (some ⟨b,0,none⟩))] a/\nW B w W g t c 3 106 b (qU hL 1 bM)/\W.ownsRow w.heap.size 9 1 (.slice hL 1 bM) 1 [.string (aa [65])]) (.read 0 (.read 2 (.two 1 3 (.cJ 3 (.cJ 4 (.cJ 5 (.read 6 (.cJ 7 .done))))) (.two 1 4 (.cJ 4 (.cJ 5 (.read 6 (.cJ 7 .done)))) (.cJ 1 (.cJ 5 (.read 6 (.cJ 7 .done)))))))) 10 mixed bh trivial ?_ ?_;rotate_left);revert a)|refine ag ?_);intro a I
 · replace S:=S.below (cP.below (w:=W) (w':=W.drewN 1) ⟨1,rfl⟩ _);replace aX:=cW aX (cP.below (w:=W) (w':=W.drewN 1) ⟨1,rfl⟩ _);revert a;refine jq λa I=>?_;refine ln rfl rfl ?_ ?_;all_goals repeat' (first
    |refine dV rfl ?_
    |refine ln rfl rfl ?_ ?_
    |(refine st I (af (aF S.dJ rfl)) rfl (λa I=>?_);refine atJ ⟨rfl,trivial,?_⟩)
    |(refine aQ I (Dh _ S.eN (fx bk) bo rfl bk bk) λa v W ab I=>?_;obtain⟨rfl,cj,an⟩:=ab;replace aX:=gH aX an (fT aX S.eN.cur bk).symm;replace S:=S.call cj an;refine atJ ⟨rfl,trivial,?_⟩)
    |(refine st I (q5 (v:=.string (aa [65])) (aA _ _ rfl) xl rfl rfl) rfl (λa I=>?_);have eV:=auE W (.cells #[.string (aa [65])] 9);have cY:=e7 W (.cells #[.string (aa [65])] 9);replace S:=S.below cY;replace aX:=cW aX cY;refine atJ ⟨rfl,trivial,?_⟩))
   all_goals
    refine xL I (aA _ _ rfl) xl rfl aX (aF eV rfl) bk bk S.sz (k:=λa vY bM nZ eR aS I=>?_);replace S:=S.grow aX aS bk;refine atJ ⟨rfl,trivial,?_⟩;revert a;refine jq λa I=>?_;refine dV rfl ?_;refine cr I (aw _ _ rfl) S.dJ (i:=0+2) (by show 2<3;decide) rfl rfl rfl (k:=λa lC az an bT I=>?_);replace aX:=gH eR an (fT eR S.dJ bk).symm;refine atJ ⟨rfl,trivial,?_⟩;refine iw ⟨vY,bM,I.bb,S.store az an,aX⟩
 clear I S aX;rintro a W ⟨hL,db,I,S,aX⟩;revert a;(repeat first|(intro a I;refine gp ?_;revert a)|refine ag ?_);intro a I;refine aQ I (PI _ S.eN (fx bk) bo rfl) λa v W ab I=>?_;obtain⟨rfl,hb⟩:=ab;replace S:=S.below hb;replace aX:=cW aX hb;revert a;(repeat first|(intro a I;(refine r4 (λ_=>True) (λa W=>∃hL bM,Fr 80 [(0,.pointer (some ⟨g,0,none⟩)),(3,.slice none 0 0),(5,.pointer (some ⟨b,0,none⟩))] a/\nW B w W g t c 4 106 b (qU hL 2 bM)/\W.ownsRow w.heap.size 9 1 (.slice hL 2 bM) 2 [.string (aa [65]),.string (aa [66])]) (.read 0 (.read 2 (.two 1 3 (.cJ 3 (.cJ 4 (.cJ 5 (.read 6 (.cJ 7 .done))))) (.two 1 4 (.cJ 4 (.cJ 5 (.read 6 (.cJ 7 .done)))) (.cJ 1 (.cJ 5 (.read 6 (.cJ 7 .done)))))))) 10 mixed bh trivial ?_ ?_;rotate_left);revert a)|refine ag ?_);intro a I
 · replace S:=S.below (cP.below (w:=W) (w':=W.drewN 1) ⟨1,rfl⟩ _);replace aX:=cW aX (cP.below (w:=W) (w':=W.drewN 1) ⟨1,rfl⟩ _);revert a;refine jq λa I=>?_;refine ln rfl rfl ?_ ?_;all_goals repeat' (first
    |refine dV rfl ?_
    |refine ln rfl rfl ?_ ?_
    |(refine st I (af (aF S.dJ rfl)) rfl (λa I=>?_);refine atJ ⟨rfl,trivial,?_⟩)
    |(refine aQ I (Dh _ S.eN (fx bk) bo rfl bk bk) λa v W ab I=>?_;obtain⟨rfl,cj,an⟩:=ab;replace aX:=gH aX an (fT aX S.eN.cur bk).symm;replace S:=S.call cj an;refine atJ ⟨rfl,trivial,?_⟩)
    |(refine st I (q5 (v:=.string (aa [66])) (aA _ _ rfl) xl rfl rfl) rfl (λa I=>?_);have eV:=auE W (.cells #[.string (aa [66])] 9);have cY:=e7 W (.cells #[.string (aa [66])] 9);replace S:=S.below cY;replace aX:=cW aX cY;refine atJ ⟨rfl,trivial,?_⟩))
   all_goals
    refine xL I (aA _ _ rfl) xl rfl aX (aF eV rfl) bk bk S.sz (k:=λa vY bM nZ eR aS I=>?_);replace S:=S.grow aX aS bk;refine atJ ⟨rfl,trivial,?_⟩;revert a;refine jq λa I=>?_;refine dV rfl ?_;refine cr I (aw _ _ rfl) S.dJ (i:=0+2) (by show 2<3;decide) rfl rfl rfl (k:=λa lC az an bT I=>?_);replace aX:=gH eR an (fT eR S.dJ bk).symm;refine atJ ⟨rfl,trivial,?_⟩;refine iw ⟨vY,bM,I.bb,S.store az an,aX⟩
 clear I S aX;rintro a W ⟨hL,db,I,S,aX⟩;revert a;(repeat first|(intro a I;refine gp ?_;revert a)|refine ag ?_);intro a I;refine aQ I (alc _ S.eN (fx bk) rfl) λa v lB ab I=>?_;obtain⟨rfl,hb⟩:=ab;replace S:=S.below hb;replace aX:=cW aX hb;revert a;(repeat first|refine ag ?_|refine J (fR (cs:=qU hL 2 db) (agg _ rfl) (aw _ _ rfl) rfl (dy S.dJ)) ?_);intro a I;have FD:=auH lB w.heap.size 178 1;refine vJ I (aA _ _ rfl) WL rfl FD bk bk S.sz (k:=λa al de nZ iu an I=>?_);replace aX:=A7 aX an;replace S:=S.below (fA an);revert a;refine ad λa I=>?_;refine aQ I (LW _ S.eN (fx bk) bh) λa v lC hb I=>?_;replace S:=S.below hb;replace aX:=cW aX hb;replace iu:=cW iu hb;revert a;(repeat first|(intro a I;refine gp ?_;revert a)|(intro a I;refine auX 2 ?_;revert a)|refine ag ?_);intro a I;refine aQ I (xJ _ S.eN (fx bk) [66,79,95] true bh) λa v mG ab I=>?_;obtain⟨rfl,hb⟩:=ab;replace S:=S.below hb;replace aX:=cW aX hb;replace iu:=cW iu hb;revert a;refine ad λa I=>?_;refine aQ I (amf _ S.nr S.eN sd (atN uQ S.sz)) λa v q0 ab I=>?_;obtain⟨ay,cp,p,q,rfl,bs,cj,an⟩:=ab;replace aX:=gH aX an (fT aX S.eN.cur bk).symm;replace iu:=gH iu an (fT iu S.eN.cur bk).symm;have lT:=S.sz;replace S:=S.call cj an;revert a;refine ad λa I=>?_;refine vJ I (aA _ _ rfl) WL rfl iu bk bk S.sz (k:=λa Ll LP r0 At an I=>?_);replace aX:=Yo aX iu bk an;replace bs:=(bs.C5 iu bk bk an).lower lT;replace S:=S.grow iu an bk;revert a;refine ad λa I=>?_;refine aQ I (LW _ S.eN (fx bk) bh) λa v r1 hb I=>?_;replace S:=S.below hb;replace aX:=cW aX hb;replace At:=cW At hb;replace bs:=bs.below hb;revert a;(repeat first|(intro a I;refine gp ?_;revert a)|refine ag ?_);intro a I;refine aQ I (xJ _ S.eN (fx bk) [66,79,95] false bh) λa v aaT ab I=>?_;obtain⟨rfl,hb⟩:=ab;replace S:=S.below hb;replace aX:=cW aX hb;replace At:=cW At hb;replace bs:=bs.below hb;revert a;(repeat first|(intro a I;refine axj ?_;revert a)|refine ag ?_);intro a I;refine aQ I (xJ _ S.eN (fx bk) [86,65,76,95] false bh) λa v Hy ab I=>?_;obtain⟨rfl,hb⟩:=ab;replace S:=S.below hb;replace aX:=cW aX hb;replace At:=cW At hb;replace bs:=bs.below hb;revert a;refine ad λa I=>?_;refine aQ I (qL _ S.eN (fx bk)) λa v aqq ab I=>?_;obtain⟨rfl,hb⟩:=ab;revert a;(repeat first|refine ag ?_|refine J (td (v:=.int .i64 0) (hz _ _ _ _ rfl) (aA _ _ rfl) rfl rfl rfl) ?_);intro a I;exact bc I rfl rfl ⟨Ll,LP,hL,db,ay,cp,p,q,rfl,⟨cW At hb,cW aX hb,bs.below hb⟩,MD S.dQ hb⟩
end
end
section
variable {P:Program} {ops:Array Oper} {Q:Exit->Act->World->Prop} {a:Act} {w:World} {N:Nat} {l:List (Nat × Value)} {ds:List Deferred}
theorem aen{fn:Func}{c:Code}{args:List Value}{R:Value->World->Prop}(bC:P.funcs[f]? =some fn)(hb:fn.body=some c)(k:Nat)(au:fn.ntmps - args.length=k)(N:Nat)(hO:args.length+k=N)(h:∀a,Fr N (args.zipIdx.map λp=>(p.2,p.1)) a->c.wp P (bodyPostD P fn (λe w'=>∃v,e=.returned v/\R v w')) (dM a []) w):bd P f args.toArray w R:=by
 have ae:=h _ (Fr.enter args N k hO);rw [aas]at ae;subst au;exact calls_of_wp_defers bC hb (by simpa using ae)
theorem Dg(id:Nat){l':List Oper}(h:wpList P l'.toArray (λe aU w'=>Q e (dM aU ds) w') l' a w):(Code.region id l'.toArray false).wp P Q (dM a ds) w:=
 azy (Gn (Q:=Q) h)
theorem X0(h:Fr N l a){c:Operand}{x y:Code}{t:Bool}(av:a7 l c (.bool t))(bW:t=false)(aO:y.wp P Q (dM a ds) w):(Code.cond c x y).wp P Q (dM a ds) w:=
 wp_cond_false (by rw [Mm h av,bW]) aO
theorem Px{l2:List Oper}:∀{l1:List Oper} {a:Act} {w:World},wpList P ops (λe aU w'=>e=.normal/\wpList P ops Q l2 (dM aU ds) w') l1 a w->wpList P ops Q (l1++l2) (dM a ds) w
 | [],_,_,h=>by simp only [wpList]at h;exact h.2
 |o::l1,a,w,h=>by
  simp only [wpList,avb]at h ⊢;have bW:(dM a ds).tmps=a.tmps:=rfl;rw [bW];split
  · rename_i hw;rw [atM hw]at h;rcases h with h|⟨_,x,y,ae⟩
    · exact .inl (Yh (ds:=ds) (azd (λaU w' e9=>Px e9) (Gy (Q':=λe aU w'=>e=.normal/\wpList P ops Q l2 (dM aU ds) w') (λe aU w' ba e9=>absurd e9.1 ba) h)))
    · exact absurd ae.1 bl
  · rename_i hw;rw [atK hw]at h;have aW:(dM a ds).put o.dst undef=dM (a.put o.dst undef) ds:=by cases o.dst<;>rfl
    rw [aW];exact Px h
end
section
section
variable {P:Program} {ops:Array Oper} {Q:Exit->Act->World->Prop} {a:Act} {w:World} {N:Nat} {l:List (Nat × Value)} {ds:List Deferred}
theorem ad3(h:Fr N l a){y:Operand}{a8 cs:Array Value}{ats:Array TypeId}{ty:TypeId}{pos:String}{bx:Array Edge}(aO:a7 l y (.func (.func f) a8 cs))(k:Q .normal (dM a ({ target:=.fn (.func f) cs,args:=a8 }::ds)) w):
  wpList P ops Q [⟨none,.defer { callee:=.value y,args:=#[],argTypes:=ats },ty,pos,bx,none⟩] (dM a ds) w:=
 axc rfl λK cv=>by
  unfold Oper.wp;have bw:(dM a ds).eval y=.func (.func f) a8 cs:=Mm h aO;have aj:(execOp (dM a ds).eval ⟨none,.defer { callee:=.value y,args:=#[],argTypes:=ats },ty,pos,bx,none⟩).run P w=.ok (.defer { target:=.fn (.func f) cs,args:=a8 }) w:=by
   simp [execOp,resolve,Deferred.ofValue,bw]
  rw [aj];refine cv _ _ ?_;have dj:({ dM a ds with defers:={ target:=.fn (.func f) cs,args:=a8 }::(dM a ds).defers }:Act)=dM a ({ target:=.fn (.func f) cs,args:=a8 }::ds):=aar h.defers _ _;have fl:({ dM a ds with defers:={ target:=.fn (.func f) cs,args:=a8 }::(dM a ds).defers }:Act).put none undef=dM a ({ target:=.fn (.func f) cs,args:=a8 }::ds):=dj;rw [fl];exact atJ k
theorem amV{fn:Func}{p q:Nat}{t u:TypeId}{Mc Md:TypeDesc}{ap ki:Addr}{x:Value}(h:Fr N l a)(fI:fn.results=#[.cell p t,.cell q u])(b0:P.underlying t=some Mc)(U:pV Mc=true)(gi:P.underlying u=some Md)(ae:pV Md=true)(aW:look l p=some (.pointer (some ap)))(aZ:look l q=some (.pointer (some ki)))(av:w.cell? ap=some v)(aI:w.cell? ki=some x):(results fn a.tmps).run P w=.ok (.tuple #[v,x]) w:=by
 have bw:=h.at_ _ _ aW;have f1:=h.at_ _ _ aZ;have bf:(loadVar t ap).run P w=.ok v w:=by
  cases Mc<;>simp [pV]at U<;>simp [loadVar,isAgg,auf b0,av]
 have f2:(loadVar u ki).run P w=.ok x w:=by
  cases Md<;>simp [pV]at ae<;>simp [loadVar,isAgg,auf gi,aI]
 have dj:a.tmps[p]?.getD undef=.pointer (some ap):=by simp [bw]
 have f3:a.tmps[q]?.getD undef=.pointer (some ki):=by simp [f1]
 simp [results,fI,dj,f3,asAddr,bf,f2]
theorem amS{Q:Exit->Act->List Frame->World->Prop}{cs:List Frame}(h:Fr N l a){d e:Nat}{Z8:TypeId}{pos YA:String}{RS:Array Edge}(rr:recoverD cs=none)(aI:Nat.blt d N=true)(he:Nat.blt e N=true)(k:∀aU,Fr N ((e,.nilIface)::(d,.nilIface)::l) aU->Q .normal aU cs w):
  wpOpsS P #[⟨some d,.call { callee:=.builtin .recover,args:=#[],argTypes:=#[] },ty,pos,bx,none⟩,⟨some e,.assign (.tmp d),Z8,YA,RS,none⟩] Q [0,1] a cs w:=by
 have U:=h.put aI .nilIface;have ae:=U.put he .nilIface;have bw:(execOp a.eval ⟨some d,.call { callee:=.builtin .recover,args:=#[],argTypes:=#[] },ty,pos,bx,none⟩).run P w=.ok .recover w:=by
  simp [execOp,resolve,invoke,builtin]
 have bf:(execOp (a.put (some d) .nilIface).eval ⟨some e,.assign (.tmp d),Z8,YA,RS,none⟩).run P w=.ok (.value .nilIface) w:=by
  have:(a.put (some d) .nilIface).eval (.tmp d)=.nilIface:=U.eval _ _ (by simp [a7,look]);simp [execOp,this]
 simp only [wpOpsS];simp [Region.wanted,bw,rr,bf,Oper.upon,k _ ae]
theorem ajf(bC:dc P f)(cs:Array Value)(w:World):(invoke (.fn (.func f) cs) #[]).run P w=.ok (.enter f cs) w:=by
 obtain⟨fn,U,ae,aM⟩:=bC.out;simp only [invoke,callFunc,auu,axO,aun,ayL,U,ae,aM];simp
end
attribute [local irreducible] wpList wpQuiet wpStill Code.wp Exit.then Exit.inBlock bodyPost Calls bL eT
theorem J9{base n s q:Nat}(h:w.ownsRow base e s v n xs)(an:w.grownBy w' (some q))(aZ:q<base)(hb:jG<=base):w'.ownsRow jG e s v n xs:=
 rF (gH h an (λao=>by have:=(avc h q ao).1;omega)) hb
theorem pj.high{base:Nat}{c p q:Nat}(h:pj base w ay c p q)(an:w.grownBy w' (some eL))(aZ:eL<base)(hb:jG<=base):pj jG w' ay c p q:=
 ⟨J9 h.own an aZ hb,⟨aD h.pc.1 an (by have:=h.pc.2;simp;omega),atN hb h.pc.2⟩,⟨aD h.pd.1 an (by have:=h.pd.2;simp;omega),atN hb h.pd.2⟩⟩
theorem BI.high{base:Nat}{al hL:Option Addr}{cp p q:Nat}(h:BI base w al de hL db ay cp p q)(an:w.grownBy w' (some eL))(aZ:eL<base)(hb:jG<=base):BI jG w' al de hL db ay cp p q:=
 ⟨J9 h.nodes an aZ hb,J9 h.names an aZ hb,h.ms.high an aZ hb⟩
theorem RV(w:World)(x:Value)(t:TypeId):bd prog 38 [.nilIface,.iface t x].toArray w (λv w'=>v=.bool false/\w'=w):=by
 refine dP func38 rfl 40 rfl 42 rfl (λa I=>?_);revert a;refine ad λa I=>?_;exact bc I rfl rfl ⟨rfl,rfl⟩
theorem aeF(w:World)(x y:Value):CallsD prog 67 [x,y].toArray .returning w (λe fy w'=>fy=.returning/\w'=w/\∃v,e=.returned v):=by
 refine callsD_of_wpS func67 rfl (λc0 cs hm=>?_);have aJ:=Fr.enter [x,y] 18 16 rfl;replace aJ:Fr 18 [(0,x),(1,y)] _:=aJ;refine wpS_seq (wpS_region ?_);refine amS aJ (d:=5) (e:=2) (by simp [recoverD,hm]) rfl rfl (λa I=>?_);clear aJ;refine wpS_of_wp ?_;revert a;refine ad λa I=>?_;exact⟨I.defers,.returning,by rw [<-hm],_,results_none rfl _ _ _,rfl,rfl,_,rfl⟩
theorem aeG{B:Nat}(w:World)(bF:mE B w)(aH:B<=w.heap.size):bd prog 35 [.string (aa DN)].toArray w (λv w'=>∃al de hL db ay cp p q,v=.tuple #[.slice al 2 de,.nilIface]/\BI w.heap.size w' al de hL db ay cp p q/\Below w.heap.size w w'):=by
 refine aen func35 rfl 25 rfl 26 rfl (λa I=>?_);replace I:Fr 26 [(0,.string (aa DN))] a:=I;refine ay9 (Dg _ ?_);refine b6 I aja λa aq aE aT b8 I=>?_;have aB:=ca aT;refine b6 I WO λa ax aP aS cZ I=>?_;have aC:=aB.trans ((ca aS).mono aB.size);replace aE:=bG (ca aS) aE;refine atJ (mb (ay9 ?_));refine azy (Px (l1:=[_]) (l2:=[_]) ?_);revert a;(repeat first|refine ag ?_|refine J (wm (vs:=[.pointer (some ⟨w.heap.size,0,none⟩),.pointer (some ⟨aq.heap.size,0,none⟩)]) ⟨rfl,rfl,trivial⟩) ?_);intro a I;refine⟨rfl,ad3 I rfl (mb (ay9 (Dg _ ?_)))⟩;revert a;refine ad λa I=>?_;refine aQ I (an2 ax DN (avX bh) aow KO 5 1 aox) λa v a6 ab I=>?_;obtain⟨⟨ay,c,rfl,aX⟩,a1⟩:=ab;have ao':KO.length+1=51:=bh
 rw [ao']at aX I;obtain⟨t,rfl,bW⟩:=nM aX bk;have qx:=(tU aX).1;replace aE:=bG a1 aE;replace aP:=bG a1 aP;have IB:=(bF.below aC).below a1;have uX:=aC.trans (a1.mono aC.size);have pO:=a1.size;have tL:=J7 aX t rfl;revert a;refine ad λa I=>?_;refine cr I (aw _ _ rfl) aP (i:=0) bk rfl rfl rfl (k:=λa bZ bX bD eY I=>?_);replace bX:bZ.heap[aq.heap.size]? =some (.cells #[.nilIface] 27 (0,0)):=bX;replace aX:=gH aX bD (by simp [Value.ownBlock];omega);replace aE:=aD aE bD bm;have afG:=IB.kept bD bj;have b7:=aK uX bD uX.size;refine atJ (mb (ay9 (Dg _ ?_)));refine b6 I WJ λa bN bB br dw I=>?_;have cx:=ca br;replace aX:=A7 aX br;replace aE:=bG cx aE;replace bX:=bG cx bX;have EW:=afG.below cx;refine atJ (mb (ay9 (ay9 (Dg _ ?_))));revert a;(repeat first|refine ag ?_|refine J (im au4 (aF bX rfl)) ?_);intro a I;refine aQ I (RV _ _ _) λa v bQ ab I=>?_;obtain⟨rfl,rfl⟩:=ab;refine atJ (mb (X0 I rfl rfl (wp_skip (mb (ay9 (ay9 (Dg _ ?_)))))));revert a;(repeat first|refine ag ?_|refine J (im au4 (aF bX rfl)) ?_);intro a I;refine X0 I rfl rfl (wp_skip (mb (ay9 (Dg _ ?_))));revert a;(repeat first|refine ag ?_|refine J (cA (vs:=[(0,.slice (some ⟨t,0,none⟩) 51 c)]) (cells:=#[.slice (some ⟨t,0,none⟩) 51 c]) bh ⟨rfl,rfl,trivial⟩) ?_);intro a I;refine di I (cs:=#[.slice (some ⟨t,0,none⟩) 51 c]) rfl (k:=λa bt c8 cf fZ I=>?_);have b2:=ca cf;replace aX:=A7 aX cf;replace aE:=bG b2 aE;replace bX:=bG b2 bX;have afH:=EW.below b2;have cj:gy bt _ t c 0:=⟨c8,A8 apb aX KP,qx,bj⟩;have o0:=aK (aK b7 br b7.size) cf bj;revert a;refine ad λa I=>?_;refine Gn ?_;revert a;refine ad λa I=>?_;refine aQ I (amo bt afH cj bj bj) λa v cD ab I=>?_;obtain⟨al,de,hL,db,ay,cp,p,q,rfl,bS,bE⟩:=ab;have hl:=bE.size;have g1:some w.heap.size≠some bQ.heap.size:=bm
 have g4:some aq.heap.size≠some bQ.heap.size:=bm
 replace aE:=aD aE bE g1;replace bX:=aD bX bE g4;have c':=aK o0 bE bj;refine cr I (aw _ _ rfl) aE (i:=0) bk rfl rfl rfl (k:=λa dt dm cG hn I=>?_);replace dm:dt.heap[w.heap.size]? =some (.cells #[.slice al 2 de] 97 (0,0)):=dm;have aga:=bS.high cG bj (atI _);replace bX:=aD bX cG bm;refine cr I (aw _ _ rfl) bX (i:=0) bk rfl rfl rfl (k:=λa gw rj gq tK I=>?_);replace rj:gw.heap[aq.heap.size]? =some (.cells #[.nilIface] 27 (0,0)):=rj;have af':=aga.high gq bj (show w.heap.size<=_ by omega);replace dm:=aD dm gq bm;have gN:=aK (aK c' cG c'.size) gq bj;refine atJ (mb (azB ?_));show Leaves _ _ _ _ (dM a _).defers _ _;have aI:∀ds,(dM a ds).defers=ds:=λds=>by simp [dM,I.defers]
 rw [aI];refine leaves_cons bl (ajf acB _ _) ?_;refine CallsD.mono (aeF gw _ _) ?_;rintro e fy w' ⟨rfl,rfl,v,rfl⟩;have aj:=λfn sn=>amV (P:=prog) (p:=2) (q:=3) (fn:=fn) I sn underlying97 rfl au4 rfl rfl rfl (aF (i:=0) dm rfl) (aF (i:=0) rj rfl);exact⟨_,aj _ rfl,_,rfl,al,de,hL,db,ay,cp,p,q,rfl,af',gN⟩
end
end Go.Proofs.YtnkjmbbddmgjiaaGreatDoor
namespace Go.Proofs
open Go.RowKit
section
open Go.Shelf
def Tryz.ae5:Go.Shelf.Ren:=⟨λ| 41=>134 |n=>n,λ| 22=>122 | 23=>133 | 4=>4 |n=>n,λ|n=>n⟩
theorem Tryz.ae3:Go.Proofs.SlLaysE0.n41 Tryz.prog Tryz.ae5:={
 mixed:=bh
 f41:=⟨Tryz.f134.name,bk,Tryz.func134.trans (atW some bh)⟩
 t4:=aut
 a4:=avi
 z4:=ave
 v4:=auz
 t22:=Tryz.underlying122
 a22:=Tryz.isAgg122
 z22:=Tryz.sizeOf122
 v22:=Tryz.zeroValue122 }
end
end Go.Proofs
namespace Go.Proofs.YtnkjmbbddmgjiaaGreatDoor
open Go.RowKit Go.Proofs.Tryz
variable {w cy w':World}{x:Operand}{z v:Value}{e ty e' sW:TypeId}{bx:Array Edge}{ay:Option Addr}{xs ys:List Value}{jG Lo e1 eL de db j n2:Nat}{f:FuncId}
section
section
variable {P:Program} {w:World} {l:List (Nat × Value)}
theorem H7{t:TypeId}(b0:(P.underlying t).map n0=some true)(hx:a7 l x (.iface t v):=by exact rfl):bL P l w (.typeAssert x sW t true) ty (.tuple #[v,.bool true]) w:=by
 intro cC aY d pos bx g;obtain⟨h2,U,ae⟩:=at7.1 b0;cases h2<;>simp [n0]at ae<;>simp [execOp,Instr.typeAssert,aY _ _ hx,auf U]
theorem B2{t u:TypeId}{n b:Nat}(b0:(P.underlying t).map n0=some true)(bA:(P.info? t).map (λi=>(i.zero,i.size,i.bytes))=some (some z,n,b))(hx:a7 l x (.iface u v):=by exact rfl)(b5:u≠t:=by decide):bL P l w (.typeAssert x sW t true) ty (.tuple #[z,.bool false]) w:=by
 intro cC aY d pos bx g;obtain⟨h2,U,ae⟩:=at7.1 b0;obtain⟨i,g1,g2,_,_⟩:=avH bA;cases h2<;>simp [n0]at ae<;>simp [execOp,Instr.typeAssert,aY _ _ hx,auf U,b5,zeroValue,typeInfo,g1,g2]
end
attribute [local irreducible] wpList wpQuiet wpStill Code.wp Exit.then Exit.inBlock bodyPost Calls bL eT
theorem Yq{base n c s g:Nat}(h:w.ownsRow base e s (.slice (some ⟨g,0,none⟩) n c) n xs)(aJ:0<n*s):∃rest,w.heap[g]? =some (.cells (xs++rest).toArray e (0,0))/\base<=g/\n<=c:=by
 rcases h.2 with ⟨U,ae⟩|⟨jx,cap,cur,U,hb,az,hle,_,aG,bW⟩
 · cases U
 · cases U
   exact⟨cur.toList.drop (n*s),by rw [az,<-bW,awd],hb,hle⟩
theorem J8{base n c s g:Nat}(h:w.ownsRow base e s (.slice (some ⟨g,0,none⟩) n c) n xs)(aJ:0<n*s):∀j u,xs[j]? =some u->w.cell? ⟨g,0+j,none⟩=some u:=by
 intro j u ah;obtain⟨rest,az,_⟩:=Yq h aJ;have aN:=(atY.1 ah).1;rw [aub];refine aF az ?_;simp [auK aN,ah]
theorem Qv(w:World)(ss:List ByteArray){b c:Nat}(av:∀j u,(ss.map Value.string)[j]? =some u->w.cell? ⟨b,0+j,none⟩=some u)(aN:ss.length<=100)(aJ:0<ss.length):bd prog 133 [.slice (some ⟨b,0,none⟩) ss.length c].toArray w
   (λv w'=>(∃g eS,v=.slice (some ⟨g,0,none⟩) ss.length eS/\w'.ownsRow w.heap.size 9 1 (.slice (some ⟨g,0,none⟩) ss.length eS) ss.length (ss.map .string))/\Below w.heap.size w w'):=by
 refine auC (Tryz.slices_Clone_string b 0 ss.length c ss w (atI _) bj (λj ah=>?_)) ?_
 · rw [av j (.string (ss.getD j ByteArray.empty)) (by simp [List.getD,atT ah])]
 · rintro e w' ⟨iy,he,bp,b5,hb⟩;rw [av0]at bp;obtain⟨ay,eS,rfl,_⟩:=tW bp;obtain⟨g,rfl,_⟩:=nM bp aJ;exact⟨_,he,⟨g,eS,rfl,bp⟩,hb⟩
theorem ae4(w:World)(ss:List b1){b c:Nat}(av:∀j u,(ss.flatMap b1.cells)[j]? =some u->w.cell? ⟨b,0+j,none⟩=some u)(aN:ss.length<=100)(aJ:0<ss.length):bd prog 134 [.slice (some ⟨b,0,none⟩) ss.length c].toArray w
   (λv w'=>(∃g eS,v=.slice (some ⟨g,0,none⟩) ss.length eS/\w'.ownsRow w.heap.size 133 19 (.slice (some ⟨g,0,none⟩) ss.length eS) ss.length (ss.flatMap b1.cells))/\Below w.heap.size w w'):=by
 obtain⟨i0,g1,g2,g3,g4⟩:=avH kv;refine auC (AnyE.slices_Clone Tryz.ae3 i0 _ 19 _ g1 g2 g3 g4 rfl bk sizeOf133 b 0 ss.length c (ss.flatMap b1.cells) w (B9 (enc:=b1.cells) (λ_=>rfl) ss) bn bj av (λu hu=>?_)) ?_
 · obtain⟨x,_,hx⟩:=awa.1 hu;exact kB x u (by simpa using hx)
 · rintro e w' ⟨iy,he,bp,b5,hb⟩;obtain⟨ay,eS,rfl,_⟩:=tW bp;obtain⟨g,rfl,_⟩:=nM bp aJ;exact⟨_,he,⟨g,eS,rfl,bp⟩,hb⟩
theorem ajA(w:World)(x:Value):bd prog 70 [.iface 106 x].toArray w (λv w'=>v=.agg #[.int .i64 2,.string (aa [115,116,97,116,105,111,110,115])]/\Below w.heap.size w w'):=by
 refine cF func70 rfl 20 rfl 21 rfl (λa I=>?_);refine fC (fB _ ?_);refine b6 I WM λa aq aE aT b8 I=>?_;have aB:=ca aT;revert a;(repeat first|refine ag ?_|refine J (B2 (agg _ rfl) JE) ?_|refine J (H7 (agg _ rfl)) ?_|refine J (cA (vs:=[(0,.int .i64 2),(1,.string (aa [115,116,97,116,105,111,110,115]))]) (cells:=#[.int .i64 2,.string (aa [115,116,97,116,105,111,110,115])]) bh ⟨rfl,rfl,rfl,rfl,trivial⟩) ?_);intro a I;refine cE I (cs:=#[.int .i64 2,.string (aa [115,116,97,116,105,111,110,115])]) aE (by intro v ao;simp at ao;rcases ao with rfl|rfl<;>rfl) λa ax aP aS cZ I=>?_;revert a;refine ad λa I=>?_;exact ff I rfl (agg _ rfl) (aw _ _ rfl) aP rfl ⟨rfl,aK aB aS bj⟩
theorem ajz(w:World)(x:Value):bd prog 70 [.iface 124 x].toArray w (λv w'=>v=.agg #[.int .i64 3,.string (aa [109,101,115,115,97,103,101])]/\Below w.heap.size w w'):=by
 refine cF func70 rfl 20 rfl 21 rfl (λa I=>?_);refine fC (fB _ ?_);refine b6 I WM λa aq aE aT b8 I=>?_;have aB:=ca aT;revert a;(repeat first|refine ag ?_|refine J (B2 (agg _ rfl) JE) ?_|refine J (B2 (agg _ rfl) Gh) ?_|refine J (H7 (agg _ rfl)) ?_|refine J (cA (vs:=[(0,.int .i64 3),(1,.string (aa [109,101,115,115,97,103,101]))]) (cells:=#[.int .i64 3,.string (aa [109,101,115,115,97,103,101])]) bh ⟨rfl,rfl,rfl,rfl,trivial⟩) ?_);intro a I;refine cE I (cs:=#[.int .i64 3,.string (aa [109,101,115,115,97,103,101])]) aE (by intro v ao;simp at ao;rcases ao with rfl|rfl<;>rfl) λa ax aP aS cZ I=>?_;revert a;refine ad λa I=>?_;exact ff I rfl (agg _ rfl) (aw _ _ rfl) aP rfl ⟨rfl,aK aB aS bj⟩
theorem alz(w:World){b c:Nat}(ss:List ByteArray)(av:∀j u,(ss.map Value.string)[j]? =some u->w.cell? ⟨b,0+j,none⟩=some u)(aN:ss.length<=100)(aJ:0<ss.length):bd prog 71 [.agg (qU (some ⟨b,0,none⟩) ss.length c)].toArray w
  (λv w'=>(∃g eS,v=.agg (qU (some ⟨g,0,none⟩) ss.length eS)/\w'.ownsRow w.heap.size 9 1 (.slice (some ⟨g,0,none⟩) ss.length eS) ss.length (ss.map .string))/\Below w.heap.size w w'):=by
 refine cF func71 rfl 7 rfl 8 rfl (λa I=>?_);refine fC (fB _ ?_);refine di I (cs:=qU (some ⟨b,0,none⟩) ss.length c) rfl (k:=λa aq aE aT b8 I=>?_);have aB:=ca aT;refine b6 I Gh λa ax aP aS cZ I=>?_;have aC:=aB.trans ((ca aS).mono aB.size);replace aE:=bG (ca aS) aE;revert a;(repeat first|refine ag ?_|refine J (af (aF aE rfl)) ?_);intro a I;refine aQ I (Qv ax ss (λj u ah=>eG (av j u ah) aC) aN aJ) λa v a6 ab I=>?_;obtain⟨⟨g,eS,rfl,aX⟩,a1⟩:=ab;replace aE:=bG a1 aE;replace aP:=bG a1 aP;have pO:=a1.size;have uX:=aC.trans (a1.mono aC.size);revert a;refine ad λa I=>?_;refine cr I (aw _ _ rfl) aE (i:=0+2) (by show 2<3;decide) rfl rfl rfl (k:=λa bZ bX bD eY I=>?_);replace bX:bZ.heap[w.heap.size]? =some (.cells (qU (some ⟨g,0,none⟩) ss.length eS) 106 (0,0)):=bX;replace aP:=aD aP bD bm;replace aX:=J9 aX bD bj (show w.heap.size<=_ by omega);revert a;refine ad λa I=>?_;refine st I (bJ (dy bX)) rfl (λa I=>?_);refine cE I (cs:=qU (some ⟨g,0,none⟩) ss.length eS) aP (KH _ _ _) λa bN bB br dw I=>?_;replace aX:=gH aX br (fT aX aP bk).symm;revert a;refine ad λa I=>?_;refine ff I rfl (agg _ rfl) (aw _ _ rfl) bB rfl ⟨⟨g,eS,rfl,aX⟩,?_⟩;exact aK (aK uX bD uX.size) br bj
end
section
attribute [local irreducible] wpList wpQuiet wpStill Code.wp Exit.then Exit.inBlock bodyPost Calls bL eT
section
attribute [local irreducible] Code.rounds
def G0(p cp q cq:Nat):List Value:=[mX (some ⟨p,0,none⟩) cp,dO (some ⟨q,0,none⟩) cq].flatMap b1.cells
structure jZ(base:Nat)(w:World)(g p cp q cq:Nat):Prop where
 row:∃rest,w.heap[g]? =some (.cells (G0 p cp q cq++rest).toArray 133 (0,0))
 az:base<=g
 pc:w.ownsRow base 9 1 (.slice (some ⟨p,0,none⟩) 1 cp) 1 [.string (aa [65])]
 pd:w.ownsRow base 9 1 (.slice (some ⟨q,0,none⟩) 1 cq) 1 [.string (aa [66])]
theorem Yf{p:Nat}{s:ByteArray}(h:w.heap[p]? =some (.cells #[.string s] 9 (0,0))):∀j u,([s].map Value.string)[j]? =some u->w.cell? ⟨p,0+j,none⟩=some u:=by
 intro j u ah;rw [aub];refine aF h ?_
 match j,ah with
 | 0,ah=>simpa using ah
theorem alu(w:World){base c p q:Nat}(h:pj base w ay c p q):bd prog 72 [.agg (cO.cells (et ay 2 c)).toArray].toArray w
   (λv w'=>(∃g cL rG cp eL cq,v=.agg (cO.cells (et (some ⟨g,0,none⟩) 2 cL)).toArray/\2<=cL/\jZ w.heap.size w' g rG cp eL cq)/\Below w.heap.size w w'):=by
 obtain⟨b,rfl,_⟩:=nM h.own bk;refine cF func72 rfl 27 rfl 28 rfl (λa I=>?_);refine fC (fB _ ?_);refine di I (cs:=(cO.cells (et (some ⟨b,0,none⟩) 2 c)).toArray) rfl (k:=λa aq aE aT b8 I=>?_);have aB:=ca aT;refine b6 I yN λa ax aP aS cZ I=>?_;have aC:=aB.trans ((ca aS).mono aB.size);replace aE:=bG (ca aS) aE;revert a;(repeat first|refine ag ?_|refine J (af (aF aE rfl)) ?_);intro a I;refine mY I (ae4 ax [mX (some ⟨p,0,none⟩) 1,dO (some ⟨q,0,none⟩) 1] (λj u ah=>eG (J8 h.own bk j u ah) aC) (show 2<=100 by decide) (show 0<2 by decide)) abW ⟨rfl,trivial⟩ (k:=λa v a6 ab I=>?_);obtain⟨⟨g,cL,rfl,aX⟩,a1⟩:=ab;obtain⟨rest,iD,nz,jK⟩:=Yq aX (show 0<2*19 by decide);clear aX;replace aE:=bG a1 aE;replace aP:=bG a1 aP;have pO:=a1.size;have uX:=aC.trans (a1.mono aC.size);have aW:=bG uX h.pc.1;have aZ:=bG uX h.pd.1;revert a;refine ad λa I=>?_;refine cr I (aw _ _ rfl) aE (i:=0+7) (by show 7<8;decide) rfl rfl rfl (k:=λa bZ bX bD eY I=>?_);replace bX:bZ.heap[w.heap.size]? =some (.cells (cO.cells (et (some ⟨g,0,none⟩) 2 cL)).toArray 124 (0,0)):=bX;replace aP:=aD aP bD bm;replace iD:=aD iD bD bm;have aky:=bO h.pc.1;have yT:=bO h.pd.1;replace aW:=aD aW bD bm;replace aZ:=aD aZ bD bm;have dk:=aK uX bD uX.size;revert a;(repeat first|(intro a I;refine gp ?_;revert a)|(intro a I;refine auX 3 ?_;revert a)|(intro a I;(refine gJ (λW=>W.heap[w.heap.size]? =some (.cells (cO.cells (et (some ⟨g,0,none⟩) 2 cL)).toArray 124 (0,0))) [(0,true),(1,true),(2,true),(3,true),(4,true),(5,true),(6,true),(7,true),(8,false),(9,false),(10,false),(11,false),(12,false)] _ mixed bh bX ?_;simp only [fF,atZ,atS,atO,at1,aug]);revert a)|refine ag ?_|refine J (af (aF bX rfl)) ?_);intro a I;revert a;(repeat first|refine e3 ?_|refine cB (λak ar=>dq (n:=2) (j:=0)) ?_|refine cB (λak ar=>af (aF ar rfl)) ?_);intro a I;have cd:Below bZ.heap.size bZ (bZ.drewN 1):=cP.below ⟨1,rfl⟩ _;have ajC:(bZ.drewN 1).heap.size=bZ.heap.size:=rfl;replace iD:=bG cd iD;replace bX:=bG cd bX;replace aP:=bG cd aP;replace aW:=bG cd aW;replace aZ:=bG cd aZ;replace dk:=dk.trans (cd.mono dk.size);generalize bZ.drewN 1=gw at*;refine c7 ?_;refine st I (af (aF iD rfl)) rfl (λa I=>?_);refine atJ ⟨rfl,bX,?_⟩;refine c7 ?_;refine aQ I (Qv gw [aa [65]] (Yf aW) bk bk) λa v atn ab I=>?_;obtain⟨⟨rG,cp,rfl,nE⟩,hb⟩:=ab;replace iD:=bG hb iD;replace bX:=bG hb bX;replace aP:=bG hb aP;replace aZ:=bG hb aZ;replace dk:=dk.trans (hb.mono dk.size);have asN:=hb.size;clear hb;refine atJ ⟨rfl,bX,?_⟩;refine c7 ?_;revert a;(repeat first|refine ag ?_|refine J (dq (n:=2) (j:=0)) ?_);intro a I;refine⟨rfl,bX,?_⟩;refine c7 ?_;revert a;refine ad λa I=>?_;refine⟨rfl,bX,?_⟩;refine c7 ?_;refine cr I (aw _ _ rfl) iD (i:=18) (by simp [mX,dO,b1.cells]) rfl rfl rfl (k:=λa lv Al an bT I=>?_);replace Al:lv.heap[g]? =some (.cells (([mX (some ⟨rG,0,none⟩) cp,dO (some ⟨q,0,none⟩) 1].flatMap b1.cells)++rest).toArray 133 (0,0)):=by
   rw [Al];simp [mX,dO,b1.cells]
 replace bX:=aD bX an bm;replace aP:=aD aP an bm;replace aZ:=aD aZ an (by have:=c1 aZ iD bk;simp;exact this);replace nE:=gH nE an (fT nE iD bk).symm;replace dk:=aK dk an dk.size;clear iD;have iD:=Al;refine atJ ⟨rfl,bX,?_⟩;refine fj ?_;revert a;(repeat first|(intro a I;refine gp ?_;revert a)|(intro a I;(refine gJ (λW=>W.heap[w.heap.size]? =some (.cells (cO.cells (et (some ⟨g,0,none⟩) 2 cL)).toArray 124 (0,0))) [(0,true),(1,true),(2,true),(3,true),(4,true),(5,true),(6,true),(7,true),(8,false),(9,false),(10,false),(11,false),(12,false)] _ mixed bh bX ?_;simp only [fF,atZ,atS,atO,at1,aug]);revert a)|refine ag ?_);intro a I;revert a;(repeat first|refine e3 ?_|refine cB (λak ar=>dq (n:=2) (j:=1)) ?_|refine cB (λak ar=>af (aF ar rfl)) ?_);intro a I;have cd:Below lv.heap.size lv (lv.drewN 1):=cP.below ⟨1,rfl⟩ _;have ajC:(lv.drewN 1).heap.size=lv.heap.size:=rfl;replace iD:=bG cd iD;replace bX:=bG cd bX;replace aP:=bG cd aP;replace aZ:=bG cd aZ;replace dk:=dk.trans (cd.mono dk.size);replace nE:=cW nE cd;generalize lv.drewN 1=aah at*;refine c7 ?_;refine st I (af (aF iD rfl)) rfl (λa I=>?_);refine atJ ⟨rfl,bX,?_⟩;refine c7 ?_;refine aQ I (Qv aah [aa [66]] (Yf aZ) bk bk) λa v atr ab I=>?_;obtain⟨⟨eL,cq,rfl,F'⟩,hb⟩:=ab;replace iD:=bG hb iD;replace bX:=bG hb bX;replace aP:=bG hb aP;replace aZ:=bG hb aZ;replace nE:=cW nE hb;replace dk:=dk.trans (hb.mono dk.size);have asO:=hb.size;clear hb;refine atJ ⟨rfl,bX,?_⟩;refine c7 ?_;revert a;(repeat first|refine ag ?_|refine J (dq (n:=2) (j:=1)) ?_);intro a I;refine⟨rfl,bX,?_⟩;refine c7 ?_;revert a;refine ad λa I=>?_;refine⟨rfl,bX,?_⟩;refine c7 ?_;refine cr I (aw _ _ rfl) iD (i:=37) (by simp [mX,dO,b1.cells]) rfl rfl rfl (k:=λa aai Al an bT I=>?_);replace Al:aai.heap[g]? =some (.cells (([mX (some ⟨rG,0,none⟩) cp,dO (some ⟨eL,0,none⟩) cq].flatMap b1.cells)++rest).toArray 133 (0,0)):=by
   rw [Al];simp [mX,dO,b1.cells]
 replace bX:=aD bX an bm;replace aP:=aD aP an bm;replace aZ:=aD aZ an (by have:=c1 aZ iD bk;simp;exact this);replace F':=gH F' an (fT F' iD bk).symm;replace nE:=gH nE an (fT nE iD bk).symm;replace dk:=aK dk an dk.size;clear iD;have iD:=Al;refine atJ ⟨rfl,bX,?_⟩;refine fj ?_;revert a;(repeat first|(intro a I;refine gp ?_;revert a)|refine ag ?_|refine J (bJ (dy bX)) ?_);intro a I;refine cE I (cs:=(cO.cells (et (some ⟨g,0,none⟩) 2 cL)).toArray) aP (AY _) λa aaj NL w0 aih I=>?_;have eH:aq.heap.size≠g:=bj
 revert a;refine ad λa I=>?_;refine ff I rfl (agg _ rfl) (aw _ _ rfl) NL rfl ⟨⟨g,cL,rG,cp,eL,cq,rfl,jK,⟨⟨rest,aD iD w0 bm⟩,bj,?_,?_⟩⟩,?_⟩
 · exact rF (gH nE w0 (fT nE aP bk).symm) bj
 · exact rF (gH F' w0 (fT F' aP bk).symm) bj
 · exact aK dk w0 dk.size
end
abbrev hZ:=b1 × List ByteArray
def b1.at(s:b1)(g c:Nat):b1:={ s with azO:=some ⟨g,0,none⟩,Ha:=c }
def ZB:b1:=⟨0,0,⟨#[]⟩,0,0,-7,0,false,false,0,0,0,0,0,0,0,0,⟨#[]⟩,none,0,0⟩
structure zA(w:World)(ay:Option Addr)(n c:Nat)(aR:List hZ):Prop where
 len:aR.length=n
 rd:dA w ay 19 b1.cells (aR.map (·.1))
 each:∀p∈aR,BH w p.1 p.2
 cap:n<=c
 bytes:n*176<=140737488351232
theorem zA.below{n c:Nat}{aR:List hZ}(h:zA w ay n c aR)(hb:Below w.heap.size w w'):zA w' ay n c aR:=
 ⟨h.len,h.rd.below hb,λp aW=>(h.each p aW).below hb,h.cap,h.bytes⟩
theorem x6{b o:Nat}{cs:List Value}(h:∀q v,cs[q]? =some v->w.cell? ⟨b,o+q,none⟩=some v):∀j v,cs.toArray[j]? =some v->w.cell? ⟨b,o+j,none⟩=some v:=λj v ah=>h j v (by simpa using ah)
theorem abb{aR:List hZ}{i:Nat}(h:i<aR.length):(aR.map (·.1))[i]'(by simpa using h)=aR[i].1:=bl
def xY(w:World)(m:cO)(aR:List hZ):Prop:=zA w m.cn m.dO m.vI aR
end
section
section
variable {P:Program} {w:World} {l:List (Nat × Value)}
theorem adA{i:Operand}{cs:Array Value}{n sz:Nat}{k:IntKind}{q:Int}{t ty:TypeId}(b0:P.underlying t=some (.array n e))(bF:(P.underlying e).map n0=some true)(aG:(P.info? e).map (·.size)=some sz)(hx:a7 l x (.agg cs):=by exact rfl)(ai:a7 l i (.int k q):=by exact rfl)(aZ:q=(j:Int):=by exact rfl)(ah:j<n:=by omega):
  bL P l w (.index t x i) ty (.agg (cs.extract (j*sz) (j*sz+sz))) w:=by
 intro cC aY d pos bx g;subst aZ;obtain⟨pb,U,ae⟩:=at7.1 aG;obtain⟨h2,aM,cc⟩:=at7.1 bF;cases h2<;>simp [n0]at cc<;>simp [execOp,Instr.index,asIntOf,aY _ _ hx,aY _ _ ai,auf b0,sizeOf,typeInfo,U,ae,ah,part,isAgg,auf aM]
end
attribute [local irreducible] wpList wpQuiet wpStill Code.wp Exit.then Exit.inBlock bodyPost Calls bL eT
structure rY(s:b1):Prop where
 c6: -9223372036854775808<=s.c6/\s.c6<=9223372036854775807
 kA: -9223372036854775808<=s.kA/\s.kA<=9223372036854775807
 fn: -9223372036854775808<=s.fn/\s.fn<=9223372036854775807
 fd: -9223372036854775808<=s.fd/\s.fd<=9223372036854775807
 jQ: -9223372036854775808<=s.jQ/\s.jQ<=9223372036854775807
 md: -9223372036854775808<=s.md/\s.md<=9223372036854775807
 kg: -9223372036854775808<=s.kg/\s.kg<=9223372036854775807
 kf: -9223372036854775808<=s.kf/\s.kf<=9223372036854775807
 j1:0<=s.branch/\s.branch<18446744073709551616
open Go.ChangeShapes Go.WideShapes in
instance (a b c d:Int):Decidable (BK a b c d):=by unfold BK;infer_instance
def pZ(s:b1):Int:=
 if lp s.c6 s.kA=false then 1 else if lp s.fn s.fd=false then 1 else if lp s.jQ s.md=false then 1 else if lp s.kg s.kf=false then 1
 else if s.c6=0 then 10 else if BK s.jQ s.md s.kg s.kf then 18 else 0
def P9(s:b1):Array Value:=#[.int .i64 s.c6,.int .i64 s.kA,.int .i64 s.fn,.int .i64 s.fd,.int .i64 s.jQ,.int .i64 s.md,.int .i64 s.kg,.int .i64 s.kf]
def y'(s:b1):Nat->Int
 | 0=>s.c6| 1=>s.fn| 2=>s.jQ|_=>s.kg
def y9(s:b1):Nat->Int
 | 0=>s.kA| 1=>s.fd| 2=>s.md|_=>s.kf
theorem amF(s:b1)(h:j<4):(P9 s).extract (j*2) (j*2+2)=#[.int .i64 (y' s j),.int .i64 (y9 s j)]:=by
 have:j=0\/j=1\/j=2\/j=3:=bj
 rcases this with rfl|rfl|rfl|rfl<;>rfl
theorem amE(s:b1)(aH:rY s)(h:j<4):(-9223372036854775808<=y' s j/\y' s j<=9223372036854775807)/\(-9223372036854775808<=y9 s j/\y9 s j<=9223372036854775807):=by
 have:j=0\/j=1\/j=2\/j=3:=bj
 rcases this with rfl|rfl|rfl|rfl
 · exact⟨aH.c6,aH.kA⟩
 · exact⟨aH.fn,aH.fd⟩
 · exact⟨aH.jQ,aH.md⟩
 · exact⟨aH.kg,aH.kf⟩
theorem amB{s:b1}(h:j<4)(aj:lp (y' s j) (y9 s j)=false):pZ s=1:=by
 unfold pZ;have:j=0\/j=1\/j=2\/j=3:=bj
 rcases this with rfl|rfl|rfl|rfl
 · exact atM aj
 · split
   · rfl
   · exact atM aj
 · split
   · rfl
   · split
     · rfl
     · exact atM aj
 · split
   · rfl
   · split
     · rfl
     · split
       · rfl
       · exact atM aj
theorem amD{s:b1}(h:∀j,j<4->lp (y' s j) (y9 s j)=true):pZ s=if s.c6=0 then 10 else if BK s.jQ s.md s.kg s.kf then 18 else 0:=by
 have aJ:lp s.c6 s.kA=true:=h 0 bk;have U:lp s.fn s.fd=true:=h 1 bk;have ae:lp s.jQ s.md=true:=h 2 bk;have aM:lp s.kg s.kf=true:=h 3 bk;unfold pZ;rw [aJ,U,ae,aM];simp
theorem amC(w:World)(s:b1)(aH:rY s):bd prog 236 [.agg (b1.cells s).toArray].toArray w (λv w'=>v=.int .i64 (pZ s)/\Below w.heap.size w w'):=by
 refine cF func236 rfl 40 rfl 41 rfl (λa I=>?_);revert a;refine ad λa I=>?_;refine di I (cs:=(b1.cells s).toArray) rfl (k:=λa aq aE aT b8 I=>?_);have aB:=aK (atL _ w) aT (atI _);have Dp:∀(ak:World) (o:Nat) (x y:Value),ak.heap[w.heap.size]? =some (.cells (b1.cells s).toArray 133 (0,0))->(b1.cells s)[o]? =some x->(b1.cells s)[o+1]? =some y->∀j v,(#[x,y]:Array Value)[j]? =some v->ak.cell? ⟨w.heap.size,0+o+j,none⟩=some v:=by
   intro ak o x y az aJ U j v ah;rcases j with _|_|j
   · simp at ah;subst ah;rw [avo,aub];exact aF az (by simpa using aJ)
   · simp at ah;subst ah;rw [aub];exact aF az (by simpa using U)
   · simp at ah
 revert a;(repeat first|refine ag ?_|refine J (bJ (Dp aq 9 (.int .i64 s.c6) (.int .i64 s.kA) aE rfl rfl)) ?_|refine J (bJ (Dp aq 11 (.int .i64 s.fn) (.int .i64 s.fd) aE rfl rfl)) ?_|refine J (bJ (Dp aq 13 (.int .i64 s.jQ) (.int .i64 s.md) aE rfl rfl)) ?_|refine J (bJ (Dp aq 15 (.int .i64 s.kg) (.int .i64 s.kf) aE rfl rfl)) ?_|refine J (cA (vs:=[(0,.agg #[.int .i64 s.c6,.int .i64 s.kA]),(1,.agg #[.int .i64 s.fn,.int .i64 s.fd]),(2,.agg #[.int .i64 s.jQ,.int .i64 s.md]),(3,.agg #[.int .i64 s.kg,.int .i64 s.kf])]) (cells:=P9 s) bh ⟨rfl,rfl,rfl,rfl,rfl,rfl,rfl,rfl,trivial⟩) ?_);intro a I;refine eg (λq a wr=>∃k:Nat,k<=4/\q=4- k/\(∀j,j<k->lp (y' s j) (y9 s j)=true)/\Fr 41 [(1,.pointer (some ⟨w.heap.size,0,none⟩)),(15,.agg (P9 s)),(16,.int .i64 (k:Int))] a/\wr.heap[w.heap.size]? =some (.cells (b1.cells s).toArray 133 (0,0))/\Below w.heap.size w wr) 4
   ⟨0,bk,rfl,λj h=>absurd h (auv _),I.bb,aE,aB⟩ ?_
 clear I a aE aB;rintro q a wr ⟨k,au,rfl,lQ,I,aE,cH⟩;have bT:=cH.size;have ar0:=bO aE;by_cases bu:k<4
 · obtain⟨abi,n2⟩:=amE s aH bu;revert a;(repeat first|refine ag ?_|refine J (adA (aA _ _ rfl) (agg _ rfl) (aw _ _ rfl) (j:=k)) ?_);intro a I;rw [amF s bu]at I;refine b6 I vm λa ax gX aS cZ I=>?_;refine cE I (cs:=#[.int .i64 (y' s k),.int .i64 (y9 s k)]) gX (by simp [Value.oneCell']) λa a6 mu bz eE I=>?_;revert a;(repeat first|refine ag ?_|refine J (bJ (dy mu)) ?_);intro a I;refine aQ I (GI a6 _ _ abi n2) λa v bZ ab I=>?_;obtain⟨rfl,b7⟩:=ab;have iC:=(aK (aK cH aS bT) bz bj).trans (b7.mono bj);have bX:=(b7.block _ bj).trans (aD (aD aE aS bl) bz bm);cases aj:lp (y' s k) (y9 s k)with
   |true=>
     rw [aj]at I;revert a;refine ad λa I=>?_;exact⟨4- (k+1),bj,k+1,bj,rfl,λj h=>by
       by_cases e:j=k
       · subst e;exact aj
       · exact lQ j bj,I.bb,bX,iC⟩
   |false=>
     rw [aj]at I;revert a;refine ad λa I=>?_;exact bc I rfl rfl ⟨by rw [amB bu aj],iC⟩
 · obtain rfl:k=4:=bj
   have lR:=amD lQ;have c9:wr.cell? ⟨w.heap.size,0+9+0,none⟩=some (.int .i64 s.c6):=aF aE rfl;by_cases aJ:s.c6=0
   · rw [atM aJ]at lR;revert a;(repeat first|refine ag ?_|refine J (af c9) ?_);intro a I;exact bc I rfl rfl ⟨by rw [lR],cH⟩
   · rw [atK aJ]at lR;revert a;(repeat first|refine ag ?_|refine J (bJ (Dp wr 13 (.int .i64 s.jQ) (.int .i64 s.md) aE rfl rfl)) ?_|refine J (bJ (Dp wr 15 (.int .i64 s.kg) (.int .i64 s.kf) aE rfl rfl)) ?_|refine J (af c9) ?_);intro a I;refine aQ I (amG wr _ _ _ _ aH.jQ aH.md aH.kg aH.kf (lQ 2 bk) (lQ 3 bk)) λa v bZ ab I=>?_;obtain⟨⟨z,rfl,bA⟩,b7⟩:=ab;have iC:=cH.trans (b7.mono bT);by_cases ha:0<z
     · rw [atM (bA.1 ha)]at lR;revert a;refine ad λa I=>?_;exact bc I rfl rfl ⟨by rw [lR],iC⟩
     · rw [atK (λh=>ha (bA.2 h))]at lR;revert a;refine ad λa I=>?_;exact bc I rfl rfl ⟨by rw [lR],iC⟩
end
section
attribute [local irreducible] wpList wpQuiet wpStill Code.wp Exit.then Exit.inBlock bodyPost Calls bL eT
structure k3 where
 value:Int
 text:ByteArray
def k3.cells(r:k3):List Value:=[.int .i64 r.value,.string r.text]
theorem ana(r:k3):∀v∈(k3.cells r).toArray,v.oneCell'=true:=by
 intro v ao;simp [k3.cells]at ao;rcases ao with rfl|rfl<;>rfl
structure nY where
 line:Int
 eh:Int
 id:Int
 wide:Bool
 sig:ByteArray
 rw:Option Addr
 GS:Nat
 Qp:Nat
def nY.cells(t:nY):List Value:=[.int .i64 t.line,.int .i64 t.eh,.int .u32 t.id,.bool t.wide,.string t.sig,.slice t.rw t.GS t.Qp]
theorem aoT(t:nY):∀v∈(nY.cells t).toArray,v.oneCell'=true:=by
 intro v ao;simp [nY.cells]at ao;rcases ao with rfl|rfl|rfl|rfl|rfl|rfl<;>rfl
structure iN where
 Ae:Bool
 Hg:Int
 Hf:Int
 xP:ByteArray
 ub:Int
 ua:Int
 c6:Option Addr
 oI:Nat
 Bk:Nat
 f':Option Addr
 qH:Nat
 Dc:Nat
 hX:Option Addr
 ug:Nat
 kY:Nat
def iN.cells(d:iN):List Value:=[.bool d.Ae,.int .i64 d.Hg,.int .i64 d.Hf,.string d.xP,.int .i64 d.ub,.int .i64 d.ua,.slice d.c6 d.oI d.Bk,.slice d.f' d.qH d.Dc,.slice d.hX d.ug d.kY]
theorem SR(d:iN):∀v∈(iN.cells d).toArray,v.oneCell'=true:=by
 intro v ao;simp [iN.cells]at ao;rcases ao with rfl|rfl|rfl|rfl|rfl|rfl|rfl|rfl|rfl<;>rfl
theorem ak9(m:cO):(cO.cells m).length=8:=rfl
abbrev iz:=cO × List hZ
abbrev s5:=nY × List k3
structure RowsIn(w:World)(t:nY)(rs:List k3):Prop where
 len:rs.length=t.GS
 rd:dA w t.rw 2 k3.cells rs
 cap:t.GS<=t.Qp
 bytes:t.GS*24<=140737488351232
 val:∀r∈rs,-9223372036854775808<=r.value/\r.value<=9223372036854775807
structure Rk(w:World)(ay:Option Addr)(n c:Nat)(ms:List iz):Prop where
 len:ms.length=n
 rd:dA w ay 8 cO.cells (ms.map (·.1))
 each:∀p∈ms,xY w p.1 p.2
 zG:∀p∈ms,(∀q∈p.2,rY q.1)/\0<=p.1.id/\p.1.id<4294967296
 cap:n<=c
 bytes:n*88<=140737488351232
structure RJ(w:World)(ay:Option Addr)(n c:Nat)(ts:List s5):Prop where
 len:ts.length=n
 rd:dA w ay 6 nY.cells (ts.map (·.1))
 each:∀p∈ts,RowsIn w p.1 p.2
 zG:∀p∈ts,(0<=p.1.id/\p.1.id<4294967296)/\p.1.sig.size<=maxLen
 cap:n<=c
 bytes:n*64<=140737488351232
structure Ri(w:World)(d:iN)(ss:List ByteArray)(ms:List iz)(ts:List s5):Prop where
 aoo:ss.length=d.oI
 ZJ:ee w d.c6 .string ss
 as8:d.oI<=d.Bk
 anZ:d.oI*16<=140737488351232
 msgs:Rk w d.f' d.qH d.Dc ms
 DU:RJ w d.hX d.ug d.kY ts
section
attribute [local irreducible] Code.rounds
def zN(k:Nat)(c6:Option Addr)(oI Bk:Nat)(f':Option Addr)(qH Dc:Nat):iN:=⟨false,0,0,⟨#[]⟩,k,k,c6,oI,Bk,f',qH,Dc,none,0,0⟩
def SQ:iN:=zN 0 none 0 0 none 0 0
structure qd(cy w:World)(n2 r:Nat)(d:iN):Prop where
 dJ:w.heap[n2]? =some (.cells (iN.cells d).toArray 110 (0,0))
 fY:w.heap[r]? =some (.cells (iN.cells SQ).toArray 110 (0,0))
 bq:cy.heap.size<=n2/\cy.heap.size<=r/\r≠n2
 s9:Below cy.heap.size cy w
theorem qd.below{r:Nat}{d:iN}(h:qd cy w n2 r d)(hb:Below w.heap.size w w'):qd cy w' n2 r d:=
 ⟨bG hb h.dJ,bG hb h.fY,h.bq,h.s9.trans (hb.mono h.s9.size)⟩
theorem qd.store{r:Nat}{d q4:iN}(h:qd cy w n2 r d)(az:w'.heap[n2]? =some (.cells (iN.cells q4).toArray 110 (0,0)))(an:w.grownBy w' (some n2)):qd cy w' n2 r q4:=
 ⟨az,aD h.fY an (by have:=h.bq.2.2;simp;exact this),h.bq,h.s9.grown an h.s9.size (λk au=>by cases au;exact h.bq.1)⟩
theorem qd.sz{r:Nat}{d:iN}(h:qd cy w n2 r d):cy.heap.size<=w.heap.size:=h.s9.size
theorem qd.new{r q:Nat}{d:iN}(h:qd cy w n2 r d)(an:w.grownBy w' (some q))(aZ:cy.heap.size<=q)(U:n2≠q)(ae:r≠q):qd cy w' n2 r d:=
 ⟨aD h.dJ an (by simp;exact U),aD h.fY an (by simp;exact ae),h.bq,h.s9.grown an h.s9.size (λk au=>by cases au;exact aZ)⟩
theorem jZ.below{base g p cp q cq:Nat}(h:jZ base w g p cp q cq)(hb:Below w.heap.size w w'):jZ base w' g p cp q cq:=by
 obtain⟨⟨rest,U⟩,ae,aM,cc⟩:=h;exact⟨⟨rest,bG hb U⟩,ae,cW aM hb,cW cc hb⟩
theorem jZ.lower{base g p cp q cq:Nat}(h:jZ base w g p cp q cq)(hb:jG<=base):jZ jG w g p cp q cq:=
 ⟨h.row,atN hb h.az,rF h.pc hb,rF h.pd hb⟩
theorem jZ.store{base g p cp q cq r:Nat}{cs:Array Value}(h:jZ base w g p cp q cq)(aj:w.heap[r]? =some (.cells cs e (0,0)))(an:w.grownBy w' (some r))(eH:133≠e)(e1:9≠e):jZ base w' g p cp q cq:=by
 obtain⟨⟨rest,U⟩,ae,aM,cc⟩:=h;exact⟨⟨rest,aD U an (by have:=c1 U aj eH;simp;exact this)⟩,ae,gH aM an (fT aM aj e1).symm,gH cc an (fT cc aj e1).symm⟩
theorem ae2(w:World){base c p q:Nat}{al hL:Option Addr}(h:BI base w al de hL db ay c p q):bd prog 36 [.slice al 2 de].toArray w
   (λv w'=>(∃c6 fp f' ia g cL rG cp eL cq,v=.tuple #[.agg (iN.cells (zN 1 (some ⟨c6,0,none⟩) 2 fp (some ⟨f',0,none⟩) 1 ia)).toArray,.nilIface]/\2<=cL/\2<=fp/\1<=ia/\
    w'.ownsRow w.heap.size 9 1 (.slice (some ⟨c6,0,none⟩) 2 fp) 2 [.string (aa [65]),.string (aa [66])]/\
    w'.ownsRow w.heap.size 124 8 (.slice (some ⟨f',0,none⟩) 1 ia) 1 (cO.cells (et (some ⟨g,0,none⟩) 2 cL))/\
    jZ w.heap.size w' g rG cp eL cq)/\Below w.heap.size w w'):=by
 obtain⟨n,rfl,_⟩:=nM h.nodes bk;obtain⟨nJ,rfl,_⟩:=nM h.names bk;have iS:w.cell? ⟨n,0+0,none⟩=some (ZM (some ⟨nJ,0,none⟩) db):=tV h.nodes (i:=0) (show 0<2 by decide);have jL:w.cell? ⟨n,0+1,none⟩=some (XS ay c):=tV h.nodes (i:=1) (show 1<2 by decide);refine cF func36 rfl 102 rfl 103 rfl (λa I=>?_);refine fC (fB _ ?_);refine b6 I Pf λa aq aE aT b8 I=>?_;have aB:=ca aT;revert a;refine ad λa I=>?_;refine b6 I Pf λa ax aP aS cZ I=>?_;have aC:=aB.trans ((ca aS).mono aB.size);have S:qd w ax aq.heap.size w.heap.size SQ:=⟨aP,bG (ca aS) aE,⟨bj,bj,bj⟩,aC⟩;revert a;(repeat first|(intro a I;refine gp ?_;revert a)|(intro a I;refine auX 3 ?_;revert a)|refine ag ?_|refine J (gT (j:=0)) ?_|refine J (im underlying178 (eG iS aC)) ?_);intro a I;refine aQ I (ajA ax _) λa v a6 ab I=>?_;obtain⟨rfl,a1⟩:=ab;replace S:=S.below a1;revert a;(repeat first|refine ag ?_|refine J (B0 (v:=.int .i64 2) bh) ?_|refine J (B2 (agg _ rfl) JE) ?_|refine J (H7 (agg _ rfl)) ?_);intro a I;refine b6 I Gh λa bZ bX bD eY I=>?_;replace S:=S.below (ca bD);refine cE I (cs:=qU (some ⟨nJ,0,none⟩) 2 db) bX (KH _ _ _) λa bN bB br dw I=>?_;have vn:=S.sz;replace S:=S.new br (by have:=a1.size;omega) (by have:=bO S.dJ;have:=a1.size;omega) (by have:=a1.size;omega);revert a;(repeat first|refine ag ?_|refine J (bJ (dy bB)) ?_);intro a I;refine mY I (alz bN [aa [65],aa [66]] (λj u ah=>eG (J8 h.names (show 0<2*1 by decide) j u ah) S.s9) bk bk) acC ⟨rfl,trivial⟩ (k:=λa v bQ ab I=>?_);obtain⟨⟨c6,fp,rfl,bY⟩,bP⟩:=ab;have V5:=(tU bY).1;have JM:=S.sz;replace S:=S.below bP;have o6:=bO S.dJ;revert a;refine ad λa I=>?_;refine qT I (o:=4) (n:=3) (aw _ _ rfl) rfl bk S.dJ (KH _ _ _) (k:=λa bt c8 cf fZ I=>?_);replace S:qd w bt aq.heap.size w.heap.size (zN 1 (some ⟨c6,0,none⟩) 2 fp none 0 0):=S.store c8 cf;replace bY:=gH bY cf (λhe=>by have:=(avc bY _ he).1;have:=a1.size;omega);revert a;(repeat first|(intro a I;refine gp ?_;revert a)|refine ag ?_|refine J (gT (j:=1)) ?_|refine J (im underlying178 (eG jL S.s9)) ?_);intro a I;refine aQ I (ajz bt _) λa v cD ab I=>?_;obtain⟨rfl,c'⟩:=ab;replace S:=S.below c';replace bY:=cW bY c';have asM:=S.sz;revert a;(repeat first|refine ag ?_|refine J (B0 (v:=.int .i64 3) bh) ?_|refine J (B2 (agg _ rfl) JE) ?_|refine J (B2 (agg _ rfl) Gh) ?_|refine J (H7 (agg _ rfl)) ?_);intro a I;refine b6 I yN λa dt dm cG hn I=>?_;replace S:=S.below (ca cG);replace bY:=cW bY (ca cG);refine cE I (cs:=(cO.cells (et ay 2 c)).toArray) dm (AY _) λa W hm gq tK I=>?_;replace S:=S.new gq (by have:=S.sz;omega) (c1 S.dJ dm bk) (c1 S.fY dm bk);replace bY:=gH bY gq (fT bY dm bk).symm;replace bY:=rF bY (show w.heap.size<=bN.heap.size by have:=a1.size;omega);revert a;(repeat first|(intro a I;(refine r4 (λW=>W.heap[cD.heap.size]? =some (.cells (cO.cells (et ay 2 c)).toArray 124 (0,0))) (λa W=>∃f' ia g cL rG cp eL cq,Fr 103 [(2,.pointer (some ⟨w.heap.size,0,none⟩)),(4,.pointer (some ⟨aq.heap.size,0,none⟩)),(5,.int .i64 3),(15,.int .i64 2),(16,.int .i64 1)] a/\2<=cL/\1<=ia/\qd w W aq.heap.size w.heap.size (zN 1 (some ⟨c6,0,none⟩) 2 fp (some ⟨f',0,none⟩) 1 ia)/\W.ownsRow w.heap.size 9 1 (.slice (some ⟨c6,0,none⟩) 2 fp) 2 [.string (aa [65]),.string (aa [66])]/\W.ownsRow w.heap.size 124 8 (.slice (some ⟨f',0,none⟩) 1 ia) 1 (cO.cells (et (some ⟨g,0,none⟩) 2 cL))/\jZ w.heap.size W g rG cp eL cq) (.read 0 (.read 2 (.two 1 3 (.cJ 3 (.cJ 4 (.cJ 5 (.read 6 (.cJ 7 .done))))) (.two 1 4 (.cJ 4 (.cJ 5 (.read 6 (.cJ 7 .done)))) (.cJ 1 (.cJ 5 (.read 6 (.cJ 7 .done)))))))) 20 mixed bh hm ?_ ?_;rotate_left);revert a)|refine ag ?_);intro a I
 · have cd:Below W.heap.size W (W.drewN 1):=cP.below (w:=W) (w':=W.drewN 1) ⟨1,rfl⟩ _;replace S:=S.below cd;replace bY:=cW bY cd;replace hm:=bG cd hm;revert a;(repeat first|refine Bu ?_|refine vF rfl (λak ar=>bJ (dy ar)) ?_);intro a I;refine ln rfl rfl ?_ ?_;all_goals repeat' (first
    |refine dV rfl ?_
    |refine ln rfl rfl ?_ ?_
    |(refine st I (af (aF S.dJ rfl)) rfl (λa I=>?_);refine atJ ⟨rfl,hm,?_⟩)
    |(refine aQ I (alu _ (h.ms.below S.s9)) λa v W ab I=>?_;obtain⟨⟨g,cL,rG,cp,eL,cq,rfl,jK,hR⟩,hb⟩:=ab;replace hR:=hR.lower S.sz;replace hm:=bG hb hm;replace bY:=cW bY hb;replace S:=S.below hb;clear hb;refine atJ ⟨rfl,hm,?_⟩)
    |(refine st I (np (us:=(cO.cells (et (some ⟨g,0,none⟩) 2 cL)).toArray) (aA _ _ rfl) yN bk bk rfl rfl) rfl (λa I=>?_);have eV:=auE W (.cells (cO.cells (et (some ⟨g,0,none⟩) 2 cL)).toArray 124);have cY:=e7 W (.cells (cO.cells (et (some ⟨g,0,none⟩) 2 cL)).toArray 124);replace S:=S.below cY;replace bY:=cW bY cY;replace hm:=bG cY hm;replace hR:=hR.below cY;refine atJ ⟨rfl,hm,?_⟩))
   all_goals
    refine DQ I (aA _ _ rfl) yN rfl bk rfl (AY _) (auH _ w.heap.size 124 8) eV bk bk S.sz (k:=λa vY bM nZ eR aS I=>?_);have aC:=fA aS;replace S:=S.below aC;replace bY:=cW bY aC;replace hR:=hR.below aC;replace hm:=bG aC hm;replace eR:nZ.ownsRow w.heap.size 124 8 (.slice vY 1 bM) 1 (cO.cells (et (some ⟨g,0,none⟩) 2 cL)):=by simpa using eR
    obtain⟨f',rfl,_⟩:=nM eR bk;have tE:=(tU eR).1;refine atJ ⟨rfl,hm,?_⟩;revert a;refine jq λa I=>?_;refine dV rfl ?_;refine cr I (aw _ _ rfl) S.dJ (i:=0+7) (by show 7<9;decide) rfl rfl rfl (k:=λa lC az an bT I=>?_);replace eR:=gH eR an (fT eR S.dJ bk).symm;replace bY:=gH bY an (fT bY S.dJ bk).symm;replace hR:=hR.store S.dJ an bk bk;replace hm:=aD hm an (by have:=c1 hm S.dJ bk;simp;exact this);refine atJ ⟨rfl,hm,?_⟩;refine iw ⟨f',bM,g,cL,rG,cp,eL,cq,I.bb,jK,tE,S.store az an,bY,eR,hR⟩
 clear I S bY hm;rintro a W ⟨f',ia,g,cL,rG,cp,eL,cq,I,jK,tE,S,bY,aX,hR⟩;revert a;(repeat first|(intro a I;refine gp ?_;revert a)|refine ag ?_|refine J (bJ (dy S.dJ)) ?_);intro a I;refine cE I (cs:=(iN.cells (zN 1 (some ⟨c6,0,none⟩) 2 fp (some ⟨f',0,none⟩) 1 ia)).toArray) S.fY (SR _) λa aaj NL w0 aih I=>?_;revert a;refine ad λa I=>?_;refine h7 I rfl (agg _ rfl) (aw _ _ rfl) NL rfl rfl ⟨⟨c6,fp,f',ia,g,cL,rG,cp,eL,cq,rfl,jK,V5,tE,?_,?_,?_⟩,?_⟩
 · exact gH bY w0 (fT bY S.fY bk).symm
 · exact gH aX w0 (fT aX S.fY bk).symm
 · exact hR.store S.fY w0 bk bk
 · exact S.s9.grown w0 S.sz (λk au=>by cases au;exact atI _)
end
end
end Go.Proofs.YtnkjmbbddmgjiaaGreatDoor