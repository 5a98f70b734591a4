import Derived.Test.YtnkjmbbddmgjiaaGreatDoorSumLawCheckedS10
set_option linter.unusedSimpArgs false
set_option linter.unusedVariables false
set_option maxRecDepth 1000000
set_option maxHeartbeats 400000000
namespace Go.Proofs.YtnkjmbbddmgjiaaGreatDoor
open Go.RowKit Go.Proofs.Tryz
variable {x:Ins}{aV:List Nat}{slots:Nat}{xs:List Ins}{es:List Bool}{ap:Option Addr}
section
attribute [local irreducible] wpList wpQuiet wpStill Code.wp Exit.then Exit.inBlock bodyPost Calls bL eT
structure cQ where
 jf:Bool
 t:Nat
 other:Nat
 fQ:Int
 bq:Nat
 ai:Nat
 bits:Nat
 size:Nat
def ic:List Ins->Nat->Int × List Ins
 | [],_=>(0,[])
 |x::q,t=>if x.a=t then(if x.op=6 then(((x.n:Nat):Int),q)else if x.op=7 then(-((x.n:Nat):Int),q)else(0,x::q))else(0,x::q)
def oz(v n:Nat):Nat:=v%2^(8*n)
def GK(x:Ins)(r:List Ins)(len:Nat):Option cQ:=match (ic r x.a).2 with
 | []=>none
 |z::q=>if z.op=13/\z.a=x.a then some ⟨true,x.a,x.b,8*(z.b:Nat)+(ic r x.a).1,z.b,z.b+z.n,oz z.bK z.n,len - (q.length+1)+1⟩else none
def GL(x y:Ins)(r:List Ins)(len:Nat):Option cQ:=match (ic r x.a).2 with
 | []=>none
 |z::q=>if z.op=4/\z.b=x.a/\z.a≠x.a then some ⟨false,x.a,z.a,(ic r x.a).1- 8*(x.b:Nat),x.b,x.b+x.n,oz y.bK x.n,len - (q.length+1)+1⟩else none
def hd:List Ins->Option cQ
 |x::y::r=>if x.op=2/\x.a≠x.b then GK x (y::r) (r.length+2)else if x.op=9/\y.op=8/\y.a=x.a then GL x y r (r.length+2)else none
 |_=>none
def l0(m:cQ):Int:=if m.jf=true then m.fQ - 8*(m.bq:Nat)else m.fQ+8*(m.bq:Nat)
def hV(t:Nat)(s:Int):List Ins:=if 0<s then [⟨6,t,0,s.toNat,0⟩]else if s<0 then [⟨7,t,0,(-s).toNat,0⟩]else []
def gK(m:cQ):List Ins:=
 if m.jf=true then⟨2,m.t,m.other,0,0⟩::hV m.t (l0 m)++ [⟨13,m.t,m.bq,m.ai - m.bq,m.bits⟩]
 else⟨9,m.t,m.bq,m.ai - m.bq,0⟩::⟨8,m.t,0,0,m.bits⟩::hV m.t (l0 m)++ [⟨4,m.other,m.t,0,0⟩]
def kX(m o:cQ):cQ:={ m with bq:=min m.bq o.bq,ai:=max m.ai o.ai,bits:=m.bits <<< (8*(m.bq - min m.bq o.bq)) ||| o.bits <<< (8*(o.bq - min m.bq o.bq)) }
def p1(m o:cQ):Prop:=m.jf=o.jf/\m.t=o.t/\m.other=o.other/\m.fQ=o.fQ
instance (m o:cQ):Decidable (p1 m o):=by unfold p1;infer_instance
inductive ph (m:cQ):List Ins->Prop where
 |jf (cz z:Ins) (ep:List Ins) (d:Int) (ai:m.jf=true) (aJ:cz.op=2) (oa:cz.a=m.t) (wH:cz.b=m.other) (hB:oQ m.t ep d) (bA:z.op=13) (kW:z.a=m.t) (pJ:m.bq=z.b) (oo:m.ai=z.b+z.n) (tt:m.fQ=8*(z.b:Nat)+d) (E':m.bits=oz z.bK z.n):ph m (cz::ep++ [z])
 |out (cz y z:Ins) (ep:List Ins) (d:Int) (ai:m.jf=false) (aJ:cz.op=9) (oa:cz.a=m.t) (aO:y.op=8) (xh:y.a=m.t) (xi:y.bK<2^64) (hB:oQ m.t ep d) (bA:z.op=4) (kW:z.a=m.other) (sE:z.b=m.t) (pJ:m.bq=cz.b) (oo:m.ai=cz.b+cz.n) (tt:m.fQ=d - 8*(cz.b:Nat)) (E':m.bits=oz y.bK cz.n):ph m (cz::y::ep++ [z])
structure nj(m:cQ):Prop where
 t:m.t<16
 other:m.other<16
 ne:m.other≠m.t
 lt:m.bq<m.ai
 ai:m.ai<=8
 bits:m.bits<2^(8*(m.ai - m.bq))
 s1: -63<=l0 m
 s2:l0 m<=63
theorem DK(r:List Ins)(t:Nat):∃ep,oQ t ep (ic r t).1/\r=ep++(ic r t).2/\(∀x∈ep,x∈r)/\((∀x∈r,dW x=true)-> -63<=(ic r t).1/\(ic r t).1<=63):=by
 cases r with
 |nil=>exact⟨[],.nil,rfl,bl,λ_=>by simp [ic]⟩
 |cons x q=>
  rw [ic];by_cases ha:x.a=t
  · rw [atM ha];by_cases gM:x.op=6
    · rw [atM gM];exact⟨[x],.shl x gM ha,rfl,bl,λh=>by have:=Dx (h x bl) (.inl gM);show -63<=((x.n:Nat):Int)/\((x.n:Nat):Int)<=63;omega⟩
    · rw [atK gM];by_cases jc:x.op=7
      · rw [atM jc];exact⟨[x],.shr x jc ha,rfl,bl,λh=>by have:=Dx (h x bl) (.inr jc);show -63<= -((x.n:Nat):Int)/\ -((x.n:Nat):Int)<=63;omega⟩
      · rw [atK jc];exact⟨[],.nil,rfl,bl,λ_=>⟨by show(-63:Int)<=0;decide,by show(0:Int)<=63;decide⟩⟩
  · rw [atK ha];exact⟨[],.nil,rfl,bl,λ_=>⟨by show(-63:Int)<=0;decide,by show(0:Int)<=63;decide⟩⟩
theorem Kp(h:dW x=true)(ft:x.op=9\/x.op=13):1<=x.n/\x.n<=8/\x.b+x.n<=8:=by
 obtain⟨a8,dz,d'⟩:=nS h;rcases ft with e|e<;>rw [e]at dz<;>cases dz<;>simp [hc,okF,mV,fX,Ins.get]at d'<;>omega
theorem XB(v n:Nat):oz v n<2^(8*n):=avI _ (avL _)
theorem Dw{p:List Ins}{m:cQ}(h:hd p=some m)(aj:∀x∈p,dW x=true/\x.bK<2^64):∃xs q,p=xs++q/\xs.length=m.size/\ph m xs/\nj m/\2<=m.size:=by
 match p with
 | []=>cases h
 | [_]=>cases h
 |x::y::r=>
  rw [hd]at h;have hx:=(aj x bl).1;by_cases ae:x.op=2/\x.a≠x.b
  · rw [atM ae]at h;obtain⟨ep,lS,eB,fS,lT⟩:=DK (y::r) x.a;have lT:=lT λz bA=>(aj z (at0 _ bA)).1;unfold GK at h;split at h
    · cases h
    · rename_i z q he;rw [he]at eB;split at h
      · rename_i bA;cases h
        have yL:z∈y::r:=by rw [eB];simp
        have AN:=(aj z (at0 _ yL)).1;obtain⟨m1,m2,m3⟩:=Kp AN (.inr bA.1);have ha:=jB hx (.inl (by rw [ae.1];rfl));have hb:=za hx x.b (by rw [ae.1];simp [cX,eu.ec]);have hlen:=atW List.length eB;simp only [aue,atV]at hlen;refine⟨x::ep++ [z],q,by rw [eB];simp,?_,.jf x z ep _ rfl ae.1 rfl rfl lS bA.1 bA.2 rfl rfl rfl rfl,⟨ha,hb,λe=>ae.2 e.symm,by show z.b<z.b+z.n;omega,by show z.b+z.n<=8;omega,?_,?_,?_⟩,?_⟩
        · show(x::ep++ [z]).length=r.length+2- (q.length+1)+1;simp only [atV,aue,avd];omega
        · show oz z.bK z.n<2^(8*(z.b+z.n - z.b));rw [au2];exact XB _ _
        · show -63<=(8*(z.b:Nat)+(ic (y::r) x.a).1)- 8*((z.b:Nat):Int);omega
        · show(8*(z.b:Nat)+(ic (y::r) x.a).1)- 8*((z.b:Nat):Int)<=63;omega
        · show 2<=r.length+2- (q.length+1)+1;omega
      · cases h
  · rw [atK ae]at h;by_cases mh:x.op=9/\y.op=8/\y.a=x.a
    · rw [atM mh]at h;obtain⟨ep,lS,eB,fS,lT⟩:=DK r x.a;have lT:=lT λz bA=>(aj z (at0 _ (at0 _ bA))).1;unfold GL at h;split at h
      · cases h
      · rename_i z q he;rw [he]at eB;split at h
        · rename_i bA;cases h
          have yL:z∈r:=by rw [eB];simp
          have AN:=(aj z (at0 _ (at0 _ yL))).1;obtain⟨m1,m2,m3⟩:=Kp hx (.inl mh.1);have ha:=jB hx (.inl (by rw [mh.1];rfl));have hb:=jB AN (.inl (by rw [bA.1];rfl));have hlen:=atW List.length eB;simp only [aue,atV]at hlen;refine⟨x::y::ep++ [z],q,by rw [eB];simp,?_,.out x y z ep _ rfl mh.1 rfl mh.2.1 mh.2.2 (aj y bl).2 lS bA.1 rfl bA.2.1 rfl rfl rfl rfl,⟨ha,hb,bA.2.2,by show x.b<x.b+x.n;omega,by show x.b+x.n<=8;omega,?_,?_,?_⟩,?_⟩
          · show(x::y::ep++ [z]).length=r.length+2- (q.length+1)+1;simp only [atV,aue,avd];omega
          · show oz y.bK x.n<2^(8*(x.b+x.n - x.b));rw [au2];exact XB _ _
          · show -63<=((ic r x.a).1- 8*((x.b:Nat):Int))+8*((x.b:Nat):Int);omega
          · show((ic r x.a).1- 8*((x.b:Nat):Int))+8*((x.b:Nat):Int)<=63;omega
          · show 2<=r.length+2- (q.length+1)+1;omega
        · cases h
    · rw [atK mh]at h;cases h
def pU(m:cQ)(q:Nat):Bool:=decide (8*m.bq<=q)&&m.bits.testBit (q - 8*m.bq)
def Ea(m:cQ)(s eP:cR):Prop:=if m.jf=true then um m.t m.other m.fQ (pU m) s eP else uu m.t m.other m.fQ (pU m) s eP
theorem XU{m:cQ}{b n bK:Nat}(pJ:m.bq=b)(hb:m.bits=oz bK n)(q:Nat):yW b n bK q=pU m q:=by
 unfold yW pU oz at*;rw [pJ,hb,axn];by_cases h:8*b<=q
 · have e:(q<8*(b+n))↔(q - 8*b<8*n):=bj
   simp only [h,awx,auN,e]
 · simp [h]
theorem ph.exec{size:Nat}{m:cQ}(h:ph m xs)(hw:nj m){s:cR}(aH:jb size slots s):Ea m s (k7 aV xs s):=by
 unfold Ea;cases h with
 |jf cz z ep d ai aJ oa wH hB bA kW pJ oo tt E'=>
  rw [atM ai,tt,<-show yW z.b z.n z.bK=pU m from funext (XU pJ E')];exact aiX aH hw.t aJ oa wH hB bA kW (by have:=hw.ai;omega)
 |out cz y z ep d ai aJ oa aO xh xi hB bA kW sE pJ oo tt E'=>
  rw [atK (by rw [ai];decide),tt,<-show yW cz.b cz.n y.bK=pU m from funext (XU pJ E')];exact alV aH hw.t hw.other hw.ne aJ oa aO xh xi hB bA kW sE
theorem Zn{t:Nat}(s:Int):oQ t (hV t s) s:=by
 unfold hV;by_cases h:0<s
 · rw [atM h];have:=oQ.shl (t:=t) ⟨6,t,0,s.toNat,0⟩ rfl rfl
   rwa [show((s.toNat:Nat):Int)=s by omega]at this
 · rw [atK h];by_cases ae:s<0
   · rw [atM ae];have:=oQ.shr (t:=t) ⟨7,t,0,(-s).toNat,0⟩ rfl rfl
     rwa [show -(((-s).toNat:Nat):Int)=s by omega]at this
   · rw [atK ae];obtain rfl:s=0:=bj
     exact .nil
theorem LV{m:cQ}(hw:nj m):ph m (gK m):=by
 unfold gK;have aN:=hw.lt;have pD:m.bits<2^64:=auj hw.bits (aum bk (by have:=hw.ai;omega));by_cases ai:m.jf=true
 · rw [atM ai];refine .jf _ _ _ _ ai rfl rfl rfl (Zn _) rfl rfl rfl (by show m.ai=m.bq+(m.ai - m.bq);omega) ?_ ?_
   · unfold l0;rw [atM ai];show m.fQ=8*((m.bq:Nat):Int)+(m.fQ - 8*(m.bq:Nat));omega
   · exact(auU hw.bits).symm
 · rw [atK ai];refine .out _ _ _ _ _ (by simpa using ai) rfl rfl rfl rfl pD (Zn _) rfl rfl rfl rfl (by show m.ai=m.bq+(m.ai - m.bq);omega) ?_ ?_
   · unfold l0;rw [atK ai];show m.fQ=(m.fQ+8*(m.bq:Nat))- 8*((m.bq:Nat):Int);omega
   · exact(auU hw.bits).symm
theorem Pk{m o:cQ}(hm:nj m)(bp:nj o)(aG:p1 m o):nj (kX m o):=by
 obtain⟨U,ae,aM,cc⟩:=aG;have l1:=hm.lt;have l2:=bp.lt;have ajG:=hm.ai;have asP:=bp.ai;refine⟨hm.t,hm.other,hm.ne,by show min m.bq o.bq<max m.ai o.ai;omega,by show max m.ai o.ai<=8;omega,?_,?_,?_⟩
 · show m.bits <<< (8*(m.bq - min m.bq o.bq)) ||| o.bits <<< (8*(o.bq - min m.bq o.bq)) <2^(8*(max m.ai o.ai - min m.bq o.bq))
   have key:∀(b bq ai:Nat),b<2^(8*(ai - bq))->min m.bq o.bq<=bq->bq<ai->ai<=max m.ai o.ai->b <<< (8*(bq - min m.bq o.bq)) <2^(8*(max m.ai o.ai - min m.bq o.bq)):=by
     intro b bq ai hb gA gM jc;rw [ayY];refine auj (avM hb (avL _)) ?_;rw [<-avZ];exact aum bk bj
   exact avn (key _ _ _ hm.bits (aza _ _) l1 (Nat.le_max_left _ _)) (key _ _ _ bp.bits (axW _ _) l2 (Nat.le_max_right _ _))
 all_goals
   have e6:=hm.s1;have a2:=hm.s2;have fk:=bp.s1;have hM:=bp.s2;unfold l0 at*;rw [<-U,<-cc]at fk hM;show(_:Int)<=_;by_cases ai:m.jf=true
   · simp only [kX,ai,ayw]at*;omega
   · simp only [kX,ai]at*;simp only [awe,axp]at*;omega
theorem ajs{m o:cQ}(q:Nat):pU (kX m o) q=(pU m q||pU o q):=by
 unfold pU kX;dsimp only;rw [aw5,azb,azb];have key:∀(b bq:Nat),min m.bq o.bq<=bq->(decide (8*min m.bq o.bq<=q)&&(decide (q - 8*min m.bq o.bq>=8*(bq - min m.bq o.bq))&&b.testBit (q - 8*min m.bq o.bq - 8*(bq - min m.bq o.bq))))=(decide (8*bq<=q)&&b.testBit (q - 8*bq)):=by
  intro b bq h;generalize min m.bq o.bq=k at h;by_cases U:8*bq<=q
  · have ae:8*k<=q:=bj
    have aM:q - 8*k>=8*(bq - k):=bj
    have e:q - 8*k - 8*(bq - k)=q - 8*bq:=bj
    simp only [U,ae,aM,e,awx,auN]
  · by_cases ae:8*k<=q
    · have aM:¬q - 8*k>=8*(bq - k):=bj
      simp [U,aM]
    · simp [U,ae]
 rw [Bool.and_or_distrib_left,key _ _ (aza _ _),key _ _ (axW _ _)]
inductive mF:cQ->List Ins->Prop where
 |one {m:cQ} {xs:List Ins} (h:ph m xs) (hw:nj m):mF m xs
 |more {m o:cQ} {xs ys:List Ins} (h:mF m xs) (k:ph o ys) (hw:nj o) (aG:p1 m o):mF (kX m o) (xs++ys)
 |sized {m:cQ} {xs:List Ins} (n:Nat) (h:mF m xs):mF { m with size:=n } xs
theorem mF.wf{m:cQ}(h:mF m xs):nj m:=by
 induction h with
 |one h hw=>exact hw
 |more h k hw aG df=>exact Pk df hw aG
 |sized n h df=>exact⟨df.t,df.other,df.ne,df.lt,df.ai,df.bits,df.s1,df.s2⟩
theorem ph.str{m:cQ}(h:ph m xs):∀x∈xs,lr x=true:=by
 intro x hx;cases h with
 |jf cz z ep d ai aJ oa wH hB bA=>
  simp only [avb,au1,aws,avE,axM]at hx;rcases hx with rfl|hx|rfl
  · simp [lr,aJ]
  · exact hB.str x hx
  · simp [lr,bA]
 |out cz y z ep d ai aJ oa aO xh xi hB bA=>
  simp only [avb,au1,aws,avE,axM]at hx;rcases hx with rfl|rfl|hx|rfl
  · simp [lr,aJ]
  · simp [lr,aO]
  · exact hB.str x hx
  · simp [lr,bA]
theorem mF.str{m:cQ}(h:mF m xs):∀x∈xs,lr x=true:=by
 induction h with
 |one h hw=>exact h.str
 |more h k hw aG df=>
  intro x hx;rcases aws.1 hx with U|U
  · exact df x U
  · exact k.str x U
 |sized n h df=>exact df
theorem aey(aV:List Nat)(xs ys:List Ins)(s:cR):k7 aV (xs++ys) s=k7 aV ys (k7 aV xs s):=by simp [k7,axG]
theorem EJ{size:Nat}(aG:size<=8)(ai:∀v∈aV,v<2^64):∀(xs:List Ins) (s:cR),(∀x∈xs,x.bK<2^64)->jb size slots s->jb size slots (k7 aV xs s)
 | [],_,_,h=>h
 |x::xs,s,hx,h=>EJ aG ai xs _ (λy aO=>hx y (at0 _ aO)) (vK h aG (hx x bl) ai)
theorem mF.exec{size:Nat}(bT:size<=8)(eb:∀v∈aV,v<2^64){m:cQ}(h:mF m xs)(hx:∀x∈xs,x.bK<2^64){s:cR}(aH:jb size slots s):Ea m s (k7 aV xs s):=by
 induction h with
 |one h hw=>exact h.exec hw aH
 | @more m o xs ys h k hw aG df=>
  have bw:=df λx yI=>hx x (axZ _ yI);have mM:=EJ (slots:=slots) bT eb xs s (λx yI=>hx x (axZ _ yI)) aH;have bf:=k.exec (aV:=aV) hw mM;rw [aey];obtain⟨U,ae,aM,cc⟩:=aG;unfold Ea at*;show if m.jf=true then um m.t m.other m.fQ (pU (kX m o)) _ _ else uu m.t m.other m.fQ (pU (kX m o)) _ _
  rw [show pU (kX m o)=λq=>pU m q||pU o q from funext ajs];rw [<-U,<-ae,<-aM,<-cc]at bf;by_cases ai:m.jf=true
  · rw [atM ai]at bw bf ⊢;exact bw.trans h.wf.ne bf
  · rw [atK ai]at bw bf ⊢;exact bw.trans bf
 |sized n h df=>exact df hx
theorem Ss{m:cQ}(hw:nj m):∀x∈gK m,x.bK<2^64:=by
 have pD:m.bits<2^64:=auj hw.bits (aum bk (by have:=hw.ai;omega));intro x hx;have hB:∀y∈hV m.t (l0 m),y.bK<2^64:=by
   intro y aO;unfold hV at aO;split at aO
   · rw [avA.1 aO];show(0:Nat) <2^64;decide
   · split at aO
     · rw [avA.1 aO];show(0:Nat) <2^64;decide
     · cases aO
 unfold gK at hx;split at hx
 · simp only [avb,au1,aws,avE,axM]at hx;rcases hx with rfl|hx|rfl
   · show(0:Nat) <2^64;decide
   · exact hB x hx
   · exact pD
 · simp only [avb,au1,aws,avE,axM]at hx;rcases hx with rfl|rfl|hx|rfl
   · show(0:Nat) <2^64;decide
   · exact pD
   · exact hB x hx
   · show(0:Nat) <2^64;decide
theorem ane{size:Nat}(bT:size<=8)(eb:∀v∈aV,v<2^64){m:cQ}(h:mF m xs)(hx:∀x∈xs,x.bK<2^64){s:cR}(aH:jb size slots s):ly (λr=>r≠m.t) (k7 aV xs s) (k7 aV (gK m) s):=by
 have bw:=h.exec bT eb hx aH;have bf:=(LV h.wf).exec (aV:=aV) h.wf aH;have fk:=EJ bT eb xs s hx aH;have hM:=EJ bT eb (gK m) s (Ss h.wf) aH;unfold Ea at bw bf;by_cases ai:m.jf=true
 · rw [atM ai]at bw bf;exact bw.same bf (λ_=>rfl) fk.pX hM.pX
 · rw [atK ai]at bw bf;exact bw.same bf λ_=>rfl
theorem ZQ(h:lr x=true):fs x=true/\dx x=false:=by
 simp only [lr,auI,avp,aup]at h;exact⟨oC h.1.1.1 h.1.2,by simp [dx,h.1.2,h.2]⟩
theorem Bg{p:List Ins}{dS:Nat->Prop}(h:lr x=true):ef (x::p) dS↔(∀r∈hD x,dS r)/\ef p (ih x dS):=by
 obtain⟨U,ae⟩:=ZQ h;rw [ef];exact⟨λ⟨a,b,_⟩=>⟨a,b U⟩,λ⟨a,b⟩=>⟨a,λ_=>b,λah=>by rw [ae]at ah;cases ah⟩⟩
theorem Ze{t:Nat}{ep p:List Ins}{d:Int}(h:oQ t ep d){dS:Nat->Prop}(bW:dS t):ef (ep++p) dS↔ef p dS:=by
 cases h with
 |nil=>exact azI
 |shl x h ha=>
  rw [awf,Bg (by simp [lr,h]),mz h];refine⟨λ⟨_,ae⟩=>ae.mono λr aj=>?_,λae=>⟨λr aj=>?_,ae.mono λr aj=>.inl aj⟩⟩
  · rcases(vQ (iL h) dS r).1 aj with aM|aM
    · exact aM
    · rw [aM,ha];exact bW
  · simp [cX,eu.ec]at aj;rw [aj,ha];exact bW
 |shr x h ha=>
  rw [awf,Bg (by simp [lr,h]),mz h];refine⟨λ⟨_,ae⟩=>ae.mono λr aj=>?_,λae=>⟨λr aj=>?_,ae.mono λr aj=>.inl aj⟩⟩
  · rcases(vQ (iL h) dS r).1 aj with aM|aM
    · exact aM
    · rw [aM,ha];exact bW
  · simp [cX,eu.ec]at aj;rw [aj,ha];exact bW
theorem ph.GU{m:cQ}{p:List Ins}(h:ph m xs)(b5:m.other≠m.t){dS:Nat->Prop}:ef (xs++p) dS↔dS m.other/\ef p (λr=>dS r\/r=m.t):=by
 cases h with
 |jf cz z ep d ai aJ oa wH hB bA kW=>
  have e:cz::ep++ [z]++p=cz::(ep++z::p):=bl
  have up:∀r,ih cz dS r↔(dS r\/r=m.t):=λr=>by rw [vQ (iL aJ),oa]
  rw [e,Bg (by simp [lr,aJ]),mz aJ,Ze hB ((up m.t).2 (.inr rfl)),Bg (by simp [lr,bA]),mz bA];constructor
  · rintro ⟨a,-,c⟩;exact⟨by have:=a cz.b (by simp [cX,eu.ec]);rwa [wH]at this,c.mono λr aj=>(up r).1 ((vP (iL bA) _ r).1 aj)⟩
  · rintro ⟨a,c⟩;exact⟨λr aj=>by simp [cX,eu.ec]at aj;rw [aj,wH];exact a,λr aj=>by simp [cX,eu.ec]at aj;rw [aj,kW];exact(up m.t).2 (.inr rfl),c.mono λr aj=>(vP (iL bA) _ r).2 ((up r).2 aj)⟩
 |out cz y z ep d ai aJ oa aO xh xi hB bA kW sE=>
  have e:cz::y::ep++ [z]++p=cz::y::(ep++z::p):=bl
  have up:∀r,ih cz dS r↔(dS r\/r=m.t):=λr=>by rw [vQ (iL aJ),oa]
  have DZ:∀r,ih y (ih cz dS) r↔(dS r\/r=m.t):=λr=>by
    rw [vQ (iL aO),xh,up];exact⟨λh=>h.elim id .inr,.inl⟩
  rw [e,Bg (by simp [lr,aJ]),mz aJ,Bg (by simp [lr,aO]),mz aO,Ze hB ((DZ m.t).2 (.inr rfl)),Bg (by simp [lr,bA]),mz bA];constructor
  · rintro ⟨-,-,c,f⟩;have bp:dS m.other:=by
      have:=(DZ _).1 (c z.a (by simp [cX,eu.ec]));rw [kW]at this;exact this.resolve_right b5
    exact⟨bp,f.mono λr aj=>by
      rcases(vQ (iL bA) _ r).1 aj with U|U
      · exact(DZ r).1 U
      · rw [U,kW];exact .inl bp⟩
  · rintro ⟨a,c⟩;refine⟨by simp [cX,eu.ec],λr aj=>?_,λr aj=>?_,c.mono λr aj=>(vQ (iL bA) _ r).2 (.inl ((DZ r).2 aj))⟩
    · simp [cX,eu.ec]at aj;rw [aj,xh];exact(up _).2 (.inr rfl)
    · simp [cX,eu.ec]at aj;rcases aj with rfl|rfl
      · rw [kW];exact(DZ _).2 (.inl a)
      · rw [sE];exact(DZ _).2 (.inr rfl)
theorem mF.GU{m:cQ}{p:List Ins}(h:mF m xs){dS:Nat->Prop}:ef (xs++p) dS->dS m.other/\ef p (λr=>dS r\/r=m.t):=by
 induction h generalizing p dS with
 |one h hw=>exact(h.GU hw.ne).1
 | @more m o xs ys h k hw aG df=>
  intro bS;rw [auJ]at bS;obtain⟨U,ae⟩:=df bS;obtain⟨bw,bf,dj,fl⟩:=aG;obtain⟨aM,cc⟩:=(k.GU hw.ne).1 ae;refine⟨U,cc.mono λr aj=>?_⟩;rw [<-bf]at aj;show dS r\/r=m.t;exact aj.elim id .inr
 |sized n h df=>exact df
def Gv(x:Ins)(dC eF:eJ):eJ:=kG x (λr=>(fs x&&dC r)||(dx x&&eF r))
def nK:List Ins->eJ
 | []=>oH
 |x::p=>Gv x (nK p) (nK (p.drop x.n))
 termination_by p=>p.length
 decreasing_by all_goals simp [atU];try omega
theorem X5(x:Ins)(p:List Ins):nK (x::p)=Gv x (nK p) (nK (p.drop x.n)):=by rw [nK]
theorem PJ:∀(p:List Ins),ef p (λr=>nK p r=true)
 | []=>by rw [ef];trivial
 |x::p=>by
  rw [ef,X5];have go:∀a:eJ,(∀r,a r=true->((fs x&&nK p r)||(dx x&&nK (p.drop x.n) r))=true)->∀r,a r=true->ih x (λr=>Gv x (nK p) (nK (p.drop x.n)) r=true) r:=by
   intro a ha r aj;by_cases ai:fh x=true/\r=x.a
   · exact .inr ai
   · refine .inl ?_;show kG x _ r=true;unfold kG;simp only [ha r aj,auN,au9,auI,awN,aup];refine .inr ?_;by_cases o4:fh x=true
     · exact .inr λe=>ai ⟨o4,e⟩
     · exact .inl (by simpa using o4)
  exact⟨λr aj=>HD aj,λbC=>(PJ p).mono (go _ λr aj=>by simp [bC,aj]),λah=>(PJ (p.drop x.n)).mono (go _ λr aj=>by simp [ah,aj])⟩
 termination_by p=>p.length
 decreasing_by all_goals simp [atU];try omega
def mK:List Ins->List Bool->List Bool
 | [],l=>l
 |x::p,l=>l[0]?.getD false::mK p (if dx x=true then l.tail.set x.n true else l.tail)
def xU:List Ins->List Bool->Prop
 | [],_=>True
 |x::p,es=>(dx x=true->(es.tail.drop x.n)[0]?.getD false=true)/\xU p es.tail
theorem xU.drop:∀{p:List Ins} {es:List Bool} (n:Nat),xU p es->xU (p.drop n) (es.drop n)
 |p,es,0,h=>by simpa using h
 | [],_,_+1,_=>by rw [List.drop_nil];trivial
 |x::p,es,n+1,h=>by
  have:=h.2.drop n;simpa [ayx]using this
theorem Td:∀(p:List Ins) (l:List Bool) (j:Nat),l[j]?.getD false=true->(mK p l)[j]?.getD false=true
 | [],_,_,h=>h
 |x::p,l,0,h=>by rw [mK];simpa using h
 |x::p,l,j+1,h=>by
  rw [mK,atO];have bW:l.tail[j]?.getD false=true:=by cases l with|nil=>simp at h|cons a l=>simpa using h
  refine Td p _ j ?_;split
  · exact GX _ bW
  · exact bW
theorem Mk:∀(p:List Ins) (l:List Bool),l.length=p.length+1->l8 p->xU p (mK p l)
 | [],_,_,_=>trivial
 |x::p,l,aN,eA=>by
  have tL:l.tail.length=p.length+1:=by simp [aN]
  rw [mK,xU];refine⟨λah=>?_,Mk p _ (by split<;>(try rw [av5])<;>omega) eA.2⟩;have ba:=eA.1 ah;rw [List.tail_cons,auL,avo];refine Td p _ x.n ?_;rw [atM ah];exact KB bj
theorem vE{p:List Ins}{m:cQ}(h:hd p=some m):2<=m.size/\m.size<=p.length:=by
 match p with
 | []=>cases h
 | [_]=>cases h
 |x::y::r=>
  have hB:∀(r:List Ins) (t:Nat),(ic r t).2.length<=r.length:=by
    intro r t;obtain⟨ep,_,ae,_⟩:=DK r t;have:=atW List.length ae;simp only [atV]at this;omega
  rw [hd]at h;split at h
  · have:=hB (y::r) x.a;unfold GK at h;split at h
    · cases h
    · rename_i z q he;split at h
      · cases h
        rw [he]at this;simp only [aue]at this ⊢;omega
      · cases h
  · split at h
    · have:=hB r x.a;unfold GL at h;split at h
      · cases h
      · rename_i z q he;split at h
        · cases h
          rw [he]at this;simp only [aue]at this ⊢;omega
        · cases h
    · cases h
def q3(l:List Bool):Bool:=l.any id
def zZ(o all:cQ)(es:List Bool)(yX:eJ):Bool:=decide (p1 o all)&&(!q3 (es.take o.size)&& !yX all.t)
def hk(p:List Ins)(es:List Bool)(all:cQ)(n:Nat):cQ × Nat:=
 match h:hd p with
 |none=>(all,n)
 |some o=>if zZ o all es (nK (p.drop o.size))=true then hk (p.drop o.size) (es.drop o.size) (kX all o) (n+o.size)else(all,n)
 termination_by p.length
 decreasing_by have:=vE h;simp [atU];omega
theorem TI{p:List Ins}{all:cQ}{n:Nat}(h:hd p=none):hk p es all n=(all,n):=by
 rw [hk];split
 · rfl
 · rename_i o bp;rw [h]at bp;cases bp
theorem ME{p:List Ins}{all o:cQ}{n:Nat}(h:hd p=some o):hk p es all n=if zZ o all es (nK (p.drop o.size))=true then hk (p.drop o.size) (es.drop o.size) (kX all o) (n+o.size)else(all,n):=by
 rw [hk];split
 · rename_i bp;rw [h]at bp;cases bp
 · rename_i my bp;rw [h]at bp;cases bp;rfl
def iX(p:List Ins)(es:List Bool):List (Option (Nat × cQ)):=
 match h:hd p with
 |none=>match p with
  | []=>[]
  |_::q=>none::iX q es.tail
 |some m=>
  if q3 ((es.drop 1).take (m.size - 1))=true then List.replicate m.size none++iX (p.drop m.size) (es.drop m.size)
  else
    if ba:m.size<(hk (p.drop m.size) (es.drop m.size) m m.size).2 then some ((hk (p.drop m.size) (es.drop m.size) m m.size).2,(hk (p.drop m.size) (es.drop m.size) m m.size).1)::iX (p.drop (hk (p.drop m.size) (es.drop m.size) m m.size).2) (es.drop (hk (p.drop m.size) (es.drop m.size) m m.size).2)
    else List.replicate m.size none++iX (p.drop m.size) (es.drop m.size)
 termination_by p.length
 decreasing_by
  · simp
  · have:=vE h;simp [atU];omega
  · have:=vE h;simp [atU];omega
  · have:=vE h;simp [atU];omega
def b9:List (Option (Nat × cQ))->Nat->Nat
 | [],_=>0
 |none::aa,0=>1+b9 aa 0
 |none::aa,j+1=>b9 aa j
 |some (n,m)::aa,j=>if j<n then(gK m).length+b9 aa 0 else b9 aa (j - n)
def ho:List (Option (Nat × cQ))->List Ins->List Ins
 | [],_=>[]
 |none::_,[]=>[]
 |none::aa,x::p=>(if dx x=true then { x with n:=b9 aa 0- b9 aa x.n }else x)::ho aa p
 |some (n,m)::aa,p=>gK m++ho aa (p.drop n)
def uM(p:List Ins):List Ins:=ho (iX p (mK p (List.replicate (p.length+1) false))) p
def vT:List (Option (Nat × cQ))->Nat->Prop
 |_,0=>True
 | [],_+1=>False
 |none::aa,j+1=>vT aa j
 |some (n,_)::aa,j+1=>n<=j+1/\vT aa (j+1- n)
inductive l4:List (Option (Nat × cQ))->List Ins->Prop where
 |nil:l4 [] []
 |one (x:Ins) (p:List Ins) (aa:List (Option (Nat × cQ))) (ah:dx x=true->x.n<=p.length/\vT aa x.n) (h:l4 aa p):l4 (none::aa) (x::p)
 |tR (xs p:List Ins) (m:cQ) (aa:List (Option (Nat × cQ))) (aj:mF m xs) (aG:ef p (λr=>r≠m.t)) (aW:0<xs.length) (aN:(gK m).length<xs.length) (h:l4 aa p):l4 (some (xs.length,m)::aa) (xs++p)
theorem Ca{aa:List (Option (Nat × cQ))}{p:List Ins}(h:l4 aa p):(ho aa p).length=b9 aa 0/\b9 aa 0<=p.length:=by
 induction h with
 |nil=>exact⟨rfl,atI _⟩
 |one x p aa ah h df=>rw [ho,b9];simp only [aue];omega
 |tR xs p m aa aj aG aW aN h df=>
  rw [ho,b9,avK,atM aW];simp only [atV];omega
theorem TG{aa:List (Option (Nat × cQ))}{p:List Ins}(h:l4 aa p):∀j,vT aa j->∃x8,l4 x8 (p.drop j)/\ho x8 (p.drop j)=(ho aa p).drop (b9 aa 0- b9 aa j)/\b9 aa j<=b9 aa 0:=by
 induction h with
 |nil=>
  intro j ah;cases j with
  |zero=>exact⟨[],.nil,by simp [ho],atI _⟩
  |succ j=>exact ah.elim
 |one x p aa ah h df=>
  intro j hb;cases j with
  |zero=>exact⟨_,.one x p aa ah h,bl,atI _⟩
  |succ j=>
   obtain⟨x8,U,ae,aM⟩:=df j hb;refine⟨x8,U,?_,by rw [b9,b9];omega⟩;rw [at5,ae,ho,b9,b9,show 1+b9 aa 0- b9 aa j=(b9 aa 0- b9 aa j)+1 by omega,at5]
 |tR xs p m aa aj aG aW aN h df=>
  intro j hb;cases j with
  |zero=>exact⟨_,.tR xs p m aa aj aG aW aN h,bl,atI _⟩
  |succ j=>
   obtain⟨x8,U,ae,aM⟩:=df (j+1- xs.length) hb.2;have hle:=hb.1;have e:(xs++p).drop (j+1)=p.drop (j+1- xs.length):=by rw [List.drop_append,ava hle,awp]
   rw [e];refine⟨x8,U,?_,?_⟩
   · rw [ae,ho,b9,b9,atM aW,atK bj,avK,show(gK m).length+b9 aa 0- b9 aa (j+1- xs.length)=(gK m).length+(b9 aa 0- b9 aa (j+1- xs.length)) by omega,<-auQ,avK]
   · rw [b9,b9,atM aW,atK bj];omega
theorem Ir{aV:List Nat}{size slots:Nat}(bT:size<=8)(eb:∀v∈aV,v<2^64):∀(N:Nat) {p:List Ins} {aa:List (Option (Nat × cQ))} {s:cR} (k cS:Nat),p.length<N->l4 aa p->(∀x∈p,x.bK<2^64)->q2 p->jb size slots s->gG (da aV (ho aa p) s cS)=gG (da aV p s k)
 | 0,p,aa,s,k,cS,hO,_,_,_,_=>absurd hO (auv _)
 |N+1,p,aa,s,k,cS,hO,h,ai,hw,aH=>by
  cases h with
  |nil=>rw [ho,da,da];rfl
  |one x p aa ah h=>
   have u6:=λy aO=>ai y (at0 _ aO);have ov:q2 p:=λy aO=>hw y (at0 _ aO);have jump:∀(s:cR) (k cS:Nat),jb size slots s->dx x=true->gG (da aV ((ho aa p).drop (b9 aa 0- b9 aa x.n)) s cS)=gG (da aV (p.drop x.n) s k):=λs k cS aH j8=>by
     obtain⟨ba,hb⟩:=ah j8;obtain⟨x8,U,ae,_⟩:=TG h x.n hb;rw [<-ae];exact Ir bT eb N k cS (by simp at hO ⊢;omega) U (λy aO=>u6 y (auG aO)) (ov.drop _) aH
   have kN:∀(s:cR) (k cS:Nat),jb size slots s->gG (da aV (ho aa p) s cS)=gG (da aV p s k):=λs k cS aH=>Ir bT eb N k cS (by simp at hO ⊢;omega) h u6 ov aH;obtain⟨pv,nq,EH,uI⟩:=Ik (x:=x) (n:=b9 aa 0- b9 aa x.n);rw [ho,da,da,pv,nq,EH,uI];by_cases aJ:x.op=0
   · rw [atM aJ,atM aJ];rfl
   rw [atK aJ,atK aJ];by_cases gz:x.op=17
   · have uH:(if dx x=true then { x with n:=b9 aa 0- b9 aa x.n }else x).n=x.n:=by rw [atK (by simp [dx,gz])]
     rw [atM gz,atM gz,uH];split
     · exact kN _ _ _ aH
     · rfl
   rw [atK gz,atK gz];by_cases dD:x.op=18
   · rw [atM dD,atM dD,atM (lj (.inl dD))];exact jump _ _ _ aH (lj (.inl dD))
   rw [atK dD,atK dD];by_cases dZ:x.op=19
   · rw [atM dZ,atM dZ,atM (lj (.inr dZ))];split
     · exact kN _ _ _ aH
     · exact jump _ _ _ aH (lj (.inr dZ))
   rw [atK dZ,atK dZ,atK (by simp [dx,dD,dZ])];exact kN _ _ _ (vK aH bT (ai x bl) eb)
  |tR xs p m aa aj aG aW aN h=>
   have ag6:=λy aO=>ai y (axZ _ aO);have u6:=λy aO=>ai y (avt _ aO);have ov:q2 p:=λy aO=>hw y (avt _ aO);rw [ho,avK,Ql (gK m) _ _ _ (LV aj.wf).str,Ql xs _ _ _ aj.str];have ey:=EJ (slots:=slots) bT eb (gK m) s (Ss aj.wf) aH;rw [Ir bT eb N (k+xs.length) _ (by simp at hO ⊢;omega) h u6 ov ey];exact(Dz _ _ aG ov (ane bT eb aj ag6 aH)).symm
theorem Is:∀(N:Nat) {p:List Ins} {aa:List (Option (Nat × cQ))} {dS:Nat->Prop},p.length<N->l4 aa p->ef p dS->ef (ho aa p) dS
 | 0,p,aa,dS,hO,_,_=>absurd hO (auv _)
 |N+1,p,aa,dS,hO,h,bS=>by
  cases h with
  |nil=>rw [ho];exact bS
  |one x p aa ah h=>
   obtain⟨bw,bf,dj,fl⟩:=Tr (x:=x) (n:=b9 aa 0- b9 aa x.n);rw [ef]at bS;obtain⟨aj,bC,ag8⟩:=bS;rw [ho,ef,bw,bf,dj,fl];refine⟨aj,λagP=>Is N (by simp at hO ⊢;omega) h (bC agP),λj8=>?_⟩;rw [atM j8];obtain⟨ba,hb⟩:=ah j8;obtain⟨x8,U,ae,_⟩:=TG h x.n hb;show ef ((ho aa p).drop (b9 aa 0- b9 aa x.n)) _;rw [<-ae];exact Is N (by simp at hO ⊢;omega) U (ag8 j8)
  |tR xs p m aa aj aG aW aN h=>
   obtain⟨U,ae⟩:=aj.GU bS;rw [ho,avK];exact((LV aj.wf).GU aj.wf.ne).2 ⟨U,Is N (by simp at hO ⊢;omega) h ae⟩
theorem Zo{size:Nat}{t:Nat}{s:Int}(bW:t<16)(U: -63<=s)(ae:s<=63)(q:List Ins):e5 size slots (hV t s++q)=e5 size slots q:=by
 have key:∀op n,(op=6\/op=7)->n<=63->dW ⟨op,t,0,n,0⟩=true:=by
   intro op n ft ba;rcases ft with rfl|rfl<;>exact(sM (by show(0:Nat) <2^64;decide)).2 ⟨_,rfl,by simp [hc,okF,fX,Ins.get];omega,rfl⟩
 unfold hV;split
 · rw [awf,e5,key 6 _ (.inl rfl) bj];rfl
 · split
   · rw [awf,e5,key 7 _ (.inr rfl) bj];rfl
   · rfl
theorem ac5{size:Nat}{m:cQ}(hw:nj m)(oo:m.ai<=size)(q:List Ins):e5 size slots (gK m++q)=e5 size slots q:=by
 have aN:=hw.lt;have ko:=hw.ai;have bW:=hw.t;have bp:=hw.other;have pD:m.bits<2^64:=auj hw.bits (aum bk bj);have z:(0:Nat) <2^64:=bk
 unfold gK;split
 · have hp:dW ⟨2,m.t,m.other,0,0⟩=true:=(sM z).2 ⟨_,rfl,by simp [hc,okF,fX,tY,Ins.get];omega,rfl⟩;have fe:dW ⟨13,m.t,m.bq,m.ai - m.bq,m.bits⟩=true:=(sM pD).2 ⟨_,rfl,by simp [hc,okF,mV,fX,Ins.get];omega,rfl⟩;rw [show(⟨2,m.t,m.other,0,0⟩::hV m.t (l0 m)++ [⟨13,m.t,m.bq,m.ai - m.bq,m.bits⟩])++q=⟨2,m.t,m.other,0,0⟩::(hV m.t (l0 m)++⟨13,m.t,m.bq,m.ai - m.bq,m.bits⟩::q) by simp];rw [e5,Zo bW hw.s1 hw.s2,e5,hp,fe];simp only [cX,gS.err,awx,auN];rw [atK bj];rfl
 · have hp:dW ⟨9,m.t,m.bq,m.ai - m.bq,0⟩=true:=(sM z).2 ⟨_,rfl,by simp [hc,okF,mV,fX,Ins.get];omega,rfl⟩;have fe:dW ⟨8,m.t,0,0,m.bits⟩=true:=(sM pD).2 ⟨_,rfl,by simp [hc,okF,fX,Ins.get];omega,rfl⟩;have iM:dW ⟨4,m.other,m.t,0,0⟩=true:=(sM z).2 ⟨_,rfl,by simp [hc,okF,fX,tY,Ins.get];omega,rfl⟩;rw [show(⟨9,m.t,m.bq,m.ai - m.bq,0⟩::⟨8,m.t,0,0,m.bits⟩::hV m.t (l0 m)++ [⟨4,m.other,m.t,0,0⟩])++q=⟨9,m.t,m.bq,m.ai - m.bq,0⟩::⟨8,m.t,0,0,m.bits⟩::(hV m.t (l0 m)++⟨4,m.other,m.t,0,0⟩::q) by simp];rw [e5,e5,Zo bW hw.s1 hw.s2,e5,hp,fe,iM];simp only [cX,gS.err,awx,auN];rw [atK bj];rfl
theorem KQ{size:Nat}:∀{xs p:List Ins},e5 size slots (xs++p)=true->e5 size slots p=true
 | [],_,h=>h
 |x::xs,p,h=>by
  rw [avb,e5]at h;simp only [atP]at h;exact KQ h.2
theorem XZ{size:Nat}{m:cQ}{p:List Ins}(h:ph m xs)(bW:e5 size slots (xs++p)=true):m.ai<=size:=by
 have key:∀(x:Ins) (q:List Ins),e5 size slots (x::q)=true->(x.op=9\/x.op=13)->x.b+x.n<=size:=by
  intro x q h ft;simp only [e5,atP,atQ]at h;have ae:=h.1.2;rcases ft with e|e<;>rw [e]at ae<;>simp only [cX,gS.err]at ae<;>split at ae<;>omega
 cases h with
 |jf cz z ep d ai aJ oa wH hB bA kW pJ oo=>
  rw [oo];have e:cz::ep++ [z]++p=(cz::ep)++z::p:=bl
  rw [e]at bW;exact key z p (KQ bW) (.inr bA)
 |out cz y z ep d ai aJ oa aO xh xi hB bA kW sE pJ oo=>
  rw [oo];exact key cz _ bW (.inl aJ)
theorem anb{size:Nat}{m:cQ}{p:List Ins}(h:mF m xs)(bW:e5 size slots (xs++p)=true):m.ai<=size:=by
 induction h generalizing p with
 |one h hw=>exact XZ h bW
 | @more m o xs ys h k hw aG df=>
  rw [auJ]at bW;have U:=df bW;have ae:=XZ k (KQ bW);show max m.ai o.ai<=size;omega
 |sized n h df=>exact df bW
theorem afb{size:Nat}{p:List Ins}{aa:List (Option (Nat × cQ))}(h:l4 aa p)(ai:∀x∈p,x.bK<2^64)(kT:p.length<=16384)(bW:e5 size slots p=true):e5 size slots (ho aa p)=true:=by
 induction h with
 |nil=>rfl
 |one x p aa ah h df=>
  have CE:=df (λy aO=>ai y (at0 _ aO)) (by simp at kT;omega) (by simp only [e5,atP]at bW;exact bW.2);simp only [e5,atP,atQ]at bW;rw [ho,e5,CE,azA,atP,atQ,(Ca h).1];obtain⟨pv,nq,EH,uI⟩:=Ik (x:=x) (n:=b9 aa 0- b9 aa x.n);rw [pv];have aN:=(Ca h).2;by_cases j8:dx x=true
  · rw [atM j8];have NY:x.op=18\/x.op=19:=by simpa [dx]using j8
    simp only [aue]at kT;refine⟨YZ bW.1.1 (ai x auy) NY bj,?_⟩;have:(cX x.op).2.2=.skip:=by rcases NY with e|e<;>rw [e]<;>rfl
    rw [this];simp only [gS.err];rw [atK bj]
  · rw [atK j8];refine⟨bW.1.1,?_⟩;have ae:=bW.1.2;cases au:(cX x.op).2.2 with
    |skip=>
     exfalso;unfold cX at au;split at au<;>first|(rename_i e;simp [dx,e]at j8;done)|cases au
    |_=>rw [au]at ae;exact ae
 |tR xs p m aa aj aG aW aN h df=>
  rw [ho,avK,ac5 aj.wf (anb aj bW)];exact df (λy aO=>ai y (avt _ aO)) (by simp at kT;omega) (KQ bW)
theorem ae'{p:List Ins}{aa:List (Option (Nat × cQ))}(h:l4 aa p):ho aa p=p\/(ho aa p).length<p.length:=by
 have key:b9 aa 0=p.length->ho aa p=p/\∀j,j<=p.length->b9 aa j=p.length - j:=by
   induction h with
   |nil=>intro _;exact⟨rfl,λj _=>by simp [b9]⟩
   |one x p aa ah h df=>
    intro aN;rw [b9]at aN;obtain⟨U,ae⟩:=df (by simp at aN;omega);have q9:∀j,j<=(x::p).length->b9 (none::aa) j=(x::p).length - j:=by
      intro j Je;cases j with
      |zero=>rw [b9];simp at aN ⊢;omega
      |succ j=>rw [b9,ae j (by simpa using Je)];simp
    refine⟨?_,q9⟩;rw [ho,U]
    congr 1
    split
    · rename_i j8;have ba:=(ah j8).1;have:b9 aa 0- b9 aa x.n=x.n:=by rw [ae 0 (auc _),ae x.n ba];omega
      rw [this]
    · rfl
   |tR xs p m aa aj aG aW aN h df=>
    intro kT;have:=(Ca h).2;rw [b9,atM aW]at kT;simp only [atV]at kT;omega
 by_cases aN:b9 aa 0=p.length
 · exact .inl (key aN).1
 · have:=Ca h;right;omega
theorem R1(aa:List (Option (Nat × cQ))):∀(n j:Nat),vT (List.replicate n none++aa) j↔j<n\/vT aa (j - n)
 | 0,j=>by simp
 |n+1,0=>by simp [vT]
 |n+1,j+1=>by
  rw [avR,avb];show vT (List.replicate n none++aa) j↔_;rw [R1 aa n j,Nat.succ_lt_succ_iff,Nat.succ_sub_succ]
def zB(aa:List (Option (Nat × cQ)))(es:List Bool)(len:Nat):Prop:=∀j,j<=len->es[j]?.getD false=true->vT aa j
theorem afa{p:List Ins}{aa:List (Option (Nat × cQ))}(eA:l8 p)(he:xU p es):∀(n:Nat),n<=p.length->l4 aa (p.drop n)->zB aa (es.drop n) (p.length - n)->l4 (List.replicate n none++aa) p/\zB (List.replicate n none++aa) es p.length:=by
 intro n ba ml bS;have Uv:zB (List.replicate n none++aa) es p.length:=λj ah wX=>by
  rw [R1];by_cases bu:j<n
  · exact .inl bu
  · refine .inr (bS (j - n) bj ?_);rw [auL,show n+(j - n)=j by omega];exact wX
 refine⟨?_,Uv⟩;induction n generalizing p es with
 |zero=>simpa using ml
 |succ n df=>
  cases p with
  |nil=>simp at ba
  |cons x p=>
    rw [avR,avb];have e:(es.drop (n+1))=es.tail.drop n:=by simp [ayx]
    have pA:zB aa (es.tail.drop n) (p.length - n):=by rw [<-e];simpa using bS
    have Uw:zB (List.replicate n none++aa) es.tail p.length:=λj ah wX=>by
     have:=Uv (j+1) (by simpa using ah) (by rw [<-wX];cases es<;>simp);exact this
    have afJ:=df eA.2 he.2 (by simpa using ba) (by simpa using ml) pA Uw;refine .one x p _ (λah=>⟨eA.1 ah,Uw x.n (eA.1 ah) ?_⟩) afJ;have:=he.1 ah
    rwa [auL,avo]at this
theorem any_false{l:List Bool}(h:q3 l=false){j:Nat}(ah:l[j]?.getD false=true):False:=by
 unfold q3 at h;rw [List.any_eq_false]at h;cases aN:l[j]? with
 |none=>rw [aN]at ah;cases ah
 |some b=>
  rw [aN]at ah;exact h b (auF aN) ah
def sI(m:cQ):Nat:=if m.jf=true then 2 else 3
theorem ph.min{m:cQ}(h:ph m xs):sI m<=xs.length:=by
 unfold sI;cases h with
 |jf cz z ep d ai=>rw [atM ai];simp
 |out cz y z ep d ai=>rw [atK (by rw [ai];decide)];simp
theorem St(m:cQ):(gK m).length<=sI m+1:=by
 have:(hV m.t (l0 m)).length<=1:=by unfold hV;split<;>(try split)<;>simp
 unfold gK sI;split<;>simp<;>omega
theorem TJ:∀(p:List Ins) (es:List Bool) (all:cQ) (n:Nat) (xs:List Ins),(∀x∈p,dW x=true/\x.bK<2^64)->mF all xs->xs.length=n->
  hk p es all n=(all,n)\/∃ys q,p=ys++q/\(hk p es all n).2=n+ys.length/\mF (hk p es all n).1 (xs++ys)/\sI (hk p es all n).1=sI all/\sI all<=ys.length/\ef q (λr=>r≠(hk p es all n).1.t)/\(hk p es all n).1.t=all.t/\q3 (es.take ys.length)=false
 |p,es,all,n,xs,aj,gr,aN=>by
  cases h:hd p with
  |none=>rw [TI h];exact .inl rfl
  |some o=>
   rw [ME h];by_cases az:zZ o all es (nK (p.drop o.size))=true
   · rw [atM az];obtain⟨ys,q,aW,sD,FL,o3,ae⟩:=Dw h aj;unfold zZ at az;simp only [atP,atQ,auI]at az;obtain⟨hw,uW,vb⟩:=az;have nF:p1 all o:=⟨hw.1.symm,hw.2.1.symm,hw.2.2.1.symm,hw.2.2.2.symm⟩;have VX:mF (kX all o) (xs++ys):=.more gr FL o3 nF;have tw:p.drop o.size=q:=by rw [aW,<-sD,avK]
     have va:sI all<=ys.length:=by
       have:=FL.min;unfold sI at this ⊢
       rwa [hw.1]at this
     have aZ:ef q (λr=>r≠all.t):=by
       rw [tw]at vb;exact(PJ q).mono λr aj e=>by rw [e,vb]at aj;cases aj
     have asg:q.length<p.length:=by rw [aW];simp;omega
     rw [tw];right;rcases TJ q (es.drop o.size) (kX all o) (n+o.size) (xs++ys) (λx hx=>aj x (by rw [aW];exact avt _ hx)) VX (by simp [aN,sD])with he|⟨cg,eL,bw,bf,dj,fl,q7,Me,pt,wA⟩
     · rw [he];exact⟨ys,q,aW,by show n+o.size=n+ys.length;rw [sD],VX,rfl,va,aZ,rfl,by rw [sD];exact uW⟩
     · refine⟨ys++cg,eL,by rw [aW,bw,auJ],by rw [bf,atV,sD];omega,by rw [<-auJ];exact dj,fl,by rw [atV];omega,Me,pt,?_⟩;rw [atV,List.take_add,sD];unfold q3 at*;rw [List.any_append,uW,wA];rfl
   · rw [atK az];exact .inl rfl
 termination_by p=>p.length
theorem Yv{p:List Ins}(h:hd (x::p)=none):iX (x::p) es=none::iX p es.tail:=by
 rw [iX];split
 · rfl
 · rename_i m hm;rw [h]at hm;cases hm
theorem Yu(es:List Bool):iX [] es=[]:=by
 rw [iX];split
 · rfl
 · rename_i m hm;cases hm
theorem Yw{p:List Ins}{m:cQ}(h:hd p=some m):iX p es=if q3 ((es.drop 1).take (m.size - 1))=true then List.replicate m.size none++iX (p.drop m.size) (es.drop m.size)
   else if m.size<(hk (p.drop m.size) (es.drop m.size) m m.size).2 then some ((hk (p.drop m.size) (es.drop m.size) m m.size).2,(hk (p.drop m.size) (es.drop m.size) m m.size).1)::iX (p.drop (hk (p.drop m.size) (es.drop m.size) m m.size).2) (es.drop (hk (p.drop m.size) (es.drop m.size) m m.size).2)
     else List.replicate m.size none++iX (p.drop m.size) (es.drop m.size):=by
 rw [iX];split
 · rename_i hm;rw [h]at hm;cases hm
 · rename_i tQ hm;rw [h]at hm;cases hm;split
   · rfl
   · split<;>rfl
theorem GA:∀(p:List Ins) (es:List Bool),(∀x∈p,dW x=true/\x.bK<2^64)->l8 p->xU p es->l4 (iX p es) p/\zB (iX p es) es p.length
 |p,es,aj,eA,he=>by
  cases h:hd p with
  |none=>
   cases p with
   |nil=>rw [Yu];exact⟨.nil,λj ah _=>by rw [show j=0 from Nat.le_zero.1 ah];trivial⟩
   |cons x p=>
     rw [Yv h];obtain⟨U,ae⟩:=GA p es.tail (λy aO=>aj y (at0 _ aO)) eA.2 he.2;refine⟨.one x p _ (λah=>⟨eA.1 ah,ae x.n (eA.1 ah) ?_⟩) U,λj ah wX=>?_⟩
     · have:=he.1 ah
       rwa [auL,avo]at this
     · cases j with
       |zero=>trivial
       |succ j=>exact ae j (by simpa using ah) (by rw [<-wX];cases es<;>simp)
  |some m=>
   rw [Yw h];have bT:=vE h;obtain⟨xs,q,aW,qD,FL,o3,ae⟩:=Dw h aj;have tw:p.drop m.size=q:=by rw [aW,<-qD,avK]
   have rep:l4 (List.replicate m.size none++iX (p.drop m.size) (es.drop m.size)) p/\zB (List.replicate m.size none++iX (p.drop m.size) (es.drop m.size)) es p.length:=by
     have bu:(p.drop m.size).length<p.length:=by rw [atU];omega
     obtain⟨aM,cc⟩:=GA (p.drop m.size) (es.drop m.size) (λy aO=>aj y (auG aO)) (eA.drop _) (he.drop _);exact afa eA he m.size bT.2 aM (by rwa [atU]at cc)
   by_cases ha:q3 ((es.drop 1).take (m.size - 1))=true
   · rw [atM ha];exact rep
   rw [atK ha];by_cases ba:m.size<(hk (p.drop m.size) (es.drop m.size) m m.size).2
   · rw [atM ba];rcases TJ (p.drop m.size) (es.drop m.size) m m.size xs (λy aO=>aj y (auG aO)) (.one FL o3) qD with Fj|⟨ys,eL,bw,bf,dj,fl,q7,Me,pt,wA⟩
     · rw [Fj]at ba;exact absurd ba (ax2 _)
     · generalize hk (p.drop m.size) (es.drop m.size) m m.size=g at*;rw [tw]at bw;have VK:p=(xs++ys)++eL:=by rw [aW,bw,auJ]
       have nz:g.2=(xs++ys).length:=by rw [bf,atV,qD]
       have U2:p.drop g.2=eL:=by
         rw [nz]
         conv=>lhs;rw [VK]
         rw [avK]
       have bu:(p.drop g.2).length<p.length:=by rw [atU];omega
       obtain⟨aM,cc⟩:=GA (p.drop g.2) (es.drop g.2) (λy aO=>aj y (auG aO)) (eA.drop _) (he.drop _);have Vu:=FL.min;have Ff:=St g.1;have aq0:2<=sI m:=by unfold sI;split<;>omega
       refine⟨?_,λj ah wX=>?_⟩
       · have:=l4.tR (xs++ys) eL g.1 _ dj Me (by rw [<-nz];omega) (by rw [atV];omega) (U2▸aM);rw [<-VK,<-nz,<-U2]at this;exact this
       · cases j with
         |zero=>trivial
         |succ j=>
          have u4:g.2<=j+1:=by
           refine aw7 λrm=>?_;by_cases Fx:j+1<m.size
           · refine any_false (avS.2 ha) (j:=j) ?_;rw [ayh,atM bj,auL,axi];exact wX
           · refine any_false wA (j:=j+1- m.size) ?_;rw [ayh,atM bj,auL,show m.size+(j+1- m.size)=j+1 by omega];exact wX
          refine⟨u4,cc (j+1- g.2) (by rw [atU];omega) ?_⟩;rw [auL,show g.2+(j+1- g.2)=j+1 by omega];exact wX
   · rw [atK ba];exact rep
 termination_by p=>p.length
 decreasing_by all_goals simp_all
theorem aeY{size:Nat}(bT:size<=8){p:List Ins}(kT:p.length<=16384)(ai:∀x∈p,x.bK<2^64)(h:hG size slots p=true):hG size slots (uM p)=true/\(∀aV s k cS,(∀v∈aV,v<2^64)->jb size slots s->gG (da aV (uM p) s cS)=gG (da aV p s k))/\(uM p=p\/(uM p).length<p.length):=by
 obtain⟨U,ae⟩:=rP.1 h;have eA:=sS U;have aj:∀x∈p,dW x=true/\x.bK<2^64:=λx hx=>⟨by obtain⟨i,ai,rfl⟩:=avh hx;exact(rM U i ai).1,ai x hx⟩;have ml:=(GA p _ aj eA (Mk p (List.replicate (p.length+1) false) bl eA)).1;exact⟨rP.2 ⟨afb ml ai kT U,Is _ (awz _) ml ae⟩,λaV s k cS eb aH=>Ir bT eb _ k cS (awz _) ml ai (QU U) aH,ae' ml⟩
def cQ.cells(m:cQ):List Value:=[.bool m.jf,.int .i64 (m.t:Nat),.int .i64 (m.other:Nat),.int .i64 m.fQ,.int .i64 (m.bq:Nat),.int .i64 (m.ai:Nat),.int .u64 (m.bits:Nat),.int .i64 (m.size:Nat)]
def jR:cQ:=⟨false,0,0,0,0,0,0,0⟩
theorem lh(m:cQ):∀v∈m.cells.toArray,v.oneCell'=true:=λv ao=>by simp [cQ.cells]at ao;rcases ao with rfl|rfl|rfl|rfl|rfl|rfl|rfl|rfl<;>rfl
theorem akw{v n:Nat}(U:1<=n)(ko:n<=8):v &&& 18446744073709551615/2^(64- 8*n)=oz v n:=by
 have e:18446744073709551615/2^(64- 8*n)=2^(8*n)- 1:=by
  have:n=1\/n=2\/n=3\/n=4\/n=5\/n=6\/n=7\/n=8:=bj
  rcases this with rfl|rfl|rfl|rfl|rfl|rfl|rfl|rfl<;>decide
 rw [e,avW];rfl
theorem Tt(w:World)(v n:Nat)(ao:v<2^64)(U:1<=n)(ko:n<=8):bd prog 268 [.int .u64 (v:Nat),.int .i64 (n:Nat)].toArray w (λu w'=>u=.int .u64 (oz v n:Nat)/\w'=w):=by
 have av:(64:Int)- 8*(n:Nat)=((64- 8*n:Nat):Int):=bj
 have hm:18446744073709551615/2^(64- 8*n) <2^64:=avB (ax5 _ _) bk;refine dP func268 rfl 9 rfl 11 rfl (λa I=>?_);revert a;(repeat first|refine ag ?_|refine J (n9 (m:=8) (n:=(n:Nat)) rfl rfl bj) ?_|refine J (lG (a:=18446744073709551615) (b:=64- 8*n) rfl rfl rfl av (by show 64- 8*n<=64;omega)) ?_|refine J (fi (a:=v) (b:=18446744073709551615/2^(64- 8*n)) rfl rfl rfl rfl rfl ao hm) ?_);intro a I;exact bc I rfl rfl ⟨by rw [akw U ko],rfl⟩
theorem QD(w:World)(x:Ins):bd prog 172 [.agg x.cells.toArray].toArray w (λv w'=>v=.bool (dx x)/\Below w.heap.size w w'):=by
 refine cF func172 rfl 10 rfl 11 rfl (λa I=>?_);revert a;refine ad λa I=>?_;refine di I rfl (k:=λa aq aE aT b8 I=>?_);have aB:=ca aT;have aL:dd w.heap.size x aq:=aE;by_cases dD:x.op=18
 · revert a;(repeat first|refine ag ?_|refine J (af aL.op) ?_);intro a I;exact bc I rfl rfl ⟨by simp [dx,dD],aB⟩
 · by_cases dZ:x.op=19
   · revert a;(repeat first|refine ag ?_|refine J (af aL.op) ?_);intro a I;exact bc I rfl rfl ⟨by simp [dx,dZ],aB⟩
   · revert a;(repeat first|refine ag ?_|refine J (af aL.op) ?_);intro a I;exact bc I rfl rfl ⟨by simp [dx,dD,dZ],aB⟩
theorem Zv(w:World)(p:List Ins)(t:Nat)(aW:∀x∈p,fc x){cp:Nat}(cj:dA w ap 5 Ins.cells p)(kS:p.length<=cp):bd prog 267 [.slice ap p.length cp,.int .i64 (t:Nat)].toArray w
  (λv w'=>(∃ay c,v=.tuple #[.int .i64 (ic p t).1,.slice ay (ic p t).2.length c]/\dA w' ay 5 Ins.cells (ic p t).2)/\Below w.heap.size w w'):=by
 refine dP func267 rfl 37 rfl 39 rfl (λa I=>?_);cases p with
 |nil=>
  revert a;refine ad λa I=>?_;exact eI I rfl rfl rfl ⟨⟨ap,cp,rfl,cj⟩,atL _ _⟩
 |cons x q=>
  obtain⟨g,o,rfl,av⟩:=cj 0 bl;have C3:=(aW x bl).n;have hlen:(1:Nat)<=(x::q).length:=bl
  have Jh:(x::q).length - 1=q.length:=bl
  have co:w.cell? ⟨g,o+0*5+0,none⟩=some (.int .i64 (x.op:Nat)):=av 0 _ rfl;have cV:w.cell? ⟨g,o+0*5+1,none⟩=some (.int .i64 (x.a:Nat)):=av 1 _ rfl;have db:w.cell? ⟨g,o+0*5+3,none⟩=some (.int .i64 (x.n:Nat)):=av 3 _ rfl;have aI:=cj.drop 1 cp kS;by_cases ha:x.a=t
  · have yq:(x.a:Int)=(t:Int):=bj
    by_cases gM:x.op=6
    · have e:ic (x::q) t=(((x.n:Nat):Int),q):=by rw [ic,atM ha,atM gM]
      rw [e];revert a;(repeat first|refine ag ?_|refine J (dq (j:=0)) ?_|refine J (af co) ?_|refine J (af cV) ?_|refine ck (λak ar=>dq (j:=0)) ?_|refine ck (λak ar=>ea ar db) ?_|refine λ(_:Nat)=>?_);intros;rename_i g' a I;exact eI I rfl rfl rfl ⟨⟨_,_,by rw [Jh],aI⟩,cP.below ⟨_,rfl⟩ _⟩
    · by_cases jc:x.op=7
      · have e:ic (x::q) t=(-((x.n:Nat):Int),q):=by rw [ic,atM ha,atK gM,atM jc]
        rw [e];revert a;(repeat first|refine ag ?_|refine J (dq (j:=0)) ?_|refine J (af co) ?_|refine J (af cV) ?_|refine ck (λak ar=>dq (j:=0)) ?_|refine ck (λak ar=>L6 (m:=(x.n:Nat)) rfl bj) ?_|refine ck (λak ar=>ea ar db) ?_|refine λ(_:Nat)=>?_);intros;rename_i g' a I;exact eI I rfl rfl rfl ⟨⟨_,_,by rw [Jh,Int.zero_sub],aI⟩,cP.below ⟨_,rfl⟩ _⟩
      · have e:ic (x::q) t=(0,x::q):=by rw [ic,atM ha,atK gM,atK jc]
        rw [e];revert a;(repeat first|refine ag ?_|refine J (dq (j:=0)) ?_|refine J (af co) ?_|refine J (af cV) ?_);intro a I;exact eI I rfl rfl rfl ⟨⟨_,_,rfl,cj⟩,atL _ _⟩
  · have yq:¬(x.a:Int)=(t:Int):=bj
    have e:ic (x::q) t=(0,x::q):=by rw [ic,atK ha]
    rw [e];revert a;(repeat first|refine ag ?_|refine J (dq (j:=0)) ?_|refine J (af cV) ?_);intro a I;exact eI I rfl rfl rfl ⟨⟨_,_,rfl,cj⟩,atL _ _⟩
theorem amQ{p:List Ins}(h:p.length<2):hd p=none:=by
 match p with
 | []=>rfl
 | [_]=>rfl
 |_::_::_=>simp at h;omega
def nX(p:List Ins)(v:Value):Prop:=v=.tuple #[.agg ((hd p).getD jR).cells.toArray,.bool (hd p).isSome]
theorem Zu(r:List Ins)(t:Nat):∀z∈(ic r t).2,z∈r:=by
 obtain⟨ep,_,ae,_⟩:=DK r t;intro z bA;rw [ae];exact avt _ bA
theorem Zt(r:List Ins)(t:Nat):(ic r t).2.length<=r.length:=by
 obtain⟨ep,_,ae,_⟩:=DK r t;have:=atW List.length ae;simp only [atV]at this;omega
theorem Zs(r:List Ins)(t:Nat)(h:∀x∈r,dW x=true): -63<=(ic r t).1/\(ic r t).1<=63:=by
 obtain⟨_,_,_,_,cc⟩:=DK r t;exact cc h
theorem aeX(w:World)(p:List Ins)(aW:∀x∈p,fc x)(aj:∀x∈p,dW x=true){cp:Nat}(cj:dA w ap 5 Ins.cells p)(kS:p.length<=cp)(hlen:p.length<=16384):bd prog 250 [.slice ap p.length cp].toArray w
   (λv w'=>nX p v/\Below w.heap.size w w'):=by
 refine cF func250 rfl 176 rfl 177 rfl (λa I=>?_);revert a;refine ad λa I=>?_;refine b6 I yO λa aq aE aT b8 I=>?_;have aB:=ca aT;by_cases hB:p.length<2
 · unfold nX;rw [amQ hB];revert a;(repeat first|refine ag ?_|refine J (cA (vs:=[]) (cells:=jR.cells.toArray) bh trivial) ?_);intro a I;refine cE I (cs:=jR.cells.toArray) aE (lh _) λa dt dm cG hn I=>?_;revert a;refine ad λa I=>?_;exact h7 I rfl (agg _ rfl) (aw _ _ rfl) dm rfl rfl ⟨rfl,aK aB cG aB.size⟩
 obtain⟨x,y,r,rfl⟩:∃x y r,p=x::y::r:=by
   match p,hB with
   | [],h=>exact absurd bl h
   | [_],h=>exact absurd bl h
   |x::y::r,_=>exact⟨x,y,r,rfl⟩
 obtain⟨g,o,rfl,Fg⟩:=cj 0 bl;have tu:∀j v,y.cells[j]? =some v->w.cell? ⟨g,o+1*5+j,none⟩=some v:=by
   obtain⟨jx,my,e,av⟩:=cj 1 bl;injection e with e;injection e with bw bf;subst bw;subst bf
   exact av
 have hx:=aW x bl;have aO:=aW y bl;have ah9:=aj x bl;have asj:=aj y bl;have Vp:(x::y::r).length=r.length+2:=bl
 have Cz:g<w.heap.size:=aui w _ (Fg 0 _ rfl);have VR:∀ak,Below w.heap.size w ak->∀j v,x.cells.toArray[j]? =some v->ak.cell? ⟨g,o+0*5+j,none⟩=some v:=λak h j v ah=>(h.cell Cz).trans (Fg j v (by simpa using ah));have VS:∀ak,Below w.heap.size w ak->∀j v,y.cells.toArray[j]? =some v->ak.cell? ⟨g,o+1*5+j,none⟩=some v:=λak h j v ah=>(h.cell Cz).trans (tu j v (by simpa using ah));revert a;(repeat first|(intro a I;(refine r4 (λak=>Below w.heap.size w ak) (λa cm=>∃hi qj,Fr 177 [(0,.slice (some ⟨g,o,none⟩) (x::y::r).length cp),(2,.pointer (some ⟨w.heap.size,0,none⟩)),(4,.pointer (some ⟨hi,0,none⟩)),(5,.pointer (some ⟨qj,0,none⟩))] a/\dd hi x cm/\dd qj y cm/\(∃fW,cm.heap[w.heap.size]? =some (.cells fW 286 (0,0))/\fW.size=8)/\Below w.heap.size w cm) (.read 0 (.read 1 (.read 2 (.read 3 (.read 4 (.read 5 (.two 6 7 (.cJ 7 (.cJ 8 (.cJ 9 .done))) (.cJ 6 (.cJ 8 (.cJ 9 .done)))))))))) 3 mixed bh (aB.trans (cP.below ⟨1,rfl⟩ _)) ?_ ?_);revert a)|refine ag ?_);intro a I
 rotate_left
 · refine dU I rfl (λak ar=>hv) rfl (λa I=>?_);refine dU I rfl (λak ar=>dq (j:=0)) rfl (λa I=>?_);refine dU I rfl (λak ar=>bJ (VR ak ar)) rfl (λa I=>?_);refine dU I rfl (λak ar=>hv) rfl (λa I=>?_);refine dU I rfl (λak ar=>dq (j:=1)) rfl (λa I=>?_);refine dU I rfl (λak ar=>bJ (VS ak ar)) rfl (λa I=>?_);refine ln rfl rfl ?_ ?_
   · refine DP I fK (k:=λa ax aP aS cZ I=>atJ ⟨rfl,(aB.trans (cP.below ⟨1,rfl⟩ _)).trans ((ca aS).mono aB.size),?_⟩);have aC:=(aB.trans (cP.below ⟨1,rfl⟩ _)).trans ((ca aS).mono aB.size);have gX:=aD (show(aq.drewN 1).heap[w.heap.size]? =_ from aE) aS bl;refine dV rfl ?_;refine DP I fK (k:=λa a6 bR bz eE I=>atJ ⟨rfl,aC.trans ((ca bz).mono aC.size),?_⟩);have a1:=aC.trans ((ca bz).mono aC.size);have NK:=aD aP bz bl;have mu:=aD gX bz bl;have kt:w.heap.size<(aq.drewN 1).heap.size:=bO aE;have iu:=bO aP;generalize (aq.drewN 1).heap.size=hi at*;refine dV rfl ?_;refine dX I (cs:=x.cells.toArray) (aw _ _ rfl) rfl rfl NK (jN x) (k:=λa bZ bX bD eY I=>atJ ⟨rfl,aK a1 bD a1.size,?_⟩);have b7:=aK a1 bD a1.size;refine dV rfl ?_;refine dX I (cs:=y.cells.toArray) (aw _ _ rfl) rfl rfl (aD bR bD bm) (jN y) (k:=λa bN bB br dw I=>atJ ⟨rfl,aK b7 br b7.size,?_⟩);refine iw ⟨hi,ax.heap.size,I.bb,aD bX br bm,bB,⟨_,aD (aD mu bD bm) br bm,rfl⟩,aK b7 br b7.size⟩
   · refine DP I fK (k:=λa ax aP aS cZ I=>atJ ⟨rfl,(aB.trans (cP.below ⟨1,rfl⟩ _)).trans ((ca aS).mono aB.size),?_⟩);have aC:=(aB.trans (cP.below ⟨1,rfl⟩ _)).trans ((ca aS).mono aB.size);have gX:=aD (show(aq.drewN 1).heap[w.heap.size]? =_ from aE) aS bl;refine dV rfl ?_;refine DP I fK (k:=λa a6 bR bz eE I=>atJ ⟨rfl,aC.trans ((ca bz).mono aC.size),?_⟩);have a1:=aC.trans ((ca bz).mono aC.size);have NK:=aD aP bz bl;have mu:=aD gX bz bl;have kt:w.heap.size<(aq.drewN 1).heap.size:=bO aE;have iu:=bO aP;generalize (aq.drewN 1).heap.size=qj at*;refine dV rfl ?_;refine dX I (cs:=x.cells.toArray) (aw _ _ rfl) rfl rfl bR (jN x) (k:=λa bZ bX bD eY I=>atJ ⟨rfl,aK a1 bD a1.size,?_⟩);have b7:=aK a1 bD a1.size;refine dV rfl ?_;refine dX I (cs:=y.cells.toArray) (aw _ _ rfl) rfl rfl (aD NK bD bm) (jN y) (k:=λa bN bB br dw I=>atJ ⟨rfl,aK b7 br b7.size,?_⟩);refine iw ⟨ax.heap.size,qj,I.bb,aD bX br bm,bB,⟨_,aD (aD mu bD bm) br bm,rfl⟩,aK b7 br b7.size⟩
 clear I aE aT aB VR VS a;rintro a cm ⟨hi,qj,I,aL,Cn,⟨fW,bA,e4⟩,hb⟩;have Cm:∀ak,dd hi x ak->ak.cell? ⟨hi,0+1,none⟩=some (.int .i64 (x.a:Nat)):=λak h=>aF h rfl;have Er:cm.cell? ⟨hi,0+1,none⟩=some (.int .i64 (x.a:Nat)):=aF aL rfl;have HF:cm.cell? ⟨hi,0+2,none⟩=some (.int .i64 (x.b:Nat)):=aF aL rfl;have c51:cm.cell? ⟨qj,0+1,none⟩=some (.int .i64 (y.a:Nat)):=aF Cn rfl;have IP:=cj.below (hb.trans (cP.below ⟨1,rfl⟩ _));have Cv:=hb.trans (cP.below ⟨1,rfl⟩ _);by_cases ae:x.op=2/\x.a≠x.b
 · obtain⟨afg,afh⟩:=ae;have dv:hd (x::y::r)=GK x (y::r) (r.length+2):=by rw [hd,atM ⟨afg,afh⟩]
   have aI:=IP.drop 1 cp kS;have Ay:=λz bA=>aW z (at0 _ bA);have vh:=λz bA=>aj z (at0 _ bA);have AF:=Zv (cm.drewN 1) (y::r) x.a Ay (cp:=cp - 1) aI (by simp at kS ⊢;omega);have CU:=Zt (y::r) x.a;obtain⟨OF,xd⟩:=Zs (y::r) x.a vh;have xe:=Zu (y::r) x.a;unfold GK at dv;generalize ic (y::r) x.a=QA at*;obtain⟨ep,rest⟩:=QA;dsimp only at CU OF xd xe AF dv;revert a;(repeat first|(intro a I;(refine gJ (λak:World=>dd hi x ak) [(0,true),(1,true),(2,true),(3,true),(4,false),(5,true),(6,true),(7,true),(8,true),(9,true)] 5 mixed bh aL ?_;simp only [fF,atZ,at1,aug,atS,atO]);revert a)|refine ag ?_|refine J (af aL.op) ?_|refine J (af Er) ?_|refine J (af HF) ?_);intro a I;revert a;(repeat first|refine e3 ?_|refine cB (λak ar=>r7 (aA _ _ rfl) (aw _ _ rfl) (i:=1)) ?_|refine cB (λak ar=>af (Cm ak ar)) ?_);intro a I;refine c7 ?_;refine aQ I AF λa v bN gF I=>?_;obtain⟨⟨ay,c5,rfl,Nb⟩,cx⟩:=gF;have rb:=dd.below (w:=cm.drewN 1) aL cx;have ru:=(cx.block _ (bO bA)).trans bA;have k':=Cv.trans (cx.mono Cv.size);refine atJ ⟨rfl,rb,?_⟩;revert a;refine hH λa I=>?_;refine fj ?_;have Lu:bN.cell? ⟨hi,0+1,none⟩=some (.int .i64 (x.a:Nat)):=aF rb rfl;have aqx:bN.cell? ⟨hi,0+2,none⟩=some (.int .i64 (x.b:Nat)):=aF rb rfl;clear aL Cn bA hb Cv IP aI AF Er HF c51;cases rest with
   |nil=>
     have fI:hd (x::y::r)=none:=dv;revert a;(repeat first|refine ag ?_|refine J (cA (vs:=[]) (cells:=jR.cells.toArray) bh trivial) ?_|refine λ(_:Nat)=>?_);intros;rename_i g' a I;refine dX I (cs:=jR.cells.toArray) (aw _ _ rfl) rfl e4 ru (lh _) (k:=λa dt dm cG hn I=>?_);revert a;refine ad λa I=>?_;exact h7 I rfl (agg _ rfl) (aw _ _ rfl) dm rfl rfl ⟨by unfold nX;rw [fI];rfl,aK (k'.trans (cP.below ⟨_,rfl⟩ _)) cG k'.size⟩
   |cons z q=>
     obtain⟨g2,kb,rfl,kq⟩:=Nb 0 bl;have yL:=xe z bl;have Wz:=Ay z yL;have AN:=vh z yL;replace kq:∀j v,z.cells.toArray[j]? =some v->bN.cell? ⟨g2,kb+0*5+j,none⟩=some v:=λj v ah=>kq j v (by simpa using ah);have x':bN.cell? ⟨g2,kb+0*5+0,none⟩=some (.int .i64 (z.op:Nat)):=kq 0 _ rfl;have BY:bN.cell? ⟨g2,kb+0*5+1,none⟩=some (.int .i64 (z.a:Nat)):=kq 1 _ rfl;have FI:(z::q).length=q.length+1:=bl
     by_cases JC:z.op=13
     · by_cases kW:z.a=x.a
       · have O7:(z.a:Int)=(x.a:Int):=bj
         obtain⟨oq,iF,sx⟩:=Kp AN (.inr JC);have fI:=dv.trans (atM ⟨JC,kW⟩);have aqw:∀n,(bN.drewN n).cell? ⟨hi,0+1,none⟩=some (.int .i64 (x.a:Nat)):=λn=>Lu;revert a;(repeat first|refine ag ?_|refine J (dq (j:=0)) ?_|refine J (bJ kq) ?_|refine ck (λak ar=>dq (j:=0)) ?_|refine ck (λak ar=>ea ar Lu) ?_|refine ck (λak ar=>ea ar x') ?_|refine ck (λak ar=>ea ar BY) ?_|refine λ(_:Nat)=>?_);intros;rename_i g' a I;refine b6 I fK λa bQ cI cM fm I=>?_;refine cE I (cs:=z.cells.toArray) cI (jN z) λa bt c8 cf fZ I=>?_;have Nf:dd (bN.drewN _).heap.size z bt:=c8;have UA:dd hi x bt:=aD (aD (show(bN.drewN _).heap[hi]? =_ from rb) cM bl) cf (by have:=bO rb;simp;exact azG this);have aiF:=aD (aD (show(bN.drewN _).heap[w.heap.size]? =_ from ru) cM bl) cf (by have:=bO ru;simp;exact azG this);have bP:=(k'.trans (cP.below ⟨_,rfl⟩ _)).trans ((ca cM).mono k'.size);have b2:=bP.grown cf bP.size (λk au=>by cases au;exact k'.size);have wa:bt.cell? ⟨hi,0+1,none⟩=some (.int .i64 (x.a:Nat)):=aF UA rfl;have BX:bt.cell? ⟨hi,0+2,none⟩=some (.int .i64 (x.b:Nat)):=aF UA rfl;have adk:bt.cell? ⟨(bN.drewN g').heap.size,0+2,none⟩=some (.int .i64 (z.b:Nat)):=aF Nf rfl;have adl:bt.cell? ⟨(bN.drewN g').heap.size,0+3,none⟩=some (.int .i64 (z.n:Nat)):=aF Nf rfl;have adm:bt.cell? ⟨(bN.drewN g').heap.size,0+4,none⟩=some (.int .u64 (z.bK:Nat)):=aF Nf rfl;have CL:=Tt (bt.drewN 1) z.bK z.n Wz.bK oq iF;have OI:(((x::y::r).length:Nat):Int)- (((z::q).length:Nat):Int)+1=((r.length+2- (q.length+1)+1:Nat):Int):=by
           rw [Vp,FI];rw [FI]at CU;simp only [aue]at CU;omega
         revert a;(repeat first|(intro a I;(refine kI 9 29 mixed bh ?_;simp only [aul,auA,at5,aus]);revert a)|(intro a I;(refine DB I CL R9 ⟨rfl,rfl,trivial⟩ (k:=λa I=>?_));revert a)|refine ag ?_|refine b4 (n9 (m:=8) (n:=(z.b:Nat)) rfl rfl bj) ?_|refine b4 (cA (vs:=[(0,.bool true),(1,.int .i64 (x.a:Nat)),(2,.int .i64 (x.b:Nat)),(3,.int .i64 (8*(z.b:Nat)+ep))]) (cells:=#[.bool true,.int .i64 (x.a:Nat),.int .i64 (x.b:Nat),.int .i64 (8*(z.b:Nat)+ep)]) bh ⟨rfl,rfl,rfl,rfl,rfl,rfl,rfl,rfl,trivial⟩) ?_|refine b4 (cA (vs:=[(0,.agg #[.bool true,.int .i64 (x.a:Nat),.int .i64 (x.b:Nat),.int .i64 (8*(z.b:Nat)+ep)]),(1,.int .i64 (z.b:Nat)),(2,.int .i64 ((z.b:Nat)+(z.n:Nat):Int)),(3,.int .u64 (oz z.bK z.n:Nat)),(4,.int .i64 ((((x::y::r).length:Nat):Int)- (((z::q).length:Nat):Int)+1))]) (cells:=#[.bool true,.int .i64 (x.a:Nat),.int .i64 (x.b:Nat),.int .i64 (8*(z.b:Nat)+ep),.int .i64 (z.b:Nat),.int .i64 ((z.b:Nat)+(z.n:Nat):Int),.int .u64 (oz z.bK z.n:Nat),.int .i64 ((((x::y::r).length:Nat):Int)- (((z::q).length:Nat):Int)+1)]) bh ⟨rfl,rfl,rfl,rfl,rfl,rfl,rfl,rfl,rfl,rfl,trivial⟩) ?_|refine b4 (af wa) ?_|refine b4 (af BX) ?_|refine b4 (af adk) ?_|refine b4 (af adl) ?_|refine b4 (af adm) ?_);intro a I;refine dX I (cs:=(cQ.cells ⟨true,x.a,x.b,8*(z.b:Nat)+ep,z.b,z.b+z.n,oz z.bK z.n,r.length+2- (q.length+1)+1⟩).toArray) (aw _ _ rfl) rfl e4 (show(bt.drewN 1).heap[w.heap.size]? =_ from aiF) (lh _) rfl (by rw [cQ.cells,<-OI];rfl) (k:=λa dt dm cG hn I=>?_);revert a;refine ad λa I=>?_;exact h7 I rfl (agg _ rfl) (aw _ _ rfl) dm rfl rfl ⟨by unfold nX;rw [fI];rfl,aK (b2.trans (cP.below ⟨_,rfl⟩ _)) cG b2.size⟩
       · have O7:¬(z.a:Int)=(x.a:Int):=bj
         have fI:=dv.trans (atK (λh=>kW h.2));revert a;(repeat first|refine ag ?_|refine J (cA (vs:=[]) (cells:=jR.cells.toArray) bh trivial) ?_|refine ck (λak ar=>dq (j:=0)) ?_|refine ck (λak ar=>ea ar Lu) ?_|refine ck (λak ar=>ea ar x') ?_|refine ck (λak ar=>ea ar BY) ?_|refine λ(_:Nat)=>?_);intros;rename_i g' a I;refine dX I (cs:=jR.cells.toArray) (aw _ _ rfl) rfl e4 ru (lh _) (k:=λa dt dm cG hn I=>?_);revert a;refine ad λa I=>?_;exact h7 I rfl (agg _ rfl) (aw _ _ rfl) dm rfl rfl ⟨by unfold nX;rw [fI];rfl,aK (k'.trans (cP.below ⟨_,rfl⟩ _)) cG k'.size⟩
     · have fI:=dv.trans (atK (λh=>JC h.1));revert a;(repeat first|refine ag ?_|refine J (cA (vs:=[]) (cells:=jR.cells.toArray) bh trivial) ?_|refine ck (λak ar=>dq (j:=0)) ?_|refine ck (λak ar=>ea ar x') ?_|refine λ(_:Nat)=>?_);intros;rename_i g' a I;refine dX I (cs:=jR.cells.toArray) (aw _ _ rfl) rfl e4 ru (lh _) (k:=λa dt dm cG hn I=>?_);revert a;refine ad λa I=>?_;exact h7 I rfl (agg _ rfl) (aw _ _ rfl) dm rfl rfl ⟨by unfold nX;rw [fI];rfl,aK (k'.trans (cP.below ⟨_,rfl⟩ _)) cG k'.size⟩
 · by_cases mh:x.op=9/\y.op=8/\y.a=x.a
   · obtain⟨TS,afu,afv⟩:=mh;have aq5:(y.a:Int)=(x.a:Int):=bj
     have dv:hd (x::y::r)=GL x y r (r.length+2):=by rw [hd,atK ae,atM ⟨TS,afu,afv⟩]
     have aI:=IP.drop 2 cp kS;have Ay:=λz bA=>aW z (at0 _ (at0 _ bA));have vh:=λz bA=>aj z (at0 _ (at0 _ bA));have AF:=Zv (cm.drewN 1) r x.a Ay (cp:=cp - 2) aI (by simp at kS ⊢;omega);have CU:=Zt r x.a;obtain⟨OF,xd⟩:=Zs r x.a vh;have xe:=Zu r x.a;obtain⟨oq,iF,sx⟩:=Kp ah9 (.inl TS);unfold GL at dv;generalize ic r x.a=QA at*;obtain⟨ep,rest⟩:=QA;dsimp only at CU OF xd xe AF dv;revert a;(repeat first|(intro a I;(refine gJ (λak:World=>dd hi x ak) [(0,true),(1,true),(2,true),(3,true),(4,false),(5,true),(6,true),(7,true),(8,true),(9,true)] 11 mixed bh aL ?_;simp only [fF,atZ,at1,aug,atS,atO]);revert a)|refine ag ?_|refine J (af aL.op) ?_|refine J (af Cn.op) ?_|refine J (af Er) ?_|refine J (af c51) ?_);intro a I;revert a;(repeat first|refine e3 ?_|refine cB (λak ar=>r7 (aA _ _ rfl) (aw _ _ rfl) (i:=2)) ?_|refine cB (λak ar=>af (Cm ak ar)) ?_);intro a I;refine c7 ?_;refine aQ I AF λa v bN gF I=>?_;obtain⟨⟨ay,c5,rfl,Nb⟩,cx⟩:=gF;have rb:=dd.below (w:=cm.drewN 1) aL cx;have agf:=dd.below (w:=cm.drewN 1) Cn cx;have ru:=(cx.block _ (bO bA)).trans bA;have k':=Cv.trans (cx.mono Cv.size);refine atJ ⟨rfl,rb,?_⟩;revert a;refine hH λa I=>?_;refine fj ?_;have wa:bN.cell? ⟨hi,0+1,none⟩=some (.int .i64 (x.a:Nat)):=aF rb rfl;have BX:bN.cell? ⟨hi,0+2,none⟩=some (.int .i64 (x.b:Nat)):=aF rb rfl;have adn:bN.cell? ⟨hi,0+3,none⟩=some (.int .i64 (x.n:Nat)):=aF rb rfl;have ado:bN.cell? ⟨qj,0+4,none⟩=some (.int .u64 (y.bK:Nat)):=aF agf rfl;clear aL Cn bA hb Cv IP aI AF Er HF c51;cases rest with
     |nil=>
       have fI:hd (x::y::r)=none:=dv;revert a;(repeat first|refine ag ?_|refine J (cA (vs:=[]) (cells:=jR.cells.toArray) bh trivial) ?_|refine λ(_:Nat)=>?_);intros;rename_i g' a I;refine dX I (cs:=jR.cells.toArray) (aw _ _ rfl) rfl e4 ru (lh _) (k:=λa dt dm cG hn I=>?_);revert a;refine ad λa I=>?_;exact h7 I rfl (agg _ rfl) (aw _ _ rfl) dm rfl rfl ⟨by unfold nX;rw [fI];rfl,aK (k'.trans (cP.below ⟨_,rfl⟩ _)) cG k'.size⟩
     |cons z q=>
       obtain⟨g2,kb,rfl,kq⟩:=Nb 0 bl;have yL:=xe z bl;have Wz:=Ay z yL;have FI:(z::q).length=q.length+1:=bl
       replace kq:∀j v,z.cells.toArray[j]? =some v->bN.cell? ⟨g2,kb+0*5+j,none⟩=some v:=λj v ah=>kq j v (by simpa using ah);have x':bN.cell? ⟨g2,kb+0*5+0,none⟩=some (.int .i64 (z.op:Nat)):=kq 0 _ rfl;have BY:bN.cell? ⟨g2,kb+0*5+1,none⟩=some (.int .i64 (z.a:Nat)):=kq 1 _ rfl;have L0:bN.cell? ⟨g2,kb+0*5+2,none⟩=some (.int .i64 (z.b:Nat)):=kq 2 _ rfl;by_cases yK:z.op=4
       · by_cases sE:z.b=x.a
         · have aiH:(z.b:Int)=(x.a:Int):=bj
           by_cases kW:z.a=x.a
           · have O7:(z.a:Int)=(x.a:Int):=bj
             have fI:=dv.trans (atK (λh=>h.2.2 kW));revert a;(repeat first|refine ag ?_|refine J (cA (vs:=[]) (cells:=jR.cells.toArray) bh trivial) ?_|refine ck (λak ar=>dq (j:=0)) ?_|refine ck (λak ar=>ea ar wa) ?_|refine ck (λak ar=>ea ar x') ?_|refine ck (λak ar=>ea ar BY) ?_|refine ck (λak ar=>ea ar L0) ?_|refine λ(_:Nat)=>?_);intros;rename_i g' a I;refine dX I (cs:=jR.cells.toArray) (aw _ _ rfl) rfl e4 ru (lh _) (k:=λa dt dm cG hn I=>?_);revert a;refine ad λa I=>?_;exact h7 I rfl (agg _ rfl) (aw _ _ rfl) dm rfl rfl ⟨by unfold nX;rw [fI];rfl,aK (k'.trans (cP.below ⟨_,rfl⟩ _)) cG k'.size⟩
           · have O7:¬(z.a:Int)=(x.a:Int):=bj
             have fI:=dv.trans (atM ⟨yK,sE,kW⟩);have CL:=λak:World=>Tt ak y.bK x.n aO.bK oq iF;have OI:(((x::y::r).length:Nat):Int)- (((z::q).length:Nat):Int)+1=((r.length+2- (q.length+1)+1:Nat):Int):=by
              rw [Vp,FI];rw [FI]at CU;omega
             revert a;(repeat first|(intros;rename_i a I;(refine kI 14 31 mixed bh ?_;simp only [aul,auA,at5,aus]);revert a)|(intros;rename_i a I;(refine DB I (CL _) R9 ⟨rfl,rfl,trivial⟩ (k:=λa I=>?_));revert a)|refine ag ?_|refine b4 (dq (j:=0)) ?_|refine b4 (n9 (m:=8) (n:=(x.b:Nat)) rfl rfl bj) ?_|refine b4 (cA (vs:=[(0,.bool false),(1,.int .i64 (x.a:Nat)),(2,.int .i64 (z.a:Nat)),(3,.int .i64 (ep - 8*(x.b:Nat)))]) (cells:=#[.bool false,.int .i64 (x.a:Nat),.int .i64 (z.a:Nat),.int .i64 (ep - 8*(x.b:Nat))]) bh ⟨rfl,rfl,rfl,rfl,rfl,rfl,rfl,rfl,trivial⟩) ?_|refine b4 (cA (vs:=[(0,.agg #[.bool false,.int .i64 (x.a:Nat),.int .i64 (z.a:Nat),.int .i64 (ep - 8*(x.b:Nat))]),(1,.int .i64 (x.b:Nat)),(2,.int .i64 ((x.b:Nat)+(x.n:Nat):Int)),(3,.int .u64 (oz y.bK x.n:Nat)),(4,.int .i64 ((((x::y::r).length:Nat):Int)- (((z::q).length:Nat):Int)+1))]) (cells:=#[.bool false,.int .i64 (x.a:Nat),.int .i64 (z.a:Nat),.int .i64 (ep - 8*(x.b:Nat)),.int .i64 (x.b:Nat),.int .i64 ((x.b:Nat)+(x.n:Nat):Int),.int .u64 (oz y.bK x.n:Nat),.int .i64 ((((x::y::r).length:Nat):Int)- (((z::q).length:Nat):Int)+1)]) bh ⟨rfl,rfl,rfl,rfl,rfl,rfl,rfl,rfl,rfl,rfl,trivial⟩) ?_|refine b4 (af wa) ?_|refine b4 (af BX) ?_|refine b4 (af adn) ?_|refine b4 (af ado) ?_|refine b4 (af BY) ?_|refine ck (λak ar=>dq (j:=0)) ?_|refine ck (λak ar=>ea ar wa) ?_|refine ck (λak ar=>ea ar x') ?_|refine ck (λak ar=>ea ar BY) ?_|refine ck (λak ar=>ea ar L0) ?_|refine λ(_:Nat)=>?_);intros;rename_i g' a I;refine dX I (cs:=(cQ.cells ⟨false,x.a,z.a,ep - 8*(x.b:Nat),x.b,x.b+x.n,oz y.bK x.n,r.length+2- (q.length+1)+1⟩).toArray) (aw _ _ rfl) rfl e4 ru (lh _) rfl (by rw [cQ.cells,<-OI];rfl) (k:=λa dt dm cG hn I=>?_);revert a;refine ad λa I=>?_;exact h7 I rfl (agg _ rfl) (aw _ _ rfl) dm rfl rfl ⟨by unfold nX;rw [fI];rfl,aK ((k'.trans (cP.below ⟨_,rfl⟩ _)).trans (cP.below ⟨_,rfl⟩ _)) cG k'.size⟩
         · have aiH:¬(z.b:Int)=(x.a:Int):=bj
           have fI:=dv.trans (atK (λh=>sE h.2.1));revert a;(repeat first|refine ag ?_|refine J (cA (vs:=[]) (cells:=jR.cells.toArray) bh trivial) ?_|refine ck (λak ar=>dq (j:=0)) ?_|refine ck (λak ar=>ea ar wa) ?_|refine ck (λak ar=>ea ar x') ?_|refine ck (λak ar=>ea ar L0) ?_|refine λ(_:Nat)=>?_);intros;rename_i g' a I;refine dX I (cs:=jR.cells.toArray) (aw _ _ rfl) rfl e4 ru (lh _) (k:=λa dt dm cG hn I=>?_);revert a;refine ad λa I=>?_;exact h7 I rfl (agg _ rfl) (aw _ _ rfl) dm rfl rfl ⟨by unfold nX;rw [fI];rfl,aK (k'.trans (cP.below ⟨_,rfl⟩ _)) cG k'.size⟩
       · have fI:=dv.trans (atK (λh=>yK h.1));revert a;(repeat first|refine ag ?_|refine J (cA (vs:=[]) (cells:=jR.cells.toArray) bh trivial) ?_|refine ck (λak ar=>dq (j:=0)) ?_|refine ck (λak ar=>ea ar x') ?_|refine λ(_:Nat)=>?_);intros;rename_i g' a I;refine dX I (cs:=jR.cells.toArray) (aw _ _ rfl) rfl e4 ru (lh _) (k:=λa dt dm cG hn I=>?_);revert a;refine ad λa I=>?_;exact h7 I rfl (agg _ rfl) (aw _ _ rfl) dm rfl rfl ⟨by unfold nX;rw [fI];rfl,aK (k'.trans (cP.below ⟨_,rfl⟩ _)) cG k'.size⟩
   · have fI:hd (x::y::r)=none:=by rw [hd,atK ae,atK mh]
     have av:(x.op=2/\x.a=x.b)\/(x.op≠2/\x.op≠9)\/(x.op=9/\y.op≠8)\/(x.op=9/\y.op=8/\y.a≠x.a):=by
       by_cases bf:x.op=2
       · left;refine⟨bf,?_⟩;by_cases e:x.a=x.b
         · exact e
         · exact absurd ⟨bf,e⟩ ae
       · by_cases B4:x.op=9
         · by_cases wA:y.op=8
           · exact .inr (.inr (.inr ⟨B4,wA,λe=>mh ⟨B4,wA,e⟩⟩))
           · exact .inr (.inr (.inl ⟨B4,wA⟩))
         · exact .inr (.inl ⟨bf,B4⟩)
     rcases av with ⟨bw,bf⟩|⟨bw,bf⟩|⟨bw,bf⟩|⟨bw,bf,dj⟩
     all_goals
       revert a;(repeat first|refine ag ?_|refine J (cA (vs:=[]) (cells:=jR.cells.toArray) bh trivial) ?_|refine J (af aL.op) ?_|refine J (af Cn.op) ?_|refine J (af Er) ?_|refine J (af HF) ?_|refine J (af c51) ?_);intro a I;refine dX I (cs:=jR.cells.toArray) (aw _ _ rfl) rfl e4 bA (lh _) (k:=λa dt dm cG hn I=>?_);revert a;refine ad λa I=>?_;exact h7 I rfl (agg _ rfl) (aw _ _ rfl) dm rfl rfl ⟨by unfold nX;rw [fI];rfl,aK hb cG hb.size⟩
end
end Go.Proofs.YtnkjmbbddmgjiaaGreatDoor