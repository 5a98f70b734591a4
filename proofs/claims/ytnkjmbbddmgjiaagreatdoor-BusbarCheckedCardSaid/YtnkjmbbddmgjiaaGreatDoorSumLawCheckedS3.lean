import Derived.Test.YtnkjmbbddmgjiaaGreatDoorSumLawCheckedS2
set_option linter.constructorNameAsVariable false
set_option linter.unusedSimpArgs false
set_option linter.unusedVariables false
set_option maxRecDepth 1000000
set_option maxHeartbeats 400000000
namespace Go.Proofs.YtnkjmbbddmgjiaaGreatDoor
open Go.RowKit Go.Proofs.Tryz
variable {K:Nat->Option Nat}{v:Value}{D oP:DataW Unit}{x y:Operand}{ty e t' e' src dst:TypeId}{bx:Array Edge}{aq w w' cy:World}{R d:Nat}{xs:List Operand}{vs:List Value}{ats:Array TypeId}{ay:Option Addr}{cS ky:IntKind}{ds:TypeDesc}
section
open Go.Maps (Keyed IsMap)
open Go.WideMaps (KeyLaw)
open Go.MapKept Go.ChangeMaps
section
variable {P:Program} {w w':World} {l:List (Nat × Value)} {k e t:TypeId}
def xq(r:Nat):Lit:=.int .i64 (r:Nat)
def vu(v:Nat):DataW Unit:=.lit (.int .u64 (v:Nat))
theorem W2{r s:Nat}(h:r≠s):xq r≠xq s:=λe=>by
 unfold xq at e;injection e with _ e
 omega
def zy(K:Nat->Option Nat)(D:DataW Unit):Prop:=∀r:Nat,r<2^62->∀zd,D.atKey (xq r) zd=(K r).elim zd vu
def l5(P:Program)(k e:TypeId)(w:World)(q b:Nat)(K:Nat->Option Nat):Prop:=∃n D,n<=q/\w.ownsMap P k (plainElem P e) b n D/\zy K D
theorem l5.lt{q b:Nat}(h:l5 P k e w q b K):b<w.heap.size:=by
 obtain⟨n,D,_,h,_⟩:=h;exact h.lt
theorem l5.below{q b:Nat}(h:l5 P k e w q b K)(hb:Below w.heap.size w w'):l5 P k e w' q b K:=by
 have bu:=h.lt;obtain⟨n,D,U,⟨es,clock,aM,cc⟩,ae⟩:=h;exact⟨n,D,U,⟨es,clock,(hb.block b bu).trans aM,cc⟩,ae⟩
theorem l5.more{q eL b:Nat}(h:l5 P k e w q b K)(aZ:q<=eL):l5 P k e w eL b K:=by
 obtain⟨n,D,U,h⟩:=h;exact⟨n,D,bj,h⟩
theorem l5.new(w:World):l5 P k e (w.alloc (.map #[] 0)) 0 w.heap.size (λ_=>none):=⟨0,.map [],atI _,axt w P k _,λ_ _ _=>rfl⟩
theorem Q6{r:Nat}(h:r<2^62):(Lit.int .i64 (r:Nat)).wf=true:=by
 simp only [Lit.wf,atP,atQ];exact⟨by show(-9223372036854775808:Int)<=_;omega,by show(_:Int)<=9223372036854775807;omega⟩
theorem ap1{v:Nat}(h:v<2^64):(Lit.int .u64 (v:Nat)).wf=true:=by
 simp only [Lit.wf,atP,atQ];exact⟨by show(0:Int)<=_;omega,by show(_:Int)<=18446744073709551615;omega⟩
theorem zy.has(h:zy K D){r:Nat}(aj:r<2^62):Maps.has D (xq r)=(K r).isSome:=by
 cases au:K r with
 |none=>exact ayS λz=>by rw [h r aj z,au];rfl
 |some v=>exact ay5 (y:=vu v) λz=>by rw [h r aj z,au];rfl
theorem l5.look{q b:Nat}(h:l5 P k e w q b K)(bW:P.underlying t=some (.map k e))(au:P.underlying k=some (.int .i64))(he:P.underlying e=some (.int .u64))(bA:(zeroValue e).run P w=.ok (.int .u64 0) w){r:Nat}(aj:r<2^62):
  (Instr.lookup t (.map (some b)) (.int .i64 (r:Nat)) true).run P w=.ok (.tuple #[.int .u64 (((K r).getD 0:Nat):Int),.bool (K r).isSome]) w:=by
 obtain⟨n,D,_,bp,aI⟩:=h;obtain⟨v,aR,dr,ao⟩:=bp.look_ok (auq au) bW bA (azE he bk) (avN au (Q6 aj));obtain⟨c,rfl,av,_⟩:=ayF he ao;simp only [awS]at av;have U:=aI r aj (.lit (.int .u64 0));rw [dr,show Maps.has D (.int .i64 (r:Nat))=(K r).isSome from aI.has aj];rw [show D.atKey (.int .i64 (r:Nat)) (.lit (.int .u64 0))=_ from U]at av;cases cv:K r with
 |none=>rw [cv]at av;simp at av;rw [<-av.1];rfl
 |some u=>rw [cv]at av;simp [vu]at av;rw [<-av.1];rfl
theorem l5.put{q b:Nat}(h:l5 P k e w q b K)(aZ:q<maxLen)(bW:P.underlying t=some (.map k e))(au:P.underlying k=some (.int .i64))(he:P.underlying e=some (.int .u64)){r v:Nat}(aj:r<2^62)(ao:v<2^64):
   ∃w',(Instr.mapUpdate t (.map (some b)) (.int .i64 (r:Nat)) (.int .u64 (v:Nat))).run P w=.ok () w'/\l5 P k e w' (q+1) b (λs=>if s=r then some v else K s)/\w.grownBy w' (some b)/\w'.heap.size=w.heap.size:=by
 obtain⟨n,D,ba,bp,aI⟩:=h;have mQ:=avN au (Q6 aj);have cv:=auq (P:=P) au;obtain⟨w',dr,nD,lf⟩:=bp.store cv bW bj mQ (azE he (ap1 ao));refine⟨w',dr,⟨n+1,_,bj,nD,λs aG zd=>?_⟩,lf.grown,by obtain⟨_,_,_,_,_,rfl⟩:=lf;simp [Go.ChangeMaps.setBlock]⟩;dsimp only;by_cases bw:s=r
 · subst bw;rw [atM rfl];exact axb bp.isMap (cv.key mQ) _ _
 · rw [atK bw,<-aI s aG zd];exact aw0 (W2 bw) _ _
theorem l5.del{q b:Nat}(h:l5 P k e w q b K)(bW:P.underlying t=some (.map k e))(au:P.underlying k=some (.int .i64)){r:Nat}(aj:r<2^62)(ty:TypeId):
   ∃w',(Builtin.delete_ #[t,k] ty #[.map (some b),.int .i64 (r:Nat)]).run P w=.ok (.tuple #[]) w'/\l5 P k e w' q b (λs=>if s=r then none else K s)/\w.grownBy w' (some b)/\w'.heap.size=w.heap.size:=by
 obtain⟨n,D,ba,bp,aI⟩:=h;have mQ:=avN au (Q6 aj);have cv:=auq (P:=P) au;obtain⟨w',dr,nD,lf⟩:=bp.drop cv bW mQ ty;refine⟨w',dr,⟨n,_,ba,nD,λs aG zd=>?_⟩,lf.grown,by obtain⟨_,_,_,_,_,rfl⟩:=lf;simp [Go.ChangeMaps.setBlock]⟩;dsimp only;by_cases bw:s=r
 · subst bw;rw [atM rfl];exact Maps.atKey_del_same _
 · rw [atK bw,<-aI s aG zd];exact Maps.atKey_del_other (W2 bw) _
def akm:DataW Unit->DataW Unit->Bool
 | .lit (.int _ a),.lit (.int _ b)=>b != a
 |_,_=>true
def xC(oP:DataW Unit)(kl:Lit)(y:DataW Unit):Bool:=!Maps.has oP kl||akm (oP.atKey kl (.lit (.int .u64 0))) y
theorem zy.meet{uo:Nat->Option Nat}{b n:Nat}(aI:zy K D)(mP:zy uo oP)(bp:w.ownsMap P k (plainElem P e) b n D)(au:P.underlying k=some (.int .i64)):zy (λr=>if uo r=K r then K r else none) (Lib.deleteFuncD (xC oP) D):=by
 obtain⟨es,rfl,od,ahb⟩:=bp.entries (auq (P:=P) au);intro r aj zd;show(DataW.map (es.filter λp=>!xC oP p.1 p.2)).atKey (xq r) zd=(if uo r=K r then K r else none).elim zd vu;by_cases hm:∃d,(xq r,d)∈es
 · obtain⟨d,hm⟩:=hm;have hP:=ahb _ hm;have lL:=λz=>(aI r aj z).symm.trans (axX z hP od hm);cases cv:K r with
   |none=>
    have U:=lL .nil;have ae:=lL (vu 0);rw [cv]at U ae;have aM:DataW.nil=vu 0:=U.trans ae.symm;cases aM
   |some v=>
    have agK:d=vu v:=by have:=lL .nil;rw [cv]at this;exact this.symm
    subst agK;have yF:xC oP (xq r) (vu v)= !decide (uo r=some v):=by
      unfold xC;rw [mP.has aj,mP r aj];cases ae:uo r with
      |none=>rfl
      |some u=>
       show(!true||((v:Nat):Int) != ((u:Nat):Int))=_;by_cases e:u=v
       · subst e;simp
       · have bf:¬v=u:=λh=>e h.symm;simp [e];omega
    by_cases ae:uo r=some v
    · rw [atM ae];exact axX (d:=vu v) zd hP (od.filter _) (azi.2 ⟨hm,by dsimp only;rw [yF,aur ae];rfl⟩)
    · rw [atK ae];refine ayG zd λp aW e=>?_;obtain⟨w7,w8⟩:=azi.1 aW;have ahT:p.2=vu v:=by
       have aM:(xq r,p.2)∈es:=by rw [<-e];exact w7
       exact(axX .nil hP od aM).symm.trans (axX .nil hP od hm)
      rw [e,ahT,yF,auk ae]at w8;cases w8
 · have cv:K r=none:=by
    cases cv:K r with
    |none=>rfl
    |some v=>
      have U:=aI r aj .nil;rw [ayG .nil (λp aW e=>hm ⟨p.2,by rw [<-e];exact aW⟩),cv]at U;cases U
   rw [cv];have:(if uo r=none then none else none:Option Nat)=none:=by split<;>rfl
   rw [this];exact ayG zd λp aW e=>hm ⟨p.2,by rw [<-e];exact(azi.1 aW).1⟩
theorem ZP{ops:Array Oper}{Q:Exit->Act->World->Prop}{a:Act}{rest:List Oper}{N:Nat}(h:Fr N l a){m:Operand}{hU key:Value}{pos:String}{bx:Array Edge}(aj:(Builtin.delete_ #[t,k] ty #[hU,key]).run P w=.ok (.tuple #[]) aq)(hm:a7 l m hU:=by exact rfl)(hx:a7 l x key:=by exact rfl)(jO:∀aU,Fr N l aU->wpList P ops Q rest aU aq):wpList P ops Q (⟨none,.call { callee:=.builtin .delete,args:=#[m,x],argTypes:=#[t,k] },ty,pos,bx,none⟩::rest) a w:=
 axc rfl λK cv=>by
  unfold Oper.wp;simp [execOp,resolve,invoke,builtin,h.eval _ _ hm,h.eval _ _ hx,aj,Result.andThen];exact cv _ _ (jO _ (h.YI _))
end
end
end Go.Proofs.YtnkjmbbddmgjiaaGreatDoor
namespace Go.Proofs
open Go.RowKit
section
open Go.Shelf
def Tryz.akU:Go.Shelf.Ren:=⟨λ| 5=>218 | 7=>249 |n=>n,λ| 20=>20 | 23=>276 | 25=>3 | 3=>34 |n=>n,λ|n=>n⟩
theorem Tryz.akT:Go.Proofs.SlLaysW.n5 Tryz.prog Tryz.akU:={
 mixed:=bh
 f5:=⟨Tryz.f218.name,bk,Tryz.func218.trans (atW some bh)⟩
 f7:=Tryz.func249.trans (atW some bh)
 t4:=aut
 a4:=avi
 z4:=ave
 v4:=auz
 t20:=awV
 a20:=ayq
 z20:=ax3
 v20:=aw9
 t23:=awk
 a23:=Tryz.isAgg276
 z23:=Tryz.sizeOf276
 v23:=Tryz.zeroValue276 }
def Tryz.akY:Go.Shelf.Ren:=⟨λ| 5=>220 |n=>n,λ| 23=>276 | 26=>3 | 24=>34 | 27=>341 |n=>n,λ|n=>n⟩
theorem Tryz.akX:Go.Proofs.SlLaysDf.n5 Tryz.prog Tryz.akY:={
 mixed:=bh
 f5:=⟨Tryz.f220.name,bk,Tryz.func220.trans (atW some bh)⟩
 t0:=avk
 a0:=av8
 z0:=avY
 v0:=avu
 t4:=aut
 a4:=avi
 z4:=ave
 v4:=auz
 t23:=awk
 a23:=Tryz.isAgg276
 z23:=Tryz.sizeOf276
 v23:=Tryz.zeroValue276
 a24:=awh
 z24:=av3
 a26:=avz
 z26:=avr
 t27:=Tryz.underlying341
 a27:=Tryz.isAgg341
 z27:=Tryz.sizeOf341
 v27:=Tryz.zeroValue341 }
def Tryz.aiN:Go.Shelf.Ren:=⟨λ| 41=>31 |n=>n,λ| 22=>25 | 23=>66 | 4=>4 |n=>n,λ|n=>n⟩
theorem Tryz.WC:Go.Proofs.SlLaysE0.n41 Tryz.prog Tryz.aiN:={
 mixed:=bh
 f41:=⟨Tryz.f31.name,bk,Tryz.func31.trans (atW some bh)⟩
 t4:=aut
 a4:=avi
 z4:=ave
 v4:=auz
 t22:=Tryz.underlying25
 a22:=Tryz.isAgg25
 z22:=Tryz.sizeOf25
 v22:=Tryz.zeroValue25 }
end
end Go.Proofs
namespace Go.Proofs.YtnkjmbbddmgjiaaGreatDoor
open Go.RowKit Go.Proofs.Tryz
variable {K:Nat->Option Nat}{v:Value}{D oP:DataW Unit}{x y:Operand}{ty e t' e' src dst:TypeId}{bx:Array Edge}{aq w w' cy:World}{R d:Nat}{xs:List Operand}{vs:List Value}{ats:Array TypeId}{ay:Option Addr}{cS ky:IntKind}{ds:TypeDesc}
section
attribute [local irreducible] wpList wpQuiet wpStill Code.wp Exit.then Exit.inBlock bodyPost Calls bL eT
def jr(w:World)(q b:Nat)(K:Nat->Option Nat):Prop:=l5 prog 3 34 w q b K
theorem XJ(w:World){q b:Nat}(h:jr w q b K):bd prog 218 [.map (some b)].toArray w (λv w'=>v=.map (some w.heap.size)/\jr w' q w.heap.size K/\Below w.heap.size w w'):=by
 obtain⟨n,D,ba,bp,aI⟩:=h;refine auC (AnyW.maps_Clone_owns Tryz.akT 3 (plainElem prog 34) b n D w bp) ?_;rintro e w' ⟨he,U,ae,aM⟩;exact⟨_,he,rfl,⟨n,D,ba,U,aI⟩,aM⟩
theorem W5:Go.Maps.Keyed prog 3:=auq atX
theorem akS(W:World){dJ hM e1:Nat}(bp:W.ownsMap prog 3 (plainElem prog 34) hM e1 oP)(hx:W.cell? ⟨dJ,0,none⟩=some (.map (some hM))){x c:Int}(mQ:keyOf prog 3 (.int .i64 x)=some (.int .i64 x)):
  bd prog 221 [.int .i64 x,.int .u64 c,.pointer (some ⟨dJ,0,none⟩)].toArray W (λv w'=>v=.bool (xC oP (.int .i64 x) (.lit (.int .u64 c)))/\w'=W):=by
 obtain⟨v,aR,dr,ao⟩:=bp.look_ok W5 awk (avw W) (azE auM bk) mQ;obtain⟨c2,rfl,kq,_⟩:=ayF auM ao;simp only [awS]at kq;have yF:xC oP (.int .i64 x) (.lit (.int .u64 c))=(!Maps.has oP (.int .i64 x)||(c != c2)):=by unfold xC;rw [kq.1];rfl
 rw [yF];generalize Maps.has oP (.int .i64 x)=hb at dr;refine mf func221 rfl 18 rfl 21 rfl (λa I=>?_);cases hb with
 |false=>
  revert a;(repeat first|refine ag ?_|refine J (hN dr) ?_|refine J (af hx) ?_);intro a I;exact bc I rfl rfl ⟨rfl,rfl⟩
 |true=>
  by_cases he:c=c2
  · revert a;(repeat first|refine ag ?_|refine J (hN dr) ?_|refine J (af hx) ?_);intro a I;exact bc I rfl rfl ⟨by simp [he],rfl⟩
  · revert a;(repeat first|refine ag ?_|refine J (hN dr) ?_|refine J (af hx) ?_);intro a I;exact bc I rfl rfl ⟨by simp [he],rfl⟩
structure Ins where
 op:Nat
 a:Nat
 b:Nat
 n:Nat
 bK:Nat
 deriving DecidableEq
def eQ(op:Nat):Ins:=⟨op,0,0,0,0⟩
def jn(v:Nat):List Nat:=if h:v<128 then [v]else(v%128+128)::jn (v/128)
 termination_by v
 decreasing_by omega
theorem DH{v:Nat}(h:v<128):jn v=[v]:=by rw [jn,azK h]
theorem GY{v:Nat}(h:¬v<128):jn v=(v%128+128)::jn (v/128):=by rw [jn,dif_neg h]
def qk(c:Nat):Nat:=if c=0 then 0 else Nat.log2 c+1
def vH(c s:Nat):Prop:=63<s\/64<qk (c%128)+s\/(s=63/\127<c)\/(c=0/\0<s)
instance (c s:Nat):Decidable (vH c s):=by unfold vH;infer_instance
def jm:List Nat->Nat->Option (Nat × List Nat)
 | [],_=>none
 |c::r,s=>if vH c s then none else if c<128 then some (c,r)else(jm r (s+7)).map λp=>(c%128+128*p.1,p.2)
theorem Ep{c s:Nat}(aG:s<=64):¬64<qk c+s↔c*2^s<2^64:=by
 unfold qk;split
 · subst_vars;simp;omega
 · rename_i h;have:c*2^s<2^64↔c<2^(64- s):=by
    have e:2^64=2^(64- s)*2^s:=by rw [<-avZ];congr 1;omega
    rw [e,Nat.mul_lt_mul_right (avL s)]
   rw [this,<-Nat.log2_lt h];omega
theorem DF:∀(aa:List Nat) (s v:Nat) (r:List Nat),(∀x∈aa,x<256)->jm aa s=some (v,r)->aa=jn v++r/\v*2^s<2^64/\(0<s->0<v)
 | [],_,_,_,_,h=>by cases h
 |c::aa,s,v,r,aH,h=>by
  unfold jm at h;split at h
  · cases h
  rename_i hb;unfold vH at hb;have U:s<=63:=bj
  have ae:=(Ep (c:=c%128) (s:=s) bj).1 (λh=>hb (.inr (.inl h)));have cc:c=0->¬0<s:=λe aJ=>hb (.inr (.inr (.inr ⟨e,aJ⟩)));have arq:=aH c auy;split at h
  · rename_i av;cases h
    rw [DH av];rw [auU av]at ae;exact⟨rfl,ae,λaJ=>by omega⟩
  · rename_i av;have asn:¬s=63:=λe=>hb (.inr (.inr (.inl ⟨e,bj⟩)));cases aI:jm aa (s+7)with
    |none=>rw [aI]at h;cases h
    |some p=>
     obtain⟨u,nP⟩:=p;rw [aI]at h;cases h
     obtain⟨e,hu,aW⟩:=DF aa (s+7) u _ (λx hx=>aH x (at0 _ hx)) aI;have aW:=aW bj;refine⟨?_,?_,λ_=>by show 0<c%128+128*u;omega⟩
     · rw [GY (by show ¬c%128+128*u<128;omega)];dsimp only;rw [show(c%128+128*u)%128+128=c by omega,show(c%128+128*u)/128=u by omega,e];rfl
     · dsimp only;have pt:u*2^(s+7)=128*u*2^s:=by rw [avZ,avq (2^s)];rw [<-azF,avq u]
       rw [pt]at hu;rw [av7];have hm:128*u*2^s+128*2^s<=2^64:=by
        have S5:(2:Nat)^64=2^(64- (s+7))*2^(s+7):=by
         rw [<-avZ];congr 1;by_cases jc:s+7<=64
         · omega
         · exfalso;have:(1:Nat)*2^(s+7)<=u*2^(s+7):=avy _ aW;have aq2:(2:Nat)^65<=2^(s+7):=aum bj bj;rw [<-pt]at hu;omega
        rw [<-pt,S5,show 128*2^s=1*2^(s+7) by rw [avZ];omega,<-av7];refine avy _ ?_;rw [<-pt,S5]at hu;have:=ayc hu;omega
       have:c%128*2^s<128*2^s:=avM bj (avL s);omega
theorem aod:∀(v:Nat) (s:Nat) (r:List Nat),s<=63->v*2^s<2^64->(0<s->0<v)->(s=63->v<2)->jm (jn v++r) s=some (v,r):=by
 intro v;induction v using Nat.strongRecOn with
 |_ v df=>
  intro s r aG ao aJ yj;by_cases av:v<128
  · rw [DH av];show(if vH v s then none else _)=_;rw [atK,atM av]
    · rfl
    rintro (h|h|h|h)
    · omega
    · rw [auU av]at h;exact(Ep bj).2 ao h
    · omega
    · have:=aJ h.2;omega
  · rw [GY av];have pt:v/128*2^(s+7)=128*(v/128)*2^s:=by rw [avZ,avq (2^s)];rw [<-azF,avq (v/128)]
    have hle:128*(v/128)*2^s<=v*2^s:=avy _ bj;have asm:s<=56:=by
      refine aw7 λh=>?_;have U:(128:Nat)*2^s<=v*2^s:=avy _ bj;have ae:(2:Nat)^57<=2^s:=aum bj h;omega
    show(if vH (v%128+128) s then none else _)=_;have hm:(v%128+128)%128=v%128:=bj
    rw [atK,atK bj]
    · rw [show((jn (v/128)).append r)=jn (v/128)++r from rfl];have:=df (v/128) bj (s+7) r bj bj (λ_=>by omega) (λe=>by
        obtain rfl:s=56:=Nat.add_right_cancel (m:=7) e;have bu:v/128*2^(56+7) <2*2^(56+7):=by
         rw [pt];exact avB hle (auj ao bk)
        exact ayc bu)
      rw [this];show some ((v%128+128)%128+128*(v/128),r)=_;rw [hm,Nat.mod_add_div]
    · rintro (h|h|h|h)
      · omega
      · rw [hm]at h;refine(Ep bj).2 ?_ h;exact avB (avy _ (Nat.mod_le _ _)) ao
      · omega
      · omega
theorem Qy{v:Nat}(h:v<2^64)(r:List Nat):jm (jn v++r) 0=some (v,r):=aod v 0 r bj bj (λh=>absurd h (ax2 _)) bj
theorem DG:∀v:Nat,∀x∈jn v,x<256:=by
 intro v;induction v using Nat.strongRecOn with
 |_ v df=>
  intro x hx;by_cases av:v<128
  · rw [DH av]at hx;simp at hx;omega
  · rw [GY av]at hx;rcases au1.1 hx with rfl|h
    · omega
    · exact df _ bj x h
inductive Rg where
 |a
 |b
 |n
def Ins.get(x:Ins):Rg->Nat
 | .a=>x.a
 | .b=>x.b
 | .n=>x.n
def Ins.put(x:Ins)(v:Nat):Rg->Ins
 | .a=>{ x with a:=v }
 | .b=>{ x with b:=v }
 | .n=>{ x with n:=v }
inductive Fd where
 |sm (r:Rg) (bq ai:Nat)
 |skip
 |bytes
 |num
 |sign
def okF(x:Ins):Fd->Bool
 | .sm r bq ai=>decide (bq<=x.get r/\x.get r<=ai)
 | .skip=>decide (x.n<=16384)
 | .bytes=>decide (1<=x.n/\x.n<=8/\x.b+x.n<=8)
 | .num=>true
 | .sign=>decide (x.bK<=1)
def ns(x:Ins):Fd->List Nat
 | .sm r _ _=>[x.get r%256]
 | .skip=>jn x.n
 | .bytes=>[x.n%256]
 | .num=>jn x.bK
 | .sign=>jn x.bK
def iq(x:Ins)(aa:List Nat):Fd->Option (Ins × List Nat)
 | .sm r _ _=>match aa with| []=>none|c::q=>some (x.put c r,q)
 | .skip=>(jm aa 0).map λp=>({ x with n:=min p.1 16385 },p.2)
 | .bytes=>match aa with| []=>none|c::q=>some ({ x with n:=c },q)
 | .num=>(jm aa 0).map λp=>({ x with bK:=p.1 },p.2)
 | .sign=>(jm aa 0).map λp=>({ x with bK:=p.1 },p.2)
def fX:Fd:=.sm .a 0 15
def tY:Fd:=.sm .b 0 15
def zh:Fd:=.sm .b 0 63
def mV:List Fd:=[fX,.sm .b 0 7,.bytes]
def ir:Nat->Option (List Fd)
 | 0=>some []
 | 1=>some [fX,.num]
 | 2=>some [fX,tY]
 | 3=>some [fX,tY]
 | 4=>some [fX,tY]
 | 5=>some [fX,tY]
 | 6=>some [fX,.sm .n 0 63]
 | 7=>some [fX,.sm .n 0 63]
 | 8=>some [fX,.num]
 | 9=>some mV
 | 10=>some mV
 | 11=>some mV
 | 12=>some mV
 | 13=>some (mV++ [.num])
 | 14=>some [fX,.sm .n 1 64]
 | 15=>some [fX,zh]
 | 16=>some [fX,zh]
 | 17=>some [fX,zh,.sm .n 1 64,.sign]
 | 18=>some [.skip]
 | 19=>some [fX,.skip,.num]
 |_=>none
def h3(x:Ins)(a8:List Fd):List Nat:=a8.flatMap (ns x)
def k6:Ins->List Nat->List Fd->Option (Ins × List Nat)
 |x,aa,[]=>some (x,aa)
 |x,aa,f::a8=>match iq x aa f with|none=>none|some (y,r)=>k6 y r a8
def hc(x:Ins)(a8:List Fd):Bool:=a8.all (okF x)
def dW(x:Ins):Bool:=match ir x.op with
 |none=>false
 |some a8=>hc x a8&&match k6 (eQ x.op) (h3 x a8) a8 with|none=>false|some (y,_)=>decide (y=x)
def encI(x:Ins):List Nat:=x.op::match ir x.op with|none=>[]|some a8=>h3 x a8
def r8:List Nat->Option (Ins × List Nat)
 | []=>none
 |op::aa=>match ir op with
  |none=>none
  |some a8=>match k6 (eQ op) aa a8 with
   |none=>none
   |some (x,r)=>if dW x=true then some (x,r)else none
def kM(p:List Ins):List Nat:=p.flatMap encI
def j2:Nat->List Nat->Option (List Ins)
 |_,[]=>some []
 | 0,_::_=>none
 |k+1,c::aa=>match r8 (c::aa)with
  |none=>none
  |some (x,r)=>(j2 k r).map λp=>x::p
def zn:Fd->Nat
 | .sm .a _ _=>0
 | .sm .b _ _=>1
 | .sm .n _ _=>2
 | .skip=>2
 | .bytes=>2
 | .num=>3
 | .sign=>3
def zM(x z:Ins):Fd->Ins
 | .sm r _ _=>z.put (x.get r) r
 | .skip=>{ z with n:=x.n }
 | .bytes=>{ z with n:=x.n }
 | .num=>{ z with bK:=x.bK }
 | .sign=>{ z with bK:=x.bK }
def DM:Fd->Bool
 | .sm _ _ ai=>decide (ai<256)
 |_=>true
theorem B'{op:Nat}{a8:List Fd}(h:ir op=some a8):(a8.map zn).Nodup/\a8.all DM=true:=by
 unfold ir at h;split at h<;>first|(cases h;exact⟨bk,bk⟩)|cases h
theorem SS{x y:Ins}{aa r:List Nat}{f:Fd}(h:iq x aa f=some (y,r)):y.op=x.op/\∀g,zn g≠zn f->ns y g=ns x g:=by
 cases f with
 |sm q bq ai=>
  cases aa with
  |nil=>cases h
  |cons c aa=>
   cases h
   refine⟨by cases q<;>rfl,λg az=>?_⟩;cases q<;>cases g with
   |sm eL _ _=>cases eL<;>first|rfl|exact absurd rfl az
   |_=>first|rfl|exact absurd rfl az
 |bytes=>
  cases aa with
  |nil=>cases h
  |cons c aa=>
   cases h
   refine⟨rfl,λg az=>?_⟩;cases g with
   |sm eL _ _=>cases eL<;>first|rfl|exact absurd rfl az
   |_=>first|rfl|exact absurd rfl az
 |skip|num|sign=>
  unfold iq at h;dsimp only at h;cases aI:jm aa 0 with
  |none=>rw [aI]at h;cases h
  |some p=>
   rw [aI]at h;cases h
   refine⟨rfl,λg az=>?_⟩;cases g with
   |sm eL _ _=>cases eL<;>first|rfl|exact absurd rfl az
   |_=>first|rfl|exact absurd rfl az
theorem adU{x y:Ins}{aa r:List Nat}{f:Fd}(aH:∀c∈aa,c<256)(h:iq x aa f=some (y,r))(d':f=.skip->y.n<=16384):aa=ns y f++r/\(x.bK<2^64->y.bK<2^64):=by
 cases f with
 |sm q bq ai=>
  cases aa with
  |nil=>cases h
  |cons c aa=>
   cases h
   have:=aH c auy;cases q<;>exact⟨by show c::r=[c%256]++r;rw [auU this];rfl,λh=>h⟩
 |bytes=>
  cases aa with
  |nil=>cases h
  |cons c aa=>
   cases h
   have:=aH c auy;exact⟨by show c::r=[c%256]++r;rw [auU this];rfl,λh=>h⟩
 |skip|num|sign=>
  unfold iq at h;dsimp only at h;cases aI:jm aa 0 with
  |none=>rw [aI]at h;cases h
  |some p=>
   obtain⟨v,nP⟩:=p;rw [aI]at h;cases h
   obtain⟨bw,bf,_⟩:=DF _ _ _ _ aH aI;first
   | (have ao:v<=16384:=by have:=d' rfl;dsimp only at this;omega
      refine⟨?_,λh=>h⟩;rw [bw];show _=jn (min v 16385)++nP;rw [awv bj])
   |exact⟨bw,λ_=>by show v<_;omega⟩
theorem SU:∀(a8:List Fd) (x y:Ins) (aa r:List Nat),(a8.map zn).Nodup->(∀c∈aa,c<256)->k6 x aa a8=some (y,r)->hc y a8=true->
  aa=h3 y a8++r/\y.op=x.op/\(x.bK<2^64->y.bK<2^64)/\(∀g,zn g ∉ a8.map zn->ns y g=ns x g)/\∀g∈a8,zn g∈a8.map zn
 | [],x,y,aa,r,_,_,h,_=>by cases h;exact⟨rfl,rfl,λh=>h,λ_ _=>rfl,λg az=>by cases az⟩
 |f::a8,x,y,aa,r,ba,aH,h,d'=>by
  unfold k6 at h;cases aI:iq x aa f with
  |none=>rw [aI]at h;cases h
  |some p=>
   obtain⟨z,q⟩:=p;rw [aI]at h;dsimp only at h;obtain⟨jL,rn⟩:=ax7.1 ba;have VC:okF y f=true/\hc y a8=true:=by simpa [hc]using d'
   obtain⟨dL,z2⟩:=SS aI;have aZ:∀c∈q,c<256:=by
     have:∃l,aa=l++q:=by
      cases f with
      |sm a _ _=>cases aa with
       |nil=>cases aI
       |cons c aa=>cases aI;exact⟨[c],rfl⟩
      |bytes=>cases aa with
       |nil=>cases aI
       |cons c aa=>cases aI;exact⟨[c],rfl⟩
      |skip|num|sign=>
       unfold iq at aI;dsimp only at aI;cases aG:jm aa 0 with
       |none=>rw [aG]at aI;cases aI
       |some p=>rw [aG]at aI;cases aI;exact⟨_,(DF _ _ _ _ aH aG).1⟩
     obtain⟨l,rfl⟩:=this;exact λc av=>aH c (avt _ av)
   obtain⟨bw,bf,dj,fl,_⟩:=SU a8 z y q r rn aZ h VC.2;have uH:=fl f jL;have Ww:f=.skip->z.n<=16384:=by
     rintro rfl;have U:jn y.n=jn z.n:=uH;have ae:=VC.1;simp only [okF,atQ]at ae;have e:y.n=z.n:=by
      have e6:∀v:Nat,v<2^64->jm (jn v) 0=some (v,[]):=λv ao=>by simpa using Qy ao []
      have bA:z.n<=16385:=by
       unfold iq at aI;dsimp only at aI;cases aG:jm aa 0 with
       |none=>rw [aG]at aI;cases aI
       |some p=>rw [aG]at aI;cases aI;exact axW _ _
      have a2:=e6 y.n bj;rw [U,e6 z.n bj]at a2;exact(aw' (aud a2)).1.symm
     omega
   obtain⟨d1,d2⟩:=adU aH aI Ww;refine⟨?_,bf.trans dL,λh=>dj (d2 h),λg az=>?_,λg az=>List.mem_map_of_mem az⟩
   · rw [d1,bw,<-uH];simp [h3]
   · simp only [axl,au1,not_or]at az;rw [fl g az.2,z2 g az.1]
theorem adX{x z:Ins}{r:List Nat}{f:Fd}(h:okF x f=true)(aG:DM f=true)(ai:x.bK<2^64):iq z (ns x f++r) f=some (zM x z f,r):=by
 cases f with
 |sm q bq h4=>
  simp only [okF,atQ]at h;simp only [DM,atQ]at aG;show some (z.put (x.get q%256) q,r)=_;rw [auU bj];rfl
 |bytes=>
  simp only [okF,atQ]at h;show some ({ z with n:=x.n%256 },r)=_;rw [auU bj];rfl
 |skip=>
  simp only [okF,atQ]at h;show(jm (jn x.n++r) 0).map _=_;rw [Qy bj];show some ({ z with n:=min x.n 16385 },r)=_;rw [awv bj];rfl
 |num|sign=>
  show(jm (jn x.bK++r) 0).map _=_;rw [Qy ai];rfl
theorem B3{x:Ins}{r:List Nat}(ai:x.bK<2^64):∀(a8:List Fd) (z:Ins),hc x a8=true->a8.all DM=true->k6 z (h3 x a8++r) a8=some (a8.foldl (zM x) z,r)
 | [],z,_,_=>rfl
 |f::a8,z,h,aG=>by
  have e9:okF x f=true/\hc x a8=true:=by simpa [hc]using h
  have CS:DM f=true/\a8.all DM=true:=by simpa using aG
  have e:h3 x (f::a8)++r=ns x f++(h3 x a8++r):=by simp [h3]
  rw [e];unfold k6;rw [adX e9.1 CS.1 ai];exact B3 ai a8 _ e9.2 CS.2
theorem sM{x:Ins}(ai:x.bK<2^64):dW x=true↔∃a8,ir x.op=some a8/\hc x a8=true/\a8.foldl (zM x) (eQ x.op)=x:=by
 unfold dW;cases bC:ir x.op with
 |none=>simp
 |some a8=>
  dsimp only;constructor
  · intro h;simp only [atP]at h;have e:=B3 (r:=[]) ai a8 (eQ x.op) h.1 (B' bC).2;rw [avC]at e;rw [e]at h;exact⟨a8,rfl,h.1,auo h.2⟩
  · rintro ⟨TA,U,ae,aM⟩;cases U
    have e:=B3 (r:=[]) ai a8 (eQ x.op) ae (B' bC).2;rw [avC]at e;rw [e,ae];simp [aM]
theorem adY{aa r:List Nat}{x:Ins}(aH:∀c∈aa,c<256)(h:r8 aa=some (x,r)):aa=encI x++r/\dW x=true/\x.bK<2^64:=by
 cases aa with
 |nil=>cases h
 |cons op aa=>
  unfold r8 at h;dsimp only at h;cases bC:ir op with
  |none=>rw [bC]at h;cases h
  |some a8=>
   rw [bC]at h;dsimp only at h;cases aI:k6 (eQ op) aa a8 with
   |none=>rw [aI]at h;cases h
   |some p=>
    obtain⟨y,q⟩:=p;rw [aI]at h;dsimp only at h;split at h
    · rename_i aj;cases h
      have Jn:=aj;unfold dW at Jn;have ft:x.op=op:=by
       have:∀(a8:List Fd) (z y:Ins) (aa r:List Nat),k6 z aa a8=some (y,r)->y.op=z.op:=by
        intro a8;induction a8 with
        |nil=>intro z y aa r h;cases h;rfl
        |cons f a8 df=>
         intro z y aa r h;unfold k6 at h;cases U:iq z aa f with
         |none=>rw [U]at h;cases h
         |some p=>rw [U]at h;exact(df _ _ _ _ h).trans (SS U).1
       exact this _ _ _ _ _ aI
      rw [ft,bC]at Jn;simp only [atP]at Jn;obtain⟨bw,_,dj,_⟩:=SU a8 _ _ _ _ (B' bC).1 (λc av=>aH c (at0 _ av)) aI Jn.1;refine⟨?_,aj,dj (by show(0:Nat) <2^64;decide)⟩;unfold encI;rw [ft,bC,bw];rfl
    · cases h
theorem aeg{x:Ins}(h:dW x=true)(ai:x.bK<2^64)(r:List Nat):r8 (encI x++r)=some (x,r):=by
 obtain⟨a8,U,ae,aM⟩:=(sM ai).1 h;unfold encI;rw [U];show r8 (x.op::(h3 x a8++r))=_;unfold r8;dsimp only;rw [U];dsimp only;rw [B3 ai a8 _ ae (B' U).2,aM];dsimp only;rw [atM h]
theorem SW:∀(k:Nat) (aa:List Nat) (p:List Ins),(∀c∈aa,c<256)->j2 k aa=some p->kM p=aa/\p.length<=k/\∀x∈p,dW x=true/\x.bK<2^64
 |_,[],p,_,h=>by unfold j2 at h;cases h;exact⟨rfl,auc _,λx hx=>by cases hx⟩
 | 0,_::_,_,_,h=>by cases h
 |k+1,c::aa,p,aH,h=>by
  unfold j2 at h;cases aI:r8 (c::aa)with
  |none=>rw [aI]at h;cases h
  |some q=>
   obtain⟨x,r⟩:=q;rw [aI]at h;dsimp only at h;obtain⟨bw,bf,dj⟩:=adY aH aI;cases aW:j2 k r with
   |none=>rw [aW]at h;cases h
   |some l=>
    rw [aW]at h;cases h
    obtain⟨f1,f2,f3⟩:=SW k r l (λc av=>aH c (by rw [bw];exact avt _ av)) aW;refine⟨?_,bm,λy aO=>?_⟩
    · show encI x++kM l=_;rw [f1,bw]
    · rcases au1.1 aO with rfl|h
      · exact⟨bf,dj⟩
      · exact f3 y h
theorem Tb:∀(p:List Ins) (k:Nat),p.length<=k->(∀x∈p,dW x=true/\x.bK<2^64)->j2 k (kM p)=some p
 | [],k,_,_=>by unfold j2;cases k<;>rfl
 |x::p,0,h,_=>by simp at h
 |x::p,k+1,h,aj=>by
  have hx:=aj x auy;have e:kM (x::p)=encI x++kM p:=rfl;have aI:=aeg hx.1 hx.2 (kM p);rw [e];unfold encI at aI ⊢;show j2 (k+1) (x.op::_)=_;unfold j2;show(match r8 (x.op::_)with|none=>none|some (x,r)=>(j2 k r).map λp=>x::p)=_
  erw [aI]
  dsimp only;rw [Tb p k (by simp at h;omega) λy aO=>aj y (at0 _ aO)];rfl
end
def kD(P:Program)(v:Value)(args:List Value)(w:World)(R:Value->World->Prop):Prop:=∃f a8 cs,v=.func (.func f) a8 cs/\dc P f/\bd P f (a8++args.toArray++cs) w R
theorem kD.mono{P:Program}{args:List Value}{R R':Value->World->Prop}(h:kD P v args w R)(aj:∀v w',R v w'->R' v w'):kD P v args w R':=by
 obtain⟨f,a8,cs,e,av,ab⟩:=h;exact⟨f,a8,cs,e,av,ab.mono aj⟩
theorem gL{ax:World}{r:Option Nat}(h:w.grownBy aq r)(ae:aq.grownBy ax r):w.grownBy ax r:=
 ⟨ae.os.trans h.os,ae.tape.trans h.tape,ae.output.trans h.output,atN h.size ae.size,λk au b5=>(ae.block k (auj au h.size) b5).trans (h.block k au b5)⟩
theorem iQ{r:Option Nat}{n:Nat}(h:(w.drewN n).grownBy aq r):w.grownBy aq r:=⟨h.os,h.tape,h.output,h.size,h.block⟩
theorem TL{r:Option Nat}{n:Nat}(h:w.grownBy aq r):w.grownBy (aq.drewN n) r:=⟨h.os,h.tape,h.output,h.size,h.block⟩
theorem It{r:Option Nat}(h:w.grownBy aq none):w.grownBy aq r:=⟨h.os,h.tape,h.output,h.size,λk au _=>h.block k au bl⟩
theorem sb{r:Option Nat}(h:Below w.heap.size w aq):w.grownBy aq r:=⟨h.os,h.tape,h.output,h.size,λk au _=>h.block k au⟩
theorem TM(w:World)(r:Option Nat):w.grownBy w r:=⟨rfl,rfl,rfl,atI _,λ_ _ _=>rfl⟩
section
variable {P:Program} {ops:Array Oper} {Q:Exit->Act->World->Prop} {a:Act} {w:World} {rest:List Oper} {N:Nat} {l:List (Nat × Value)}
theorem Mn{cC:Operand->Value}(aY:x0 cC l){f:FuncId}{a8 cs:Array Value}(av:dc P f)(aO:a7 l y (.func (.func f) a8 cs))(hx:jW l xs vs)(d:Option Tmp)(ty:TypeId)(pos:String)(bx:Array Edge)(g:Option (Nat × Bool)):
  (execOp cC ⟨d,.call { callee:=.value y,args:=xs.toArray,argTypes:=ats },ty,pos,bx,g⟩).run P w=.ok (.enter f (a8++vs.toArray++cs)) w:=by
 obtain⟨fn,U,ae,aM⟩:=av.out;have bw:=aY _ _ aO;have bf:=jW.map aY hx;simp only [execOp,resolve,Deferred.ofValue,invoke,callFunc,bw,bf,auu,axO,aun,ayL,U,ae,aM,awy,ax4,awp];simp
theorem iZ(h:Fr N l a){ats:Array TypeId}{ty:TypeId}{pos:String}{bx:Array Edge}{R:Value->World->Prop}(av:kD P v vs w R)(hx:jW l xs vs)(aO:a7 l y v:=by exact rfl)(aI:Nat.blt d N=true:=by exact rfl)(k:∀aU u w',R u w'->Fr N ((d,u)::l) aU->wpList P ops Q rest aU w'):
  wpList P ops Q (⟨some d,.call { callee:=.value y,args:=xs.toArray,argTypes:=ats },ty,pos,bx,none⟩::rest) a w:=
 axc rfl λK cv=>by
  obtain⟨f,a8,cs,rfl,bC,ab⟩:=av;unfold Oper.wp;rw [Mn h.eval bC aO hx];refine auC ab ?_;rintro e w' ⟨v,rfl,ab⟩;exact cv _ _ (k _ _ _ ab (h.put aI v))
theorem P4{C:World->Prop}{Q':Act->Prop}(h:Fr N l a){u:Value}{ats:Array TypeId}{ty:TypeId}{pos:String}{bx:Array Edge}(av:∀w,C w->kD P u vs w (λu w'=>u=v/\C w'))(hx:jW l xs vs)(aO:a7 l y u:=by exact rfl)(aI:Nat.blt d N=true:=by exact rfl)(k:∀aU,Fr N ((d,v)::l) aU->wpQuiet P ops C Q' rest aU):wpQuiet P ops C Q' (⟨some d,.call { callee:=.value y,args:=xs.toArray,argTypes:=ats },ty,pos,bx,none⟩::rest) a:=
 axd λK cv=>by
  rw [atM (by simp [Region.wanted])];refine⟨v,λw hw=>?_,cv _ (k _ (h.put aI v))⟩;obtain⟨f,a8,cs,rfl,bC,ab⟩:=av w hw;unfold Oper.quietAt;rw [Mn h.eval bC aO hx];refine⟨rfl,auC ab ?_⟩;rintro e w' ⟨u,rfl,rfl,nF⟩;exact⟨rfl,nF⟩
theorem YJ{C:World->Prop}{Q':Act->Prop}(h:Fr N l a){u:Value}{ats:Array TypeId}{ty:TypeId}{pos:String}{bx:Array Edge}{j e:Nat}{b:Bool}(av:∀w,C w->kD P u vs w (λu w'=>u=v/\C w'))(hx:jW l xs vs)(ah:(ops[j]?).bind (·.dst)=some e:=by exact rfl)(hb:look l e=some (.bool b):=by exact rfl)(aO:a7 l y u:=by exact rfl)(aI:Nat.blt d N=true:=by exact rfl)(k:∀aU,Fr N ((d,v)::l) aU->wpQuiet P ops C Q' rest aU):wpQuiet P ops C Q' (⟨some d,.call { callee:=.value y,args:=xs.toArray,argTypes:=ats },ty,pos,bx,some (j,b)⟩::rest) a:=
 axd λK cv=>by
  have sD:=xR (ops:=ops) h ah hb;rw [atM (by simp [Region.wanted,sD])];refine⟨v,λw hw=>?_,cv _ (k _ (h.put aI v))⟩;obtain⟨f,a8,cs,rfl,bC,ab⟩:=av w hw;unfold Oper.quietAt;rw [Mn h.eval bC aO hx];refine⟨rfl,auC ab ?_⟩;rintro e w' ⟨u,rfl,rfl,nF⟩;exact⟨rfl,nF⟩
theorem SI{k:IntKind}{m r:Int}{t:TypeId}(aj:k.wrap (0- m)=r)(hx:a7 l x (.int k m):=by exact rfl):bL P l w (.unOp .neg t x) ty (.int k r) w:=by
 intro cC aY d pos bx g;subst aj;simp only [execOp,aY _ _ hx,Op.unary,Op.intArith];simp
theorem SD{k:IntKind}{m n r:Int}{t:TypeId}(aj:k.wrap ((BitVec.ofInt k.bits m &&& BitVec.ofInt k.bits n).toNat:Int)=r)(hx:a7 l x (.int k m):=by exact rfl)(aO:a7 l y (.int k n):=by exact rfl):bL P l w (.binOp .and t x y t') ty (.int k r) w:=by
 intro cC aY d pos bx g;subst aj;have e:(eqGuard .and t x y (.int k m) (.int k n)).run P w=.ok () w:=rfl;have bf:(binOp .and t (.int k m) (.int k n)).run P w=.ok (.int k (k.wrap ((BitVec.ofInt k.bits m &&& BitVec.ofInt k.bits n).toNat:Int))) w:=by
  simp [binOp,Op.intBits]
 simp only [execOp,aY _ _ hx,aY _ _ aO,auu,e,aun,bf];rfl
theorem adK{bq:Operand}{b o n i:Nat}{k:IntKind}{q:Int}{t ty:TypeId}(b0:P.underlying t=some (.array n e))(aG:(P.info? e).map (·.size)=some 1)(hx:a7 l x (.pointer (some ⟨b,o,none⟩)):=by exact rfl)(aN:a7 l bq (.int k q):=by exact rfl)(aZ:q=(i:Int):=by exact rfl)(ai:i<n:=by omega):
  bL P l w (.slice t x (some bq) none none) ty (.slice (some ⟨b,o+i,none⟩) (n - i) (n - i)) w:=by
 intro cC aY d pos bx g;subst aZ;obtain⟨pb,U,ae⟩:=at7.1 aG;have b5:¬n=i:=bj
 simp [execOp,Instr.sliceAt,Instr.slice,Instr.sureAddr,Instr.sliceBounds,run_sliceBound (awO ai),aY _ _ hx,aY _ _ aN,auf b0,sizeOf,typeInfo,U,ae,b5,addr_add]
theorem me{f:Fn}(hx:jW l xs vs):bL P l w (.makeFunc f xs.toArray #[]) ty (.func f vs.toArray #[]) w:=by
 intro cC aY d pos bx g;have:=jW.map aY hx;simp [execOp,Instr.makeFunc,this]
theorem uE{op:Op}{u:Value}(h:bL P l w op ty v w')(he:v=u):bL P l w op ty u w':=he▸h
theorem xL(h:Fr N l a){g:Nat}{s:Operand}{u z:Value}{t ty:TypeId}{pos:String}{bx:Array Edge}{bytes n base cap:Nat}{xs:List Value}(b0:P.underlying t=some (.slice e))(ai:(P.info? e).map (λi=>(i.zero,i.size,i.bytes))=some (some z,1,bytes))(bA:z.cells.size=1)(aX:w.ownsRow base e 1 (.slice ay n cap) n xs)(hu:w.cell? ⟨g,0,none⟩=some u)(lM:(n+1)*bytes<=140737488355328)(hm:n+1<=maxLen)(mm:base<=w.heap.size)(aG:a7 l s (.slice ay n cap):=by exact rfl)(hx:a7 l x (.slice (some ⟨g,0,none⟩) 1 1):=by exact rfl)(aI:Nat.blt d N=true:=by exact rfl)(CY:u.oneCell'=true:=by exact rfl)(k:∀aU ej ev w',w'.ownsRow base e 1 (.slice ej (n+1) ev) (n+1) (xs++ [u])->w.grownBy w' (Value.slice ay n cap).ownBlock->Fr N ((d,.slice ej (n+1) ev)::l) aU->wpList P ops Q rest aU w'):
   wpList P ops Q (⟨some d,.call { callee:=.builtin .append,args:=[s,x].toArray,argTypes:=[t,t].toArray },ty,pos,bx,none⟩::rest) a w:=by
 obtain⟨i,g1,g2,g3,g4⟩:=avH ai;refine ayC _ rfl s x t rfl base e i z 1 bytes b0 g1 g2 g3 g4 bA bk (.slice ay n cap) n xs (h.eval _ _ aG) aX ⟨g,0,none⟩ 1 1 [u] (h.eval _ _ hx) rfl ?_ ?_ hm lM mm ?_
 · intro j v ah
   match j,ah with
   | 0,ah=>
    simp at ah;subst ah;simpa [Addr.add]using hu
 · intro v ao;simp at ao;subst ao;exact CY
 · intro iy w' mr an CM;obtain⟨ej,ev,rfl,_,_⟩:=tW mr;exact k _ ej ev w' mr an (h.put aI _)
end
def hY(p:Nat)(v:Value)(e:TypeId)(w:World):Prop:=w.heap[p]? =some (.cells #[v] e (0,0))
theorem hY.below{p:Nat}(h:hY p v e w)(hb:Below w.heap.size w w'):hY p v e w':=(hb.block _ (bO h)).trans h
theorem hY.cell{p:Nat}(h:hY p v e w):w.cell? ⟨p,0,none⟩=some v:=aF h rfl
theorem c1{p q:Nat}{c eS:Array Value}{f Mq:Nat × Nat}(h:w.heap[p]? =some (.cells c e f))(e9:w.heap[q]? =some (.cells eS e' Mq))(b5:e≠e'):p≠q:=by
 rintro rfl;rw [h]at e9;cases e9
 exact b5 rfl
theorem eG{ak:World}{p:Addr}(av:w.cell? p=some v)(hb:Below w.heap.size w ak):ak.cell? p=some v:=(hb.cell (aui w _ av)).trans av
section
variable {P:Program} {w:World} {l:List (Nat × Value)}
theorem e8{k:IntKind}{n m:Int}{ty:TypeId}(aG:P.underlying src=some ds)(aI:P.underlying dst=some (.int cS))(hx:a7 l x (.int k n):=by exact rfl)(hm:cS.wrap n=m:=by exact rfl):
  bL P l w (.convert src dst x) ty (.int cS m) w:=by
 intro cC aY d pos bx g;subst hm;simp [execOp,aY _ _ hx,convert,auf aG,auf aI,Conv.intToInt]
theorem adt{k:IntKind}{n:Int}{ty:TypeId}(aG:P.underlying src=some ds)(aI:P.underlying dst=some .string)(hx:a7 l x (.int k n):=by exact rfl):
  bL P l w (.convert src dst x) ty (.string (Utf8.encode n)) w:=by
 intro cC aY d pos bx g;simp [execOp,aY _ _ hx,convert,auf aG,auf aI,Conv.intToString]
theorem SE{ty:TypeId}{b o len cap:Nat}(xs:List Int)(aG:P.underlying src=some (.slice e))(he:P.underlying e=some (.int .u8))(aI:P.underlying dst=some .string)(hlen:xs.length=len)(Cs:∀i,i<len->w.cell? ⟨b,o+i,none⟩=some (.int .u8 (xs.getD i 0)))(hx:a7 l x (.slice (some ⟨b,o,none⟩) len cap):=by exact rfl):
  bL P l w (.convert src dst x) ty (.string (strOfNums xs)) w:=by
 intro cC aY d pos bx g;simp [execOp,aY _ _ hx,run_convert_bytes_arg w src e aG he b o len cap xs hlen Cs dst aI]
theorem anR{k:IntKind}{a:Int}{b:Nat}(hb:b<=k.bits):(Op.shift .shr k a ky (b:Int)).run P w=.ok (.int k (a/2^b)) w:=by
 have U:¬((b:Int) <0):=bj
 simp only [Op.shift,U,axp,avJ,awv hb];rw [ayd _ (Int.le_of_lt (Int.pow_pos bk))];rfl
theorem SK{k:IntKind}{a q:Int}{b:Nat}{t t' ty:TypeId}(hx:a7 l x (.int k a):=by exact rfl)(aO:a7 l y (.int ky q):=by exact rfl)(aZ:q=(b:Int):=by exact rfl)(hb:b<=k.bits:=by decide):
  bL P l w (.binOp .shr t x y t') ty (.int k (a/2^b)) w:=by
 intro cC aY d pos bx g;subst aZ;have e:(eqGuard .shr t x y (.int k a) (.int ky b)).run P w=.ok () w:=rfl;have bf:(binOp .shr t (.int k a) (.int ky b)).run P w=.ok (.int k (a/2^b)) w:=anR (ky:=ky) hb;simp only [execOp,aY _ _ hx,aY _ _ aO,auu,e,aun,bf];rfl
end
def mI(a b:Nat):Nat:=Nat.bitwise (λx y=>x&& !y) a b
theorem En(a b i:Nat):(mI a b).testBit i=(a.testBit i&& !b.testBit i):=Nat.testBit_bitwise rfl _ _ _
theorem BN{a b n:Nat}(ha:a<2^n):mI a b<2^n:=by
 refine Nat.lt_pow_two_of_testBit _ λi ai=>?_;rw [En,awH (auj ha (aum bk ai))];rfl
theorem vS{k:IntKind}(aG:k.signed=false){n:Nat}(h:n<2^k.bits):k.wrap (n:Int)=(n:Int):=by
 unfold IntKind.wrap;have e9:(n:Int)%(2:Int)^k.bits=n:=by
  rw [Int.emod_eq_of_lt bj]
  exact_mod_cast h
 simp [aG,e9]
section
variable {P:Program} {w:World} {l:List (Nat × Value)}
theorem anQ{k:IntKind}{a b:Nat}(hb:b<=k.bits):(Op.shift .shr k (a:Int) ky (b:Int)).run P w=.ok (.int k ((a/2^b:Nat):Int)) w:=by
 have U:¬((b:Int) <0):=bj
 simp only [Op.shift,U,axp,avJ,awv hb];have:Int.fdiv (a:Int) (2^b)=((a/2^b:Nat):Int):=by
  rw [ayd _ (Int.le_of_lt (Int.pow_pos bk))]
  push_cast
  rfl
 rw [this];rfl
theorem anO{k:IntKind}{b:Nat}(aG:k.signed=false)(hb:b<k.bits):(Op.shift .shl k 1 ky (b:Int)).run P w=.ok (.int k ((2^b:Nat):Int)) w:=by
 have U:¬((b:Int) <0):=bj
 simp only [Op.shift,U,axp,avJ,awv (awO hb)];have:k.wrap (1*2^b)=((2^b:Nat):Int):=by
  rw [<-vS aG (aw1 bk hb)]
  congr 1
  push_cast
  omega
 rw [this];rfl
theorem anG{op:BinOp}{k:IntKind}{a b r:Nat}(aG:k.signed=false)(ha:a<2^k.bits)(hb:b<2^k.bits)(aj:(match op with| .and=>some (a &&& b)| .or=>some (a ||| b)| .andNot=>some (mI a b)|_=>none)=some r):(Op.intBits op k (a:Int) (b:Int)).run P w=.ok (.int k (r:Int)) w:=by
 have yq:=auU ha;have gU:=auU hb;cases op<;>simp only [auW,reduceCtorEq]at aj<;>subst aj
 · simp only [Op.intBits,aw2,BitVec.toNat_and,ayr,yq,gU];rw [vS aG (au6 _ hb)];rfl
 · simp only [Op.intBits,aw2,BitVec.toNat_or,ayr,yq,gU];rw [vS aG (avn ha hb)];rfl
 · have e:(BitVec.ofNat k.bits a &&& ~~~BitVec.ofNat k.bits b).toNat=mI a b:=by
    apply awY;intro i;rw [En,BitVec.testBit_toNat];simp only [BitVec.getLsbD_and,BitVec.getLsbD_not,BitVec.getLsbD_ofNat];by_cases ai:i<k.bits
    · simp [ai]
    · have:a.testBit i=false:=awH (auj ha (aum bk bj));simp [ai,this]
   simp only [Op.intBits,aw2];rw [e,vS aG (BN ha)];rfl
theorem lG{k:IntKind}{a b:Nat}{p q:Int}{t t' ty:TypeId}(hx:a7 l x (.int k p):=by exact rfl)(aO:a7 l y (.int ky q):=by exact rfl)(aW:p=(a:Int):=by exact rfl)(aZ:q=(b:Int):=by exact rfl)(hb:b<=k.bits):
  bL P l w (.binOp .shr t x y t') ty (.int k ((a/2^b:Nat):Int)) w:=by
 intro cC aY d pos bx g;subst aW;subst aZ;have e:(eqGuard .shr t x y (.int k a) (.int ky b)).run P w=.ok () w:=rfl;have bf:(binOp .shr t (.int k a) (.int ky b)).run P w=.ok (.int k ((a/2^b:Nat):Int)) w:=anQ (ky:=ky) hb;simp only [execOp,aY _ _ hx,aY _ _ aO,auu,e,aun,bf];rfl
theorem H6{k:IntKind}{b:Nat}{q:Int}{t t' ty:TypeId}(hx:a7 l x (.int k 1):=by exact rfl)(aO:a7 l y (.int ky q):=by exact rfl)(aG:k.signed=false:=by exact rfl)(aZ:q=(b:Int):=by exact rfl)(hb:b<k.bits):
  bL P l w (.binOp .shl t x y t') ty (.int k ((2^b:Nat):Int)) w:=by
 intro cC aY d pos bx g;subst aZ;have e:(eqGuard .shl t x y (.int k 1) (.int ky b)).run P w=.ok () w:=rfl;have bf:(binOp .shl t (.int k 1) (.int ky b)).run P w=.ok (.int k ((2^b:Nat):Int)) w:=anO (ky:=ky) aG hb;simp only [execOp,aY _ _ hx,aY _ _ aO,auu,e,aun,bf];rfl
theorem fi{op:BinOp}{k:IntKind}{a b r:Nat}{p q:Int}{t t' ty:TypeId}(hx:a7 l x (.int k p):=by exact rfl)(aO:a7 l y (.int k q):=by exact rfl)(aG:k.signed=false:=by exact rfl)(aW:p=(a:Int):=by exact rfl)(aZ:q=(b:Int):=by exact rfl)(ha:a<2^k.bits)(hb:b<2^k.bits)(aj:(match op with| .and=>some (a &&& b)| .or=>some (a ||| b)| .andNot=>some (mI a b)|_=>none)=some r:=by exact rfl):
  bL P l w (.binOp op t x y t') ty (.int k (r:Int)) w:=by
 intro cC aY d pos bx g;subst aW;subst aZ;have e:(eqGuard op t x y (.int k a) (.int k b)).run P w=.ok () w:=by cases op<;>rfl
 have bf:(binOp op t (.int k a) (.int k b)).run P w=.ok (.int k (r:Int)) w:=by
  have:=anG (P:=P) (w:=w) (op:=op) aG ha hb aj;cases op<;>simp only [reduceCtorEq]at aj<;>simpa [binOp]using this
 simp only [execOp,aY _ _ hx,aY _ _ aO,auu,e,aun,bf];rfl
end
section
variable {P:Program} {w:World} {l:List (Nat × Value)}
theorem aaw{k:IntKind}(aG:k.signed=false)(n:Nat):k.wrap (n:Int)=((n%2^k.bits:Nat):Int):=by
 unfold IntKind.wrap;simp [aG]
theorem HW{k:IntKind}{a b:Nat}{p q:Int}{t t' ty:TypeId}(hx:a7 l x (.int k p):=by exact rfl)(aO:a7 l y (.int k q):=by exact rfl)(aW:p=(a:Int):=by exact rfl)(aZ:q=(b:Int):=by exact rfl)(aG:k.signed=false:=by exact rfl)(h:a+b<2^k.bits):
  bL P l w (.binOp .add t x y t') ty (.int k ((a+b:Nat):Int)) w:=by
 subst aW;subst aZ;have:=adp (P:=P) (w:=w) (t:=t) (t':=t') (ty:=ty) hx aO
 rwa [show(a:Int)+(b:Int)=((a+b:Nat):Int) by omega,vS aG h]at this
theorem adO{k:IntKind}{a b:Nat}{p q:Int}{t t' ty:TypeId}(hx:a7 l x (.int k p):=by exact rfl)(aO:a7 l y (.int k q):=by exact rfl)(aW:p=(a:Int):=by exact rfl)(aZ:q=(b:Int):=by exact rfl)(aG:k.signed=false:=by exact rfl)(h:b<=a)(ha:a<2^k.bits):
  bL P l w (.binOp .sub t x y t') ty (.int k ((a - b:Nat):Int)) w:=by
 subst aW;subst aZ;have:=SN (P:=P) (w:=w) (t:=t) (t':=t') (ty:=ty) hx aO
 rwa [show(a:Int)- (b:Int)=((a - b:Nat):Int) by omega,vS aG bj]at this
theorem H4{k:IntKind}{a b:Nat}{p q:Int}{t t' ty:TypeId}(hx:a7 l x (.int k p):=by exact rfl)(aO:a7 l y (.int k q):=by exact rfl)(aW:p=(a:Int):=by exact rfl)(aZ:q=(b:Int):=by exact rfl)(aG:k.signed=false:=by exact rfl)(h:a*b<2^k.bits):
  bL P l w (.binOp .mul t x y t') ty (.int k ((a*b:Nat):Int)) w:=by
 subst aW;subst aZ;have:=L5 (P:=P) (w:=w) (t:=t) (t':=t') (ty:=ty) hx aO
 rwa [show(a:Int)*(b:Int)=((a*b:Nat):Int) by push_cast;rfl,vS aG h]at this
theorem ads{k:IntKind}{a m:Nat}{p:Int}{ty:TypeId}(aG:P.underlying src=some ds)(aI:P.underlying dst=some (.int cS))(hx:a7 l x (.int k p):=by exact rfl)(aW:p=(a:Int):=by exact rfl)(hu:cS.signed=false:=by exact rfl)(hm:a%2^cS.bits=m:=by exact rfl):
  bL P l w (.convert src dst x) ty (.int cS (m:Int)) w:=by
 subst aW;subst hm;exact e8 aG aI hx (aaw hu a)
theorem anP{k:IntKind}{a b:Nat}(aG:k.signed=false)(hb:b<=k.bits)(h:a*2^b<2^k.bits):(Op.shift .shl k (a:Int) ky (b:Int)).run P w=.ok (.int k ((a*2^b:Nat):Int)) w:=by
 have U:¬((b:Int) <0):=bj
 simp only [Op.shift,U,axp,avJ,awv hb];have:k.wrap ((a:Int)*2^b)=((a*2^b:Nat):Int):=by
  rw [<-vS aG h]
  congr 1
 rw [this];rfl
theorem wv{k:IntKind}{a b:Nat}{p q:Int}{t t' ty:TypeId}(hx:a7 l x (.int k p):=by exact rfl)(aO:a7 l y (.int ky q):=by exact rfl)(aW:p=(a:Int):=by exact rfl)(aZ:q=(b:Int):=by exact rfl)(aG:k.signed=false:=by exact rfl)(hb:b<=k.bits)(h:a*2^b<2^k.bits):
  bL P l w (.binOp .shl t x y t') ty (.int k ((a*2^b:Nat):Int)) w:=by
 intro cC aY d pos bx g;subst aW;subst aZ;have e:(eqGuard .shl t x y (.int k a) (.int ky b)).run P w=.ok () w:=rfl;have bf:(binOp .shl t (.int k a) (.int ky b)).run P w=.ok (.int k ((a*2^b:Nat):Int)) w:=anP (ky:=ky) aG hb h;simp only [execOp,aY _ _ hx,aY _ _ aO,auu,e,aun,bf];rfl
theorem adJ{k:IntKind}{a b:Nat}{p q:Int}{t t' ty:TypeId}(hx:a7 l x (.int k p):=by exact rfl)(aO:a7 l y (.int k q):=by exact rfl)(aW:p=(a:Int):=by exact rfl)(aZ:q=(b:Int):=by exact rfl)(aG:k.signed=false:=by exact rfl)(ha:a<2^k.bits)(hb:0<b):
  bL P l w (.binOp .rem t x y t') ty (.int k ((a%b:Nat):Int)) w:=by
 intro cC aY d pos bx g;subst aW;subst aZ;have ba:¬(b:Int)=0:=bj
 have e:(a:Int).tmod (b:Int)=((a%b:Nat):Int):=by rw [ayb bj];push_cast;rfl
 have bf:k.wrap ((a%b:Nat):Int)=((a%b:Nat):Int):=vS aG (avB (Nat.mod_le _ _) ha);simp [execOp,eqGuard,binOp,Op.intDiv,aY _ _ hx,aY _ _ aO,e];intro aJ;omega
end
section
attribute [local irreducible] wpList wpQuiet wpStill Code.wp Exit.then Exit.inBlock bodyPost Calls bL eT
def Ins.cells(x:Ins):List Value:=[.int .i64 (x.op:Nat),.int .i64 (x.a:Nat),.int .i64 (x.b:Nat),.int .i64 (x.n:Nat),.int .u64 (x.bK:Nat)]
theorem j'(x:Ins):x.cells.length=5:=rfl
theorem ry(x:Ins):∀v∈x.cells.toArray,v.oneCell'=true:=by
 intro v ao;simp [Ins.cells]at ao;rcases ao with rfl|rfl|rfl|rfl|rfl<;>rfl
structure fc(x:Ins):Prop where
 op:x.op<2^62
 a:x.a<2^62
 b:x.b<2^62
 n:x.n<2^62
 bK:x.bK<2^64
def mg(n x y:Int):Value:=.iface 114 (.agg #[.int .i64 n,.int .i64 x,.int .i64 y])
def ek(c:Nat):Value:=.int .u8 (c:Nat)
def xH(ay:Option Addr)(n c at_:Nat)(x:Ins)(e:Value):List Value:=[.slice ay n c,.int .i64 (at_:Nat),.int .i64 (x.op:Nat),.int .i64 (x.a:Nat),.int .i64 (x.b:Nat),.int .i64 (x.n:Nat),.int .u64 (x.bK:Nat),e]
def Bx(ay:Option Addr)(n c:Nat)(x:Ins):List Value:=[.slice ay n c,.int .i64 (x.op:Nat),.int .i64 (x.a:Nat),.int .i64 (x.b:Nat),.int .i64 (x.n:Nat),.int .u64 (x.bK:Nat)]
structure iA(w:World)(R:Nat)(ay:Option Addr)(n c at_:Nat)(x:Ins)(e:Value)(aa:List Nat):Prop where
 cells:w.heap[R]? =some (.cells (xH ay n c at_ x e).toArray 68 (0,0))
 rd:ee w ay ek aa
 len:aa.length=n
 ne:∀p,ay=some p->p.block≠R
 max:n<=1048576
 byte:∀b∈aa,b<256
theorem iA.below{n c at_:Nat}{x:Ins}{e:Value}{aa:List Nat}(h:iA w R ay n c at_ x e aa)(hb:Below w.heap.size w w'):iA w' R ay n c at_ x e aa:=
 ⟨(hb.block _ (bO h.cells)).trans h.cells,h.rd.below hb,h.len,h.ne,h.max,h.byte⟩
theorem iA.set{n c at_ at2:Nat}{x y:Ins}{e e':Value}{aa:List Nat}(h:iA w R ay n c at_ x e aa)(az:w'.heap[R]? =some (.cells (xH ay n c at2 y e').toArray 68 (0,0)))(an:w.grownBy w' (some R)):iA w' R ay n c at2 y e' aa:=by
 refine⟨az,λi ai=>?_,h.len,h.ne,h.max,h.byte⟩;obtain⟨b,o,e,av⟩:=h.rd i ai;refine⟨b,o,e,?_⟩;rw [<-av];unfold World.cell?;dsimp only;rw [an.block _ (aui w _ av) (by have:=h.ne _ e;simpa using this)]
structure iO(w:World)(base B:Nat)(x:Ins)(aa:List Nat):Prop where
 ex:∃ay cap,w.heap[B]? =some (.cells (Bx ay aa.length cap x).toArray 83 (0,0))/\w.ownsRow base 5 1 (.slice ay aa.length cap) aa.length (aa.map ek)
 base:base<=B
theorem iO.below{base B:Nat}{x:Ins}{aa:List Nat}(h:iO w base B x aa)(hb:Below w.heap.size w w'):iO w' base B x aa:=by
 obtain⟨⟨ay,cap,U,ae⟩,aM⟩:=h;exact⟨⟨ay,cap,(hb.block _ (bO U)).trans U,cW ae hb⟩,aM⟩
theorem pW{base:Nat}{s n g:Nat}{xs:List Value}{c:Array Value}{pw:Nat × Nat}(h:w.ownsRow base e s v n xs)(hx:w.heap[g]? =some (.cells c e' pw))(b5:e≠e')(an:w.grownBy w' (some g)):w'.ownsRow base e s v n xs:=
 PX h an λk au eq=>by cases eq;exact jk h hx b5 au.symm
theorem iO.push{base B:Nat}{x:Ins}{aa:List Nat}{cap c:Nat}(aH:w.heap[B]? =some (.cells (Bx ay (aa.length+1) cap x).toArray 83 (0,0)))(bp:w.ownsRow base 5 1 (.slice ay (aa.length+1) cap) (aa.length+1) (aa.map ek++ [ek c]))(hb:base<=B):iO w base B x (aa++ [c]):=by
 refine⟨⟨ay,cap,?_,?_⟩,hb⟩
 · rw [atV];exact aH
 · rw [atV,awP];exact bp
structure ju(base B:Nat)(w w':World):Prop where
 below:Below base w w'
 keep:∀k,k<w.heap.size->k≠B->(∀c f,w.heap[k]? ≠some (.cells c 5 f))->w'.heap[k]? =w.heap[k]?
theorem ju.refl(base B:Nat)(w:World):ju base B w w:=⟨atL _ _,λ_ _ _ _=>rfl⟩
theorem ju.trans{base B:Nat}{w'':World}(h:ju base B w w')(e9:ju base B w' w''):ju base B w w'':=
 ⟨h.below.trans e9.below,λk au aH hu=>by
  have e:=h.keep k au aH hu;rw [e9.keep k (auj au h.below.size) aH (by rw [e];exact hu),e]⟩
theorem ju.v7{base B:Nat}(h:ju base B cy w)(hb:Below w.heap.size w w')(aG:base<=w.heap.size):ju base B cy w':=h.trans ⟨hb.mono aG,λk au _ _=>hb.block k au⟩
theorem ju.own{base B n:Nat}{xs:List Value}(h:ju base B cy w)(bp:w.ownsRow base 5 1 v n xs)(an:w.grownBy w' v.ownBlock)(aG:base<=w.heap.size):ju base B cy w':=
 h.trans ⟨j0 (atL _ _) aG bp an,λk au _ hu=>an.block k au (by
  rcases bp.2 with ⟨rfl,_⟩|⟨g,cap,cur,rfl,_,az,_⟩
  · simp [Value.ownBlock]
  · intro e;simp only [Value.ownBlock,auW]at e;subst e;exact hu _ _ az)⟩
theorem ju.fV{base B:Nat}(h:ju base B cy w)(an:w.grownBy w' (some B))(aH:base<=B)(aG:base<=w.heap.size):ju base B cy w':=
 h.trans ⟨(atL _ _).grown an aG (λk au=>by cases au;exact aH),λk au b5 _=>an.block k au (by simpa using b5)⟩
theorem ju.at_{base B k:Nat}{c:Array Value}{f:Nat × Nat}(h:ju base B w w')(az:w.heap[k]? =some (.cells c e f))(he:e≠5)(au:k≠B):w'.heap[k]? =some (.cells c e f):=by
 rw [h.keep k (bO az) au (λeS Mq e'=>by rw [az]at e';cases e';exact he rfl)];exact az
theorem Q9{b:Nat}(h:b<256):IntKind.i64.wrap (b:Nat)=(b:Int):=aw4 _ bj
theorem B8(w:World)(k y:Int):bd prog 21 [.int .i64 k,.int .i64 y].toArray w (λv w'=>v=mg k 0 y/\w'=w):=by
 refine dP func21 rfl 7 rfl 9 rfl (λa I=>?_);revert a;(repeat first|refine ag ?_|refine J (cA (vs:=[(0,.int .i64 k),(2,.int .i64 y)]) (cells:=#[.int .i64 k,.int .i64 0,.int .i64 y]) bh ⟨rfl,rfl,rfl,rfl,trivial⟩) ?_);intro a I;exact bc I rfl rfl ⟨rfl,rfl⟩
theorem Y0(w:World){n c at_:Nat}{x:Ins}{aa:List Nat}(h:iA w R ay n c at_ x .nilIface aa)(ha:at_<=2097152):
   bd prog 89 [.pointer (some ⟨R,0,none⟩)].toArray w (λv w'=>w.grownBy w' (some R)/\((∃b,aa[at_]? =some b/\v=.int .i64 (b:Nat)/\iA w' R ay n c (at_+1) x .nilIface aa)\/(n<=at_/\v=.int .i64 0/\iA w' R ay n c at_ x (mg 2 0 n) aa))):=by
 have az:=h.cells;have c0:w.cell? ⟨R,0+0,none⟩=some (.slice ay n c):=aF az rfl;have bM:w.cell? ⟨R,0+1,none⟩=some (.int .i64 (at_:Nat)):=aF az rfl;refine cF func89 rfl 40 rfl 41 rfl (λa I=>?_);by_cases bu:at_<n
 · revert a;(repeat first|refine ag ?_|refine J (af bM) ?_|refine ck (λak ar=>ea ar c0) ?_|refine ck (λak ar=>ea ar bM) ?_|refine λ(_:Nat)=>?_);intros;rename_i g' a I;refine cr I (aw _ _ rfl) az (i:=0+1) (by show 0+1<8;decide) rfl rfl rfl (k:=λa aq aE aT b8 I=>?_);have aG:=h.set (at2:=at_+1) (y:=x) (e':=.nilIface) aE (iQ aT);have d0:aq.cell? ⟨R,0+0,none⟩=some (.slice ay n c):=aF aE rfl;have d1:aq.cell? ⟨R,0+1,none⟩=some (.int .i64 ((at_+1:Nat):Int)):=aF aE rfl;have aN:at_<aa.length:=by rw [h.len];exact bu
   obtain⟨du,PR,rfl,av⟩:=aG.rd at_ aN;have hb:=h.byte _ (at6 aN);revert a;(repeat first|refine ag ?_|refine ck (λak ar=>gT (j:=at_) rfl rfl bj bj) ?_|refine ck (λak ar=>e8 (aA _ _ rfl) (aA _ _ rfl) rfl (Q9 hb)) ?_|refine ck (λak ar=>ea ar d0) ?_|refine ck (λak ar=>ea ar d1) ?_|refine ck (λak ar=>ea ar av) ?_|refine λ(_:Nat)=>?_);intros;rename_i g' a I;exact bc I rfl rfl ⟨TL (iQ aT),.inl ⟨_,atT aN,rfl,aG.below (cP.below ⟨_,rfl⟩ _)⟩⟩
 · revert a;(repeat first|refine ag ?_|refine J (af c0) ?_|refine ck (λak ar=>ea ar c0) ?_|refine ck (λak ar=>ea ar bM) ?_|refine λ(_:Nat)=>?_);intros;rename_i g' a I;refine aQ I (B8 _ 2 (n:Nat)) λa v aq ab I=>?_;obtain⟨rfl,rfl⟩:=ab;revert a;refine ad λa I=>?_;refine cr I (aw _ _ rfl) az (i:=0+7) (by show 0+7<8;decide) rfl rfl rfl (k:=λa aq aE aT b8 I=>?_);have aG:=h.set (at2:=at_) (y:=x) (e':=mg 2 0 (n:Nat)) aE (iQ aT);revert a;refine ad λa I=>?_;exact bc I rfl rfl ⟨iQ aT,.inr ⟨bj,rfl,aG⟩⟩
end
end Go.Proofs.YtnkjmbbddmgjiaaGreatDoor