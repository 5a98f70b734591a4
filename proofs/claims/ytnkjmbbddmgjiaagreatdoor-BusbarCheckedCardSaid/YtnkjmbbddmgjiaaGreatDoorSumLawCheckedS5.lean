import Derived.Test.YtnkjmbbddmgjiaaGreatDoorSumLawCheckedS4
set_option linter.unusedSimpArgs false
set_option linter.unusedVariables false
set_option maxRecDepth 1000000
set_option maxHeartbeats 400000000
namespace Go.Proofs.YtnkjmbbddmgjiaaGreatDoor
open Go.RowKit Go.Proofs.Tryz
variable {S:List Nat}{w w':World}{e ty:TypeId}{v:Value}{xs args:List Value}{f:Fd}{cN gl R gu fu:Nat}{h8:ByteArray}{x:Ins}{ay:Option Addr}{a8:List Fd}
section
attribute [local irreducible] wpList wpQuiet wpStill Code.wp Exit.then Exit.inBlock bodyPost Calls bL eT
theorem apo(w:World)(bF:Env w):bd prog 266 [.int .u64 16].toArray w (λv w'=>v=.int .i64 4/\w'=w):=by
 have av:=bF.adT 15 bk;refine cF azo rfl 13 rfl 14 rfl (λa I=>?_);revert a;refine ad λa I=>?_;refine st I (SI (k:=.u64) (m:=16) (r:=18446744073709551600) bk) rfl (λa I=>?_);revert a;refine ad λa I=>?_;refine st I (fi (a:=16) (b:=18446744073709551600) rfl rfl rfl rfl rfl bk bk) rfl (λa I=>?_);refine st I (uE (u:=.int .u64 4573923408821661840) (L5 (k:=.u64) (m:=((16 &&& 18446744073709551600:Nat):Int)) (n:=285870213051353865)) (atW (Value.int .u64) bk)) rfl (λa I=>?_);refine st I (lG (a:=4573923408821661840) (b:=58) rfl rfl rfl rfl bk) rfl (λa I=>?_);refine st I (dY axz (aw _ _ rfl) (j:=15) rfl rfl bk bk) rfl (λa I=>?_);revert a;(repeat first|refine ag ?_|refine J (e8 (aA _ _ rfl) (aA _ _ rfl) rfl (show IntKind.i64.wrap 4=4 by decide)) ?_|refine J (af av) ?_);intro a I;exact bc I rfl rfl ⟨rfl,rfl⟩
theorem apq(w:World)(bF:Env w):bd prog 246 [.int .u64 16].toArray w (λv w'=>v=.int .i64 4/\w'=w):=by
 refine cF azn rfl 7 rfl 8 rfl (λa I=>?_);revert a;refine ad λa I=>?_;refine aQ I (apo w bF) λa v aq ab I=>?_;obtain⟨rfl,rfl⟩:=ab;revert a;refine ad λa I=>?_;exact bc I rfl rfl ⟨rfl,rfl⟩
theorem ami(w:World):bd prog 245 [.int .i64 16].toArray w (λv w'=>v=.bool true/\w'=w):=by
 refine cF azm rfl 7 rfl 8 rfl (λa I=>?_);revert a;(repeat first|refine ag ?_|refine J (SD (k:=.i64) (m:=16) (n:=16- 1) (r:=0) bk) ?_);intro a I;exact bc I rfl rfl ⟨rfl,rfl⟩
theorem S1{c:Nat}(h:c<16):(⟨#[48,49,50,51,52,53,54,55,56,57,97,98,99,100,101,102,103,104,105,106,107,108,109,110,111,112,113,114,115,116,117,118,119,120,121,122]⟩:ByteArray)[c]? =some ((⟨#[48,49,50,51,52,53,54,55,56,57,97,98,99,100,101,102]⟩:ByteArray).get! c):=by
 have:∀c:Fin 16,(⟨#[48,49,50,51,52,53,54,55,56,57,97,98,99,100,101,102,103,104,105,106,107,108,109,110,111,112,113,114,115,116,117,118,119,120,121,122]⟩:ByteArray)[c.val]? =some ((⟨#[48,49,50,51,52,53,54,55,56,57,97,98,99,100,101,102]⟩:ByteArray).get! c.val):=bo
 exact this ⟨c,h⟩
theorem aoP(l:List Int):(strOfNums l).size=l.length:=by simp [strOfNums,ByteArray.size]
theorem aeD(w:World)(bF:Env w)(u:Nat)(hu:u<2^64):bd prog 213 [.slice none 0 0,.int .u64 (u:Nat),.int .i64 16,.bool false,.bool false].toArray w (λv w'=>(∃s:ByteArray,v=.tuple #[.slice none 0 0,.string s]/\s.size<=65)/\Below w.heap.size w w'):=by
 refine Ib azl rfl 97 rfl 102 rfl (λa I=>?_);revert a;refine ad λa I=>?_;refine b6 I ai5 λa aq aE aT b8 I=>?_;have aB:=aK (atL _ w) aT (atI _);revert a;refine ad λa I=>?_;refine aQ I (ami aq) λa v ax ab I=>?_;obtain⟨rfl,rfl⟩:=ab;revert a;(repeat first|refine ag ?_|refine J (e8 (aA _ _ rfl) (aA _ _ rfl) rfl (show IntKind.u64.wrap 16=16 by decide)) ?_);intro a I;refine aQ I (apq ax (bF.below aB)) λa v a6 ab I=>?_;obtain⟨rfl,rfl⟩:=ab;revert a;(repeat first|refine ag ?_|refine J (e8 (aA _ _ rfl) (aA _ _ rfl) rfl (show IntKind.u64.wrap 16=16 by decide)) ?_|refine J (e8 (aA _ _ rfl) (aA _ _ rfl) rfl (show IntKind.u64.wrap 4=4 by decide)) ?_|refine J (adO (a:=16) (b:=1) rfl rfl rfl rfl rfl bk bk) ?_);intro a I;refine eg (λq a wr=>∃(v i:Nat) (l:List Int),q=v/\Fr 102 [(10,.slice none 0 0),(0,.slice none 0 0),(3,.bool false),(4,.bool false),(12,.pointer (some ⟨w.heap.size,0,none⟩)),(1,.int .u64 (v:Nat)),(13,.int .i64 (i:Nat)),(14,.int .u64 4),(15,.int .u64 16),(16,.int .u64 ((15:Nat):Int))] a/\50<=i/\i<=65/\v<2^(4*(i - 49))/\l.length=65/\wr.heap[w.heap.size]? =some (.cells (l.map (Value.int .u8)).toArray 370 (0,0))/\Below w.heap.size w wr) u
   ⟨u,65,List.replicate 65 0,rfl,I.bb,bk,bk,hu,bl,aE,aB⟩ ?_
 clear I a aE aT b8 aB;rintro v a wr ⟨_,i,l,rfl,I,NQ,Aq,ao,aN,az,cH⟩;have OX:v<2^64:=auj ao (aum bk bj);have hm:v &&& 15=v%16:=avW v 4;have bw:((i:Int)- 1)=((i - 1:Nat):Int):=bj
 have bT:=cH.size;have bu:=bO az;have AE:∀(j:Nat) (x:Int),(l.map (Value.int .u8)).toArray.setIfInBounds j (.int .u8 x)=((l.set j x).map (Value.int .u8)).toArray:=λj x=>by simp [aww]
 by_cases av:16<=v
 · have TR:51<=i:=by
    refine aw7 λh=>?_;have:i=50:=bj
    subst this;have:v<2^4:=ao;omega
   revert a;(repeat first|refine ag ?_|refine J (fi (a:=v) (b:=15) rfl rfl rfl rfl rfl OX bk) ?_|refine J (L3 (aA _ _ rfl) (S1 (c:=v &&& 15) bj) rfl rfl rfl) ?_|refine J (dY awl (aw _ _ rfl) (j:=i - 1) rfl rfl bw bj) ?_);intro a I;refine cr I (aw _ _ rfl) az (i:=0+(i - 1)) bm rfl rfl rfl (k:=λa ax aP aS cZ I=>?_);rw [AE]at aP;have aC:=aK cH aS bT;revert a;(repeat first|refine ag ?_|refine J (lG (a:=v) (b:=4) rfl rfl rfl rfl bk) ?_);intro a I;rw [bw]at I;refine⟨v/2^4,bj,v/2^4,i - 1,_,rfl,I.bb,bj,bj,?_,by simp [aN],aP,aC⟩;rw [show 4*(i - 49)=4*(i - 1- 49)+4 by omega,avZ]at ao;exact aw3 (by rw [avq];exact ao)
 · revert a;(repeat first|refine ag ?_|refine J (L3 (aA _ _ rfl) (S1 (c:=v) bj) rfl rfl rfl) ?_|refine J (dY awl (aw _ _ rfl) (j:=i - 1) rfl rfl bw bj) ?_);intro a I;refine cr I (aw _ _ rfl) az (i:=0+(i - 1)) bm rfl rfl rfl (k:=λa ax aP aS cZ I=>?_);rw [AE]at aP;obtain⟨l2,aP,iu⟩:∃l2:List Int,ax.heap[w.heap.size]? =some (.cells (l2.map (Value.int .u8)).toArray 370 (0,0))/\l2.length=65:=⟨_,aP,by simp [aN]⟩;have aC:=aK cH aS bT;have Cs:∀j,j<65- (i - 1)->ax.cell? ⟨w.heap.size,0+(i - 1)+j,none⟩=some (.int .u8 ((l2.drop (i - 1)).getD j 0)):=λj ah=>by
    refine aF aP ?_;rw [aub];have j8:i - 1+j<l2.length:=bj
    simp [List.getD,auL,j8]
   revert a;(repeat first|refine ag ?_|refine J (adK awl (aw _ _ rfl) (i:=i - 1) rfl rfl bw bj) ?_|refine J (SE (l2.drop (i - 1)) (aA _ _ rfl) (aA _ _ rfl) (aA _ _ rfl) (by simp [iu]) Cs) ?_);intro a I;exact eI I rfl rfl rfl ⟨⟨_,rfl,by rw [aoP];simp [iu]⟩,aC⟩
theorem aeN(w:World)(bF:Env w)(u:Nat)(hu:u<2^64):bd prog 101 [.int .u64 (u:Nat),.int .i64 16].toArray w (λv w'=>(∃s:ByteArray,v=.string s/\s.size<=65)/\Below w.heap.size w w'):=by
 have U:bd prog 155 [.int .u64 (u:Nat),.int .i64 16].toArray w (λv w'=>(∃s:ByteArray,v=.string s/\s.size<=65)/\Below w.heap.size w w'):=by
  refine dP func155 rfl 30 rfl 32 rfl (λa I=>?_);revert a;refine ad λa I=>?_;refine aQ I (aeD w bF u hu) λa v aq ab I=>?_;obtain⟨⟨s,rfl,aG⟩,hb⟩:=ab;revert a;refine ad λa I=>?_;exact bc I rfl rfl ⟨⟨s,rfl,aG⟩,hb⟩
 refine dP azf rfl 6 rfl 8 rfl (λa I=>?_);revert a;refine ad λa I=>?_;refine aQ I U λa v aq ab I=>?_;obtain⟨⟨s,rfl,aG⟩,hb⟩:=ab;revert a;refine ad λa I=>?_;exact bc I rfl rfl ⟨⟨s,rfl,aG⟩,hb⟩
def QJ(e:TypeId):Bool:=e==214||e==3||e==9
def rZ(S:List Nat)(w:World):Prop:=∀k∈S,∃v e,hY k v e w/\QJ e=true
def nd(S:List Nat)(w w':World):Prop:=∀k∈S,w'.heap[k]? =w.heap[k]?
theorem nd.trans{w'':World}(h:nd S w w')(e9:nd S w' w''):nd S w w'':=λk au=>(e9 k au).trans (h k au)
theorem rZ.same(h:rZ S w)(aG:nd S w w'):rZ S w':=λk au=>by
 obtain⟨v,e,U,ae⟩:=h k au;exact⟨v,e,(aG k au).trans U,ae⟩
theorem Zf(h:rZ S w)(hb:Below w.heap.size w w'):nd S w w':=λk au=>by
 obtain⟨v,e,U,_⟩:=h k au;exact hb.block k (bO U)
theorem Zg{base s n:Nat}(h:rZ S w)(bp:w.ownsRow base e s v n xs)(he:QJ e=false)(an:w.grownBy w' v.ownBlock):nd S w w':=λk au=>by
 obtain⟨u,e',U,ae⟩:=h k au;exact an.block k (bO U) (jk bp U (λx=>by rw [x,ae]at he;cases he))
theorem anX{B:Nat}{c:Array Value}{f:Nat × Nat}(h:rZ S w)(az:w.heap[B]? =some (.cells c e f))(he:QJ e=false)(an:w.grownBy w' (some B)):nd S w w':=λk au=>by
 obtain⟨u,e',U,ae⟩:=h k au;exact an.block k (bO U) (by have:=c1 U az (λx=>by rw [x,he]at ae;cases ae);simpa using this)
structure qc(S:List Nat)(w:World)(c0 bM c2 c3:Value)(f:Fd):Prop where
 ok:∀w' x,nd S w w'->fc x->(f=.bytes->x.b<=7)->kD prog c0 [.agg x.cells.toArray] w' (λv w''=>v=.bool (okF x f)/\Below w'.heap.size w' w'')
 wr:∀w' base B x aa,nd S w w'->fc x->iO w' base B x aa->aa.length<=1000000->base<=w'.heap.size->kD prog bM [.pointer (some ⟨B,0,none⟩)] w' (λ_ w''=>iO w'' base B x (aa++ns x f)/\ju base B w' w'')
 rd:∀w' R ay n c at_ x aa,nd S w w'->iA w' R ay n c at_ x .nilIface aa->at_<=n->kD prog c2 [.pointer (some ⟨R,0,none⟩)] w' (λ_ w''=>w'.grownBy w'' (some R)/\
  ((∃y r at2,iq x (aa.drop at_) f=some (y,r)/\iA w'' R ay n c at2 y .nilIface aa/\aa.drop at2=r/\at2<=n)\/(iq x (aa.drop at_) f=none/\∃at2 y k z,iA w'' R ay n c at2 y (mg k 0 z) aa/\at2<=n)))
 tx:∀w' x,nd S w w'->fc x->okF x f=true->Env w'->kD prog c3 [.agg x.cells.toArray] w' (λv w''=>(∃s:ByteArray,v=.string s/\s.size<=100)/\Below w'.heap.size w' w'')
theorem qc.same{c0 bM c2 c3:Value}(h:qc S w c0 bM c2 c3 f)(hb:nd S w w'):qc S w' c0 bM c2 c3 f:=
 ⟨λu x hu=>h.ok u x (hb.trans hu),λu b B x aa hu=>h.wr u b B x aa (hb.trans hu),λu R ay n c a x aa hu=>h.rd u R ay n c a x aa (hb.trans hu),λu x hu=>h.tx u x (hb.trans hu)⟩
def lI:Value->Bool
 | .func _ _ _=>true
 |_=>false
def xW(w:World)(v:Value)(f:Fd):Prop:=∃S c0 bM c2 c3 c4,v=.agg #[c0,bM,c2,c3,c4]/\rZ S w/\qc S w c0 bM c2 c3 f/\lI c0=true/\lI bM=true/\lI c2=true/\lI c3=true/\lI c4=true
theorem Tu(h:lI v=true):v.oneCell'=true:=by cases v<;>first|rfl|cases h
theorem SX:∀(k u:Nat),u<10^(k+1)->(Lib.decDigits u).length<=k+1
 | 0,u,h=>by rw [Lib.decDigits,azK (by simpa using h)];simp
 |k+1,u,h=>by
  rw [Lib.decDigits];split
  · simp
  · have:=SX k (u/10) (by rw [ayu]at h;exact aw3 (by rw [avq];exact h));simp;omega
def Pj(u:Nat):ByteArray:=⟨(Lib.itoa (u:Nat)).toArray⟩
theorem ajn{u:Nat}(hu:u<10^10):(Pj u).size<=10:=by
 have e:Lib.itoa (u:Nat)=Lib.decDigits u:=by unfold Lib.itoa;rw [atK bj];rfl
 have:=SX 9 u hu;unfold Pj;rw [e];simpa [ByteArray.size]using this
theorem ajo(w:World)(bF:Env w)(u:Nat)(hu:u<10^10):bd prog 91 [.int .i64 (u:Nat)].toArray w (λv w'=>v=.string (Pj u)/\Below w.heap.size w w'):=
 auC (Tryz.strconv_Itoa (u:Nat) bj bj w bF.pow) λe w' e9=>by
  obtain⟨bw,k,os,rfl⟩:=e9;exact⟨_,bw,rfl,(eU (atL _ w) k).trans ⟨rfl,rfl,rfl,by simp [Sort.grow],λi ai=>by have h4:i<w.heap.size:=ai;simp [Sort.grow,ay8,h4]⟩⟩
theorem aos(w:World)(bF:Env w)(r:Rg)(x:Ins)(ld:h8.size<=10)(U:hY cN (.string h8) 9 w)(ae:hY gl (cu (oG r)) 214 w)(hx:x.get r<10^10):
  bd prog 90 [.agg x.cells.toArray,.pointer (some ⟨cN,0,none⟩),.pointer (some ⟨gl,0,none⟩)].toArray w (λv w'=>(∃s:ByteArray,v=.string s/\s.size<=100)/\Below w.heap.size w w'):=by
 have bT:=ajn hx;refine mf func90 rfl 9 rfl 12 rfl (λa I=>?_);revert a;refine ad λa I=>?_;refine di I (cs:=x.cells.toArray) rfl (k:=λa aq aE aT b8 I=>?_);have aB:=aK (atL _ w) aT (atI _);have h':=(U.below aB).cell;have lW:=(ae.below aB).cell;have av:aq.cell? ⟨w.heap.size,0+sL r,none⟩=some (.int .i64 (x.get r:Nat)):=aF aE (by rw [aub];simpa using TE x r);revert a;(repeat first|(intro a I;(refine BR (λak=>Below aq.heap.size aq ak) 1 mixed bh (eU (atL _ _) 1) ?_);revert a)|refine ag ?_);intro a I;revert a;(repeat first|refine rQ ?_|refine ck (λak ar=>im awm (eG lW ar)) ?_|refine ck (λak ar=>af (eG h' ar)) ?_);intro a I;refine P4 I (λak ar=>(GM r ak _ _).mono λv w' ao=>⟨ao.1,by rw [ao.2];exact ar⟩) ⟨rfl,trivial⟩ (k:=λa I=>?_);revert a;(repeat first|refine rQ ?_|refine ck (λak ar=>af (eG av ar)) ?_);intro a I;refine amt I (λak ar=>(ajo ak ((bF.below aB).below ar) _ hx).mono λv w' ao=>⟨ao.1,ar.trans (ao.2.mono ar.size)⟩) acH ⟨rfl,trivial⟩ (k:=λa I=>?_);revert a;(repeat first|refine rQ ?_|refine ck (λak ar=>BZ rfl rfl bj) ?_);intro a I;refine tX ?_;intro ax aC;revert a;refine ad λa I=>?_;exact bc I rfl rfl ⟨⟨_,rfl,by rw [awR];omega⟩,aB.trans (aC.mono aB.size)⟩
def K8(f:Nat)(x:Ins)(b:Bool):Prop:=∀w:World,bd prog f [.agg x.cells.toArray].toArray w (λv w'=>v=.bool b/\Below w.heap.size w w')
theorem alB(x:Ins):K8 95 x true:=λw=>by
 refine cF func95 rfl 2 rfl 3 rfl (λa I=>?_);revert a;refine ad λa I=>?_;refine di I (cs:=x.cells.toArray) rfl (k:=λa aq aE aT b8 I=>?_);revert a;refine ad λa I=>?_;exact bc I rfl rfl ⟨rfl,aK (atL _ w) aT (atI _)⟩
theorem aoh(x:Ins):K8 158 x (okF x .sign):=λw=>by
 refine cF func158 rfl 5 rfl 6 rfl (λa I=>?_);revert a;refine ad λa I=>?_;refine di I (cs:=x.cells.toArray) rfl (k:=λa aq aE aT b8 I=>?_);have c4:aq.cell? ⟨w.heap.size,0+4,none⟩=some (.int .u64 (x.bK:Nat)):=aF aE rfl;by_cases h:x.bK<=1<;>
 ( (revert a;(repeat first|refine ag ?_|refine J (af c4) ?_);intro a I)
   exact bc I rfl rfl ⟨by show Value.bool _=_;simp [okF,h],aK (atL _ w) aT (atI _)⟩)
theorem aby(x:Ins)(hx:fc x)(hb:x.b<=7):K8 157 x (okF x .bytes):=λw=>by
 refine cF func157 rfl 18 rfl 19 rfl (λa I=>?_);revert a;refine ad λa I=>?_;refine di I (cs:=x.cells.toArray) rfl (k:=λa aq aE aT b8 I=>?_);have c2:aq.cell? ⟨w.heap.size,0+2,none⟩=some (.int .i64 (x.b:Nat)):=aF aE rfl;have c3:aq.cell? ⟨w.heap.size,0+3,none⟩=some (.int .i64 (x.n:Nat)):=aF aE rfl;have av:¬1<=x.n\/(1<=x.n/\¬x.n<=8)\/(1<=x.n/\x.n<=8/\¬x.b+x.n<=8)\/(1<=x.n/\x.n<=8/\x.b+x.n<=8):=bj
 rcases av with U|⟨U,ae⟩|⟨U,ae,aM⟩|⟨U,ae,aM⟩<;>
 ( (revert a;(repeat first|refine ag ?_|refine J (af c2) ?_|refine J (af c3) ?_);intro a I)
   exact bc I rfl rfl ⟨by show Value.bool _=_;simp [okF, *],aK (atL _ w) aT (atI _)⟩)
theorem X8(w:World){base B:Nat}{aa:List Nat}(hx:fc x)(h:iO w base B x aa)(aN:aa.length<=1000000)(dk:base<=w.heap.size):
  bd prog 96 [.pointer (some ⟨B,0,none⟩)].toArray w (λ_ w'=>iO w' base B x (aa++jn x.bK)/\ju base B w w'):=by
 obtain⟨⟨ay,cap,az,aX⟩,cU⟩:=id h;have c5:w.cell? ⟨B,0+1+4,none⟩=some (.int .u64 (x.bK:Nat)):=aF az rfl;refine cF func96 rfl 8 rfl 9 rfl (λa I=>?_);revert a;(repeat first|refine ag ?_|refine J (af c5) ?_);intro a I;refine aQ I (aaz w x.bK hx.bK h aN dk) λa v aq ab I=>?_;revert a;refine ad λa I=>?_;exact lo I rfl ab
theorem aol(w:World){base B:Nat}{aa:List Nat}(hx:fc x)(h:iO w base B x aa)(aN:aa.length<=1000000)(dk:base<=w.heap.size):
  bd prog 161 [.pointer (some ⟨B,0,none⟩)].toArray w (λ_ w'=>iO w' base B x (aa++jn x.n)/\ju base B w w'):=by
 obtain⟨⟨ay,cap,az,aX⟩,cU⟩:=id h;have c4:w.cell? ⟨B,0+1+3,none⟩=some (.int .i64 (x.n:Nat)):=aF az rfl;have ba:=hx.n;have hw:IntKind.u64.wrap (x.n:Nat)=(x.n:Int):=by
  have e:IntKind.u64.wrap (x.n:Nat)=(x.n:Int)%18446744073709551616:=rfl;rw [e];omega
 refine cF func161 rfl 9 rfl 10 rfl (λa I=>?_);revert a;(repeat first|refine ag ?_|refine J (e8 (aA _ _ rfl) (aA _ _ rfl) rfl hw) ?_|refine J (af c4) ?_);intro a I;refine aQ I (aaz w x.n bj h aN dk) λa v aq ab I=>?_;revert a;refine ad λa I=>?_;exact lo I rfl ab
theorem X9(w:World){n c at_:Nat}{aa:List Nat}(h:iA w R ay n c at_ x .nilIface aa)(ha:at_<=n):
   bd prog 98 [.pointer (some ⟨R,0,none⟩)].toArray w (λ_ w'=>w.grownBy w' (some R)/\
   ((∃y r at2,iq x (aa.drop at_) .num=some (y,r)/\iA w' R ay n c at2 y .nilIface aa/\aa.drop at2=r/\at2<=n)\/(iq x (aa.drop at_) .num=none/\∃at2 y k z,iA w' R ay n c at2 y (mg k 0 z) aa/\at2<=n))):=by
 refine cF func98 rfl 7 rfl 8 rfl (λa I=>?_);revert a;refine ad λa I=>?_;refine aQ I (Y2 w h ha) λa v aq ab I=>?_;obtain⟨an,⟨u,r,at2,aI,rfl,bY,aj,qq⟩|⟨aI,at2,k,y,rfl,bY,qq⟩⟩:=ab
 · revert a;refine ad λa I=>?_;refine cr I (aw _ _ rfl) bY.cells (i:=0+2+4) (by show 0+2+4<8;decide) rfl rfl rfl (k:=λa a6 bR bz eE I=>?_);revert a;refine ad λa I=>?_;exact lo I rfl ⟨gL an bz,.inl ⟨{ x with bK:=u },r,at2,by unfold iq;rw [aI];rfl,bY.set bR bz,aj,qq⟩⟩
 · revert a;refine ad λa I=>?_;refine cr I (aw _ _ rfl) bY.cells (i:=0+2+4) (by show 0+2+4<8;decide) rfl rfl rfl (k:=λa a6 bR bz eE I=>?_);revert a;refine ad λa I=>?_;exact lo I rfl ⟨gL an bz,.inr ⟨by unfold iq;rw [aI];rfl,at2,{ x with bK:=0 },k,y,bY.set (at2:=at2) (y:={ x with bK:=0 }) bR bz,qq⟩⟩
theorem aom(w:World){n c at_:Nat}{aa:List Nat}(h:iA w R ay n c at_ x .nilIface aa)(ha:at_<=n):
   bd prog 162 [.pointer (some ⟨R,0,none⟩)].toArray w (λ_ w'=>w.grownBy w' (some R)/\
   ((∃y r at2,iq x (aa.drop at_) .skip=some (y,r)/\iA w' R ay n c at2 y .nilIface aa/\aa.drop at2=r/\at2<=n)\/(iq x (aa.drop at_) .skip=none/\∃at2 y k z,iA w' R ay n c at2 y (mg k 0 z) aa/\at2<=n))):=by
 have hw:∀u:Nat,IntKind.i64.wrap ((min u 16385:Nat):Int)=((min u 16385:Nat):Int):=λu=>aw4 _ bj;have va:∀u:Nat,(if (16385:Int) <((u:Nat):Int)then 16385 else((u:Nat):Int))=((min u 16385:Nat):Int):=λu=>by split<;>omega
 refine cF func162 rfl 9 rfl 10 rfl (λa I=>?_);revert a;refine ad λa I=>?_;refine aQ I (Y2 w h ha) λa v aq ab I=>?_;obtain⟨an,⟨u,r,at2,aI,rfl,bY,aj,qq⟩|⟨aI,at2,k,y,rfl,bY,qq⟩⟩:=ab
 · refine st I (uE H3 (atW (Value.int .u64) (va u))) rfl (λa I=>?_);revert a;(repeat first|refine ag ?_|refine J (e8 (aA _ _ rfl) (aA _ _ rfl) rfl (hw u)) ?_);intro a I;refine cr I (aw _ _ rfl) bY.cells (i:=0+2+3) (by show 0+2+3<8;decide) rfl rfl rfl (k:=λa a6 bR bz eE I=>?_);revert a;refine ad λa I=>?_;exact lo I rfl ⟨gL an bz,.inl ⟨{ x with n:=min u 16385 },r,at2,by unfold iq;rw [aI];rfl,bY.set bR bz,aj,qq⟩⟩
 · refine st I (uE H3 (atW (Value.int .u64) (va 0))) rfl (λa I=>?_);revert a;(repeat first|refine ag ?_|refine J (e8 (aA _ _ rfl) (aA _ _ rfl) rfl (hw 0)) ?_);intro a I;refine cr I (aw _ _ rfl) bY.cells (i:=0+2+3) (by show 0+2+3<8;decide) rfl rfl rfl (k:=λa a6 bR bz eE I=>?_);revert a;refine ad λa I=>?_;exact lo I rfl ⟨gL an bz,.inr ⟨by unfold iq;rw [aI];rfl,at2,{ x with n:=min 0 16385 },k,y,bY.set bR bz,qq⟩⟩
theorem alD(w:World)(bF:Env w)(x:Ins)(hx:fc x):bd prog 100 [.agg x.cells.toArray].toArray w (λv w'=>(∃s:ByteArray,v=.string s/\s.size<=100)/\Below w.heap.size w w'):=by
 refine cF func100 rfl 6 rfl 7 rfl (λa I=>?_);revert a;refine ad λa I=>?_;refine di I (cs:=x.cells.toArray) rfl (k:=λa aq aE aT b8 I=>?_);have aB:=aK (atL _ w) aT (atI _);have c4:aq.cell? ⟨w.heap.size,0+4,none⟩=some (.int .u64 (x.bK:Nat)):=aF aE rfl;revert a;(repeat first|refine ag ?_|refine J (af c4) ?_);intro a I;refine aQ I (aeN aq (bF.below aB) x.bK hx.bK) λa v ax ab I=>?_;obtain⟨⟨s,rfl,aG⟩,hb⟩:=ab;have ae:(⟨#[48,120]⟩:ByteArray).size=2:=rfl;revert a;(repeat first|refine ag ?_|refine J (BZ rfl rfl bj) ?_);intro a I;exact bc I rfl rfl ⟨⟨_,rfl,by rw [awR];omega⟩,aB.trans (hb.mono aB.size)⟩
theorem aoi(w:World)(x:Ins):bd prog 159 [.agg x.cells.toArray].toArray w (λv w'=>(∃s:ByteArray,v=.string s/\s.size<=100)/\Below w.heap.size w w'):=by
 refine cF func159 rfl 5 rfl 6 rfl (λa I=>?_);revert a;refine ad λa I=>?_;refine di I (cs:=x.cells.toArray) rfl (k:=λa aq aE aT b8 I=>?_);have aB:=aK (atL _ w) aT (atI _);have c4:aq.cell? ⟨w.heap.size,0+4,none⟩=some (.int .u64 (x.bK:Nat)):=aF aE rfl;by_cases h:x.bK=1<;>
 ( (revert a;(repeat first|refine ag ?_|refine J (af c4) ?_);intro a I)
   exact bc I rfl rfl ⟨⟨_,rfl,bk⟩,aB⟩)
theorem s'{f:Nat}{R:Value->World->Prop}(bC:dc prog f)(h:bd prog f args.toArray w R):kD prog (cu f) args w R:=⟨f,#[],#[],rfl,bC,by simpa using h⟩
theorem alE(w:World):qc [] w (cu 95) (cu 96) (cu 98) (cu 100) .num:=
 ⟨λw' x _ _ _=>s' acI (alB x w'),λw' base B x aa _ hx h aN hb=>s' Si (X8 w' hx h aN hb),λw' R ay n c a x aa _ h ha=>s' Sj (X9 w' h ha),λw' x _ hx _ bF=>s' abK (alD w' bF x hx)⟩
theorem aoj(w:World):qc [] w (cu 158) (cu 96) (cu 98) (cu 159) .sign:=
 ⟨λw' x _ _ _=>s' ab0 (aoh x w'),λw' base B x aa _ hx h aN hb=>s' Si (X8 w' hx h aN hb),λw' R ay n c a x aa _ h ha=>s' Sj (X9 w' h ha),λw' x _ _ _ _=>s' ab1 (aoi w' x)⟩
def ew(f:Nat)(aR:List Nat):Value:=.func (.func f) #[] (aR.map λp=>Value.pointer (some ⟨p,0,none⟩)).toArray
theorem HN{f:Nat}{aR:List Nat}{R:Value->World->Prop}(bC:dc prog f)(h:bd prog f (args++aR.map λp=>Value.pointer (some ⟨p,0,none⟩)).toArray w R):kD prog (ew f aR) args w R:=⟨f,#[],_,rfl,bC,by simpa using h⟩
theorem aot{r:Rg}{bq ai:Nat}(fa:ai<=65536)(ld:h8.size<=10)(U:hY cN (cu (oG r)) 214 w)(ae:hY gl (.int .i64 (bq:Nat)) 3 w)(aM:hY gu (.int .i64 (ai:Nat)) 3 w)(cc:hY fu (.string h8) 9 w):
   qc [cN,gl,gu,fu] w (ew 86 [cN,gl,gu]) (ew 87 [cN]) (ew 88 [cN]) (ew 90 [fu,cN]) (.sm r bq ai):=by
 have h':∀{w':World},nd [cN,gl,gu,fu] w w'->hY cN (cu (oG r)) 214 w':=λhb=>(hb cN bl).trans U;have lW:∀{w':World},nd [cN,gl,gu,fu] w w'->hY gl (.int .i64 (bq:Nat)) 3 w':=λhb=>(hb gl bl).trans ae;have pO:∀{w':World},nd [cN,gl,gu,fu] w w'->hY gu (.int .i64 (ai:Nat)) 3 w':=λhb=>(hb gu bl).trans aM;have vn:∀{w':World},nd [cN,gl,gu,fu] w w'->hY fu (.string h8) 9 w':=λhb=>(hb fu bl).trans cc;refine⟨λw' x hb _ _=>HN acD (aop w' r bq ai x (h' hb) (lW hb) (pO hb)),λw' base B x aa hb _ h aN dk=>HN acE (aoq w' r (h' hb) h aN dk),λw' R ay n c a x aa hb h ha=>HN acF ((aor w' r (h' hb) h ha).mono λv w'' ab=>⟨ab.1,?_⟩),λw' x hb _ d' bF=>HN acG (aos w' bF r x ld (vn hb) (h' hb) ?_)⟩
 · rcases ab.2 with ⟨b,aB,bY⟩|⟨hle,bY⟩
   · have bu:=(atY.1 aB).1;have aI:aa.drop a=b::aa.drop (a+1):=by
      rw [aua bu];rw [atT bu]at aB;rw [aud aB]
     exact .inl ⟨x.put b r,_,a+1,by rw [aI];rfl,bY,rfl,by have:=h.len;omega⟩
   · have aI:=ava (by rw [h.len];exact hle);exact .inr ⟨by rw [aI];rfl,a,x.put 0 r,2,n,bY,ha⟩
 · simp only [okF,atQ]at d';omega
theorem abA{c0 bM c2 c3:Value}(h:qc S w c0 bM c2 c3 (.sm .n 1 8)):qc S w (cu 157) bM c2 c3 .bytes:=
 ⟨λw' x _ hx hb=>s' abZ (aby x hx (hb rfl) w'),h.wr,λw' R ay n c a x aa hb bY ha=>h.rd w' R ay n c a x aa hb bY ha,λw' x hb hx d' bF=>h.tx w' x hb hx (by simp only [okF,atQ]at d' ⊢;exact⟨d'.1,d'.2.1⟩) bF⟩
theorem aon{c0 bM c2 c3:Value}(h:qc S w c0 bM c2 c3 (.sm .n 0 16384)):qc S w c0 (cu 161) (cu 162) c3 .skip:=
 ⟨λw' x hb hx _=>(h.ok w' x hb hx (λe=>by cases e)).mono λv w'' ao=>⟨by rw [ao.1];simp [okF,Ins.get],ao.2⟩,λw' base B x aa _ hx h aN hb=>s' ab2 (aol w' hx h aN hb),λw' R ay n c a x aa _ h ha=>s' ab3 (aom w' h ha),λw' x hb hx d' bF=>h.tx w' x hb hx (by simp only [okF,atQ]at d' ⊢;exact⟨auc _,d'⟩) bF⟩
theorem Gt{c0 bM c2 c3 c4:Value}(h:qc S w c0 bM c2 c3 f)(bS:rZ S w)(fD:lI c0=true:=by rfl)(bw:lI bM=true:=by rfl)(bf:lI c2=true:=by rfl)(dj:lI c3=true:=by rfl)(fl:lI c4=true:=by rfl):xW w (.agg #[c0,bM,c2,c3,c4]) f:=⟨S,c0,bM,c2,c3,c4,rfl,bS,h,fD,bw,bf,dj,fl⟩
theorem ZU(w:World):rZ [] w:=λk au=>by cases au
theorem yh{c0 bM c2 c3 c4:Value}(fD:lI c0=true)(bw:lI bM=true)(bf:lI c2=true)(dj:lI c3=true)(fl:lI c4=true):∀v∈#[c0,bM,c2,c3,c4],v.oneCell'=true:=by
 intro v ao;simp at ao;rcases ao with rfl|rfl|rfl|rfl|rfl<;>(apply Tu;assumption)
structure s4(w:World)(r:Rg)(bq ai:Nat)(h8:ByteArray)(cN gl gu fu:Nat):Prop where
 U:hY cN (cu (oG r)) 214 w
 ae:hY gl (.int .i64 (bq:Nat)) 3 w
 aM:hY gu (.int .i64 (ai:Nat)) 3 w
 cc:hY fu (.string h8) 9 w
theorem s4.below{r:Rg}{bq ai:Nat}(h:s4 w r bq ai h8 cN gl gu fu)(hb:Below w.heap.size w w'):s4 w' r bq ai h8 cN gl gu fu:=⟨h.U.below hb,h.ae.below hb,h.aM.below hb,h.cc.below hb⟩
theorem s4.kept{r:Rg}{bq ai B:Nat}(h:s4 w r bq ai h8 cN gl gu fu){c:Array Value}(az:w.heap[B]? =some (.cells c 80 (0,0)))(an:w.grownBy w' (some B)):s4 w' r bq ai h8 cN gl gu fu:=
 ⟨aD h.U an (by simpa using c1 h.U az bk),aD h.ae an (by simpa using c1 h.ae az bk),aD h.aM an (by simpa using c1 h.aM az bk),aD h.cc an (by simpa using c1 h.cc az bk)⟩
theorem s4.fd{r:Rg}{bq ai:Nat}(h:s4 w r bq ai h8 cN gl gu fu)(fa:ai<=65536)(ld:h8.size<=10):qc [cN,gl,gu,fu] w (ew 86 [cN,gl,gu]) (ew 87 [cN]) (ew 88 [cN]) (ew 90 [fu,cN]) (.sm r bq ai):=aot fa ld h.U h.ae h.aM h.cc
theorem s4.sup{r:Rg}{bq ai:Nat}(h:s4 w r bq ai h8 cN gl gu fu):rZ [cN,gl,gu,fu] w:=λk au=>by
 simp only [au1,avE,axM]at au;rcases au with rfl|rfl|rfl|rfl
 · exact⟨_,_,h.U,rfl⟩
 · exact⟨_,_,h.ae,rfl⟩
 · exact⟨_,_,h.aM,rfl⟩
 · exact⟨_,_,h.cc,rfl⟩
theorem QE(w:World)(r:Rg)(bq ai:Nat)(h8:ByteArray):bd prog 43 [cu (oG r),.int .i64 (bq:Nat),.int .i64 (ai:Nat),.string h8].toArray w (λv w'=>(∃cN gl gu fu:Nat,v=.agg #[ew 86 [cN,gl,gu],ew 87 [cN],ew 88 [cN],ew 90 [fu,cN],ew 92 [fu,cN]]/\s4 w' r bq ai h8 cN gl gu fu)/\Below w.heap.size w w'):=by
 refine wE func43 rfl 11 rfl 15 rfl (λa I=>?_);revert a;refine ad λa I=>?_;refine di I (cs:=#[cu (oG r)]) rfl (k:=λa aq aE aT b8 I=>?_);refine di I (cs:=#[.int .i64 (bq:Nat)]) rfl (k:=λa ax aP aS cZ I=>?_);refine di I (cs:=#[.int .i64 (ai:Nat)]) rfl (k:=λa a6 bR bz eE I=>?_);refine di I (cs:=#[.string h8]) rfl (k:=λa bZ bX bD eY I=>?_);refine b6 I jM λa bN bB br dw I=>?_;revert a;(repeat first|refine ag ?_|refine J (wm (vs:=[.pointer (some ⟨w.heap.size,0,none⟩),.pointer (some ⟨aq.heap.size,0,none⟩),.pointer (some ⟨ax.heap.size,0,none⟩)]) ⟨rfl,rfl,rfl,trivial⟩) ?_|refine J (wm (vs:=[.pointer (some ⟨a6.heap.size,0,none⟩),.pointer (some ⟨w.heap.size,0,none⟩)]) ⟨rfl,rfl,trivial⟩) ?_|refine J (wm (vs:=[.pointer (some ⟨w.heap.size,0,none⟩)]) ⟨rfl,trivial⟩) ?_|refine J (cA (vs:=[(0,ew 86 [w.heap.size,aq.heap.size,ax.heap.size]),(1,ew 87 [w.heap.size]),(2,ew 88 [w.heap.size]),(3,ew 90 [a6.heap.size,w.heap.size]),(4,ew 92 [a6.heap.size,w.heap.size])]) (cells:=#[ew 86 [w.heap.size,aq.heap.size,ax.heap.size],ew 87 [w.heap.size],ew 88 [w.heap.size],ew 90 [a6.heap.size,w.heap.size],ew 92 [a6.heap.size,w.heap.size]]) bh ⟨rfl,rfl,rfl,rfl,rfl,rfl,rfl,rfl,rfl,rfl,trivial⟩) ?_);intro a I;refine cE I (cs:=#[ew 86 [w.heap.size,aq.heap.size,ax.heap.size],ew 87 [w.heap.size],ew 88 [w.heap.size],ew 90 [a6.heap.size,w.heap.size],ew 92 [a6.heap.size,w.heap.size]]) bB (yh rfl rfl rfl rfl rfl) λa bQ cI cM fm I=>?_;have hM:hY w.heap.size (cu (oG r)) 214 bQ:=aD (aD (aD (aD (aD aE aS bl) bz bl) bD bl) br bl) cM bm;have lD:hY aq.heap.size (.int .i64 (bq:Nat)) 3 bQ:=aD (aD (aD (aD aP bz bl) bD bl) br bl) cM bm;have hi:hY ax.heap.size (.int .i64 (ai:Nat)) 3 bQ:=aD (aD (aD bR bD bl) br bl) cM bm;have qj:hY a6.heap.size (.string h8) 9 bQ:=aD (aD bX br bl) cM bm;have hb:=(((aK (aK (aK (atL _ w) aT (atI _)) aS bj) bz bj).grown bD bj (λk au=>by cases au)).grown br bj (λk au=>by cases au)).grown cM bj (λk au=>by cases au;omega);revert a;refine ad λa I=>?_;exact ff I rfl (agg _ rfl) (aw _ _ rfl) cI rfl ⟨⟨_,_,_,_,rfl,⟨hM,lD,hi,qj⟩⟩,hb⟩
theorem Bj(w:World)(r:Rg)(bq ai:Nat)(h8:ByteArray)(fa:ai<=65536)(ld:h8.size<=10):bd prog 43 [cu (oG r),.int .i64 (bq:Nat),.int .i64 (ai:Nat),.string h8].toArray w (λv w'=>xW w' v (.sm r bq ai)/\Below w.heap.size w w'):=
 (QE w r bq ai h8).mono λv w' h=>by
  obtain⟨⟨cN,gl,gu,fu,rfl,bC⟩,hb⟩:=h;exact⟨Gt (bC.fd fa ld) bC.sup,hb⟩
theorem Yc(w:World):bd prog 46 #[] w (λv w'=>v=.agg #[cu 95,cu 96,cu 98,cu 100,cu 102]/\Below w.heap.size w w'):=by
 refine yd func46 rfl 2 rfl 2 rfl (λa I=>?_);revert a;refine ad λa I=>?_;refine b6 I jM λa aq aE aT b8 I=>?_;revert a;(repeat first|refine ag ?_|refine J (cA (vs:=[(0,cu 95),(1,cu 96),(2,cu 98),(3,cu 100),(4,cu 102)]) (cells:=#[cu 95,cu 96,cu 98,cu 100,cu 102]) bh ⟨rfl,rfl,rfl,rfl,rfl,rfl,rfl,rfl,rfl,rfl,trivial⟩) ?_);intro a I;refine cE I (cs:=#[cu 95,cu 96,cu 98,cu 100,cu 102]) aE (yh rfl rfl rfl rfl rfl) λa ax aP aS cZ I=>?_;revert a;refine ad λa I=>?_;exact ff I rfl (agg _ rfl) (aw _ _ rfl) aP rfl ⟨rfl,aK (aK (atL _ w) aT (atI _)) aS bj⟩
theorem abB(w:World):bd prog 105 #[] w (λv w'=>xW w' v .bytes/\Below w.heap.size w w'):=by
 refine yd func105 rfl 5 rfl 5 rfl (λa I=>?_);revert a;refine ad λa I=>?_;refine b6 I jM λa aq aE aT b8 I=>?_;have aB:=aK (atL _ w) aT (atI _);revert a;refine ad λa I=>?_;refine aQ I (QE aq .n 1 8 ⟨#[]⟩) λa v ax ab I=>?_;obtain⟨⟨cN,gl,gu,fu,rfl,bC⟩,aC⟩:=ab;have oj:=(aC.block _ (bO aE)).trans aE;have ey:=aB.trans (aC.mono aB.size);have kt:=bO oj;have eB:=ey.size;refine b6 I jM λa a6 bR bz eE I=>?_;refine cE I (cs:=#[ew 86 [cN,gl,gu],ew 87 [cN],ew 88 [cN],ew 90 [fu,cN],ew 92 [fu,cN]]) bR (yh rfl rfl rfl rfl rfl) λa bZ bX bD eY I=>?_;have nv:=aK (aK (atL _ ax) bz (atI _)) bD bj;revert a;refine ad λa I=>?_;refine cr I (aw _ _ rfl) bX (i:=0+0) (by show 0+0<5;decide) rfl rfl rfl (k:=λa bN bB br dw I=>?_);replace bB:bN.heap[ax.heap.size]? =some (.cells #[cu 157,ew 87 [cN],ew 88 [cN],ew 90 [fu,cN],ew 92 [fu,cN]] 80 (0,0)):=bB;have Af:=aK nv br bj;have Ak:=(Af.block _ kt).trans oj;have av:∀j v,(#[cu 157,ew 87 [cN],ew 88 [cN],ew 90 [fu,cN],ew 92 [fu,cN]]:Array Value)[j]? =some v->bN.cell? ⟨ax.heap.size,0+j,none⟩=some v:=λj v ah=>aF bB (by rw [aub];exact ah);revert a;(repeat first|refine ag ?_|refine J (bJ av) ?_);intro a I;refine cE I (cs:=#[cu 157,ew 87 [cN],ew 88 [cN],ew 90 [fu,cN],ew 92 [fu,cN]]) Ak (yh rfl rfl rfl rfl rfl) λa cm Ft Ap V' I=>?_;have EV:=aK (ey.trans (Af.mono ey.size)) Ap bj;have Cy:=(bC.below Af).kept Ak Ap;revert a;refine ad λa I=>?_;exact ff I rfl (agg _ rfl) (aw _ _ rfl) Ft rfl ⟨Gt (abA (Cy.fd bk bk)) Cy.sup,EV⟩
theorem ZE(w:World):bd prog 107 #[] w (λv w'=>xW w' v .skip/\Below w.heap.size w w'):=by
 refine yd func107 rfl 6 rfl 6 rfl (λa I=>?_);revert a;refine ad λa I=>?_;refine b6 I jM λa aq aE aT b8 I=>?_;have aB:=aK (atL _ w) aT (atI _);revert a;refine ad λa I=>?_;refine aQ I (QE aq .n 0 16384 ⟨#[]⟩) λa v ax ab I=>?_;obtain⟨⟨cN,gl,gu,fu,rfl,bC⟩,aC⟩:=ab;have oj:=(aC.block _ (bO aE)).trans aE;have ey:=aB.trans (aC.mono aB.size);have kt:=bO oj;have eB:=ey.size;refine b6 I jM λa a6 bR bz eE I=>?_;refine cE I (cs:=#[ew 86 [cN,gl,gu],ew 87 [cN],ew 88 [cN],ew 90 [fu,cN],ew 92 [fu,cN]]) bR (yh rfl rfl rfl rfl rfl) λa bZ bX bD eY I=>?_;have nv:=aK (aK (atL _ ax) bz (atI _)) bD bj;revert a;refine ad λa I=>?_;refine cr I (aw _ _ rfl) bX (i:=0+1) (by show 0+1<5;decide) rfl rfl rfl (k:=λa bN bB br dw I=>?_);replace bB:bN.heap[ax.heap.size]? =some (.cells #[ew 86 [cN,gl,gu],cu 161,ew 88 [cN],ew 90 [fu,cN],ew 92 [fu,cN]] 80 (0,0)):=bB;have Af:=aK nv br bj;revert a;refine ad λa I=>?_;refine cr I (aw _ _ rfl) bB (i:=0+2) (by show 0+2<5;decide) rfl rfl rfl (k:=λa bQ cI cM fm I=>?_);replace cI:bQ.heap[ax.heap.size]? =some (.cells #[ew 86 [cN,gl,gu],cu 161,cu 162,ew 90 [fu,cN],ew 92 [fu,cN]] 80 (0,0)):=cI;have E4:=aK Af cM bj;have Ak:=(E4.block _ kt).trans oj;have av:∀j v,(#[ew 86 [cN,gl,gu],cu 161,cu 162,ew 90 [fu,cN],ew 92 [fu,cN]]:Array Value)[j]? =some v->bQ.cell? ⟨ax.heap.size,0+j,none⟩=some v:=λj v ah=>aF cI (by rw [aub];exact ah);revert a;(repeat first|refine ag ?_|refine J (bJ av) ?_);intro a I;refine cE I (cs:=#[ew 86 [cN,gl,gu],cu 161,cu 162,ew 90 [fu,cN],ew 92 [fu,cN]]) Ak (yh rfl rfl rfl rfl rfl) λa cm Ft Ap V' I=>?_;have EV:=aK (ey.trans (E4.mono ey.size)) Ap bj;have Cy:=(bC.below E4).kept Ak Ap;revert a;refine ad λa I=>?_;exact ff I rfl (agg _ rfl) (aw _ _ rfl) Ft rfl ⟨Gt (aon (Cy.fd bk bk)) Cy.sup,EV⟩
theorem alF(w:World):bd prog 46 #[] w (λv w'=>xW w' v .num/\Below w.heap.size w w'):=(Yc w).mono λv w' h=>⟨by rw [h.1];exact Gt (alE _) (ZU _),h.2⟩
theorem aok(w:World):bd prog 106 #[] w (λv w'=>xW w' v .sign/\Below w.heap.size w w'):=by
 refine yd func106 rfl 7 rfl 7 rfl (λa I=>?_);revert a;refine ad λa I=>?_;refine b6 I jM λa aq aE aT b8 I=>?_;have aB:=aK (atL _ w) aT (atI _);revert a;refine ad λa I=>?_;refine aQ I (Yc aq) λa v ax ab I=>?_;obtain⟨rfl,aC⟩:=ab;have oj:=(aC.block _ (bO aE)).trans aE;have ey:=aB.trans (aC.mono aB.size);have kt:=bO oj;have eB:=ey.size;refine b6 I jM λa a6 bR bz eE I=>?_;refine cE I (cs:=#[cu 95,cu 96,cu 98,cu 100,cu 102]) bR (yh rfl rfl rfl rfl rfl) λa bZ bX bD eY I=>?_;have nv:=aK (aK (atL _ ax) bz (atI _)) bD bj;revert a;refine ad λa I=>?_;refine cr I (aw _ _ rfl) bX (i:=0+0) (by show 0+0<5;decide) rfl rfl rfl (k:=λa bN bB br dw I=>?_);replace bB:bN.heap[ax.heap.size]? =some (.cells #[cu 158,cu 96,cu 98,cu 100,cu 102] 80 (0,0)):=bB;have Af:=aK nv br bj;revert a;refine ad λa I=>?_;refine cr I (aw _ _ rfl) bB (i:=0+3) (by show 0+3<5;decide) rfl rfl rfl (k:=λa bQ cI cM fm I=>?_);replace cI:bQ.heap[ax.heap.size]? =some (.cells #[cu 158,cu 96,cu 98,cu 159,cu 102] 80 (0,0)):=cI;have E4:=aK Af cM bj;revert a;refine ad λa I=>?_;refine cr I (aw _ _ rfl) cI (i:=0+4) (by show 0+4<5;decide) rfl rfl rfl (k:=λa bt c8 cf fZ I=>?_);replace c8:bt.heap[ax.heap.size]? =some (.cells #[cu 158,cu 96,cu 98,cu 159,cu 160] 80 (0,0)):=c8;have UH:=aK E4 cf bj;have Ak:=(UH.block _ kt).trans oj;have av:∀j v,(#[cu 158,cu 96,cu 98,cu 159,cu 160]:Array Value)[j]? =some v->bt.cell? ⟨ax.heap.size,0+j,none⟩=some v:=λj v ah=>aF c8 (by rw [aub];exact ah);revert a;(repeat first|refine ag ?_|refine J (bJ av) ?_);intro a I;refine cE I (cs:=#[cu 158,cu 96,cu 98,cu 159,cu 160]) Ak (yh rfl rfl rfl rfl rfl) λa cm Ft Ap V' I=>?_;have EV:=aK (ey.trans (UH.mono ey.size)) Ap bj;revert a;refine ad λa I=>?_;exact ff I rfl (agg _ rfl) (aw _ _ rfl) Ft rfl ⟨Gt (aoj _) (ZU _),EV⟩
end
section
variable {P:Program} {ops:Array Oper} {Q:Exit->Act->World->Prop} {a:Act} {w w':World} {rest:List Oper} {N:Nat} {l:List (Nat × Value)}
theorem oT{t:TypeId}{n sz:Nat}{aR:List (Nat × Operand)}(us:List (Array Value)){z:Value}{fQ:Nat}(b0:P.underlying t=some (.slice e))(ai:(P.info? e).map (λi=>(i.zero,i.size,i.bytes))=some (some z,sz,fQ))(aJ:0<sz)(U:n*sz<=16777216)(iS:0<n)(ba:us.length=n)(yG:∀u∈us,u.size=sz)(ao:rV l aR (((us.map Value.agg).zipIdx 0).map λx=>(x.2,x.1))):
  bL P l w (.buildSlice t n aR.toArray) ty (.slice (some ⟨w.heap.size,0,none⟩) n n) (w.alloc (.cells (us.flatMap λu=>u.toList).toArray e)):=by
 intro cC aY d pos bx g;obtain⟨i,g1,g2,g3,g4⟩:=avH ai;subst g3;have bw:=rV.map aY ao;have bC:=Great.fill_whole (s:=i.size) aJ (us.map Value.agg) ((Array.range (n*i.size)).map (z.cells[· %z.cells.size]!)) (by intro v ao;obtain⟨u,hu,rfl⟩:=axh.1 ao;exact yG u hu) (by simp [ba]);have bf:((us.map Value.agg).flatMap λv=>v.cells.toList)=us.flatMap λu=>u.toList:=by
  rw [List.flatMap_map];rfl
 rw [bf]at bC;have aM:n*i.size≠0:=Nat.mul_ne_zero bj bj;have aj:=run_buildSlice (P:=P) w t e n (((us.map Value.agg).zipIdx 0).map λx=>(x.2,x.1)).toArray _ i z b0 g1 g2 bj aM (by simpa using bC);simp only [execOp,awy,auu];rw [bw,aj];rfl
theorem qO{α:Type}(w:World)(sz:Nat)(enc:α->List Value)(he:∀x,(enc x).length=sz)(xs:List α)(e:TypeId)(cs:Array Value)(av:cs=(xs.flatMap enc).toArray):dA (w.alloc (.cells cs e)) (some ⟨w.heap.size,0,none⟩) sz enc xs:=by
 subst av;intro i ai;refine⟨_,_,rfl,λq v aZ=>aF (auE w _) ?_⟩;have bu:q<sz:=by
  have:=(atY.1 aZ).1;rw [he]at this;exact this
 have:=flat_get he xs i ai q bu;rw [awg,aub,this];exact aZ
end
section
variable {P:Program} {ops:Array Oper} {Q:Exit->Act->World->Prop} {a:Act} {w w':World} {rest:List Oper} {N:Nat} {l:List (Nat × Value)}
theorem dA.drop{α:Type}{sz:Nat}{enc:α->List Value}{xs:List α}(h:dA w ay sz enc xs)(i m:Nat)(hm:xs.length<=m):dA w (if m=i then ay else ay.map (·.add (i*sz))) sz enc (xs.drop i):=by
 intro j ah;rw [atU]at ah;obtain⟨b,o,rfl,av⟩:=h (i+j) bj;rw [atK bj];refine⟨b,o+i*sz,by simp [addr_add],λq v aZ=>?_⟩;rw [List.getElem_drop]at aZ;have:=av q v aZ
 rwa [av7,<-awb]at this
theorem dA.take{α:Type}{sz:Nat}{enc:α->List Value}{xs:List α}(h:dA w ay sz enc xs)(n:Nat):dA w ay sz enc (xs.take n):=by
 intro j ah;rw [aw8]at ah;obtain⟨b,o,e,av⟩:=h j bj;exact⟨b,o,e,λq v aZ=>av q v (by rw [List.getElem_take]at aZ;exact aZ)⟩
theorem B9{α:Type}{enc:α->List Value}{sz:Nat}(he:∀x,(enc x).length=sz):∀xs:List α,(xs.flatMap enc).length=xs.length*sz
 | []=>by simp
 |x::xs=>by simp [he,B9 he xs,av7,axi]
theorem G8(h:Fr N l a){α:Type}{enc:α->List Value}{ys:List α}{s7:Option Addr}{m eS sz:Nat}{d:Nat}{s x:Operand}{z:Value}{t ty:TypeId}{pos:String}{bx:Array Edge}{bytes n base cap:Nat}(he:∀x,(enc x).length=sz)(aJ:0<sz)(b0:P.underlying t=some (.slice e))(ai:(P.info? e).map (λi=>(i.zero,i.size,i.bytes))=some (some z,sz,bytes))(bA:z.cells.size=sz)(aX:w.ownsRow base e sz (.slice ay n cap) n xs)(vk:ys.length=m)(ab:dA w s7 sz enc ys)(U:∀y,∀v∈enc y,v.oneCell'=true)(lM:(n+m)*bytes<=140737488355328)(hm:n+m<=maxLen)(mm:base<=w.heap.size)(aG:a7 l s (.slice ay n cap):=by exact rfl)(hx:a7 l x (.slice s7 m eS):=by exact rfl)(aI:Nat.blt d N=true:=by exact rfl)(k:∀aU ej ev w',w'.ownsRow base e sz (.slice ej (n+m) ev) (n+m) (xs++ys.flatMap enc)->w.grownBy w' (Value.slice ay n cap).ownBlock->Fr N ((d,.slice ej (n+m) ev)::l) aU->wpList P ops Q rest aU w'):
   wpList P ops Q (⟨some d,.call { callee:=.builtin .append,args:=[s,x].toArray,argTypes:=[t,t].toArray },ty,pos,bx,none⟩::rest) a w:=by
 obtain⟨i,g1,g2,g3,g4⟩:=avH ai;by_cases Wu:ys=[]
 · subst Wu;obtain rfl:m=0:=by simpa using vk.symm
   obtain⟨hle,_⟩:=tU aX;have OJ:Src P i.size t (.slice s7 0 eS) 0 [] w:=by
     cases s7 with
     |none=>exact Src.ofNil w b0 eS
     |some jF=>exact Src.ofSlice w b0 jF 0 eS [] bl bl bl
   have aj:=run_append_nothing (P:=P) w t t ty e i b0 g1 ay n cap hle _ OJ;refine st h (v:=.slice ay n cap) (w':=w) ?_ aI λaU I=>k aU ay cap w (by simpa using aX) (awK w _) I;intro cC aY d pos bx g;simp [execOp,resolve,invoke,builtin,aY _ _ aG,aY _ _ hx,aj]
 · obtain⟨b,o,rfl,_⟩:=ab 0 (by cases ys with|nil=>exact absurd rfl Wu|cons _ _=>simp);refine awX _ rfl s x t rfl base e i z sz bytes b0 g1 g2 g3 g4 bA aJ (.slice ay n cap) n xs (h.eval _ _ aG) aX
     ⟨b,o,none⟩ m eS (ys.flatMap enc) (h.eval _ _ hx) (by rw [B9 he,vk]) ?_ ?_ hm lM mm ?_
   · intro j v ah;have Je:j<ys.length*sz:=by
      have:=(atY.1 ah).1;rw [B9 he]at this;exact this
     have aZ:j%sz<sz:=avI _ aJ;have h4:j/sz<ys.length:=aw3 (by rw [avq];exact Je);obtain⟨hM,kb,bf,av⟩:=ab (j/sz) h4;cases bf
     have dj:=flat_get he ys (j/sz) h4 (j%sz) aZ;have fl:j/sz*sz+j%sz=j:=by rw [avq];exact Nat.div_add_mod j sz
     rw [fl,ah]at dj;have:=av (j%sz) v dj.symm;rw [awb,fl]at this;rw [addr_add];exact this
   · intro v ao;obtain⟨y,_,ao⟩:=awa.1 ao;exact U y v ao
   · intro iy w' mr an CM lL;obtain⟨ej,ev,rfl,_,_⟩:=tW mr;exact k _ ej ev w' mr an (h.put aI _)
end
section
attribute [local irreducible] wpList wpQuiet wpStill Code.wp Exit.then Exit.inBlock bodyPost Calls bL eT
structure dN where
 c0:Value
 bM:Value
 c2:Value
 c3:Value
 c4:Value
def dN.cells(z:dN):List Value:=[z.c0,z.bM,z.c2,z.c3,z.c4]
theorem aeB(z:dN):z.cells.length=5:=rfl
structure dN.k2(z:dN)(w:World)(f:Fd):Prop where
 at_:∃S,rZ S w/\qc S w z.c0 z.bM z.c2 z.c3 f
 fD:lI z.c0=true
 bw:lI z.bM=true
 bf:lI z.c2=true
 dj:lI z.c3=true
 fl:lI z.c4=true
theorem dN.k2.same{z:dN}(h:z.k2 w f)(aG:∀S,rZ S w->nd S w w'):z.k2 w' f:=by
 obtain⟨S,U,ae⟩:=h.at_;exact⟨⟨S,U.same (aG S U),ae.same (aG S U)⟩,h.fD,h.bw,h.bf,h.dj,h.fl⟩
theorem dN.k2.below{z:dN}(h:z.k2 w f)(hb:Below w.heap.size w w'):z.k2 w' f:=h.same λ_ bS=>Zf bS hb
theorem xW.f5(h:xW w v f):∃z:dN,v=.agg z.cells.toArray/\z.k2 w f:=by
 obtain⟨S,c0,bM,c2,c3,c4,e,bS,U,fD,bw,bf,dj,fl⟩:=h;exact⟨⟨c0,bM,c2,c3,c4⟩,e,⟨S,bS,U⟩,fD,bw,bf,dj,fl⟩
theorem dN.k2.one{z:dN}(h:z.k2 w f):∀v∈z.cells,v.oneCell'=true:=by
 intro v ao;simp [dN.cells]at ao;rcases ao with rfl|rfl|rfl|rfl|rfl<;>apply Tu<;>first|exact h.fD|exact h.bw|exact h.bf|exact h.dj|exact h.fl
structure hI(w:World)(base:Nat)(v:Value)(a8:List Fd):Prop where
 ex:∃(ay:Option Addr) (c:Nat) (cg:List dN),v=.slice ay a8.length c/\cg.length=a8.length/\w.ownsRow base 80 5 (.slice ay a8.length c) a8.length (cg.flatMap dN.cells)/\∀(i:Nat) (z:dN) (f:Fd),cg[i]? =some z->a8[i]? =some f->z.k2 w f
theorem hI.below{base:Nat}(h:hI w base v a8)(hb:Below w.heap.size w w'):hI w' base v a8:=by
 obtain⟨ay,c,cg,e,aN,bp,bA⟩:=h.ex;exact⟨ay,c,cg,e,aN,cW bp hb,λi z f U ae=>(bA i z f U ae).below hb⟩
theorem hI.YV{base jG:Nat}(h:hI w base v a8)(hb:jG<=base):hI w jG v a8:=by
 obtain⟨ay,c,cg,e,aN,bp,bA⟩:=h.ex;exact⟨ay,c,cg,e,aN,PY bp (λk au=>(by
  have:base<=k:=by
   rcases bp.2 with ⟨aJ,_⟩|⟨g,cap,cur,aJ,U,_⟩
   · rw [aJ]at au;cases au
   · rw [aJ]at au;cases au;exact U
  omega)),bA⟩
theorem xB{base n sz:Nat}{cs:Array Value}(av:cs=xs.toArray)(aN:xs.length=n*sz)(ba:n<=1000)(hb:base<=w.heap.size):(w.alloc (.cells cs e)).ownsRow base e sz (.slice (some ⟨w.heap.size,0,none⟩) n n) n xs:=by
 subst av;exact⟨aN,.inr ⟨w.heap.size,n,xs.toArray,rfl,hb,auE w _,atI _,bn,by simpa using aN,by rw [<-aN];simp⟩⟩
def kY(ch cK cg ct:dN):List Value:=ch.cells++cK.cells++cg.cells++ct.cells
structure lA(w:World)(ch cK cg ct:dN):Prop where
 r:ch.k2 w fX
 o:cK.k2 w tY
 s:cg.k2 w zh
 i:ct.k2 w .num
theorem lA.below{ch cK cg ct:dN}(h:lA w ch cK cg ct)(hb:Below w.heap.size w w'):lA w' ch cK cg ct:=⟨h.r.below hb,h.o.below hb,h.s.below hb,h.i.below hb⟩
def eZ(B:Nat)(ch cK cg ct:dN)(w:World):Prop:=w.heap[B]? =some (.cells (kY ch cK cg ct).toArray 149 (0,0))
theorem eZ.below{B:Nat}{ch cK cg ct:dN}(h:eZ B ch cK cg ct w)(hb:Below w.heap.size w w'):eZ B ch cK cg ct w':=(hb.block _ (bO h)).trans h
theorem eZ.r{B:Nat}{ch cK cg ct:dN}(h:eZ B ch cK cg ct w):∀j v,ch.cells.toArray[j]? =some v->w.cell? ⟨B,0+0+j,none⟩=some v:=λj v ah=>aF h (by rcases j with _|_|_|_|_|j<;>first|exact ah|(simp [dN.cells]at ah))
theorem eZ.o{B:Nat}{ch cK cg ct:dN}(h:eZ B ch cK cg ct w):∀j v,cK.cells.toArray[j]? =some v->w.cell? ⟨B,0+5+j,none⟩=some v:=λj v ah=>aF h (by rcases j with _|_|_|_|_|j<;>first|exact ah|(simp [dN.cells]at ah))
theorem eZ.s{B:Nat}{ch cK cg ct:dN}(h:eZ B ch cK cg ct w):∀j v,cg.cells.toArray[j]? =some v->w.cell? ⟨B,0+10+j,none⟩=some v:=λj v ah=>aF h (by rcases j with _|_|_|_|_|j<;>first|exact ah|(simp [dN.cells]at ah))
theorem eZ.i{B:Nat}{ch cK cg ct:dN}(h:eZ B ch cK cg ct w):∀j v,ct.cells.toArray[j]? =some v->w.cell? ⟨B,0+15+j,none⟩=some v:=λj v ah=>aF h (by rcases j with _|_|_|_|_|j<;>first|exact ah|(simp [dN.cells]at ah))
theorem eZ.all{B:Nat}{ch cK cg ct:dN}(h:eZ B ch cK cg ct w):∀j v,(kY ch cK cg ct).toArray[j]? =some v->w.cell? ⟨B,0+j,none⟩=some v:=λj v ah=>aF h (by rw [aub];exact ah)
theorem ao0{ch cK cg ct:dN}(h:lA w ch cK cg ct):∀v∈(kY ch cK cg ct).toArray,v.oneCell'=true:=by
 intro v ao;simp only [List.mem_toArray,kY,aws]at ao;rcases ao with ((ao|ao)|ao)|ao
 · exact h.r.one v ao
 · exact h.o.one v ao
 · exact h.s.one v ao
 · exact h.i.one v ao
def eX(ch cK cg ct:dN):Value:=.agg (kY ch cK cg ct).toArray
theorem ZW(w:World){ch cK cg ct:dN}(h:lA w ch cK cg ct):bd prog 48 [eX ch cK cg ct].toArray w (λv w'=>hI w' w.heap.size v [fX,.num]/\Below w.heap.size w w'):=by
 refine cF func48 rfl 7 rfl 8 rfl (λa I=>?_);revert a;refine ad λa I=>?_;refine di I (cs:=(kY ch cK cg ct).toArray) rfl (k:=λa aq aE aT b8 I=>?_);have hb:=aK (atL _ w) aT (atI _);replace h:=h.below hb;replace aE:eZ w.heap.size ch cK cg ct aq:=aE;clear aT b8;revert a;(repeat first|refine ag ?_|refine J (bJ aE.r) ?_|refine J (bJ aE.i) ?_);intro a I;refine st I (oT [ch.cells.toArray,ct.cells.toArray] (aA _ _ rfl) jM bk bk bk rfl (by simp [dN.cells]) ⟨rfl,rfl,rfl,rfl,trivial⟩) rfl (λa I=>?_);have aC:=e7 aq (.cells (([ch.cells.toArray,ct.cells.toArray]).flatMap λu=>u.toList).toArray 80);have bp:(aq.alloc (.cells (([ch.cells.toArray,ct.cells.toArray]).flatMap λu=>u.toList).toArray 80)).ownsRow w.heap.size 80 5 (.slice (some ⟨aq.heap.size,0,none⟩) 2 2) 2 ([ch,ct].flatMap dN.cells):=xB bl rfl bk hb.size;replace h:=h.below aC;revert a;refine ad λa I=>?_;exact bc I rfl rfl ⟨⟨_,_,[ch,ct],rfl,rfl,bp,λi z f U ae=>by
  match i,U,ae with
  | 0,U,ae=>cases U;cases ae;exact h.r
  | 1,U,ae=>cases U;cases ae;exact h.i
  |i+2,U,ae=>cases ae⟩,hb.trans (aC.mono hb.size)⟩
theorem KL(w:World){ch cK cg ct:dN}(h:lA w ch cK cg ct):bd prog 49 [eX ch cK cg ct].toArray w (λv w'=>hI w' w.heap.size v [fX,tY]/\Below w.heap.size w w'):=by
 refine cF func49 rfl 7 rfl 8 rfl (λa I=>?_);revert a;refine ad λa I=>?_;refine di I (cs:=(kY ch cK cg ct).toArray) rfl (k:=λa aq aE aT b8 I=>?_);have hb:=aK (atL _ w) aT (atI _);replace h:=h.below hb;replace aE:eZ w.heap.size ch cK cg ct aq:=aE;clear aT b8;revert a;(repeat first|refine ag ?_|refine J (bJ aE.r) ?_|refine J (bJ aE.o) ?_);intro a I;refine st I (oT [ch.cells.toArray,cK.cells.toArray] (aA _ _ rfl) jM bk bk bk rfl (by simp [dN.cells]) ⟨rfl,rfl,rfl,rfl,trivial⟩) rfl (λa I=>?_);have aC:=e7 aq (.cells (([ch.cells.toArray,cK.cells.toArray]).flatMap λu=>u.toList).toArray 80);have bp:(aq.alloc (.cells (([ch.cells.toArray,cK.cells.toArray]).flatMap λu=>u.toList).toArray 80)).ownsRow w.heap.size 80 5 (.slice (some ⟨aq.heap.size,0,none⟩) 2 2) 2 ([ch,cK].flatMap dN.cells):=xB bl rfl bk hb.size;replace h:=h.below aC;revert a;refine ad λa I=>?_;exact bc I rfl rfl ⟨⟨_,_,[ch,cK],rfl,rfl,bp,λi z f U ae=>by
  match i,U,ae with
  | 0,U,ae=>cases U;cases ae;exact h.r
  | 1,U,ae=>cases U;cases ae;exact h.o
  |i+2,U,ae=>cases ae⟩,hb.trans (aC.mono hb.size)⟩
theorem ZX(w:World){ch cK cg ct:dN}(h:lA w ch cK cg ct):bd prog 54 [eX ch cK cg ct].toArray w (λv w'=>hI w' w.heap.size v [fX,zh]/\Below w.heap.size w w'):=by
 refine cF func54 rfl 7 rfl 8 rfl (λa I=>?_);revert a;refine ad λa I=>?_;refine di I (cs:=(kY ch cK cg ct).toArray) rfl (k:=λa aq aE aT b8 I=>?_);have hb:=aK (atL _ w) aT (atI _);replace h:=h.below hb;replace aE:eZ w.heap.size ch cK cg ct aq:=aE;clear aT b8;revert a;(repeat first|refine ag ?_|refine J (bJ aE.r) ?_|refine J (bJ aE.s) ?_);intro a I;refine st I (oT [ch.cells.toArray,cg.cells.toArray] (aA _ _ rfl) jM bk bk bk rfl (by simp [dN.cells]) ⟨rfl,rfl,rfl,rfl,trivial⟩) rfl (λa I=>?_);have aC:=e7 aq (.cells (([ch.cells.toArray,cg.cells.toArray]).flatMap λu=>u.toList).toArray 80);have bp:(aq.alloc (.cells (([ch.cells.toArray,cg.cells.toArray]).flatMap λu=>u.toList).toArray 80)).ownsRow w.heap.size 80 5 (.slice (some ⟨aq.heap.size,0,none⟩) 2 2) 2 ([ch,cg].flatMap dN.cells):=xB bl rfl bk hb.size;replace h:=h.below aC;revert a;refine ad λa I=>?_;exact bc I rfl rfl ⟨⟨_,_,[ch,cg],rfl,rfl,bp,λi z f U ae=>by
  match i,U,ae with
  | 0,U,ae=>cases U;cases ae;exact h.r
  | 1,U,ae=>cases U;cases ae;exact h.s
  |i+2,U,ae=>cases ae⟩,hb.trans (aC.mono hb.size)⟩
theorem aoZ(w:World){ch cK cg ct:dN}(h:lA w ch cK cg ct):bd prog 47 [eX ch cK cg ct].toArray w (λv w'=>hI w' w.heap.size v []/\Below w.heap.size w w'):=by
 refine cF func47 rfl 2 rfl 3 rfl (λa I=>?_);revert a;refine ad λa I=>?_;refine di I (cs:=(kY ch cK cg ct).toArray) rfl (k:=λa aq aE aT b8 I=>?_);have hb:=aK (atL _ w) aT (atI _);replace h:=h.below hb;replace aE:eZ w.heap.size ch cK cg ct aq:=aE;clear aT b8;revert a;refine ad λa I=>?_;exact bc I rfl rfl ⟨⟨none,0,[],rfl,rfl,auH _ _ _ _,λi z f U _=>by cases U⟩,hb⟩
theorem ao1(w:World){ch cK cg ct:dN}(h:lA w ch cK cg ct):bd prog 56 [eX ch cK cg ct].toArray w (λv w'=>hI w' w.heap.size v [.skip]/\Below w.heap.size w w'):=by
 refine cF func56 rfl 4 rfl 5 rfl (λa I=>?_);revert a;refine ad λa I=>?_;refine di I (cs:=(kY ch cK cg ct).toArray) rfl (k:=λa aq aE aT b8 I=>?_);have hb:=aK (atL _ w) aT (atI _);replace h:=h.below hb;replace aE:eZ w.heap.size ch cK cg ct aq:=aE;clear aT b8;revert a;refine ad λa I=>?_;refine aQ I (ZE _) λa v fU ab I=>?_;obtain⟨ao,aC⟩:=ab;obtain⟨z2,rfl,fE⟩:=ao.f5;clear ao;replace aE:=aE.below aC;replace h:=h.below aC;replace hb:=hb.trans (aC.mono hb.size);have aC:=e7 fU (.cells (([z2.cells.toArray]).flatMap λu=>u.toList).toArray 80);have bp:(fU.alloc (.cells (([z2.cells.toArray]).flatMap λu=>u.toList).toArray 80)).ownsRow w.heap.size 80 5 (.slice (some ⟨fU.heap.size,0,none⟩) 1 1) 1 ([z2].flatMap dN.cells):=xB bl rfl bk hb.size;refine st I (oT [z2.cells.toArray] (aA _ _ rfl) jM bk bk bk rfl (by simp [dN.cells]) ⟨rfl,rfl,trivial⟩) rfl (λa I=>?_);replace aE:=aE.below aC;replace h:=h.below aC;replace fE:=fE.below aC;revert a;refine ad λa I=>?_;exact bc I rfl rfl ⟨⟨_,_,[z2],rfl,rfl,bp,λi z f U ae=>by
  match i,U,ae with
  | 0,U,ae=>cases U;cases ae;exact fE
  |i+1,U,ae=>cases ae⟩,hb.trans (aC.mono hb.size)⟩
theorem ZY(w:World){ch cK cg ct:dN}(h:lA w ch cK cg ct):bd prog 50 [eX ch cK cg ct].toArray w (λv w'=>hI w' w.heap.size v [fX,.sm .n 0 63]/\Below w.heap.size w w'):=by
 refine cF func50 rfl 6 rfl 7 rfl (λa I=>?_);revert a;refine ad λa I=>?_;refine di I (cs:=(kY ch cK cg ct).toArray) rfl (k:=λa aq aE aT b8 I=>?_);have hb:=aK (atL _ w) aT (atI _);replace h:=h.below hb;replace aE:eZ w.heap.size ch cK cg ct aq:=aE;clear aT b8;revert a;(repeat first|(intro a I;(refine gJ (eZ w.heap.size ch cK cg ct) [(0,true),(1,true),(2,false),(3,false),(4,true)] 1 mixed bh aE ?_;simp only [fF,atZ,atS,atO,at1,aug]);revert a)|refine ag ?_);intro a I;have aI:Below aq.heap.size aq (aq.drewN 1):=eU (atL _ aq) 1;replace aE:=aE.below aI;replace h:=h.below aI;replace hb:=hb.trans (aI.mono hb.size);generalize aq.drewN 1=fG at*;revert a;(repeat first|refine e3 ?_|refine cB (λak ar=>bJ ar.r) ?_);intro a I;refine c7 ?_;refine aQ I (Bj _ .n 0 63 ⟨#[]⟩ bk bk) (k:=λa v fU ab I=>atJ ?_);obtain⟨ao,aC⟩:=ab;obtain⟨z2,rfl,fE⟩:=ao.f5;clear ao;replace aE:=aE.below aC;replace h:=h.below aC;replace hb:=hb.trans (aC.mono hb.size);refine⟨rfl,aE,?_⟩
 skip
 refine c7 ?_;have aC:=e7 fU (.cells (([ch.cells.toArray,z2.cells.toArray]).flatMap λu=>u.toList).toArray 80);have bp:(fU.alloc (.cells (([ch.cells.toArray,z2.cells.toArray]).flatMap λu=>u.toList).toArray 80)).ownsRow w.heap.size 80 5 (.slice (some ⟨fU.heap.size,0,none⟩) 2 2) 2 ([ch,z2].flatMap dN.cells):=xB bl rfl bk hb.size;refine st I (oT [ch.cells.toArray,z2.cells.toArray] (aA _ _ rfl) jM bk bk bk rfl (by simp [dN.cells]) ⟨rfl,rfl,rfl,rfl,trivial⟩) rfl (λa I=>atJ ?_);replace aE:=aE.below aC;replace h:=h.below aC;replace fE:=fE.below aC;refine⟨rfl,aE,?_⟩;revert a;refine hH λa I=>?_;refine fj ?_;revert a;refine ad λa I=>?_;exact bc I rfl rfl ⟨⟨_,_,[ch,z2],rfl,rfl,bp,λi z f U ae=>by
  match i,U,ae with
  | 0,U,ae=>cases U;cases ae;exact h.r
  | 1,U,ae=>cases U;cases ae;exact fE
  |i+2,U,ae=>cases ae⟩,hb.trans (aC.mono hb.size)⟩
theorem ao3(w:World){ch cK cg ct:dN}(h:lA w ch cK cg ct):bd prog 53 [eX ch cK cg ct].toArray w (λv w'=>hI w' w.heap.size v [fX,.sm .n 1 64]/\Below w.heap.size w w'):=by
 refine cF func53 rfl 6 rfl 7 rfl (λa I=>?_);revert a;refine ad λa I=>?_;refine di I (cs:=(kY ch cK cg ct).toArray) rfl (k:=λa aq aE aT b8 I=>?_);have hb:=aK (atL _ w) aT (atI _);replace h:=h.below hb;replace aE:eZ w.heap.size ch cK cg ct aq:=aE;clear aT b8;revert a;(repeat first|(intro a I;(refine gJ (eZ w.heap.size ch cK cg ct) [(0,true),(1,true),(2,false),(3,false),(4,true)] 1 mixed bh aE ?_;simp only [fF,atZ,atS,atO,at1,aug]);revert a)|refine ag ?_);intro a I;have aI:Below aq.heap.size aq (aq.drewN 1):=eU (atL _ aq) 1;replace aE:=aE.below aI;replace h:=h.below aI;replace hb:=hb.trans (aI.mono hb.size);generalize aq.drewN 1=fG at*;revert a;(repeat first|refine e3 ?_|refine cB (λak ar=>bJ ar.r) ?_);intro a I;refine c7 ?_;refine aQ I (Bj _ .n 1 64 ⟨#[]⟩ bk bk) (k:=λa v fU ab I=>atJ ?_);obtain⟨ao,aC⟩:=ab;obtain⟨z2,rfl,fE⟩:=ao.f5;clear ao;replace aE:=aE.below aC;replace h:=h.below aC;replace hb:=hb.trans (aC.mono hb.size);refine⟨rfl,aE,?_⟩
 skip
 refine c7 ?_;have aC:=e7 fU (.cells (([ch.cells.toArray,z2.cells.toArray]).flatMap λu=>u.toList).toArray 80);have bp:(fU.alloc (.cells (([ch.cells.toArray,z2.cells.toArray]).flatMap λu=>u.toList).toArray 80)).ownsRow w.heap.size 80 5 (.slice (some ⟨fU.heap.size,0,none⟩) 2 2) 2 ([ch,z2].flatMap dN.cells):=xB bl rfl bk hb.size;refine st I (oT [ch.cells.toArray,z2.cells.toArray] (aA _ _ rfl) jM bk bk bk rfl (by simp [dN.cells]) ⟨rfl,rfl,rfl,rfl,trivial⟩) rfl (λa I=>atJ ?_);replace aE:=aE.below aC;replace h:=h.below aC;replace fE:=fE.below aC;refine⟨rfl,aE,?_⟩;revert a;refine hH λa I=>?_;refine fj ?_;revert a;refine ad λa I=>?_;exact bc I rfl rfl ⟨⟨_,_,[ch,z2],rfl,rfl,bp,λi z f U ae=>by
  match i,U,ae with
  | 0,U,ae=>cases U;cases ae;exact h.r
  | 1,U,ae=>cases U;cases ae;exact fE
  |i+2,U,ae=>cases ae⟩,hb.trans (aC.mono hb.size)⟩
theorem DV(w:World){ch cK cg ct:dN}(h:lA w ch cK cg ct):bd prog 51 [eX ch cK cg ct].toArray w (λv w'=>hI w' w.heap.size v mV/\Below w.heap.size w w'):=by
 refine cF func51 rfl 7 rfl 8 rfl (λa I=>?_);revert a;refine ad λa I=>?_;refine di I (cs:=(kY ch cK cg ct).toArray) rfl (k:=λa aq aE aT b8 I=>?_);have hb:=aK (atL _ w) aT (atI _);replace h:=h.below hb;replace aE:eZ w.heap.size ch cK cg ct aq:=aE;clear aT b8;revert a;(repeat first|(intro a I;(refine gJ (eZ w.heap.size ch cK cg ct) [(0,true),(1,true),(2,false),(3,false),(4,false),(5,true)] 1 mixed bh aE ?_;simp only [fF,atZ,atS,atO,at1,aug]);revert a)|refine ag ?_);intro a I;have aI:Below aq.heap.size aq (aq.drewN 1):=eU (atL _ aq) 1;replace aE:=aE.below aI;replace h:=h.below aI;replace hb:=hb.trans (aI.mono hb.size);generalize aq.drewN 1=fG at*;revert a;(repeat first|refine e3 ?_|refine cB (λak ar=>bJ ar.r) ?_);intro a I;refine c7 ?_;refine aQ I (Bj _ .b 0 7 ⟨#[]⟩ bk bk) (k:=λa v fU ab I=>atJ ?_);obtain⟨ao,aC⟩:=ab;obtain⟨z2,rfl,fE⟩:=ao.f5;clear ao;replace aE:=aE.below aC;replace h:=h.below aC;replace hb:=hb.trans (aC.mono hb.size);refine⟨rfl,aE,?_⟩
 skip
 refine c7 ?_;refine aQ I (abB _) (k:=λa v fg ab I=>atJ ?_);obtain⟨ao,aC⟩:=ab;obtain⟨z3,rfl,lg⟩:=ao.f5;clear ao;replace aE:=aE.below aC;replace h:=h.below aC;replace hb:=hb.trans (aC.mono hb.size);replace fE:=fE.below aC;refine⟨rfl,aE,?_⟩
 skip
 refine c7 ?_;have aC:=e7 fg (.cells (([ch.cells.toArray,z2.cells.toArray,z3.cells.toArray]).flatMap λu=>u.toList).toArray 80);have bp:(fg.alloc (.cells (([ch.cells.toArray,z2.cells.toArray,z3.cells.toArray]).flatMap λu=>u.toList).toArray 80)).ownsRow w.heap.size 80 5 (.slice (some ⟨fg.heap.size,0,none⟩) 3 3) 3 ([ch,z2,z3].flatMap dN.cells):=xB bl rfl bk hb.size;refine st I (oT [ch.cells.toArray,z2.cells.toArray,z3.cells.toArray] (aA _ _ rfl) jM bk bk bk rfl (by simp [dN.cells]) ⟨rfl,rfl,rfl,rfl,rfl,rfl,trivial⟩) rfl (λa I=>atJ ?_);replace aE:=aE.below aC;replace h:=h.below aC;replace fE:=fE.below aC;replace lg:=lg.below aC;refine⟨rfl,aE,?_⟩;revert a;refine hH λa I=>?_;refine fj ?_;revert a;refine ad λa I=>?_;exact bc I rfl rfl ⟨⟨_,_,[ch,z2,z3],rfl,rfl,bp,λi z f U ae=>by
  match i,U,ae with
  | 0,U,ae=>cases U;cases ae;exact h.r
  | 1,U,ae=>cases U;cases ae;exact fE
  | 2,U,ae=>cases U;cases ae;exact lg
  |i+3,U,ae=>cases ae⟩,hb.trans (aC.mono hb.size)⟩
theorem aoY(w:World){ch cK cg ct:dN}(h:lA w ch cK cg ct):bd prog 55 [eX ch cK cg ct].toArray w (λv w'=>hI w' w.heap.size v [fX,zh,.sm .n 1 64,.sign]/\Below w.heap.size w w'):=by
 refine cF func55 rfl 9 rfl 10 rfl (λa I=>?_);revert a;refine ad λa I=>?_;refine di I (cs:=(kY ch cK cg ct).toArray) rfl (k:=λa aq aE aT b8 I=>?_);have hb:=aK (atL _ w) aT (atI _);replace h:=h.below hb;replace aE:eZ w.heap.size ch cK cg ct aq:=aE;clear aT b8;revert a;(repeat first|(intro a I;(refine gJ (eZ w.heap.size ch cK cg ct) [(0,true),(1,true),(2,true),(3,true),(4,false),(5,false),(6,false),(7,true)] 1 mixed bh aE ?_;simp only [fF,atZ,atS,atO,at1,aug]);revert a)|refine ag ?_);intro a I;have aI:Below aq.heap.size aq (aq.drewN 1):=eU (atL _ aq) 1;replace aE:=aE.below aI;replace h:=h.below aI;replace hb:=hb.trans (aI.mono hb.size);generalize aq.drewN 1=fG at*;revert a;(repeat first|refine e3 ?_|refine cB (λak ar=>bJ ar.r) ?_|refine cB (λak ar=>bJ ar.s) ?_);intro a I;refine c7 ?_;refine aQ I (Bj _ .n 1 64 ⟨#[]⟩ bk bk) (k:=λa v fU ab I=>atJ ?_);obtain⟨ao,aC⟩:=ab;obtain⟨z2,rfl,fE⟩:=ao.f5;clear ao;replace aE:=aE.below aC;replace h:=h.below aC;replace hb:=hb.trans (aC.mono hb.size);refine⟨rfl,aE,?_⟩
 skip
 refine c7 ?_;refine aQ I (aok _) (k:=λa v fg ab I=>atJ ?_);obtain⟨ao,aC⟩:=ab;obtain⟨z3,rfl,lg⟩:=ao.f5;clear ao;replace aE:=aE.below aC;replace h:=h.below aC;replace hb:=hb.trans (aC.mono hb.size);replace fE:=fE.below aC;refine⟨rfl,aE,?_⟩
 skip
 refine c7 ?_;have aC:=e7 fg (.cells (([ch.cells.toArray,cg.cells.toArray,z2.cells.toArray,z3.cells.toArray]).flatMap λu=>u.toList).toArray 80);have bp:(fg.alloc (.cells (([ch.cells.toArray,cg.cells.toArray,z2.cells.toArray,z3.cells.toArray]).flatMap λu=>u.toList).toArray 80)).ownsRow w.heap.size 80 5 (.slice (some ⟨fg.heap.size,0,none⟩) 4 4) 4 ([ch,cg,z2,z3].flatMap dN.cells):=xB bl rfl bk hb.size;refine st I (oT [ch.cells.toArray,cg.cells.toArray,z2.cells.toArray,z3.cells.toArray] (aA _ _ rfl) jM bk bk bk rfl (by simp [dN.cells]) ⟨rfl,rfl,rfl,rfl,rfl,rfl,rfl,rfl,trivial⟩) rfl (λa I=>atJ ?_);replace aE:=aE.below aC;replace h:=h.below aC;replace fE:=fE.below aC;replace lg:=lg.below aC;refine⟨rfl,aE,?_⟩;revert a;refine hH λa I=>?_;refine fj ?_;revert a;refine ad λa I=>?_;exact bc I rfl rfl ⟨⟨_,_,[ch,cg,z2,z3],rfl,rfl,bp,λi z f U ae=>by
  match i,U,ae with
  | 0,U,ae=>cases U;cases ae;exact h.r
  | 1,U,ae=>cases U;cases ae;exact h.s
  | 2,U,ae=>cases U;cases ae;exact fE
  | 3,U,ae=>cases U;cases ae;exact lg
  |i+4,U,ae=>cases ae⟩,hb.trans (aC.mono hb.size)⟩
theorem ao2(w:World){ch cK cg ct:dN}(h:lA w ch cK cg ct):bd prog 57 [eX ch cK cg ct].toArray w (λv w'=>hI w' w.heap.size v [fX,.skip,.num]/\Below w.heap.size w w'):=by
 refine cF func57 rfl 8 rfl 9 rfl (λa I=>?_);revert a;refine ad λa I=>?_;refine di I (cs:=(kY ch cK cg ct).toArray) rfl (k:=λa aq aE aT b8 I=>?_);have hb:=aK (atL _ w) aT (atI _);replace h:=h.below hb;replace aE:eZ w.heap.size ch cK cg ct aq:=aE;clear aT b8;revert a;(repeat first|(intro a I;(refine gJ (eZ w.heap.size ch cK cg ct) [(0,true),(1,true),(3,true),(4,true),(2,false),(5,false),(6,true)] 1 mixed bh aE ?_;simp only [fF,atZ,atS,atO,at1,aug]);revert a)|refine ag ?_);intro a I;have aI:Below aq.heap.size aq (aq.drewN 1):=eU (atL _ aq) 1;replace aE:=aE.below aI;replace h:=h.below aI;replace hb:=hb.trans (aI.mono hb.size);generalize aq.drewN 1=fG at*;revert a;(repeat first|refine e3 ?_|refine cB (λak ar=>bJ ar.r) ?_|refine cB (λak ar=>bJ ar.i) ?_);intro a I;refine c7 ?_;refine aQ I (ZE _) (k:=λa v fU ab I=>atJ ?_);obtain⟨ao,aC⟩:=ab;obtain⟨z2,rfl,fE⟩:=ao.f5;clear ao;replace aE:=aE.below aC;replace h:=h.below aC;replace hb:=hb.trans (aC.mono hb.size);refine⟨rfl,aE,?_⟩
 skip
 refine c7 ?_;have aC:=e7 fU (.cells (([ch.cells.toArray,z2.cells.toArray,ct.cells.toArray]).flatMap λu=>u.toList).toArray 80);have bp:(fU.alloc (.cells (([ch.cells.toArray,z2.cells.toArray,ct.cells.toArray]).flatMap λu=>u.toList).toArray 80)).ownsRow w.heap.size 80 5 (.slice (some ⟨fU.heap.size,0,none⟩) 3 3) 3 ([ch,z2,ct].flatMap dN.cells):=xB bl rfl bk hb.size;refine st I (oT [ch.cells.toArray,z2.cells.toArray,ct.cells.toArray] (aA _ _ rfl) jM bk bk bk rfl (by simp [dN.cells]) ⟨rfl,rfl,rfl,rfl,rfl,rfl,trivial⟩) rfl (λa I=>atJ ?_);replace aE:=aE.below aC;replace h:=h.below aC;replace fE:=fE.below aC;refine⟨rfl,aE,?_⟩;revert a;refine hH λa I=>?_;refine fj ?_;revert a;refine ad λa I=>?_;exact bc I rfl rfl ⟨⟨_,_,[ch,z2,ct],rfl,rfl,bp,λi z f U ae=>by
  match i,U,ae with
  | 0,U,ae=>cases U;cases ae;exact h.r
  | 1,U,ae=>cases U;cases ae;exact fE
  | 2,U,ae=>cases U;cases ae;exact h.i
  |i+3,U,ae=>cases ae⟩,hb.trans (aC.mono hb.size)⟩
theorem aoX(w:World){ch cK cg ct:dN}(h:lA w ch cK cg ct):bd prog 52 [eX ch cK cg ct].toArray w (λv w'=>hI w' w.heap.size v (mV++ [.num])/\Below w.heap.size w w'):=by
 refine cF func52 rfl 8 rfl 9 rfl (λa I=>?_);revert a;refine ad λa I=>?_;refine di I (cs:=(kY ch cK cg ct).toArray) rfl (k:=λa aq aE aT b8 I=>?_);have hb:=aK (atL _ w) aT (atI _);replace h:=h.below hb;replace aE:eZ w.heap.size ch cK cg ct aq:=aE;clear aT b8;revert a;(repeat first|(intro a I;(refine Eu (eZ w.heap.size ch cK cg ct) (.read 0 (.read 2 (.read 3 (.two 1 4 (.cJ 4 (.cJ 5 (.read 6 .done))) (.cJ 1 (.cJ 5 (.read 6 .done))))))) 1 mixed bh aE ?_);revert a)|refine ag ?_);intro a I;have aI:Below aq.heap.size aq (aq.drewN 1):=eU (atL _ aq) 1;replace aE:=aE.below aI;replace h:=h.below aI;replace hb:=hb.trans (aI.mono hb.size);generalize aq.drewN 1=fG at*;refine dU I rfl (λak ar=>bJ ar.all) rfl (λa I=>?_);refine dU I rfl (λak ar=>km (hz _ _ _ _ rfl) (aw _ _ rfl)) rfl (λa I=>?_);refine dU I rfl (λak ar=>bJ ar.i) rfl (λa I=>?_);refine ln rfl rfl ?_ ?_
 · refine aQ I (DV _ h) (k:=λa v fU ab I=>atJ ?_);obtain⟨ao,aC⟩:=ab;replace aE:=aE.below aC;replace h:=h.below aC;replace ao:=ao.YV hb.size;replace hb:=hb.trans (aC.mono hb.size);refine⟨rfl,aE,?_⟩;refine dV rfl ?_;have a1:=e7 fU (.cells (([ct.cells.toArray]).flatMap λu=>u.toList).toArray 80);have mR:=qO fU 5 (λ_:Unit=>ct.cells) (λ_=>rfl) [()] 80 (([ct.cells.toArray]).flatMap λu=>u.toList).toArray bl;refine st I (oT [ct.cells.toArray] (aA _ _ rfl) jM bk bk bk rfl (by simp [dN.cells]) ⟨rfl,rfl,trivial⟩) rfl (λa I=>atJ ?_);replace aE:=aE.below a1;replace h:=h.below a1;replace hb:=hb.trans (a1.mono hb.size);replace ao:=ao.below a1;refine⟨rfl,aE,?_⟩;refine dV rfl ?_;obtain⟨ay,c,xS,OZ,aN,bp,bA⟩:=ao.ex;subst OZ;refine G8 (sz:=5) (m:=1) (n:=3) (ys:=[()]) (enc:=λ_:Unit=>ct.cells) I (λ_=>rfl) bk (aA _ _ rfl) jM rfl bp rfl mR (λ_ v ao=>h.i.one v ao) bk bk hb.size (k:=λa eM c2 jU sA bD I=>atJ ?_);have bX:eZ w.heap.size ch cK cg ct jU:=aD aE bD (jk bp aE bk);have b7:=j0 hb hb.size bp bD;have yK:∀(i:Nat) (z:dN) (f:Fd),(xS++ [ct])[i]? =some z->(mV++ [.num])[i]? =some f->z.k2 jU f:=λi z f U ae=>by
    have u7:xS.length=3:=aN;refine dN.k2.same ?_ λS bS=>Zg bS bp rfl bD;by_cases ai:i<3
    · rw [auK bj]at U;rw [auK (by show i<3;exact ai)]at ae;exact bA i z f U ae
    · rw [avg bj,u7]at U;rw [avg (by show 3<=i;omega)]at ae;obtain rfl:i=3:=by
       have:=(atY.1 U).1;simp at this;omega
      cases U
      cases ae
      exact h.i
   refine⟨rfl,bX,?_⟩;refine dU I rfl (λak ar=>k5) rfl (λa I=>?_);refine iw ?_;revert a;refine ad λa I=>?_;exact bc I rfl rfl ⟨⟨_,_,xS++ [ct],rfl,by simp [aN,mV],(show jU.ownsRow w.heap.size 80 5 (.slice eM 4 c2) 4 ((xS++ [ct]).flatMap dN.cells)from by simpa using sA),yK⟩,b7⟩
 · have a1:=e7 fG (.cells (([ct.cells.toArray]).flatMap λu=>u.toList).toArray 80);have mR:=qO fG 5 (λ_:Unit=>ct.cells) (λ_=>rfl) [()] 80 (([ct.cells.toArray]).flatMap λu=>u.toList).toArray bl;refine st I (oT [ct.cells.toArray] (aA _ _ rfl) jM bk bk bk rfl (by simp [dN.cells]) ⟨rfl,rfl,trivial⟩) rfl (λa I=>atJ ?_);replace aE:=aE.below a1;replace h:=h.below a1;replace hb:=hb.trans (a1.mono hb.size);refine⟨rfl,aE,?_⟩;generalize asF:fG.alloc _=fg at*;refine dV rfl ?_;refine aQ I (DV _ h) (k:=λa v fU ab I=>atJ ?_);obtain⟨ao,aC⟩:=ab;replace aE:=aE.below aC;replace h:=h.below aC;replace ao:=ao.YV hb.size;replace hb:=hb.trans (aC.mono hb.size);replace mR:=mR.below aC;refine⟨rfl,aE,?_⟩;refine dV rfl ?_;obtain⟨ay,c,xS,OZ,aN,bp,bA⟩:=ao.ex;subst OZ;refine G8 (sz:=5) (m:=1) (n:=3) (ys:=[()]) (enc:=λ_:Unit=>ct.cells) I (λ_=>rfl) bk (aA _ _ rfl) jM rfl bp rfl mR (λ_ v ao=>h.i.one v ao) bk bk hb.size (k:=λa eM c2 jU sA bD I=>atJ ?_);have bX:eZ w.heap.size ch cK cg ct jU:=aD aE bD (jk bp aE bk);have b7:=j0 hb hb.size bp bD;have yK:∀(i:Nat) (z:dN) (f:Fd),(xS++ [ct])[i]? =some z->(mV++ [.num])[i]? =some f->z.k2 jU f:=λi z f U ae=>by
    have u7:xS.length=3:=aN;refine dN.k2.same ?_ λS bS=>Zg bS bp rfl bD;by_cases ai:i<3
    · rw [auK bj]at U;rw [auK (by show i<3;exact ai)]at ae;exact bA i z f U ae
    · rw [avg bj,u7]at U;rw [avg (by show 3<=i;omega)]at ae;obtain rfl:i=3:=by
       have:=(atY.1 U).1;simp at this;omega
      cases U
      cases ae
      exact h.i
   refine⟨rfl,bX,?_⟩;refine dU I rfl (λak ar=>k5) rfl (λa I=>?_);refine iw ?_;revert a;refine ad λa I=>?_;exact bc I rfl rfl ⟨⟨_,_,xS++ [ct],rfl,by simp [aN,mV],(show jU.ownsRow w.heap.size 80 5 (.slice eM 4 c2) 4 ((xS++ [ct]).flatMap dN.cells)from by simpa using sA),yK⟩,b7⟩
end
end Go.Proofs.YtnkjmbbddmgjiaaGreatDoor