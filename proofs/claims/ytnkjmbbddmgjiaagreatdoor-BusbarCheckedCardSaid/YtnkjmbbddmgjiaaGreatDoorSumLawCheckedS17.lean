import Derived.Test.YtnkjmbbddmgjiaaGreatDoorSumLawCheckedS16
import Derived.Test.YtnkjmbbddmgjiaaGreatDoorSumLawCheckedS14
set_option linter.unusedSimpArgs false
set_option linter.unusedVariables false
set_option maxRecDepth 1000000
set_option maxHeartbeats 400000000
namespace Go.Proofs.YtnkjmbbddmgjiaaGreatDoor
open Go.RowKit Go.Proofs.Tryz
variable {x:Tok}{ty:TypeId}{w w':World}
section
attribute [local irreducible] wpList wpQuiet wpStill Code.wp Exit.then Exit.inBlock bodyPost Calls bL eT
section
open Le
theorem Lm(x:Nat):x &&& 4294967295=x%4294967296:=by
 have:=avW x 32;exact this
theorem XV(w:World)(x y:Nat)(hx:x<18446744073709551616)(aO:y<18446744073709551616):bd prog 279 [.int .u64 (x:Int),.int .u64 (y:Int)].toArray w (λv w'=>(∃h l:Nat,v=.tuple #[.int .u64 (h:Int),.int .u64 (l:Int)]/\x*y=h*18446744073709551616+l/\l<18446744073709551616)/\w'=w):=by
 obtain⟨m1,m2,m3,m4,m5,m6,m7,m8,m9⟩:=ak' hx aO;replace m1:_<2^IntKind.u64.bits:=m1;replace m2:_<2^IntKind.u64.bits:=m2;replace m3:_<2^IntKind.u64.bits:=m3;replace m4:_<2^IntKind.u64.bits:=m4;replace m5:_<2^IntKind.u64.bits:=m5;replace m6:_<2^IntKind.u64.bits:=m6;replace m7:_<2^IntKind.u64.bits:=m7;replace m8:_<2^IntKind.u64.bits:=m8;have Wr:x<2^IntKind.u64.bits:=hx;have aiB:y<2^IntKind.u64.bits:=aO;have ex:=Lm x;have B5:=Lm y;have wF:=Lm (x/4294967296*(y%4294967296)+x%4294967296*(y%4294967296)/4294967296);have hm:(x:Int)*(y:Int)=((x*y:Nat):Int):=by push_cast;rfl
 have hw:IntKind.u64.wrap ((x:Int)*(y:Int))=((x*y%18446744073709551616:Nat):Int):=by rw [hm,aaw rfl];rfl
 refine dP azg rfl 49 rfl 51 rfl (λa I=>?_);revert a;(repeat first|refine ag ?_|refine J (fi (a:=x) (b:=4294967295) (ha:=Wr) (hb:=by decide)) ?_|refine J (lG (a:=x) (b:=32) (hb:=by decide)) ?_);intro a I;rw [ex]at I;revert a;(repeat first|refine ag ?_|refine J (fi (a:=y) (b:=4294967295) (ha:=aiB) (hb:=by decide)) ?_|refine J (lG (a:=y) (b:=32) (hb:=by decide)) ?_);intro a I;rw [B5]at I;revert a;(repeat first|refine ag ?_|refine J (H4 (a:=x%4294967296) (b:=y%4294967296) (h:=m1)) ?_|refine J (H4 (a:=x/4294967296) (b:=y%4294967296) (h:=m2)) ?_|refine J (lG (a:=x%4294967296*(y%4294967296)) (b:=32) (hb:=by decide)) ?_|refine J (HW (a:=x/4294967296*(y%4294967296)) (b:=x%4294967296*(y%4294967296)/4294967296) (h:=m3)) ?_|refine J (fi (a:=x/4294967296*(y%4294967296)+x%4294967296*(y%4294967296)/4294967296) (b:=4294967295) (ha:=m3) (hb:=by decide)) ?_);intro a I;rw [wF]at I;revert a;(repeat first|refine ag ?_|refine J (lG (a:=x/4294967296*(y%4294967296)+x%4294967296*(y%4294967296)/4294967296) (b:=32) (hb:=by decide)) ?_|refine J (H4 (a:=x%4294967296) (b:=y/4294967296) (h:=m4)) ?_|refine J (HW (a:=(x/4294967296*(y%4294967296)+x%4294967296*(y%4294967296)/4294967296)%4294967296) (b:=x%4294967296*(y/4294967296)) (h:=m5)) ?_|refine J (H4 (a:=x/4294967296) (b:=y/4294967296) (h:=m6)) ?_|refine J (HW (a:=x/4294967296*(y/4294967296)) (b:=(x/4294967296*(y%4294967296)+x%4294967296*(y%4294967296)/4294967296)/4294967296) (h:=m7)) ?_|refine J (lG (a:=(x/4294967296*(y%4294967296)+x%4294967296*(y%4294967296)/4294967296)%4294967296+x%4294967296*(y/4294967296)) (b:=32) (hb:=by decide)) ?_|refine J (HW (a:=x/4294967296*(y/4294967296)+(x/4294967296*(y%4294967296)+x%4294967296*(y%4294967296)/4294967296)/4294967296) (b:=((x/4294967296*(y%4294967296)+x%4294967296*(y%4294967296)/4294967296)%4294967296+x%4294967296*(y/4294967296))/4294967296) (h:=m8)) ?_|refine J (L5) ?_);intro a I;rw [hw]at I;exact eI I rfl rfl rfl ⟨⟨_,_,rfl,m9,avI _ bk⟩,rfl⟩
theorem amG(w:World)(eH d1 e1 d2:Int)(jL: -9223372036854775808<=eH/\eH<=9223372036854775807)(oh: -9223372036854775808<=d1/\d1<=9223372036854775807)(rn: -9223372036854775808<=e1/\e1<=9223372036854775807)(mP: -9223372036854775808<=d2/\d2<=9223372036854775807)(pM:lp eH d1=true)(gX:lp e1 d2=true):
   bd prog 263 [.agg #[.int .i64 eH,.int .i64 d1],.agg #[.int .i64 e1,.int .i64 d2]].toArray w (λv w'=>(∃z:Int,v=.tuple #[.int .i64 z,.nilIface]/\(0<z↔BK eH d1 e1 d2))/\Below w.heap.size w w'):=by
 have w7:1<=d1:=by unfold lp at pM;exact(auo pM).1
 have w8:1<=d2:=by unfold lp at gX;exact(auo gX).1
 have qM:=X4 (n:=eH) w8;have kd:=X4 (n:=e1) w7;have s1:=XX (n:=eH) w8;have s2:=XX (n:=e1) w7;refine dP func263 rfl 76 rfl 78 rfl (λa I=>?_);revert a;refine ad λa I=>?_;refine di I (cs:=#[.int .i64 eH,.int .i64 d1]) rfl (k:=λa aq aE aT b8 I=>?_);refine di I (cs:=#[.int .i64 e1,.int .i64 d2]) rfl (k:=λa ax aP aS cZ I=>?_);have NJ:=aD aE aS bl;have aC:=aK (aK (atL _ w) aT (atI _)) aS bj;revert a;(repeat first|refine ag ?_|refine J (bJ (dy NJ)) ?_);intro a I;refine aQ I (GI ax eH d1 jL oh) λa v a6 ab I=>?_;obtain⟨rfl,a1⟩:=ab;rw [pM]at I;have z2:w.heap.size+2=ax.heap.size:=bj
 have g13:=(a1.block _ bj).trans NJ;have g23:=(a1.block _ bj).trans aP;revert a;(repeat first|refine ag ?_|refine J (bJ (dy g23)) ?_);intro a I;refine ig I (GI a6 e1 d2 rn mP) R8 ⟨rfl,trivial⟩ (k:=λa v bZ ab I=>?_);obtain⟨rfl,b7⟩:=ab;rw [gX]at I;have z3:=a1.size;have g14:=(b7.block _ bj).trans g13;have g24:=(b7.block _ bj).trans g23;have iC:=(aC.trans (a1.mono bj)).trans (b7.mono bj);clear aE aP NJ aT aS g13 g23 aC a1;have a0:bZ.cell? ⟨w.heap.size,0+0,none⟩=some (.int .i64 eH):=aF g14 rfl;have e6:bZ.cell? ⟨w.heap.size,0+1,none⟩=some (.int .i64 d1):=aF g14 rfl;have du:bZ.cell? ⟨aq.heap.size,0+0,none⟩=some (.int .i64 e1):=aF g24 rfl;have fk:bZ.cell? ⟨aq.heap.size,0+1,none⟩=some (.int .i64 d2):=aF g24 rfl;unfold BK;have la:(eH<0/\¬e1<0)\/(¬eH<0/\e1<0)\/(eH<0/\e1<0)\/(¬eH<0/\¬e1<0):=bj
 rcases la with ⟨bM,c2⟩|⟨bM,c2⟩|⟨bM,c2⟩|⟨bM,c2⟩
 · have bw:=s1.1 bM;have bf:=s2.2 bj;revert a;(repeat first|refine ag ?_|refine J (af a0) ?_|refine J (af du) ?_);intro a I;exact eI I rfl rfl rfl ⟨⟨_,rfl,bj⟩,iC⟩
 · have bw:=s1.2 bj;have bf:=s2.1 c2;revert a;(repeat first|refine ag ?_|refine J (af a0) ?_|refine J (af du) ?_);intro a I;exact eI I rfl rfl rfl ⟨⟨_,rfl,bj⟩,iC⟩
 all_goals
   have bS:∀ak:World,(ak.heap[w.heap.size]? =some (.cells #[.int .i64 eH,.int .i64 d1] 131 (0,0))/\ak.heap[aq.heap.size]? =some (.cells #[.int .i64 e1,.int .i64 d2] 131 (0,0)))->ak.cell? ⟨w.heap.size,0+0,none⟩=some (.int .i64 eH)/\ak.cell? ⟨w.heap.size,0+1,none⟩=some (.int .i64 d1)/\ak.cell? ⟨aq.heap.size,0+0,none⟩=some (.int .i64 e1)/\ak.cell? ⟨aq.heap.size,0+1,none⟩=some (.int .i64 d2):=λak h=>⟨aF h.1 rfl,aF h.1 rfl,aF h.2 rfl,aF h.2 rfl⟩;have fU:=K7 (n:=d2) bj mP.2;have fG:=K7 (n:=d1) bj oh.2;have v1:d1=((d1.natAbs:Nat):Int):=bj
   have v2:d2=((d2.natAbs:Nat):Int):=bj
   revert a;(repeat first|(intro a I;(refine gJ (λak=>ak.heap[w.heap.size]? =some (.cells #[.int .i64 eH,.int .i64 d1] 131 (0,0))/\ak.heap[aq.heap.size]? =some (.cells #[.int .i64 e1,.int .i64 d2] 131 (0,0))) [(0,true),(1,true),(3,true),(4,true),(5,true),(2,false),(6,false),(7,true),(8,true),(9,true),(10,true),(11,true)] 7 mixed bh ⟨g14,g24⟩ ?_;simp only [fF,atZ,atS,atO,at1,aug]);revert a)|refine ag ?_|refine J (af a0) ?_|refine J (af du) ?_);intro a I;revert a;(repeat first|refine e3 ?_|refine cB (λak ar=>e8 (aA _ _ rfl) (aA _ _ rfl) (hm:=fU)) ?_|refine cB (λak ar=>af ((bS ak ar).1)) ?_|refine cB (λak ar=>af ((bS ak ar).2.2.2)) ?_);intro a I;refine c7 ?_;refine aQ I (G4 _ eH jL) λa v bN ab I=>?_;obtain⟨rfl,rfl⟩:=ab;refine atJ ⟨rfl,⟨g14,g24⟩,c7 ?_⟩;refine mY I (vs:=[.int .u64 ((eH.natAbs:Nat):Int),.int .u64 d2]) (by have:=XV (bZ.drewN 1) eH.natAbs d2.natAbs bj bj;rw [<-v2]at this;exact this) Sb ⟨rfl,rfl,trivial⟩ (k:=λa v bN ab I=>?_);obtain⟨⟨h,l,rfl,S7,aN⟩,rfl⟩:=ab;refine atJ ⟨rfl,⟨g14,g24⟩,?_⟩;revert a;refine hH λa I=>?_;refine fj ?_;have g15:(bZ.drewN 1).heap[w.heap.size]? =some (.cells #[.int .i64 eH,.int .i64 d1] 131 (0,0)):=g14;have Mz:(bZ.drewN 1).heap[aq.heap.size]? =some (.cells #[.int .i64 e1,.int .i64 d2] 131 (0,0)):=g24;revert a;(repeat first|(intro a I;(refine gJ (λak=>ak.heap[w.heap.size]? =some (.cells #[.int .i64 eH,.int .i64 d1] 131 (0,0))/\ak.heap[aq.heap.size]? =some (.cells #[.int .i64 e1,.int .i64 d2] 131 (0,0))) [(0,true),(1,true),(3,true),(4,true),(5,true),(2,false),(6,false),(7,true),(8,true),(9,true),(10,true),(11,true)] 8 mixed bh ⟨g15,Mz⟩ ?_;simp only [fF,atZ,atS,atO,at1,aug]);revert a)|refine ag ?_);intro a I;revert a;(repeat first|refine e3 ?_|refine cB (λak ar=>e8 (aA _ _ rfl) (aA _ _ rfl) (hm:=fG)) ?_|refine cB (λak ar=>af ((bS ak ar).2.2.1)) ?_|refine cB (λak ar=>af ((bS ak ar).2.1)) ?_);intro a I;refine c7 ?_;refine aQ I (G4 _ e1 rn) λa v bN ab I=>?_;obtain⟨rfl,rfl⟩:=ab;refine atJ ⟨rfl,⟨g15,Mz⟩,c7 ?_⟩;refine mY I (vs:=[.int .u64 ((e1.natAbs:Nat):Int),.int .u64 d1]) (by have:=XV ((bZ.drewN 1).drewN 1) e1.natAbs d1.natAbs bj bj;rw [<-v1]at this;exact this) Sb ⟨rfl,rfl,trivial⟩ (k:=λa v bN ab I=>?_);obtain⟨⟨i,m,rfl,S8,hm⟩,rfl⟩:=ab;refine atJ ⟨rfl,⟨g15,Mz⟩,?_⟩;revert a;refine hH λa I=>?_;refine fj ?_;have g16:((bZ.drewN 1).drewN 1).heap[w.heap.size]? =some (.cells #[.int .i64 eH,.int .i64 d1] 131 (0,0)):=g14;have HA:((bZ.drewN 1).drewN 1).cell? ⟨w.heap.size,0+0,none⟩=some (.int .i64 eH):=aF g16 rfl;have gB:=eU (eU iC 1) 1;obtain⟨h',lW⟩:=acY S7 S8 aN hm;rw [S7]at qM h' lW;rw [S8]at kd h' lW;rcases axH h i with oo|oo|oo
   · revert a;(repeat first|refine ag ?_|refine J (af HA) ?_);intro a I;exact eI I rfl rfl rfl ⟨⟨_,rfl,by split at qM<;>split at kd<;>omega⟩,gB⟩
   · rcases axH l m with FH|FH|FH
     · revert a;(repeat first|refine ag ?_|refine J (af HA) ?_);intro a I;exact eI I rfl rfl rfl ⟨⟨_,rfl,by split at qM<;>split at kd<;>omega⟩,gB⟩
     · revert a;refine ad λa I=>?_;exact eI I rfl rfl rfl ⟨⟨_,rfl,by split at qM<;>split at kd<;>omega⟩,gB⟩
     · revert a;(repeat first|refine ag ?_|refine J (af HA) ?_);intro a I;exact eI I rfl rfl rfl ⟨⟨_,rfl,by split at qM<;>split at kd<;>omega⟩,gB⟩
   · revert a;(repeat first|refine ag ?_|refine J (af HA) ?_);intro a I;exact eI I rfl rfl rfl ⟨⟨_,rfl,by split at qM<;>split at kd<;>omega⟩,gB⟩
end
theorem RY(l m:List UInt8):aa l++aa m=aa (l++m):=by
 apply ayO;simp [aa,ByteArray.data_append]
theorem ael{c:UInt8}(h:c.toNat<128):Utf8.encode (c.toNat:Int)=aa [c]:=by
 have key:∀n:Fin 128,Utf8.encode ((n.val:Nat):Int)=aa [UInt8.ofNat n.val]:=bo
 have:=key ⟨c.toNat,h⟩;simpa using this
structure x1 where
 neg:Bool
 h9:List UInt8
 at_:Nat
 back:Nat
def qN:List UInt8->x1->Option x1
 | [],s=>some s
 |c::r,s=>
  if c.toNat=45 then(if s.at_=0/\Dk r=true then qN r { s with neg:=true,at_:=1 }else none)
  else if c.toNat=46 then(if s.at_=1 then qN r { s with at_:=2 }else none)
  else if iP c=true/\s.at_<=3 then(if s.at_=2\/s.at_=3 then qN r { s with h9:=s.h9++ [c],at_:=3,back:=s.back+1 }else qN r { s with h9:=s.h9++ [c],at_:=1 })
  else none
theorem amK(c:UInt8)(r:List UInt8)(s:x1):qN (c::r) s=if c.toNat=45 then(if s.at_=0/\Dk r=true then qN r { s with neg:=true,at_:=1 }else none)
 else if c.toNat=46 then(if s.at_=1 then qN r { s with at_:=2 }else none)
 else if iP c=true/\s.at_<=3 then(if s.at_=2\/s.at_=3 then qN r { s with h9:=s.h9++ [c],at_:=3,back:=s.back+1 }else qN r { s with h9:=s.h9++ [c],at_:=1 })
 else none:=rfl
theorem S0{c:UInt8}:iP c=true↔48<=c.toNat/\c.toNat<=57:=by
 unfold iP yb;rw [atQ];omega
def xy(neg:Bool)(d:List UInt8)(p:Int):Array Value:=#[.bool neg,.string (aa d),.int .i64 p]
theorem PM(neg:Bool)(d:List UInt8)(p:Int):∀v∈xy neg d p,v.oneCell'=true:=by
 intro v ao;simp [xy]at ao;rcases ao with rfl|rfl|rfl<;>rfl
theorem ani(w:World)(l:List UInt8)(aN:l.length<=96)(r:x1)(aj:qN l ⟨false,[],0,0⟩=some r)(lL:r.at_=1\/r.at_=3):bd prog 271 [.string (aa l)].toArray w (λv w'=>v=.tuple #[.agg (xy r.neg r.h9 (0- (r.back:Nat))),.bool true]/\Below w.heap.size w w'):=by
 have bT:=kH l;refine cF func271 rfl 127 rfl 128 rfl (λa I=>?_);revert a;refine ad λa I=>?_;refine b6 I Pg λa aq aE aT b8 I=>?_;have aB:=fA aT;revert a;(repeat first|(intro a I;(refine ayE ?_);revert a)|refine ag ?_);intro a I;refine b6 I Pg λa ax aP aS cZ I=>?_;have aC:=aB.trans ((fA aS).mono aB.size);have oj:=aD aE aS bl;obtain⟨q,aZ⟩:∃q,q=aq.heap.size:=⟨_,rfl⟩;have VQ:w.heap.size<q:=by rw [aZ];exact bO aE
 rw [<-aZ]at aP I;revert a;(repeat first|(intro a I;(refine wp_label ?_);revert a)|refine ag ?_);intro a I;refine eg (λm a wr=>∃(k:Nat) (s:x1),k<=l.length/\m=l.length - k/\qN (l.drop k) s=some r/\s.at_<=3/\s.back<=k/\Fr 128 [(0,.string (aa l)),(2,.pointer (some ⟨w.heap.size,0,none⟩)),(4,.pointer (some ⟨q,0,none⟩)),(5,.int .i64 (s.at_:Nat)),(6,.int .i64 (s.back:Nat)),(7,.int .i64 0),(8,.bool false),(9,.int .i64 (k:Nat))] a/\
   wr.heap[w.heap.size]? =some (.cells (xy false [] 0) 412 (0,0))/\wr.heap[q]? =some (.cells (xy s.neg s.h9 0) 412 (0,0))/\s.h9.length<=k/\Below w.heap.size w wr) l.length
   ⟨0,⟨false,[],0,0⟩,auc _,rfl,aj,bk,bk,I.bb,oj,aP,bk,aC⟩ ?_
 clear I aE aP oj aB aC aT aS;rintro m a wr ⟨k,s,au,rfl,ab,has,lN,I,az,Am,tv,cH⟩;have C2:=cH.size;by_cases bu:k<l.length
 · have av:=atT bu;have wW:=aua bu;have rp:∀d,(l.drop (k+1))[0]? =some d->l[k+1]? =some d:=λd h=>by simpa [auL]using h
   generalize l[k]=c at av wW;rw [wW,amK]at ab;have fin:∀(eP:x1) (a6:World) (a:Act) (L:List (Nat × Value)),qN (l.drop (k+1)) eP=some r->eP.at_<=3->eP.back<=k+1->eP.h9.length<=k+1->Fr 128 L a->zw L [(0,.string (aa l)),(2,.pointer (some ⟨w.heap.size,0,none⟩)),(4,.pointer (some ⟨q,0,none⟩)),(5,.int .i64 (eP.at_:Nat)),(6,.int .i64 (eP.back:Nat)),(7,.int .i64 0),(8,.bool false),(9,.int .i64 ((k:Nat)+1))]->wr.grownBy a6 (some q)->a6.heap[q]? =some (.cells (xy eP.neg eP.h9 0) 412 (0,0))->
       ∃tQ,tQ<l.length - k/\∃(k:Nat) (s:x1),k<=l.length/\tQ=l.length - k/\qN (l.drop k) s=some r/\s.at_<=3/\s.back<=k/\Fr 128 [(0,.string (aa l)),(2,.pointer (some ⟨w.heap.size,0,none⟩)),(4,.pointer (some ⟨q,0,none⟩)),(5,.int .i64 (s.at_:Nat)),(6,.int .i64 (s.back:Nat)),(7,.int .i64 0),(8,.bool false),(9,.int .i64 (k:Nat))] a/\
         a6.heap[w.heap.size]? =some (.cells (xy false [] 0) 412 (0,0))/\a6.heap[q]? =some (.cells (xy s.neg s.h9 0) 412 (0,0))/\s.h9.length<=k/\Below w.heap.size w a6:=
     λeP a6 a L U ae aM cc gA gM jc ko=>⟨l.length - (k+1),bj,k+1,eP,bu,rfl,U,ae,aM,gA.xp gM,aD az jc bm,ko,cc,aK cH jc C2⟩
   by_cases ML:c.toNat=45
   · rw [atM ML]at ab;by_cases eK:s.at_=0/\Dk (l.drop (k+1))=true
     · rw [atM eK]at ab;obtain⟨MN,hO⟩:=eK;obtain⟨d,aI,mP⟩:∃d,l[k+1]? =some d/\48<=d.toNat/\d.toNat<=57:=by
         cases he:l.drop (k+1)with
         |nil=>rw [he]at hO;cases hO
         |cons d fe=>
           rw [he]at hO;exact⟨d,rp d (by rw [he];rfl),S0.1 hO⟩
       have Vk:=(atY.1 aI).1;revert a;(repeat first|refine ag ?_|refine J (mc (aA _ _ rfl) av) ?_);intro a I;refine cr I (aw _ _ rfl) Am (i:=0+0) (by show 0<3;decide) rfl rfl rfl (k:=λa a6 bR bz eE I=>?_);revert a;(repeat first|refine ag ?_|refine J (mc (aA _ _ rfl) aI rfl rfl rfl) ?_);intro a I;exact fin { s with neg:=true,at_:=1 } a6 a _ ab (avX rfl) (by show s.back<=k+1;omega) (by show s.h9.length<=k+1;omega) I ⟨rfl,rfl,rfl,rfl,rfl,rfl,rfl,rfl,trivial⟩ bz bR
     · rw [atK eK]at ab;cases ab
   · rw [atK ML]at ab;by_cases ES:c.toNat=46
     · rw [atM ES]at ab;by_cases eK:s.at_=1
       · rw [atM eK]at ab;revert a;(repeat first|refine ag ?_|refine J (mc (aA _ _ rfl) av) ?_);intro a I;exact fin { s with at_:=2 } wr a _ ab (avX rfl) (by show s.back<=k+1;omega) (by show s.h9.length<=k+1;omega) I ⟨rfl,rfl,rfl,rfl,rfl,rfl,rfl,rfl,trivial⟩ (awK _ _) Am
       · rw [atK eK]at ab;cases ab
     · rw [atK ES]at ab;by_cases mj:iP c=true/\s.at_<=3
       · rw [atM mj]at ab;have art:=S0.1 mj.1;have bM:wr.cell? ⟨q,0+1,none⟩=some (.string (aa s.h9)):=aF Am rfl;have asw:=kH s.h9;have L1:∀{L:List (Nat × Value)} {w:World} {x:Operand} {ty:TypeId},a7 L x (.int .u8 (c.toNat:Int))->bL prog L w (.convert 5 9 x) ty (.string (aa [c])) w:=λhx=>by rw [<-ael (show c.toNat<128 by omega)];exact adt (aA _ _ rfl) (aA _ _ rfl) hx
         have Ez:∀{L:List (Nat × Value)} {w:World} {x y:Operand} {t t' ty:TypeId},a7 L x (.string (aa s.h9))->a7 L y (.string (aa [c]))->bL prog L w (.binOp .add t x y t') ty (.string (aa (s.h9++ [c]))) w:=λhx aO=>by rw [<-RY];exact BZ hx aO (by rw [kH,kH,List.length_singleton];omega)
         by_cases eK:s.at_=2\/s.at_=3
         · rw [atM eK]at ab;rcases eK with eK|eK
           · revert a;(repeat first|refine ag ?_|refine J (mc (aA _ _ rfl) av) ?_|refine J (L1 rfl) ?_|refine J (Ez rfl rfl) ?_|refine J (af bM) ?_);intro a I;refine cr I (aw _ _ rfl) Am (i:=0+1) (by show 1<3;decide) rfl rfl rfl (k:=λa a6 bR bz eE I=>?_);revert a;refine ad λa I=>?_;exact fin { s with h9:=s.h9++ [c],at_:=3,back:=s.back+1 } a6 a _ ab (avX rfl) (by show s.back+1<=k+1;omega) bm I ⟨rfl,rfl,rfl,rfl,rfl,rfl,rfl,rfl,trivial⟩ bz bR
           · revert a;(repeat first|refine ag ?_|refine J (mc (aA _ _ rfl) av) ?_|refine J (L1 rfl) ?_|refine J (Ez rfl rfl) ?_|refine J (af bM) ?_);intro a I;refine cr I (aw _ _ rfl) Am (i:=0+1) (by show 1<3;decide) rfl rfl rfl (k:=λa a6 bR bz eE I=>?_);revert a;refine ad λa I=>?_;exact fin { s with h9:=s.h9++ [c],at_:=3,back:=s.back+1 } a6 a _ ab (avX rfl) (by show s.back+1<=k+1;omega) bm I ⟨rfl,rfl,rfl,rfl,rfl,rfl,rfl,rfl,trivial⟩ bz bR
         · rw [atK eK]at ab;have afw:s.at_≠2:=λe=>eK (.inl e);have Ix:s.at_≠3:=λe=>eK (.inr e);revert a;(repeat first|refine ag ?_|refine J (mc (aA _ _ rfl) av) ?_|refine J (L1 rfl) ?_|refine J (Ez rfl rfl) ?_|refine J (af bM) ?_);intro a I;refine cr I (aw _ _ rfl) Am (i:=0+1) (by show 1<3;decide) rfl rfl rfl (k:=λa a6 bR bz eE I=>?_);revert a;refine ad λa I=>?_;exact fin { s with h9:=s.h9++ [c],at_:=1 } a6 a _ ab (avX rfl) (by show s.back<=k+1;omega) bm I ⟨rfl,rfl,rfl,rfl,rfl,rfl,rfl,rfl,trivial⟩ bz bR
       · rw [atK mj]at ab;cases ab
 · have fD:l.drop k=[]:=ava bj;rw [fD]at ab;obtain rfl:s=r:=aud ab;revert a;refine ad λa I=>?_;refine cr I (aw _ _ rfl) Am (i:=0+2) (by show 2<3;decide) rfl rfl rfl (k:=λa a6 bR bz eE I=>?_);replace bR:a6.heap[q]? =some (.cells (xy s.neg s.h9 (0- (s.back:Nat))) 412 (0,0)):=bR;have sr:=aD az bz bm;have a1:=aK cH bz C2;rcases lL with lL|lL
   · revert a;(repeat first|refine ag ?_|refine J (bJ (dy bR)) ?_);intro a I;refine dX I (aw _ _ rfl) rfl rfl sr (PM _ _ _) (k:=λa bZ bX bD eY I=>?_);revert a;refine ad λa I=>?_;exact h7 I rfl (agg _ rfl) (aw _ _ rfl) bX rfl rfl ⟨rfl,aK a1 bD a1.size⟩
   · revert a;(repeat first|refine ag ?_|refine J (bJ (dy bR)) ?_);intro a I;refine dX I (aw _ _ rfl) rfl rfl sr (PM _ _ _) (k:=λa bZ bX bD eY I=>?_);revert a;refine ad λa I=>?_;exact h7 I rfl (agg _ rfl) (aw _ _ rfl) bX rfl rfl ⟨rfl,aK a1 bD a1.size⟩
section
variable {P:Program} {w:World} {l:List (Nat × Value)}
theorem H5{k:IntKind}{x y:Operand}{m n r:Int}{t t':TypeId}(ba:n≠0)(aj:k.wrap (m.tdiv n)=r)(hx:a7 l x (.int k m):=by exact rfl)(aO:a7 l y (.int k n):=by exact rfl):bL P l w (.binOp .quo t x y t') ty (.int k r) w:=by
 unfold bL;intro cC aY d pos bx g;simp [execOp,eqGuard,binOp,Op.intDiv,aY _ _ hx,aY _ _ aO,ba,aj]
theorem SF{x i:Operand}{t:TypeId}(b0:P.underlying t=some .string)(hx:a7 l x (.string ⟨#[48]⟩):=by exact rfl)(ai:a7 l i (.int .i64 0):=by exact rfl):bL P l w (.index t x i) ty (.int .u8 48) w:=
 uE (mc (s:=[48]) (j:=0) (c:=48) b0 rfl hx ai rfl) rfl
end
theorem aph(w:World)(l:List UInt8)(aN:l≠ []):bd prog 272 [.string (aa l),.string ⟨#[48]⟩].toArray w (λv w'=>v=.string (aa (Lib.trimLeftB l 48))/\w'=w):=by
 have b5:decide (aa l=(⟨#[]⟩:ByteArray))=false:=auk λh=>aN ((zI (m:=[])).1 h);refine dP func272 rfl 35 rfl 37 rfl (λa I=>?_);revert a;(repeat first|refine ag ?_|refine J (SF (aA _ _ rfl)) ?_);intro a I;refine mY I (R:=λv w'=>v=.string (aa (Lib.trimLeftB l 48))/\w'=w) (auC (Tryz.strings_trimLeftByte (aa l) 48 w) (by rintro e w' ⟨rfl,rfl⟩;exact⟨_,rfl,rfl,rfl⟩)) ack ⟨rfl,rfl,trivial⟩ (k:=λa v aq ab I=>?_);obtain⟨rfl,rfl⟩:=ab;revert a;refine ad λa I=>?_;exact bc I rfl rfl ⟨rfl,rfl⟩
theorem Z4(w:World)(l:List UInt8)(aN:l≠ [])(iu:l.length<=1000):bd prog 273 [.string (aa l),.string ⟨#[48]⟩].toArray w (λv w'=>v=.string (aa (Lib.trimRightB l 48))/\w'=w):=by
 have b5:decide (aa l=(⟨#[]⟩:ByteArray))=false:=auk λh=>aN ((zI (m:=[])).1 h);refine dP func273 rfl 35 rfl 37 rfl (λa I=>?_);revert a;(repeat first|refine ag ?_|refine J (SF (aA _ _ rfl)) ?_);intro a I;refine mY I (R:=λv w'=>v=.string (aa (Lib.trimRightB l 48))/\w'=w) (auC (Tryz.strings_trimRightByte (aa l) 48 w (by rw [kH];omega)) (by rintro e w' ⟨rfl,rfl⟩;exact⟨_,rfl,rfl,rfl⟩)) acm ⟨rfl,rfl,trivial⟩ (k:=λa v aq ab I=>?_);obtain⟨rfl,rfl⟩:=ab;revert a;refine ad λa I=>?_;exact bc I rfl rfl ⟨rfl,rfl⟩
def nR(n d:Int):Array Value:=#[.int .i64 n,.int .i64 d]
theorem oD(n d:Int):∀v∈nR n d,v.oneCell'=true:=by
 intro v ao;simp [nR]at ao;rcases ao with rfl|rfl<;>rfl
theorem To(w:World)(neg:Bool)(den:Int)(aI:den=1\/den=2):bd prog 275 [.bool neg,.int .u64 0,.int .u64 1,.int .u64 0,.int .u64 den].toArray w (λv w'=>v=.tuple #[.agg (nR (if neg then -1 else 1) den),.nilIface]/\Below w.heap.size w w'):=by
 have av:IntKind.i64.wrap den=den:=by rcases aI with rfl|rfl<;>decide
 refine Ib func275 rfl 50 rfl 55 rfl (λa I=>?_);revert a;refine ad λa I=>?_;refine b6 I vm λa aq aE aT b8 I=>?_;have aB:=fA aT;cases neg with
 |false=>
  revert a;(repeat first|refine ag ?_|refine J (e8 (aA _ _ rfl) (aA _ _ rfl) rfl (show IntKind.i64.wrap 1=1 by decide)) ?_|refine J (e8 (aA _ _ rfl) (aA _ _ rfl) rfl av) ?_|refine J (cA (vs:=[(0,.int .i64 1),(1,.int .i64 den)]) (cells:=nR 1 den) bh ⟨rfl,rfl,rfl,rfl,trivial⟩) ?_);intro a I;refine dX I (aw _ _ rfl) rfl rfl aE (oD _ _) (k:=λa ax aP aS cZ I=>?_);revert a;refine ad λa I=>?_;exact h7 I rfl (agg _ rfl) (aw _ _ rfl) aP rfl rfl ⟨rfl,aK aB aS aB.size⟩
 |true=>
  revert a;(repeat first|refine ag ?_|refine J (SI (k:=.u64) (m:=1) (r:=18446744073709551615) bk) ?_|refine J (e8 (aA _ _ rfl) (aA _ _ rfl) rfl (show IntKind.i64.wrap 18446744073709551615= -1 by decide)) ?_|refine J (e8 (aA _ _ rfl) (aA _ _ rfl) rfl av) ?_|refine J (cA (vs:=[(0,.int .i64 (-1)),(1,.int .i64 den)]) (cells:=nR (-1) den) bh ⟨rfl,rfl,rfl,rfl,trivial⟩) ?_);intro a I;refine dX I (aw _ _ rfl) rfl rfl aE (oD _ _) (k:=λa ax aP aS cZ I=>?_);revert a;refine ad λa I=>?_;exact h7 I rfl (agg _ rfl) (aw _ _ rfl) aP rfl rfl ⟨rfl,aK aB aS aB.size⟩
theorem XW(w:World)(x y:Nat)(r:Nat)(hx:x<1000)(aO:y<1000)(aj:x*y=r):bd prog 279 [.int .u64 (x:Nat),.int .u64 (y:Nat)].toArray w (λv w'=>v=.tuple #[.int .u64 0,.int .u64 (r:Nat)]/\w'=w):=
 auC (Tryz.bits_Mul64 x y bj bj w) (by
  rintro e w' ⟨rfl,rfl⟩;have U:=Nat.mul_lt_mul'' hx aO;refine⟨_,rfl,?_,rfl⟩;rw [Nat.div_eq_of_lt bj,auU bj,aj];rfl)
theorem amm(w:World):bd prog 301 [.bool false,.int .u64 5,.int .u64 1,.int .u64 1,.int .u64 10].toArray w (λv w'=>v=.tuple #[.agg (nR 1 2),.nilIface]/\Below w.heap.size w w'):=by
 refine Ib func301 rfl 47 rfl 52 rfl (λa I=>?_);revert a;refine ad λa I=>?_;refine b6 I vm λa aq aE aT b8 I=>?_;have aB:=fA aT;revert a;refine ad λa I=>?_;refine aQ I (MA aq 5 10 bk bk) λa v ax ab I=>?_;obtain⟨rfl,aC⟩:=ab;revert a;refine ad λa I=>?_;refine aQ I (MA ax 1 1 bk bk) λa v a6 ab I=>?_;obtain⟨rfl,a1⟩:=ab;rw [show((Nat.gcd 5 10:Nat):Int)=5 by decide,show((Nat.gcd 1 1:Nat):Int)=1 by decide]at I;have k9:=(aB.trans (aC.below _)).trans (a1.below _);have bR:=bG (a1.below _) (bG (aC.below _) aE);revert a;(repeat first|(intro a I;(refine gJ (cP a6) [(0,true),(1,true),(2,true),(3,true),(4,true),(5,true),(6,false),(7,true),(8,true),(9,true),(10,true),(11,true)] 2 mixed bh ⟨1,rfl⟩ ?_;simp only [fF,atZ,atS,atO,at1,aug]);revert a)|refine ag ?_);intro a I;revert a;(repeat first|refine e3 ?_|refine cB (λak ar=>H5 (k:=.u64) (m:=5) (n:=5) (r:=1) bk bk) ?_|refine cB (λak ar=>H5 (k:=.u64) (m:=1) (n:=1) (r:=1) bk bk) ?_);intro a I;refine c7 ?_;refine aQ I (XW _ 1 1 1 bk bk rfl) λa v bZ ab I=>?_;obtain⟨rfl,ais⟩:=ab;have Fh:cP a6 bZ:=by rw [ais];exact⟨1,rfl⟩
 refine atJ ⟨rfl,Fh,?_⟩;revert a;refine hH λa I=>?_;refine fj ?_;revert a;(repeat first|(intro a I;(refine gJ (cP a6) [(0,true),(1,true),(2,true),(3,true),(4,true),(5,true),(6,false),(7,true),(8,true),(9,true),(10,true),(11,true)] 3 mixed bh (Fh.more 1) ?_;simp only [fF,atZ,atS,atO,at1,aug]);revert a)|refine ag ?_);intro a I;revert a;(repeat first|refine e3 ?_|refine cB (λak ar=>H5 (k:=.u64) (m:=1) (n:=1) (r:=1) bk bk) ?_|refine cB (λak ar=>H5 (k:=.u64) (m:=10) (n:=5) (r:=2) bk bk) ?_);intro a I;refine c7 ?_;refine aQ I (XW _ 1 2 2 bk bk rfl) λa v bN ab I=>?_;obtain⟨rfl,vj⟩:=ab;have Np:cP a6 bN:=by rw [vj];exact Fh.more 1
 refine atJ ⟨rfl,Np,?_⟩;revert a;refine hH λa I=>?_;refine fj ?_;have cx:=k9.trans (Np.below _);have bB:=bG (Np.below _) bR;revert a;refine ad λa I=>?_;refine aQ I (To bN false 2 (.inr rfl)) λa v bQ ab I=>?_;obtain⟨rfl,bP⟩:=ab;revert a;refine ad λa I=>?_;refine dX I (aw _ _ rfl) rfl rfl (bG bP bB) (oD 1 2) (k:=λa bt c8 cf fZ I=>?_);revert a;refine ad λa I=>?_;have uZ:=cx.trans (bP.mono cx.size);exact h7 I rfl (agg _ rfl) (aw _ _ rfl) c8 rfl rfl ⟨rfl,aK uZ cf uZ.size⟩
section
attribute [local irreducible] Code.rounds
def rW(g:Nat)(n d:Int)(w:World):Prop:=w.heap[g]? =some (.cells (nR n d) 131 (0,0))
theorem ad4(w:World):bd prog 294 [.agg (nR 5 1),.agg (nR 10 1)].toArray w (λv w'=>v=.tuple #[.agg (nR 1 2),.nilIface]/\Below w.heap.size w w'):=by
 refine dP func294 rfl 41 rfl 43 rfl (λa I=>?_);revert a;refine ad λa I=>?_;refine di I rfl (k:=λa aq aE aT b8 I=>?_);refine di I rfl (k:=λa ax aP aS cZ I=>?_);refine b6 I vm λa a6 bR bz eE I=>?_;have aB:=fA aT;have aC:=aB.trans ((fA aS).mono aB.size);have a1:=aC.trans ((fA bz).mono aC.size);have eK:rW w.heap.size 5 1 a6:=aD (aD aE aS bl) bz bl;have aH:rW aq.heap.size 10 1 a6:=aD aP bz bl;have lS:=bO aE;have eB:=bO aP;revert a;(repeat first|refine ag ?_|refine J (bJ (dy eK)) ?_);intro a I;refine aQ I (GI a6 5 1 bk bk) λa v bZ ab I=>?_;obtain⟨rfl,b7⟩:=ab;rw [show lp 5 1=true by decide]at I;have wI:rW w.heap.size 5 1 bZ:=bG b7 eK;have iC:rW aq.heap.size 10 1 bZ:=bG b7 aH;have bX:=bG b7 bR;have yv:=a1.trans (b7.mono a1.size);revert a;(repeat first|refine ag ?_|refine J (bJ (dy iC)) ?_);intro a I;refine ig I (GI bZ 10 1 bk bk) R8 ⟨rfl,trivial⟩ (k:=λa v bN ab I=>?_);obtain⟨rfl,cx⟩:=ab;rw [show lp 10 1=true by decide]at I;have wJ:rW w.heap.size 5 1 bN:=bG cx wI;have ob:rW aq.heap.size 10 1 bN:=bG cx iC;have bB:=bG cx bX;have wT:=yv.trans (cx.mono yv.size);have c0:∀ak:World,rW w.heap.size 5 1 ak->ak.cell? ⟨w.heap.size,0+0,none⟩=some (.int .i64 5):=λak h=>aF h rfl;have bM:∀ak:World,rW w.heap.size 5 1 ak->ak.cell? ⟨w.heap.size,0+1,none⟩=some (.int .i64 1):=λak h=>aF h rfl;have d0:∀ak:World,rW aq.heap.size 10 1 ak->ak.cell? ⟨aq.heap.size,0+0,none⟩=some (.int .i64 10):=λak h=>aF h rfl;have d1:∀ak:World,rW aq.heap.size 10 1 ak->ak.cell? ⟨aq.heap.size,0+1,none⟩=some (.int .i64 1):=λak h=>aF h rfl;revert a;(repeat first|(intro a I;(refine gJ (λak=>rW w.heap.size 5 1 ak/\rW aq.heap.size 10 1 ak) [(0,true),(1,true),(2,true),(3,true),(4,true),(5,true),(6,true),(7,true),(8,true),(10,true),(11,true),(12,true),(13,true),(14,true),(15,true),(16,true),(17,true),(9,false),(18,false),(19,false),(20,true),(21,true),(22,false),(23,true)] 5 mixed bh ⟨wJ,ob⟩ ?_;simp only [fF,atZ,atS,atO,at1,aug]);revert a)|refine ag ?_|refine J (af (d0 _ ob)) ?_);intro a I;have uz:IntKind.u64.wrap 1=1:=bk
 revert a;(repeat first|refine e3 ?_|refine cB (λak ar=>e8 (aA _ _ rfl) (aA _ _ rfl) rfl uz) ?_|refine cB (λak ar=>af (c0 ak ar.1)) ?_|refine cB (λak ar=>af (bM ak ar.1)) ?_|refine cB (λak ar=>af (d0 ak ar.2)) ?_|refine cB (λak ar=>af (d1 ak ar.2)) ?_);intro a I;refine c7 ?_;refine aQ I (G4 _ 5 bk) λa v bQ ab I=>?_;obtain⟨rfl,rfl⟩:=ab;refine atJ ⟨rfl,⟨wJ,ob⟩,?_⟩;refine c7 ?_;refine aQ I (G4 _ 10 bk) λa v bQ ab I=>?_;obtain⟨rfl,rfl⟩:=ab;refine atJ ⟨rfl,⟨wJ,ob⟩,?_⟩;refine c7 ?_;refine aQ I (amm _) λa v bQ ab I=>?_;obtain⟨rfl,bP⟩:=ab;have uY:=(cP.below (w:=bN) (w':=bN.drewN 1) ⟨1,rfl⟩ bN.heap.size).trans bP;refine atJ ⟨rfl,⟨bG uY wJ,bG uY ob⟩,?_⟩;revert a;refine hH λa I=>?_;refine c7 ?_;refine dX I (aw _ _ rfl) rfl rfl (bG uY bB) (oD 1 2) (k:=λa bt c8 cf fZ I=>?_);have ahx:some w.heap.size≠some ax.heap.size:=bm
 have ahy:some aq.heap.size≠some ax.heap.size:=bm
 refine atJ ⟨rfl,⟨aD (bG uY wJ) cf ahx,aD (bG uY ob) cf ahy⟩,?_⟩;revert a;refine hH λa I=>?_;refine fj ?_;revert a;refine ad λa I=>?_;have uZ:=wT.trans (uY.mono wT.size);exact h7 I rfl (agg _ rfl) (aw _ _ rfl) c8 rfl rfl ⟨rfl,uZ.grown cf uZ.size (λk au=>by cases au;exact aC.size)⟩
theorem abz{l:List UInt8}(h:w'=w\/∃t,w'=Lib.bytesWorld w 5 t):Below w.heap.size w w':=by
 rcases h with rfl|⟨t,rfl⟩
 · exact atL _ _
 · exact ax0 _ _ _
theorem anj(w:World):bd prog 276 [.bool false,.string (aa [53]),.int .i64 1].toArray w (λv w'=>v=.tuple #[.agg (nR 1 2),.nilIface]/\Below w.heap.size w w'):=by
 have bT:(aa [53]).size=1:=rfl;refine mf func276 rfl 50 rfl 53 rfl (λa I=>?_);revert a;refine ad λa I=>?_;refine b6 I vm λa aq aE aT b8 I=>?_;have aB:=fA aT;revert a;refine ad λa I=>?_;refine mY I (R:=λv w'=>v=.tuple #[.int .i64 5,.nilIface]/\Below aq.heap.size aq w') (auC (Tryz.strconv_ParseInt_10_at64_ok (aa [53]) bk 5 bo aq) (by
  rintro e w' ⟨rfl,h⟩;exact⟨_,rfl,rfl,abz (l:=[]) h⟩)) ab9 ⟨rfl,rfl,rfl,trivial⟩ (k:=λa v ax ab I=>?_)
 obtain⟨rfl,aC⟩:=ab;have aP:=bG aC aE;have gV:=aB.trans (aC.mono aB.size);revert a;(repeat first|refine ag ?_|refine J (cA (vs:=[(0,.int .i64 5),(1,.int .i64 1)]) (cells:=nR 5 1) bh ⟨rfl,rfl,rfl,rfl,trivial⟩) ?_);intro a I;refine b6 I vm λa a6 bR bz eE I=>?_;refine dX I (aw _ _ rfl) rfl rfl bR (oD 5 1) (k:=λa bZ bX bD eY I=>?_);have a1:=gV.trans ((fA bz).mono gV.size);have b7:=a1.grown bD a1.size (λk au=>by cases au;exact gV.size);have rm:=bO aP;have mv:=aD (aD aP bz bl) bD bm;revert a;(repeat first|(intro a I;refine auX 2 ?_;revert a)|(intro a I;refine gp ?_;revert a)|refine ag ?_|refine J (bJ (dy bX)) ?_|refine J (cA (vs:=[(0,.int .i64 10),(1,.int .i64 1)]) (cells:=nR 10 1) bh ⟨rfl,rfl,rfl,rfl,trivial⟩) ?_);intro a I;refine aQ I (ad4 bZ) λa v bN ab I=>?_;obtain⟨rfl,cx⟩:=ab;have bB:=bG cx bX;have vg:=bG cx mv;have wT:=b7.trans (cx.mono b7.size);revert a;refine ad λa I=>?_;refine b6 I vm λa bQ cI cM fm I=>?_;refine dX I (aw _ _ rfl) rfl rfl cI (oD 1 2) (k:=λa bt c8 cf fZ I=>?_);have bP:=wT.trans ((fA cM).mono wT.size);have b2:=bP.grown cf bP.size (λk au=>by cases au;exact wT.size);have ar3:=bO bB;have ar7:=bO vg;have agV:=aD (aD bB cM bl) cf bm;have xa:=aD (aD vg cM bl) cf bm;revert a;refine ad λa I=>?_;refine aQ I (Ph bt _ _) λa v cD ab I=>?_;obtain⟨rfl,rfl⟩:=ab;revert a;(repeat first|refine ag ?_|refine J (bJ (dy c8)) ?_);intro a I;refine dX I (aw _ _ rfl) rfl rfl agV (oD 1 2) (k:=λa dt dm cG hn I=>?_);have eB:=gV.size;have dT:=b2.grown cG b2.size (λk au=>by cases au;exact eB);have Az:=aD xa cG bm;revert a;(repeat first|(intro a I;refine gp ?_;revert a)|refine ag ?_|refine J (bJ (dy dm)) ?_);intro a I;refine dX I (aw _ _ rfl) rfl rfl Az (oD 1 2) (k:=λa gw rj gq tK I=>?_);revert a;refine ad λa I=>?_;exact h7 I rfl (agg _ rfl) (aw _ _ rfl) rj rfl rfl ⟨rfl,aK dT gq dT.size⟩
end
def aaO(r:x1)(n d:Int):Prop:=(r=⟨false,[48],1,0⟩/\n=0/\d=1)\/(r=⟨r.neg,[49],1,0⟩/\n=(if r.neg then -1 else 1)/\d=1)\/(r=⟨false,[48,53],3,1⟩/\n=1/\d=2)
def uk(l:List UInt8)(n d:Int):Prop:=l.length<=96/\∃r,qN l ⟨false,[],0,0⟩=some r/\aaO r n d
theorem anh(w:World)(l:List UInt8)(n d:Int)(h:uk l n d):bd prog 259 [.string (aa l)].toArray w (λv w'=>v=.tuple #[.agg (nR n d),.nilIface]/\Below w.heap.size w w'):=by
 obtain⟨aN,r,aj,bC⟩:=h;have bT:=kH l;refine cF func259 rfl 79 rfl 80 rfl (λa I=>?_);revert a;refine ad λa I=>?_;refine b6 I vm λa aq aE aT b8 I=>?_;have aB:=fA aT;revert a;refine ad λa I=>?_;refine aQ I (ani aq l aN r aj (by rcases bC with ⟨h,_⟩|⟨h,_⟩|⟨h,_⟩<;>rw [h]<;>simp)) λa v ax ab I=>?_;obtain⟨rfl,aC⟩:=ab;have aP:=bG aC aE;have gV:=aB.trans (aC.mono aB.size);revert a;refine ad λa I=>?_;refine b6 I Pg λa a6 bR bz eE I=>?_;refine dX I (aw _ _ rfl) rfl rfl bR (PM _ _ _) (k:=λa bZ bX bD eY I=>?_);have a1:=gV.trans ((fA bz).mono gV.size);have b7:=a1.grown bD a1.size (λk au=>by cases au;exact gV.size);have rm:=bO aP;have mv:=aD (aD aP bz bl) bD bm;clear bR bz bD;have b5:r.h9≠ []:=by rcases bC with ⟨h,_⟩|⟨h,_⟩|⟨h,_⟩<;>rw [h]<;>simp
 have c0:bZ.cell? ⟨ax.heap.size,0+0,none⟩=some (.bool r.neg):=aF bX rfl;have bM:bZ.cell? ⟨ax.heap.size,0+1,none⟩=some (.string (aa r.h9)):=aF bX rfl;have c2:bZ.cell? ⟨ax.heap.size,0+2,none⟩=some (.int .i64 (0- (r.back:Nat))):=aF bX rfl;revert a;(repeat first|refine ag ?_|refine J (af bM) ?_);intro a I;refine aQ I (aph bZ r.h9 b5) λa v bN ab I=>?_;obtain⟨rfl,rfl⟩:=ab;have fin:∀{a:Act} {L:List (Nat × Value)} {bQ:World},bQ.heap[w.heap.size]? =some (.cells (nR n d) 131 (0,0))->Fr 80 L a->look L 2=some (.pointer (some ⟨w.heap.size,0,none⟩))->look L 3=some .nilIface->Below w.heap.size w bQ->
    bodyPost prog Tryz.f259 (λe w'=>∃v,e=.returned v/\v=.tuple #[.agg (nR n d),.nilIface]/\Below w.heap.size w w') .ret a bQ:=
   λaz I ae aM hb=>h7 I rfl (agg _ rfl) (aw _ _ rfl) az ae aM ⟨rfl,hb⟩
 rcases bC with ⟨h,rfl,rfl⟩|⟨h,ba,rfl⟩|⟨h,rfl,rfl⟩
 · rw [h]at I;rw [show Lib.trimLeftB [48] 48=[] by decide+kernel]at I;revert a;(repeat first|refine ag ?_|refine J (cA (vs:=[(1,.int .i64 1)]) (cells:=nR 0 1) bh ⟨rfl,rfl,trivial⟩) ?_);intro a I;refine dX I (aw _ _ rfl) rfl rfl mv (oD 0 1) (k:=λa bQ cI cM fm I=>?_);revert a;refine ad λa I=>?_;exact fin cI I rfl rfl (aK b7 cM b7.size)
 · have qy:r.h9=[49]:=by rw [h]
   have lN:r.back=0:=by rw [h]
   rw [qy,show Lib.trimLeftB [49] 48=[49] by decide+kernel]at I;rw [lN]at c2;have lS:(aa [49]).size=1:=rfl;revert a;refine ad λa I=>?_;refine aQ I (Z4 bN [49] bl bk) λa v bQ ab I=>?_;obtain⟨rfl,rfl⟩:=ab;rw [show Lib.trimRightB [49] 48=[49] by decide+kernel]at I;revert a;(repeat first|refine ag ?_|refine J (af c2) ?_);intro a I;refine cr I (aw _ _ rfl) bX (i:=0+2) (by show 2<3;decide) rfl rfl rfl (k:=λa bt c8 cf fZ I=>?_);have bf:bt.cell? ⟨ax.heap.size,0+2,none⟩=some (.int .i64 0):=aF c8 rfl;have fD:bt.cell? ⟨ax.heap.size,0+0,none⟩=some (.bool r.neg):=aF c8 rfl;have xa:=aD mv cf bm;have b2:=b7.grown cf b7.size (λk au=>by cases au;exact gV.size);revert a;(repeat first|refine ag ?_|refine J (af bf) ?_);intro a I;refine mY I (R:=λv w'=>v=.string (aa [])/\w'=bt) (auC (Tryz.strings_Repeat_zero ⟨#[48]⟩ bt) (by rintro e w' ⟨rfl,rfl⟩;exact⟨_,rfl,rfl,rfl⟩)) ach ⟨rfl,rfl,trivial⟩ (k:=λa v cD ab I=>?_);obtain⟨rfl,rfl⟩:=ab;have Ez:∀{L:List (Nat × Value)} {w:World} {x y:Operand} {t t' ty:TypeId},a7 L x (.string (aa [49]))->a7 L y (.string (aa []))->bL prog L w (.binOp .add t x y t') ty (.string (aa [49])) w:=λhx aO=>uE (BZ hx aO bk) (by rw [RY];rfl);revert a;(repeat first|refine ag ?_|refine J (Ez rfl rfl) ?_);intro a I;refine mY I (R:=λv w'=>v=.tuple #[.int .u64 1,.nilIface]/\Below cD.heap.size cD w') (auC (Tryz.strconv_ParseUint_10_at64_ok (aa [49]) bk 1 bo cD) (by
    rintro e w' ⟨rfl,rfl|rfl⟩
    · exact⟨_,rfl,rfl,atL _ _⟩
    · exact⟨_,rfl,rfl,ax0 _ _ _⟩)) LA ⟨rfl,rfl,rfl,trivial⟩ (k:=λa v dt ab I=>?_)
   obtain⟨rfl,dT⟩:=ab;have B4:=eG fD dT;have UL:=b2.trans (dT.mono b2.size);revert a;(repeat first|refine ag ?_|refine J (af B4) ?_);intro a I;refine aQ I (To dt r.neg 1 (.inl rfl)) λa v gw ab I=>?_;obtain⟨rfl,gN⟩:=ab;have UJ:=UL.trans (gN.mono UL.size);rw [<-ba]at I;revert a;refine ad λa I=>?_;refine dX I (aw _ _ rfl) rfl rfl (bG gN (bG dT xa)) (oD n 1) (k:=λa nT ks tB Js I=>?_);revert a;refine ad λa I=>?_;exact fin ks I rfl rfl (aK UJ tB UJ.size)
 · rw [h]at I c0 c2;replace c2:bN.cell? ⟨ax.heap.size,0+2,none⟩=some (.int .i64 (-1)):=c2;rw [show Lib.trimLeftB [48,53] 48=[53] by decide+kernel]at I;have lS:(aa [53]).size=1:=rfl;revert a;refine ad λa I=>?_;refine aQ I (Z4 bN [53] bl bk) λa v bQ ab I=>?_;obtain⟨rfl,rfl⟩:=ab;rw [show Lib.trimRightB [53] 48=[53] by decide+kernel]at I;revert a;(repeat first|refine ag ?_|refine J (af c2) ?_);intro a I;refine cr I (aw _ _ rfl) bX (i:=0+2) (by show 2<3;decide) rfl rfl rfl (k:=λa bt c8 cf fZ I=>?_);have bf:bt.cell? ⟨ax.heap.size,0+2,none⟩=some (.int .i64 (-1)):=aF c8 rfl;have fD:bt.cell? ⟨ax.heap.size,0+0,none⟩=some (.bool false):=aF c8 (by rw [h];rfl);have xa:=aD mv cf bm;have b2:=b7.grown cf b7.size (λk au=>by cases au;exact gV.size);revert a;(repeat first|refine ag ?_|refine J (L6 (m:= -1) rfl bk) ?_|refine J (af bf) ?_|refine J (af fD) ?_);intro a I;refine aQ I (anj bt) λa v cD ab I=>?_;obtain⟨rfl,c'⟩:=ab;have UK:=b2.trans (c'.mono b2.size);revert a;refine ad λa I=>?_;refine dX I (aw _ _ rfl) rfl rfl (bG c' xa) (oD 1 2) (k:=λa dt dm cG hn I=>?_);revert a;refine ad λa I=>?_;exact fin dm I rfl rfl (aK UK cG UK.size)
theorem rB(w:World){g t c k:Nat}(h:gy w g t c k)(hx:na[k]? =some x)(s:List UInt8)(hb:pa x s=true)(au:k<50):bd prog 124 [.pointer (some ⟨g,0,none⟩),.string (aa s)].toArray w (λv w'=>v=.agg (Tok.cells x).toArray/\gy w' g t c (k+1)/\w.grownBy w' (some g)):=by
 have w1:x.kind≠0:=by
  intro e;unfold pa at hb;rw [e]at hb;simp at hb
 refine dP func124 rfl 14 rfl 16 rfl (λa I=>?_);revert a;refine ad λa I=>?_;refine b6 I rv λa aq aE aT b8 I=>?_;have aB:=fA aT;revert a;refine ad λa I=>?_;refine aQ I (xJ aq (h.below aB) hx s true hb) λa v ax ab I=>?_;obtain⟨rfl,aC⟩:=ab;have gV:=aB.trans (aC.mono aB.size);revert a;refine ad λa I=>?_;refine aQ I (qL ax (h.below gV) hx) λa v a6 ab I=>?_;obtain⟨rfl,a1⟩:=ab;have qt:=gV.trans (a1.mono gV.size);have bR:=bG a1 (bG aC aE);revert a;(repeat first|refine ag ?_|refine J (td (v:=.int .i64 (x.kind:Nat)) (hz _ _ _ _ rfl) (aA _ _ rfl) rfl rfl rfl) ?_);intro a I;refine aQ I (A' a6 (h.below qt) hx w1 au) λa v bZ ab I=>?_;obtain⟨rfl,tn,bD⟩:=ab;have w4:=h.lt;have fS:=qt.size;have bX:=aD bR bD bm;refine dX I (aw _ _ rfl) rfl rfl bX (sR x) (k:=λa bN bB br dw I=>?_);revert a;refine ad λa I=>?_;exact ff I rfl (agg _ rfl) (aw _ _ rfl) bB rfl ⟨rfl,tn.kept br bj bj,tj (gL (sb qt) bD) br (atI _)⟩
theorem XI(w:World){g t c k:Nat}(h:gy w g t c k)(hx:na[k]? =some x)(s:List UInt8)(hb:pa x s=false):bd prog 187 [.pointer (some ⟨g,0,none⟩),.string (aa s)].toArray w (λv w'=>v=.bool false/\Below w.heap.size w w'):=by
 refine dP func187 rfl 12 rfl 14 rfl (λa I=>?_);revert a;refine ad λa I=>?_;refine aQ I (xJ w h hx s false hb) λa v ax ab I=>?_;obtain⟨rfl,aC⟩:=ab;revert a;refine ad λa I=>?_;exact bc I rfl rfl ⟨rfl,aC⟩
theorem LW(w:World){g t c k:Nat}(h:gy w g t c k)(hx:na[k]? =some x)(hb:pa x [67,77,95]=false):bd prog 122 [.pointer (some ⟨g,0,none⟩)].toArray w (λv w'=>Below w.heap.size w w'):=by
 refine cF func122 rfl 13 rfl 14 rfl (λa I=>?_);revert a;(repeat first|(intro a I;refine axj ?_;revert a)|refine ag ?_);intro a I;refine aQ I (XI w h hx _ hb) λa v ax ab I=>?_;obtain⟨rfl,aC⟩:=ab;revert a;refine ad λa I=>?_;exact lo I rfl aC
def Gk:List (List UInt8):=[[86,69,82,83,73,79,78],[66,85,95],[66,79,95],[83,71,95],[86,65,76,95],[67,77,95]]
theorem Di{s:List UInt8}{m:List UInt8}(h:s≠m):decide (aa s=(⟨m.toArray⟩:ByteArray))=false:=auk λe=>h ((zI (m:=m)).1 e)
theorem PI(w:World){g t c k:Nat}(h:gy w g t c k)(hx:na[k]? =some x)(ba:x.text ∉ Gk)(U:x.kind=1):bd prog 126 [.pointer (some ⟨g,0,none⟩)].toArray w (λv w'=>v=.bool true/\Below w.heap.size w w'):=by
 simp only [Gk,au1,avE,axM,not_or]at ba;obtain⟨eH,e1,n3,n4,n5,n6⟩:=ba;have m1:=Di eH;have m2:=Di e1;have m3:=Di n3;have m4:=Di n4;have m5:=Di n5;have m6:=Di n6;refine cF func126 rfl 17 rfl 18 rfl (λa I=>?_);revert a;refine ad λa I=>?_;refine aQ I (qL w h hx) λa v aq ab I=>?_;obtain⟨rfl,aB⟩:=ab;refine b6 I rv λa ax aP aS cZ I=>?_;refine dX I (aw _ _ rfl) rfl rfl aP (sR x) (k:=λa a6 bR bz eE I=>?_);have aC:=aB.trans ((fA aS).mono aB.size);have a1:=aC.grown bz aC.size (λk au=>by cases au;exact aB.size);have c0:a6.cell? ⟨aq.heap.size,0+0,none⟩=some (.int .i64 (x.kind:Nat)):=aF bR rfl;have bM:a6.cell? ⟨aq.heap.size,0+1,none⟩=some (.string (aa x.text)):=aF bR rfl;revert a;(repeat first|refine ag ?_|refine J (af c0) ?_|refine J (af bM) ?_);intro a I;exact bc I rfl rfl ⟨rfl,a1⟩
theorem alc(w:World){g t c k:Nat}(h:gy w g t c k)(hx:na[k]? =some x)(ba:x.text=[66,79,95]):bd prog 126 [.pointer (some ⟨g,0,none⟩)].toArray w (λv w'=>v=.bool false/\Below w.heap.size w w'):=by
 refine cF func126 rfl 17 rfl 18 rfl (λa I=>?_);revert a;refine ad λa I=>?_;refine aQ I (qL w h hx) λa v aq ab I=>?_;obtain⟨rfl,aB⟩:=ab;refine b6 I rv λa ax aP aS cZ I=>?_;refine dX I (aw _ _ rfl) rfl rfl aP (sR x) (k:=λa a6 bR bz eE I=>?_);have aC:=aB.trans ((fA aS).mono aB.size);have a1:=aC.grown bz aC.size (λk au=>by cases au;exact aB.size);have bM:a6.cell? ⟨aq.heap.size,0+1,none⟩=some (.string (aa [66,79,95])):=aF bR (by rw [<-ba];rfl);revert a;(repeat first|refine ag ?_|refine J (af bM) ?_);intro a I;exact bc I rfl rfl ⟨rfl,a1⟩
theorem Dh(w:World){g t c k:Nat}(h:gy w g t c k)(hx:na[k]? =some x)(ba:x.text ∉ Gk)(U:x.kind=1)(qp:x.text.length<=64)(au:k<50):bd prog 127 [.pointer (some ⟨g,0,none⟩)].toArray w (λv w'=>v=.string (aa x.text)/\gy w' g t c (k+1)/\w.grownBy w' (some g)):=by
 have bT:=kH x.text;refine cF func127 rfl 17 rfl 18 rfl (λa I=>?_);revert a;refine ad λa I=>?_;refine aQ I (PI w h hx ba U) λa v aq ab I=>?_;obtain⟨rfl,aB⟩:=ab;revert a;refine ad λa I=>?_;refine aQ I (qL aq (h.below aB) hx) λa v ax ab I=>?_;obtain⟨rfl,aC⟩:=ab;have gV:=aB.trans (aC.mono aB.size);revert a;(repeat first|refine ag ?_|refine J (td (v:=.string (aa x.text)) (hz _ _ _ _ rfl) (aA _ _ rfl) rfl rfl rfl) ?_);intro a I;have rp:=A' ax (h.below gV) hx bj au;rw [U]at rp;refine aQ I rp λa v a6 ab I=>?_;obtain⟨rfl,E1,bz⟩:=ab;revert a;(repeat first|refine ag ?_|refine J (td (v:=.string (aa x.text)) (hz _ _ _ _ rfl) (aA _ _ rfl) rfl rfl rfl) ?_);intro a I;exact bc I rfl rfl ⟨rfl,E1,gL (sb gV) bz⟩
theorem K4(w:World)(bF:Env w){g t c k:Nat}(h:gy w g t c k)(hx:na[k]? =some x)(ae:x.kind=2){u:Nat}(hu:s3 x.text u)(below:Int)(bu:(u:Int) <below)(au:k<50):bd prog 189 [.pointer (some ⟨g,0,none⟩),.int .u64 below].toArray w (λv w'=>v=.int .u64 (u:Nat)/\gy w' g t c (k+1)/\w.grownBy w' (some g)):=by
 refine dP func189 rfl 30 rfl 32 rfl (λa I=>?_);revert a;refine ad λa I=>?_;refine aQ I (qL w h hx) λa v aq ab I=>?_;obtain⟨rfl,aB⟩:=ab;revert a;(repeat first|refine ag ?_|refine J (td (v:=.int .i64 (x.kind:Nat)) (hz _ _ _ _ rfl) (aA _ _ rfl) rfl rfl rfl) ?_);intro a I;refine aQ I (qL aq (h.below aB) hx) λa v ax ab I=>?_;obtain⟨rfl,aC⟩:=ab;have gV:=aB.trans (aC.mono aB.size);revert a;(repeat first|refine ag ?_|refine J (td (v:=.string (aa x.text)) (hz _ _ _ _ rfl) (aA _ _ rfl) rfl rfl rfl) ?_);intro a I;refine aQ I (Yz ax (bF.below gV) hu) λa v a6 ab I=>?_;obtain⟨rfl,a1⟩:=ab;have qt:=gV.trans (a1.mono gV.size);revert a;refine ad λa I=>?_;have rp:=A' a6 (h.below qt) hx bj au;rw [ae]at rp;refine aQ I rp λa v bZ ab I=>?_;obtain⟨rfl,tn,bD⟩:=ab;revert a;refine ad λa I=>?_;exact bc I rfl rfl ⟨rfl,tn,gL (sb qt) bD⟩
theorem Io(w:World){g t c k:Nat}(h:gy w g t c k)(hx:na[k]? =some x)(ae:x.kind=2){n d:Int}(hu:uk x.text n d)(au:k<50):bd prog 233 [.pointer (some ⟨g,0,none⟩)].toArray w (λv w'=>v=.agg (nR n d)/\gy w' g t c (k+1)/\w.grownBy w' (some g)):=by
 refine cF func233 rfl 31 rfl 32 rfl (λa I=>?_);revert a;refine ad λa I=>?_;refine b6 I vm λa cy Cz Jb V8 I=>?_;have kQ:=fA Jb;revert a;refine ad λa I=>?_;refine aQ I (qL cy (h.below kQ) hx) λa v aq ab I=>?_;obtain⟨rfl,aB⟩:=ab;have Ni:=kQ.trans (aB.mono kQ.size);revert a;(repeat first|refine ag ?_|refine J (td (v:=.int .i64 (x.kind:Nat)) (hz _ _ _ _ rfl) (aA _ _ rfl) rfl rfl rfl) ?_);intro a I;refine aQ I (qL aq (h.below Ni) hx) λa v ax ab I=>?_;obtain⟨rfl,aC⟩:=ab;have gV:=Ni.trans (aC.mono Ni.size);revert a;(repeat first|refine ag ?_|refine J (td (v:=.string (aa x.text)) (hz _ _ _ _ rfl) (aA _ _ rfl) rfl rfl rfl) ?_);intro a I;refine aQ I (anh ax x.text n d hu) λa v a6 ab I=>?_;obtain⟨rfl,a1⟩:=ab;have qt:=gV.trans (a1.mono gV.size);have bR:=bG a1 (bG aC (bG aB Cz));revert a;refine ad λa I=>?_;refine b6 I vm λa bZ bX bD eY I=>?_;refine dX I (aw _ _ rfl) rfl rfl bX (oD n d) (k:=λa bN bB br dw I=>?_);have b7:=qt.trans ((fA bD).mono qt.size);have cx:=b7.grown br b7.size (λk au=>by cases au;exact qt.size);have u7:=bO bR;have vg:=aD (aD bR bD bl) br bm;revert a;refine ad λa I=>?_;refine aQ I (Ph bN _ _) λa v bQ ab I=>?_;obtain⟨rfl,rfl⟩:=ab;revert a;refine ad λa I=>?_;have rp:=A' bQ (h.below cx) hx bj au;rw [ae]at rp;refine aQ I rp λa v bt ab I=>?_;obtain⟨rfl,tp,cf⟩:=ab;have w4:=h.lt;have fS:=qt.size;have c8:=aD bB cf bm;have xa:=aD vg cf bm;revert a;(repeat first|refine ag ?_|refine J (bJ (dy c8)) ?_);intro a I;refine dX I (aw _ _ rfl) rfl rfl xa (oD n d) (k:=λa cD en bE hl I=>?_);revert a;refine ad λa I=>?_;exact ff I rfl (agg _ rfl) (aw _ _ rfl) en rfl ⟨rfl,tp.kept bE bj bj,tj (gL (sb cx) cf) bE (atI _)⟩
section
open Go.ChangeShapes Go.WideShapes
structure b1 where
 line:Int
 eh:Int
 name:ByteArray
 role:Int
 branch:Int
 start:Int
 size:Int
 bV:Bool
 fw:Bool
 c6:Int
 kA:Int
 fn:Int
 fd:Int
 jQ:Int
 md:Int
 kg:Int
 kf:Int
 unit:ByteArray
 azO:Option Addr
 p5:Nat
 Ha:Nat
def b1.cells(s:b1):List Value:=[.int .i64 s.line,.int .i64 s.eh,.string s.name,.int .i64 s.role,.int .u64 s.branch,.int .i64 s.start,.int .i64 s.size,.bool s.bV,.bool s.fw,.int .i64 s.c6,.int .i64 s.kA,.int .i64 s.fn,.int .i64 s.fd,.int .i64 s.jQ,.int .i64 s.md,.int .i64 s.kg,.int .i64 s.kf,.string s.unit,.slice s.azO s.p5 s.Ha]
structure BH(w:World)(s:b1)(ss:List ByteArray):Prop where
 len:ss.length=s.p5
 rd:ee w s.azO .string ss
 cap:s.p5<=s.Ha
 bytes:s.p5*16<=140737488351232
theorem BH.below{s:b1}{ss:List ByteArray}(h:BH w s ss)(hb:Below w.heap.size w w'):BH w' s ss:=⟨h.len,h.rd.below hb,h.cap,h.bytes⟩
end
section
attribute [local irreducible] Code.rounds
def fO(k:Nat):Tok:=na.getD k Z1
theorem fx{k:Nat}(h:k<51):na[k]? =some (fO k):=by
 unfold fO;have ae:k<na.length:=by rw [KP];exact h
 simp [List.getD,ae]
def Bz(w:World):Prop:=∃n',w.cell? ⟨5,0,none⟩=some n'/\(n'=.nilIface\/∃lu xD,n'=.iface lu xD)
theorem Bz.below(h:Bz w)(hb:Below w.heap.size w w'):Bz w':=by
 obtain⟨n',U,ae⟩:=h;exact⟨n',eG U hb,ae⟩
def mE(B:Nat)(w:World):Prop:=∃sV,Env sV/\Bz sV/\sV.heap.size=B/\Below B sV w
theorem mE.env{B:Nat}(h:mE B w):Env w:=by
 obtain⟨sV,U,_,rfl,ae⟩:=h;exact U.below ae
theorem mE.err{B:Nat}(h:mE B w):Bz w:=by
 obtain⟨sV,_,U,rfl,ae⟩:=h;exact U.below ae
theorem mE.below{B:Nat}(h:mE B w)(hb:Below w.heap.size w w'):mE B w':=by
 obtain⟨sV,U,ae,rfl,aM⟩:=h;exact⟨sV,U,ae,rfl,aM.trans (hb.mono aM.size)⟩
theorem mE.kept{B q:Nat}(h:mE B w)(an:w.grownBy w' (some q))(aZ:B<=q):mE B w':=by
 obtain⟨sV,U,ae,rfl,aM⟩:=h;exact⟨sV,U,ae,rfl,aM.grown an aM.size (λk au=>by cases au;exact aZ)⟩
structure il(B:Nat)(cy w:World)(g t c k:Nat)(e:TypeId)(b fo:Nat)(cs fY:Array Value):Prop where
 eN:gy w g t c k
 dQ:cy.grownBy w (some g)
 dJ:w.heap[b]? =some (.cells cs e (0,0))
 rs:w.heap[fo]? =some (.cells fY e (0,0))
 U:cy.heap.size<=b
 ae:cy.heap.size<=fo
 aM:b≠fo
 az:g<cy.heap.size/\t<cy.heap.size
 nr:mE B w
 aH:B<=g/\B<=cy.heap.size
section
variable {B:Nat} {cy w w':World} {g t c k cS b fo:Nat} {e:TypeId} {cs fY Ey:Array Value}
theorem il.call(h:il B cy w g t c k e b fo cs fY)(cj:gy w' g t c cS)(an:w.grownBy w' (some g)):il B cy w' g t c cS e b fo cs fY:=by
 have:=h.U;have:=h.ae;have:=h.az;exact⟨cj,gL h.dQ an,aD h.dJ an bm,aD h.rs an bm,h.U,h.ae,h.aM,h.az,h.nr.kept an h.aH.1,h.aH⟩
theorem il.below(h:il B cy w g t c k e b fo cs fY)(hb:Below w.heap.size w w'):il B cy w' g t c k e b fo cs fY:=
 ⟨h.eN.below hb,MD h.dQ hb,bG hb h.dJ,bG hb h.rs,h.U,h.ae,h.aM,h.az,h.nr.below hb,h.aH⟩
theorem il.store(h:il B cy w g t c k e b fo cs fY)(az:w'.heap[b]? =some (.cells Ey e (0,0)))(an:w.grownBy w' (some b)):il B cy w' g t c k e b fo Ey fY:=by
 have:=h.U;have:=h.az;exact⟨h.eN.kept an bj bj,tj h.dQ an h.U,az,aD h.rs an (by simp;exact λe=>h.aM e.symm),h.U,h.ae,h.aM,h.az,h.nr.kept an (atN h.aH.2 h.U),h.aH⟩
theorem il.sz(h:il B cy w g t c k e b fo cs fY):cy.heap.size<=w.heap.size:=h.dQ.size
theorem il.fin(h:il B cy w g t c k e b fo cs fY)(an:w.grownBy w' (some fo)):gy w' g t c k/\cy.grownBy w' (some g):=by
 have:=h.ae;have:=h.az;exact⟨h.eN.kept an bj bj,tj h.dQ an h.ae⟩
end
theorem aiO(w:World)(bF:Env w){g t c k:Nat}(h:gy w g t c k)(hx:na[k]? =some x)(ae:x.kind=2)(hu:s3 x.text 256)(au:k<50):bd prog 188 [.pointer (some ⟨g,0,none⟩)].toArray w (λv w'=>v=.tuple #[.int .u32 256,.bool false]/\gy w' g t c (k+1)/\w.grownBy w' (some g)):=by
 refine cF func188 rfl 12 rfl 13 rfl (λa I=>?_);revert a;refine ad λa I=>?_;refine aQ I (K4 w bF h hx ae hu 4294967296 bk au) λa v aq ab I=>?_;obtain⟨rfl,af4,aT⟩:=ab;revert a;(repeat first|refine ag ?_|refine J (SD (k:=.u64) (m:=256) (n:=2147483647) (r:=256) bo) ?_|refine J (e8 (aA _ _ rfl) (aA _ _ rfl) rfl (show IntKind.u32.wrap 256=256 by decide)) ?_|refine J (lG (a:=256) (b:=31) rfl rfl rfl rfl bk) ?_);intro a I;exact eI I rfl rfl rfl ⟨rfl,af4,aT⟩
def Bi(line eh:Int)(ji:List UInt8):b1:=⟨line,eh,aa ji,0,0,0,0,false,false,0,0,0,0,0,0,0,0,aa [],none,0,0⟩
def Qj(s:b1)(role branch:Int):b1:={ s with role:=role,branch:=branch }
theorem am9{B:Nat}(w:World){cy:World}{g t c k b fo:Nat}{fY:Array Value}{line eh:Int}{ji:List UInt8}(h:il B cy w g t c k 133 b fo (b1.cells (Bi line eh ji)).toArray fY)(hx:na[k]? =some x)(U:x.kind=1)(role branch:Nat)(aj:(x.text=[77]/\role=1/\branch=0)\/(x.text=[109,51]/\role=2/\branch=3))(au:k<50):
   bd prog 232 [.pointer (some ⟨g,0,none⟩),.pointer (some ⟨b,0,none⟩)].toArray w (λv w'=>il B cy w' g t c (k+1) 133 b fo (b1.cells (Qj (Bi line eh ji) (role:Nat) (branch:Nat))).toArray fY):=by
 refine dP func232 rfl 46 rfl 48 rfl (λa I=>?_);revert a;refine ad λa I=>?_;refine aQ I (qL w h.eN hx) λa v aq ab I=>?_;obtain⟨rfl,aB⟩:=ab;refine b6 I rv λa ax aP aS cZ I=>?_;refine dX I (aw _ _ rfl) rfl rfl aP (sR x) (k:=λa a6 bR bz eE I=>?_);have aC:=aB.trans ((fA aS).mono aB.size);have a1:=aC.grown bz aC.size (λk au=>by cases au;exact aB.size);have c0:a6.cell? ⟨aq.heap.size,0+0,none⟩=some (.int .i64 (x.kind:Nat)):=aF bR rfl;have bM:a6.cell? ⟨aq.heap.size,0+1,none⟩=some (.string (aa x.text)):=aF bR rfl;have RB:=h.below a1;have bF:=h.nr.env;have aL:=h.nr.err;have dC:∀(W:World),il B cy W g t c k 133 b fo (b1.cells (Qj (Bi line eh ji) (role:Nat) (branch:Nat))).toArray fY->bd prog 125 [.pointer (some ⟨g,0,none⟩),.int .i64 1].toArray W (λv w'=>il B cy w' g t c (k+1) 133 b fo (b1.cells (Qj (Bi line eh ji) (role:Nat) (branch:Nat))).toArray fY):=λW k8=>by
   have:=A' W k8.eN hx bj au;rw [U]at this;exact bd.mono this (λv w' ⟨_,cj,an⟩=>k8.call cj an)
 rcases aj with ⟨bW,rfl,rfl⟩|⟨bW,rfl,rfl⟩
 · rw [bW]at bM;revert a;(repeat first|refine ag ?_|refine J (af c0) ?_|refine J (af bM) ?_);intro a I;refine mY I (R:=λv w'=>v=.tuple #[.string (aa [77]),.bool false]/\w'=a6) (auC (Tryz.strings_CutPrefix (aa [77]) (aa [109]) a6) (by rintro e w' ⟨rfl,rfl⟩;exact⟨_,rfl,bh,rfl⟩)) Sh ⟨rfl,rfl,trivial⟩ (k:=λa v bZ ab I=>?_);obtain⟨rfl,rfl⟩:=ab;revert a;refine ad λa I=>?_;obtain⟨n',ao,tz⟩:=aL.below a1;refine aQ I (amg bZ ao tz (s:=[77]) bo bk) λa v bN ab I=>?_;obtain⟨rfl,cx⟩:=ab;revert a;(repeat first|refine ag ?_|refine J (af (eG bM cx)) ?_);intro a I;have pk:=RB.below cx;refine cr I (aw _ _ rfl) pk.dJ (i:=0+3) (by show 3<19;decide) rfl rfl rfl (k:=λa bQ cI cM fm I=>?_);revert a;refine ad λa I=>?_;refine aQ I (dC bQ (pk.store cI cM)) λa v bt ab I=>?_;revert a;refine ad λa I=>?_;exact lo I rfl ab
 · rw [bW]at bM;revert a;(repeat first|refine ag ?_|refine J (af c0) ?_|refine J (af bM) ?_);intro a I;refine mY I (R:=λv w'=>v=.tuple #[.string (aa [51]),.bool true]/\w'=a6) (auC (Tryz.strings_CutPrefix (aa [109,51]) (aa [109]) a6) (by rintro e w' ⟨rfl,rfl⟩;exact⟨_,rfl,bh,rfl⟩)) Sh ⟨rfl,rfl,trivial⟩ (k:=λa v bZ ab I=>?_);obtain⟨rfl,rfl⟩:=ab;revert a;refine ad λa I=>?_;refine aQ I (Yz bZ (bF.below a1) (s:=[51]) (u:=3) ⟨bo,.inl ⟨bk,bo⟩,bk⟩) λa v bN ab I=>?_;obtain⟨rfl,cx⟩:=ab;revert a;(repeat first|refine ag ?_|refine J (af (eG bM cx)) ?_);intro a I;have pk:=RB.below cx;refine cr I (aw _ _ rfl) pk.dJ (i:=0+3) (by show 3<19;decide) rfl rfl rfl (k:=λa bQ cI cM fm I=>?_);have x3:=pk.store cI cM;revert a;refine ad λa I=>?_;refine cr I (aw _ _ rfl) x3.dJ (i:=0+4) (by show 4<19;decide) rfl rfl rfl (k:=λa cD en bE hl I=>?_);revert a;refine ad λa I=>?_;refine aQ I (dC cD (x3.store en bE)) λa v bt ab I=>?_;revert a;refine ad λa I=>?_;exact lo I rfl ab
end
theorem kB(s:b1):∀v∈(b1.cells s).toArray,v.oneCell'=true:=by
 intro v ao;simp [b1.cells]at ao;rcases ao with rfl|rfl|rfl|rfl|rfl|rfl|rfl|rfl|rfl|rfl|rfl|rfl|rfl|rfl|rfl|rfl|rfl|rfl|rfl<;>rfl
section
attribute [local irreducible] Code.rounds
structure Lh(k:Nat)(line eh:Int)(ji i':List UInt8)(role branch rK sz:Nat)(bV fw:Bool)(c6 kA fn fd jQ md kg kf:Int):Prop where
 au:k+21<=51
 t0:pa (fO k) [83,71,95]=true/\((fO k).line:Int)=line/\((fO k).eh:Int)=eh
 eH:(fO (k+1)).text=ji/\ji ∉ Gk/\(fO (k+1)).kind=1/\ji.length<=64
 o8:(fO (k+2)).kind=1/\(((fO (k+2)).text=[77]/\role=1/\branch=0)\/((fO (k+2)).text=[109,51]/\role=2/\branch=3))
 t3:pa (fO (k+3)) [58]=true
 jU:(fO (k+4)).kind=2/\s3 (fO (k+4)).text rK/\rK<1000
 t5:pa (fO (k+5)) [124]=true
 xM:(fO (k+6)).kind=2/\s3 (fO (k+6)).text sz/\sz<1000
 PT:(fO (k+7)).kind=4/\(fO (k+7)).text.length=3/\∃fk hM,(fO (k+7)).text[1]? =some fk/\(fO (k+7)).text[2]? =some hM/\((fk.toNat:Int)==48)=bV/\((hM.toNat:Int)==45)=fw
 t8:pa (fO (k+8)) [40]=true
 f9:(fO (k+9)).kind=2/\uk (fO (k+9)).text c6 kA
 mZ:pa (fO (k+10)) [44]=true
 zT:(fO (k+11)).kind=2/\uk (fO (k+11)).text fn fd
 uh:pa (fO (k+12)) [41]=true
 QM:pa (fO (k+13)) [91]=true
 Ih:(fO (k+14)).kind=2/\uk (fO (k+14)).text jQ md
 QP:pa (fO (k+15)) [124]=true
 Ii:(fO (k+16)).kind=2/\uk (fO (k+16)).text kg kf
 QQ:pa (fO (k+17)) [93]=true
 G2:(fO (k+18)).kind=3/\(fO (k+18)).text=[]
 yZ:(fO (k+19)).text=i'/\i' ∉ Gk/\(fO (k+19)).kind=1/\i'.length<=64
 QR:pa (fO (k+20)) [44]=false
theorem Rb{u:Nat}(h:u<1000):IntKind.i64.wrap (u:Int)=(u:Int):=by simp [IntKind.wrap,IntKind.signed,IntKind.bits];omega
def GZ(line eh:Int)(ji:List UInt8)(role branch rK sz:Nat)(bV fw:Bool):b1:=⟨line,eh,aa ji,(role:Nat),(branch:Nat),(rK:Nat),(sz:Nat),bV,fw,0,0,0,0,0,0,0,0,aa [],none,0,0⟩
def KD(s:b1)(c6 kA fn fd jQ md kg kf:Int):b1:={ s with c6:=c6,kA:=kA,fn:=fn,fd:=fd,jQ:=jQ,md:=md,kg:=kg,kf:=kf }
theorem YH{B:Nat}(w:World)(bF:mE B w){g t c k:Nat}(h:gy w g t c k)(sd:B<=g)(uQ:B<=w.heap.size){line eh:Int}{ji i':List UInt8}{role branch rK sz:Nat}{bV fw:Bool}{c6 kA fn fd jQ md kg kf:Int}(bS:Lh k line eh ji i' role branch rK sz bV fw c6 kA fn fd jQ md kg kf):
  bd prog 190 [.pointer (some ⟨g,0,none⟩)].toArray w (λv w'=>∃q,v=.agg (b1.cells ⟨line,eh,aa ji,(role:Nat),(branch:Nat),(rK:Nat),(sz:Nat),bV,fw,c6,kA,fn,fd,jQ,md,kg,kf,aa [],some ⟨q,0,none⟩,1,1⟩).toArray/\w'.heap[q]? =some (.cells #[.string (aa i')] 9 (0,0))/\w.heap.size<=q/\gy w' g t c (k+20)/\w.grownBy w' (some g)):=by
 have au:=bS.au;refine cF func190 rfl 90 rfl 91 rfl (λa I=>?_);revert a;refine ad λa I=>?_;refine b6 I kv λa aq aE aT b8 I=>?_;have aB:=fA aT;have w4:=h.lt;revert a;refine ad λa I=>?_;refine aQ I (rB aq (h.below aB) (fx bj) _ bS.t0.1 bj) λa v ax ab I=>?_;obtain⟨rfl,wP,aS⟩:=ab;have aP:=aD aE aS bm;revert a;(repeat first|refine ag ?_|refine J (B0 (v:=.agg #[.int .i64 ((fO k).line:Nat),.int .i64 ((fO k).eh:Nat)]) bh) ?_);intro a I;refine aQ I (Dh ax wP (fx bj) (by rw [bS.eH.1];exact bS.eH.2.1) bS.eH.2.2.1 (by rw [bS.eH.1];exact bS.eH.2.2.2) bj) λa v a6 ab I=>?_;obtain⟨rfl,E1,bz⟩:=ab;have bR:=aD aP bz bm;rw [bS.eH.1,bS.t0.2.1,bS.t0.2.2]at I;have EN:=gL (gL (sb aB) aS) bz;have fS:=EN.size;revert a;(repeat first|refine ag ?_|refine J (cA (vs:=[(0,.agg #[.int .i64 line,.int .i64 eh]),(1,.string (aa ji))]) (cells:=(b1.cells (Bi line eh ji)).toArray) bh ⟨rfl,rfl,rfl,rfl,trivial⟩) ?_);intro a I;refine b6 I kv λa bZ bX bD eY I=>?_;refine dX I (aw _ _ rfl) rfl rfl bX (kB _) (k:=λa bN bB br dw I=>?_);have u7:=bO bR;have tn:=(E1.below (fA bD)).kept br bj bj;have pk:il B w bN g t c (k+2) 133 a6.heap.size w.heap.size (b1.cells (Bi line eh ji)).toArray _:=
  ⟨tn,tj (gL EN (It bD)) br fS,bB,aD (aD bR bD bl) br bm,fS,atI _,bj,w4,(((((bF.below aB).kept aS sd).kept bz sd).below (fA bD)).kept br bj),sd,uQ⟩
 obtain⟨b,hb⟩:∃b,b=a6.heap.size:=⟨_,rfl⟩;rw [<-hb]at pk I;obtain⟨fo,Jq⟩:∃fo,fo=w.heap.size:=⟨_,rfl⟩;rw [<-Jq]at pk I;obtain⟨fY,OA,pk⟩:∃fY:Array Value,fY.size=19/\il B w bN g t c (k+2) 133 b fo (b1.cells (Bi line eh ji)).toArray fY:=⟨_,rfl,pk⟩;revert a;refine ad λa I=>?_;refine aQ I (am9 bN pk (fx bj) bS.o8.1 role branch bS.o8.2 bj) λa v bQ x3 I=>?_;revert a;refine ad λa I=>?_;refine aQ I (rB _ x3.eN (fx bj) _ bS.t3 bj) λa v bt ab I=>?_;obtain⟨rfl,cj,an⟩:=ab;have BG:=x3.call cj an;revert a;refine ad λa I=>?_;refine aQ I (K4 _ BG.nr.env BG.eN (fx bj) bS.jU.1 bS.jU.2.1 2147483648 (by have:=bS.jU.2.2;omega) bj) λa v cD ab I=>?_;obtain⟨rfl,cj,an⟩:=ab;have Eg:=BG.call cj an;revert a;(repeat first|refine ag ?_|refine J (e8 (aA _ _ rfl) (aA _ _ rfl) rfl (Rb bS.jU.2.2)) ?_);intro a I;refine cr I (aw _ _ rfl) Eg.dJ (i:=0+5) (by show 5<19;decide) rfl rfl rfl (k:=λa dt az an bT I=>?_);have Eh:=Eg.store az an;revert a;refine ad λa I=>?_;refine aQ I (rB _ Eh.eN (fx bj) _ bS.t5 bj) λa v gw ab I=>?_;obtain⟨rfl,cj,an⟩:=ab;have BE:=Eh.call cj an;revert a;refine ad λa I=>?_;refine aQ I (K4 _ BE.nr.env BE.eN (fx bj) bS.xM.1 bS.xM.2.1 2147483648 (by have:=bS.xM.2.2;omega) bj) λa v nT ab I=>?_;obtain⟨rfl,cj,an⟩:=ab;have BF:=BE.call cj an;revert a;(repeat first|refine ag ?_|refine J (e8 (aA _ _ rfl) (aA _ _ rfl) rfl (Rb bS.xM.2.2)) ?_);intro a I;refine cr I (aw _ _ rfl) BF.dJ (i:=0+6) (by show 6<19;decide) rfl rfl rfl (k:=λa k0 az an bT I=>?_);have Ed:=BF.store az an;obtain⟨sA,pK,fk,hM,IZ,I0,oq,iF⟩:=bS.PT;have ahF:=kH (fO (k+7)).text;revert a;refine ad λa I=>?_;refine aQ I (qL _ Ed.eN (fx bj)) λa v p6 ab I=>?_;obtain⟨rfl,hb⟩:=ab;have Ee:=Ed.below hb;revert a;(repeat first|refine ag ?_|refine J (td (v:=.string (aa (fO (k+7)).text)) (hz _ _ _ _ rfl) (aA _ _ rfl) rfl rfl rfl) ?_);intro a I;refine aQ I (qL _ Ee.eN (fx bj)) λa v lv ab I=>?_;obtain⟨rfl,hb⟩:=ab;have Ef:=Ee.below hb;revert a;(repeat first|refine ag ?_|refine J (td (v:=.int .i64 ((fO (k+7)).kind:Nat)) (hz _ _ _ _ rfl) (aA _ _ rfl) rfl rfl rfl) ?_);intro a I;have rp:=A' lv Ef.eN (fx bj) (by rw [sA];decide) bj;rw [sA]at rp;refine aQ I rp λa v zr ab I=>?_;obtain⟨rfl,cj,an⟩:=ab;have Lf:=Ef.call cj an;revert a;(repeat first|(intro a I;(refine gJ (λak=>zr.heap.size=ak.heap.size) [(0,true),(1,true),(2,true),(3,true),(4,true),(5,true),(6,true),(7,false),(8,true),(9,false)] 11 mixed bh rfl ?_;simp only [fF,atZ,atS,atO,at1,aug]);revert a)|refine ag ?_);intro a I;revert a;(repeat first|refine e3 ?_|refine cB (λak ar=>mc (aA _ _ rfl) IZ rfl rfl rfl) ?_|refine cB (λak ar=>mc (aA _ _ rfl) I0 rfl rfl rfl) ?_);intro a I;rw [oq,iF]at I;have Rn:=Lf.below (cP.below (w:=zr) (w':=zr.drewN 1) ⟨1,rfl⟩ _);refine c7 ?_;refine cr I (aw _ _ rfl) Rn.dJ (i:=0+7) (by show 7<19;decide) rfl rfl rfl (k:=λa ato az an bT I=>?_);have Ro:=Rn.store az an;refine atJ ⟨rfl,bT.symm,?_⟩;revert a;refine hH λa I=>?_;refine c7 ?_;refine cr I (aw _ _ rfl) Ro.dJ (i:=0+8) (by show 8<19;decide) rfl rfl rfl (k:=λa atp az an cZ I=>?_);have Rp:il B w _ g t c (k+8) 133 b fo (b1.cells (GZ line eh ji role branch rK sz bV fw)).toArray fY:=Ro.store az an;refine atJ ⟨rfl,(cZ.trans bT).symm,?_⟩;refine fj ?_;revert a;refine ad λa I=>?_;refine aQ I (rB _ Rp.eN (fx bj) _ bS.t8 bj) λa v atq ab I=>?_;obtain⟨rfl,cj,an⟩:=ab;have Rq:=Rp.call cj an;revert a;refine ad λa I=>?_;refine aQ I (Io _ Rq.eN (fx bj) bS.f9.1 bS.f9.2 bj) λa v aah ab I=>?_;obtain⟨rfl,cj,an⟩:=ab;have Rr:=Rq.call cj an;revert a;refine ad λa I=>?_;refine qT I (o:=9) (aw _ _ rfl) rfl (by show 9+2<=19;decide) Rr.dJ (oD _ _) (k:=λa att az an bT I=>?_);have Rs:il B w _ g t c (k+10) 133 b fo (b1.cells (KD (GZ line eh ji role branch rK sz bV fw) c6 kA 0 0 0 0 0 0)).toArray fY:=Rr.store az an;revert a;refine ad λa I=>?_;refine aQ I (rB _ Rs.eN (fx bj) _ bS.mZ bj) λa v atu ab I=>?_;obtain⟨rfl,cj,an⟩:=ab;have Rt:=Rs.call cj an;revert a;refine ad λa I=>?_;refine aQ I (Io _ Rt.eN (fx bj) bS.zT.1 bS.zT.2 bj) λa v atv ab I=>?_;obtain⟨rfl,cj,an⟩:=ab;have Ru:=Rt.call cj an;revert a;refine ad λa I=>?_;refine qT I (o:=11) (aw _ _ rfl) rfl (by show 11+2<=19;decide) Ru.dJ (oD _ _) (k:=λa aai az an bT I=>?_);have Rv:il B w _ g t c (k+12) 133 b fo (b1.cells (KD (GZ line eh ji role branch rK sz bV fw) c6 kA fn fd 0 0 0 0)).toArray fY:=Ru.store az an;revert a;refine ad λa I=>?_;refine aQ I (rB _ Rv.eN (fx bj) _ bS.uh bj) λa v atw ab I=>?_;obtain⟨rfl,cj,an⟩:=ab;have Rw:=Rv.call cj an;revert a;refine ad λa I=>?_;refine aQ I (rB _ Rw.eN (fx bj) _ bS.QM bj) λa v atx ab I=>?_;obtain⟨rfl,cj,an⟩:=ab;have Rx:=Rw.call cj an;revert a;refine ad λa I=>?_;refine aQ I (Io _ Rx.eN (fx bj) bS.Ih.1 bS.Ih.2 bj) λa v aty ab I=>?_;obtain⟨rfl,cj,an⟩:=ab;have Ry:=Rx.call cj an;revert a;refine ad λa I=>?_;refine qT I (o:=13) (aw _ _ rfl) rfl (by show 13+2<=19;decide) Ry.dJ (oD _ _) (k:=λa atz az an bT I=>?_);have Rz:il B w _ g t c (k+15) 133 b fo (b1.cells (KD (GZ line eh ji role branch rK sz bV fw) c6 kA fn fd jQ md 0 0)).toArray fY:=Ry.store az an;revert a;refine ad λa I=>?_;refine aQ I (rB _ Rz.eN (fx bj) _ bS.QP bj) λa v apR ab I=>?_;obtain⟨rfl,cj,an⟩:=ab;have RA:=Rz.call cj an;revert a;refine ad λa I=>?_;refine aQ I (Io _ RA.eN (fx bj) bS.Ii.1 bS.Ii.2 bj) λa v aaj ab I=>?_;obtain⟨rfl,cj,an⟩:=ab;have RC:=RA.call cj an;revert a;refine ad λa I=>?_;refine qT I (o:=15) (aw _ _ rfl) rfl (by show 15+2<=19;decide) RC.dJ (oD _ _) (k:=λa atA az an bT I=>?_);have RD:il B w _ g t c (k+17) 133 b fo (b1.cells (KD (GZ line eh ji role branch rK sz bV fw) c6 kA fn fd jQ md kg kf)).toArray fY:=RC.store az an;revert a;refine ad λa I=>?_;refine aQ I (rB _ RD.eN (fx bj) _ bS.QQ bj) λa v apS ab I=>?_;obtain⟨rfl,cj,an⟩:=ab;have RE:=RD.call cj an;revert a;refine ad λa I=>?_;have VA:=A' apS RE.eN (fx bj) (by rw [bS.G2.1];decide) bj;rw [bS.G2.1]at VA;refine aQ I VA λa v atB ab I=>?_;obtain⟨rfl,cj,an⟩:=ab;have RF:=RE.call cj an;revert a;(repeat first|refine ag ?_|refine J (td (v:=.string (aa (fO (k+18)).text)) (hz _ _ _ _ rfl) (aA _ _ rfl) rfl rfl rfl) ?_);intro a I;rw [bS.G2.2]at I;refine cr I (aw _ _ rfl) RF.dJ (i:=0+17) (by show 17<19;decide) rfl rfl rfl (k:=λa atC az an bT I=>?_);have RG:=RF.store az an;revert a;refine ad λa I=>?_;refine aQ I (Dh _ RG.eN (fx bj) (by rw [bS.yZ.1];exact bS.yZ.2.1) bS.yZ.2.2.1 (by rw [bS.yZ.1];exact bS.yZ.2.2.2) bj) λa v K1 ab I=>?_;obtain⟨rfl,cj,an⟩:=ab;have Hw:=RG.call cj an;rw [bS.yZ.1]at I;revert a;refine ad λa I=>?_;refine st I (q5 (aA _ _ rfl) xl rfl rfl) rfl (λa I=>?_);have RH:=Hw.below (e7 K1 (.cells #[.string (aa i')] 9));have aZ:=auE K1 (.cells #[.string (aa i')] 9);revert a;refine ad λa I=>?_;refine cr I (aw _ _ rfl) RH.dJ (i:=0+18) (by show 18<19;decide) rfl rfl rfl (k:=λa atD az an bT I=>?_);have RI:=RH.store az an;have I5:=bO Hw.dJ;have ahX:=aD aZ an bm;revert a;(repeat first|(intro a I;refine axj ?_;revert a)|refine ag ?_);intro a I;refine aQ I (XI _ RI.eN (fx bj) _ bS.QR) λa v atE ab I=>?_;obtain⟨rfl,hb⟩:=ab;have Lg:=RI.below hb;have ahY:=bG hb ahX;revert a;(repeat first|refine ag ?_|refine J (fR (cs:=(b1.cells ⟨line,eh,aa ji,(role:Nat),(branch:Nat),(rK:Nat),(sz:Nat),bV,fw,c6,kA,fn,fd,jQ,md,kg,kf,aa [],some ⟨K1.heap.size,0,none⟩,1,1⟩).toArray) (agg _ rfl) (aw _ _ rfl) rfl (dy Lg.dJ)) ?_);intro a I;refine dX I (aw _ _ rfl) rfl OA Lg.rs (kB _) (k:=λa atF az an bT I=>?_);obtain⟨tp,cf⟩:=Lg.fin an;revert a;refine ad λa I=>?_;have tH:=bO Hw.rs;exact ff I rfl (agg _ rfl) (aw _ _ rfl) az rfl ⟨K1.heap.size,rfl,aD ahY an bm,Hw.sz,tp,cf⟩
end
structure cO where
 line:Int
 eh:Int
 id:Int
 wide:Bool
 name:ByteArray
 size:Int
 qQ:ByteArray
 cn:Option Addr
 dO:Nat
 vI:Nat
def cO.cells(m:cO):List Value:=[.int .i64 m.line,.int .i64 m.eh,.int .u32 m.id,.bool m.wide,.string m.name,.int .i64 m.size,.string m.qQ,.slice m.cn m.dO m.vI]
def cO.at(m:cO)(g c:Nat):cO:={ m with cn:=some ⟨g,0,none⟩,vI:=c }
theorem AY(m:cO):∀v∈(cO.cells m).toArray,v.oneCell'=true:=by
 intro v ao;simp [cO.cells]at ao;rcases ao with rfl|rfl|rfl|rfl|rfl|rfl|rfl|rfl<;>rfl
section
attribute [local irreducible] Code.rounds
def mX(q:Option Addr)(c:Nat):b1:=⟨3,2,aa [115],1,0,0,2,false,false,1,1,0,1,0,1,0,1,aa [],q,1,c⟩
def dO(q:Option Addr)(c:Nat):b1:=⟨4,2,aa [98],2,3,4,4,false,true,1,2,-1,1,0,1,0,1,aa [],q,1,c⟩
theorem PQ{s:List UInt8}{u:Nat}(U:Lib.parseUintB 64 s=.ok u)(ae:u<100)(aM:Lib.decDigits u=s)(cc:s.length<=1000):s3 s u:=⟨U,.inl ⟨ae,aM⟩,cc⟩
theorem alA:s3 [48] 0:=PQ bo bk bo bk
theorem X7:s3 [50] 2:=PQ bo bk bo bk
theorem X':s3 [52] 4:=PQ bo bk bo bk
theorem alC:s3 [50,53,54] 256:=⟨bo,.inr ⟨rfl,rfl⟩,bk⟩
theorem EM:uk [48] 0 1:=⟨bk,_,rfl,.inl ⟨rfl,rfl,rfl⟩⟩
theorem aeT:uk [49] 1 1:=⟨bk,_,rfl,.inr (.inl ⟨rfl,rfl,rfl⟩)⟩
theorem aeV:uk [45,49] (-1) 1:=⟨bk,_,rfl,.inr (.inl ⟨rfl,rfl,rfl⟩)⟩
theorem aeU:uk [48,46,53] 1 2:=⟨bk,_,rfl,.inr (.inr ⟨rfl,rfl,rfl⟩)⟩
theorem aof:Lh 10 3 2 [115] [65] 1 0 0 2 false false 1 1 0 1 0 1 0 1 where
 au:=bk
 t0:=⟨bh,rfl,rfl⟩
 eH:=⟨rfl,bo,rfl,bk⟩
 o8:=⟨rfl,.inl ⟨rfl,rfl,rfl⟩⟩
 t3:=bh
 jU:=⟨rfl,alA,bk⟩
 t5:=bh
 xM:=⟨rfl,X7,bk⟩
 PT:=⟨rfl,rfl,_,_,rfl,rfl,bk,bk⟩
 t8:=bh
 f9:=⟨rfl,aeT⟩
 mZ:=bh
 zT:=⟨rfl,EM⟩
 uh:=bh
 QM:=bh
 Ih:=⟨rfl,EM⟩
 QP:=bh
 Ii:=⟨rfl,EM⟩
 QQ:=bh
 G2:=⟨rfl,rfl⟩
 yZ:=⟨rfl,bo,rfl,bk⟩
 QR:=bh
theorem aog:Lh 30 4 2 [98] [66] 2 3 4 4 false true 1 2 (-1) 1 0 1 0 1 where
 au:=bk
 t0:=⟨bh,rfl,rfl⟩
 eH:=⟨rfl,bo,rfl,bk⟩
 o8:=⟨rfl,.inr ⟨rfl,rfl,rfl⟩⟩
 t3:=bh
 jU:=⟨rfl,X',bk⟩
 t5:=bh
 xM:=⟨rfl,X',bk⟩
 PT:=⟨rfl,rfl,_,_,rfl,rfl,bk,bk⟩
 t8:=bh
 f9:=⟨rfl,aeU⟩
 mZ:=bh
 zT:=⟨rfl,aeV⟩
 uh:=bh
 QM:=bh
 Ih:=⟨rfl,EM⟩
 QP:=bh
 Ii:=⟨rfl,EM⟩
 QQ:=bh
 G2:=⟨rfl,rfl⟩
 yZ:=⟨rfl,bo,rfl,bk⟩
 QR:=bh
end
end
end Go.Proofs.YtnkjmbbddmgjiaaGreatDoor