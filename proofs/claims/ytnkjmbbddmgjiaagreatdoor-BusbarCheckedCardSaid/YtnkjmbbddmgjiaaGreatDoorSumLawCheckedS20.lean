import Derived.Test.YtnkjmbbddmgjiaaGreatDoorSumLawCheckedS19
set_option linter.unusedSimpArgs false
set_option linter.unusedVariables false
set_option maxRecDepth 1000000
set_option maxHeartbeats 400000000
namespace Go.Proofs.YtnkjmbbddmgjiaaGreatDoor
open Go.RowKit Go.Proofs.Tryz
variable {v iW:Int}{aR:List hZ}{ss:List ByteArray}{dF hS:List (Int × List Bool)}{e:TypeId}{x:Nat}{hf:List Bool}{w w':World}
section
attribute [local irreducible] wpList wpQuiet wpStill Code.wp Exit.then Exit.inBlock bodyPost Calls bL eT
def kw:List ByteArray:=[⟨#[86,69,82,83,73,79,78]⟩,⟨#[66,85,95]⟩,⟨#[66,79,95]⟩,⟨#[83,71,95]⟩,⟨#[86,65,76,95]⟩,⟨#[67,77,95]⟩]
def gd(s:ByteArray):Bool:=!(kw.any λk=>decide (s=k))&&bH.name s
theorem D6{s:ByteArray}(h:s∈kw):gd s=false:=by
 have:(kw.any λk=>decide (s=k))=true:=List.any_eq_true.2 ⟨s,h,aur rfl⟩;unfold gd;rw [this];rfl
theorem ap7{s:ByteArray}(h:s ∉ kw):gd s=bH.name s:=by
 have:(kw.any λk=>decide (s=k))=false:=by
  rw [avS];intro ae;obtain⟨k,au,e⟩:=List.any_eq_true.1 ae;exact h (by rw [auo e];exact au)
 unfold gd;rw [this];simp
theorem Hh(w:World)(s:ByteArray):bd prog 77 [.string s].toArray w (λv w'=>v=.bool (gd s)/\Below w.heap.size w w'):=by
 refine cF func77 rfl 12 rfl 13 rfl (λa I=>?_);cases U:decide (s=⟨#[86,69,82,83,73,79,78]⟩)with
 |true=>
  revert a;refine ad λa I=>?_;exact bc I rfl rfl ⟨by rw [D6 (by rw [auo U];simp [kw])],atL _ w⟩
 |false=>
 cases ae:decide (s=⟨#[66,85,95]⟩)with
 |true=>
  revert a;refine ad λa I=>?_;exact bc I rfl rfl ⟨by rw [D6 (by rw [auo ae];simp [kw])],atL _ w⟩
 |false=>
 cases aM:decide (s=⟨#[66,79,95]⟩)with
 |true=>
  revert a;refine ad λa I=>?_;exact bc I rfl rfl ⟨by rw [D6 (by rw [auo aM];simp [kw])],atL _ w⟩
 |false=>
 cases cc:decide (s=⟨#[83,71,95]⟩)with
 |true=>
  revert a;refine ad λa I=>?_;exact bc I rfl rfl ⟨by rw [D6 (by rw [auo cc];simp [kw])],atL _ w⟩
 |false=>
 cases gA:decide (s=⟨#[86,65,76,95]⟩)with
 |true=>
  revert a;refine ad λa I=>?_;exact bc I rfl rfl ⟨by rw [D6 (by rw [auo gA];simp [kw])],atL _ w⟩
 |false=>
 cases gM:decide (s=⟨#[67,77,95]⟩)with
 |true=>
  revert a;refine ad λa I=>?_;exact bc I rfl rfl ⟨by rw [D6 (by rw [auo gM];simp [kw])],atL _ w⟩
 |false=>
  revert a;refine ad λa I=>?_;refine aQ I (alb w s) λa v aq ab I=>?_;obtain⟨rfl,hb⟩:=ab;revert a;refine ad λa I=>?_;have bp:s ∉ kw:=by
   intro h;simp only [kw,au1,List.mem_nil_iff,axM]at h;rcases h with h|h|h|h|h|h
   · exact awi U h
   · exact awi ae h
   · exact awi aM h
   · exact awi cc h
   · exact awi gA h
   · exact awi gM h
  exact bc I rfl rfl ⟨by rw [ap7 bp],hb⟩
end
section
def qF:List ByteArray->List ByteArray->Int
 |_,[]=>0
 |seen,s::r=>if gd s=false then 11 else if seen.any (λk=>decide (s=k))=true then 12 else qF (s::seen) r
def AZ(xs:List ByteArray):Int:=if xs.length=0 then 2 else if 64<xs.length then 5 else qF [] xs
theorem akl{xs:List ByteArray}{k:Nat}(h:k<xs.length):qF (xs.take k).reverse (xs.drop k)=if gd xs[k]=false then 11 else if (xs.take k).reverse.any (λx=>decide (xs[k]=x))=true then 12 else qF (xs.take (k+1)).reverse (xs.drop (k+1)):=by
 rw [aua h,auP h];simp only [qF,azw,List.reverse_cons,List.reverse_nil,awp,awf]
theorem zt{s:ByteArray}(h:gd s=true):s.size<=64:=by
 unfold gd bH.name at h;rw [atP]at h;exact(auo h.2).2.1
attribute [local irreducible] wpList wpQuiet wpStill Code.wp Exit.then Exit.inBlock bodyPost Calls bL eT
theorem Xs(w:World)(xs:List ByteArray)(ay:Option Addr)(n c:Nat)(JX:Int)(ba:xs.length=n)(ab:ee w ay Value.string xs)(hm:JX<=1000000):
   bd prog 76 [.slice ay n c,.int .i64 JX].toArray w (λv w'=>v=.int .i64 (if JX<(n:Int)then 5 else qF [] xs)/\Below w.heap.size w w'):=by
 subst ba;refine dP func76 rfl 30 rfl 32 rfl (λa I=>?_);by_cases qu:JX<(xs.length:Int)
 · revert a;refine ad λa I=>?_;exact bc I rfl rfl ⟨by rw [atM qu],atL _ w⟩
 rw [atK qu];revert a;refine ad λa I=>?_;refine st I (adE auT) rfl (λa I=>?_);revert a;refine ad λa I=>?_;have kQ:Below w.heap.size w (w.alloc (.map #[] 0)):=aK (atL _ w) (auw w _ none) (atI _);refine eg (λq a wr=>∃k:Nat,k<=xs.length/\q=xs.length - k/\qF (xs.take k).reverse (xs.drop k)=qF [] xs/\Fr 32 [(5,.map (some w.heap.size)),(15,.slice ay xs.length c),(16,.int .i64 (xs.length:Int)),(17,.int .i64 (k:Int))] a/\nf prog 9 4 wr w.heap.size (xs.take k).reverse/\Below w.heap.size w wr) xs.length
   ⟨0,auc _,rfl,rfl,I.bb,nf.new w,kQ⟩ ?_
 clear I a;rintro q a wr ⟨k,au,rfl,bF,I,bs,cH⟩;have bT:=cH.size;by_cases bu:k<xs.length
 · have z1:=akl bu;rw [bF]at z1;obtain⟨b,o,rfl,av⟩:=ab k bu;replace av:=(cH.cell (p:=⟨b,o+k,none⟩) (aui w _ av)).trans av;revert a;(repeat first|refine ag ?_|refine J (af av) ?_);intro a I;refine aQ I (Hh wr xs[k]) λa v ax ra I=>?_;obtain⟨rfl,aC⟩:=ra;have se:=bs.below aC;have ey:=cH.trans (aC.mono bT);cases hw:gd xs[k]with
   |false=>
    rw [hw]at I;revert a;refine ad λa I=>?_;exact bc I rfl rfl ⟨by rw [z1,atM hw],ey⟩
   |true=>
    rw [hw]at I;have V2:=zt hw;have aN:=se.look auT auh aut (auz ax) xs[k] bn;cases uW:(xs.take k).reverse.any (λx=>decide (xs[k]=x))with
    |true=>
     rw [uW]at aN;revert a;(repeat first|refine ag ?_|refine J (h1 aN) ?_);intro a I;exact bc I rfl rfl ⟨by rw [z1,atK (by rw [hw];simp),atM uW],ey⟩
    |false=>
     rw [uW]at aN;revert a;(repeat first|refine ag ?_|refine J (h1 aN) ?_);intro a I;obtain⟨a6,mu,uT,bz,eE⟩:=se.put auT auh aut xs[k] bn (by simp;unfold maxLen;omega);refine gv I (r6 mu) rfl (λa I=>?_);revert a;refine ad λa I=>?_;refine⟨xs.length - (k+1),bj,k+1,bj,rfl,by rw [z1,atK (by rw [hw];simp),atK (by rw [uW];simp)],I.bb,?_,aK ey bz ey.size⟩;rw [auP bu,azw];exact uT
 · obtain rfl:k=xs.length:=bj
   revert a;refine ad λa I=>?_;exact bc I rfl rfl ⟨by rw [<-bF,auD];rfl,cH⟩
end
section
attribute [local irreducible] wpList wpQuiet wpStill Code.wp Exit.then Exit.inBlock bodyPost Calls bL eT
section
open Classical in
noncomputable def m'(s:ByteArray):Int:=if 1024<s.size then 5 else if By s then 0 else 6
theorem QN{s:ByteArray}{n:Int}(h:D' s n):n=m' s:=by
 refine akR h ?_;unfold D' m';by_cases hb:1024<s.size
 · exact .inl ⟨hb,atM hb⟩
 · refine .inr ⟨bj,?_⟩;rw [atK hb];by_cases ha:By s
   · exact .inl ⟨ha,atM ha⟩
   · exact .inr ⟨ha,atK ha⟩
def zb(s:b1):Prop:=s.role<0\/2<s.role\/(s.branch≠0/\s.role≠2)
instance (s:b1):Decidable (zb s):=by unfold zb;infer_instance
noncomputable def n1(s:b1)(ss:List ByteArray)(n:Int):Int:=
 if gd s.name=false then 11 else if zb s then 14
 else if bH.nU s.start s.size s.bV n≠0 then bH.nU s.start s.size s.bV n
 else if pZ s≠0 then pZ s
 else if m' s.unit≠0 then m' s.unit
 else AZ ss
theorem aa7(w:World)(s:b1)(ss:List ByteArray)(n:Int)(hlen:ss.length=s.p5)(dv:ee w s.azO .string ss)(aH:rY s)(cT:ni w):
   bd prog 197 [.agg (b1.cells s).toArray,.int .i64 n].toArray w (λv w'=>v=.int .i64 (n1 s ss n)/\Below w.heap.size w w'):=by
 refine dP func197 rfl 58 rfl 60 rfl (λa I=>?_);unfold n1;revert a;refine ad λa I=>?_;refine di I (cs:=(b1.cells s).toArray) rfl (k:=λa aq aE aT b8 I=>?_);have aB:=aK (atL _ w) aT (atI _);have fp:∀(ak:World) (o:Nat) (x:Value),ak.heap[w.heap.size]? =some (.cells (b1.cells s).toArray 133 (0,0))->(b1.cells s)[o]? =some x->ak.cell? ⟨w.heap.size,0+o,none⟩=some x:=λak o x az h=>aF az (by simpa using h);revert a;(repeat first|refine ag ?_|refine J (af (fp aq 2 _ aE rfl)) ?_);intro a I;refine aQ I (Hh aq s.name) λa v ax ab I=>?_;obtain⟨rfl,aC⟩:=ab;have ey:=aB.trans (aC.mono aB.size);have aP:=(aC.block _ (bO aE)).trans aE;cases hw:gd s.name with
 |false=>
   rw [hw]at I;revert a;refine ad λa I=>?_;exact bc I rfl rfl ⟨by rw [atM rfl],ey⟩
 |true=>
 rw [hw]at I;rw [atK bk];have go:zb s\/¬zb s:=ayf _;have xE:=fp ax 3 _ aP rfl;have hp:=fp ax 4 _ aP rfl;rcases go with aj|aj
 · rw [atM aj];by_cases bM:s.role<0
   · revert a;(repeat first|refine ag ?_|refine J (af xE) ?_);intro a I;exact bc I rfl rfl ⟨rfl,ey⟩
   by_cases c2:s.role>2
   · revert a;(repeat first|refine ag ?_|refine J (af xE) ?_);intro a I;exact bc I rfl rfl ⟨rfl,ey⟩
   obtain⟨c3,c4⟩:s.branch≠0/\s.role≠2:=by
     rcases aj with h|h|h
     · exact absurd h bM
     · exact absurd h c2
     · exact h
   revert a;(repeat first|refine ag ?_|refine J (af xE) ?_|refine J (af hp) ?_);intro a I;exact bc I rfl rfl ⟨rfl,ey⟩
 rw [atK aj];have bM:¬s.role<0:=λh=>aj (.inl h);have c2:¬s.role>2:=λh=>aj (.inr (.inl h));have c3:s.branch=0\/s.role=2:=by
   by_cases h:s.branch=0
   · exact .inl h
   · exact .inr (auV λae=>aj (.inr (.inr ⟨h,ae⟩)))
 clear aj xE hp;rcases ayf (s.branch=0)with c4|c4
 all_goals
   revert a;(repeat first|refine ag ?_|refine J (bJ (dy aP)) ?_|refine J (af (fp ax 3 _ aP rfl)) ?_|refine J (af (fp ax 4 _ aP rfl)) ?_);intro a I;refine aQ I (aap ax (b1.cells s).toArray s.start s.size n s.bV ⟨rfl,rfl,rfl,rfl⟩ (kB s)) λa v a6 ab I=>?_;obtain⟨⟨mW,pN,rfl,-⟩,a1⟩:=ab;have gh:=ey.trans (a1.mono ey.size);have bR:=(a1.block _ (bO aP)).trans aP;revert a;refine ad λa I=>?_;refine b6 I tN λa bZ lT bD eY I=>?_;refine dX I (cs:=dR mW) (aw _ _ rfl) (by rw [gm,pN]) rfl lT (p2 _) (k:=λa bN xc br dw I=>?_);have lg:=gh.size;have ob:=(aK gh bD lg).grown br bj (λk au=>by cases au;exact lg);have Au:=bO bR;have bB:=aD (aD bR bD bl) br bm;generalize bH.nU s.start s.size s.bV n=sV at I ⊢;by_cases Jy:sV=0
   · rw [atK (λh=>h Jy)];clear bD br lT xc a1 aC aB aE aP bR aT;revert a;(repeat first|refine ag ?_|refine J (bJ (dy bB)) ?_);intro a I;refine aQ I (amC bN s aH) λa v bQ ab I=>?_;obtain⟨rfl,bP⟩:=ab;have gB:=ob.trans (bP.mono ob.size);have cI:=(bP.block _ (bO bB)).trans bB;generalize pZ s=GJ at I ⊢;by_cases lR:GJ=0
     · rw [atK (λh=>h lR)];revert a;(repeat first|refine ag ?_|refine J (af (fp bQ 17 _ cI rfl)) ?_);intro a I;refine aQ I (QO bQ s.unit (cT.below gB)) λa v bt ab I=>?_;obtain⟨⟨m,hm,rfl⟩,b2⟩:=ab;rw [QN hm]at I;have pz:=gB.trans (b2.mono gB.size);have c8:=(b2.block _ (bO cI)).trans cI;generalize m' s.unit=lu at I ⊢;by_cases xg:lu=0
       · rw [atK (λh=>h xg)];unfold AZ;by_cases iS:ss.length=0
         · rw [atM iS];revert a;(repeat first|refine ag ?_|refine J (af (fp bt 18 _ c8 rfl)) ?_);intro a I;exact bc I rfl rfl ⟨rfl,pz⟩
         · rw [atK iS];revert a;(repeat first|refine ag ?_|refine J (af (fp bt 18 _ c8 rfl)) ?_);intro a I;refine aQ I (Xs bt ss s.azO s.p5 s.Ha 64 hlen (dv.below pz) bk) λa v cD ab I=>?_;obtain⟨rfl,c'⟩:=ab;have Cd:=pz.trans (c'.mono pz.size);revert a;refine ad λa I=>?_;refine bc I rfl rfl ⟨?_,Cd⟩;rw [hlen];by_cases qp:64<s.p5
           · rw [atM bj,atM qp]
           · rw [atK bj,atK qp]
       · rw [atM xg];revert a;refine ad λa I=>?_;exact bc I rfl rfl ⟨rfl,pz⟩
     · rw [atM lR];revert a;refine ad λa I=>?_;exact bc I rfl rfl ⟨rfl,gB⟩
   · rw [atM Jy];revert a;refine ad λa I=>?_;exact bc I rfl rfl ⟨rfl,ob⟩
end
def Gu(m:cO):Int:=if m.wide=true then 536870911 else 2047
def mo(m:cO):Int:=
 if gd m.name=false then 11 else if Gu m<m.id then 26 else if m.size<0\/8<m.size then 15
 else if gd m.qQ=false then 11 else if 64<m.dO then 5 else 0
theorem agM(w:World)(m:cO):bd prog 196 [.agg (cO.cells m).toArray].toArray w (λv w'=>v=.int .i64 (mo m)/\Below w.heap.size w w'):=by
 refine cF func196 rfl 34 rfl 35 rfl (λa I=>?_);unfold mo;revert a;refine ad λa I=>?_;refine di I (cs:=(cO.cells m).toArray) rfl (k:=λa aq aE aT b8 I=>?_);have aB:=aK (atL _ w) aT (atI _);have fp:∀(ak:World) (o:Nat) (x:Value),ak.heap[w.heap.size]? =some (.cells (cO.cells m).toArray 124 (0,0))->(cO.cells m)[o]? =some x->ak.cell? ⟨w.heap.size,0+o,none⟩=some x:=λak o x az h=>aF az (by simpa using h);obtain⟨akZ,FK⟩:∃x,x=Gu m:=⟨_,rfl⟩;rw [<-FK];cases AL:m.wide
 all_goals
  have Fb:=fp aq 3 _ aE rfl;rw [AL]at Fb;unfold Gu at FK;rw [AL]at FK;first|rw [atM rfl]at FK|rw [atK bk]at FK
  revert a;(repeat first|refine ag ?_|refine J (af Fb) ?_|refine J (af (fp aq 4 _ aE rfl)) ?_);intro a I;refine aQ I (Hh aq m.name) λa v ax ab I=>?_;obtain⟨rfl,aC⟩:=ab;have ey:=aB.trans (aC.mono aB.size);have aP:=(aC.block _ (bO aE)).trans aE;cases hw:gd m.name with
  |false=>
    rw [hw]at I;revert a;refine ad λa I=>?_;exact bc I rfl rfl ⟨by rw [atM rfl],ey⟩
  |true=>
  rw [hw]at I;rw [atK bk];by_cases ai:akZ<m.id
  · rw [atM ai];revert a;(repeat first|refine ag ?_|refine J (af (fp ax 2 _ aP rfl)) ?_);intro a I;exact bc I rfl rfl ⟨rfl,ey⟩
  rw [atK ai];by_cases s1:m.size<0
  · rw [atM (.inl s1)];revert a;(repeat first|refine ag ?_|refine J (af (fp ax 2 _ aP rfl)) ?_|refine J (af (fp ax 5 _ aP rfl)) ?_);intro a I;exact bc I rfl rfl ⟨rfl,ey⟩
  by_cases s2:m.size>8
  · rw [atM (.inr s2)];revert a;(repeat first|refine ag ?_|refine J (af (fp ax 2 _ aP rfl)) ?_|refine J (af (fp ax 5 _ aP rfl)) ?_);intro a I;exact bc I rfl rfl ⟨rfl,ey⟩
  rw [atK (λh=>h.elim s1 s2)];revert a;(repeat first|refine ag ?_|refine J (af (fp ax 2 _ aP rfl)) ?_|refine J (af (fp ax 5 _ aP rfl)) ?_|refine J (af (fp ax 6 _ aP rfl)) ?_);intro a I;refine aQ I (Hh ax m.qQ) λa v a6 ab I=>?_;obtain⟨rfl,a1⟩:=ab;have gh:=ey.trans (a1.mono ey.size);have bR:=(a1.block _ (bO aP)).trans aP;cases Jw:gd m.qQ with
  |false=>
    rw [Jw]at I;revert a;refine ad λa I=>?_;exact bc I rfl rfl ⟨by rw [atM rfl],gh⟩
  |true=>
  rw [Jw]at I;rw [atK bk];by_cases ba:64<m.dO
  · rw [atM ba];revert a;(repeat first|refine ag ?_|refine J (af (fp a6 7 _ bR rfl)) ?_);intro a I;exact bc I rfl rfl ⟨rfl,gh⟩
  · rw [atK ba];revert a;(repeat first|refine ag ?_|refine J (af (fp a6 7 _ bR rfl)) ?_);intro a I;exact bc I rfl rfl ⟨rfl,gh⟩
def DI(v:Int):Int:=if v<9223372036854775808 then v else v - 18446744073709551616
theorem aqa(h:0<=v/\v<18446744073709551616):IntKind.i64.wrap v=DI v:=by
 unfold DI;simp only [IntKind.wrap,IntKind.signed,IntKind.bits];simp;split<;>split<;>omega
def uJ(v size:Int)(cn:Bool):Bool:=
 if size<1\/64<size then false
 else if cn=true then decide (DI v/2^(size - 1).toNat=0\/DI v/2^(size - 1).toNat= -1)
 else decide (v/2^(size - 1).toNat<=1)
theorem LM(w:World)(v size:Int)(cn:Bool)(ao:0<=v/\v<18446744073709551616):
   bd prog 141 [.int .u64 v,.int .i64 size,.bool cn].toArray w (λr w'=>r=.bool (uJ v size cn)/\w'=w):=by
 refine mf func141 rfl 30 rfl 33 rfl (λa I=>?_);unfold uJ;by_cases s1:size<1
 · rw [atM (.inl s1)];revert a;refine ad λa I=>?_;exact bc I rfl rfl ⟨rfl,rfl⟩
 by_cases s2:size>64
 · rw [atM (.inr s2)];revert a;refine ad λa I=>?_;exact bc I rfl rfl ⟨rfl,rfl⟩
 rw [atK (λh=>h.elim s1 s2)];obtain⟨b,hb⟩:∃b:Nat,size - 1=(b:Int):=⟨(size - 1).toNat,bj⟩;have pD:b<=64:=bj
 have wF:(size - 1).toNat=b:=bj
 rw [wF];cases cn with
 |true=>
   rw [atM rfl];have hw:=aqa ao;obtain⟨ai,oo⟩:∃ai,ai=DI v/2^b:=⟨_,rfl⟩;rw [<-oo];have hB:∀(l:List (Nat × Value)) (x y:Operand) (t t' ty:TypeId),a7 l x (.int .i64 (DI v))->a7 l y (.int .i64 (size - 1))->bL prog l w (.binOp .shr t x y t') ty (.int .i64 ai) w:=λl x y t t' ty hx aO=>by
     rw [oo];exact SK hx aO hb pD
   by_cases aJ:ai=0
   · rw [aur (.inl aJ)];revert a;(repeat first|refine ag ?_|refine J (e8 (aA _ _ rfl) (aA _ _ rfl) (hm:=hw)) ?_|refine J (hB _ _ _ _ _ _ rfl rfl) ?_);intro a I;exact bc I rfl rfl ⟨rfl,rfl⟩
   · by_cases U:ai= -1
     · rw [aur (.inr U)];revert a;(repeat first|refine ag ?_|refine J (e8 (aA _ _ rfl) (aA _ _ rfl) (hm:=hw)) ?_|refine J (hB _ _ _ _ _ _ rfl rfl) ?_);intro a I;exact bc I rfl rfl ⟨rfl,rfl⟩
     · rw [auk (λh=>h.elim aJ U)];revert a;(repeat first|refine ag ?_|refine J (e8 (aA _ _ rfl) (aA _ _ rfl) (hm:=hw)) ?_|refine J (hB _ _ _ _ _ _ rfl rfl) ?_);intro a I;exact bc I rfl rfl ⟨rfl,rfl⟩
 |false=>
   rw [atK bk];obtain⟨ai,oo⟩:∃ai,ai=v/2^b:=⟨_,rfl⟩;rw [<-oo];have hB:∀(l:List (Nat × Value)) (x y:Operand) (t t' ty:TypeId),a7 l x (.int .u64 v)->a7 l y (.int .i64 (size - 1))->bL prog l w (.binOp .shr t x y t') ty (.int .u64 ai) w:=λl x y t t' ty hx aO=>by
     rw [oo];exact SK hx aO hb pD
   by_cases aJ:ai<=1
   · rw [aur aJ];revert a;(repeat first|refine ag ?_|refine J (hB _ _ _ _ _ _ rfl rfl) ?_);intro a I;exact bc I rfl rfl ⟨rfl,rfl⟩
   · rw [auk aJ];revert a;(repeat first|refine ag ?_|refine J (hB _ _ _ _ _ _ rfl rfl) ?_);intro a I;exact bc I rfl rfl ⟨rfl,rfl⟩
section
open Classical in
noncomputable def kO(bad:Nat->Prop):Nat->Option Nat
 | 0=>none
 |n+1=>match kO bad n with
  |some i=>some i
  |none=>if bad n then some n else none
theorem zV(bad:Nat->Prop):∀n,(kO bad n=none/\∀i,i<n->¬bad i)\/∃i,kO bad n=some i/\i<n/\bad i/\∀j,j<i->¬bad j
 | 0=>.inl ⟨rfl,λi ai=>absurd ai (auv _)⟩
 |n+1=>by
  unfold kO;rcases zV bad n with ⟨U,ae⟩|⟨i,U,ae,aM,cc⟩
  · rw [U];by_cases hb:bad n
    · exact .inr ⟨n,atM hb,bj,hb,ae⟩
    · refine .inl ⟨atK hb,λi ai=>?_⟩;by_cases e:i=n
      · subst e;exact hb
      · exact ae i bj
  · rw [U];exact .inr ⟨i,rfl,bj,aM,cc⟩
theorem lH{bad:Nat->Prop}{n:Nat}(h:∀i,i<n->¬bad i):kO bad n=none:=by
 rcases zV bad n with ⟨U,_⟩|⟨i,U,ae,aM,cc⟩
 · exact U
 · exact absurd aM (h i ae)
theorem tg{bad:Nat->Prop}{n i:Nat}(h:i<n)(hb:bad i)(ba:∀j,j<i->¬bad j):kO bad n=some i:=by
 rcases zV bad n with ⟨U,ae⟩|⟨k,U,ae,aM,cc⟩
 · exact absurd hb (ae i h)
 · by_cases e:k<i
   · exact absurd aM (ba k e)
   · by_cases bf:i<k
     · exact absurd hb (cc i bf)
     · rw [U,show k=i by omega]
def cn(aR:List hZ)(i:Nat):b1:=(aR.getD i (ZB,[])).1
def tx(aR:List hZ)(i:Nat):List ByteArray:=(aR.getD i (ZB,[])).2
theorem G1{i:Nat}(h:i<aR.length):cn aR i=aR[i].1:=by simp [cn,List.getD,h]
theorem apl{i:Nat}(h:i<aR.length):tx aR i=aR[i].2:=by simp [tx,List.getD,h]
def QS(s t:b1):Bool:=decide (s.role≠2\/t.role≠2\/s.branch=t.branch)
def Zq(s t:b1):Prop:=∃l m x,bH.jv s.start s.size s.bV=.ok l/\bH.jv t.start t.size t.bV=.ok m/\x∈l/\x∈m
open Classical in
noncomputable def jS(aR:List hZ)(n:Int)(i:Nat):Int:=
 if n1 (cn aR i) (tx aR i) n≠0 then n1 (cn aR i) (tx aR i) n
 else if ∃k,k<i/\(cn aR k).name=(cn aR i).name then 12
 else if (cn aR i).role=1/\∃k,k<i/\(cn aR k).role=1 then 14 else 0
def JI(aR:List hZ)(i:Nat):Prop:=(cn aR i).role=1
def rN(aR:List hZ)(i:Nat):Prop:=(cn aR i).role=2/\∀k,kO (JI aR) aR.length=some k->uJ (cn aR i).branch (cn aR k).size (cn aR k).fw=false
def pT(aR:List hZ)(i:Nat):Prop:=∃k,k<i/\QS (cn aR k) (cn aR i)=true/\Zq (cn aR k) (cn aR i)
def KN(r:Option Nat)(e:Nat->Int)(k:Int × Option Nat):Int × Option Nat:=match r with|some i=>(e i,some i)|none=>k
noncomputable def jh(m:cO)(aR:List hZ):Int × Option Nat:=
 if mo m≠0 then(mo m,none)
 else KN (kO (λi=>jS aR m.size i≠0) aR.length) (jS aR m.size)
  (KN (kO (rN aR) aR.length) (λ_=>14)
   (KN (kO (pT aR) aR.length) (λ_=>17) (0,none)))
def GD(m:cO)(aR:List hZ):Option Nat->Int
 |none=>m.line
 |some i=>(cn aR i).line
def GC(m:cO)(aR:List hZ):Option Nat->Int
 |none=>m.eh
 |some i=>(cn aR i).eh
theorem XP{m:cO}(h:mo m≠0):jh m aR=(mo m,none):=atM h
theorem XQ{m:cO}{i:Nat}(h:mo m=0)(ai:i<aR.length)(hb:jS aR m.size i≠0)(ba:∀j,j<i->jS aR m.size j=0):jh m aR=(jS aR m.size i,some i):=by
 unfold jh;rw [atK (λe=>e h),tg ai hb (λj ah e=>e (ba j ah))];rfl
theorem XR{m:cO}{i:Nat}(h:mo m=0)(U:∀j,j<aR.length->jS aR m.size j=0)(ai:i<aR.length)(hb:rN aR i)(ba:∀j,j<i->¬rN aR j):jh m aR=(14,some i):=by
 unfold jh;rw [atK (λe=>e h),lH (λj ah e=>e (U j ah)),tg ai hb ba];rfl
theorem ak7{m:cO}{i:Nat}(h:mo m=0)(U:∀j,j<aR.length->jS aR m.size j=0)(ae:∀j,j<aR.length->¬rN aR j)(ai:i<aR.length)(hb:pT aR i)(ba:∀j,j<i->¬pT aR j):jh m aR=(17,some i):=by
 unfold jh;rw [atK (λe=>e h),lH (λj ah e=>e (U j ah)),lH ae,tg ai hb ba];rfl
theorem ak8{m:cO}(h:mo m=0)(U:∀j,j<aR.length->jS aR m.size j=0)(ae:∀j,j<aR.length->¬rN aR j)(aM:∀j,j<aR.length->¬pT aR j):jh m aR=(0,none):=by
 unfold jh;rw [atK (λe=>e h),lH (λj ah e=>e (U j ah)),lH ae,lH aM];rfl
structure aaQ(m:cO)(aR:List hZ):Prop where
 head:mo m=0
 one:∀j,j<aR.length->jS aR m.size j=0
 two:∀j,j<aR.length->¬rN aR j
 meet:∀j,j<aR.length->¬pT aR j
theorem JY{m:cO}:(jh m aR).1=0↔aaQ m aR:=by
 constructor
 · intro h;by_cases aJ:mo m=0
   · rcases zV (λi=>jS aR m.size i≠0) aR.length with ⟨bw,eH⟩|⟨i,_,e6,a2,a3⟩
     · have h':=λj ah=>auV λe=>eH j ah e;rcases zV (rN aR) aR.length with ⟨bf,e1⟩|⟨i,_,e6,a2,a3⟩
       · rcases zV (pT aR) aR.length with ⟨dj,n3⟩|⟨i,_,e6,a2,a3⟩
         · exact⟨aJ,h',e1,n3⟩
         · rw [ak7 aJ h' e1 e6 a2 a3]at h;simp at h
       · rw [XR aJ h' e6 a2 a3]at h;simp at h
     · rw [XQ aJ e6 a2 (λj ah=>auV λe=>a3 j ah e)]at h;exact absurd h a2
   · rw [XP aJ]at h;exact absurd h aJ
 · intro h;rw [ak8 h.head h.one h.two h.meet]
theorem Em{n:Int}{i:Nat}(h:jS aR n i=0):n1 (cn aR i) (tx aR i) n=0:=by
 unfold jS at h;split at h
 · exact h
 · rename_i e;exact auV e
theorem alf{n:Int}{i:Nat}(h:jS aR n i=0):∀k,k<i->(cn aR k).name≠(cn aR i).name:=by
 intro k au e;unfold jS at h;rw [atK (λx=>x (Em (by unfold jS;exact h))),atM ⟨k,au,e⟩]at h;cases h
theorem ap4{s:b1}{n:Int}(h:n1 s ss n=0):bH.nU s.start s.size s.bV n=0:=by
 unfold n1 at h;split at h
 · cases h
 · split at h
   · cases h
   · split at h
     · exact h
     · rename_i e;exact auV e
theorem PH{s:b1}{n:Int}(h:n1 s ss n=0):gd s.name=true:=by
 unfold n1 at h;split at h
 · cases h
 · rename_i e;simpa using e
end
end
section
open Go.Maps (Keyed IsMap)
section
variable {P:Program} {w w':World}
def tf(s:List Bool):List UInt8:=s.map λb=>if b then 1 else 0
theorem S':∀{s t:List Bool},tf s=tf t->s=t
 | [],[],_=>rfl
 | [],_::_,h=>by simp [tf]at h
 |_::_,[],h=>by simp [tf]at h
 |a::s,b::t,h=>by
  unfold tf at h;rw [axl,axl,List.cons.injEq]at h;have ae:=S' (s:=s) (t:=t) h.2;subst ae;cases a<;>cases b<;>simp at h<;>rfl
theorem an5{s t:List Bool}(h:dR s=dR t):s=t:=by
 have e:s.map Value.bool=t.map Value.bool:=by
  have:=atW Array.toList h;simpa [dR]using this
 exact(List.map_inj_right (λa b cY=>Value.bool.inj cY)).1 e
open Classical in
noncomputable def DE(v:Value):Option (DataW Unit × List MemPlace):=
 if h:∃s:List Bool,v=.agg (dR s)then some (.lit (.string (tf (Classical.choose h))),[])else none
theorem Zk(s:List Bool):DE (.agg (dR s))=some (.lit (.string (tf s)),[]):=by
 unfold DE;have h:∃t:List Bool,Value.agg (dR s)=.agg (dR t):=⟨s,rfl⟩;rw [azK h];have av:=axS h;have e:=(an5 (Value.agg.inj av)).symm;rw [e]
theorem an6{v:Value}{s:List Bool}{aR:List MemPlace}(h:DE v=some (.lit (.string (tf s)),aR)):v=.agg (dR s):=by
 unfold DE at h;split at h
 · rename_i hx;have av:=axS hx;injection h with h
   injection h with U ae
   injection U with U
   injection U with U
   rw [<-S' U];exact av
 · cases h
def Pq(k:Int):Lit:=.int .u64 k
def C9:List (Int × List Bool)->DataW Unit
 | []=>.map []
 |p::r=>(C9 r).put (Pq p.1) (.lit (.string (tf p.2)))
def pR(k:Int):List (Int × List Bool)->List Bool
 | []=>bH.gg
 |p::r=>if k=p.1 then p.2 else pR k r
theorem Xc:∀dF,IsMap (C9 dF)
 | []=>⟨_,rfl⟩
 |p::r=>by
  obtain⟨es,h⟩:=Xc r;unfold C9;rw [h];exact⟨_,rfl⟩
theorem Xb(t:Int):∀dF,(C9 dF).atKey (Pq t) (.lit (.string (tf bH.gg)))=.lit (.string (tf (pR t dF)))
 | []=>rfl
 |p::r=>by
  unfold C9 pR;by_cases e:t=p.1
  · rw [atM e,e,axb (Xc r) (by trivial)]
  · rw [atK e,aw0 (λh=>e (by injection h)),Xb t r]
def ng(P:Program)(k:TypeId)(w:World)(b:Nat)(dF:List (Int × List Bool)):Prop:=w.ownsMap P k DE b dF.length (C9 dF)
theorem ng.new{k:TypeId}(w:World):ng P k (w.alloc (.map #[] 0)) w.heap.size []:=axt w P k _
theorem ng.kept{k:TypeId}{b:Nat}{row:Option Nat}(h:ng P k w b dF)(az:w.grownBy w' row)(b5:some b≠row):ng P k w' b dF:=World.ownsMap.kept h az b5
theorem ng.lt{k:TypeId}{b:Nat}(h:ng P k w b dF):b<w.heap.size:=ay0 h
theorem ng.below{k:TypeId}{b:Nat}(h:ng P k w b dF)(hb:Below w.heap.size w w'):ng P k w' b dF:=by
 have bu:=h.lt;obtain⟨es,clock,U,ae⟩:=h;exact⟨es,clock,(hb.block b bu).trans U,ae⟩
theorem W4{k:TypeId}(au:P.underlying k=some (.int .u64))(hw:(Lit.int .u64 v).wf=true):keyOf P k (.int .u64 v)=some (Pq v):=avN au hw
theorem ng.look{t k:TypeId}{b:Nat}(h:ng P k w b dF)(bW:P.underlying t=some (.map k e))(au:P.underlying k=some (.int .u64))(bA:(zeroValue e).run P w=.ok (.agg (dR bH.gg)) w)(v:Int)(hw:(Lit.int .u64 v).wf=true):
  (Instr.lookup t (.map (some b)) (.int .u64 v) false).run P w=.ok (.agg (dR (pR v dF))) w:=by
 obtain⟨x,aR,aj,ao⟩:=ax1 h (auq au) bW bA (Zk _) (W4 au hw);rw [Xb]at ao;rw [aj,an6 ao]
theorem ng.put{t k:TypeId}{b:Nat}(h:ng P k w b dF)(bW:P.underlying t=some (.map k e))(au:P.underlying k=some (.int .u64))(v:Int)(hw:(Lit.int .u64 v).wf=true)(s:List Bool)(ba:dF.length<maxLen):
  ∃w',(Instr.mapUpdate t (.map (some b)) (.int .u64 v) (.agg (dR s))).run P w=.ok () w'/\ng P k w' b ((v,s)::dF)/\w.grownBy w' (some b)/\w'.heap.size=w.heap.size:=by
 obtain⟨w',aj,bp,lf⟩:=ax9 (P:=P) (w:=w) (b:=b) (k:=k) (R:=DE) h (auq au) bW ba (W4 au hw) (Zk s);refine⟨w',aj,bp,lf.grown,?_⟩;obtain⟨_,_,_,_,_,rfl⟩:=lf;simp [Go.ChangeMaps.setBlock]
end
end
section
attribute [local irreducible] wpList wpQuiet wpStill Code.wp Exit.then Exit.inBlock bodyPost Calls bL eT
def yM(s:b1)(x:Nat):Prop:=∃l,bH.jv s.start s.size s.bV=.ok l/\(x:Int)∈l
theorem Pd{s:b1}(h:yM s x):x<64:=by
 obtain⟨l,U,ae⟩:=h;have:=(bH.Ks U).2.1 _ ae;omega
theorem Zr{s t:b1}:Zq s t↔∃x,yM s x/\yM t x:=by
 constructor
 · rintro ⟨l,m,x,U,ae,aM,cc⟩;have:=(bH.Ks U).2.1 _ aM;obtain⟨n,rfl⟩:∃n:Nat,x=(n:Int):=⟨x.toNat,bj⟩;exact⟨n,⟨l,U,aM⟩,⟨m,ae,cc⟩⟩
 · rintro ⟨x,⟨l,U,aM⟩,⟨m,ae,cc⟩⟩;exact⟨l,m,x,U,ae,aM,cc⟩
structure Ei(s:b1)(t:List Bool):Prop where
 len:t.length=64
 at_:∀x,x<64->(t.getD x false=true↔yM s x)
theorem aoa{s:b1}{l:List Int}{t:List Bool}(U:bH.jv s.start s.size s.bV=.ok l)(ae:bH.setOf l=.ok t):Ei s t:=by
 obtain⟨_,_,t',e,aN,az⟩:=bH.Ks U;rw [ae]at e;cases e
 refine⟨aN,λx hx=>?_⟩;rw [az x];constructor
 · intro h;exact⟨l,U,auo h⟩
 · rintro ⟨l',e,hm⟩;rw [U]at e;cases e
   exact aur hm
structure rR(aR:List hZ)(k:Nat)(hf c6:List Bool)(hS:List (Int × List Bool)):Prop where
 iv:hf.length=64
 fb:c6.length=64
 xu:∀v,(pR v hS).length=64
 al:∀x,x<64->(hf.getD x false=true↔∃j,j<k/\(cn aR j).role≠2/\yM (cn aR j) x)
 hL:∀x,x<64->(c6.getD x false=true↔∃j,j<k/\(cn aR j).role=2/\yM (cn aR j) x)
 j1:∀v x,x<64->((pR v hS).getD x false=true↔∃j,j<k/\(cn aR j).role=2/\(cn aR j).branch=v/\yM (cn aR j) x)
 no:∀j,j<k->¬pT aR j
 kl:hS.length<=k
theorem rR.zero(aR:List hZ):rR aR 0 bH.gg bH.gg []:=by
 have e:∀x,¬bH.gg.getD x false=true:=λx=>by rw [bH.Mh];simp
 exact⟨wB,wB,λ_=>wB,λx _=>⟨λh=>absurd h (e x),λ⟨j,ah,_⟩=>absurd ah (auv _)⟩,λx _=>⟨λh=>absurd h (e x),λ⟨j,ah,_⟩=>absurd ah (auv _)⟩,λv x _=>⟨λh=>absurd h (e x),λ⟨j,ah,_⟩=>absurd ah (auv _)⟩,λj ah=>absurd ah (auv _),atI _⟩
theorem Gz{s t:List Bool}(h:x<64):(bH.ja (· || ·) s t).getD x false=true↔(s.getD x false=true\/t.getD x false=true):=by
 rw [bH.Rf _ _ _ _ h,au9]
theorem aa'{s t:List Bool}:bH.ja (· && ·) s t=bH.gg↔∀x,x<64->¬(s.getD x false=true/\t.getD x false=true):=by
 constructor
 · intro h x hx ⟨U,ae⟩;have:=bH.Rf (· && ·) s t x hx;rw [h,bH.Mh,U,ae]at this;simp at this
 · intro h;refine bH.abk (bH.sX _ _ _) wB λx hx=>?_;rw [bH.Rf _ _ _ _ hx,bH.Mh];have:=h x hx;cases U:s.getD x false<;>cases ae:t.getD x false<;>simp_all
def p9(aR:List hZ)(k:Nat)(hf c6:List Bool)(hS:List (Int × List Bool)):List Bool:=
 if (cn aR k).role=2 then bH.ja (· || ·) hf (pR (cn aR k).branch hS)else bH.ja (· || ·) hf c6
theorem rR.meet{k:Nat}{c6:List Bool}(h:rR aR k hf c6 hS){t:List Bool}(bW:Ei (cn aR k) t):bH.ja (· && ·) t (p9 aR k hf c6 hS)=bH.gg↔¬pT aR k:=by
 have key:∀x,x<64->((p9 aR k hf c6 hS).getD x false=true↔∃j,j<k/\QS (cn aR j) (cn aR k)=true/\yM (cn aR j) x):=by
   intro x hx;unfold p9 QS;simp only [atQ];by_cases aj:(cn aR k).role=2
   · rw [atM aj,Gz hx,h.al x hx,h.j1 _ x hx];constructor
     · rintro (⟨j,a,b,c⟩|⟨j,a,b,c,d⟩)
       · exact⟨j,a,.inl b,c⟩
       · exact⟨j,a,.inr (.inr c),d⟩
     · rintro ⟨j,a,b,c⟩;by_cases e:(cn aR j).role=2
       · rcases b with b|b|b
         · exact absurd e b
         · exact absurd aj b
         · exact .inr ⟨j,a,e,b,c⟩
       · exact .inl ⟨j,a,e,c⟩
   · rw [atK aj,Gz hx,h.al x hx,h.hL x hx];constructor
     · rintro (⟨j,a,b,c⟩|⟨j,a,b,c⟩)
       · exact⟨j,a,.inl b,c⟩
       · exact⟨j,a,.inr (.inl aj),c⟩
     · rintro ⟨j,a,b,c⟩;by_cases e:(cn aR j).role=2
       · exact .inr ⟨j,a,e,c⟩
       · exact .inl ⟨j,a,e,c⟩
 rw [aa'];constructor
 · rintro hx ⟨j,ah,F9,aG⟩;obtain⟨x,U,ae⟩:=Zr.1 aG;exact hx x (Pd ae) ⟨(bW.at_ x (Pd ae)).2 ae,(key x (Pd ae)).2 ⟨j,ah,F9,U⟩⟩
 · rintro ba x hx ⟨U,ae⟩;obtain⟨j,ah,F9,ai⟩:=(key x hx).1 ae;exact ba ⟨j,ah,F9,Zr.2 ⟨x,ai,(bW.at_ x hx).1 U⟩⟩
theorem zR{k:Nat}{p:Nat->Prop}:(∃j,j<k+1/\p j)↔(∃j,j<k/\p j)\/p k:=by
 constructor
 · rintro ⟨j,ah,aW⟩;by_cases e:j=k
   · subst e;exact .inr aW
   · exact .inl ⟨j,bj,aW⟩
 · rintro (⟨j,ah,aW⟩|aW)
   · exact⟨j,bj,aW⟩
   · exact⟨k,bj,aW⟩
theorem rR.always{k:Nat}{c6:List Bool}(h:rR aR k hf c6 hS){t:List Bool}(bW:Ei (cn aR k) t)(aj:(cn aR k).role≠2)(ba:¬pT aR k):rR aR (k+1) (bH.ja (· || ·) hf t) c6 hS:=by
 refine⟨bH.sX _ _ _,h.fb,h.xu,λx hx=>?_,λx hx=>?_,λv x hx=>?_,λj ah=>?_,Nat.le_succ_of_le h.kl⟩
 · rw [Gz hx,h.al x hx,bW.at_ x hx,zR];exact or_congr azI ⟨λe=>⟨aj,e⟩,λe=>e.2⟩
 · rw [h.hL x hx,zR];exact⟨.inl,λe=>e.elim id λe=>absurd e.1 aj⟩
 · rw [h.j1 v x hx,zR];exact⟨.inl,λe=>e.elim id λe=>absurd e.1 aj⟩
 · by_cases e:j=k
   · subst e;exact ba
   · exact h.no j bj
theorem rR.branch{k:Nat}{c6:List Bool}(h:rR aR k hf c6 hS){t:List Bool}(bW:Ei (cn aR k) t)(aj:(cn aR k).role=2)(ba:¬pT aR k):
   rR aR (k+1) hf (bH.ja (· || ·) c6 t) (((cn aR k).branch,bH.ja (· || ·) (pR (cn aR k).branch hS) t)::hS):=by
 refine⟨h.iv,bH.sX _ _ _,λv=>?_,λx hx=>?_,λx hx=>?_,λv x hx=>?_,λj ah=>?_,by simpa using h.kl⟩
 · unfold pR;split
   · exact bH.sX _ _ _
   · exact h.xu v
 · rw [h.al x hx,zR];exact⟨.inl,λe=>e.elim id λe=>absurd aj e.1⟩
 · rw [Gz hx,h.hL x hx,bW.at_ x hx,zR];exact or_congr azI ⟨λe=>⟨aj,e⟩,λe=>e.2⟩
 · unfold pR;rw [zR];by_cases e:v=(cn aR k).branch
   · subst e;rw [atM rfl,Gz hx,h.j1 _ x hx,bW.at_ x hx];exact or_congr azI ⟨λe=>⟨aj,rfl,e⟩,λe=>e.2.2⟩
   · rw [atK e,h.j1 v x hx];exact⟨.inl,λe'=>e'.elim id λe'=>absurd e'.2.1.symm e⟩
 · by_cases e:j=k
   · subst e;exact ba
   · exact h.no j bj
theorem K5{k:Nat}{c6:List Bool}:(p9 aR k hf c6 hS).length=64:=by
 unfold p9;split<;>exact bH.sX _ _ _
theorem He(w:World)(s t:List Bool)(aG:s.length=64)(bW:t.length=64):
   bd prog 237 #[.agg (dR s),.agg (dR t)] w (λv w'=>v=.agg (dR (bH.ja (· || ·) s t))/\Below w.heap.size w w'):=by
 refine dP func237 rfl 20 rfl 22 rfl (λa I=>?_);revert a;refine ad λa I=>?_;refine di I (cs:=dR s) rfl (k:=λa aq aP aT b8 I=>?_);have aB:=aK (atL _ w) aT (atI _);revert a;refine ad λa I=>?_;refine di I (cs:=dR t) rfl (k:=λa ax bR aS cZ I=>?_);have aC:=aK aB aS aB.size;replace aP:=aD aP aS bl;revert a;refine ad λa I=>?_;refine b6 I tN λa a6 bX bz eE I=>?_;replace bX:iB a6 ax.heap.size bH.gg:=bX;have a1:=aK aC bz aC.size;replace aP:=aD aP bz bl;replace bR:=aD bR bz bl;revert a;(repeat first|refine ag ?_|refine J (fR (agg _ rfl) (aw _ _ rfl) ((gm t).trans bW) (dy bR)) ?_);intro a I;refine eg (λn a wr=>∃k,k<=64/\n=64- k/\Fr 22 [(2,.pointer (some ⟨w.heap.size,0,none⟩)),(4,.pointer (some ⟨ax.heap.size,0,none⟩)),(7,.agg (dR t)),(8,.int .i64 (k:Nat))] a/\
   iB wr w.heap.size (bH.sY (· || ·) s t k)/\iB wr ax.heap.size bH.gg/\Below w.heap.size w wr) 64
   ⟨0,bj,rfl,I.bb,by rw [bH.aaJ _ _ aG];exact aP,bX,a1⟩ ?_
 clear I a aP bX a1 bR bz eE a6;rintro n a wr ⟨k,au,rfl,I,aP,bX,cH⟩;have bA:=cH.size;have xk:=bH.Hn (· || ·) s t k;by_cases bu:k<64
 · have As:k<t.length:=bj
   have CJ:k<s.length:=bj
   have sq:=DD As;have gZ:t.getD k false=t[k]:=by simp [List.getD,As]
   have c2:wr.cell? ⟨w.heap.size,0+k,none⟩=some (.bool (s.getD k false)):=by
    have:=dy aP k _ (DD bj);rw [bH.Hm _ _ _ _ _ bu,atK bj]at this;exact this
   have tJ:=bH.aaI (· || ·) s t k bu;rw [gZ]at tJ;cases hb:s.getD k false with
   |true=>
    rw [hb]at c2 tJ;revert a;(repeat first|refine ag ?_|refine J (B1 (aA _ _ rfl) (aA _ _ rfl) rfl (aw _ _ rfl) sq) ?_|refine J (dY (aA _ _ rfl) (aw _ _ rfl)) ?_|refine J (af c2) ?_);intro a I;refine cr I (aw _ _ rfl) aP (i:=0+k) (by rw [gm];omega) rfl rfl rfl λa bN bB br dw I=>?_;rw [GW]at bB;revert a;refine ad λa I=>?_;refine⟨64- (k+1),bj,k+1,bj,rfl,I.bb,?_,aD bX br bm,aK cH br bA⟩;rw [<-tJ];exact bB
   |false=>
    rw [hb]at c2 tJ;revert a;(repeat first|refine ag ?_|refine J (B1 (aA _ _ rfl) (aA _ _ rfl) rfl (aw _ _ rfl) sq) ?_|refine J (dY (aA _ _ rfl) (aw _ _ rfl)) ?_|refine J (af c2) ?_);intro a I;refine cr I (aw _ _ rfl) aP (i:=0+k) (by rw [gm];omega) rfl rfl rfl λa bN bB br dw I=>?_;rw [GW]at bB;revert a;refine ad λa I=>?_;refine⟨64- (k+1),bj,k+1,bj,rfl,I.bb,?_,aD bX br bm,aK cH br bA⟩;rw [<-tJ];unfold iB;simpa using bB
 · obtain rfl:k=64:=bj
   rw [bH.aaH]at aP;have xk:=bH.sX (· || ·) s t;revert a;(repeat first|refine ag ?_|refine J (fR (agg _ rfl) (aw _ _ rfl) ((gm _).trans xk) (dy aP)) ?_);intro a I;refine dX I (cs:=dR (bH.ja (· || ·) s t)) (aw _ _ rfl) ((gm _).trans xk) rfl bX (p2 _) (k:=λa bN bB br dw I=>?_);revert a;refine ad λa I=>?_;exact ff I rfl (agg _ rfl) (by rw [gm,xk];exact aw _ _ rfl) bB rfl ⟨rfl,aK cH br bA⟩
theorem XN(w:World)(s t:List Bool)(aG:s.length=64)(bW:t.length=64):
   bd prog 238 #[.agg (dR s),.agg (dR t)] w (λv w'=>v=.agg (dR (bH.ja (· && ·) s t))/\Below w.heap.size w w'):=by
 refine dP func238 rfl 20 rfl 22 rfl (λa I=>?_);revert a;refine ad λa I=>?_;refine di I (cs:=dR s) rfl (k:=λa aq aP aT b8 I=>?_);have aB:=aK (atL _ w) aT (atI _);revert a;refine ad λa I=>?_;refine di I (cs:=dR t) rfl (k:=λa ax bR aS cZ I=>?_);have aC:=aK aB aS aB.size;replace aP:=aD aP aS bl;revert a;refine ad λa I=>?_;refine b6 I tN λa a6 bX bz eE I=>?_;replace bX:iB a6 ax.heap.size bH.gg:=bX;have a1:=aK aC bz aC.size;replace aP:=aD aP bz bl;replace bR:=aD bR bz bl;revert a;(repeat first|refine ag ?_|refine J (fR (agg _ rfl) (aw _ _ rfl) ((gm t).trans bW) (dy bR)) ?_);intro a I;refine eg (λn a wr=>∃k,k<=64/\n=64- k/\Fr 22 [(2,.pointer (some ⟨w.heap.size,0,none⟩)),(4,.pointer (some ⟨ax.heap.size,0,none⟩)),(7,.agg (dR t)),(8,.int .i64 (k:Nat))] a/\
   iB wr w.heap.size (bH.sY (· && ·) s t k)/\iB wr ax.heap.size bH.gg/\Below w.heap.size w wr) 64
   ⟨0,bj,rfl,I.bb,by rw [bH.aaJ _ _ aG];exact aP,bX,a1⟩ ?_
 clear I a aP bX a1 bR bz eE a6;rintro n a wr ⟨k,au,rfl,I,aP,bX,cH⟩;have bA:=cH.size;have xk:=bH.Hn (· && ·) s t k;by_cases bu:k<64
 · have As:k<t.length:=bj
   have CJ:k<s.length:=bj
   have sq:=DD As;have gZ:t.getD k false=t[k]:=by simp [List.getD,As]
   have c2:wr.cell? ⟨w.heap.size,0+k,none⟩=some (.bool (s.getD k false)):=by
    have:=dy aP k _ (DD bj);rw [bH.Hm _ _ _ _ _ bu,atK bj]at this;exact this
   have tJ:=bH.aaI (· && ·) s t k bu;rw [gZ]at tJ;cases hb:s.getD k false with
   |true=>
    rw [hb]at c2 tJ;revert a;(repeat first|refine ag ?_|refine J (B1 (aA _ _ rfl) (aA _ _ rfl) rfl (aw _ _ rfl) sq) ?_|refine J (dY (aA _ _ rfl) (aw _ _ rfl)) ?_|refine J (af c2) ?_);intro a I;refine cr I (aw _ _ rfl) aP (i:=0+k) (by rw [gm];omega) rfl rfl rfl λa bN bB br dw I=>?_;rw [GW]at bB;revert a;refine ad λa I=>?_;refine⟨64- (k+1),bj,k+1,bj,rfl,I.bb,?_,aD bX br bm,aK cH br bA⟩;rw [<-tJ];unfold iB;simpa using bB
   |false=>
    rw [hb]at c2 tJ;revert a;(repeat first|refine ag ?_|refine J (B1 (aA _ _ rfl) (aA _ _ rfl) rfl (aw _ _ rfl) sq) ?_|refine J (dY (aA _ _ rfl) (aw _ _ rfl)) ?_|refine J (af c2) ?_);intro a I;refine cr I (aw _ _ rfl) aP (i:=0+k) (by rw [gm];omega) rfl rfl rfl λa bN bB br dw I=>?_;rw [GW]at bB;revert a;refine ad λa I=>?_;refine⟨64- (k+1),bj,k+1,bj,rfl,I.bb,?_,aD bX br bm,aK cH br bA⟩;rw [<-tJ];exact bB
 · obtain rfl:k=64:=bj
   rw [bH.aaH]at aP;have xk:=bH.sX (· && ·) s t;revert a;(repeat first|refine ag ?_|refine J (fR (agg _ rfl) (aw _ _ rfl) ((gm _).trans xk) (dy aP)) ?_);intro a I;refine dX I (cs:=dR (bH.ja (· && ·) s t)) (aw _ _ rfl) ((gm _).trans xk) rfl bX (p2 _) (k:=λa bN bB br dw I=>?_);revert a;refine ad λa I=>?_;exact ff I rfl (agg _ rfl) (by rw [gm,xk];exact aw _ _ rfl) bB rfl ⟨rfl,aK cH br bA⟩
def po(n x y:Int):Value:=if n=0 then .nilIface else mg n x y
theorem lE(w:World)(n x y:Int):bd prog 75 [.int .i64 n,.agg #[.int .i64 x,.int .i64 y]].toArray w (λv w'=>v=po n x y/\Below w.heap.size w w'):=by
 refine dP func75 rfl 12 rfl 14 rfl (λa I=>?_);revert a;refine ad λa I=>?_;refine di I (cs:=#[.int .i64 x,.int .i64 y]) rfl (k:=λa aq aE aT b8 I=>?_);have aB:=aK (atL _ w) aT (atI _);have c0:aq.cell? ⟨w.heap.size,0+0,none⟩=some (.int .i64 x):=aF aE rfl;have bM:aq.cell? ⟨w.heap.size,0+1,none⟩=some (.int .i64 y):=aF aE rfl;unfold po;by_cases h:n=0
 · rw [atM h];revert a;refine ad λa I=>?_;exact bc I rfl rfl ⟨rfl,aB⟩
 · rw [atK h];revert a;(repeat first|refine ag ?_|refine J (cA (vs:=[(0,.int .i64 n),(1,.int .i64 x),(2,.int .i64 y)]) (cells:=#[.int .i64 n,.int .i64 x,.int .i64 y]) bh ⟨rfl,rfl,rfl,rfl,rfl,rfl,trivial⟩) ?_|refine J (af c0) ?_|refine J (af bM) ?_);intro a I;exact bc I rfl rfl ⟨rfl,aB⟩
def js(B:Nat)(s:b1)(w:World):Prop:=w.heap[B]? =some (.cells (b1.cells s).toArray 133 (0,0))
theorem js.below{B:Nat}{s:b1}(h:js B s w)(hb:Below w.heap.size w w'):js B s w':=(hb.block _ (bO h)).trans h
theorem js.pl{B:Nat}{s:b1}(h:js B s w):∀j v,(#[.int .i64 s.line,.int .i64 s.eh]:Array Value)[j]? =some v->w.cell? ⟨B,0+0+j,none⟩=some v:=by
 intro j v ah;rcases j with _|_|j
 · simp at ah;subst ah;exact aF h rfl
 · simp at ah;subst ah;exact aF h rfl
 · simp at ah
noncomputable def xw(aR:List hZ):Int × Option Nat:=KN (kO (pT aR) aR.length) (λ_=>17) (0,none)
theorem XL{i:Nat}(h:i<aR.length)(hb:pT aR i)(ba:∀j,j<i->¬pT aR j):xw aR=(17,some i):=by
 unfold xw;rw [tg h hb ba];rfl
theorem ak1(ba:∀j,j<aR.length->¬pT aR j):xw aR=(0,none):=by
 unfold xw;rw [lH ba];rfl
theorem ap0{x:Int}(h:0<=x/\x<18446744073709551616):(Lit.int .u64 x).wf=true:=by
 have bw:IntKind.u64.min=0:=bk
 have bf:IntKind.u64.max=18446744073709551615:=bk
 simp only [Lit.wf,bw,bf,atQ,atP];omega
theorem Hd{s t:List Bool}:(bH.ja (· || ·) s t).length=64:=bH.sX _ _ _
def jY(B:Nat)(m:cO)(w:World):Prop:=w.heap[B]? =some (.cells (cO.cells m).toArray 124 (0,0))
theorem jY.below{B:Nat}{m:cO}(h:jY B m w)(hb:Below w.heap.size w w'):jY B m w':=(hb.block _ (bO h)).trans h
theorem jY.c{B:Nat}{m:cO}(h:jY B m w)(o:Nat)(x:Value)(hx:(cO.cells m)[o]? =some x):w.cell? ⟨B,0+o,none⟩=some x:=aF h (by simpa using hx)
theorem js.c{B:Nat}{s:b1}(h:js B s w)(o:Nat)(x:Value)(hx:(b1.cells s)[o]? =some x):w.cell? ⟨B,0+o,none⟩=some x:=aF h (by simpa using hx)
theorem iB.below{B:Nat}{s:List Bool}(h:iB w B s)(hb:Below w.heap.size w w'):iB w' B s:=(hb.block _ (bO h)).trans h
theorem G3{wr:World}{m:cO}(eb:xY w m aR)(hb:Below w.heap.size w wr){k:Nat}(au:k<aR.length):
  ∃b o,m.cn=some ⟨b,o,none⟩/\∀q v,(b1.cells (cn aR k))[q]? =some v->wr.cell? ⟨b,o+k*19+q,none⟩=some v:=by
 obtain⟨b,o,eW,av⟩:=eb.rd k (by simpa using au);rw [abb au]at av;rw [G1 au];exact⟨b,o,eW,λq v aZ=>(hb.cell (p:=⟨b,o+k*19+q,none⟩) (aui w _ (av q v aZ))).trans (av q v aZ)⟩
theorem aba(w:World)(m:cO)(aR:List hZ)(eb:xY w m aR)(aH:∀p∈aR,rY p.1)(Ax:∀j,j<aR.length->jS aR m.size j=0):
  bd prog 198 [.agg (cO.cells m).toArray].toArray w (λv w'=>v=po (xw aR).1 (GD m aR (xw aR).2) (GC m aR (xw aR).2)/\Below w.heap.size w w'):=by
 have hlen:=eb.len;have qx:=eb.cap;have tt:=eb.bytes;refine cF func198 rfl 64 rfl 65 rfl (λa I=>?_);revert a;refine ad λa I=>?_;refine di I (cs:=(cO.cells m).toArray) rfl (k:=λa aq aE aT b8 I=>?_);revert a;refine ad λa I=>?_;refine b6 I tN λa ax aP aS cZ I=>?_;refine b6 I tN λa a6 bR bz eE I=>?_;revert a;refine ad λa I=>?_;refine st I (qm axu) rfl (λa I=>?_);have q':ng prog 34 (a6.alloc (.map #[] 0)) a6.heap.size []:=ng.new a6;have bD:a6.grownBy (a6.alloc (.map #[] 0)) none:=auw a6 _ none;generalize a6.alloc (.map #[] 0)=bZ at*;have b7:=aK (aK (aK (atL _ w) aT (atI _)) aS bj) bz bj|>.grown bD bj (λk au=>by cases au)
 have nA:jY w.heap.size m bZ:=aD (aD (aD aE aS bl) bz bl) bD bl;have UC:iB bZ aq.heap.size bH.gg:=aD (aD aP bz bl) bD bl;have nB:iB bZ ax.heap.size bH.gg:=aD bR bD bl;revert a;(repeat first|refine ag ?_|refine J (af (nA.c 7 _ rfl)) ?_);intro a I;refine eg (λq a wr=>∃k hf c6 hS,k<=m.dO/\q=m.dO - k/\rR aR k hf c6 hS/\Fr 65 [(1,.pointer (some ⟨w.heap.size,0,none⟩)),(3,.pointer (some ⟨aq.heap.size,0,none⟩)),(4,.pointer (some ⟨ax.heap.size,0,none⟩)),(5,.map (some a6.heap.size)),(13,.slice m.cn m.dO m.vI),(14,.int .i64 m.dO),(15,.int .i64 (k:Nat))] a/\
  jY w.heap.size m wr/\iB wr aq.heap.size hf/\iB wr ax.heap.size c6/\ng prog 34 wr a6.heap.size hS/\Below w.heap.size w wr) m.dO
  ⟨0,_,_,_,auc _,rfl,rR.zero aR,I.bb,nA,UC,nB,q',b7⟩ ?_
 clear I a nA UC nB q' b7 bD aE aP bR aT aS bz;rintro q a wr ⟨k,hf,c6,hS,au,rfl,dG,I,hm,ha,ba,bs,cH⟩;have bA:=cH.size;by_cases bu:k<m.dO
 case neg=>
  obtain rfl:k=m.dO:=bj
  revert a;refine ad λa I=>?_;refine bc I rfl rfl ⟨?_,cH⟩;rw [ak1 (λj ah=>dG.no j bj)];rfl
 have hP:k<aR.length:=bj
 obtain⟨b,o,eW,av⟩:=G3 eb cH hP;have aJ:=Ax k hP;have eV:=Em aJ;have aiu:=ap4 eV;have kR:rY (cn aR k):=by rw [G1 hP];exact aH _ (at6 hP)
 have arN:=bO ha;have kT:=bO ba;have FH:=bs.lt;rw [eW]at I;generalize aG:cn aR k=s at*;revert a;(repeat first|refine ag ?_|refine J (dq (j:=k)) ?_|refine J (bJ (x6 av)) ?_);intro a I;refine b6 I kv λa hp aE aT b8 I=>?_;refine cE I (cs:=(b1.cells s).toArray) aE (kB _) λa fe eB aS cZ I=>?_;have aC:=aK (aK (atL _ wr) aT (atI _)) aS bj;have eB:js wr.heap.size s fe:=eB;clear aE aT aS;revert a;(repeat first|refine ag ?_|refine J (bJ (dy eB)) ?_|refine J (af ((hm.below aC).c 5 _ rfl)) ?_);intro a I;refine aQ I (aap fe (b1.cells s).toArray s.start s.size m.size s.bV ⟨rfl,rfl,rfl,rfl⟩ (kB s)) λa v iM ab I=>?_;obtain⟨⟨mW,pN,rfl,AE⟩,a1⟩:=ab;obtain⟨aqu,UQ,agx⟩:=AE aiu;have agb:=aoa UQ agx;have a1:=aC.trans (a1.mono aC.size);have fS:=eB.below (by assumption);revert a;refine ad λa I=>?_;refine b6 I tN λa ib bX bD eY I=>?_;refine dX I (cs:=dR mW) (aw _ _ rfl) (by rw [gm,pN]) rfl bX (p2 _) (k:=λa lY CW br dw I=>?_);have lg:=a1.size;have cx:=aK (aK a1 bD lg) br bj;have Au:=bO fS;have xc:js wr.heap.size s lY:=aD (aD fS bD bl) br bm;have CW:iB lY iM.heap.size mW:=CW;clear bX bD br a1 aC eB fS;revert a;(repeat first|refine ag ?_|refine J (fR (agg _ rfl) (aw _ _ rfl) (by rw [gm,dG.iv]) (dy (ha.below cx))) ?_|refine J (fR (agg _ rfl) (aw _ _ rfl) (by rw [gm,dG.fb]) (dy (ba.below cx))) ?_);intro a I;refine aQ I (He lY hf c6 dG.iv dG.fb) λa v Du ab I=>?_;obtain⟨rfl,bP⟩:=ab;have AB:=xc.below bP;have CX:=CW.below bP;replace bP:=cx.trans (bP.mono cx.size);have O6:=bP.size;have ahl:=bO CX;revert a;refine ad λa I=>?_;refine b6 I tN λa y8 c8 cf fZ I=>?_;refine dX I (cs:=dR (bH.ja (· || ·) hf c6)) (aw _ _ rfl) (by rw [gm,Hd]) rfl c8 (p2 _) (k:=λa nQ CZ bE hl I=>?_);have c':=aK (aK bP cf O6) bE bj;have ar5:=bO AB;have kV:js wr.heap.size s nQ:=aD (aD AB cf bl) bE bm;have AI:iB nQ iM.heap.size mW:=aD (aD CX cf bl) bE bm;have CZ:iB nQ Du.heap.size (bH.ja (· || ·) hf c6):=CZ;clear c8 cf bE bP AB CX xc CW cx;have Cl:Ei (cn aR k) mW:=by rw [aG];exact agb
 have Nl:=ap0 kR.j1;have ahc:hS.length<maxLen:=by have:=dG.kl;unfold maxLen;omega
 by_cases aj:s.role=2
 ·
  revert a;(repeat first|refine ag ?_|refine J (fR (agg _ rfl) (aw _ _ rfl) (by rw [gm,dG.iv]) (dy (ha.below c'))) ?_|refine J (h1 ((bs.below c').look axu auM (zeroValue356 nQ) s.branch Nl)) ?_|refine J (af (kV.c 3 _ rfl)) ?_|refine J (af (kV.c 4 _ rfl)) ?_);intro a I;refine aQ I (He nQ hf (pR s.branch hS) dG.iv (dG.xu _)) λa v Dv ab I=>?_;obtain⟨rfl,dT⟩:=ab;have OD:=kV.below dT;have Jv:=AI.below dT;have Wf:=CZ.below dT;replace dT:=c'.trans (dT.mono c'.size);refine dX I (cs:=dR (bH.ja (· || ·) hf (pR s.branch hS))) (aw _ _ rfl) (by rw [gm,Hd]) (by rw [gm,Hd]) Wf (p2 _) (k:=λa xF AJ gq tK I=>?_);have ar6:=bO OD;have gN:=aK dT gq dT.size;have F3:js wr.heap.size s xF:=aD OD gq bm;have AH:iB xF iM.heap.size mW:=aD Jv gq bm;have EI:p9 aR k hf c6 hS=bH.ja (· || ·) hf (pR s.branch hS):=by unfold p9;rw [aG,atM aj]
  have AJ:iB xF Du.heap.size (p9 aR k hf c6 hS):=by rw [EI];exact AJ
  clear kV AI CZ c' OD Jv Wf dT gq EI;revert a;(repeat first|refine ag ?_|refine J (fR (agg _ rfl) (aw _ _ rfl) (by rw [gm,pN]) (dy AH)) ?_|refine J (fR (agg _ rfl) (aw _ _ rfl) (by rw [gm,K5]) (dy AJ)) ?_);intro a I;refine aQ I (XN xF mW (p9 aR k hf c6 hS) pN K5) λa v xG ab I=>?_;obtain⟨rfl,gO⟩:=ab;have xb:=F3.below gO;have CV:=AH.below gO;replace gO:=gN.trans (gO.mono gN.size);clear F3 AH AJ gN;by_cases sy:bH.ja (· && ·) mW (p9 aR k hf c6 hS)=bH.gg
  case neg=>
   revert a;(repeat first|refine ag ?_|refine J (cA (vs:=[]) (cells:=dR bH.gg) bh trivial) ?_|refine J (qn (b:=true) (Ic (bH.sX _ _ _) wB) (by rw [auk sy];rfl)) ?_|refine J (bJ xb.pl) ?_);intro a I;refine aQ I (lE xG 17 s.line s.eh) λa v Km ab I=>?_;obtain⟨rfl,qs⟩:=ab;have N9:=auV λh=>sy ((dG.meet Cl).2 h);revert a;refine ad λa I=>?_;refine bc I rfl rfl ⟨?_,cH.trans ((gO.trans (qs.mono gO.size)).mono bA)⟩;rw [XL hP N9 dG.no];show po 17 s.line s.eh=po 17 (cn aR k).line (cn aR k).eh;rw [aG]
  have CN:=(dG.meet Cl).1 sy;revert a;(repeat first|refine ag ?_|refine J (cA (vs:=[]) (cells:=dR bH.gg) bh trivial) ?_|refine J (qn (b:=false) (Ic (bH.sX _ _ _) wB) (by rw [aur sy];rfl)) ?_);intro a I;have OB:=xb;have ON:=CV;revert a;(repeat first|(intro a I;(refine gJ (λak=>js wr.heap.size s ak/\iB ak iM.heap.size mW) [(0,true),(1,true),(2,true),(3,true),(4,true),(5,true),(7,true),(6,false),(8,false),(9,false)] 13 mixed bh ⟨xb,CV⟩ ?_;simp only [fF,atZ,atS,atO,at1,aug]);revert a)|refine ag ?_|refine J (af (xb.c 3 _ rfl)) ?_);intro a I;have lb:Below xG.heap.size xG (xG.drewN 1):=eU (atL _ xG) 1;generalize xG.drewN 1=Km at*;replace OB:=xb.below lb;replace ON:=CV.below lb;have qs:=gO.trans (lb.mono gO.size);clear lb xb CV gO;revert a;(repeat first|refine e3 ?_|refine cB (λak ar=>fR (agg _ rfl) (aw _ _ rfl) (by rw [gm,pN]) (dy ar.2)) ?_|refine cB (λak ar=>af (ar.1.c 4 _ rfl)) ?_);intro a I;refine c7 ?_;refine st I (h1 ((bs.below qs).look axu auM (zeroValue356 Km) s.branch Nl)) rfl (λa I=>?_);refine atJ ⟨rfl,⟨OB,ON⟩,c7 ?_⟩;refine aQ I (He Km (pR s.branch hS) mW (dG.xu _) pN) λa v as7 ab I=>?_;obtain⟨rfl,k9⟩:=ab;have OC:=OB.below k9;have OO:=ON.below k9;replace k9:=qs.trans (k9.mono qs.size);have JC:=k9.size;have ar1:=bO OC;have ar2:=bO OO;refine atJ ⟨rfl,⟨OC,OO⟩,c7 ?_⟩;obtain⟨Dt,ah4,afX,CB,asy⟩:=(bs.below k9).put axu auM s.branch Nl (bH.ja (· || ·) (pR s.branch hS) mW) ahc;refine gv I (r6 ah4) rfl (λa I=>?_);have aia:js wr.heap.size s Dt:=aD OC CB bm;have Wa:iB Dt iM.heap.size mW:=aD OO CB bm;have agi:iB Dt aq.heap.size hf:=aD (ha.below k9) CB bm;have Vw:iB Dt ax.heap.size c6:=aD (ba.below k9) CB bm;have Vr:=bO hm;have ahn:jY w.heap.size m Dt:=aD (hm.below k9) CB bm;have UM:=aK (cH.trans (k9.mono bA)) CB bj;refine atJ ⟨rfl,⟨aia,Wa⟩,fj ?_⟩;revert a;(repeat first|refine ag ?_|refine J (fR (agg _ rfl) (aw _ _ rfl) (by rw [gm,dG.fb]) (dy Vw)) ?_|refine J (fR (agg _ rfl) (aw _ _ rfl) (by rw [gm,pN]) (dy Wa)) ?_);intro a I;refine aQ I (He Dt c6 mW dG.fb pN) λa v amu ab I=>?_;obtain⟨rfl,pB⟩:=ab;have ahu:=Vw.below pB;have agj:=agi.below pB;have aho:=ahn.below pB;have afY:=afX.below pB;have aiE:=pB.size;have Nj:=UM.trans (pB.mono UM.size);refine dX I (cs:=dR (bH.ja (· || ·) c6 mW)) (aw _ _ rfl) (by rw [gm,Hd]) (by rw [gm,dG.fb]) ahu (p2 _) (k:=λa r16 qC rl OM I=>?_);revert a;refine ad λa I=>?_;have T3:=dG.branch Cl (by rw [aG];exact aj) CN;rw [aG]at T3;exact⟨m.dO - (k+1),bj,k+1,hf,_,_,bj,rfl,T3,eW.symm▸I.bb,aD aho rl bm,aD agj rl bm,qC,afY.kept rl bm,aK Nj rl bj⟩
 ·
  revert a;(repeat first|refine ag ?_|refine J (af (kV.c 3 _ rfl)) ?_);intro a I;have EI:p9 aR k hf c6 hS=bH.ja (· || ·) hf c6:=by unfold p9;rw [aG,atK aj]
  have AJ:iB nQ Du.heap.size (p9 aR k hf c6 hS):=by rw [EI];exact CZ
  have F3:=kV;have AH:=AI;have gN:=c';clear kV AI c' CZ EI;revert a;(repeat first|refine ag ?_|refine J (fR (agg _ rfl) (aw _ _ rfl) (by rw [gm,pN]) (dy AH)) ?_|refine J (fR (agg _ rfl) (aw _ _ rfl) (by rw [gm,K5]) (dy AJ)) ?_);intro a I;refine aQ I (XN nQ mW (p9 aR k hf c6 hS) pN K5) λa v xG ab I=>?_;obtain⟨rfl,gO⟩:=ab;have xb:=F3.below gO;have CV:=AH.below gO;replace gO:=gN.trans (gO.mono gN.size);clear F3 AH AJ gN;by_cases sy:bH.ja (· && ·) mW (p9 aR k hf c6 hS)=bH.gg
  case neg=>
   revert a;(repeat first|refine ag ?_|refine J (cA (vs:=[]) (cells:=dR bH.gg) bh trivial) ?_|refine J (qn (b:=true) (Ic (bH.sX _ _ _) wB) (by rw [auk sy];rfl)) ?_|refine J (bJ xb.pl) ?_);intro a I;refine aQ I (lE xG 17 s.line s.eh) λa v Km ab I=>?_;obtain⟨rfl,qs⟩:=ab;have N9:=auV λh=>sy ((dG.meet Cl).2 h);revert a;refine ad λa I=>?_;refine bc I rfl rfl ⟨?_,cH.trans ((gO.trans (qs.mono gO.size)).mono bA)⟩;rw [XL hP N9 dG.no];show po 17 s.line s.eh=po 17 (cn aR k).line (cn aR k).eh;rw [aG]
  have CN:=(dG.meet Cl).1 sy;revert a;(repeat first|refine ag ?_|refine J (cA (vs:=[]) (cells:=dR bH.gg) bh trivial) ?_|refine J (qn (b:=false) (Ic (bH.sX _ _ _) wB) (by rw [aur sy];rfl)) ?_);intro a I;revert a;(repeat first|refine ag ?_|refine J (fR (agg _ rfl) (aw _ _ rfl) (by rw [gm,dG.iv]) (dy (ha.below gO))) ?_|refine J (fR (agg _ rfl) (aw _ _ rfl) (by rw [gm,pN]) (dy CV)) ?_|refine J (af (xb.c 3 _ rfl)) ?_);intro a I;refine aQ I (He xG hf mW dG.iv pN) λa v amu ab I=>?_;obtain⟨rfl,pB⟩:=ab;replace pB:=gO.trans (pB.mono gO.size);have aiE:=pB.size;have Vr:=bO hm;have Nj:=cH.trans (pB.mono bA);refine dX I (cs:=dR (bH.ja (· || ·) hf mW)) (aw _ _ rfl) (by rw [gm,Hd]) (by rw [gm,dG.iv]) (ha.below pB) (p2 _) (k:=λa r16 re rl OM I=>?_);revert a;refine ad λa I=>?_;exact⟨m.dO - (k+1),bj,k+1,_,c6,hS,bj,rfl,dG.always Cl (by rw [aG];exact aj) CN,eW.symm▸I.bb,aD (hm.below pB) rl bm,re,aD (ba.below pB) rl bm,(bs.below pB).kept rl bm,aK Nj rl bj⟩
def qZ(aR:List hZ)(k:Nat)(iW:Int):Prop:=(iW= -1/\∀j,j<k->(cn aR j).role≠1)\/∃i:Nat,iW=(i:Int)/\i<k/\(cn aR i).role=1/\∀j,j<i->(cn aR j).role≠1
theorem qZ.neg{k:Nat}(h:qZ aR k iW)(hm:iW<0):∀j,j<k->(cn aR j).role≠1:=by
 rcases h with ⟨_,h⟩|⟨i,rfl,_⟩
 · exact h
 · omega
theorem qZ.pos{k:Nat}(h:qZ aR k iW)(hm:0<=iW):∃i:Nat,iW=(i:Int)/\i<k/\(cn aR i).role=1/\∀j,j<i->(cn aR j).role≠1:=by
 rcases h with ⟨rfl,_⟩|h
 · omega
 · exact h
theorem qZ.other{k:Nat}(h:qZ aR k iW)(aj:(cn aR k).role≠1):qZ aR (k+1) iW:=by
 rcases h with ⟨rfl,h⟩|⟨i,rfl,U,ae,aM⟩
 · refine .inl ⟨rfl,λj ah=>?_⟩;by_cases e:j=k
   · subst e;exact aj
   · exact h j bj
 · exact .inr ⟨i,rfl,bj,ae,aM⟩
theorem qZ.new{k:Nat}(h:qZ aR k iW)(hm:iW<0)(aj:(cn aR k).role=1):qZ aR (k+1) (k:Int):=.inr ⟨k,rfl,bj,aj,h.neg hm⟩
theorem qZ.zG{k:Nat}(h:qZ aR k iW): -1<=iW/\iW<k:=by
 rcases h with ⟨rfl,h⟩|⟨i,rfl,U,ae,aM⟩<;>omega
def vw(aR:List hZ):Nat->List ByteArray
 | 0=>[]
 |k+1=>(cn aR k).name::vw aR k
theorem X3(aR:List hZ):∀k,(vw aR k).length=k
 | 0=>rfl
 |k+1=>by simp [vw,X3 aR k]
theorem X2(aR:List hZ)(s:ByteArray):∀k,((vw aR k).any λx=>decide (s=x))=true↔∃j,j<k/\(cn aR j).name=s
 | 0=>by simp [vw]
 |k+1=>by
  unfold vw;rw [List.any_cons,au9,X2 aR s k,zR,atQ];exact⟨λh=>h.elim (λe=>.inr e.symm) .inl,λh=>h.elim .inr (λe=>.inl e.symm)⟩
theorem jY.pl{B:Nat}{m:cO}(h:jY B m w):∀j v,(#[.int .i64 m.line,.int .i64 m.eh]:Array Value)[j]? =some v->w.cell? ⟨B,0+0+j,none⟩=some v:=by
 intro j v ah;rcases j with _|_|j
 · simp at ah;subst ah;exact aF h rfl
 · simp at ah;subst ah;exact aF h rfl
 · simp at ah
theorem Po{r ak:World}{p:Addr}{v:Value}(h:r.cell? p=some v)(hb:Below r.heap.size r ak):ak.cell? p=some v:=(hb.cell (aui r _ h)).trans h
theorem Z6{m:cO}(eb:xY w m aR){k:Nat}(au:k<aR.length):BH w (cn aR k) (tx aR k):=by
 rw [G1 au,apl au];exact eb.each _ (at6 au)
theorem Sp(w:World)(m:cO)(aR:List hZ)(eb:xY w m aR)(aH:∀p∈aR,rY p.1)(cT:ni w):
   bd prog 140 [.agg (cO.cells m).toArray].toArray w (λv w'=>v=po (jh m aR).1 (GD m aR (jh m aR).2) (GC m aR (jh m aR).2)/\Below w.heap.size w w'):=by
 have hlen:=eb.len;have qx:=eb.cap;have tt:=eb.bytes;refine cF func140 rfl 99 rfl 100 rfl (λa I=>?_);revert a;refine ad λa I=>?_;refine di I (cs:=(cO.cells m).toArray) rfl (k:=λa aq aE aT b8 I=>?_);have aB:=aK (atL _ w) aT (atI _);have oq:jY w.heap.size m aq:=aE;revert a;(repeat first|refine ag ?_|refine J (bJ (dy aE)) ?_);intro a I;refine aQ I (agM aq m) λa v ax ab I=>?_;obtain⟨rfl,aC⟩:=ab;have iF:=oq.below aC;replace aC:=aB.trans (aC.mono aB.size);clear aE aT oq aB;obtain⟨he,NP⟩:∃x,x=mo m:=⟨_,rfl⟩;rw [<-NP]at I;by_cases aJ:he=0
 case neg=>
   revert a;(repeat first|refine ag ?_|refine J (bJ iF.pl) ?_);intro a I;refine aQ I (lE ax he m.line m.eh) λa v a6 ab I=>?_;obtain⟨rfl,a1⟩:=ab;revert a;refine ad λa I=>?_;refine bc I rfl rfl ⟨?_,aC.trans (a1.mono aC.size)⟩;rw [XP (NP▸aJ),NP];rfl
 have NO:mo m=0:=bj
 revert a;refine ad λa I=>?_;refine st I (qm auT) rfl (λa I=>?_);have uT:nf prog 9 4 (ax.alloc (.map #[] 0)) ax.heap.size []:=nf.new ax;have bz:ax.grownBy (ax.alloc (.map #[] 0)) none:=auw ax _ none;generalize ax.alloc (.map #[] 0)=a6 at*;have a1:=aK aC bz aC.size;have sx:jY w.heap.size m a6:=aD iF bz bl;have fE:=aC.size;have rm:=bO iF;clear bz iF;revert a;(repeat first|refine ag ?_|refine J (af (sx.c 7 _ rfl)) ?_);intro a I;refine eg (λq a wr=>∃k iW,k<=m.dO/\q=m.dO - k/\(∀j,j<k->jS aR m.size j=0)/\qZ aR k iW/\Fr 100 [(1,.pointer (some ⟨w.heap.size,0,none⟩)),(4,.int .i64 iW),(5,.map (some ax.heap.size)),(21,.slice m.cn m.dO m.vI),(22,.int .i64 m.dO),(23,.int .i64 (k:Nat))] a/\
   jY w.heap.size m wr/\nf prog 9 4 wr ax.heap.size (vw aR k)/\Below w.heap.size w wr) m.dO
   ⟨0,-1,auc _,rfl,λj ah=>absurd ah (auv _),.inl ⟨rfl,λj ah=>absurd ah (auv _)⟩,I.bb,sx,uT,a1⟩ ?_
 clear I a sx uT a1 aC;rintro q a wr ⟨k,iW,au,rfl,Ax,yB,I,hm,bs,cH⟩;have bA:=cH.size;have asb:=yB.zG;by_cases bu:k<m.dO
 case pos=>
   have hP:k<aR.length:=bj
   obtain⟨b,o,eW,av⟩:=G3 eb cH hP;have kR:rY (cn aR k):=by rw [G1 hP];exact aH _ (at6 hP)
   have OS:=Z6 eb hP;have FH:=bs.lt;rw [eW]at I;have Oh:∀e,jS aR m.size k=e->e≠0->jh m aR=(e,some k):=λe he U=>by
     rw [XQ NO hP (by rw [he];exact U) Ax,he]
   have FN:=X2 aR (cn aR k).name k;have gC:jS aR m.size k=jS aR m.size k:=rfl
   conv at gC=>rhs;unfold jS
   obtain⟨s,aG⟩:∃x,x=cn aR k:=⟨_,rfl⟩;obtain⟨ss,aid⟩:∃x,x=tx aR k:=⟨_,rfl⟩;have iU:GD m aR (some k)=s.line/\GC m aR (some k)=s.eh:=by rw [aG];exact⟨rfl,rfl⟩
   rw [<-aG]at av kR OS FN gC;rw [<-aid]at OS gC;revert a;(repeat first|refine ag ?_|refine J (dq (j:=k)) ?_|refine J (bJ (x6 av)) ?_);intro a I;refine b6 I kv λa hp aE aT b8 I=>?_;revert a;refine ad λa I=>?_;refine cE I (cs:=(b1.cells s).toArray) aE (kB _) λa fe eB aS cZ I=>?_;have aC:=aK (aK (atL _ wr) aT (atI _)) aS bj;have eB:js wr.heap.size s fe:=eB;clear aE aT aS;revert a;(repeat first|refine ag ?_|refine J (bJ (dy eB)) ?_|refine J (af ((hm.below aC).c 5 _ rfl)) ?_);intro a I;have ey:=cH.trans (aC.mono bA);have OT:=OS.below ey;refine aQ I (aa7 fe s ss m.size OT.len OT.rd kR (cT.below ey)) λa v iM ab I=>?_;obtain⟨rfl,a1⟩:=ab;have fS:=eB.below a1;replace a1:=aC.trans (a1.mono aC.size);have eV:n1 s ss m.size=0->gd s.name=true:=PH;clear eB aC OT ey;obtain⟨HB,agl⟩:∃x,x=n1 s ss m.size:=⟨_,rfl⟩;rw [<-agl]at I gC eV;by_cases IV:HB=0
   case neg=>
     rw [atM IV]at gC;revert a;(repeat first|refine ag ?_|refine J (bJ fS.pl) ?_);intro a I;refine aQ I (lE iM HB s.line s.eh) λa v ib ab I=>?_;obtain⟨rfl,b7⟩:=ab;revert a;refine ad λa I=>?_;refine bc I rfl rfl ⟨?_,cH.trans ((a1.trans (b7.mono a1.size)).mono bA)⟩;rw [Oh HB gC IV,iU.1,iU.2]
   rw [atK (λh=>h IV)]at gC;have V2:=zt (eV IV);have aN:=(bs.below a1).look auT auh aut (auz iM) s.name bn;cases uW:(vw aR k).any (λx=>decide (s.name=x))with
   |true=>
     rw [uW]at aN FN;rw [atM (FN.1 rfl)]at gC;revert a;(repeat first|refine ag ?_|refine J (h1 aN) ?_|refine J (bJ fS.pl) ?_|refine J (af (fS.c 2 _ rfl)) ?_);intro a I;refine aQ I (lE iM 12 s.line s.eh) λa v ib ab I=>?_;obtain⟨rfl,b7⟩:=ab;revert a;refine ad λa I=>?_;refine bc I rfl rfl ⟨?_,cH.trans ((a1.trans (b7.mono a1.size)).mono bA)⟩;rw [Oh 12 gC bk,iU.1,iU.2]
   |false=>
   rw [uW]at aN FN;rw [atK (λh=>Bool.noConfusion (FN.2 h))]at gC;obtain⟨lY,vg,uU,br,dw⟩:=(bs.below a1).put auT auh aut s.name bn (by rw [X3];unfold maxLen;omega);have arV:=bO fS;have Vr:=bO hm;have xc:js wr.heap.size s lY:=aD fS br bm;have Vt:jY w.heap.size m lY:=aD (hm.below a1) br bm;have UO:=aK (cH.trans (a1.mono bA)) br (by have:=a1.size;omega);have Ud:nf prog 9 4 lY ax.heap.size (vw aR (k+1)):=by
     unfold vw;rw [<-aG];exact uU
   clear br uU;by_cases pM:s.role=1
   · by_cases aht:iW>=0
     · obtain⟨i,rfl,U,ae,aM⟩:=yB.pos aht;rw [atM ⟨pM,i,U,ae⟩]at gC;revert a;(repeat first|refine ag ?_|refine J (h1 aN) ?_|refine J (bJ fS.pl) ?_|refine J (af (fS.c 2 _ rfl)) ?_|refine J (af (fS.c 3 _ rfl)) ?_);intro a I;refine aQ I (lE iM 14 s.line s.eh) λa v ib ab I=>?_;obtain⟨rfl,b7⟩:=ab;revert a;refine ad λa I=>?_;refine bc I rfl rfl ⟨?_,cH.trans ((a1.trans (b7.mono a1.size)).mono bA)⟩;rw [Oh 14 gC bk,iU.1,iU.2]
     · have Vz:=yB.neg bj;rw [atK (λ⟨_,j,ah,e⟩=>Vz j ah e)]at gC;revert a;(repeat first|refine ag ?_|refine J (h1 aN) ?_|refine J (af (fS.c 2 _ rfl)) ?_|refine J (af (fS.c 3 _ rfl)) ?_);intro a I;refine gv I (r6 vg) rfl (λa I=>?_);revert a;(repeat first|refine ag ?_|refine J (af (xc.c 3 _ rfl)) ?_);intro a I;exact⟨m.dO - (k+1),bj,k+1,(k:Int),bj,rfl,λj ah=>by
         by_cases e:j=k
         · subst e;exact gC
         · exact Ax j bj,yB.new bj (aG▸pM),eW.symm▸I.bb,Vt,Ud,UO⟩
   · rw [atK (λh=>pM h.1)]at gC;revert a;(repeat first|refine ag ?_|refine J (h1 aN) ?_|refine J (af (fS.c 2 _ rfl)) ?_|refine J (af (fS.c 3 _ rfl)) ?_);intro a I;refine gv I (r6 vg) rfl (λa I=>?_);revert a;(repeat first|refine ag ?_|refine J (af (xc.c 3 _ rfl)) ?_);intro a I;exact⟨m.dO - (k+1),bj,k+1,iW,bj,rfl,λj ah=>by
       by_cases e:j=k
       · subst e;exact gC
       · exact Ax j bj,yB.other (aG▸pM),eW.symm▸I.bb,Vt,Ud,UO⟩
 obtain rfl:k=m.dO:=bj
 clear bs;have Oj:∀j,j<aR.length->jS aR m.size j=0:=λj ah=>Ax j bj;have agS:(iW= -1/\kO (JI aR) aR.length=none)\/∃i:Nat,iW=(i:Int)/\i<aR.length/\kO (JI aR) aR.length=some i:=by
   rcases yB with ⟨rfl,h⟩|⟨i,rfl,U,ae,aM⟩
   · exact .inl ⟨rfl,lH λj ah=>h j bj⟩
   · exact .inr ⟨i,rfl,bj,tg bj ae aM⟩
 revert a;(repeat first|refine ag ?_|refine J (af (hm.c 7 _ rfl)) ?_);intro a I;refine eg (λq a wr=>∃k,k<=m.dO/\q=m.dO - k/\(∀j,j<k->¬rN aR j)/\Fr 100 [(1,.pointer (some ⟨w.heap.size,0,none⟩)),(4,.int .i64 iW),(63,.slice m.cn m.dO m.vI),(64,.int .i64 m.dO),(65,.int .i64 (k:Nat))] a/\
   jY w.heap.size m wr/\Below w.heap.size w wr) m.dO
   ⟨0,auc _,rfl,λj ah=>absurd ah (auv _),I.bb,hm,cH⟩ ?_
 clear I a hm cH bA wr bu au Ax;rintro q a wr ⟨k,au,rfl,OR,I,hm,cH⟩;have bA:=cH.size;by_cases bu:k<m.dO
 case neg=>
   obtain rfl:k=m.dO:=bj
   have aij:∀j,j<aR.length->¬rN aR j:=λj ah=>OR j bj;revert a;(repeat first|refine ag ?_|refine J (bJ (dy hm)) ?_);intro a I;refine aQ I (aba wr m aR (zA.below eb cH) aH Oj) λa v hp ab I=>?_;obtain⟨rfl,aB⟩:=ab;revert a;refine ad λa I=>?_;refine bc I rfl rfl ⟨?_,cH.trans (aB.mono bA)⟩;have e:jh m aR=xw aR:=by
     unfold jh xw;rw [atK (λh=>h NO),lH (λj ah e=>e (Oj j ah)),lH aij];rfl
   rw [e]
 have hP:k<aR.length:=bj
 obtain⟨b,o,eW,av⟩:=G3 eb cH hP;have kR:rY (cn aR k):=by rw [G1 hP];exact aH _ (at6 hP)
 rw [eW]at I;have hA:=λh=>XR NO Oj hP h OR;have u5:¬rN aR k->∀j,j<k+1->¬rN aR j:=λh j ah=>by
   by_cases e:j=k
   · subst e;exact h
   · exact OR j bj
 have Gc:rN aR k↔((cn aR k).role=2/\∀i,kO (JI aR) aR.length=some i->uJ (cn aR k).branch (cn aR i).size (cn aR i).fw=false):=azI;obtain⟨s,aG⟩:∃x,x=cn aR k:=⟨_,rfl⟩;have iU:GD m aR (some k)=s.line/\GC m aR (some k)=s.eh:=by rw [aG];exact⟨rfl,rfl⟩
 rw [<-aG]at av kR Gc;revert a;(repeat first|refine ag ?_|refine J (dq (j:=k)) ?_|refine J (bJ (x6 av)) ?_);intro a I;refine b6 I kv λa hp aE aT b8 I=>?_;refine cE I (cs:=(b1.cells s).toArray) aE (kB _) λa fe eB aS cZ I=>?_;have aC:=aK (aK (atL _ wr) aT (atI _)) aS bj;have eB:js wr.heap.size s fe:=eB;have iF:=hm.below aC;have ey:=cH.trans (aC.mono bA);clear aE aT aS hm aC;revert a;(repeat first|(intro a I;(refine gJ (λak=>Below fe.heap.size fe ak) [(0,true),(1,true),(2,true),(3,true),(4,true),(5,true),(6,true),(7,true),(8,true),(9,true),(10,true),(11,true),(12,true),(13,true),(14,true),(15,true),(16,true),(17,true),(18,true),(19,true),(20,true),(21,false),(22,true),(23,true),(24,true)] 24 mixed bh (eU (atL _ fe) 1) ?_;simp only [fF,atZ,atS,atO,at1,aug]);revert a)|refine ag ?_);intro a I;have lb:Below fe.heap.size fe (fe.drewN 1):=eU (atL _ fe) 1;generalize fe.drewN 1=iM at*;have gh:=ey.trans (lb.mono ey.size);have fS:=eB.below lb;have sx:=iF.below lb;by_cases gX:s.role=2
 case neg=>
   revert a;(repeat first|refine e3 ?_|refine cB (λak ar=>af ((eB.below ar).c 3 _ rfl)) ?_);intro a I;refine c7 (DT I rfl rfl rfl (k:=λa I=>atJ ⟨rfl,lb,?_⟩));revert a;refine hH λa I=>?_;refine fj ?_;revert a;refine ad λa I=>?_;exact⟨m.dO - (k+1),bj,k+1,bj,rfl,u5 (λh=>gX (Gc.1 h).1),eW.symm▸I.bb,sx,gh⟩
 rcases agS with ⟨rfl,sn⟩|⟨i,rfl,gW,dz⟩
 · revert a;(repeat first|refine e3 ?_|refine cB (λak ar=>af ((eB.below ar).c 3 _ rfl)) ?_);intro a I;refine c7 (rL I rfl rfl rfl rfl (k:=λa I=>atJ ⟨rfl,lb,?_⟩));revert a;refine hH λa I=>?_;refine fj ?_;revert a;(repeat first|refine ag ?_|refine J (bJ fS.pl) ?_);intro a I;refine aQ I (lE iM 14 s.line s.eh) λa v ib ab I=>?_;obtain⟨rfl,b7⟩:=ab;revert a;refine ad λa I=>?_;refine bc I rfl rfl ⟨?_,gh.trans (b7.mono gh.size)⟩;rw [hA (Gc.2 ⟨gX,λi ai=>by rw [sn]at ai;cases ai⟩),iU.1,iU.2]
 · obtain⟨b',my,agm,wU⟩:=G3 eb ey gW;have e:=eW.symm.trans agm;cases e
   have aqf:=wU 6 _ rfl;have aqg:=wU 8 _ rfl;have l9:=iF.c 7 _ rfl;rw [eW]at l9;revert a;(repeat first|refine e3 ?_|refine cB (λak ar=>dq (j:=i)) ?_|refine cB (λak ar=>af ((eB.below ar).c 3 _ rfl)) ?_|refine cB (λak ar=>af ((eB.below ar).c 4 _ rfl)) ?_|refine cB (λak ar=>af (Po l9 ar)) ?_|refine cB (λak ar=>af (Po aqf ar)) ?_|refine cB (λak ar=>af (Po aqg ar)) ?_);intro a I;refine c7 ?_;refine ig I (LM iM s.branch (cn aR i).size (cn aR i).fw kR.j1) LB ⟨rfl,rfl,rfl,trivial⟩ (k:=λa v ib ab I=>atJ ?_);obtain⟨rfl,rfl⟩:=ab;refine⟨rfl,lb,?_⟩;cases u1:uJ s.branch (cn aR i).size (cn aR i).fw with
   |true=>
     rw [u1]at I;revert a;refine hH λa I=>?_;refine fj ?_;revert a;refine ad λa I=>?_;exact⟨m.dO - (k+1),bj,k+1,bj,rfl,u5 (λh=>by have:=(Gc.1 h).2 i dz;rw [u1]at this;cases this),eW.symm▸I.bb,sx,gh⟩
   |false=>
     rw [u1]at I;revert a;refine hH λa I=>?_;refine fj ?_;revert a;(repeat first|refine ag ?_|refine J (bJ fS.pl) ?_);intro a I;refine aQ I (lE _ 14 s.line s.eh) λa v lY ab I=>?_;obtain⟨rfl,b7⟩:=ab;revert a;refine ad λa I=>?_;refine bc I rfl rfl ⟨?_,gh.trans (b7.mono gh.size)⟩;rw [hA (Gc.2 ⟨gX,λj ah=>by rw [dz]at ah;cases ah;exact u1⟩),iU.1,iU.2]
section
attribute [local irreducible] Code.rounds
def nO(p cp q cq:Nat):List hZ:=[(gn p cp,[aa [65]]),(hg q cq,[aa [66]])]
def Hp:Prop:=∀cn cL p cp q cq,jh (et cn 2 cL) (nO p cp q cq)=(0,none)
theorem jZ.PF{base g cL p cp q cq:Nat}(h:jZ base w g p cp q cq)(jK:2<=cL):xY w (et (some ⟨g,0,none⟩) 2 cL) (nO p cp q cq):=by
 refine⟨rfl,λi ai=>?_,λx hx=>?_,jK,by show 2*176<=140737488351232;decide⟩
 · match i,ai with
   | 0,_=>exact⟨g,0,rfl,λj v ah=>h.bM j v (by simpa [nO]using ah)⟩
   | 1,_=>exact⟨g,0,rfl,λj v ah=>h.c2 j v (by simpa [nO]using ah)⟩
 · simp only [nO,au1,avE,axM]at hx;rcases hx with rfl|rfl
   · exact⟨rfl,(nL (enc:=Value.string) (xs:=[aa [65]]) h.pc).2,(tU h.pc).1,by show 1*16<=140737488351232;decide⟩
   · exact⟨rfl,(nL (enc:=Value.string) (xs:=[aa [66]]) h.pd).2,(tU h.pd).1,by show 1*16<=140737488351232;decide⟩
theorem YG(p cp q cq:Nat):∀x∈nO p cp q cq,rY x.1:=by
 intro x hx;simp only [nO,au1,avE,axM]at hx;rcases hx with rfl|rfl
 · constructor<;>(simp only [gn,mX];decide)
 · constructor<;>(simp only [hg,dO];decide)
theorem Sl(jd:Hp)(w:World){base g cL p cp q cq:Nat}(h:jZ base w g p cp q cq)(jK:2<=cL)(cT:ni w):bd prog 140 [.agg (cO.cells (et (some ⟨g,0,none⟩) 2 cL)).toArray].toArray w (λv w'=>v=.nilIface/\Below w.heap.size w w'):=by
 refine auC (Sp w _ _ (h.PF jK) (YG _ _ _ _) cT) ?_
 · rintro e w' ⟨v,he,rfl,hb⟩;rw [jd]at he;exact⟨_,he,rfl,hb⟩
def Dq:List Ins:=[⟨1,2,0,0,0⟩,⟨11,2,0,2,0⟩,⟨15,0,0,0,0⟩]
def Dn:List Ins:=Dq++v' 1 0 (kx 0 2 false [0,1] 2)
def rH:List Ins:=Dn++v' 2 3 (kx 1 4 true [4,5,6,7] 4)
theorem Kr:bH.jv 0 2 false=.ok (([0,1]:List Nat).map Int.ofNat):=by rfl
theorem Qk:bH.jv 4 4 false=.ok (([4,5,6,7]:List Nat).map Int.ofNat):=by rfl
end
end
end Go.Proofs.YtnkjmbbddmgjiaaGreatDoor