import Derived.Test.YtnkjmbbddmgjiaaGreatDoorSumLawCheckedS7
set_option linter.unusedSimpArgs false
set_option linter.unusedVariables false
set_option maxRecDepth 1000000
set_option maxHeartbeats 400000000
namespace Go.Proofs.YtnkjmbbddmgjiaaGreatDoor
open Go.RowKit Go.Proofs.Tryz
variable {w w':World}{j N nN cN:Nat}{x:Operand}{ty e:TypeId}{f:FuncId}{v v1:Value}{h2:TypeDesc}{y:Code}{args:Array Value}{l':List Oper}{ik:List Nat}
section
attribute [local irreducible] wpList wpQuiet wpStill Code.wp Exit.then Exit.inBlock bodyPost Calls bL eT
namespace bH
def letter(r:Int):Bool:=decide ((97<=r/\r<=122)\/(65<=r/\r<=90)\/r=95)
def A3(first:Bool)(r:Int):Bool:=letter r||(!first&&decide (48<=r/\r<=57))
def J3(s:ByteArray):Prop:=∀j (h:j<s.size),A3 (decide (j=0)) (s[j].toNat:Int)=true
instance (s:ByteArray):Decidable (J3 s):=by unfold J3;infer_instance
def name(s:ByteArray):Bool:=decide (1<=s.size/\s.size<=64/\J3 s)
theorem X1{s:ByteArray}(j:Nat)(h:j<s.size)(hb:A3 (decide (j=0)) (s[j].toNat:Int)=false):name s=false:=by
 unfold name;refine auk λx=>?_;have:=x.2.2 j h;rw [hb]at this;cases this
end bH
theorem aki(w:World)(r:Int):bd Tryz.prog 195 #[.int .i32 r] w (λv w'=>v=.bool (bH.letter r)/\w'=w):=by
 refine cF Tryz.func195 rfl 20 rfl 21 rfl (λa I=>?_);repeat' (first|refine bc I rfl rfl ⟨by unfold bH.letter;first|rw [aur bj]|rw [auk bj],rfl⟩|refine fC ?_|refine fB _ ?_|refine atJ ?_|refine mb ?_|refine azB ?_|((first|apply st I|apply p4 I);(first|exact hv|exact k5|exact oV|exact oU|exact ql|exact ta);clear I;clear a;intro a I)|((first|apply rL I|apply DT I);clear I;clear a;intro a I)|((first|refine DR I (o5:=?_) (mx:=?_)|refine Bn I (o5:=?_) (mx:=?_))<;>(intro jA;simp only [atQ,aup,av',au8,axf,ne_eq,avF]at jA;clear I;clear a;intro a I)))
theorem alb(w:World)(s:ByteArray):bd Tryz.prog 139 #[.string s] w (λv w'=>v=.bool (bH.name s)/\Below w.heap.size w w'):=by
 refine cF Tryz.func139 rfl 32 rfl 33 rfl (λa I=>?_);revert a;refine ad λa I=>?_;refine zl I (aA _ _ rfl) (k:=λa aq hit an b8 I=>?_);have aB:=aK (atL _ w) an (atI _);obtain⟨r,aj⟩:∃r,r=w.heap.size:=⟨_,rfl⟩;rw [<-aj]at hit I;revert a;refine ad λa I=>?_;refine eg (λn a wr=>∃k,k<=s.size/\n=s.size - k/\Fr 33 [(0,.string s),(6,.pointer (some ⟨r,0,none⟩))] a/\kh wr r s k/\
   (∀j (h:j<s.size),j<k->bH.A3 (decide (j=0)) (s[j].toNat:Int)=true)/\Below w.heap.size w wr) s.size
   ⟨0,bj,rfl,I.bb,hit,λj _ h=>absurd h (auv _),aB⟩ ?_
 clear I a hit aB an b8 aq;rintro n a wr ⟨k,au,rfl,I,hit,d',cH⟩;by_cases bu:k<s.size
 · revert a;refine ad λa I=>?_;refine zj I hit bu (k:=λa ax su aS cZ I=>?_);have aC:=aK cH aS cH.size;revert a;refine ad λa I=>?_;refine aQ I (aki ax _) λa v a6 ab I=>?_;obtain⟨rfl,rfl⟩:=ab;by_cases ha:(s[k]'bu).toNat<128
   · rw [decode_ascii s k bu ha]at I su;simp only at I su;generalize av:((s[k]'bu).toNat:Int)=c at I;cases bU:bH.letter c with
     |true=>
      rw [bU]at I;revert a;refine ad λa I=>?_;refine⟨s.size - (k+1),bj,k+1,bj,rfl,I.bb,su,λj ah Fz=>?_,aC⟩;by_cases e:j=k
      · subst e;rw [av];unfold bH.A3;rw [bU];rfl
      · exact d' j ah bj
     |false=>
      rw [bU]at I;by_cases u5:k≠0/\48<=c/\c<=57
      · revert a;refine ad λa I=>?_;refine⟨s.size - (k+1),bj,k+1,bj,rfl,I.bb,su,λj ah Fz=>?_,aC⟩;by_cases e:j=k
        · subst e;rw [av];unfold bH.A3;rw [bU,auk u5.1,aur u5.2];rfl
        · exact d' j ah bj
      · have hA:bH.name s=false:=by
          refine bH.X1 k bu ?_;rw [av];unfold bH.A3;rw [bU];by_cases e:k=0
          · subst e;rfl
          · rw [auk e,auk (λx=>u5 ⟨e,x⟩)];rfl
        repeat' (first|refine bc I rfl rfl ⟨by rw [hA],aC⟩|refine fC ?_|refine fB _ ?_|refine atJ ?_|refine mb ?_|refine BS ?_|refine Et ?_|refine azB ?_|((first|apply st I|apply p4 I);(first|exact hv|exact k5|exact uC|exact oV|exact oU|exact ql);clear I;clear a;intro a I)|((apply rL I);clear I;clear a;intro a I)|(apply HH I;exact rfl;first|exact rfl|assumption)|((refine Bn I (o5:=?_) (mx:=?_))<;>(intro jA;simp only [atQ,aup,av',au8,axf,ne_eq,avF]at jA;clear I;clear a;intro a I)))
   · have fa:=decode_high s k bu bj;have Of:bH.letter ((Utf8.decode s k).1:Int)=false:=by unfold bH.letter;exact auk bj
     rw [Of]at I;have hA:bH.name s=false:=by
      refine bH.X1 k bu ?_;unfold bH.A3 bH.letter;rw [auk bj,auk (show ¬(48<=(s[k].toNat:Int)/\(s[k].toNat:Int)<=57) by omega)];simp
     by_cases w1:k=0;all_goals
      revert a;refine ad λa I=>?_;exact bc I rfl rfl ⟨by rw [hA],aC⟩
 · obtain rfl:k=s.size:=bj
   revert a;refine ad λa I=>?_;refine Bm I hit bu (k:=λa I=>?_);have ba:bH.name s=decide (1<=s.size/\s.size<=64):=by
     unfold bH.name;have:bH.J3 s:=λj h=>d' j h h;simp [this]
   by_cases aJ:s=⟨#[]⟩
   · have aZ:(!decide (s=⟨#[]⟩))=false:=by rw [aur aJ];rfl
     revert a;refine ad λa I=>?_;refine bc I rfl rfl ⟨?_,cH⟩;rw [ba];subst aJ;rfl
   · have aZ:(!decide (s=⟨#[]⟩))=true:=by rw [auk aJ];rfl
     have aG:1<=s.size:=by
      rcases Nat.eq_zero_or_pos s.size with e|e
      · exact absurd (ayO (Array.eq_empty_of_size_eq_zero e)) aJ
      · exact e
     revert a;refine ad λa I=>?_;refine bc I rfl rfl ⟨?_,cH⟩;rw [ba]
     congr 1
     exact decide_eq_decide.2 bj
end
theorem bG(hb:Below w.heap.size w w'){g:Nat}{o:Obj}(az:w.heap[g]? =some o):w'.heap[g]? =some o:=(hb.block g (bO az)).trans az
def aa(l:List UInt8):ByteArray:=⟨l.toArray⟩
theorem kH(l:List UInt8):(aa l).size=l.length:=by simp [aa,ByteArray.size]
theorem abq{l:List UInt8}{c:UInt8}(h:l[j]? =some c):(aa l)[j]? =some c:=by
 have ah:=(atY.1 h).1;have ae:j<(aa l).size:=by rw [kH];exact ah
 rw [getElem?_pos (aa l) j ae];have:(aa l)[j]=l[j]:=rfl;rw [this];rw [atT ah]at h;exact h
theorem RZ(l:List UInt8)(i j:Nat):(aa l).extract i j=aa ((l.drop i).take (j - i)):=by
 apply ayO;show((aa l).extract i j).data=_;simp [aa,ByteArray.data_extract]
theorem abp(l:List UInt8)(i:Nat):(aa l).extract i (aa l).size=aa (l.drop i):=by
 rw [RZ,kH,awI bl]
theorem abr(l:List UInt8)(j:Nat):(aa l).extract 0 j=aa (l.take j):=by
 rw [RZ,aus,ay7]
def Asc(l:List UInt8):Prop:=∀c∈l,c.toNat<128
theorem Asc.drop{l:List UInt8}(h:Asc l)(i:Nat):Asc (l.drop i):=λc av=>h c (auG av)
theorem zP{l:List UInt8}(h:Asc l){p:Nat}{c:UInt8}(av:l[p]? =some c):Utf8.decode (aa l) p=(c.toNat,1):=by
 obtain⟨aW,rfl⟩:=atY.1 av;have ae:p<(aa l).size:=by rw [kH];exact aW
 have e:(aa l)[p]=l[p]:=rfl;rw [decode_ascii (aa l) p ae (by rw [e];exact h _ (at6 aW)),e];rfl
theorem zI{l m:List UInt8}:aa l=aa m↔l=m:=by
 constructor
 · intro h;have:=atW (λb=>b.data.toList) h;simpa [aa]using this
 · rintro rfl;rfl
def yb(r:Int):Bool:=decide (48<=r/\r<=57)
def iP(c:UInt8):Bool:=yb (c.toNat:Int)
def qE(c:UInt8):Bool:=bH.letter (c.toNat:Int)
def nV(c:UInt8):Bool:=qE c||iP c
def ie(p:UInt8->Bool):List UInt8->Nat
 | []=>0
 |c::l=>bif p c then ie p l+1 else 0
theorem Bl(p:UInt8->Bool):∀l,ie p l<=l.length
 | []=>atI _
 |c::l=>by
  simp only [ie,aue];cases p c
  · exact auc _
  · exact Nat.succ_le_succ (Bl p l)
theorem QF{p:UInt8->Bool}{l:List UInt8}{k:Nat}{c:UInt8}(h:l[k]? =some c)(aW:p c=true):ie p (l.drop k)=ie p (l.drop (k+1))+1:=by
 obtain⟨au,rfl⟩:=atY.1 h;rw [aua au];simp only [ie,aW,cond_true]
theorem ZH{p:UInt8->Bool}{l:List UInt8}{k:Nat}{c:UInt8}(h:l[k]? =some c)(aW:p c=false):ie p (l.drop k)=0:=by
 obtain⟨au,rfl⟩:=atY.1 h;rw [aua au];simp only [ie,aW,cond_false]
def qR(l:List UInt8):Nat:=match l with| 43::_=>1 | 45::_=>1 |_=>0
def A0(l:List UInt8)(n:Nat):Option Nat:=
 match l[n]? with
 |none=>some n
 |some c=>if qE c=true\/c.toNat=46 then none else some n
def y0(l:List UInt8):Option Nat:=
 let n:=qR l+ie iP (l.drop (qR l))
 match l[n]? with
 |none=>A0 l n
 |some c=>if c.toNat=46 then(if ie iP (l.drop (n+1))=0 then none else A0 l (n+(1+ie iP (l.drop (n+1)))))else A0 l n
section
variable {P:Program} {w:World} {l:List (Nat × Value)}
theorem L8{bq:Operand}{s:List UInt8}{i:Nat}{xn:IntKind}{pY:Int}{t ty:TypeId}(b0:P.underlying t=some .string)(hx:a7 l x (.string (aa s)):=by exact rfl)(aN:a7 l bq (.int xn pY):=by exact rfl)(tF:pY=(i:Int):=by exact rfl)(h4:i<=s.length:=by omega):
  bL P l w (.slice t x (some bq) none none) ty (.string (aa (s.drop i))) w:=by
 have:=SM (P:=P) (w:=w) (ty:=ty) b0 hx aN tF (by rw [kH];exact h4)
 rwa [abp]at this
theorem EA{ai:Operand}{s:List UInt8}{k:IntKind}{q:Int}{t ty:TypeId}(b0:P.underlying t=some .string)(hx:a7 l x (.string (aa s)):=by exact rfl)(fa:a7 l ai (.int k q):=by exact rfl)(aZ:q=(j:Int):=by exact rfl)(ah:j<=s.length:=by omega):
  bL P l w (.slice t x none (some ai) none) ty (.string (aa (s.take j))) w:=by
 intro cC aY d pos bx g;subst aZ;have tC:j<=(aa s).size:=by rw [kH];exact ah
 simp [execOp,Instr.sliceAt,Instr.slice,Instr.sliceBounds,run_sliceBound tC,aY _ _ hx,aY _ _ fa,auf b0,abr]
theorem mc{i:Operand}{s:List UInt8}{c:UInt8}{k:IntKind}{q:Int}{t ty:TypeId}(b0:P.underlying t=some .string)(av:s[j]? =some c)(hx:a7 l x (.string (aa s)):=by exact rfl)(ai:a7 l i (.int k q):=by exact rfl)(aZ:q=(j:Int):=by exact rfl):
 bL P l w (.index t x i) ty (.int .u8 c.toNat) w:=L3 b0 (abq av) hx ai aZ
theorem td{cs:Array Value}{s f off uL:Nat}(bC:La P s f off uL)(bF:P.underlying uL=some h2)(U:pV h2=true)(hx:a7 l x (.agg cs))(ao:cs[off]? =some v):
  bL P l w (.field s x f) ty v w:=by
 intro cC aY d pos bx g;obtain⟨fields,fd,jI,ae,rfl,rfl⟩:=bC;cases h2<;>simp [pV]at U<;>simp [execOp,Instr.field,asAgg,part,isAgg,aY _ _ hx,auf jI,ae,auf bF,ao]
end
section
attribute [local irreducible] wpList wpQuiet wpStill Code.wp Exit.then Exit.inBlock bodyPost Calls bL eT
theorem Py(w:World)(r:Int):bd Tryz.prog 182 [.int .i32 r].toArray w (λv w'=>v=.bool (bH.letter r)/\w'=w):=by
 refine cF Tryz.func182 rfl 20 rfl 21 rfl (λa I=>?_);repeat' (first|refine bc I rfl rfl ⟨by unfold bH.letter;first|rw [aur bj]|rw [auk bj],rfl⟩|refine fC ?_|refine fB _ ?_|refine atJ ?_|refine mb ?_|refine azB ?_|((first|apply st I|apply p4 I);(first|exact hv|exact k5|exact oV|exact oU|exact ql|exact ta);clear I;clear a;intro a I)|((first|apply rL I|apply DT I);clear I;clear a;intro a I)|((first|refine DR I (o5:=?_) (mx:=?_)|refine Bn I (o5:=?_) (mx:=?_))<;>(intro jA;simp only [atQ,aup,av',au8,axf,ne_eq,avF]at jA;clear I;clear a;intro a I)))
theorem Gm(w:World)(r:Int):bd Tryz.prog 183 [.int .i32 r].toArray w (λv w'=>v=.bool (yb r)/\w'=w):=by
 refine cF Tryz.func183 rfl 8 rfl 9 rfl (λa I=>?_);repeat' (first|refine bc I rfl rfl ⟨by unfold yb;first|rw [aur bj]|rw [auk bj],rfl⟩|refine fC ?_|refine fB _ ?_|refine atJ ?_|refine mb ?_|refine azB ?_|((first|apply st I|apply p4 I);(first|exact hv|exact k5|exact oV|exact oU);clear I;clear a;intro a I)|((apply rL I);clear I;clear a;intro a I)|((first|refine DR I (o5:=?_) (mx:=?_)|refine Bn I (o5:=?_) (mx:=?_))<;>(intro jA;simp only [atQ,aup,av',au8,axf,ne_eq,avF]at jA;clear I;clear a;intro a I)))
theorem akz(w:World)(l:List UInt8):bd Tryz.prog 226 [.string (aa l)].toArray w (λv w'=>v=.int .i64 (qR l:Nat)/\w'=w):=by
 refine cF Tryz.func226 rfl 14 rfl 15 rfl (λa I=>?_);cases l with
 |nil=>
  revert a;refine ad λa I=>?_;exact bc I rfl rfl ⟨rfl,rfl⟩
 |cons c r=>
  have b5:(!decide (aa (c::r)=(⟨#[]⟩:ByteArray)))=true:=by
    have:¬aa (c::r)=(⟨#[]⟩:ByteArray):=λh=>by have:=(zI (m:=[])).1 h;cases this
    simp [this]
  by_cases U:c.toNat=43
  · obtain rfl:c=43:=awQ U;revert a;(repeat first|refine ag ?_|refine J (mc (aA _ _ rfl) (j:=0) rfl) ?_);intro a I;exact bc I rfl rfl ⟨rfl,rfl⟩
  by_cases ae:c.toNat=45
  · obtain rfl:c=45:=awQ ae;revert a;(repeat first|refine ag ?_|refine J (mc (aA _ _ rfl) (j:=0) rfl) ?_);intro a I;exact bc I rfl rfl ⟨rfl,rfl⟩
  revert a;(repeat first|refine ag ?_|refine J (mc (aA _ _ rfl) (j:=0) rfl) ?_);intro a I;refine bc I rfl rfl ⟨?_,rfl⟩;have:qR (c::r)=0:=by
    unfold qR;split
    · rename_i h;injection h with h _;subst h;exact absurd rfl U
    · rename_i h;injection h with h _;subst h;exact absurd rfl ae
    · rfl
  rw [this];rfl
theorem Xn(w:World)(l:List UInt8)(ha:Asc l)(aN:l.length<=1000000):bd Tryz.prog 227 [.string (aa l)].toArray w (λv w'=>v=.int .i64 (ie iP l:Nat)/\Below w.heap.size w w'):=by
 have bT:=kH l;refine cF Tryz.func227 rfl 16 rfl 17 rfl (λa I=>?_);revert a;refine ad λa I=>?_;refine zl I (aA _ _ rfl) (k:=λa aq hit an b8 I=>?_);have aB:=aK (atL _ w) an (atI _);obtain⟨r,aj⟩:∃r,r=w.heap.size:=⟨_,rfl⟩;rw [<-aj]at hit I;revert a;refine ad λa I=>?_;refine eg (λn a wr=>∃k,k<=l.length/\n=l.length - k/\Fr 17 [(0,.string (aa l)),(6,.pointer (some ⟨r,0,none⟩))] a/\kh wr r (aa l) k/\ie iP l=k+ie iP (l.drop k)/\Below w.heap.size w wr) l.length
   ⟨0,bj,rfl,I.bb,hit,bl,aB⟩ ?_
 clear I a hit aB an b8 aq;rintro n a wr ⟨k,au,rfl,I,hit,jA,cH⟩;by_cases bu:k<l.length
 · have av:=atT bu;revert a;refine ad λa I=>?_;refine zj I hit (by rw [bT];exact bu) (k:=λa ax su aS cZ I=>?_);have aC:=aK cH aS cH.size;rw [zP ha av]at I su;revert a;refine ad λa I=>?_;refine aQ I (Gm ax _) λa v a6 ab I=>?_;obtain⟨rfl,rfl⟩:=ab;cases aI:iP l[k]with
   |true=>
    have pG:yb (l[k].toNat:Int)=true:=aI;rw [pG]at I;revert a;refine ad λa I=>?_;exact⟨l.length - (k+1),bj,k+1,bj,rfl,I.bb,su,by rw [jA,QF av aI];omega,aC⟩
   |false=>
    have pG:yb (l[k].toNat:Int)=false:=aI;rw [pG]at I;revert a;refine ad λa I=>?_;exact bc I rfl rfl ⟨by rw [jA,ZH av aI];rfl,aC⟩
 · have FA:k=l.length:=bj
   revert a;refine ad λa I=>?_;refine Bm I hit bj (k:=λa I=>?_);revert a;refine ad λa I=>?_;refine bc I rfl rfl ⟨?_,cH⟩;rw [jA,FA,bT,auD];rfl
theorem Ya{l:List UInt8}{n m:Nat}(h:A0 l n=some m):m=n/\∀c,l[n]? =some c->qE c=false/\c.toNat≠46:=by
 unfold A0 at h;cases av:l[n]? with
 |none=>rw [av]at h;exact⟨(aud h).symm,λc h=>by cases h⟩
 |some c=>
  rw [av]at h;simp only at h;split at h
  · cases h
  · rename_i ba;refine⟨(aud h).symm,λeS e9=>?_⟩;obtain rfl:=aud e9;cases aN:qE c with
    |false=>exact⟨rfl,λe=>ba (.inr e)⟩
    |true=>exact absurd (.inl aN) ba
theorem Xq:qE 101=true/\qE 69=true:=bk
theorem akq(w:World)(l:List UInt8)(ha:Asc l)(aN:l.length<=1000000)(n:Nat)(ba:y0 l=some n):bd Tryz.prog 184 [.string (aa l)].toArray w (λv w'=>v=.int .i64 (n:Nat)/\Below w.heap.size w w'):=by
 have bT:=kH l;obtain⟨nI,iS⟩:∃x,qR l=x:=⟨_,rfl⟩;obtain⟨d1,oh⟩:∃x,ie iP (l.drop nI)=x:=⟨_,rfl⟩;have aJ:nI<=l.length:=by
   rw [<-iS];unfold qR;split<;>simp
 have U:nI+d1<=l.length:=by
   have:=Bl iP (l.drop nI);rw [oh,atU]at this;omega
 unfold y0 at ba;rw [iS]at ba;simp only [oh]at ba;refine cF Tryz.func184 rfl 85 rfl 86 rfl (λa I=>?_);revert a;refine ad λa I=>?_;refine aQ I (akz w l) λa v aq ab I=>?_;obtain⟨rfl,rfl⟩:=ab;rw [iS]at I;revert a;(repeat first|refine ag ?_|refine J (L8 (aA _ _ rfl) (i:=nI)) ?_);intro a I;refine aQ I (Xn aq _ (ha.drop nI) bm) λa v ax ab I=>?_;obtain⟨rfl,aC⟩:=ab;rw [oh]at I;revert a;(repeat first|(intro a I;(refine ma 3 (λa cm=>∃m:Nat,m<=l.length/\A0 l m=some n/\Fr 86 [(0,.string (aa l)),(3,.int .i64 (m:Nat))] a/\Below aq.heap.size aq cm) ?_ ?_);revert a)|refine ag ?_);intro a I
 · refine⟨?_⟩;cases av:l[nI+d1]? with
   |none=>
    rw [av]at ba;have:l.length<=nI+d1:=ayy.1 av;revert a;refine ad λa I=>?_;exact⟨nI+d1,U,ba,I.bb,aC⟩
   |some c=>
    have bu:=(atY.1 av).1;rw [av]at ba;simp only at ba;by_cases ES:c.toNat=46
    · rw [atM ES]at ba;by_cases w1:ie iP (l.drop (nI+d1+1))=0
      · rw [atM w1]at ba;cases ba
      rw [atK w1]at ba;obtain⟨k,au⟩:∃x,ie iP (l.drop (nI+d1+1))=x:=⟨_,rfl⟩;have hP:=Bl iP (l.drop (nI+d1+1));rw [au,atU]at hP;rw [au]at ba w1;revert a;(repeat first|refine ag ?_|refine J (mc (aA _ _ rfl) av) ?_|refine J (L8 (aA _ _ rfl) (i:=nI+d1+1) rfl rfl rfl) ?_);intro a I;refine aQ I (Xn ax _ (ha.drop _) bm) λa v a6 ab I=>?_;obtain⟨rfl,a1⟩:=ab;rw [au]at I;revert a;refine ad λa I=>?_;exact⟨nI+d1+(1+k),bj,ba,I.bb,aC.trans (a1.mono aC.size)⟩
    · rw [atK ES]at ba;revert a;(repeat first|refine ag ?_|refine J (mc (aA _ _ rfl) av) ?_);intro a I;exact⟨nI+d1,U,ba,I.bb,aC⟩
 clear I a;rintro a a6 ⟨m,hm,bF,I,a1⟩;obtain⟨rfl,bF⟩:=Ya bF;cases av:l[n]? with
 |none=>
   have:l.length<=n:=ayy.1 av;revert a;refine ad λa I=>?_;exact bc I rfl rfl ⟨rfl,a1⟩
 |some c=>
   have bu:=(atY.1 av).1;obtain⟨bw,bf⟩:=bF c av;have aqU:c.toNat≠101:=λe=>by
    have:qE c=true:=by rw [show c=101 from awQ e];exact Xq.1
    rw [this]at bw;cases bw
   have aq3:c.toNat≠69:=λe=>by
    have:qE c=true:=by rw [show c=69 from awQ e];exact Xq.2
    rw [this]at bw;cases bw
   have agG:IntKind.i32.wrap (c.toNat:Int)=(c.toNat:Int):=by
    have:=c.toNat_lt;simp [IntKind.wrap,IntKind.signed,IntKind.bits];omega
   revert a;(repeat first|refine ag ?_|refine J (mc (aA _ _ rfl) av) ?_|refine J (e8 (aA _ _ rfl) (aA _ _ rfl) rfl agG) ?_);intro a I;refine ig I (Py a6 _) ab7 ⟨rfl,trivial⟩ (k:=λa v bZ ab I=>?_);obtain⟨rfl,rfl⟩:=ab;rw [show bH.letter (c.toNat:Int)=false from bw]at I;revert a;(repeat first|refine ag ?_|refine J (mc (aA _ _ rfl) av) ?_);intro a I;exact bc I rfl rfl ⟨rfl,a1⟩
theorem ajg{T:TypeId}{B b:Nat}{aa:List Value}(h:Lib.IsBuilderF T e B b aa w)(hb:Below w.heap.size w w'):Lib.IsBuilderF T e B b aa w':=by
 have key:∀p,Lib.BuilderAtF T e B b p aa w->Lib.BuilderAtF T e B b p aa w':=by
  rintro p ⟨aH,v,lN,aX,b5⟩;refine⟨aH,v,(hb.block _ (bO lN)).trans lN,⟨aX.1,?_⟩,b5⟩;rcases aX.2 with h|⟨g,cap,cur,ae0,rfl,Cq,az,rest⟩
  · exact .inl h
  · exact .inr ⟨g,cap,cur,ae0,rfl,Cq,(hb.block _ (bO az)).trans az,rest⟩
 exact h.elim (λh=>.inl (key _ h)) (λh=>.inr (key _ h))
theorem fA(h:w.grownBy w' none):Below w.heap.size w w':=aK (atL _ w) h (atI _)
theorem RX(w:World){B b:Nat}(h:Lib.IsBuilderF 386 5 B b [] w)(aH:B<=w.heap.size):bd Tryz.prog 253 [.pointer (some ⟨b,0,none⟩)].toArray w (λv w'=>v=.string ⟨#[]⟩/\Lib.IsBuilderF 386 5 B b [] w'/\Below B w w'):=
 auC (Tryz.Builder_String_any_f B b [] w h aH) (by rintro e w' ⟨rfl,U,ae⟩;exact⟨_,rfl,rfl,U,ae⟩)
theorem apK(w:World):bd Tryz.prog 136 [.string ⟨#[]⟩].toArray w (λv w'=>v=.bool true/\w'=w):=by
 refine cF Tryz.func136 rfl 168 rfl 169 rfl (λa I=>?_);revert a;(repeat first|(intro a I;refine axj ?_;revert a)|refine ag ?_);intro a I;exact bc I rfl rfl ⟨rfl,rfl⟩
theorem ade(w:World)(f:Value):bd Tryz.prog 137 [.string ⟨#[]⟩,f].toArray w (λv w'=>v=.bool false/\Below w.heap.size w w'):=by
 have U:bd Tryz.prog 234 [.string ⟨#[]⟩,f,.bool true].toArray w (λv w'=>v=.int .i64 (-1)/\Below w.heap.size w w'):=by
  refine mf Tryz.func234 rfl 18 rfl 21 rfl (λa I=>?_);revert a;refine ad λa I=>?_;refine zl I (aA _ _ rfl) (k:=λa aq hit an b8 I=>?_);revert a;(repeat first|(intro a I;refine axj ?_;revert a)|refine ag ?_);intro a I;refine Bm I hit bk (k:=λa I=>?_);revert a;refine ad λa I=>?_;exact bc I rfl rfl ⟨rfl,fA an⟩
 have ae:bd Tryz.prog 194 [.string ⟨#[]⟩,f].toArray w (λv w'=>v=.int .i64 (-1)/\Below w.heap.size w w'):=by
  refine dP Tryz.func194 rfl 6 rfl 8 rfl (λa I=>?_);revert a;refine ad λa I=>?_;refine aQ I U λa v aq ab I=>?_;obtain⟨rfl,hb⟩:=ab;revert a;refine ad λa I=>?_;exact bc I rfl rfl ⟨rfl,hb⟩
 refine dP Tryz.func137 rfl 7 rfl 9 rfl (λa I=>?_);revert a;refine ad λa I=>?_;refine aQ I ae λa v aq ab I=>?_;obtain⟨rfl,hb⟩:=ab;revert a;refine ad λa I=>?_;exact bc I rfl rfl ⟨rfl,hb⟩
theorem akQ(w:World):bd Tryz.prog 252 [.string ⟨#[]⟩].toArray w (λv w'=>v=.nilIface/\Below w.heap.size w w'):=by
 refine cF Tryz.func252 rfl 14 rfl 15 rfl (λa I=>?_);revert a;refine ad λa I=>?_;refine aQ I (apK w) λa v aq ab I=>?_;obtain⟨rfl,rfl⟩:=ab;revert a;refine ad λa I=>?_;refine ig I (ade aq _) R5 ⟨rfl,rfl,trivial⟩ (k:=λa v ax ab I=>?_);obtain⟨rfl,hb⟩:=ab;revert a;refine ad λa I=>?_;exact bc I rfl rfl ⟨rfl,hb⟩
theorem apC(w:World):bd Tryz.prog 228 [.string (aa [34,34])].toArray w (λv w'=>v=.tuple #[.string ⟨#[]⟩,.nilIface]/\Below w.heap.size w w'):=by
 have bT:(aa [34,34]).size=2:=rfl;refine cF Tryz.func228 rfl 72 rfl 73 rfl (λa I=>?_);revert a;(repeat first|refine ag ?_|refine J (mc (aA _ _ rfl) (j:=0) rfl) ?_);intro a I;refine b6 I ai6 λa aq aE aT b8 I=>?_;have ag1:Lib.IsBuilderF 386 5 w.heap.size w.heap.size [] aq:=Lib.IsBuilderF.of (.inl ⟨atI _,.slice none 0 0,aE,auH _ _ _ _,by simp [Value.ownBlock]⟩);have aB:=fA aT;revert a;(repeat first|(intro a I;refine axj ?_;revert a)|refine ag ?_|refine J (mc (aA _ _ rfl) (j:=1) rfl) ?_);intro a I;refine aQ I (RX aq ag1 aB.size) λa v ax ab I=>?_;obtain⟨rfl,ag2,aC⟩:=ab;have gV:=aB.trans aC;revert a;refine ad λa I=>?_;refine aQ I (akQ ax) λa v a6 ab I=>?_;obtain⟨rfl,a1⟩:=ab;have qt:=gV.trans (a1.mono gV.size);revert a;refine ad λa I=>?_;refine aQ I (RX a6 (ajg ag2 a1) qt.size) λa v bZ ab I=>?_;obtain⟨rfl,arD,b7⟩:=ab;revert a;refine ad λa I=>?_;exact eI I rfl rfl rfl ⟨rfl,qt.trans b7⟩
section
variable {P:Program} {w:World} {l:List (Nat × Value)}
theorem aeu{t lu:TypeId}{u:Value}(b0:∃ms,P.underlying t=some (.interface ms)):(binOp .eql t .nilIface (.iface lu u)).run P w=.ok (.bool false) w:=by
 obtain⟨ms,b0⟩:=b0;have aJ:∀d,(Op.equalIn (d+1) t .nilIface (.iface lu u)).run P w=.ok false w:=λd=>by simp [Op.equalIn,auf b0]
 have h:(Op.equal t .nilIface (.iface lu u)).run P w=.ok false w:=aJ 9999;show(do pure (Value.bool (<-Op.equal t .nilIface (.iface lu u))):Sem Value).run P w=_;rw [auu,h];rfl
end
theorem Ph(w:World)(lu:TypeId)(u:Value):bd Tryz.prog 229 [.nilIface,.iface lu u].toArray w (λv w'=>v=.bool false/\w'=w):=by
 have aI:∀{l:List (Nat × Value)} {x y:Operand} {t' ty:TypeId},a7 l x .nilIface->a7 l y (.iface lu u)->bL Tryz.prog l w (.binOp .eql 27 x y t') ty (.bool false) w:=by
  intro l x y t' ty hx aO;unfold bL;intro cC aY d pos bx g;have e:(eqGuard .eql 27 x y .nilIface (.iface lu u)).run Tryz.prog w=.ok () w:=rfl;simp only [execOp,aY _ _ hx,aY _ _ aO,auu,e,aun,aeu (lU 27 rfl)];rfl
 refine dP Tryz.func229 rfl 20 rfl 22 rfl (λa I=>?_);revert a;(repeat first|refine ag ?_|refine J (aI rfl rfl) ?_);intro a I;exact bc I rfl rfl ⟨rfl,rfl⟩
def pe(s:ByteArray)(t:Nat × Int × Int):Nat × Int × Int:=
 if (Utf8.decode s t.1).1=10 then(t.1+(Utf8.decode s t.1).2,t.2.1+1,1)else(t.1+(Utf8.decode s t.1).2,t.2.1,t.2.2+1)
def cw(s:ByteArray):Nat->Nat × Int × Int
 | 0=>(0,1,1)
 |k+1=>pe s (cw s k)
theorem Q0(s:ByteArray)(k:Nat)(h:(cw s k).1<s.size):(cw s k).1<(cw s (k+1)).1:=by
 have:=width_pos s _ h;show _<(pe s (cw s k)).1;unfold pe;split<;>(simp only;omega)
theorem zo(s:ByteArray)(k:Nat):(cw s (k+1)).1=(cw s k).1+(Utf8.decode s (cw s k).1).2:=by
 show(pe s (cw s k)).1=_;unfold pe;split<;>rfl
theorem Z'(s:ByteArray):∀k,(∀j,j<k->(cw s j).1<s.size)->1<=(cw s k).2.1/\(cw s k).2.1<=(cw s k).1+1/\1<=(cw s k).2.2/\(cw s k).2.2<=(cw s k).1+1
 | 0,_=>⟨azt _,azt _,azt _,azt _⟩
 |k+1,h=>by
  obtain⟨U,ae,aM,cc⟩:=Z' s k (λj ah=>h j bj);have:=width_pos s _ (h k bj);show 1<=(pe s (cw s k)).2.1/\(pe s (cw s k)).2.1<=(pe s (cw s k)).1+1/\1<=(pe s (cw s k)).2.2/\(pe s (cw s k)).2.2<=(pe s (cw s k)).1+1;unfold pe;split<;>(simp only;omega)
def jo(s:ByteArray)(k:Nat):Int:=(Utf8.decode s (cw s k).1).1
def Kf(s:ByteArray)(k:Nat):Value:=.agg #[.int .i64 (cw s k).2.1,.int .i64 (cw s k).2.2]
def vl(s:ByteArray)(p:Nat):Bool:=
 (((Utf8.decode s p).1:Int)==65533)&&(decide (s.size<=p+2)||((s.get! p).toNat != 239)||((s.get! (p+1)).toNat != 191)||((s.get! (p+2)).toNat != 189))
theorem get_at{s:ByteArray}(h:j<s.size):s[j]? =some (s.get! j):=by
 have e:s.get! j=s[j]:=by
  cases s with
  |mk d=>
   have e9:j<d.size:=h;show d[j]! =d[j];simp [e9]
 rw [e];simp [h]
theorem alZ{base:Nat}{sz:Nat}{n:Nat}{xs:List Value}(h:w.ownsRow base e sz v n xs){r:Nat}{o:Obj}(bp:w.heap[r]? =some o)(av:∀c t f,o≠.cells c t f){b:Nat}(hb:v.ownBlock=some b):(some r:Option Nat)≠some b:=by
 intro fD;have bw:=aud fD;subst bw;rcases h.2 with ⟨rfl,_⟩|⟨g,cap,cur,rfl,_,U,_⟩
 · cases hb
 · simp only [Value.ownBlock,auW]at hb;subst hb;rw [bp]at U;exact av _ _ _ (aud U)
section
structure Tok where
 kind:Nat
 text:List UInt8
 line:Nat
 eh:Nat
def Tok.cells(t:Tok):List Value:=[.int .i64 (t.kind:Nat),.string (aa t.text),.int .i64 (t.line:Nat),.int .i64 (t.eh:Nat)]
theorem apb(t:Tok):(Tok.cells t).length=4:=rfl
theorem sR(t:Tok):∀v∈(Tok.cells t).toArray,v.oneCell'=true:=by
 intro v ao;simp [Tok.cells]at ao;rcases ao with rfl|rfl|rfl|rfl<;>rfl
def KF(c:UInt8):Bool:=decide (0<=Lib.indexByte [58,124,40,41,91,93,44,59] c)
def Dk:List UInt8->Bool
 | []=>false
 |d::_=>iP d
def vZ:List UInt8->Bool
 | []=>false
 |c::r=>iP c||(decide (c.toNat=43\/c.toNat=45)&&Dk r)
theorem Lp(c:UInt8)(r:List UInt8):vZ (c::r)=(iP c||(decide (c.toNat=43\/c.toNat=45)&&Dk r)):=rfl
def Z7:List UInt8->Option (Nat × List UInt8 × Nat)
 | []=>none
 |d::_=>if d.toNat=34 then some (3,[],2)else none
def PO(l:List UInt8):Option Nat->Option (Nat × List UInt8 × Nat)
 |none=>none
 |some n=>if n=0 then none else some (2,l.take n,n)
def DW:List UInt8->Option (Nat × List UInt8 × Nat)
 | []=>none
 |c::r=>
  if qE c=true then some (1,(c::r).take (ie nV (c::r)),ie nV (c::r))
  else if vZ (c::r)=true then PO (c::r) (y0 (c::r))
  else if c.toNat=34 then Z7 r
  else if KF c=true then some (4,[c],1)
  else if (c::r).take 3=[64,49,43]\/(c::r).take 3=[64,49,45]then some (4,(c::r).take 3,3)else none
theorem Z2(c:UInt8)(r:List UInt8):DW (c::r)=if qE c=true then some (1,(c::r).take (ie nV (c::r)),ie nV (c::r))
 else if vZ (c::r)=true then PO (c::r) (y0 (c::r))
 else if c.toNat=34 then Z7 r
 else if KF c=true then some (4,[c],1)
 else if (c::r).take 3=[64,49,43]\/(c::r).take 3=[64,49,45]then some (4,(c::r).take 3,3)else none:=rfl
section
variable {P:Program} {ops:Array Oper} {Q:Exit->Act->World->Prop} {a:Act} {w:World} {rest:List Oper} {N:Nat} {l:List (Nat × Value)}
theorem gp{c:Code}{n:Nat}(h:c.wp P (Exit.then (Code.rounds P c Q n) Q) a w):Code.rounds P c Q (n+1) a w:=h
theorem YX{fn:Func}{R:Value->World->Prop}(h:Fr N l a){p u s:Nat}(fI:fn.results=#[.cell p ty,.tmp u,.tmp s]){g:Nat}{cs:Array Value}{pw:Nat × Nat}{y z:Value}(b0:(P.underlying ty).map n0=some true)(aG:(P.info? ty).map (·.size)=some cs.size)(az:w.heap[g]? =some (.cells cs e pw))(ao:look l p=some (.pointer (some ⟨g,0,none⟩)))(hx:look l u=some y)(bA:look l s=some z)(ab:R (.tuple #[.agg cs,y,z]) w):
  bodyPost P fn (λe w'=>∃v,e=.returned v/\R v w') .ret a w:=by
 refine axe (v:=.tuple #[.agg cs,y,z]) ?_ h.defers ⟨_,rfl,ab⟩;have bw:=h.at_ _ _ ao;have bf:=h.at_ _ _ hx;have dj:=h.at_ _ _ bA;simp [results,fI,bw,bf,dj,asAddr,Qm b0 aG az]
end
attribute [local irreducible] Code.rounds
theorem akD(w:World)(l:List UInt8)(ha:Asc l)(aJ:l[0]? =some 34)(U:l[1]? =some 34):bd Tryz.prog 185 [.string (aa l)].toArray w (λv w'=>v=.tuple #[.agg (Tok.cells ⟨3,[],0,0⟩).toArray,.int .i64 2,.int .i64 0]/\Below w.heap.size w w'):=by
 have bT:=kH l;have iu:=(atY.1 U).1;have bW:l.take 2=[34,34]:=by
  match l,aJ,U with
  |x::y::r,aJ,U=>simp at aJ U;subst aJ;subst U;rfl
 refine cF Tryz.func185 rfl 46 rfl 47 rfl (λa I=>?_);revert a;refine ad λa I=>?_;refine b6 I rv λa aq aE aT b8 I=>?_;have aB:=fA aT;revert a;refine ad λa I=>?_;refine zl I (aA _ _ rfl) (k:=λa ax su aS cZ I=>?_);have aP:=aD aE aS bl;have aC:=aB.trans ((fA aS).mono aB.size);revert a;(repeat first|(intro a I;refine auX 2 ?_;revert a)|(intro a I;refine gp ?_;revert a)|refine ag ?_);intro a I;refine zj I su bj (k:=λa a6 Jd bz eE I=>?_);rw [zP ha aJ]at I Jd;replace Jd:kh a6 aq.heap.size (aa l) 1:=Jd;have bR:=aD aP bz bm;have a1:=aK aC bz aC.size;revert a;(repeat first|(intro a I;refine gp ?_;revert a)|refine ag ?_);intro a I;refine zj I Jd bj (k:=λa bZ qz bD eY I=>?_);rw [zP ha U]at I qz;have bX:=aD bR bD bm;have b7:=aK a1 bD a1.size;revert a;(repeat first|refine ag ?_|refine J (EA (aA _ _ rfl) (j:=2) rfl rfl rfl) ?_);intro a I;rw [bW]at I;refine aQ I (apC bZ) λa v bN ab I=>?_;obtain⟨rfl,cx⟩:=ab;have bB:=bG cx bX;have wT:=b7.trans (cx.mono b7.size);revert a;refine ad λa I=>?_;refine aQ I (Ph bN _ _) λa v bQ ab I=>?_;obtain⟨rfl,rfl⟩:=ab;revert a;(repeat first|refine ag ?_|refine J (cA (vs:=[(0,.int .i64 3),(1,.string ⟨#[]⟩)]) (cells:=#[.int .i64 3,.string ⟨#[]⟩,.int .i64 0,.int .i64 0]) bh ⟨rfl,rfl,rfl,rfl,trivial⟩) ?_);intro a I;refine cE I (cs:=#[.int .i64 3,.string ⟨#[]⟩,.int .i64 0,.int .i64 0]) bB (by simp [Value.oneCell']) λa bt c8 cf fZ I=>?_;revert a;refine ad λa I=>?_;exact YX I rfl (agg _ rfl) (aw _ _ rfl) c8 rfl rfl rfl ⟨rfl,aK wT cf wT.size⟩
theorem adj(w:World)(c:UInt8)(b:Bool)(av:c.toNat<128)(hb:decide (0<=Lib.indexByte [58,124,40,41,91,93,44,59] c)=b):bd Tryz.prog 186 [.string ⟨#[58,124,40,41,91,93,44,59]⟩,.int .i32 (c.toNat:Int)].toArray w (λv w'=>v=.bool b/\w'=w):=
 auC (Tryz.strings_ContainsRune_ascii ⟨#[58,124,40,41,91,93,44,59]⟩ (c.toNat:Int) w bj bj) (by
  rintro e w' ⟨rfl,rfl⟩;refine⟨_,rfl,?_,rfl⟩;rw [<-hb];simp)
end
theorem Z9{c:UInt8}:IntKind.i32.wrap (c.toNat:Int)=(c.toNat:Int):=by
 have:=c.toNat_lt;simp [IntKind.wrap,IntKind.signed,IntKind.bits];omega
theorem PN{l:List UInt8}{n m:Nat}(hm:m<=l.length)(h:A0 l m=some n):n<=l.length:=by
 rw [(Ya h).1];exact hm
theorem Yb{l:List UInt8}{n:Nat}(h:y0 l=some n):n<=l.length:=by
 have aJ:qR l<=l.length:=by unfold qR;split<;>simp
 have U:=Bl iP (l.drop (qR l));have ae:=Bl iP (l.drop (qR l+ie iP (l.drop (qR l))+1));rw [atU]at U ae;unfold y0 at h;simp only at h;cases av:l[qR l+ie iP (l.drop (qR l))]? with
 |none=>rw [av]at h;exact PN bj h
 |some c=>
  have aM:=(atY.1 av).1;rw [av]at h;simp only at h;split at h
  · split at h
    · cases h
    · exact PN bj h
  · exact PN bj h
theorem aoW{l:List UInt8}{c:UInt8}{n:Nat}(h:l[0]? =some c):l.take 1=[c]:=by
 match l,h with
 |x::r,h=>simp at h;subst h;rfl
theorem akE(w:World)(l:List UInt8)(ha:Asc l)(aN:l.length<=1000000)(c:UInt8)(av:l[0]? =some c)(x:Nat × List UInt8 × Nat)(hx:DW l=some x):bd Tryz.prog 121 [.string (aa l),.int .i32 (c.toNat:Int)].toArray w (λv w'=>v=.tuple #[.agg (Tok.cells ⟨x.1,x.2.1,0,0⟩).toArray,.int .i64 (x.2.2:Nat),.int .i64 0]/\Below w.heap.size w w'):=by
 have bT:=kH l;have FD:=(atY.1 av).1;have agA:=ha c (auF av);obtain⟨r,w6⟩:∃r,l=c::r:=by
  match l,av with
  |y::r,h=>simp at h;subst h;exact⟨r,rfl⟩
 have fJ:=hx;rw [w6,Z2,<-w6]at fJ;clear hx;have fin:∀{a:Act} {aq:World} {g:Nat} {L:List (Nat × Value)},aq.heap[g]? =some (.cells (Tok.cells ⟨x.1,x.2.1,0,0⟩).toArray 232 (0,0))->Fr 108 L a->look L 4=some (.pointer (some ⟨g,0,none⟩))->look L 5=some (.int .i64 (x.2.2:Nat))->look L 6=some (.int .i64 0)->Below w.heap.size w aq->
    bodyPost Tryz.prog Tryz.f121 (λe w'=>∃v,e=.returned v/\v=.tuple #[.agg (Tok.cells ⟨x.1,x.2.1,0,0⟩).toArray,.int .i64 (x.2.2:Nat),.int .i64 0]/\Below w.heap.size w w') .ret a aq:=
  λaz I cc gA gM hb=>YX I rfl (agg _ rfl) (aw _ _ rfl) az cc gA gM ⟨rfl,hb⟩
 refine dP Tryz.func121 rfl 106 rfl 108 rfl (λa I=>?_);revert a;refine ad λa I=>?_;refine b6 I rv λa aq aE aT b8 I=>?_;have aB:=fA aT;revert a;refine ad λa I=>?_;refine aQ I (Py aq _) λa v ax ab I=>?_;obtain⟨rfl,rfl⟩:=ab;have tD:bH.letter (c.toNat:Int)=qE c:=rfl;rw [tD]at I;cases bU:qE c with
 |true=>
  rw [bU]at I fJ;rw [atM rfl]at fJ;obtain rfl:=aud fJ;revert a;(repeat first|(intro a I;(refine ma 3 (λa cm=>Fr 108 [(0,.string (aa l)),(4,.pointer (some ⟨w.heap.size,0,none⟩)),(7,.int .i64 (ie nV l:Nat))] a/\cm.heap[w.heap.size]? =some (.cells (Tok.cells ⟨0,[],0,0⟩).toArray 232 (0,0))/\Below w.heap.size w cm) ?_ ?_);revert a)|refine ag ?_);intro a I
  · refine⟨?_⟩;revert a;refine ad λa I=>?_;refine zl I (aA _ _ rfl) (k:=λa a6 hit an eE I=>?_);have a1:=aB.trans ((fA an).mono aB.size);have bR:=aD aE an bl;obtain⟨q,aZ⟩:∃q,q=ax.heap.size:=⟨_,rfl⟩;rw [<-aZ]at hit I;revert a;refine ad λa I=>?_;refine eg (λn a wr=>∃k,k<=l.length/\n=l.length - k/\Fr 108 [(0,.string (aa l)),(4,.pointer (some ⟨w.heap.size,0,none⟩)),(7,.int .i64 (aa l).size),(17,.pointer (some ⟨q,0,none⟩))] a/\kh wr q (aa l) k/\ie nV l=k+ie nV (l.drop k)/\wr.heap[w.heap.size]? =some (.cells (Tok.cells ⟨0,[],0,0⟩).toArray 232 (0,0))/\Below w.heap.size w wr) l.length
      ⟨0,bj,rfl,I.bb,hit,bl,bR,a1⟩ ?_
    clear I a hit a1 bR;rintro n a wr ⟨k,au,rfl,I,hit,jA,az,cH⟩;by_cases bu:k<l.length
    · have Fe:=atT bu;revert a;refine ad λa I=>?_;refine zj I hit bj (k:=λa bZ qz bD eY I=>?_);have b7:=aK cH bD cH.size;have bX:=aD az bD bm;rw [zP ha Fe]at I qz;revert a;refine ad λa I=>?_;refine aQ I (Py bZ _) λa v bN ab I=>?_;obtain⟨rfl,rfl⟩:=ab;have qA:bH.letter (l[k].toNat:Int)=qE l[k]:=rfl;rw [qA]at I;cases kt:qE l[k]with
      |true=>
        rw [kt]at I;revert a;refine ad λa I=>?_;exact⟨l.length - (k+1),bj,k+1,bj,rfl,I.bb,qz,by rw [jA,QF Fe (by unfold nV;rw [kt];rfl)];omega,bX,b7⟩
      |false=>
        rw [kt]at I;revert a;refine ad λa I=>?_;refine ig I (Gm bN _) LD ⟨rfl,trivial⟩ (k:=λa v bQ ab I=>?_);obtain⟨rfl,rfl⟩:=ab;have wW:yb (l[k].toNat:Int)=iP l[k]:=rfl;rw [wW]at I;cases aI:iP l[k]with
        |true=>
          rw [aI]at I;revert a;refine ad λa I=>?_;exact⟨l.length - (k+1),bj,k+1,bj,rfl,I.bb,qz,by rw [jA,QF Fe (by unfold nV;rw [kt,aI];rfl)];omega,bX,b7⟩
        |false=>
          rw [aI]at I;revert a;refine ad λa I=>?_;have e:ie nV l=k:=by rw [jA,ZH Fe (by unfold nV;rw [kt,aI];rfl)];rfl
          rw [e];exact⟨I.bb,bX,b7⟩
    · have FA:k=l.length:=bj
      revert a;refine ad λa I=>?_;refine Bm I hit bj (k:=λa I=>?_);revert a;refine ad λa I=>?_;have e:ie nV l=l.length:=by rw [jA,FA,auD];rfl
      rw [e,<-bT];exact⟨I.bb,az,cH⟩
  clear I;rintro a a6 ⟨I,bR,a1⟩;have:=Bl nV l;revert a;(repeat first|refine ag ?_|refine J (EA (aA _ _ rfl) (j:=ie nV l) rfl rfl rfl) ?_|refine J (cA (vs:=[(0,.int .i64 1),(1,.string (aa (l.take (ie nV l))))]) (cells:=#[.int .i64 1,.string (aa (l.take (ie nV l))),.int .i64 0,.int .i64 0]) bh ⟨rfl,rfl,rfl,rfl,trivial⟩) ?_);intro a I;refine cE I (cs:=#[.int .i64 1,.string (aa (l.take (ie nV l))),.int .i64 0,.int .i64 0]) bR (by simp [Value.oneCell']) λa bt c8 cf fZ I=>?_;revert a;refine ad λa I=>?_;exact fin c8 I rfl rfl rfl (aK a1 cf a1.size)
 |false=>
  rw [bU]at I fJ;rw [atK bk]at fJ;revert a;(repeat first|(intro a I;(refine ma 9 (λa cm=>Fr 108 [(0,.string (aa l)),(1,.int .i32 (c.toNat:Int)),(4,.pointer (some ⟨w.heap.size,0,none⟩)),(36,.bool (vZ l))] a/\cm=ax) ?_ ?_);revert a)|refine ag ?_);intro a I
  · refine⟨?_⟩;revert a;refine ad λa I=>?_;refine aQ I (Gm ax _) λa v a6 ab I=>?_;obtain⟨rfl,rfl⟩:=ab;have pG:yb (c.toNat:Int)=iP c:=rfl;rw [pG]at I;cases aI:iP c with
    |true=>
      rw [aI]at I;revert a;refine ad λa I=>?_;rw [show vZ l=true by rw [w6,Lp,aI];rfl];exact⟨I.bb,rfl⟩
    |false=>
      rw [aI]at I;by_cases aG:c.toNat=43\/c.toNat=45
      · have bY:∀{v:Bool} {L:List (Nat × Value)} {a:Act},Dk r=v->Fr 108 L a->zw L [(0,.string (aa l)),(1,.int .i32 (c.toNat:Int)),(4,.pointer (some ⟨w.heap.size,0,none⟩)),(36,.bool v)]->Fr 108 [(0,.string (aa l)),(1,.int .i32 (c.toNat:Int)),(4,.pointer (some ⟨w.heap.size,0,none⟩)),(36,.bool (vZ l))] a:=λ{v L a} ao I eK=>by
          have e:vZ l=v:=by rw [w6,Lp,aI,aur aG,azC,auN,ao]
          rw [e];exact I.xp eK
        cases r with
        |nil=>
          have kt:l.length=1:=by rw [w6];rfl
          rcases aG with aG|aG
          · revert a;refine ad λa I=>?_;exact⟨bY rfl I ⟨rfl,rfl,rfl,rfl,trivial⟩,rfl⟩
          · revert a;refine ad λa I=>?_;exact⟨bY rfl I ⟨rfl,rfl,rfl,rfl,trivial⟩,rfl⟩
        |cons d fe=>
          have kt:1<l.length:=by rw [w6];simp
          have U:l[1]? =some d:=by rw [w6];rfl
          rcases aG with aG|aG
          · revert a;(repeat first|refine ag ?_|refine J (mc (aA _ _ rfl) (j:=1) U) ?_|refine J (e8 (aA _ _ rfl) (aA _ _ rfl) rfl Z9) ?_);intro a I;refine ig I (Gm a6 _) LD ⟨rfl,trivial⟩ (k:=λa v bZ ab I=>?_);obtain⟨rfl,rfl⟩:=ab;revert a;refine ad λa I=>?_;exact⟨bY rfl I ⟨rfl,rfl,rfl,rfl,trivial⟩,rfl⟩
          · revert a;(repeat first|refine ag ?_|refine J (mc (aA _ _ rfl) (j:=1) U) ?_|refine J (e8 (aA _ _ rfl) (aA _ _ rfl) rfl Z9) ?_);intro a I;refine ig I (Gm a6 _) LD ⟨rfl,trivial⟩ (k:=λa v bZ ab I=>?_);obtain⟨rfl,rfl⟩:=ab;revert a;refine ad λa I=>?_;exact⟨bY rfl I ⟨rfl,rfl,rfl,rfl,trivial⟩,rfl⟩
      · have aq1:c.toNat≠43:=λe=>aG (.inl e);have ML:c.toNat≠45:=λe=>aG (.inr e);revert a;refine ad λa I=>?_;rw [show vZ l=false by rw [w6,Lp,aI,auk aG];rfl];exact⟨I.bb,rfl⟩
  clear I;rintro a a6 ⟨I,rfl⟩;cases aH:vZ l with
  |true=>
    rw [aH]at I fJ;rw [atM rfl]at fJ;cases ba:y0 l with
    |none=>rw [ba]at fJ;exact absurd fJ (by simp [PO])
    |some n=>
      rw [ba]at fJ;change (if n=0 then none else some (2,l.take n,n))=some x at fJ;by_cases iS:n=0
      · rw [atM iS]at fJ;cases fJ
      rw [atK iS]at fJ;obtain rfl:=aud fJ;have Of:=Yb ba;revert a;refine ad λa I=>?_;refine aQ I (akq a6 l ha aN n ba) λa v bZ ab I=>?_;obtain⟨rfl,b7⟩:=ab;have bX:=bG b7 aE;have yv:=aB.trans (b7.mono aB.size);revert a;(repeat first|refine ag ?_|refine J (EA (aA _ _ rfl) (j:=n) rfl rfl rfl) ?_|refine J (cA (vs:=[(0,.int .i64 2),(1,.string (aa (l.take n)))]) (cells:=#[.int .i64 2,.string (aa (l.take n)),.int .i64 0,.int .i64 0]) bh ⟨rfl,rfl,rfl,rfl,trivial⟩) ?_);intro a I;refine cE I (cs:=#[.int .i64 2,.string (aa (l.take n)),.int .i64 0,.int .i64 0]) bX (by simp [Value.oneCell']) λa bt c8 cf fZ I=>?_;revert a;refine ad λa I=>?_;exact fin c8 I rfl rfl rfl (aK yv cf yv.size)
  |false=>
    rw [aH]at I fJ;rw [atK bk]at fJ;by_cases MK:c.toNat=34
    · rw [atM MK]at fJ;cases r with
      |nil=>cases fJ
      |cons d fe=>
        change (if d.toNat=34 then some (3,[],2)else none)=some x at fJ;by_cases aI:d.toNat=34
        · rw [atM aI]at fJ;obtain rfl:=aud fJ;revert a;refine ad λa I=>?_;refine aQ I (akD a6 l ha (by rw [av,show c=34 from awQ MK]) (by rw [w6,show d=34 from awQ aI];rfl)) λa v bZ ab I=>?_;obtain⟨rfl,b7⟩:=ab;have bX:=bG b7 aE;have yv:=aB.trans (b7.mono aB.size);revert a;refine ad λa I=>?_;refine dX I (aw _ _ rfl) rfl rfl bX (sR _) (k:=λa bt c8 cf fZ I=>?_);revert a;refine ad λa I=>?_;exact fin c8 I rfl rfl rfl (aK yv cf yv.size)
        · rw [atK aI]at fJ;cases fJ
    · rw [atK MK]at fJ;revert a;refine ad λa I=>?_;refine aQ I (adj a6 c (KF c) agA rfl) λa v bZ ab I=>?_;obtain⟨rfl,rfl⟩:=ab;cases bS:KF c with
      |true=>
        rw [bS]at I fJ;rw [atM rfl]at fJ;obtain rfl:=aud fJ;have bw:=aoW (n:=0) av;revert a;(repeat first|refine ag ?_|refine J (EA (aA _ _ rfl) (j:=1) rfl rfl rfl) ?_|refine J (cA (vs:=[(0,.int .i64 4),(1,.string (aa (l.take 1)))]) (cells:=#[.int .i64 4,.string (aa (l.take 1)),.int .i64 0,.int .i64 0]) bh ⟨rfl,rfl,rfl,rfl,trivial⟩) ?_);intro a I;rw [bw]at I;refine cE I (cs:=#[.int .i64 4,.string (aa [c]),.int .i64 0,.int .i64 0]) aE (by simp [Value.oneCell']) λa bt c8 cf fZ I=>?_;revert a;refine ad λa I=>?_;exact fin c8 I rfl rfl rfl (aK aB cf aB.size)
      |false=>
        rw [bS]at I fJ;rw [atK bk]at fJ;by_cases aM:l.take 3=[64,49,43]\/l.take 3=[64,49,45]
        · rw [atM aM]at fJ;obtain rfl:=aud fJ;have u7:3<=l.length:=by
            have:(l.take 3).length=3:=by rcases aM with h|h<;>rw [h]<;>rfl
            rw [aw8]at this;omega
          have hE:∀{L:List (Nat × Value)} {w:World} {x ai:Operand} {t ty:TypeId} {u:List UInt8},l.take 3=u->Tryz.prog.underlying t=some .string->a7 L x (.string (aa l))->a7 L ai (.int .i64 3)->bL Tryz.prog L w (.slice t x none (some ai) none) ty (.string (aa u)) w:=λhu b0 hx fa=>by rw [<-hu];exact EA b0 hx fa (j:=3) rfl u7
          rcases aM with aM|aM
          · rw [aM]at fin ⊢;revert a;(repeat first|refine ag ?_|refine J (hE aM (aA _ _ rfl) rfl rfl) ?_|refine J (cA (vs:=[(0,.int .i64 4),(1,.string (aa [64,49,43]))]) (cells:=#[.int .i64 4,.string (aa [64,49,43]),.int .i64 0,.int .i64 0]) bh ⟨rfl,rfl,rfl,rfl,trivial⟩) ?_);intro a I;refine cE I (cs:=#[.int .i64 4,.string (aa [64,49,43]),.int .i64 0,.int .i64 0]) aE (by simp [Value.oneCell']) λa bt c8 cf fZ I=>?_;revert a;refine ad λa I=>?_;exact fin c8 I rfl rfl rfl (aK aB cf aB.size)
          · rw [aM]at fin ⊢;revert a;(repeat first|refine ag ?_|refine J (hE aM (aA _ _ rfl) rfl rfl) ?_|refine J (cA (vs:=[(0,.int .i64 4),(1,.string (aa [64,49,45]))]) (cells:=#[.int .i64 4,.string (aa [64,49,45]),.int .i64 0,.int .i64 0]) bh ⟨rfl,rfl,rfl,rfl,trivial⟩) ?_);intro a I;refine cE I (cs:=#[.int .i64 4,.string (aa [64,49,45]),.int .i64 0,.int .i64 0]) aE (by simp [Value.oneCell']) λa bt c8 cf fZ I=>?_;revert a;refine ad λa I=>?_;exact fin c8 I rfl rfl rfl (aK aB cf aB.size)
        · rw [atK aM]at fJ;cases fJ
end
def qe(F:Fence):Prop:=F=Fence.wide\/∃l,F=Fence.wide.inRound l
theorem WW:qe Fence.wide:=.inl rfl
theorem ajl(l:Nat):qe (Fence.wide.inRound l):=.inr ⟨l,rfl⟩
def vU(Q:Exit->Act->World->Prop):Exit->Act->World->Prop:=λe a w=>e≠.outgrown/\Q e a w
theorem PK{Q:Exit->Act->World->Prop}:¬LetsOut (vU Q):=by rintro ⟨a,w,h,_⟩;exact h rfl
def xx(o:Oper):Bool:=match o.op with| .defer _=>false|_=>true
theorem aly{o:Oper}(h:xx o=true)(c:Call):o.op≠.defer c:=by
 intro e;simp [xx,e]at h
section
variable {F:Fence} {n:Nat} {P:Program} {ops:Array Oper} {Q:Exit->Act->World->Prop} {a:Act} {w:World} {md:Region.Mode}
theorem JK(I:qe F)(f:FuncId):F.fn f:=by
 rcases I with rfl|⟨l,rfl⟩<;>exact trivial
theorem JJ(I:qe F):F.depth.isSome=true->1<=n:=by
 rcases I with rfl|⟨l,rfl⟩<;>intro h<;>exact absurd h (by simp [Fence.wide,Fence.inRound])
theorem acL(I:qe F){R:Ending->World->Prop}(h:Calls P f args w R):CallsIn F n P f args w R:=by
 rcases I with rfl|⟨l,rfl⟩
 · exact callsIn_wide.2 h
 · exact(callsIn_wide.2 h:CallsIn Fence.wide n P f args w R)
theorem anf(I:qe F){row:String}{R:Value->World->Prop}(h:Rows P row args w R):RowsIn F n P row args w R:=by
 rcases I with rfl|⟨l,rfl⟩
 · exact λc cs _=>let ⟨v,w',r,s⟩:=h c cs;⟨v,w',r,stepsIn_wide.2 s⟩
 · exact λc cs _=>let ⟨v,w',r,s⟩:=h c cs;⟨v,w',r,(stepsIn_wide.2 s:StepsIn (Machine.fenced P Fence.wide) P _ _)⟩
theorem Yi(I:qe F){o:Oper}(aI:xx o=true){K:Act->World->Prop}(h:o.wp P a w K (vU Q)):o.wpIn F n P a w K Q:=by
 refine⟨λf _=>JK I f,?_⟩;rw [Oper.semAt_eq _ _ _ (aly aI)];unfold Oper.wp at h;generalize (execOp a.eval o).run P w=r at*;cases r with
 |ok x w'=>
  cases x<;>simp only [Oper.upon]at h<;>simp only [Oper.uponIn]
  case value v=>exact h
  case skip=>exact h
  case defer d=>exact h
  case enter f args=>
   exact⟨JJ I,acL I (auC h λe w'' he=>by
    cases e with
    |returned v=>exact he
    |panicked c=>exact he.2
    |outgrown=>exact absurd he PK)⟩
  case row row args=>exact⟨JJ I,anf I h⟩
 |halt x w'=>
  cases x<;>simp only [Oper.upon]at h<;>simp only [Oper.uponIn]
  case panic v=>exact h.2
theorem JQ(I:qe F):∀{l:List Oper} {a:Act} {w:World},l.all xx=true->wpList P ops (vU Q) l a w->wpListIn F n P ops Q l a w
 | [],_,_,_,h=>h.2
 |o::l,a,w,aI,h=>by
  simp only [ayP,atP]at aI;simp only [wpList]at h;simp only [wpListIn];split
  · rename_i hw;rw [atM hw]at h;rcases h with h|⟨_,h⟩
    · exact Oper.wpIn_mono (λaU w' e9=>JQ I aI.2 e9) (Yi I aI.1 h)
    · exact absurd h PK
  · rename_i hw;rw [atK hw]at h;exact⟨λf _=>JK I f,JQ I aI.2 h⟩
theorem azM(I:qe F)(aI:ops.all xx=true):∀(fuel:Nat) (listed:Array Bool) (a:Act) (w:World),wpAny P md ops (vU Q) fuel listed a w->wpAnyIn F n P md ops Q fuel listed a w
 | 0,_,_,_,h=>⟨h.1,h.2.2⟩
 |fuel+1,listed,a,w,h=>by
  refine⟨λaJ=>(h.1 aJ).2,λi ai=>?_⟩;have U:=h.2 i ai;unfold wpOp at U;unfold wpOpIn;cases bp:ops[i]? with
  |none=>rw [bp]at U;exact azM I aI fuel _ _ _ U
  |some o=>
   rw [bp]at U;have oi:xx o=true:=by
     have:=Array.all_eq_true.1 aI i (auY.1 bp).1
     rwa [(auY.1 bp).2]at this
   simp only at U ⊢;split
   · rename_i hw;rw [atM hw]at U;rcases U with U|⟨_,U⟩
     · exact Oper.wpIn_mono (λaU w' e9=>azM I aI fuel _ aU w' e9) (Yi I oi U)
     · exact absurd U PK
   · rename_i hw;rw [atK hw]at U;exact⟨λf _=>JK I f,azM I aI fuel _ _ _ U⟩
theorem WB(id:Nat)(I:qe F)(aI:l'.all xx=true)(h:wpList P l'.toArray (vU Q) l' a w):(Code.region id l'.toArray false).wpIn F n P Q a w:=
 wpIn_region_lit (JQ I aI h)
theorem WA(h:Q .normal a w):wpList P ops (vU Q) [] a w:=⟨bl,h⟩
theorem azN(id:Nat)(I:qe F)(aI:l'.all xx=true)(hm:P.follows .mixedOrders=true)(h:wpAny P .any l'.toArray (vU Q) l'.toArray.size (Array.replicate l'.toArray.size false) a (w.drewN 1)):(Code.region id l'.toArray true).wpIn F n P Q a w:=
 wpIn_region_any hm (azM I (by rw [Array.all_toList.symm];simpa using aI) _ _ _ _ h)
theorem asL(C:World->Prop)(id:Nat)(I:qe F)(aI:l'.all xx=true)(hm:P.follows .mixedOrders=true)(aH:Region.lexB .any l'.toArray=true)(jd:C (w.drewN 1))(h:wpQuiet P l'.toArray C (λaU=>∀w',C w'->Q .normal aU w') l' a):(Code.region id l'.toArray true).wpIn F n P Q a w:=by
 simp only [Region.lexB,atP]at aH;refine azN id I aI hm (wpAny_of_quiet (Q:=λaU=>∀w',C w'->Q .normal aU w') (λ_ w' nF h=>⟨bl,h w' nF⟩) _ _ _ _ jd ?_);have:=wpAnyQ_lex (C:=C) (md:=.any) aH.1 l'.toArray.toList 0 (Array.replicate l'.toArray.size false) a bl (by simpa using aH.2) (by simpa using h);simpa using this
theorem aiL(id:Nat)(I:qe F)(aI:l'.all xx=true)(hm:P.follows .mixedOrders=true)(aH:Region.lexB .any l'.toArray=true)(h:wpQuiet P l'.toArray (λw'=>∃n,w'=w.drewN n) (λaU=>∀w',(∃n,w'=w.drewN n)->Q .normal aU w') l' a):(Code.region id l'.toArray true).wpIn F n P Q a w:=
 asL _ id I aI hm aH ⟨1,rfl⟩ h
theorem aiJ{l:List (Nat × Value)}(h:Fr N l a){c:Operand}{x:Code}{t:Bool}(av:a7 l c (.bool t))(bW:t=true)(hx:x.wpIn F n P Q a w):(Code.cond c x y).wpIn F n P Q a w:=
 wpIn_cond_true (by rw [h.eval _ _ av,bW]) hx
theorem aiI{l:List (Nat × Value)}(h:Fr N l a){c:Operand}{x:Code}{t:Bool}(av:a7 l c (.bool t))(bW:t=false)(aO:y.wpIn F n P Q a w):(Code.cond c x y).wpIn F n P Q a w:=
 wpIn_cond_false (by rw [h.eval _ _ av,bW]) aO
theorem aiK{c:Code}(gQ:Nat->Act->World->Prop)(Gw:Nat)(O9:gQ Gw a w)(round:∀m a w,gQ m a w->c.wpIn F n P (Exit.then (λaU w'=>∃tQ,tQ<m/\gQ tQ aU w') Q) a w):(Code.loop c).wpIn F n P Q a w:=by
 intro b k cs Oz hb aj;have key:∀j a w,gQ j a w->∃e aU w',Q e aU w'/\ArrivesIn (Machine.fenced P F) P (lone (b.atR a (.code c::.inLoop c::k)) cs w) b k cs e aU w':=by
  intro j;induction j using Nat.strongRecOn with
  |_ j df=>
   intro a w dG;obtain⟨e,BO,D8,aZ,yr⟩:=round j a w dG b (.inLoop c::k) cs Oz hb aj;cases e with
   |normal=>
    obtain⟨tQ,bu,afR⟩:=aZ;obtain⟨aeA,abc,aqe,ah2,agn⟩:=df tQ bu BO D8 afR;exact⟨aeA,abc,aqe,ah2,.of_steps (StepsIn.trans yr (.one (fenced_calm hb aj rfl) stepR_inLoop)) agn⟩
   |exit id=>exact⟨_,BO,D8,aZ,.pass (x:=.inLoop c) rfl (λ_ _=>.inl bl) yr⟩
   |goto l=>exact⟨_,BO,D8,aZ,.pass (x:=.inLoop c) rfl (λ_ _=>.inl bl) yr⟩
   |ret=>exact⟨_,BO,D8,aZ,.pass (x:=.inLoop c) rfl (λ_ _=>.inl bl) yr⟩
   |panic kk=>exact⟨_,BO,D8,aZ,.pass (x:=.inLoop c) rfl (λ_ _=>.inl bl) yr⟩
   |outgrown=>exact⟨_,BO,D8,aZ,.pass (x:=.inLoop c) rfl (λ_ _=>.inl bl) yr⟩
 obtain⟨e,aU,w',aZ,yr⟩:=key Gw a w O9;exact⟨e,aU,w',aZ,.of_steps (.one (fenced_calm hb aj rfl) stepR_loop) yr⟩
end
def dM(a:Act)(ds:List Deferred):Act:={ tmps:=a.tmps,defers:=a.defers++ds }
theorem aas(a:Act):dM a []=a:=by cases a;simp [dM]
theorem aar{a:Act}(h:a.defers=[])(d:Deferred)(ds:List Deferred): { dM a ds with defers:=d::(dM a ds).defers }=dM a (d::ds):=by simp [dM,h]
def sH(D:Nat):Deferred:={ target:=.collected D,args:=#[] }
structure zz(ik:List Nat)(w w':World):Prop where
 os:w'.os=w.os
 tape:w'.tape=w.tape
 output:w'.output=w.output
 size:w'.heap.size=w.heap.size
 same:∀i,i ∉ ik->w'.heap[i]? =w.heap[i]?
theorem zz.refl(ik:List Nat)(w:World):zz ik w w:=⟨rfl,rfl,rfl,rfl,λ_ _=>rfl⟩
theorem zz.below{cy:World}{B:Nat}(h:zz ik w w')(hb:Below B cy w)(mj:∀D∈ik,B<=D):Below B cy w':=
 hb.trans ⟨h.os,h.tape,h.output,azH h.size.symm,λk au=>h.same k (λhm=>by have:=mj k hm;omega)⟩
section
variable {F:Fence} {n:Nat} {P:Program} {ops:Array Oper} {Q:Exit->Act->World->Prop} {a:Act} {w:World} {N:Nat} {l:List (Nat × Value)} {ds:List Deferred}
theorem Yh{o:Oper}{K:Act->World->Prop}(h:o.wp P a w (λaU w'=>K (dM aU ds) w') (λe aU w'=>Q e (dM aU ds) w')):o.wp P (dM a ds) w K Q:=by
 unfold Oper.wp at*;have he:(dM a ds).eval=a.eval:=funext λx=>by cases x<;>rfl
 rw [he];have aW:∀v,(dM a ds).put o.dst v=dM (a.put o.dst v) ds:=λv=>by cases o.dst<;>rfl
 generalize aj:(execOp a.eval o).run P w=r at*;cases r with
 |ok x w'=>
  cases x<;>simp only [Oper.upon]at h ⊢
  case value v=>rw [aW];exact h
  case skip=>rw [aW];exact h
  case defer d=>
   have w8:({ dM a ds with defers:=d::(dM a ds).defers }:Act).put o.dst undef=dM (({ a with defers:=d::a.defers }:Act).put o.dst undef) ds:=by cases o.dst<;>rfl
   rw [w8];exact h
  case enter f args=>
   refine auC h λe w'' he=>?_;cases e with
   |returned v=>simp only at he ⊢;rw [aW];exact he
   |panicked c=>exact he
   |outgrown=>obtain⟨x,y,h⟩:=he;exact⟨_,y,h⟩
  case row row args=>exact Rows.mono h λv w'' he=>by rw [aW];exact he
 |halt x w'=>
  cases x<;>simp only [Oper.upon]at h ⊢
  case panic v=>exact h
theorem Gn:∀{l:List Oper} {a:Act} {w:World},wpList P ops (λe aU w'=>Q e (dM aU ds) w') l a w->wpList P ops Q l (dM a ds) w
 | [],_,_,h=>h
 |o::l,a,w,h=>by
  simp only [wpList]at h ⊢;have bW:(dM a ds).tmps=a.tmps:=rfl;rw [bW];split
  · rename_i hw;rw [atM hw]at h;rcases h with h|⟨U,x,y,ae⟩
    · exact .inl (Yh (azd (λaU w' e9=>Gn e9) h))
    · refine .inr ⟨?_,_,y,ae⟩;unfold Oper.asks at U ⊢;have he:(dM a ds).eval=a.eval:=funext λx=>by cases x<;>rfl
      rw [he];exact U
  · rename_i hw;rw [atK hw]at h;have aW:(dM a ds).put o.dst undef=dM (a.put o.dst undef) ds:=by cases o.dst<;>rfl
    rw [aW];exact Gn h
theorem azL{md:Region.Mode}:∀{fuel:Nat} {listed:Array Bool} {a:Act} {w:World},wpAny P md ops (λe aU w'=>Q e (dM aU ds) w') fuel listed a w->wpAny P md ops Q fuel listed (dM a ds) w
 | 0,_,_,_,h=>h
 |fuel+1,listed,a,w,h=>by
  refine⟨h.1,λi ai=>?_⟩;have U:=h.2 i ai;unfold wpOp at U ⊢;cases bp:ops[i]? with
  |none=>rw [bp]at U;exact azL U
  |some o=>
   rw [bp]at U;simp only at U ⊢;have bW:(dM a ds).tmps=a.tmps:=rfl;rw [bW];split
   · rename_i hw;rw [atM hw]at U;rcases U with U|⟨ae,x,y,aM⟩
     · exact .inl (Yh (azd (λaU w' e9=>azL e9) U))
     · refine .inr ⟨?_,_,y,aM⟩;unfold Oper.asks at ae ⊢;have he:(dM a ds).eval=a.eval:=funext λx=>by cases x<;>rfl
       rw [he];exact ae
   · rename_i hw;rw [atK hw]at U;have aW:(dM a ds).put o.dst undef=dM (a.put o.dst undef) ds:=by cases o.dst<;>rfl
     rw [aW];exact azL U
theorem akI(id:Nat)(I:qe F)(aI:l'.all xx=true)(h:wpList P l'.toArray (vU λe aU w'=>Q e (dM aU ds) w') l' a w):(Code.region id l'.toArray false).wpIn F n P Q (dM a ds) w:=
 WB id I aI (Gn (Q:=vU Q) h)
theorem akH(h:Fr N l a){c:Operand}{x:Code}{t:Bool}(av:a7 l c (.bool t))(bW:t=true)(hx:x.wpIn F n P Q (dM a ds) w):(Code.cond c x y).wpIn F n P Q (dM a ds) w:=
 wpIn_cond_true (by
  have:(dM a ds).eval c=a.eval c:=by cases c<;>rfl
  rw [this,h.eval _ _ av,bW]) hx
theorem akG(h:Fr N l a){c:Operand}{x:Code}{t:Bool}(av:a7 l c (.bool t))(bW:t=false)(aO:y.wpIn F n P Q (dM a ds) w):(Code.cond c x y).wpIn F n P Q (dM a ds) w:=
 wpIn_cond_false (by
  have:(dM a ds).eval c=a.eval c:=by cases c<;>rfl
  rw [this,h.eval _ _ av,bW]) aO
theorem asY(C:World->Prop)(id:Nat)(I:qe F)(aI:l'.all xx=true)(hm:P.follows .mixedOrders=true)(aH:Region.lexB .any l'.toArray=true)(jd:C (w.drewN 1))(h:wpQuiet P l'.toArray C (λaU=>∀w',C w'->Q .normal (dM aU ds) w') l' a):(Code.region id l'.toArray true).wpIn F n P Q (dM a ds) w:=by
 simp only [Region.lexB,atP]at aH;refine azN id I aI hm (azL (Q:=vU Q) (wpAny_of_quiet (Q:=λaU=>∀w',C w'->Q .normal (dM aU ds) w') (λ_ w' nF h=>⟨bl,h w' nF⟩) _ _ _ _ jd ?_));have:=wpAnyQ_lex (C:=C) (md:=.any) aH.1 l'.toArray.toList 0 (Array.replicate l'.toArray.size false) a bl (by simpa using aH.2) (by simpa using h);simpa using this
theorem akJ(id:Nat)(I:qe F)(aI:l'.all xx=true)(hm:P.follows .mixedOrders=true)(aH:Region.lexB .any l'.toArray=true)(h:wpQuiet P l'.toArray (λw'=>∃n,w'=w.drewN n) (λaU=>∀w',(∃n,w'=w.drewN n)->Q .normal (dM aU ds) w') l' a):(Code.region id l'.toArray true).wpIn F n P Q (dM a ds) w:=
 asY _ id I aI hm aH ⟨1,rfl⟩ h
theorem Fr.round{v0:Value}(h:Fr N l a)(aJ:Nat.blt nN N=true)(U:Nat.blt cN N=true):Fr N ((cN,v1)::(nN,v0)::l) { tmps:=((dM a ds).tmps.setIfInBounds nN v0).setIfInBounds cN v1,defers:=[] }:=by
 have ae:=(h.put aJ v0).put U v1;have e:(({ tmps:=((dM a ds).tmps.setIfInBounds nN v0).setIfInBounds cN v1,defers:=[] }:Act))=((a.put (some nN) v0).put (some cN) v1):=by
  have aI:=h.defers;cases a
  simp only at aI;subst aI;rfl
 rw [e];exact ae
theorem am'{v0:Value}{C:Code}(h:Fr N l a)(aJ:Nat.blt nN N=true)(U:Nat.blt cN N=true)(k:∀aU,Fr N ((cN,v1)::(nN,v0)::l) aU->C.wpIn F n P Q aU w):C.wpIn F n P Q { tmps:=((dM a ds).tmps.setIfInBounds nN v0).setIfInBounds cN v1,defers:=[] } w:=
 k _ (h.round aJ U)
theorem XH(h:Fr N l a)(D:Nat)(ik:List Nat):({ dM a (ik.map sH)with defers:={ target:=.collected D,args:=#[] }::(dM a (ik.map sH)).defers }:Act)=dM a ((D::ik).map sH):=aar h.defers _ _
theorem Mm(h:Fr N l a){o:Operand}(he:a7 l o v):(dM a ds).eval o=v:=by
 have:(dM a ds).eval o=a.eval o:=by cases o<;>rfl
 rw [this];exact h.eval _ _ he
theorem Xo{fn:Func}{tmps:Array Value}{R:Ending->World->Prop}:∀(ik:List Nat) (w:World),ik.Nodup->(∀D∈ik,w.heap[D]? =some (.deferred (some [])))->
  (∀w',zz ik w w'->∃v,(results fn tmps).run P w'=.ok v w'/\R (.returned v) w')->LeavesInM F n P fn tmps R (ik.map sH) .returning w
 | [],w,_,_,h=>h w (zz.refl _ w)
 |D::ik,w,ba,mj,h=>by
  have TZ:=mj D auy;have bu:=bO TZ;refine⟨bl,.inl ⟨D,_,rfl,run_takeDeferred TZ,Xo ik _ (ax7.1 ba).2 (λE bF=>?_) (λw' nF=>h w' ⟨nF.os,nF.tape,nF.output,by rw [nF.size];simp,λi ai=>?_⟩)⟩⟩
  · have b5:E≠D:=λe=>(ax7.1 ba).1 (e▸bF);rw [au3 b5];exact mj E (at0 _ bF)
  · rw [nF.same i (λhm=>ai (at0 _ hm)),au3 (λe=>ai (by subst e;exact auy))]
theorem akK{fn:Func}{R:Ending->World->Prop}(h:Fr N l a)(ba:ik.Nodup)(mj:∀D∈ik,w.heap[D]? =some (.deferred (some [])))(ab:∀w',zz ik w w'->∃v,(results fn a.tmps).run P w'=.ok v w'/\R (.returned v) w'):
  bodyPostM F n P fn R .ret (dM a (ik.map sH)) w:=by
 show LeavesInM F n P fn (dM a (ik.map sH)).tmps R (dM a (ik.map sH)).defers .returning w;have e:(dM a (ik.map sH)).defers=ik.map sH:=by simp [dM,h.defers]
 rw [e];exact Xo ik w ba mj ab
theorem amU{fn:Func}{p:Nat}{jF:Addr}(h:Fr N l a)(fI:fn.results=#[.cell p ty])(b0:P.underlying ty=some h2)(U:pV h2=true)(ao:look l p=some (.pointer (some jF)))(av:w.cell? jF=some v):(results fn a.tmps).run P w=.ok v w:=by
 have bw:=h.at_ _ _ ao;have bf:(loadVar ty jF).run P w=.ok v w:=by
  cases h2<;>simp [pV]at U<;>simp [loadVar,isAgg,auf b0,av]
 have dj:a.tmps[p]?.getD undef=.pointer (some jF):=by simp [bw]
 simp [results,fI,dj,asAddr,bf]
theorem aeo{fn:Func}{c:Code}{args:List Value}{R:Value->World->Prop}(bC:P.funcs[f]? =some fn)(hb:fn.body=some c)(k:Nat)(au:fn.ntmps - args.length=k)(N:Nat)(hO:args.length+k=N)(h:∀a,Fr N (args.zipIdx.map λp=>(p.2,p.1)) a->c.wpIn Fence.wide 9 P (bodyPostM Fence.wide 9 P fn (λe w'=>∃v,e=.returned v/\R v w')) (dM a []) w):bd P f args.toArray w R:=by
 refine callsIn_wide.1 (callsIn_of_wp_marks (n:=9) bC hb trivial ?_ rfl);have:=Fr.enter args N k hO;have ae:=h _ this;rw [aas]at ae;simpa [au]using ae
end
theorem afc{aq ax:World}{row r:Option Nat}(h:w.grownBy aq row)(k:aq.grownBy ax r)(aj:∀q,r=some q->row=some q\/w.heap.size<=q):w.grownBy ax row:=
 ⟨k.os.trans h.os,k.tape.trans h.tape,k.output.trans h.output,atN h.size k.size,λi ai b5=>(k.block i (by have:=h.size;omega) (λe=>by
  rcases aj i e.symm with q|q
  · exact b5 q.symm
  · omega)).trans (h.block i ai b5)⟩
theorem below_grown(h:w.grownBy w' none):Below w.heap.size w w':=(atL _ w).grown h (atI _) (λk au=>by cases au)
section
attribute [local irreducible] wpList wpQuiet wpStill Code.wp Exit.then Exit.inBlock bodyPost Calls bL eT
theorem sU{G hr:Prop}(k:hr)(h:Hid hr->G:=by intro jO;(repeat refine λ(yY:Nat)=>?_);intro a I;((first|refine wpIn_seq ?_|refine wpIn_block ?_|refine WB _ k8 (by rfl) ?_|refine WA ?_|refine mb ?_|refine Lz ?_|refine BS ?_|refine HI ?_|refine Et ?_|refine Lx ?_|refine wpIn_skip ?_|refine wpIn_exit ?_|refine wpIn_ret ?_|refine Ly rfl ?_|(refine tX ?_;rintro _ ⟨yY,rfl⟩)|refine aiL _ k8 (by rfl) mixed bh ?_|((first|apply st I|apply p4 I|apply Kx I|apply Ky I);(first|exact hv|exact k5|exact uC|exact oV|exact oU|exact wb|exact te|exact wq|exact wu|exact ql|exact ta|exact ps|exact wi (aA _ _ rfl)|exact wh (aA _ _ rfl)|exact tc (aA _ _ rfl)|exact wg|exact we|exact tb|exact q6 (aA _ _ rfl)|exact wk (aA _ _ rfl)|exact kL|exact uA (aA _ _ rfl) (aw _ _ rfl)|exact km (hz _ _ _ _ rfl) (aw _ _ rfl)|exact wx (aA _ _ rfl) (aw _ _ rfl)|exact wy (aA _ _ rfl) (aw _ _ rfl)|exact wz (aA _ _ rfl) (aw _ _ rfl)|exact r7 (aA _ _ rfl) (aw _ _ rfl)|exact wc (lU _ rfl)|exact wo (lU _ rfl)|exact uB (uy _ rfl)|exact wj);clear I;clear a;intro a I)|((first|apply GG I|apply GH I);intro ak ar;(first|exact hv|exact k5|exact uC|exact oV|exact oU|exact wb|exact te|exact wq|exact wu|exact ql|exact ta|exact ps|exact wi (aA _ _ rfl)|exact wh (aA _ _ rfl)|exact tc (aA _ _ rfl)|exact wg|exact we|exact tb|exact q6 (aA _ _ rfl)|exact wk (aA _ _ rfl)|exact kL|exact uA (aA _ _ rfl) (aw _ _ rfl)|exact km (hz _ _ _ _ rfl) (aw _ _ rfl)|exact wx (aA _ _ rfl) (aw _ _ rfl)|exact wy (aA _ _ rfl) (aw _ _ rfl)|exact wz (aA _ _ rfl) (aw _ _ rfl)|exact r7 (aA _ _ rfl) (aw _ _ rfl)|exact wc (lU _ rfl)|exact wo (lU _ rfl)|exact uB (uy _ rfl)|exact wj);clear I;clear a;intro a I)|((first|apply rL I|apply DT I|apply Kk I|apply Kl I);clear I;clear a;intro a I)|(apply aiJ I;exact rfl;first|exact rfl|assumption)|(apply aiI I;exact rfl;first|exact rfl|assumption)|refine Qt ?_));revert a;(repeat revert yY);exact jO.1):G:=h ⟨k⟩
theorem nb{G hr:Prop}(k:hr)(h:Hid hr->G:=by intro jO;(repeat refine sU ?_);exact jO.1):G:=h ⟨k⟩
theorem K2{G hr:Prop}(k:hr)(h:Hid hr->G:=by intro jO;(repeat refine λ(yY:Nat)=>?_);intro a I;((first|refine wpIn_seq ?_|refine wpIn_block ?_|refine akI _ k8 (by rfl) ?_|refine WA ?_|refine mb ?_|refine Lz ?_|refine BS ?_|refine HI ?_|refine Et ?_|refine Lx ?_|refine wpIn_skip ?_|refine wpIn_exit ?_|refine wpIn_ret ?_|refine Ly rfl ?_|(refine tX ?_;rintro _ ⟨yY,rfl⟩)|refine akJ _ k8 (by rfl) mixed bh ?_|((first|apply st I|apply p4 I|apply Kx I|apply Ky I);(first|exact hv|exact k5|exact uC|exact oV|exact oU|exact wb|exact te|exact wq|exact wu|exact ql|exact ta|exact ps|exact wi (aA _ _ rfl)|exact wh (aA _ _ rfl)|exact tc (aA _ _ rfl)|exact wg|exact we|exact tb|exact q6 (aA _ _ rfl)|exact wk (aA _ _ rfl)|exact kL|exact uA (aA _ _ rfl) (aw _ _ rfl)|exact km (hz _ _ _ _ rfl) (aw _ _ rfl)|exact wx (aA _ _ rfl) (aw _ _ rfl)|exact wy (aA _ _ rfl) (aw _ _ rfl)|exact wz (aA _ _ rfl) (aw _ _ rfl)|exact r7 (aA _ _ rfl) (aw _ _ rfl)|exact wc (lU _ rfl)|exact wo (lU _ rfl)|exact uB (uy _ rfl)|exact wj);clear I;clear a;intro a I)|((first|apply GG I|apply GH I);intro ak ar;(first|exact hv|exact k5|exact uC|exact oV|exact oU|exact wb|exact te|exact wq|exact wu|exact ql|exact ta|exact ps|exact wi (aA _ _ rfl)|exact wh (aA _ _ rfl)|exact tc (aA _ _ rfl)|exact wg|exact we|exact tb|exact q6 (aA _ _ rfl)|exact wk (aA _ _ rfl)|exact kL|exact uA (aA _ _ rfl) (aw _ _ rfl)|exact km (hz _ _ _ _ rfl) (aw _ _ rfl)|exact wx (aA _ _ rfl) (aw _ _ rfl)|exact wy (aA _ _ rfl) (aw _ _ rfl)|exact wz (aA _ _ rfl) (aw _ _ rfl)|exact r7 (aA _ _ rfl) (aw _ _ rfl)|exact wc (lU _ rfl)|exact wo (lU _ rfl)|exact uB (uy _ rfl)|exact wj);clear I;clear a;intro a I)|((first|apply rL I|apply DT I|apply Kk I|apply Kl I);clear I;clear a;intro a I)|(apply akH I;exact rfl;first|exact rfl|assumption)|(apply akG I;exact rfl;first|exact rfl|assumption)|refine Qt ?_));revert a;(repeat revert yY);exact jO.1):G:=h ⟨k⟩
theorem D4{G hr:Prop}(k:hr)(h:Hid hr->G:=by intro jO;(repeat refine K2 ?_);exact jO.1):G:=h ⟨k⟩
end
def o8(r:Int):Int:=if r<0 then -1 else if r<=127 then 1 else if r<=2047 then 2 else if 55296<=r/\r<=57343 then -1 else if r<=65535 then 3 else if r<=1114111 then 4 else -1
def ya(du fk hM lD:Nat)(bM c2 c3:Bool):Nat × Nat:=
 if du<0x80 then(du,1)
 else if du/32==6&&bM then
  let c:=(du%32)*64+fk%64
  if c>=0x80 then(c,2)else(65533,1)
 else if du/16==14&&bM&&c2 then
  let c:=(du%16)*4096+(fk%64)*64+hM%64
  if c>=0x800&&Utf8.valid c then(c,3)else(65533,1)
 else if du/8==30&&bM&&c2&&c3 then
  let c:=(du%8)*262144+(fk%64)*4096+(hM%64)*64+lD%64
  if c>=0x10000&&Utf8.valid c then(c,4)else(65533,1)
 else(65533,1)
def LS(s:ByteArray)(i k:Nat):Bool:=i+k<s.size&&(s.get! (i+k)).toNat/64==2
theorem SY(s:ByteArray)(i:Nat):Utf8.decode s i=ya (s.get! (i+0)).toNat (s.get! (i+1)).toNat (s.get! (i+2)).toNat (s.get! (i+3)).toNat (LS s i 1) (LS s i 2) (LS s i 3):=rfl
theorem am7(du fk hM lD:Nat)(bM c2 c3:Bool)(h:(ya du fk hM lD bM c2 c3).1≠65533):o8 ((ya du fk hM lD bM c2 c3).1:Nat)=((ya du fk hM lD bM c2 c3).2:Nat):=by
 revert h
 unfold ya;simp only;split
 · intro h;simp only [o8];repeat' split;all_goals omega
 split
 · split
   · intro h;simp only [o8];repeat' split;all_goals omega
   · intro h;exact absurd rfl h
 split
 · split
   · rename_i ao;intro h;simp only [ge_iff_le,Utf8.valid,atP,au9,atQ]at ao;simp only [o8];repeat' split;all_goals omega
   · intro h;exact absurd rfl h
 split
 · split
   · rename_i ao;intro h;simp only [ge_iff_le,Utf8.valid,atP,au9,atQ]at ao;simp only [o8];repeat' split;all_goals omega
   · intro h;exact absurd rfl h
 · intro h;exact absurd rfl h
theorem am8(s:ByteArray)(i:Nat)(h:(Utf8.decode s i).1≠65533):o8 ((Utf8.decode s i).1:Nat)=((Utf8.decode s i).2:Nat):=by
 rw [SY]at h ⊢;exact am7 _ _ _ _ _ _ _ h
theorem aiV(n i du fk hM lD:Nat)(bM c2 c3:Bool)(U:bM=(decide (i+1<n)&&fk/64==2))(ae:c2=(decide (i+2<n)&&hM/64==2))(h:(ya du fk hM lD bM c2 c3).1=65533):
   (ya du fk hM lD bM c2 c3).2=if i+2<n/\du=239/\fk=191/\hM=189 then 3 else 1:=by
 subst U ae
 revert h
 unfold ya;simp only [atP,atQ,av'];split
 · intro h;simp only at h;rw [atK bj]
 split
 · split
   · intro h;simp only at h;omega
   · intro h;rw [atK bj]
 split
 · rename_i av;split
   · intro h;simp only at h;rw [atM bj]
   · rename_i ao;intro h;rw [atK];rintro ⟨U,rfl,rfl,rfl⟩;exact ao bk
 split
 · split
   · intro h;simp only at h;omega
   · intro h;rw [atK bj]
 · rename_i U ae aM cc;intro h;rw [atK];rintro ⟨gA,rfl,rfl,rfl⟩;exact aM ⟨⟨bk,bj,bk⟩,bj,bk⟩
theorem aiW(s:ByteArray)(i:Nat)(h:(Utf8.decode s i).1=65533):(Utf8.decode s i).2=if i+2<s.size/\(s.get! i).toNat=239/\(s.get! (i+1)).toNat=191/\(s.get! (i+2)).toNat=189 then 3 else 1:=by
 rw [SY]at h ⊢;exact aiV s.size i _ _ _ _ _ _ _ rfl rfl h
def n8(r:Int):Bool:=decide (r<32\/r=127)
def fV(r:Int):Bool:=decide (r=32\/r=9\/r=10\/r=13)
def oR(s:ByteArray)(k:Nat):Bool:=vl s (cw s k).1||(n8 (jo s k)&& !fV (jo s k))
def Out(s:ByteArray):Option Nat->Prop
 |none=>∃K,(∀j,j<K->(cw s j).1<s.size/\oR s j=false)/\¬(cw s K).1<s.size
 |some k=>(∀j,j<k->(cw s j).1<s.size/\oR s j=false)/\(cw s k).1<s.size/\oR s k=true
theorem Hc(s:ByteArray)(i:Nat):∀d,(cw s i).1<=(cw s (i+d)).1
 | 0=>atI _
 |d+1=>atN (Hc s i d) (by rw [<-awb,zo];omega)
theorem apv{s:ByteArray}{K k:Nat}(cv:¬(cw s K).1<s.size)(au:(cw s k).1<s.size):k<K:=by
 rcases Nat.lt_or_ge k K with h|h
 · exact h
 · have:=Hc s K (k - K);rw [axa h]at this;omega
theorem Ti(s:ByteArray)(i j:Nat)(ah:j<=s.size)(k:Nat)(au:i+k<j):(s.extract i j).get! k=s.get! (i+k):=by
 have U:k<(s.extract i j).size:=by simp [awJ];omega
 have bw:=get_at U;have bf:=get_at (s:=s) (j:=i+k) bj;have dj:(s.extract i j)[k]=s[i+k]'bj:=by simp [ByteArray.getElem_extract]
 have fl:(s.extract i j)[k]? =some (s.extract i j)[k]:=by simp [U]
 have q7:s[i+k]? =some (s[i+k]'bj):=by simp [show i+k<s.size by omega]
 rw [fl]at bw;rw [q7]at bf;have f1:=aud bw;have f2:=aud bf;rw [<-f1,<-f2,dj]
theorem amj(s:ByteArray)(i:Nat)(du fk hM:UInt8)(h:i+2<s.size):((s.extract i s.size).extract 0 3=⟨#[du,fk,hM]⟩)↔(s.get! i=du/\s.get! (i+1)=fk/\s.get! (i+2)=hM):=by
 have bA:(s.extract i s.size).size=s.size - i:=by simp [awJ]
 have lg:((s.extract i s.size).extract 0 3).size=3:=by simp [awJ];omega
 have g:∀k,k<3->((s.extract i s.size).extract 0 3).get! k=s.get! (i+k):=λk au=>by
   rw [Ti _ 0 3 bj k bj,aub,Ti _ _ _ (atI _) k bj]
 have g0:=g 0 bk;have g1:=g 1 bk;have g2:=g 2 bk;rw [avo]at g0;constructor
 · intro e;rw [e]at g0 g1 g2;exact⟨g0.symm,g1.symm,g2.symm⟩
 · rintro ⟨aJ,U,ae⟩;rw [<-aJ,<-U,<-ae,<-g0,<-g1,<-g2];generalize (s.extract i s.size).extract 0 3=u at lg;rcases u with ⟨d⟩
   have aI:d.size=3:=lg;rcases d with ⟨l⟩
   match l,aI with
   | [x,y,z],_=>rfl
theorem QZ(b:UInt8)(n:Nat)(c:UInt8)(av:c.toNat=n):b=c↔b.toNat=n:=by
 rw [<-av];exact UInt8.toNat_inj.symm
theorem YF(s:ByteArray)(i:Nat)(h:i+2<s.size):((s.extract i s.size).extract 0 3=⟨#[239,191,189]⟩)↔((s.get! i).toNat=239/\(s.get! (i+1)).toNat=191/\(s.get! (i+2)).toNat=189):=by
 rw [amj s i 239 191 189 h,QZ _ 239 239 bk,QZ _ 191 191 bk,QZ _ 189 189 bk]
def zU(s:ByteArray)(i:Nat):Bool:=decide (3<=(s.extract i s.size).size)&&decide ((s.extract i s.size).extract 0 3=⟨#[239,191,189]⟩)
theorem Tm(s:ByteArray)(i:Nat):zU s i=true↔(i+2<s.size/\(s.get! i).toNat=239/\(s.get! (i+1)).toNat=191/\(s.get! (i+2)).toNat=189):=by
 have bA:(s.extract i s.size).size=s.size - i:=by simp [awJ]
 unfold zU;rw [atP,atQ,atQ,bA];constructor
 · rintro ⟨U,ae⟩;have h:i+2<s.size:=bj
   exact⟨h,(YF s i h).1 ae⟩
 · rintro ⟨U,ae⟩;exact⟨bj,(YF s i U).2 ae⟩
theorem aaq{s:ByteArray}{i:Nat}(h:(Utf8.decode s i).1=65533):(Utf8.decode s i).2=(if zU s i=true then 3 else 1)/\vl s i= !zU s i:=by
 constructor
 · rw [aiW s i h];simp only [Tm]
 · rw [axm,auI,<-ayZ,Tm];unfold vl;rw [h];simp only [atP,au9,atQ,axf,ne_eq,av'];omega
theorem Pc{s:ByteArray}{i:Nat}(h:(Utf8.decode s i).1≠65533):vl s i=false:=by
 unfold vl;have:((((Utf8.decode s i).1:Nat):Int)==65533)=false:=au8.2 bj;rw [this];rfl
section
variable {P:Program} {w:World} {l:List (Nat × Value)}
theorem adM{ai:Operand}{s:ByteArray}{k:IntKind}{q:Int}{t ty:TypeId}(b0:P.underlying t=some .string)(hx:a7 l x (.string s):=by exact rfl)(fa:a7 l ai (.int k q):=by exact rfl)(aZ:q=(j:Int):=by exact rfl)(ah:j<=s.size:=by omega):
  bL P l w (.slice t x none (some ai) none) ty (.string (s.extract 0 j)) w:=by
 intro cC aY d pos bx g;subst aZ;simp [execOp,Instr.sliceAt,Instr.slice,Instr.sliceBounds,run_sliceBound ah,aY _ _ hx,aY _ _ fa,auf b0]
end
section
attribute [local irreducible] wpList wpQuiet wpStill Code.wp Exit.then Exit.inBlock bodyPost Calls bL eT
theorem akn(w:World)(t:ByteArray):bd Tryz.prog 204 #[.string t,.string ⟨#[239,191,189]⟩] w (λv w'=>v=.bool (decide (3<=t.size)&&decide (t.extract 0 3=⟨#[239,191,189]⟩))/\w'=w):=by
 refine dP Tryz.func204 rfl 16 rfl 18 rfl (λa I=>?_);obtain⟨u,hu⟩:∃u:ByteArray,(⟨#[239,191,189]⟩:ByteArray)=u:=⟨_,rfl⟩;have bA:u.size=3:=by rw [<-hu];rfl
 rw [hu]at I ⊢;by_cases h:3<=t.size
 · revert a;(repeat first|refine ag ?_|refine J (adM (aA _ _ rfl) (j:=u.size)) ?_);intro a I;rw [bA]at I;exact bc I rfl rfl ⟨by rw [aur h,auN],rfl⟩
 · revert a;refine ad λa I=>?_;exact bc I rfl rfl ⟨by rw [auk h,awG],rfl⟩
theorem amk(w:World)(t:ByteArray):bd Tryz.prog 178 #[.string t,.string ⟨#[239,191,189]⟩] w (λv w'=>v=.bool (decide (3<=t.size)&&decide (t.extract 0 3=⟨#[239,191,189]⟩))/\w'=w):=by
 refine dP Tryz.func178 rfl 6 rfl 8 rfl (λa I=>?_);revert a;refine ad λa I=>?_;refine aQ I (akn w t) λa v aq ab I=>?_;obtain⟨rfl,rfl⟩:=ab;revert a;refine ad λa I=>?_;exact bc I rfl rfl ⟨rfl,rfl⟩
theorem Zb(w:World)(r:Int):bd Tryz.prog 179 #[.int .i32 r] w (λv w'=>v=.int .i64 (o8 r)/\w'=w):=by
 refine cF Tryz.func179 rfl 24 rfl 25 rfl (λa I=>?_);repeat' (first|refine fC ?_|refine R3 ?_|refine fB _ ?_|refine atJ ?_|refine mb ?_|refine BS ?_|refine HI ?_|refine Et ?_|refine wp_skip ?_|refine azB ?_|((first|apply st I|apply p4 I);(first|exact hv|exact k5|exact oV|exact oU|exact ql);clear I;clear a;intro a I)|((apply rL I);clear I;clear a;intro a I)|(apply HH I;exact rfl;first|exact rfl|assumption)|(apply R4 I;exact rfl;first|exact rfl|assumption)|((first|refine DR I (o5:=?_) (mx:=?_)|refine Bn I (o5:=?_) (mx:=?_))<;>(intro jA;simp only [atQ,aup,av',au8,axf,ne_eq,avF]at jA;clear I;clear a;intro a I)))
 all_goals refine bc I rfl rfl ⟨?_,rfl⟩
 all_goals (congr 1;unfold o8;repeat' split)
 all_goals omega
theorem Sy(w:World)(r:Int):bd Tryz.prog 180 #[.int .i32 r] w (λv w'=>v=.bool (n8 r)/\w'=w):=by
 refine cF Tryz.func180 rfl 8 rfl 9 rfl (λa I=>?_);repeat' (first|refine fC ?_|refine fB _ ?_|refine atJ ?_|refine mb ?_|refine azB ?_|((first|apply st I|apply p4 I);(first|exact hv|exact k5|exact oV|exact oU);clear I;clear a;intro a I)|((apply rL I);clear I;clear a;intro a I)|((first|refine DR I (o5:=?_) (mx:=?_)|refine Bn I (o5:=?_) (mx:=?_))<;>(intro jA;simp only [atQ,aup,av',au8,axf,ne_eq,avF]at jA;clear I;clear a;intro a I)))
 all_goals exact bc I rfl rfl ⟨by first|exact atW Value.bool (aur bj).symm|exact atW Value.bool (auk bj).symm,rfl⟩
theorem abf(w:World)(r:Int):bd Tryz.prog 181 #[.int .i32 r] w (λv w'=>v=.bool (fV r)/\w'=w):=by
 refine cF Tryz.func181 rfl 16 rfl 17 rfl (λa I=>?_);repeat' (first|refine fC ?_|refine fB _ ?_|refine atJ ?_|refine mb ?_|refine azB ?_|((first|apply st I|apply p4 I);(first|exact hv|exact k5|exact oV|exact oU);clear I;clear a;intro a I)|((apply rL I);clear I;clear a;intro a I)|((first|refine DR I (o5:=?_) (mx:=?_)|refine Bn I (o5:=?_) (mx:=?_))<;>(intro jA;simp only [atQ,aup,av',au8,axf,ne_eq,avF]at jA;clear I;clear a;intro a I)))
 all_goals exact bc I rfl rfl ⟨by first|exact atW Value.bool (aur bj).symm|exact atW Value.bool (auk bj).symm,rfl⟩
end
end Go.Proofs.YtnkjmbbddmgjiaaGreatDoor