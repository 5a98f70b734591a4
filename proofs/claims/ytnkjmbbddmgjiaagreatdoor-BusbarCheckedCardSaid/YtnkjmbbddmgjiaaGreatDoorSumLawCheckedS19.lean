import Derived.Test.YtnkjmbbddmgjiaaGreatDoorSumLawCheckedS18
set_option linter.unusedSimpArgs false
set_option linter.unusedVariables false
set_option maxRecDepth 1000000
set_option maxHeartbeats 400000000
namespace Go.Proofs.YtnkjmbbddmgjiaaGreatDoor
open Go.RowKit Go.Proofs.Tryz
variable {w w':World}{xs ys:List Ins}{ay pq:Option Addr}
section
attribute [local irreducible] wpList wpQuiet wpStill Code.wp Exit.then Exit.inBlock bodyPost Calls bL eT
structure kE(base:Nat)(w:World)(b:Nat)(xs:List Ins):Prop where
 ex:∃ay c,w.heap[b]? =some (.cells #[.slice ay xs.length c] 25 (0,0))/\w.ownsRow base 66 5 (.slice ay xs.length c) xs.length (xs.flatMap Ins.cells)
 bq:base<=b
theorem kE.below{base b:Nat}(h:kE base w b xs)(hb:Below w.heap.size w w'):kE base w' b xs:=by
 obtain⟨ay,c,U,ae⟩:=h.ex;exact⟨⟨ay,c,bG hb U,cW ae hb⟩,h.bq⟩
def Bc(b:Nat):Value:=.func (.func 199) #[] #[.pointer (some ⟨b,0,none⟩)]
structure qg(base:Nat)(w:World)(b:Nat)(xs:List Ins)(ay:Option Addr)(c:Nat):Prop where
 dJ:w.heap[b]? =some (.cells #[.slice ay xs.length c] 25 (0,0))
 own:w.ownsRow base 66 5 (.slice ay xs.length c) xs.length (xs.flatMap Ins.cells)
 bq:base<=b
theorem qg.below{base b c:Nat}(h:qg base w b xs ay c)(hb:Below w.heap.size w w'):qg base w' b xs ay c:=⟨bG hb h.dJ,cW h.own hb,h.bq⟩
theorem Kj(w:World){base b:Nat}{m c c0:Nat}(h:qg base w b xs ay c0)(hm:ys.length=m)(ab:dA w pq 5 Ins.cells ys)(aN:xs.length+m<=10000)(aH:base<=w.heap.size):
   kD prog (Bc b) [.slice pq m c] w (λ_ w'=>kE base w' b (xs++ys)/\Below base w w'/\∀k,k<w.heap.size->k≠b->(Value.slice ay xs.length c0).ownBlock≠some k->w'.heap[k]? =w.heap[k]?):=by
 obtain⟨az,aX,pJ⟩:=h;refine⟨_,_,_,rfl,ab',?_⟩;refine dP func199 rfl 4 rfl 6 rfl (λa I=>?_);revert a;(repeat first|refine ag ?_|refine J (af (aF az rfl)) ?_);intro a I;refine G8 I j' bk (aA _ _ rfl) fK rfl aX hm ab (λy v ao=>ry y v (by simpa using ao)) bj bn aH (k:=λa eM c2 ax eR aS I=>?_);have aP:=aD az aS (fT aX az bk);have aC:=(atL _ w).grown aS aH (λk au=>(avc aX k au).1);refine cr I (aw _ _ rfl) aP (i:=0) (show 0<1 by decide) rfl rfl rfl (k:=λa a6 bR bz eE I=>?_);replace eR:=gH eR bz (fT eR aP bk).symm;have a1:=aC.grown bz (atN aH aC.size) (λk au=>by cases au;exact pJ);subst hm;revert a;refine ad λa I=>?_;refine lo I rfl ⟨⟨⟨eM,c2,?_,?_⟩,pJ⟩,a1,λk au U ae=>?_⟩
 · rw [bR,atV];rfl
 · rw [atV,avT];exact eR
 · exact(bz.block k (auj au aC.size) (by simp;exact U)).trans (aS.block k au (λe=>ae e.symm))
theorem sK(w:World){base b:Nat}{m c:Nat}(h:kE base w b xs)(hm:ys.length=m)(ab:dA w pq 5 Ins.cells ys)(aN:xs.length+m<=10000)(aH:base<=w.heap.size):
  kD prog (Bc b) [.slice pq m c] w (λ_ w'=>kE base w' b (xs++ys)/\Below base w w'):=by
 obtain⟨ay,c0,az,aX⟩:=h.ex;exact(Kj w ⟨az,aX,h.bq⟩ hm ab aN aH).mono (λ_ _ aj=>⟨aj.1,aj.2.1⟩)
theorem JP(w:World):bd prog 145 #[] w (λv w'=>v=.tuple #[.pointer (some ⟨w.heap.size,0,none⟩),Bc w.heap.size]/\kE w.heap.size w' w.heap.size []/\Below w.heap.size w w'):=by
 refine yd func145 rfl 4 rfl 4 rfl (λa I=>?_);revert a;refine ad λa I=>?_;refine b6 I ai2 λa aq aE aT b8 I=>?_;revert a;(repeat first|refine ag ?_|refine J (wm (vs:=[.pointer (some ⟨w.heap.size,0,none⟩)]) ⟨rfl,trivial⟩) ?_);intro a I;exact eI I rfl rfl rfl ⟨rfl,⟨⟨none,0,aE,auH _ _ _ _⟩,atI _⟩,ca aT⟩
theorem aeK(w:World)(s:Bool):bd prog 201 [.bool s].toArray w (λv w'=>v=.int .u64 (if s then 1 else 0)/\w'=w):=by
 cases s
 all_goals
  refine cF func201 rfl 3 rfl 4 rfl (λa I=>?_);revert a;refine ad λa I=>?_;exact bc I rfl rfl ⟨rfl,rfl⟩
def qS(r f t:Nat):List Ins:=if t<f then [⟨7,r,0,f - t,0⟩]else if f<t then [⟨6,r,0,t - f,0⟩]else []
theorem XD(w:World)(r f t:Nat)(aj:r<=100)(bC:f<=100)(bW:t<=100):bd prog 202 [.int .i64 (r:Nat),.int .i64 (f:Nat),.int .i64 (t:Nat)].toArray w
   (λv w'=>(∃pq c,v=.slice pq (qS r f t).length c/\dA w' pq 5 Ins.cells (qS r f t))/\Below w.heap.size w w'):=by
 refine mf func202 rfl 24 rfl 27 rfl (λa I=>?_);by_cases U:t<f
 · have bw:qS r f t=[⟨7,r,0,f - t,0⟩]:=by rw [qS,atM U]
   rw [bw];revert a;refine ad λa I=>?_;rw [show((f:Int)- (t:Int))=((f - t:Nat):Int) by omega]at I;revert a;(repeat first|refine ag ?_|refine J (cA (vs:=[(0,.int .i64 7),(1,.int .i64 (r:Nat)),(3,.int .i64 ((f - t:Nat):Int))]) (cells:=(Ins.cells ⟨7,r,0,f - t,0⟩).toArray) bh ⟨rfl,rfl,rfl,rfl,rfl,rfl,trivial⟩) ?_|refine J (np (us:=(Ins.cells ⟨7,r,0,f - t,0⟩).toArray) (aA _ _ rfl) fK bk bk rfl) ?_);intro a I;exact bc I rfl rfl ⟨⟨_,_,rfl,qO w 5 Ins.cells j' [⟨7,r,0,f - t,0⟩] _ _ bl⟩,e7 _ _⟩
 by_cases ae:f<t
 · have bw:qS r f t=[⟨6,r,0,t - f,0⟩]:=by rw [qS,atK U,atM ae]
   rw [bw];revert a;refine ad λa I=>?_;rw [show((t:Int)- (f:Int))=((t - f:Nat):Int) by omega]at I;revert a;(repeat first|refine ag ?_|refine J (cA (vs:=[(0,.int .i64 6),(1,.int .i64 (r:Nat)),(3,.int .i64 ((t - f:Nat):Int))]) (cells:=(Ins.cells ⟨6,r,0,t - f,0⟩).toArray) bh ⟨rfl,rfl,rfl,rfl,rfl,rfl,trivial⟩) ?_|refine J (np (us:=(Ins.cells ⟨6,r,0,t - f,0⟩).toArray) (aA _ _ rfl) fK bk bk rfl) ?_);intro a I;exact bc I rfl rfl ⟨⟨_,_,rfl,qO w 5 Ins.cells j' [⟨6,r,0,t - f,0⟩] _ _ bl⟩,e7 _ _⟩
 · have bw:qS r f t=[]:=by simp [qS,U,ae]
   rw [bw];revert a;refine ad λa I=>?_;exact bc I rfl rfl ⟨⟨_,_,rfl,λi ai=>by simp at ai⟩,atL _ _⟩
end
end Go.Proofs.YtnkjmbbddmgjiaaGreatDoor
namespace Go.Proofs.YtnkjmbbddmgjiaaGreatDoor.bH
open Go.RowKit Go.Proofs.Tryz
def oB(bV:Bool)(b:Int):Int:=if bV=false then b+1 else if b%8=0 then b+15 else b - 1
def seqB(bV:Bool):Int->Nat->List Int
 |_,0=>[]
 |b,n+1=>b::seqB bV (oB bV b) n
def jv(start size:Int)(bV:Bool):Except Int (List Int):=
 if size<1\/64<size then .error 15
 else if start<0\/63<start then .error 16
 else if (seqB bV start size.toNat).all (· <=63)then .ok (if bV then(seqB bV start size.toNat).reverse else seqB bV start size.toNat)
 else .error 16
theorem xK(bV:Bool):∀n b,(seqB bV b n).length=n
 | 0,_=>rfl
 |n+1,b=>by simp [seqB,xK bV n]
def Dd(b:Int):Int:=8*(b/8)+7- b%8
def pos(bV:Bool)(b:Int):Int:=if bV then Dd b else b
theorem ak5(b:Int):Dd (Dd b)=b:=by unfold Dd;omega
theorem Ba(bV:Bool)(b:Int):pos bV (pos bV b)=b:=by unfold pos;cases bV<;>simp [ak5]
theorem P3(bV:Bool)(b:Int):pos bV (oB bV b)=pos bV b+1:=by
 unfold pos oB Dd;cases bV
 · simp
 · simp;split<;>omega
theorem YB(bV:Bool)(b:Int):0<=pos bV b↔0<=b:=by unfold pos Dd;cases bV<;>simp;omega
theorem GV(bV:Bool):∀n b i (h:i<(seqB bV b n).length),(seqB bV b n)[i]=pos bV (pos bV b+i)
 | 0,_,_,h=>by simp [seqB]at h
 |n+1,b,0,_=>by simp [seqB,Ba]
 |n+1,b,i+1,h=>by
  have e9:i<(seqB bV (oB bV b) n).length:=by simpa [seqB]using h
  have:=GV bV n (oB bV b) i e9;simp only [seqB,axB,this,P3]
  congr 1
  push_cast
  omega
theorem an3{bV:Bool}{n:Nat}{b x:Int}(h:x∈seqB bV b n):∃i,i<n/\x=pos bV (pos bV b+i):=by
 obtain⟨i,ai,rfl⟩:=avh h;exact⟨i,by rw [xK]at ai;exact ai,GV bV n b i ai⟩
theorem an4{bV:Bool}{n:Nat}{b:Int}{i:Nat}(h:i<n):pos bV (pos bV b+i)∈seqB bV b n:=by
 rw [<-GV bV n b i (by rw [xK];exact h)];exact at6 _
theorem alm{bV:Bool}{b:Int}(aJ:0<=b)(U:b<=63):0<=oB bV b/\oB bV b<=78:=by
 unfold oB;cases bV<;>simp<;>(try split)<;>omega
theorem Zi(bV:Bool):∀n b,seqB bV b (n+1)=seqB bV b n++ [pos bV (pos bV b+n)]
 | 0,b=>by simp [seqB,Ba]
 |n+1,b=>by
  rw [seqB,Zi bV n (oB bV b),seqB,P3];simp only [avb]
  congr 4
  push_cast
  omega
theorem aa4(l:List Int)(x:Int):(l++ [x]).all (· <=63)=(l.all (· <=63)&&decide (x<=63)):=bl
def nth(bV:Bool)(b:Int):Nat->Int
 | 0=>b
 |n+1=>oB bV (nth bV b n)
theorem PL(bV:Bool)(b:Int):∀n,nth bV b n=pos bV (pos bV b+n)
 | 0=>by simp [nth,Ba]
 |n+1=>by
  have:=P3 bV (nth bV b n);have ae:=PL bV b n;rw [nth,<-Ba bV (oB bV (nth bV b n)),this,ae,Ba]
  congr 1
  push_cast
  omega
theorem Zj(bV:Bool)(n:Nat)(b:Int):seqB bV b (n+1)=seqB bV b n++ [nth bV b n]:=by rw [Zi,PL]
theorem aa5{bV:Bool}{b:Int}{n k:Nat}(h:k<n)(hb:63<nth bV b k):(seqB bV b n).all (· <=63)=false:=by
 rw [List.all_eq_false];refine⟨nth bV b k,?_,bm⟩;rw [PL];exact an4 h
theorem abe{start size:Int}{bV:Bool}{l:List Int}(h:jv start size bV=.ok l):
   1<=size/\size<=64/\0<=start/\start<=63/\(l.length:Int)=size/\(∀x∈l,0<=x/\x<=63)/\(∀x,x∈l↔x∈seqB bV start size.toNat)/\l=(if bV then(seqB bV start size.toNat).reverse else seqB bV start size.toNat):=by
 unfold jv at h;split at h
 · cases h
 split at h
 · cases h
 split at h
 · rename_i U ae aM;cases h
   have hm:∀x,x∈(if bV then(seqB bV start size.toNat).reverse else seqB bV start size.toNat)↔x∈seqB bV start size.toNat:=by intro x;cases bV<;>simp
   refine⟨bj,bj,bj,bj,?_,λx hx=>?_,hm,rfl⟩
   · cases bV<;>simp [xK]<;>omega
   · have fJ:=(hm x).1 hx;have cc:=au7.1 aM x fJ;obtain⟨i,ai,rfl⟩:=an3 fJ;have gA:0<=pos bV (pos bV start+i):=(YB _ _).2 (by have:=(YB bV start).2 bj;omega);exact⟨gA,by simpa using cc⟩
 · cases h
end Go.Proofs.YtnkjmbbddmgjiaaGreatDoor.bH
namespace Go.Proofs.YtnkjmbbddmgjiaaGreatDoor
open Go.RowKit Go.Proofs.Tryz
variable {w w':World}{xs ys:List Ins}{ay pq:Option Addr}
section
attribute [local irreducible] wpList wpQuiet wpStill Code.wp Exit.then Exit.inBlock bodyPost Calls bL eT
structure Ej(cs:Array Value)(start size:Int)(bV:Bool):Prop where
 len:cs.size=19
 st:cs[5]? =some (.int .i64 start)
 sz:cs[6]? =some (.int .i64 size)
 PD:cs[7]? =some (.bool bV)
end
end Go.Proofs.YtnkjmbbddmgjiaaGreatDoor
namespace Go.Proofs
open Go.RowKit
section
open Go.Shelf
def Tryz.ake:Go.Shelf.Ren:=⟨λ| 112=>240 |n=>n,λ| 28=>143 | 3=>3 | 4=>4 | 0=>0 |n=>n,λ|n=>n⟩
theorem Tryz.akd:Go.Proofs.Lays.n112 Tryz.prog Tryz.ake:={
 mixed:=bh
 f112:=Tryz.func240.trans (atW some bh)
 t0:=avk
 a0:=av8
 z0:=avY
 v0:=avu
 t3:=atX
 a3:=avz
 z3:=avr
 v3:=auZ
 t4:=aut
 a4:=avi
 z4:=ave
 v4:=auz
 t28:=Tryz.underlying143
 a28:=Tryz.isAgg143
 z28:=Tryz.sizeOf143
 v28:=Tryz.zeroValue143 }
end
end Go.Proofs
namespace Go.Proofs.YtnkjmbbddmgjiaaGreatDoor
open Go.RowKit Go.Proofs.Tryz
variable {w w':World}{xs ys:List Ins}{ay pq:Option Addr}
section
attribute [local irreducible] wpList wpQuiet wpStill Code.wp Exit.then Exit.inBlock bodyPost Calls bL eT
section
open Go.Sort Go.Shelf
theorem amX(w:World)(xs:List Int)(base g n c:Nat)(aX:w.ownsRow base 3 1 (.slice (some ⟨g,0,none⟩) n c) n (xs.map (.int .i64)))(hb:n<=9223372036854775807):
   bd prog 240 #[.slice (some ⟨g,0,none⟩) n c] w (λv w'=>w'.ownsRow base 3 1 (.slice (some ⟨g,0,none⟩) n c) n (xs.reverse.map (.int .i64))/\w.grownBy w' (some g)):=by
 have ba:xs.length=n:=by simpa using aX.1
 subst ba;rcases aX.2 with ⟨aJ,_⟩|⟨jx,ev,cur,aJ,Cq,az,hle,hm,bT,gZ⟩
 · cases aJ
 obtain⟨rfl,rfl⟩:jx=g/\ev=c:=by cases aJ;exact⟨rfl,rfl⟩
 rw [axE]at gZ;have h:=Any.slices_Reverse_int Tryz.akd jx 0 ev xs w (holds_of_blockI az gZ) bj;refine auC h ?_;rintro e w' ⟨rfl,n,rfl⟩;refine⟨_,rfl,?_,?_⟩
 · have:=ownsRow_sortedI (w:=w) (n:=n) (os:=#[]) (ts:=xs.reverse) (ss:=xs) bl Cq az hle hm bT
   rwa [grow_empty]at this
 · have:=grownBy_sortedI (w:=w) (g:=jx) (n:=n) (os:=#[]) xs.reverse.toArray
   rwa [grow_empty]at this
end
theorem alq(w:World)(iK o9:Nat)(cs:Array Value)(start size b:Int)(bV:Bool)(e:TypeId)(aG:Ej cs start size bV)(vi:w.heap[o9]? =some (.cells cs 133 (0,0)))(kU:w.heap[iK]? =some (.cells #[.int .i64 b] 3 (0,0)))(aJ:0<=b)(U:b<=100):
  bd prog 264 #[.pointer (some ⟨iK,0,none⟩),.pointer (some ⟨o9,0,none⟩)] w (λv w'=>v=.int .i64 b/\w'.heap[iK]? =some (.cells #[.int .i64 (bH.oB bV b)] 3 (0,0))/\w.grownBy w' (some iK)):=by
 have c0:w.cell? ⟨iK,0,none⟩=some (.int .i64 b):=aF kU rfl;have l9:=aF vi aG.PD;refine dP func264 rfl 18 rfl 20 rfl (λa I=>?_);cases bV with
 |false=>
  have hx:bH.oB false b=b+1:=rfl;rw [hx];revert a;(repeat first|refine ag ?_|refine J (af c0) ?_|refine J (af l9) ?_);intro a I;refine cr I (aw _ _ rfl) kU (i:=0) bl rfl rfl rfl λa w' o1 an bT I=>?_;revert a;refine ad λa I=>?_;exact bc I rfl rfl ⟨rfl,o1,an⟩
 |true=>
  by_cases ko:b%8=0
  · have hx:bH.oB true b=b+15:=by simp [bH.oB,ko]
    rw [hx];revert a;(repeat first|refine ag ?_|refine J (af c0) ?_|refine J (af l9) ?_);intro a I;refine cr I (aw _ _ rfl) kU (i:=0) bl rfl rfl rfl λa w' o1 an bT I=>?_;revert a;refine ad λa I=>?_;exact bc I rfl rfl ⟨rfl,o1,an⟩
  · have hx:bH.oB true b=b - 1:=by simp [bH.oB,ko]
    rw [hx];revert a;(repeat first|refine ag ?_|refine J (af c0) ?_|refine J (af l9) ?_);intro a I;refine cr I (aw _ _ rfl) kU (i:=0) bl rfl rfl rfl λa w' o1 an bT I=>?_;revert a;refine ad λa I=>?_;exact bc I rfl rfl ⟨rfl,o1,an⟩
theorem adg(w:World)(cs:Array Value)(start size:Int)(bV:Bool)(aG:Ej cs start size bV):
   bd prog 239 #[.agg cs] w (λv w'=>∃iK o9,w.heap.size<=iK/\w.heap.size<=o9/\iK≠o9/\v=.func (.func 264) #[] [.pointer (some ⟨iK,0,none⟩),.pointer (some ⟨o9,0,none⟩)].toArray/\
    w'.heap[o9]? =some (.cells cs 133 (0,0))/\w'.heap[iK]? =some (.cells #[.int .i64 start] 3 (0,0))/\w.grownBy w' none):=by
 refine cF func239 rfl 6 rfl 7 rfl (λa I=>?_);revert a;refine ad λa I=>?_;refine di I (cs:=cs) rfl (k:=λa aq vi an bT I=>?_);have c5:=aF vi aG.st;revert a;(repeat first|refine ag ?_|refine J (af c5) ?_);intro a I;refine b6 I sF λa ax kU aS cZ I=>?_;have kU:ax.heap[aq.heap.size]? =some (.cells #[.int .i64 0] 3 (0,0)):=kU;have xd:=aD vi aS bl
 skip
 refine cr I (aw _ _ rfl) kU (i:=0) bl rfl rfl rfl λa a6 Av bz eE I=>?_;have AD:=aD xd bz bm;revert a;(repeat first|refine ag ?_|refine J (wm (vs:=[.pointer (some ⟨aq.heap.size,0,none⟩),.pointer (some ⟨w.heap.size,0,none⟩)]) ⟨rfl,rfl,trivial⟩) ?_);intro a I;refine bc I rfl rfl ⟨aq.heap.size,w.heap.size,bj,bj,bj,rfl,AD,Av,?_⟩;refine⟨?_,?_,?_,?_,?_⟩
 · exact bz.os.trans (aS.os.trans an.os)
 · exact bz.tape.trans (aS.tape.trans an.tape)
 · exact bz.output.trans (aS.output.trans an.output)
 · omega
 · intro k au b5;rw [bz.block k bj bm,aS.block k bj bl,an.block k au bl]
def aaL(base:Nat)(w:World)(v:Value):Except Int (List Int)->Prop
 | .ok l=>∃g cap,v=.tuple #[.slice (some ⟨g,0,none⟩) l.length cap,.nilIface]/\base<=g/\w.ownsRow base 3 1 (.slice (some ⟨g,0,none⟩) l.length cap) l.length (l.map (.int .i64))
 | .error e=>v=.tuple #[.slice none 0 0,.iface 70 (.int .i64 e)]
theorem Lq(w:World)(cs:Array Value)(start size:Int)(bV:Bool)(aG:Ej cs start size bV):
   bd prog 200 #[.agg cs] w (λv w'=>aaL w.heap.size w' v (bH.jv start size bV)/\Below w.heap.size w w'):=by
 refine cF func200 rfl 48 rfl 49 rfl (λa I=>?_);revert a;refine ad λa I=>?_;refine di I (cs:=cs) rfl (k:=λa aq vi an b8 I=>?_);have c5:=aF vi aG.st;have kj:=aF vi aG.sz;have aB:=aK (atL _ w) an (atI _);by_cases U:size<1\/64<size
 · have bF:bH.jv start size bV=.error 15:=by unfold bH.jv;rw [atM U]
   by_cases ae:size<1;all_goals
     revert a;(repeat first|refine ag ?_|refine J (af kj) ?_);intro a I;refine eI I rfl rfl rfl ⟨?_,aB⟩;rw [bF];rfl
 by_cases aM:start<0\/63<start
 · have bF:bH.jv start size bV=.error 16:=by unfold bH.jv;rw [atK U,atM aM]
   by_cases ae:start<0;all_goals
     revert a;(repeat first|refine ag ?_|refine J (af c5) ?_|refine J (af kj) ?_);intro a I;refine eI I rfl rfl rfl ⟨?_,aB⟩;rw [bF];rfl
 have bF:bH.jv start size bV=if (bH.seqB bV start size.toNat).all (· <=63)then .ok (if bV then(bH.seqB bV start size.toNat).reverse else bH.seqB bV start size.toNat)else .error 16:=by unfold bH.jv;rw [atK U,atK aM]
 obtain⟨S,bS⟩:∃S:Nat,size=(S:Int):=⟨size.toNat,bj⟩;subst bS;rw [avJ]at bF;revert a;(repeat first|refine ag ?_|refine J (af c5) ?_|refine J (af kj) ?_);intro a I;refine aoF I (aA _ _ rfl) sF (c:=S) (base:=w.heap.size) bj bn aB.size rfl (k:=λa ax eR aS I=>?_);have xd:=aD vi aS bl;have aC:=aK aB aS aB.size;revert a;(repeat first|refine ag ?_|refine J (fR (agg _ rfl) (aw _ _ rfl) aG.len (dy xd)) ?_);intro a I;refine aQ I (adg ax cs start S bV aG) λa v a6 ab I=>?_;obtain⟨iK,o9,asc,asu,b5,rfl,UU,Av,bz⟩:=ab;have AD:=aD xd bz bl;have jz:=A7 eR bz;have a1:=aK aC bz aC.size;have fE:=aC.size;have xj:=aS.size;have rm:aq.heap.size<ax.heap.size:=(eR.lt _ rfl).2;clear eR aC aB vi xd c5 kj;revert a;refine ad λa I=>?_;refine eg (λn a wr=>∃k ej ev,k<=S/\n=S - k/\Fr 49 [(1,.pointer (some ⟨w.heap.size,0,none⟩)),(4,.slice ej k ev),(5,.func (.func 264) #[] [.pointer (some ⟨iK,0,none⟩),.pointer (some ⟨o9,0,none⟩)].toArray)] a/\
   (bH.seqB bV start k).all (· <=63)=true/\0<=bH.nth bV start k/\bH.nth bV start k<=78/\
   wr.ownsRow w.heap.size 3 1 (.slice ej k ev) k ((bH.seqB bV start k).map (.int .i64))/\wr.heap[w.heap.size]? =some (.cells cs 133 (0,0))/\wr.heap[o9]? =some (.cells cs 133 (0,0))/\wr.heap[iK]? =some (.cells #[.int .i64 (bH.nth bV start k)] 3 (0,0))/\
   (∀q,(Value.slice ej k ev).ownBlock=some q->q≠iK)/\iK<wr.heap.size/\Below w.heap.size w wr) S
   ⟨0,_,_,bj,rfl,I.bb,rfl,by simp only [bH.nth];omega,by simp only [bH.nth];omega,jz,AD,UU,Av,?_,bO Av,a1⟩ ?_
 · intro q aZ;simp only [Value.ownBlock,auW]at aZ;omega
 clear I a jz AD UU Av a1 bz;rintro n a wr ⟨k,ej,ev,au,rfl,I,j7,iS,jL,aX,OE,AD,Av,Og,asd,cH⟩;have bA:=cH.size;have kj:=aF OE aG.sz;have l9:=aF OE aG.PD;by_cases bu:k<S
 · revert a;(repeat first|refine ag ?_|refine J (af kj) ?_);intro a I;refine ZN I (alq wr iK o9 cs start S _ bV 3 aG AD Av iS bj) acg (vs:=[]) (cs:=[.pointer (some ⟨iK,0,none⟩),.pointer (some ⟨o9,0,none⟩)]) trivial (k:=λa v bZ ab I=>?_);obtain⟨rfl,ahw,bD⟩:=ab;have vc:=gH aX bD (λe=>Og iK e rfl);have b7:=aK cH bD bA;have V3:=aD OE bD bm;have V4:=aD AD bD bm;by_cases qu:63<bH.nth bV start k
   · revert a;refine ad λa I=>?_;refine eI I rfl rfl rfl ⟨?_,b7⟩;rw [bF,bH.aa5 bu qu];rfl
   · have yu:=bH.alm (bV:=bV) iS bj;revert a;refine ad λa I=>?_;refine aoG I (aA _ _ rfl) sF rfl vc bj bn b7.size (k:=λa eM fr bN yC br lN I=>?_);have aic:(bH.seqB bV start k).map (Value.int .i64)++ [.int .i64 (bH.nth bV start k)]=(bH.seqB bV start (k+1)).map (.int .i64):=by rw [bH.Zj];simp
     rw [aic]at yC;have cx:=j0 b7 b7.size vc br;have ahW:some iK≠(Value.slice ej k ev).ownBlock:=λe=>Og iK e.symm rfl;revert a;refine ad λa I=>?_;refine⟨S - (k+1),bj,k+1,eM,fr,bj,rfl,I.bb,?_,yu.1,yu.2,yC,
       aD V3 br (jk vc V3 bk),aD V4 br (jk vc V4 bk),aD ahw br ahW,?_,?_,cx⟩
     · rw [bH.Zj,bH.aa4,j7,aur bj];rfl
     · intro q aZ;rcases lN with e|e
       · rw [e]at aZ;exact Og q aZ
       · rw [e]at aZ;have:=bD.size;simp only [auW]at aZ;omega
     · have:=bD.size;have:=br.size;omega
 · obtain rfl:k=S:=bj
   have az:=aX.1;rw [av9,bH.xK]at az;obtain⟨g,rfl,Cq⟩:=nM aX bj;rw [j7]at bF;simp only [ayw]at bF;cases bV with
   |false=>
     revert a;(repeat first|refine ag ?_|refine J (af kj) ?_|refine J (af l9) ?_);intro a I;refine eI I rfl rfl rfl ⟨?_,cH⟩;rw [bF];simp only [awe,axp];refine⟨g,ev,by rw [bH.xK],Cq,?_⟩;rw [bH.xK];exact aX
   |true=>
     revert a;(repeat first|refine ag ?_|refine J (af kj) ?_|refine J (af l9) ?_);intro a I;refine aQ I (amX wr (bH.seqB true start k) w.heap.size g k ev aX bj) λa v bN ab I=>?_;obtain⟨yC,br⟩:=ab;revert a;refine ad λa I=>?_;refine eI I rfl rfl rfl ⟨?_,aK cH br bA⟩;rw [bF];simp only [ayw];refine⟨g,ev,by rw [azu,bH.xK],Cq,?_⟩;rw [azu,bH.xK];exact yC
def Qi(k b:Nat):List Ins:=⟨2,2,1,0,0⟩::(qS 2 k (b%8)++ [⟨13,2,b/8,1,2^(b%8)⟩])
def kx(i n:Nat)(cn:Bool)(row:List Nat):Nat->List Ins
 | 0=>[⟨15,1,i,0,0⟩,⟨17,1,i,n,if cn then 1 else 0⟩]
 |k+1=>kx i n cn row k++Qi k (row.getD k 0)
theorem KE(r f t:Nat):(qS r f t).length<=1:=by unfold qS;split<;>(try split)<;>simp
theorem Xg(i n:Nat)(cn:Bool)(row:List Nat):∀k,(kx i n cn row k).length<=2+3*k
 | 0=>by simp [kx]
 |k+1=>by
  have:=Xg i n cn row k;have:=KE 2 k (row.getD k 0%8);simp only [kx,Qi,atV,aue,avd];omega
theorem Xh(i n:Nat)(cn:Bool)(row:List Nat):∀k,0<(kx i n cn row k).length
 | 0=>by simp [kx]
 |k+1=>by
  have:=Xh i n cn row k;simp only [kx,atV];omega
theorem Y1{base g c:Nat}{row:List Nat}(h:w.ownsRow base 3 1 (.slice (some ⟨g,0,none⟩) (row.map Int.ofNat).length c) (row.map Int.ofNat).length ((row.map Int.ofNat).map (.int .i64))){k:Nat}(au:k<row.length):w.cell? ⟨g,0+k,none⟩=some (.int .i64 (row[k]:Nat)):=by
 have:=tV h (i:=k) (by simpa using au);simpa using this
theorem ZD(s:b1)(start size:Int)(bV:Bool)(U:s.start=start)(ae:s.size=size)(aM:s.bV=bV):Ej (b1.cells s).toArray start size bV:=by
 subst U ae aM;exact⟨rfl,rfl,rfl,rfl⟩
theorem Xj(w:World)(i n:Nat)(ai:i<=100)(s:b1)(row:List Nat)(gr:bH.jv s.start s.size s.bV=.ok (row.map Int.ofNat))(ba:s.size=(n:Nat))(FX:row.length<=64)(hb:∀b∈row,b<=500)(ash:0<row.length):
   bd prog 147 [.int .i64 (i:Nat),.agg (b1.cells s).toArray].toArray w (λv w'=>(∃g c,v=.tuple #[.slice (some ⟨g,0,none⟩) (kx i n s.fw row row.length).length c,.nilIface]/\w'.ownsRow w.heap.size 66 5 (.slice (some ⟨g,0,none⟩) (kx i n s.fw row row.length).length c) (kx i n s.fw row row.length).length ((kx i n s.fw row row.length).flatMap Ins.cells))/\Below w.heap.size w w'):=by
 refine dP func147 rfl 64 rfl 66 rfl (λa I=>?_);refine fC (fB _ ?_);refine di I (cs:=(b1.cells s).toArray) rfl (k:=λa aq aE aT b8 I=>?_);have aB:=ca aT;revert a;(repeat first|refine ag ?_|refine J (bJ (dy aE)) ?_);intro a I;refine aQ I (Lq aq (b1.cells s).toArray s.start s.size s.bV (ZD s _ _ _ rfl rfl rfl)) λa v ax ab I=>?_;obtain⟨ab,aC⟩:=ab;rw [gr]at ab;obtain⟨g,c,rfl,nz,aX⟩:=ab;have hlen:(row.map Int.ofNat).length=row.length:=bl
 have la:=λk au=>Y1 aX (k:=k) au;have pF:=bG aC aE;rw [hlen]at I;have dK:=aB.trans (aC.mono aB.size);clear aX;revert a;refine ad λa I=>?_;refine aQ I (JP ax) λa v a6 ab I=>?_;obtain⟨rfl,bU,a1⟩:=ab;have ags:=a1;revert a;(repeat first|(intro a I;(refine zK (λW=>W.heap[w.heap.size]? =some (.cells (b1.cells s).toArray 133 (0,0))) [(0,true),(1,true),(2,true),(3,true),(4,true),(5,true),(6,true),(7,true),(8,false),(9,false),(10,false),(11,false)] (bG a1 pF) ?_);revert a)|refine ag ?_);intro a I;revert a;(repeat first|refine e3 ?_|refine cB (λak ar=>cA (vs:=[(0,.int .i64 15),(1,.int .i64 1),(2,.int .i64 (i:Nat))]) (cells:=(Ins.cells ⟨15,1,i,0,0⟩).toArray) bh ⟨rfl,rfl,rfl,rfl,rfl,rfl,trivial⟩) ?_|refine cB (λak ar=>af (aF ar rfl)) ?_);intro a I;have cd:Below a6.heap.size a6 (a6.drewN 1):=cP.below ⟨1,rfl⟩ _;replace bU:=bU.below cd;replace a1:=a1.trans (cd.mono a1.size);generalize a6.drewN 1=bZ at*;refine c7 ?_;refine aQ I (aeK bZ s.fw) λa v bN ab I=>?_;obtain⟨rfl,rfl⟩:=ab;refine atJ ⟨rfl,bG a1 pF,?_⟩;refine c7 ?_;refine st I (uE (u:=.agg (Ins.cells ⟨17,1,i,n,if s.fw then 1 else 0⟩).toArray) (cA (vs:=[(0,.int .i64 17),(1,.int .i64 1),(2,.int .i64 (i:Nat)),(3,.int .i64 s.size),(4,.int .u64 (if s.fw then 1 else 0))]) (cells:=#[.int .i64 17,.int .i64 1,.int .i64 (i:Nat),.int .i64 s.size,.int .u64 (if s.fw then 1 else 0)]) bh ⟨rfl,rfl,rfl,rfl,rfl,rfl,rfl,rfl,rfl,rfl,trivial⟩) (by rw [ba];cases s.fw<;>rfl)) rfl (λa I=>?_);refine atJ ⟨rfl,bG a1 pF,?_⟩;refine c7 ?_;refine st I (oT [(Ins.cells ⟨15,1,i,0,0⟩).toArray,(Ins.cells ⟨17,1,i,n,if s.fw then 1 else 0⟩).toArray] (aA _ _ rfl) fK bk bk bk rfl (by simp [Ins.cells]) ⟨rfl,rfl,rfl,rfl,trivial⟩) rfl (λa I=>?_);have eV:=qO bN 5 Ins.cells j' [⟨15,1,i,0,0⟩,⟨17,1,i,n,if s.fw then 1 else 0⟩] 66 _ rfl;have cY:=e7 bN (.cells ([⟨15,1,i,0,0⟩,⟨17,1,i,n,if s.fw then 1 else 0⟩].flatMap Ins.cells).toArray 66);replace bU:=bU.below cY;replace a1:=a1.trans (cY.mono a1.size);refine atJ ⟨rfl,bG a1 pF,?_⟩;refine c7 ?_;refine iZ I (sK _ bU (m:=2) rfl eV bl a1.size) ⟨rfl,trivial⟩ (k:=λa v bQ ab I=>?_);obtain⟨bU,bP⟩:=ab;replace a1:=a1.trans bP;replace bU:kE ax.heap.size bQ ax.heap.size (kx i n s.fw row 0):=bU;refine atJ ⟨rfl,bG a1 pF,?_⟩;refine fj ?_;clear eV cY bP cd ags;revert a;refine ad λa I=>?_;refine eg (λq a W=>∃k:Nat,k<=row.length/\q=row.length - k/\Fr 66 [(8,.pointer (some ⟨ax.heap.size,0,none⟩)),(9,Bc ax.heap.size),(36,.slice (some ⟨g,0,none⟩) row.length c),(37,.int .i64 (row.length:Nat)),(38,.int .i64 (k:Nat))] a/\kE ax.heap.size W ax.heap.size (kx i n s.fw row k)/\Below ax.heap.size ax W) row.length
   ⟨0,auc _,rfl,I.bb,bU,a1⟩ ?_
 clear I bU a1;rintro q a W ⟨k,au,rfl,I,bU,bg⟩;by_cases bu:k<row.length
 · have av:=eG (la k bu) bg;have MM:=hb row[k] (at6 bu);have u3:row.getD k 0=row[k]:=by simp [List.getD,atT bu]
   have kT:=Xg i n s.fw row k;generalize lN:row[k]=du at av MM u3;revert a;(repeat first|refine ag ?_|refine J (af av) ?_|refine J (cA (vs:=[(0,.int .i64 2),(1,.int .i64 2),(2,.int .i64 1)]) (cells:=(Ins.cells ⟨2,2,1,0,0⟩).toArray) bh ⟨rfl,rfl,rfl,rfl,rfl,rfl,trivial⟩) ?_|refine J (np (us:=(Ins.cells ⟨2,2,1,0,0⟩).toArray) (aA _ _ rfl) fK bk bk rfl) ?_);intro a I;have eV:=qO W 5 Ins.cells j' [⟨2,2,1,0,0⟩] 66 _ rfl;have cY:=e7 W (.cells ([(⟨2,2,1,0,0⟩:Ins)].flatMap Ins.cells).toArray 66);replace bU:=bU.below cY;replace bg:=bg.trans (cY.mono bg.size);refine iZ I (sK _ bU (m:=1) rfl eV bj bg.size) ⟨rfl,trivial⟩ (k:=λa v nZ ab I=>?_);obtain⟨bU,bP⟩:=ab;replace bg:=bg.trans bP;clear eV cY bP;revert a;refine ad λa I=>?_;rw [show((du:Int)%8)=((du%8:Nat):Int) by omega]at I;refine aQ I (XD nZ 2 k (du%8) bj bj bj) λa v lC ab I=>?_;obtain⟨⟨pq,bM,rfl,ab⟩,bP⟩:=ab;replace bU:=bU.below bP;replace bg:=bg.trans (bP.mono bg.size);clear bP;have eC:=KE 2 k (du%8);revert a;refine ad λa I=>?_;refine iZ I (sK _ bU rfl ab (by simp only [atV,aue,avd];omega) bg.size) ⟨rfl,trivial⟩ (k:=λa v mG ab I=>?_);obtain⟨bU,bP⟩:=ab;replace bg:=bg.trans bP;clear bP;revert a;refine ad λa I=>?_;rw [show((du:Int)%8)=((du%8:Nat):Int) by omega,show((du:Int)/8)=((du/8:Nat):Int) by omega]at I;revert a;(repeat first|refine ag ?_|refine J (H6 (b:=du%8) (hb:=by show du%8<64;omega)) ?_|refine J (cA (vs:=[(0,.int .i64 13),(1,.int .i64 2),(2,.int .i64 ((du/8:Nat):Int)),(3,.int .i64 1),(4,.int .u64 ((2^(du%8):Nat):Int))]) (cells:=(Ins.cells ⟨13,2,du/8,1,2^(du%8)⟩).toArray) bh ⟨rfl,rfl,rfl,rfl,rfl,rfl,rfl,rfl,rfl,rfl,trivial⟩) ?_|refine J (np (us:=(Ins.cells ⟨13,2,du/8,1,2^(du%8)⟩).toArray) (aA _ _ rfl) fK bk bk rfl) ?_);intro a I;have eV:=qO mG 5 Ins.cells j' [⟨13,2,du/8,1,2^(du%8)⟩] 66 _ rfl;have cY:=e7 mG (.cells ([(⟨13,2,du/8,1,2^(du%8)⟩:Ins)].flatMap Ins.cells).toArray 66);replace bU:=bU.below cY;replace bg:=bg.trans (cY.mono bg.size);refine iZ I (sK _ bU (m:=1) rfl eV (by simp only [atV,aue,avd];omega) bg.size) ⟨rfl,trivial⟩ (k:=λa v q0 ab I=>?_);obtain⟨bU,bP⟩:=ab;replace bg:=bg.trans bP;revert a;refine ad λa I=>?_;refine⟨row.length - (k+1),bj,k+1,bj,rfl,I.bb,?_,bg⟩;have e:kx i n s.fw row (k+1)=kx i n s.fw row k++ [⟨2,2,1,0,0⟩]++qS 2 k (du%8)++ [⟨13,2,du/8,1,2^(du%8)⟩]:=by rw [kx,Qi,u3];simp
   rw [e];exact bU
 · obtain rfl:k=row.length:=bj
   obtain⟨ay,c2,Fo,aX⟩:=bU.ex;obtain⟨kP,rfl,_⟩:=nM aX (Xh _ _ _ _ _);revert a;(repeat first|refine ag ?_|refine J (af (aF Fo rfl)) ?_);intro a I;exact eI I rfl rfl rfl ⟨⟨kP,c2,rfl,rF aX dK.size⟩,dK.trans (bg.mono dK.size)⟩
def P'(r k b:Nat):List Ins:=[⟨9,2,b/8,1,0⟩,⟨8,2,0,0,2^(b%8)⟩]++qS 2 (b%8) k++ [⟨4,r,2,0,0⟩]
def p0(r:Nat)(row:List Nat):Nat->List Ins
 | 0=>[⟨1,r,0,0,0⟩]
 |k+1=>p0 r row k++P' r k (row.getD k 0)
def h6(r n:Nat)(cn:Bool)(row:List Nat):List Ins:=p0 r row row.length++(if cn then [⟨14,r,0,n,0⟩]else [])
theorem Qe(r:Nat)(row:List Nat):∀k,(p0 r row k).length<=1+4*k
 | 0=>by simp [p0]
 |k+1=>by
  have:=Qe r row k;have:=KE 2 (row.getD k 0%8) k;simp only [p0,P',atV,aue,avd];omega
theorem YS(r:Nat)(row:List Nat):∀k,0<(p0 r row k).length
 | 0=>by simp [p0]
 |k+1=>by
  have:=YS r row k;simp only [p0,atV];omega
theorem Pz(w:World)(r n:Nat)(ai:r<=100)(s:b1)(row:List Nat)(gr:bH.jv s.start s.size s.bV=.ok (row.map Int.ofNat))(ba:s.size=(n:Nat))(FX:row.length<=64)(hb:∀b∈row,b<=500):
   bd prog 149 [.int .i64 (r:Nat),.agg (b1.cells s).toArray].toArray w (λv w'=>(∃g c,v=.tuple #[.slice (some ⟨g,0,none⟩) (h6 r n s.fw row).length c,.nilIface]/\w'.ownsRow w.heap.size 66 5 (.slice (some ⟨g,0,none⟩) (h6 r n s.fw row).length c) (h6 r n s.fw row).length ((h6 r n s.fw row).flatMap Ins.cells))/\Below w.heap.size w w'):=by
 refine dP func149 rfl 68 rfl 70 rfl (λa I=>?_);refine fC (fB _ ?_);refine di I (cs:=(b1.cells s).toArray) rfl (k:=λa aq aE aT b8 I=>?_);have aB:=ca aT;revert a;(repeat first|refine ag ?_|refine J (bJ (dy aE)) ?_);intro a I;refine aQ I (Lq aq (b1.cells s).toArray s.start s.size s.bV (ZD s _ _ _ rfl rfl rfl)) λa v ax ab I=>?_;obtain⟨ab,aC⟩:=ab;rw [gr]at ab;obtain⟨g,c,rfl,nz,aX⟩:=ab;have hlen:(row.map Int.ofNat).length=row.length:=bl
 have la:=λk au=>Y1 aX (k:=k) au;have pF:=bG aC aE;rw [hlen]at I;have dK:=aB.trans (aC.mono aB.size);clear aX;revert a;refine ad λa I=>?_;refine aQ I (JP ax) λa v a6 ab I=>?_;obtain⟨rfl,bU,a1⟩:=ab;revert a;(repeat first|refine ag ?_|refine J (cA (vs:=[(0,.int .i64 1),(1,.int .i64 (r:Nat))]) (cells:=(Ins.cells ⟨1,r,0,0,0⟩).toArray) bh ⟨rfl,rfl,rfl,rfl,trivial⟩) ?_|refine J (np (us:=(Ins.cells ⟨1,r,0,0,0⟩).toArray) (aA _ _ rfl) fK bk bk rfl) ?_);intro a I;have eV:=qO a6 5 Ins.cells j' [⟨1,r,0,0,0⟩] 66 _ rfl;have cY:=e7 a6 (.cells ([(⟨1,r,0,0,0⟩:Ins)].flatMap Ins.cells).toArray 66);replace bU:=bU.below cY;replace a1:=a1.trans (cY.mono a1.size);refine iZ I (sK _ bU (m:=1) rfl eV bl a1.size) ⟨rfl,trivial⟩ (k:=λa v bQ ab I=>?_);obtain⟨bU,bP⟩:=ab;replace a1:=a1.trans bP;replace bU:kE ax.heap.size bQ ax.heap.size (p0 r row 0):=bU;clear eV cY bP;revert a;refine ad λa I=>?_;refine eg (λq a W=>∃k:Nat,k<=row.length/\q=row.length - k/\Fr 70 [(0,.int .i64 (r:Nat)),(3,.pointer (some ⟨w.heap.size,0,none⟩)),(8,.pointer (some ⟨ax.heap.size,0,none⟩)),(9,Bc ax.heap.size),(29,.slice (some ⟨g,0,none⟩) row.length c),(30,.int .i64 (row.length:Nat)),(31,.int .i64 (k:Nat))] a/\kE ax.heap.size W ax.heap.size (p0 r row k)/\Below ax.heap.size ax W) row.length
   ⟨0,auc _,rfl,I.bb,bU,a1⟩ ?_
 clear I bU a1;rintro q a W ⟨k,au,rfl,I,bU,bg⟩;by_cases bu:k<row.length
 · have av:=eG (la k bu) bg;have MM:=hb row[k] (at6 bu);have u3:row.getD k 0=row[k]:=by simp [List.getD,atT bu]
   have kT:=Qe r row k;generalize lN:row[k]=du at av MM u3;revert a;(repeat first|refine ag ?_|refine J (af av) ?_);intro a I;rw [show((du:Int)/8)=((du/8:Nat):Int) by omega]at I;revert a;(repeat first|refine ag ?_|refine J (cA (vs:=[(0,.int .i64 9),(1,.int .i64 2),(2,.int .i64 ((du/8:Nat):Int)),(3,.int .i64 1)]) (cells:=(Ins.cells ⟨9,2,du/8,1,0⟩).toArray) bh ⟨rfl,rfl,rfl,rfl,rfl,rfl,rfl,rfl,trivial⟩) ?_);intro a I;rw [show((du:Int)%8)=((du%8:Nat):Int) by omega]at I;revert a;(repeat first|refine ag ?_|refine J (H6 (b:=du%8) (hb:=by show du%8<64;omega)) ?_|refine J (cA (vs:=[(0,.int .i64 8),(1,.int .i64 2),(4,.int .u64 ((2^(du%8):Nat):Int))]) (cells:=(Ins.cells ⟨8,2,0,0,2^(du%8)⟩).toArray) bh ⟨rfl,rfl,rfl,rfl,rfl,rfl,trivial⟩) ?_|refine J (oT [(Ins.cells ⟨9,2,du/8,1,0⟩).toArray,(Ins.cells ⟨8,2,0,0,2^(du%8)⟩).toArray] (aA _ _ rfl) fK bk bk bk rfl (by simp [Ins.cells]) ⟨rfl,rfl,rfl,rfl,trivial⟩) ?_);intro a I;have eV:=qO W 5 Ins.cells j' [⟨9,2,du/8,1,0⟩,⟨8,2,0,0,2^(du%8)⟩] 66 _ rfl;have cY:=e7 W (.cells ([(⟨9,2,du/8,1,0⟩:Ins),⟨8,2,0,0,2^(du%8)⟩].flatMap Ins.cells).toArray 66);replace bU:=bU.below cY;replace bg:=bg.trans (cY.mono bg.size);refine iZ I (sK _ bU (m:=2) rfl eV bj bg.size) ⟨rfl,trivial⟩ (k:=λa v nZ ab I=>?_);obtain⟨bU,bP⟩:=ab;replace bg:=bg.trans bP;clear eV cY bP;revert a;refine ad λa I=>?_;rw [show((du:Int)%8)=((du%8:Nat):Int) by omega]at I;revert a;refine ad λa I=>?_;refine aQ I (XD nZ 2 (du%8) k bj bj bj) λa v lC ab I=>?_;obtain⟨⟨pq,bM,rfl,ab⟩,bP⟩:=ab;replace bU:=bU.below bP;replace bg:=bg.trans (bP.mono bg.size);clear bP;have eC:=KE 2 (du%8) k;revert a;refine ad λa I=>?_;refine iZ I (sK _ bU rfl ab (by simp only [atV,aue,avd];omega) bg.size) ⟨rfl,trivial⟩ (k:=λa v mG ab I=>?_);obtain⟨bU,bP⟩:=ab;replace bg:=bg.trans bP;clear bP;revert a;(repeat first|refine ag ?_|refine J (cA (vs:=[(0,.int .i64 4),(1,.int .i64 (r:Nat)),(2,.int .i64 2)]) (cells:=(Ins.cells ⟨4,r,2,0,0⟩).toArray) bh ⟨rfl,rfl,rfl,rfl,rfl,rfl,trivial⟩) ?_|refine J (np (us:=(Ins.cells ⟨4,r,2,0,0⟩).toArray) (aA _ _ rfl) fK bk bk rfl) ?_);intro a I;have eV:=qO mG 5 Ins.cells j' [⟨4,r,2,0,0⟩] 66 _ rfl;have cY:=e7 mG (.cells ([(⟨4,r,2,0,0⟩:Ins)].flatMap Ins.cells).toArray 66);replace bU:=bU.below cY;replace bg:=bg.trans (cY.mono bg.size);refine iZ I (sK _ bU (m:=1) rfl eV (by simp only [atV,aue,avd];omega) bg.size) ⟨rfl,trivial⟩ (k:=λa v q0 ab I=>?_);obtain⟨bU,bP⟩:=ab;replace bg:=bg.trans bP;revert a;refine ad λa I=>?_;refine⟨row.length - (k+1),bj,k+1,bj,rfl,I.bb,?_,bg⟩;have e:p0 r row (k+1)=p0 r row k++ [⟨9,2,du/8,1,0⟩,⟨8,2,0,0,2^(du%8)⟩]++qS 2 (du%8) k++ [⟨4,r,2,0,0⟩]:=by rw [p0,P',u3];simp
   rw [e];exact bU
 · obtain rfl:k=row.length:=bj
   have hR:=bG bg pF;have aW:=YS r row row.length;have kT:=Qe r row row.length;cases aG:s.fw with
   |true=>
    have Es:W.cell? ⟨w.heap.size,0+8,none⟩=some (.bool true):=aF hR (by rw [<-aG];rfl);have kj:W.cell? ⟨w.heap.size,0+6,none⟩=some (.int .i64 (n:Nat)):=aF hR (by rw [<-ba];rfl);have e:h6 r n true row=p0 r row row.length++ [⟨14,r,0,n,0⟩]:=rfl;rw [e];revert a;(repeat first|refine ag ?_|refine J (cA (vs:=[(0,.int .i64 14),(1,.int .i64 (r:Nat)),(3,.int .i64 (n:Nat))]) (cells:=(Ins.cells ⟨14,r,0,n,0⟩).toArray) bh ⟨rfl,rfl,rfl,rfl,rfl,rfl,trivial⟩) ?_|refine J (np (us:=(Ins.cells ⟨14,r,0,n,0⟩).toArray) (aA _ _ rfl) fK bk bk rfl) ?_|refine J (af Es) ?_|refine J (af kj) ?_);intro a I;have eV:=qO W 5 Ins.cells j' [⟨14,r,0,n,0⟩] 66 _ rfl;have cY:=e7 W (.cells ([(⟨14,r,0,n,0⟩:Ins)].flatMap Ins.cells).toArray 66);replace bU:=bU.below cY;replace bg:=bg.trans (cY.mono bg.size);refine iZ I (sK _ bU (m:=1) rfl eV bj bg.size) ⟨rfl,trivial⟩ (k:=λa v q0 ab I=>?_);obtain⟨bU,bP⟩:=ab;replace bg:=bg.trans bP;obtain⟨ay,c2,Fo,aX⟩:=bU.ex;obtain⟨kP,rfl,_⟩:=nM aX bl;revert a;(repeat first|refine ag ?_|refine J (af (aF Fo rfl)) ?_);intro a I;exact eI I rfl rfl rfl ⟨⟨kP,c2,rfl,rF aX dK.size⟩,dK.trans (bg.mono dK.size)⟩
   |false=>
    have Es:W.cell? ⟨w.heap.size,0+8,none⟩=some (.bool false):=aF hR (by rw [<-aG];rfl);have e:h6 r n false row=p0 r row row.length:=by simp [h6]
    rw [e];obtain⟨ay,c2,Fo,aX⟩:=bU.ex;obtain⟨kP,rfl,_⟩:=nM aX aW;revert a;(repeat first|refine ag ?_|refine J (af Es) ?_|refine J (af (aF Fo rfl)) ?_);intro a I;exact eI I rfl rfl rfl ⟨⟨kP,c2,rfl,rF aX dK.size⟩,dK.trans (bg.mono dK.size)⟩
theorem amO{α:Type}{q s:Nat}{enc:α->List Value}{xs:List α}(h:dA w (some ⟨q,0,none⟩) s enc xs)(aZ:w'.heap[q]? =w.heap[q]?):dA w' (some ⟨q,0,none⟩) s enc xs:=λi ai=>by
 obtain⟨b,o,U,ae⟩:=h i ai;cases U
 refine⟨q,0,rfl,λj v ao=>?_⟩;have:=ae j v ao;unfold World.cell? at this ⊢;simp only [aZ];exact this
def v'(role:Int)(j1:Nat)(ys:List Ins):List Ins:=(if role=2 then [⟨19,0,0,ys.length,j1⟩]else [])++ys
def rX(w w':World):Prop:=∀(r:Nat) (cs:Array Value),w.heap[r]? =some (.cells cs 133 (0,0))->w'.heap[r]? =some (.cells cs 133 (0,0))
theorem rX.below(hb:Below w.heap.size w w'):rX w w':=λ_ _ h=>bG hb h
theorem rX.trans{aq ax:World}(h:rX w aq)(ae:rX aq ax):rX w ax:=λr cs aj=>ae r cs (h r cs aj)
theorem qg.kept{base b c:Nat}(h:qg base w b xs ay c)(bC:∀k,k<w.heap.size->k≠b->(Value.slice ay xs.length c).ownBlock≠some k->w'.heap[k]? =w.heap[k]?):rX w w':=λr cs aj=>
 (bC r (bO aj) (c1 aj h.dJ bk) (fT h.own aj bk).symm).trans aj
theorem amp(w:World){base b:Nat}{m c:Nat}(h:kE base w b xs)(hm:ys.length=m)(ab:dA w pq 5 Ins.cells ys)(aN:xs.length+m<=10000)(aH:base<=w.heap.size):
  kD prog (Bc b) [.slice pq m c] w (λ_ w'=>kE base w' b (xs++ys)/\Below base w w'/\rX w w'):=by
 obtain⟨ay,c0,az,aX⟩:=h.ex;have dH:qg base w b xs ay c0:=⟨az,aX,h.bq⟩;exact(Kj w dH hm ab aN aH).mono (λ_ _ aj=>⟨aj.1,aj.2.1,dH.kept aj.2.2⟩)
theorem HE(w:World){base jG b q c c0 m j1:Nat}(s:b1)(kR:s.branch=(j1:Nat))(h:qg base w b xs ay c0)(hm:ys.length=m)(bp:w.ownsRow jG 66 5 (.slice (some ⟨q,0,none⟩) m c) m (ys.flatMap Ins.cells))(aZ:(Value.slice ay xs.length c0).ownBlock≠some q)(aN:xs.length+m<=5000)(aH:base<=w.heap.size)(aJ:0<m):
   bd prog 148 [Bc b,.agg (b1.cells s).toArray,.slice (some ⟨q,0,none⟩) m c].toArray w (λv w'=>kE base w' b (xs++v' s.role j1 ys)/\Below base w w'/\rX w w'):=by
 have ab:=A8 j' bp hm;have ahZ:q≠b:=λe=>fT bp h.dJ bk (by rw [e];rfl);have ve:=J7 bp q rfl;refine mf func148 rfl 17 rfl 20 rfl (λa I=>?_);refine fC (fB _ ?_);refine di I (cs:=(b1.cells s).toArray) rfl (k:=λa aq aE aT b8 I=>?_);have aB:=ca aT;replace h:=h.below aB;replace ab:=ab.below aB;have dk:=aB.mono aH;have mM:=atN aH aB.size;have Oq:=auj ve aB.size;clear bp;by_cases aj:s.role=2
 · have e:v' s.role j1 ys=[⟨19,0,0,m,j1⟩]++ys:=by rw [v',atM aj,hm]
   rw [e,<-auJ];have c3:aq.cell? ⟨w.heap.size,0+3,none⟩=some (.int .i64 2):=aF aE (by rw [<-aj];rfl);have c4:aq.cell? ⟨w.heap.size,0+4,none⟩=some (.int .u64 (j1:Nat)):=aF aE (by rw [<-kR];rfl);revert a;(repeat first|refine ag ?_|refine J (cA (vs:=[(0,.int .i64 19),(1,.int .i64 0),(3,.int .i64 (m:Nat)),(4,.int .u64 (j1:Nat))]) (cells:=(Ins.cells ⟨19,0,0,m,j1⟩).toArray) bh ⟨rfl,rfl,rfl,rfl,rfl,rfl,rfl,rfl,trivial⟩) ?_|refine J (np (us:=(Ins.cells ⟨19,0,0,m,j1⟩).toArray) (aA _ _ rfl) fK bk bk rfl) ?_|refine J (af c3) ?_|refine J (af c4) ?_);intro a I;have eV:=qO aq 5 Ins.cells j' [⟨19,0,0,m,j1⟩] 66 _ rfl;have cY:=e7 aq (.cells ([(⟨19,0,0,m,j1⟩:Ins)].flatMap Ins.cells).toArray 66);refine iZ I (Kj _ (h.below cY) (m:=1) rfl eV bj (atN mM cY.size)) ⟨rfl,trivial⟩ (k:=λa v a6 gF I=>?_);obtain⟨bU,bP,Cx⟩:=gF;have cv:=((rX.below aB).trans (rX.below cY)).trans ((h.below cY).kept Cx);have z':=amO (ab.below cY) (Cx q (auj Oq cY.size) ahZ aZ);have gh:=atN (atN mM cY.size) bP.size;replace dk:=(dk.trans (cY.mono mM)).trans bP;revert a;refine ad λa I=>?_;refine iZ I (amp _ bU hm z' (by simp only [atV,aue,avd];omega) gh) ⟨rfl,trivial⟩ (k:=λa v bZ gF I=>?_);obtain⟨bU,bP,gE⟩:=gF;revert a;refine ad λa I=>?_;exact lo I rfl ⟨bU,dk.trans bP,cv.trans gE⟩
 · have e:v' s.role j1 ys=ys:=by rw [v',atK aj];rfl
   rw [e];have c3:aq.cell? ⟨w.heap.size,0+3,none⟩=some (.int .i64 s.role):=aF aE rfl;revert a;(repeat first|refine ag ?_|refine J (af c3) ?_);intro a I;refine iZ I (Kj _ h hm ab bj mM) ⟨rfl,trivial⟩ (k:=λa v bZ gF I=>?_);obtain⟨bU,bP,bC⟩:=gF;revert a;refine ad λa I=>?_;exact lo I rfl ⟨bU,dk.trans bP,(rX.below aB).trans (h.kept bC)⟩
def gn(p cp:Nat):b1:=mX (some ⟨p,0,none⟩) cp
def hg(q cq:Nat):b1:=dO (some ⟨q,0,none⟩) cq
theorem jZ.bM{base g p cp q cq:Nat}(h:jZ base w g p cp q cq):∀j v,(b1.cells (gn p cp)).toArray[j]? =some v->w.cell? ⟨g,0+0*19+j,none⟩=some v:=by
 intro j v ah;obtain⟨rest,az⟩:=h.row;have aN:j<19:=by have:=(auY.1 ah).1;simpa [gn,mX,b1.cells]using this
 refine aF az ?_;have e:G0 p cp q cq++rest=b1.cells (gn p cp)++(b1.cells (hg q cq)++rest):=by simp [G0,gn,hg]
 rw [e];rw [show 0+0*19+j=j by omega];simpa [auK (show j<(b1.cells (gn p cp)).length from aN)]using ah
theorem jZ.c2{base g p cp q cq:Nat}(h:jZ base w g p cp q cq):∀j v,(b1.cells (hg q cq)).toArray[j]? =some v->w.cell? ⟨g,0+1*19+j,none⟩=some v:=by
 intro j v ah;obtain⟨rest,az⟩:=h.row;have aN:j<19:=by have:=(auY.1 ah).1;simpa [hg,dO,b1.cells]using this
 refine aF az ?_;have e:G0 p cp q cq++rest=b1.cells (gn p cp)++(b1.cells (hg q cq)++rest):=by simp [G0,gn,hg]
 have bf:(b1.cells (gn p cp)).length=19:=rfl;rw [e,show 0+1*19+j=19+j by omega];simp only [awg]at ah ⊢;rw [avg bj,bf,show 19+j - 19=j by omega,auK (show j<(b1.cells (hg q cq)).length from aN)];exact ah
theorem XY(w:World){base g cL p cp q cq:Nat}(h:jZ base w g p cp q cq):bd prog 146 [.agg (cO.cells (et (some ⟨g,0,none⟩) 2 cL)).toArray].toArray w (λv w'=>v=.int .i64 0/\Below w.heap.size w w'):=by
 refine cF func146 rfl 17 rfl 18 rfl (λa I=>?_);refine fC (fB _ ?_);refine di I (cs:=(cO.cells (et (some ⟨g,0,none⟩) 2 cL)).toArray) rfl (k:=λa aq aE aT b8 I=>?_);have aB:=ca aT;revert a;(repeat first|(intro a I;refine axj ?_;revert a)|refine ag ?_|refine J (dq (n:=2) (j:=0)) ?_|refine J (bJ ((h.below aB).bM)) ?_|refine J (af (aF aE rfl)) ?_);intro a I;refine b6 I kv λa ax aP aS cZ I=>?_;have aC:=aB.trans ((ca aS).mono aB.size);revert a;refine ad λa I=>?_;refine cE I (cs:=(b1.cells (gn p cp)).toArray) aP (kB _) λa a6 bR bz eE I=>?_;revert a;(repeat first|refine ag ?_|refine J (af (aF bR rfl)) ?_);intro a I;exact bc I rfl rfl ⟨rfl,aC.grown bz aC.size (λk au=>by cases au;exact aB.size)⟩
end
end Go.Proofs.YtnkjmbbddmgjiaaGreatDoor
namespace Go.Proofs.YtnkjmbbddmgjiaaGreatDoor.bH
open Go.RowKit Go.Proofs.Tryz
def gg:List Bool:=List.replicate 64 false
def ux:List Int->List Bool->Except Int (List Bool)
 | [],s=>.ok s
 |i::r,s=>if i<0\/64<=i then .error 16 else if s.getD i.toNat false=true then .error 12 else ux r (s.set i.toNat true)
def setOf(l:List Int):Except Int (List Bool):=ux l gg
def LU(s:List Bool):Nat:=s.countP (· =true)
theorem RP:∀{l:List Int} {s eP:List Bool},s.length=64->ux l s=.ok eP->
  eP.length=64/\LU eP=LU s+l.length/\(∀x∈l,0<=x/\x<64)/\∀i:Nat,eP.getD i false=(s.getD i false||decide ((i:Int)∈l))
 | [],s,eP,aN,h=>by
  simp only [ux,Except.ok.injEq]at h;subst h;exact⟨aN,bl,bl,bl⟩
 |i::r,s,eP,aN,h=>by
  simp only [ux]at h;split at h
  · cases h
  · rename_i U;split at h
    · cases h
    · rename_i ae;obtain⟨e6,a2,a3,a4⟩:=RP (l:=r) (s:=s.set i.toNat true) (by simpa using aN) h;have ai:i.toNat<s.length:=bj
      refine⟨e6,?_,?_,?_⟩
      · rw [a2];unfold LU;rw [List.countP_set ai];have:s[i.toNat]=false:=by
          have:s.getD i.toNat false=s[i.toNat]:=by simp [List.getD,ai]
          rw [this]at ae;simpa using ae
        simp [this];omega
      · intro x hx;rcases au1.1 hx with rfl|hx
        · omega
        · exact a3 x hx
      · intro j;rw [a4 j];by_cases e:i.toNat=j
        · subst e;have bf:((i.toNat:Nat):Int)=i:=bj
          rw [bf];simp [List.getD,ai]
        · have bf:¬(j:Int)=i:=bj
          have dj:(s.set i.toNat true).getD j false=s.getD j false:=by simp [List.getD,auO e]
          rw [dj];simp [bf]
theorem RO:∀{l:List Int} {s:List Bool},s.length=64->l.Nodup->(∀x∈l,0<=x/\x<64/\s.getD x.toNat false=false)->∃eP,ux l s=.ok eP
 | [],s,_,_,_=>⟨s,rfl⟩
 |i::r,s,aN,ba,h=>by
  have ai:=h i bl;have Jk:=ax7.1 ba;obtain⟨eP,CS⟩:=RO (l:=r) (s:=s.set i.toNat true) (by simpa using aN) Jk.2 (λx hx=>by
   have fJ:=h x (by simp [hx]);refine⟨fJ.1,fJ.2.1,?_⟩;have b5:¬i.toNat=x.toNat:=by
    intro e;have:i=x:=bj
    subst this;exact Jk.1 hx
   have dj:(s.set i.toNat true).getD x.toNat false=s.getD x.toNat false:=by simp [List.getD,auO b5]
   rw [dj];exact fJ.2.2)
  refine⟨eP,?_⟩;rw [ux,atK bj,atK (by rw [ai.2.2];simp),CS]
theorem Mh(i:Nat):gg.getD i false=false:=by
 unfold gg;simp only [avP,au0];split<;>rfl
theorem abk{s t:List Bool}(U:s.length=64)(ae:t.length=64)(h:∀i:Nat,i<64->s.getD i false=t.getD i false):s=t:=by
 apply awA bj;intro i g1 g2;have:=h i bj;simpa [List.getD,g1,g2]using this
def ja(f:Bool->Bool->Bool)(a b:List Bool):List Bool:=(List.range 64).map λi=>f (a.getD i false) (b.getD i false)
def sY(f:Bool->Bool->Bool)(a b:List Bool)(k:Nat):List Bool:=(List.range 64).map λi=>if i<k then f (a.getD i false) (b.getD i false)else a.getD i false
theorem Hn(f:Bool->Bool->Bool)(a b:List Bool)(k:Nat):(sY f a b k).length=64:=by simp [sY]
theorem Hm(f:Bool->Bool->Bool)(a b:List Bool)(k i:Nat)(h:i<64):(sY f a b k)[i]'(by rw [Hn];exact h)=if i<k then f (a.getD i false) (b.getD i false)else a.getD i false:=by simp [sY]
theorem aaJ(f:Bool->Bool->Bool){a:List Bool}(b:List Bool)(ha:a.length=64):sY f a b 0=a:=by
 apply awA (by rw [Hn,ha]);intro i U ae;rw [Hm _ _ _ _ _ bj,atK bj];simp [List.getD,ae]
theorem aaH(f:Bool->Bool->Bool)(a b:List Bool):sY f a b 64=ja f a b:=by
 unfold sY ja;apply azv;intro i ai;simp at ai;simp [ai]
theorem aaI(f:Bool->Bool->Bool)(a b:List Bool)(k:Nat)(h:k<64):(sY f a b k).set k (f (a.getD k false) (b.getD k false))=sY f a b (k+1):=by
 apply awA (by simp [sY]);intro i U ae;rw [Hn]at ae;rw [Hm _ _ _ _ _ ae,List.getElem_set];by_cases e:k=i
 · subst e;simp
 · rw [atK e,Hm _ _ _ _ _ ae];by_cases bf:i<k
   · rw [atM bf,atM bj]
   · rw [atK bf,atK bj]
theorem sX(f:Bool->Bool->Bool)(a b:List Bool):(ja f a b).length=64:=by simp [ja]
theorem Rf(f:Bool->Bool->Bool)(a b:List Bool)(i:Nat)(h:i<64):(ja f a b).getD i false=f (a.getD i false) (b.getD i false):=by simp [ja,List.getD,h]
end Go.Proofs.YtnkjmbbddmgjiaaGreatDoor.bH
namespace Go.Proofs.YtnkjmbbddmgjiaaGreatDoor
open Go.RowKit Go.Proofs.Tryz
variable {w w':World}{xs ys:List Ins}{ay pq:Option Addr}
section
attribute [local irreducible] wpList wpQuiet wpStill Code.wp Exit.then Exit.inBlock bodyPost Calls bL eT
theorem acR:prog.cellsOf 4=1:=bh
theorem aes:prog.eqGuardType prog.depth 356=false:=bh
theorem Ic{l:List (Nat × Value)}{op:BinOp}{x y:Operand}{xs ys:List Bool}{r:Bool}{t' ty:TypeId}(qD:xs.length=64)(sD:ys.length=64)(hx:a7 l x (.agg (dR xs)):=by exact rfl)(aO:a7 l y (.agg (dR ys)):=by exact rfl)(aj:(match op with| .eql=>some (decide (xs=ys))| .neq=>some (!decide (xs=ys))|_=>none)=some r:=by exact rfl):bL prog l w (.binOp op 356 x y t') ty (.bool r) w:=
 adv (aA _ _ rfl) (aA _ _ rfl) (aw _ _ rfl) acR aes qD sD hx aO aj
theorem wB:bH.gg.length=64:=bk
def iB(w:World)(g:Nat)(s:List Bool):Prop:=w.heap[g]? =some (.cells (dR s) 356 (0,0))
def aaR(v:Value):Except Int (List Bool)->Prop
 | .ok s=>v=.tuple #[.agg (dR s),.nilIface]
 | .error e=>v=.tuple #[.agg (dR bH.gg),.iface 70 (.int .i64 e)]
theorem an'(w:World)(xs:List Int)(ay:Option Addr)(n c:Nat)(ba:xs.length=n)(h:ee w ay (.int .i64) xs)(hb:n<=9223372036854775807):
   bd prog 261 #[.slice ay n c] w (λv w'=>aaR v (bH.setOf xs)/\Below w.heap.size w w'):=by
 subst ba;refine cF func261 rfl 29 rfl 30 rfl (λa I=>?_);revert a;refine ad λa I=>?_;refine b6 I tN λa aq aP aT b8 I=>?_;replace aP:iB aq w.heap.size bH.gg:=aP;have aB:=aK (atL _ w) aT (atI _);revert a;refine ad λa I=>?_;refine b6 I tN λa ax bX aS cZ I=>?_;replace bX:iB ax aq.heap.size bH.gg:=bX;replace aP:iB ax w.heap.size bH.gg:=aD aP aS bl;have aC:=aK aB aS aB.size;revert a;refine ad λa I=>?_;refine eg (λn a wr=>∃k s,k<=xs.length/\n=xs.length - k/\s.length=64/\bH.setOf xs=bH.ux (xs.drop k) s/\
   Fr 30 [(2,.pointer (some ⟨w.heap.size,0,none⟩)),(4,.pointer (some ⟨aq.heap.size,0,none⟩)),(7,.slice ay xs.length c),(8,.int .i64 xs.length),(9,.int .i64 (k:Nat))] a/\
   iB wr w.heap.size bH.gg/\iB wr aq.heap.size s/\Below w.heap.size w wr) xs.length
   ⟨0,bH.gg,bj,rfl,wB,rfl,I.bb,aP,bX,aC⟩ ?_
 clear I a aP bX aC cZ aS ax;rintro n a wr ⟨k,s,au,rfl,eC,bF,I,aP,bX,cH⟩;have bA:=cH.size;by_cases bu:k<xs.length
 · obtain⟨b,o,rfl,av⟩:=h k bu;have jJ:=(cH.cell (p:=⟨b,o+k,none⟩) (aui w _ av)).trans av;rw [aua bu,bH.ux]at bF;generalize xs[k]=x at*;by_cases U:x<0\/64<=x
   · rw [atM U]at bF;by_cases ae:x<0;all_goals
       revert a;(repeat first|refine ag ?_|refine J (cA (vs:=[]) (cells:=dR bH.gg) bh trivial) ?_|refine J (af jJ) ?_);intro a I;refine cE I (cs:=dR bH.gg) aP (p2 _) λa bN bB br dw I=>?_;revert a;refine ad λa I=>?_;refine h7 I rfl (agg _ rfl) (aw _ _ rfl) bB rfl rfl ⟨?_,aK cH br bA⟩;rw [bF];rfl
   · rw [atK U]at bF;obtain⟨j,rfl⟩:∃j:Nat,x=(j:Int):=⟨x.toNat,bj⟩;have ah:j<s.length:=bj
     rw [avJ]at bF;have aib:s.getD j false=s[j]:=by simp [List.getD,ah]
     rw [aib]at bF;have c4:=dy bX _ _ (DD ah);by_cases ae:s[j]=true
     · rw [atM ae]at bF;rw [ae]at c4;revert a;(repeat first|refine ag ?_|refine J (dY (aA _ _ rfl) (aw _ _ rfl)) ?_|refine J (cA (vs:=[]) (cells:=dR bH.gg) bh trivial) ?_|refine J (af jJ) ?_|refine J (af c4) ?_);intro a I;refine cE I (cs:=dR bH.gg) aP (p2 _) λa bN bB br dw I=>?_;revert a;refine ad λa I=>?_;refine h7 I rfl (agg _ rfl) (aw _ _ rfl) bB rfl rfl ⟨?_,aK cH br bA⟩;rw [bF];rfl
     · rw [atK ae]at bF;have q9:s[j]=false:=by simpa using ae
       rw [q9]at c4;revert a;(repeat first|refine ag ?_|refine J (dY (aA _ _ rfl) (aw _ _ rfl)) ?_|refine J (af jJ) ?_|refine J (af c4) ?_);intro a I;refine cr I (aw _ _ rfl) bX (i:=0+j) (by rw [gm];omega) rfl rfl rfl λa bN bB br dw I=>?_;rw [GW]at bB;revert a;refine ad λa I=>?_;exact⟨xs.length - (k+1),bj,k+1,s.set j true,bj,rfl,by simpa using eC,bF,I.bb,aD aP br bm,bB,aK cH br bA⟩
 · obtain rfl:k=xs.length:=bj
   rw [auD,bH.ux]at bF;revert a;(repeat first|refine ag ?_|refine J (fR (agg _ rfl) (aw _ _ rfl) ((gm s).trans eC) (dy bX)) ?_);intro a I;refine dX I (cs:=dR s) (aw _ _ rfl) ((gm s).trans eC) rfl aP (p2 _) (k:=λa bN bB br dw I=>?_);revert a;refine ad λa I=>?_;refine h7 I rfl (agg _ rfl) (by rw [gm,eC];exact aw _ _ rfl) bB rfl rfl ⟨?_,aK cH br bA⟩;rw [bF];rfl
end
section
open Go.Extern.Stop Go.Stop Go.Extern
theorem ajk(v:Value)(w:World):(Extern.ReflectliteType.typeOf #[.iface 70 v]).run prog w=.ok (.iface 251 (.agg #[.pointer (some ⟨12,70,none⟩)])) w:=bh
theorem aji(w:World):(callFunc 335 #[.agg #[.pointer (some ⟨12,70,none⟩)]]).run prog w=.ok (.value (.bool true)) w:=bh
theorem ajj(v:Value)(w:World):(Go.method 571 251 v "Comparable").run prog w=.ok (335,v) w:=bh
theorem ajh:(prog.info? 70).map (·.comparable)=some true:=bh
theorem alv(v:Value)(sW:TypeId)(w:World):(Instr.typeAssert (.iface 70 v) sW 408 true).run prog w=.ok (.tuple #[.nilIface,.bool false]) w:=axQ underlying408 bh bh v sW w
theorem alw(v:Value)(sW:TypeId)(w:World):(Instr.typeAssert (.iface 70 v) sW 259 true).run prog w=.ok (.tuple #[.nilIface,.bool false]) w:=axQ underlying259 bh bh v sW w
theorem alx(v:Value)(sW:TypeId)(w:World):(Instr.typeAssert (.iface 70 v) sW 260 true).run prog w=.ok (.tuple #[.nilIface,.bool false]) w:=axQ underlying260 bh bh v sW w
theorem ajm(a b:Int)(w:World):
  Calls prog 229 #[.iface 70 (.int .i64 a),.iface 70 (.int .i64 b)] w λe w'=>e=.returned (.bool (a==b))/\w'=w:=by
 have ko:=@run_callFunc_extern prog 142 _ Extern.ReflectliteType.typeOf func142 bh bh bh bh;have ata:=ajk;have aqy:=aji;have asX:=ajj;have asZ:=alv;have atf:=alw;have atg:=alx;have heq:=Go.Lib.run_eql_iface_int (P:=prog) w (t:=27) (tx:=70) (k:=.i64) a b au4 ajh underlying70;cases cY:(a==b)with
 |true=>
  rw [cY]at heq
  go_enter func229,Tryz.ntmps229
  go_wp2
  refine auX 1 ?_;rw [rounds_succ]
  go_wp2
  go_ret
  exact⟨rfl,rfl⟩
 |false=>
  rw [cY]at heq
  go_enter func229,Tryz.ntmps229
  go_wp2
  refine auX 1 ?_;rw [rounds_succ]
  go_wp2
  go_ret
  exact⟨rfl,rfl⟩
theorem WX(w:World)(a b:Int):bd prog 229 #[.iface 70 (.int .i64 a),.iface 70 (.int .i64 b)] w (λv w'=>v=.bool (a==b)/\w'=w):=
 auC (ajm a b w) λe w' h=>⟨_,h.1,rfl,h.2⟩
end
section
namespace bH
theorem Zh(bV:Bool)(b:Int)(n:Nat):(seqB bV b n).Nodup:=by
 rw [List.Nodup,List.pairwise_iff_getElem];intro i j ai ah Jc e;rw [GV bV n b i ai,GV bV n b j ah]at e;have:=atW (pos bV) e;rw [Ba,Ba]at this;omega
theorem Ks{start size:Int}{bV:Bool}{l:List Int}(h:jv start size bV=.ok l):l.length<=64/\(∀x∈l,0<=x/\x<=63)/\∃s,setOf l=.ok s/\s.length=64/\∀i:Nat,s.getD i false=decide ((i:Int)∈l):=by
 obtain⟨U,ae,aM,cc,gA,gM,jc,ko⟩:=abe h;have ba:l.Nodup:=by
  rw [ko];cases bV
  · exact Zh _ _ _
  · exact List.pairwise_reverse.2 ((Zh true start size.toNat).imp (λcY e=>cY e.symm))
 obtain⟨s,aG⟩:=RO (l:=l) (s:=gg) bk ba (λx hx=>⟨(gM x hx).1,by have:=(gM x hx).2;omega,by
  unfold gg;rw [avP,au0];split<;>rfl⟩)
 obtain⟨e6,_,_,a4⟩:=RP bk aG;refine⟨bj,gM,s,aG,e6,λi=>?_⟩;rw [a4 i];unfold gg;rw [avP,au0];split<;>simp
def BT(n:Int):Int:=8*(if 8<(if n<0 then 0 else n)then 8 else(if n<0 then 0 else n))
theorem acM(n:Int):0<=BT n/\BT n<=64:=by unfold BT;split<;>split<;>omega
def nU(start size:Int)(bV:Bool)(n:Int):Int:=
 match jv start size bV with
 | .error e=>e
 | .ok l=>if ∀x∈l,x<BT n then 0 else 16
theorem aev{start size:Int}{bV:Bool}{e:Int}(h:jv start size bV=.error e):e=15\/e=16:=by
 unfold jv at h;split at h
 · cases h;exact .inl rfl
 · split at h
   · cases h;exact .inr rfl
   · split at h
     · cases h
     · cases h;exact .inr rfl
end bH
open Go.RowKit
attribute [local irreducible] wpList wpQuiet wpStill Code.wp Exit.then Exit.inBlock bodyPost Calls bL eT
theorem ac3(w:World)(e:Int)(he:e=15\/e=16):bd Tryz.prog 260 [.iface 70 (.int .i64 e)].toArray w (λv w'=>v=.int .i64 e/\Below w.heap.size w w'):=by
 refine cF Tryz.func260 rfl 16 rfl 17 rfl (λa I=>?_);revert a;refine ad λa I=>?_;refine G9 I (Value.int .i64) [15,16] [(0,.int .i64 15),(1,.int .i64 16)] (aA _ _ rfl) ai7 rfl bh ⟨rfl,rfl,rfl,rfl,trivial⟩ (k:=λa aq an aB ab I=>?_);obtain⟨b,o,fD,c0⟩:=ab 0 bk;obtain⟨b',my,bw,bM⟩:=ab 1 bk;cases fD;cases bw
 replace c0:aq.cell? ⟨w.heap.size,0+0,none⟩=some (.int .i64 15):=c0;replace bM:aq.cell? ⟨w.heap.size,0+1,none⟩=some (.int .i64 16):=bM;revert a;refine ad λa I=>?_;refine eg (λq a wr=>wr=aq/\((q=2/\Fr 17 [(0,.iface 70 (.int .i64 e)),(5,.slice (some ⟨w.heap.size,0,none⟩) 2 2),(6,.int .i64 2),(7,.int .i64 0)] a)\/(q=1/\e=16/\Fr 17 [(0,.iface 70 (.int .i64 e)),(5,.slice (some ⟨w.heap.size,0,none⟩) 2 2),(6,.int .i64 2),(7,.int .i64 1)] a))) 2
   ⟨rfl,.inl ⟨rfl,I.bb⟩⟩ ?_
 clear I a;rintro q a wr ⟨hw,⟨rfl,I⟩|⟨rfl,rfl,I⟩⟩
 · subst hw;revert a;(repeat first|refine ag ?_|refine J (gT (j:=0)) ?_|refine J (af c0) ?_);intro a I;refine aQ I (WX wr e 15) λa v ax ab I=>?_;obtain⟨rfl,rfl⟩:=ab;rcases he with rfl|rfl
   · revert a;refine ad λa I=>?_;exact bc I rfl rfl ⟨rfl,aB⟩
   · revert a;refine ad λa I=>?_;exact⟨1,bk,rfl,.inr ⟨rfl,rfl,I.bb⟩⟩
 · subst hw;revert a;(repeat first|refine ag ?_|refine J (gT (j:=1)) ?_|refine J (af bM) ?_);intro a I;refine aQ I (WX wr 16 16) λa v ax ab I=>?_;obtain⟨rfl,rfl⟩:=ab;revert a;refine ad λa I=>?_;exact bc I rfl rfl ⟨rfl,aB⟩
def RN(start size:Int)(bV:Bool)(n:Int)(v:Value):Prop:=∃s,s.length=64/\v=.tuple #[.agg (dR s),.int .i64 (bH.nU start size bV n)]/\(bH.nU start size bV n=0->∃l,bH.jv start size bV=.ok l/\bH.setOf l=.ok s)
theorem aap(w:World)(cs:Array Value)(start size n:Int)(bV:Bool)(aG:Ej cs start size bV)(U:∀v∈cs,v.oneCell'=true):
  bd Tryz.prog 235 [.agg cs,.int .i64 n].toArray w (λv w'=>RN start size bV n v/\Below w.heap.size w w'):=by
 refine dP Tryz.func235 rfl 39 rfl 41 rfl (λa I=>?_);revert a;refine ad λa I=>?_;refine di I (cs:=cs) rfl (k:=λa aq aE aT b8 I=>?_);refine b6 I tN λa ax eB aS cZ I=>?_;replace aE:=aD aE aS bl;have aC:=aK (aK (atL _ w) aT (atI _)) aS bj;replace eB:ax.heap[aq.heap.size]? =some (.cells (dR bH.gg) 356 (0,0)):=eB;revert a;(repeat first|refine ag ?_|refine J (fR (agg _ rfl) (aw _ _ rfl) aG.len (dy aE)) ?_);intro a I;refine aQ I (Lq ax cs start size bV aG) λa v a6 ab I=>?_;obtain⟨Iy,a1⟩:=ab;have z3:=a1.size;have fS:=(a1.block _ bj).trans eB;have gh:=aC.trans (a1.mono bj);have aaK:∀(l:List (Nat × Value)) (w:World) (ty:TypeId),bL Tryz.prog l w (.build 356 ([]:List (Nat × Operand)).toArray) ty (.agg (dR bH.gg)) w:=λl w ty=>cA (vs:=[]) bh trivial;have fin:∀(a:Act) (l:List (Nat × Value)) (W:World) (s:List Bool) (e:Int),Fr 41 l a->look l 4=some (.pointer (some ⟨aq.heap.size,0,none⟩))->look l 5=some (.int .i64 e)->W.heap[aq.heap.size]? =some (.cells (dR s) 356 (0,0))->s.length=64->e=bH.nU start size bV n->(e=0->∃l,bH.jv start size bV=.ok l/\bH.setOf l=.ok s)->Below w.heap.size w W->
    bodyPost Tryz.prog Tryz.f235 (λe w'=>∃v,e=.returned v/\(RN start size bV n v/\Below w.heap.size w w')) .ret a W:=by
  intro a l W s e I cc gA az aN he bA hb;subst he;exact h7 I rfl (agg _ rfl) (by rw [aw 356 64 rfl,gm,aN]) az cc gA ⟨⟨s,aN,rfl,bA⟩,hb⟩
 have Jy:∀e,bH.jv start size bV=.error e->bH.nU start size bV n=e:=λe h=>by unfold bH.nU;rw [h]
 cases aj:bH.jv start size bV with
 |error e=>
  rw [aj]at Iy;obtain rfl:v=_:=Iy;have he:=bH.aev aj;revert a;refine ad λa I=>?_;refine st I (aaK _ _ _) rfl (λa I=>?_);revert a;refine ad λa I=>?_;refine aQ I (ac3 a6 e he) λa v bZ ab I=>?_;obtain⟨rfl,b7⟩:=ab;have lT:=(b7.block _ bj).trans fS;refine cE I (cs:=dR bH.gg) lT (p2 _) λa bN agQ br dw I=>?_;revert a;refine ad λa I=>?_;exact fin _ _ _ _ _ I rfl rfl agQ bk (Jy e aj).symm (λaJ=>by omega) (aK (gh.trans (b7.mono bj)) br (by have:=b7.size;omega))
 |ok l=>
  rw [aj]at Iy;obtain⟨g,cap,rfl,yy,aX⟩:=Iy;obtain⟨asQ,tP,s,AE,Kw,Va⟩:=bH.Ks aj;have dv:=(nL aX).2;revert a;refine ad λa I=>?_;refine aQ I (an' a6 l _ _ cap rfl dv bj) λa v bZ ab I=>?_;obtain⟨Uu,b7⟩:=ab;rw [AE]at Uu;obtain rfl:v=_:=Uu;have z4:=b7.size;have lT:=(b7.block _ bj).trans fS;have iC:=gh.trans (b7.mono bj);revert a;refine ad λa I=>?_;refine b6 I tN λa bN CW br dw I=>?_;refine dX I (cs:=dR s) (aw _ _ rfl) (by rw [gm,Kw]) rfl CW (p2 _) (k:=λa bQ CX cM fm I=>?_);have AB:=aD (aD lT br bl) cM bm;have gB:=aK (aK iC br bj) cM bj;have ars:=bH.acM n;obtain⟨m0,Jj⟩:∃m0,(if n<0 then 0 else n)=m0:=⟨_,rfl⟩;obtain⟨m1,oq⟩:∃m1,(if (8:Int) <m0 then 8 else m0)=m1:=⟨_,rfl⟩;have qx:bH.BT n=8*m1:=by unfold bH.BT;rw [Jj,oq]
  obtain⟨c,av⟩:∃c:Nat,8*m1=(c:Int):=⟨(8*m1).toNat,bj⟩;have yB:∀(l:List (Nat × Value)) (x y:Operand) (t t' ty:TypeId) (w:World),a7 l x (.int .i64 n)->a7 l y (.int .i64 0)->bL Tryz.prog l w (.call { callee:=.builtin .max,args:=[x,y].toArray,argTypes:=[t,t'].toArray }) ty (.int .i64 m0) w:=λl x y t t' ty w hx aO=>by
    have:=SG (P:=Tryz.prog) (w:=w) (t:=t) (t':=t') (ty:=ty) hx aO
    rwa [Jj]at this
  have ahr:∀(l:List (Nat × Value)) (x y:Operand) (t t' ty:TypeId) (w:World),a7 l x (.int .i64 m0)->a7 l y (.int .i64 8)->bL Tryz.prog l w (.call { callee:=.builtin .min,args:=[x,y].toArray,argTypes:=[t,t'].toArray }) ty (.int .i64 m1) w:=λl x y t t' ty w hx aO=>by
    have:=H3 (P:=Tryz.prog) (w:=w) (t:=t) (t':=t') (ty:=ty) hx aO
    rwa [oq]at this
  revert a;(repeat first|refine ag ?_|refine J (yB _ _ _ _ _ _ _ rfl rfl) ?_|refine J (ahr _ _ _ _ _ _ _ rfl rfl) ?_|refine J (n9 (h:=by omega)) ?_);intro a I;rw [av]at I;have UW:c<=64:=bj
  have Wo:bH.nU start size bV n=if ∀x∈l,x<(c:Int)then 0 else 16:=by unfold bH.nU;rw [aj,qx,av]
  refine eg (λq a wr=>∃k:Nat,c<=k/\k<=64/\q=64- k/\(∀j,c<=j->j<k->s.getD j false=false)/\Fr 41 [(4,.pointer (some ⟨aq.heap.size,0,none⟩)),(8,.pointer (some ⟨bZ.heap.size,0,none⟩)),(9,.int .i64 (k:Int))] a/\wr=bQ) (64- c)
    ⟨c,atI _,UW,rfl,λj U ae=>by omega,I.bb,rfl⟩ ?_
  clear I a;rintro q a wr ⟨k,Fe,FC,rfl,lQ,I,rfl⟩;by_cases bu:k<64
  · have sq:wr.cell? ⟨bZ.heap.size,0+k,none⟩=some (.bool (s.getD k false)):=by
     rw [aub];refine aF CX ?_;rw [DD bj];simp [List.getD,show k<s.length by omega]
    cases hb:s.getD k false with
    |true=>
     rw [hb]at sq;revert a;(repeat first|refine ag ?_|refine J (dY (aA _ _ rfl) (aw _ _ rfl) (j:=k)) ?_|refine J (af sq) ?_);intro a I;refine st I (aaK _ _ _) rfl (λa I=>?_);refine cE I (cs:=dR bH.gg) AB (p2 _) λa bt NB cf fZ I=>?_;revert a;refine ad λa I=>?_;have hm:((k:Int)∈l):=by rw [Va]at hb;exact auo hb
     have O0:bH.nU start size bV n=16:=by rw [Wo,atK (λh=>by have:=h _ hm;omega)]
     exact fin _ _ _ _ _ I rfl rfl NB bk O0.symm (λaJ=>by omega) (aK gB cf bj)
    |false=>
     rw [hb]at sq;revert a;(repeat first|refine ag ?_|refine J (dY (aA _ _ rfl) (aw _ _ rfl) (j:=k)) ?_|refine J (af sq) ?_);intro a I;exact⟨64- (k+1),bj,k+1,bj,bj,rfl,λj U ae=>by
      by_cases e:j=k
      · subst e;exact hb
      · exact lQ j U bj,I.bb,rfl⟩
  · revert a;(repeat first|refine ag ?_|refine J (fR (agg _ rfl) (aw _ _ rfl) (by rw [gm,Kw]) (dy CX)) ?_);intro a I;refine dX I (cs:=dR s) (aw _ _ rfl) (by rw [gm,Kw]) rfl AB (p2 _) (k:=λa bt NB cf fZ I=>?_);revert a;refine ad λa I=>?_;have O0:bH.nU start size bV n=0:=by
     rw [Wo,atM];intro x hx;apply Decidable.byContradiction;intro u4;have ow:=tP x hx;have:=lQ x.toNat bj bj;rw [Va,show((x.toNat:Nat):Int)=x by omega,aur hx]at this;cases this
    exact fin _ _ _ _ _ I rfl rfl NB Kw O0.symm (λ_=>⟨l,aj,AE⟩) (aK gB cf bj)
end
theorem WI{s:ByteArray}{i:Nat}:((Utf8.decode s i).1=65533/\(Utf8.decode s i).2=1)↔vl s i=true:=by
 by_cases h:(Utf8.decode s i).1=65533
 · obtain⟨U,ae⟩:=aaq h;rw [U,ae];cases zU s i<;>simp [h]
 · rw [Pc h];simp [h]
theorem apL(s:ByteArray):∀(m k:Nat),s.size - (cw s k).1<=m->(Lib.validD (s.data.toList.drop (cw s k).1)=true↔∀j,k<=j->(cw s j).1<s.size->vl s (cw s j).1=false):=by
 intro m;induction m with
 |zero=>
  intro k hm;have aI:s.data.toList.drop (cw s k).1=[]:=ava (by show s.data.toList.length<=_;rw [ax8];show s.size<=_;omega);rw [aI];refine⟨λ_ j ah bu=>?_,λ_=>rfl⟩;have:=Hc s k (j - k);rw [axa ah]at this;omega
 |succ m df=>
  intro k hm;by_cases bu:(cw s k).1<s.size
  · have b5:s.data.toList.drop (cw s k).1≠ []:=by
      intro e;have:=atW List.length e;simp only [atU,ax8,avd]at this;have bf:s.data.size=s.size:=rfl;omega
    rw [Lib.validD_step _ b5,Lib.decodeL_drop,auQ,<-zo];have gY:=Q0 s k bu;have aiU:=df (k+1) bj;by_cases hb:vl s (cw s k).1=true
    · rw [atM (WI.2 hb)];constructor
      · intro h;cases h
      · intro h;have:=h k (atI _) bu;rw [hb]at this;cases this
    · rw [atK (λh=>hb (WI.1 h)),aiU];constructor
      · intro h j ah aN;by_cases e:j=k
        · subst e;exact avS.2 hb
        · exact h j bj aN
      · intro h j ah aN;exact h j bj aN
  · have aI:s.data.toList.drop (cw s k).1=[]:=ava (by rw [ax8];show s.size<=_;omega);rw [aI];refine⟨λ_ j ah aN=>?_,λ_=>rfl⟩;have:=Hc s k (j - k);rw [axa ah]at this;omega
theorem aaf(s:ByteArray):Lib.validD s.data.toList=true↔∀j,(cw s j).1<s.size->vl s (cw s j).1=false:=by
 have:=apL s s.size 0 bj;rw [show(cw s 0).1=0 from rfl,aus]at this;rw [this];exact⟨λh j aN=>h j (auc _) aN,λh j _ aN=>h j aN⟩
def By(s:ByteArray):Prop:=∀k,(cw s k).1<s.size->vl s (cw s k).1=false/\n8 (jo s k)=false
def D'(s:ByteArray)(n:Int):Prop:=(1024<s.size/\n=5)\/(s.size<=1024/\((By s/\n=0)\/(¬By s/\n=6)))
theorem akR{s:ByteArray}{m n:Int}(h:D' s m)(k:D' s n):m=n:=by
 rcases h with ⟨U,ae⟩|⟨U,⟨ae,aM⟩|⟨ae,aM⟩⟩<;>rcases k with ⟨h',lW⟩|⟨h',⟨lW,pO⟩|⟨lW,pO⟩⟩<;>first|omega|exact absurd ae lW|exact absurd lW ae
section
attribute [local irreducible] wpList wpQuiet wpStill Code.wp Exit.then Exit.inBlock bodyPost Calls bL eT
theorem ao4(w:World)(r:Int):bd Tryz.prog 138 #[.int .i32 r] w (λv w'=>v=.bool (n8 r)/\w'=w):=by
 refine cF Tryz.func138 rfl 8 rfl 9 rfl (λa I=>?_);unfold n8;by_cases U:r<32
 · revert a;refine ad λa I=>?_;exact bc I rfl rfl ⟨by rw [aur (.inl U)],rfl⟩
 · by_cases ae:r=127
   · revert a;refine ad λa I=>?_;exact bc I rfl rfl ⟨by rw [aur (.inr ae)],rfl⟩
   · revert a;refine ad λa I=>?_;exact bc I rfl rfl ⟨by rw [auk bj],rfl⟩
theorem aiQ(w:World)(s:ByteArray):bd Tryz.prog 234 #[.string s,.func (.func 138) #[] #[],.bool true] w (λv w'=>(∃p:Int,v=.int .i64 p/\((0<=p/\∃k,(cw s k).1<s.size/\n8 (jo s k)=true)\/(p= -1/\∀k,(cw s k).1<s.size->n8 (jo s k)=false)))/\Below w.heap.size w w'):=by
 refine mf Tryz.func234 rfl 18 rfl 21 rfl (λa I=>?_);revert a;refine ad λa I=>?_;refine zl I (aA _ _ rfl) (k:=λa aq hit aT b8 I=>?_);have aB:=aK (atL _ w) aT (atI _);revert a;refine ad λa I=>?_;refine eg (λq a wr=>∃k:Nat,(∀j,j<k->(cw s j).1<s.size/\n8 (jo s j)=false)/\q=s.size - (cw s k).1/\Fr 21 [(0,.string s),(1,.func (.func 138) #[] #[]),(2,.bool true),(10,.pointer (some ⟨w.heap.size,0,none⟩))] a/\kh wr w.heap.size s (cw s k).1/\Below w.heap.size w wr) s.size
   ⟨0,λj ah=>absurd ah (auv _),rfl,I.bb,hit,aB⟩ ?_
 clear I a hit aB;rintro q a wr ⟨k,lQ,rfl,I,hit,cH⟩;have bT:=cH.size;by_cases bu:(cw s k).1<s.size
 · have gY:=zo s k;have rm:=Q0 s k bu;revert a;refine ad λa I=>?_;refine zj I hit bu (k:=λa ax su aS cZ I=>?_);rw [<-gY]at su;have I4:=aK cH aS bT;revert a;refine ad λa I=>?_;refine ZN I (cs:=[]) (vs:=[.int .i32 (jo s k)]) (ao4 ax (jo s k)) abX ⟨rfl,trivial⟩ (k:=λa v a6 ab I=>?_);obtain⟨rfl,rfl⟩:=ab;cases av:n8 (jo s k)with
   |true=>
    rw [av]at I;revert a;refine ad λa I=>?_;exact bc I rfl rfl ⟨⟨_,rfl,.inl ⟨Int.natCast_nonneg _,k,bu,av⟩⟩,I4⟩
   |false=>
    rw [av]at I;revert a;refine ad λa I=>?_;exact⟨s.size - (cw s (k+1)).1,bj,k+1,λj ah=>by
     by_cases e:j=k
     · subst e;exact⟨bu,av⟩
     · exact lQ j bj,rfl,I.bb,su,I4⟩
 · revert a;refine ad λa I=>?_;refine Bm I hit bu (k:=λa I=>?_);revert a;refine ad λa I=>?_;exact bc I rfl rfl ⟨⟨_,rfl,.inr ⟨rfl,λj ah=>(lQ j (apv bu ah)).2⟩⟩,cH⟩
theorem aiP(w:World)(s:ByteArray):bd Tryz.prog 194 #[.string s,.func (.func 138) #[] #[]] w (λv w'=>(∃p:Int,v=.int .i64 p/\((0<=p/\∃k,(cw s k).1<s.size/\n8 (jo s k)=true)\/(p= -1/\∀k,(cw s k).1<s.size->n8 (jo s k)=false)))/\Below w.heap.size w w'):=by
 refine dP Tryz.func194 rfl 6 rfl 8 rfl (λa I=>?_);revert a;refine ad λa I=>?_;refine aQ I (aiQ w s) λa v aq ab I=>?_;obtain⟨⟨p,rfl,aW⟩,hb⟩:=ab;revert a;refine ad λa I=>?_;exact bc I rfl rfl ⟨⟨_,rfl,aW⟩,hb⟩
theorem adf(w:World)(s:ByteArray):bd Tryz.prog 137 #[.string s,.func (.func 138) #[] #[]] w (λv w'=>(∃b,v=.bool b/\(b=true->∃k,(cw s k).1<s.size/\n8 (jo s k)=true)/\(b=false->∀k,(cw s k).1<s.size->n8 (jo s k)=false))/\Below w.heap.size w w'):=by
 refine dP Tryz.func137 rfl 7 rfl 9 rfl (λa I=>?_);revert a;refine ad λa I=>?_;refine aQ I (aiP w s) λa v aq ab I=>?_;obtain⟨⟨p,rfl,aW⟩,hb⟩:=ab;rcases aW with ⟨aJ,au⟩|⟨rfl,au⟩
 · revert a;refine ad λa I=>?_;exact bc I rfl rfl ⟨⟨true,rfl,λ_=>au,λh=>by cases h⟩,hb⟩
 · revert a;refine ad λa I=>?_;exact bc I rfl rfl ⟨⟨false,rfl,λh=>(by cases h),λ_=>au⟩,hb⟩
end
end Go.Proofs.YtnkjmbbddmgjiaaGreatDoor
namespace Go.Proofs
open Go.RowKit
section
open Go.Shelf
def Tryz.Gl:Go.Shelf.Ren:=⟨λ| 196=>136 | 259=>193 |n=>n,λ| 0=>0 | 3=>3 | 4=>4 | 5=>5 | 9=>9 | 12=>12 | 46=>166 | 53=>34 | 119=>272 | 138=>313 | 139=>314 |n=>n,λ| 3=>2 | 4=>3 |n=>n⟩
theorem Tryz.Xl:Go.Proofs.Lays.n196 Tryz.prog Tryz.Gl:={
 mixed:=bh
 f196:=Tryz.func136.trans (atW some bh)
 f259:=Tryz.func193.trans (atW some bh)
 t0:=avk
 a0:=av8
 z0:=avY
 v0:=avu
 t3:=atX
 a3:=avz
 z3:=avr
 v3:=auZ
 t4:=aut
 a4:=avi
 z4:=ave
 v4:=auz
 t5:=au5
 a5:=av1
 z5:=avO
 v5:=avl
 t9:=auh
 a9:=avG
 z9:=avv
 v9:=au'
 t12:=Tryz.underlying12
 a12:=Tryz.isAgg12
 z12:=Tryz.sizeOf12
 v12:=Tryz.zeroValue12
 t46:=avs
 a46:=av2
 z46:=avV
 v46:=avx
 t53:=auM
 a53:=awh
 z53:=av3
 v53:=avw
 t119:=Tryz.underlying272
 a119:=Tryz.isAgg272
 z119:=Tryz.sizeOf272
 t138:=Tryz.underlying313
 a138:=Tryz.isAgg313
 z138:=Tryz.sizeOf313
 v138:=Tryz.zeroValue313
 t139:=Tryz.underlying314
 a139:=Tryz.isAgg314
 z139:=Tryz.sizeOf314
 v139:=Tryz.zeroValue314
 g3:=bh
 g4:=bh }
theorem Tryz.utf8_ValidString(s:ByteArray)(w:World)(aG:s.size<=9223372036854775807)(cT:Lib.Utf8Tabs (Tryz.Gl.g 3) (Tryz.Gl.g 4) w):
 Calls Tryz.prog 136 #[.string s] w λe w'=>e=.returned (.bool (Lib.validD s.data.toList))/\Below w.heap.size w w':=Any.utf8_ValidString Tryz.Xl s w aG cT
end
end Go.Proofs
namespace Go.Proofs.YtnkjmbbddmgjiaaGreatDoor
open Go.RowKit Go.Proofs.Tryz
variable {w w':World}{xs ys:List Ins}{ay pq:Option Addr}
section
open Go.Shelf
def ni(w:World):Prop:=Lib.Utf8Tabs (Tryz.Gl.g 3) (Tryz.Gl.g 4) w
theorem ni.below(h:ni w)(hb:Below w.heap.size w w'):ni w':=
 ⟨λc av=>(hb.cell (aui w _ (h.1 c av))).trans (h.1 c av),λi ai=>⟨(hb.cell (aui w _ (h.2 i ai).1)).trans (h.2 i ai).1,(hb.cell (aui w _ (h.2 i ai).2)).trans (h.2 i ai).2⟩⟩
end
section
attribute [local irreducible] wpList wpQuiet wpStill Code.wp Exit.then Exit.inBlock bodyPost Calls bL eT
theorem apM(w:World)(s:ByteArray)(aG:s.size<=16777216)(cT:ni w):bd prog 136 #[.string s] w (λv w'=>v=.bool (Lib.validD s.data.toList)/\Below w.heap.size w w'):=
 auC (Tryz.utf8_ValidString s w bj cT) (by rintro e w' ⟨rfl,hb⟩;exact⟨_,rfl,rfl,hb⟩)
theorem QO(w:World)(s:ByteArray)(cT:ni w):bd prog 74 [.string s].toArray w (λv w'=>(∃n,D' s n/\v=.int .i64 n)/\Below w.heap.size w w'):=by
 refine cF func74 rfl 14 rfl 15 rfl (λa I=>?_);by_cases qu:(s.size:Int)>1024
 · revert a;refine ad λa I=>?_;exact bc I rfl rfl ⟨⟨5,.inl ⟨bj,rfl⟩,rfl⟩,atL _ w⟩
 revert a;refine ad λa I=>?_;refine aQ I (apM w s bj cT) λa v aq ab I=>?_;obtain⟨rfl,aB⟩:=ab;cases ao:Lib.validD s.data.toList with
 |false=>
   rw [ao]at I;revert a;refine ad λa I=>?_;have jy:¬By s:=λh=>by
    have:=(aaf s).2 (λj ah=>(h j ah).1);rw [ao]at this;cases this
   exact bc I rfl rfl ⟨⟨6,.inr ⟨bj,.inr ⟨jy,rfl⟩⟩,rfl⟩,aB⟩
 |true=>
   rw [ao]at I;revert a;refine ad λa I=>?_;refine ig I (adf aq s) R5 ⟨rfl,rfl,trivial⟩ (k:=λa v ax ab I=>?_);obtain⟨⟨b,rfl,U,ae⟩,aC⟩:=ab;have hb:=aB.trans (aC.mono aB.size);cases b with
   |true=>
    revert a;refine ad λa I=>?_;have jy:¬By s:=λh=>by
     obtain⟨k,au,av⟩:=U rfl;have:=(h k au).2;rw [av]at this;cases this
    exact bc I rfl rfl ⟨⟨6,.inr ⟨bj,.inr ⟨jy,rfl⟩⟩,rfl⟩,hb⟩
   |false=>
    revert a;refine ad λa I=>?_;exact bc I rfl rfl ⟨⟨0,.inr ⟨bj,.inl ⟨λk au=>⟨(aaf s).1 ao k au,ae rfl k au⟩,rfl⟩⟩,rfl⟩,hb⟩
end
end Go.Proofs.YtnkjmbbddmgjiaaGreatDoor