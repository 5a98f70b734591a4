import Derived.Test.YtnkjmbbddmgjiaaGreatDoorSumLawCheckedS7
set_option linter.unusedSimpArgs false
set_option linter.unusedVariables false
set_option maxRecDepth 1000000
set_option maxHeartbeats 400000000
namespace Go.Proofs.YtnkjmbbddmgjiaaGreatDoor
open Go.RowKit Go.Proofs.Tryz
variable {slots v R G dB j:Nat}{l:List (Nat × Value)}{aV rem:List Nat}{x:Ins}{dep:List (Nat × List Nat)}{w w' fy:World}{ty t':TypeId}{ay:Option Addr}{P:Program}
section
attribute [local irreducible] wpList wpQuiet wpStill Code.wp Exit.then Exit.inBlock bodyPost Calls bL eT
structure cR where
 r:List Nat
 a':List Nat
 out:List Nat
 has:List Bool
def cR.bI(s:cR)(i:Nat):Nat:=s.r[i]?.getD 0
def cR.put(s:cR)(i v:Nat):cR:={ s with r:=s.r.set i v }
def mA(v n:Nat):Nat:=v*2^n%2^64
def dI(aV:List Nat)(x:Ins)(s:cR):cR:=
 match x.op with
 | 1=>s.put x.a x.bK
 | 2=>s.put x.a (s.bI x.b)
 | 3=>s.put x.a (s.bI x.a &&& s.bI x.b)
 | 4=>s.put x.a (s.bI x.a ||| s.bI x.b)
 | 5=>s.put x.a (s.bI x.a ^^^ s.bI x.b)
 | 6=>s.put x.a (mA (s.bI x.a) x.n)
 | 7=>s.put x.a (s.bI x.a/2^x.n)
 | 8=>s.put x.a (s.bI x.a &&& x.bK)
 | 9=>s.put x.a (mU false ((s.a'.drop x.b).take x.n))
 | 10=>s.put x.a (mU true ((s.a'.drop x.b).take x.n))
 | 11=>{ s with a':=hW s.a' x.b x.n false (s.bI x.a) (2^64- 1) x.n }
 | 12=>{ s with a':=hW s.a' x.b x.n true (s.bI x.a) (2^64- 1) x.n }
 | 13=>{ s with a':=hW s.a' x.b x.n false (s.bI x.a) x.bK x.n }
 | 14=>s.put x.a (mL (s.bI x.a) x.n true)
 | 15=>s.put x.a (aV[x.b]?.getD 0)
 | 16=>{ s with out:=s.out.set x.b (s.bI x.a),has:=s.has.set x.b true }
 |_=>s
def da(aV:List Nat):List Ins->cR->Nat->Option Nat × cR × Nat
 | [],s,k=>(none,s,k)
 |x::p,s,k=>
  if x.op=0 then(none,s,k+1)
  else if x.op=17 then(if r' (s.bI x.a) x.n (decide (x.bK=1))then da aV p s (k+1)else(some x.b,s,k+1))
  else if x.op=18 then da aV (p.drop x.n) s (k+1)
  else if x.op=19 then(if s.bI x.a=x.bK then da aV p s (k+1)else da aV (p.drop x.n) s (k+1))
  else da aV p (dI aV x s) (k+1)
 termination_by p=>p.length
 decreasing_by all_goals simp [atU];try omega
structure jb(size slots:Nat)(s:cR):Prop where
 r:s.r.length=16
 hC:∀v∈s.r,v<2^64
 a':s.a'.length=size
 pX:∀v∈s.a',v<256
 out:s.out.length=slots
 vz:∀v∈s.out,v<2^64
 has:s.has.length=slots
theorem jb.bI{size:Nat}{s:cR}(h:jb size slots s)(i:Nat):s.bI i<2^64:=by
 unfold cR.bI;cases he:s.r[i]? with
 |none=>decide
 |some v=>exact h.hC v (auF he)
theorem jb.put{size:Nat}{s:cR}(h:jb size slots s)(i:Nat)(ao:v<2^64):jb size slots (s.put i v):=by
 refine⟨by simp [cR.put,h.r],λu hu=>?_,h.a',h.pX,h.out,h.vz,h.has⟩;rcases awn hu with U|U
 · exact h.hC u U
 · rw [U];exact ao
theorem QB(v n:Nat):mA v n<2^64:=avI _ bk
theorem JW{l:List Nat}{a b:Nat}(h:v∈(l.drop a).take b):v∈l:=auG (awW h)
theorem Xy:∀(aa:List Nat) (i v:Nat),(∀c∈aa,c<256)->i+aa.length<=8->v<2^64->qG aa i v<2^64
 | [],_,_,_,_,h=>h
 |b::aa,i,v,hb,aN,h=>by
  rw [qG];refine Xy aa (i+1) _ (λc av=>hb c (by simp [av])) (by simp at aN;omega) (avn h ?_);have U:=hb b bl;have ae:=YC i (by simp at aN;omega);have aM:=avL (8*i);exact auj (by rw [avq];exact aye U aM) ae
theorem Xw:∀(aa:List Nat) (k v:Nat),(∀c∈aa,c<256)->k+aa.length<=8->v<2^(8*k)->vv aa v<2^64
 | [],k,v,_,aN,h=>auj h (aum bk (by simp at aN;omega))
 |b::aa,k,v,hb,aN,h=>by
  rw [vv];have U:=hb b bl;refine Xw aa (k+1) _ (λc av=>hb c (by simp [av])) (by simp at aN;omega) (avn ?_ ?_)
  · rw [show 8*(k+1)=8*k+8 by omega,avZ];exact avM h bk
  · refine auj U ?_;have:=aum (n:=2) bk (show 8<=8*(k+1) by omega);omega
theorem aks{aa:List Nat}(fP:Bool)(hb:∀c∈aa,c<256)(aN:aa.length<=8):mU fP aa<2^64:=by
 unfold mU;split
 · exact Xw aa 0 0 hb bj bk
 · exact Xy aa 0 0 hb bj bk
theorem vK{size:Nat}{s:cR}(h:jb size slots s)(aG:size<=8)(hx:x.bK<2^64)(ai:∀v∈aV,v<2^64):jb size slots (dI aV x s):=by
 have eb:aV[x.b]?.getD 0<2^64:=by
   cases he:aV[x.b]? with
   |none=>decide
   |some v=>exact ai v (auF he)
 have iE:∀fP,mU fP ((s.a'.drop x.b).take x.n) <2^64:=λfP=>aks fP (λc av=>h.pX c (JW av)) (by have:=h.a';simp;omega);have bY:∀o n fP v m k,jb size slots { s with a':=hW s.a' o n fP v m k }:=λo n fP v m k=>⟨h.r,h.hC,by simp [zi,h.a'],aoz h.pX _ _ _ _ _ _,h.out,h.vz,h.has⟩;unfold dI;split
 · exact h.put _ hx
 · exact h.put _ (h.bI _)
 · exact h.put _ (au6 _ (h.bI _))
 · exact h.put _ (avn (h.bI _) (h.bI _))
 · exact h.put _ (awL (h.bI _) (h.bI _))
 · exact h.put _ (QB _ _)
 · exact h.put _ (avB (ax5 _ _) (h.bI _))
 · exact h.put _ (au6 _ hx)
 · exact h.put _ (iE _)
 · exact h.put _ (iE _)
 · exact bY _ _ _ _ _ _
 · exact bY _ _ _ _ _ _
 · exact bY _ _ _ _ _ _
 · exact h.put _ (Th (h.bI _) _ _)
 · exact h.put _ eb
 · refine⟨h.r,h.hC,h.a',h.pX,by simp [h.out],λu hu=>?_,by simp [h.has]⟩;rcases awn hu with U|U
   · exact h.vz u U
   · rw [U];exact h.bI _
 · exact h
theorem GQ{aV:List Nat}:∀(p:List Ins) (s:cR) (k:Nat),(da aV p s k).2.2<=k+p.length
 | [],s,k=>by rw [da];simp
 |x::p,s,k=>by
  rw [da];have U:=GQ (aV:=aV) p s (k+1);have ae:=GQ (aV:=aV) (p.drop x.n) s (k+1);have aM:=GQ (aV:=aV) p (dI aV x s) (k+1);simp only [atU]at ae;simp only [aue];split
  · show k+1<=_;omega
  · split
    · split
      · omega
      · show k+1<=_;omega
    · split
      · omega
      · split
        · split<;>omega
        · omega
 termination_by p=>p.length
 decreasing_by all_goals simp [atU];try omega
end
inductive zC where
 |read (i:Nat) (k:zC)
 |set (ts:List Nat) (dep:List (Nat × List Nat)) (k:qi)
section
variable {P:Program} {md:Region.Mode} {Q:Exit->Act->World->Prop} {S:World->Prop}
def H9(dep:List (Nat × List Nat))(rem:List Nat)(t:Nat):Bool:=dep.all λd=>d.1 != t||d.2.all λs=>!rem.contains s
theorem L'{t s:Nat}{d:List Nat}(h:H9 dep rem t=true)(aI:(t,d)∈dep)(aG:s∈d):s ∉ rem:=by
 have U:=au7.1 h _ aI;simp only [bne_self_eq_false,azC]at U;have ae:=au7.1 U s aG;simpa using ae
def KA(md:Region.Mode)(ops:Array Oper)(dep:List (Nat × List Nat))(fin:Array Bool->Bool):Nat->List Nat->Array Bool->Bool
 | 0,_,listed=>fin listed
 |n+1,rem,listed=>!(Region.ready md ops listed).isEmpty&&(Region.ready md ops listed).all (λt=>rem.contains t&&H9 dep rem t)&&(Region.ready md ops listed).all λt=>KA md ops dep fin n (rem.erase t) (listed.setIfInBounds t true)
def Hb(md:Region.Mode)(ops:Array Oper):Nat->zC->Array Bool->Bool
 |n+1,.read i k,listed=>(Region.ready md ops listed).contains i&&Region.free md ops listed i&&Hb md ops n k (listed.setIfInBounds i true)
 | 0,.read _ _,_=>false
 |n,.set ts dep k,listed=>decide (ts.length<=n)&&KA md ops dep (sT md ops (n - ts.length) k) ts.length ts listed
def Z3(md:Region.Mode)(ops:Array Oper)(t:zC):Bool:=Region.noSelect ops&&Hb md ops ops.size t (Array.replicate ops.size false)
def Hj(P:Program)(ops:Array Oper)(Q:Exit->Act->World->Prop)(S:World->Prop)(l:List Oper):zC->Act->World->Prop
 | .read i k,a,w=>∀o,l[i]? =some o->∃v,YieldsIf P ops S o v a/\Hj P ops Q S l k (a.put o.dst v) w
 | .set ts dep k,a,w=>∃sZ:List Nat->Act->World->Prop,sZ ts a w/\
  (∀rem a w t o,t∈rem->H9 dep rem t=true->sZ rem a w->S w->l[t]? =some o->wpList P ops (λe aU w'=>e=.normal/\S w'/\sZ (rem.erase t) aU w') [o] a w)/\
  (∀a w,sZ [] a w->S w->k1 P ops Q S l k a w)
theorem aau{l:List Oper}(Q:Exit->Act->World->Prop)(aG:Region.noSelect l.toArray=true){sZ:List Nat->Act->World->Prop}{k:qi}{n:Nat}(bY:∀rem a w t o,t∈rem->H9 dep rem t=true->sZ rem a w->S w->l[t]? =some o->wpList P l.toArray (λe aU w'=>e=.normal/\S w'/\sZ (rem.erase t) aU w') [o] a w)(au:∀a w,sZ [] a w->S w->k1 P l.toArray Q S l k a w):∀(m:Nat) (rem:List Nat) (listed:Array Bool) (a:Act) (w:World),rem.length=m->KA md l.toArray dep (sT md l.toArray n k) m rem listed=true->S w->sZ rem a w->
  wpAnyH P md l.toArray (λe a w=>e=.normal/\Q .normal a w) S (n+m) listed a w
 | 0,rem,listed,a,w,hm,aH,bS,h=>by
  obtain rfl:rem=[]:=List.length_eq_zero_iff.1 hm;exact Bw Q aG n k listed a w aH bS (au a w h bS)
 |m+1,rem,listed,a,w,hm,aH,bS,h=>by
  simp only [KA,atP,auI,au7]at aH;obtain⟨⟨U,ae⟩,aM⟩:=aH;refine⟨λaJ=>(by rw [aJ]at U;cases U),λi ai=>?_⟩;obtain⟨o,bp⟩:=AW ai;have Vi:i∈rem:=by simpa using (ae i ai).1
  refine azD ?_ (J5 (R:=λaU w'=>sZ (rem.erase i) aU w') bp (bY rem a w i o Vi (ae i ai).2 h bS (by simpa using bp)));rintro aU w' ⟨cc,gA⟩;exact⟨cc,aau Q aG bY au m (rem.erase i) _ aU w' (by rw [List.length_erase_of_mem Vi];omega) (aM i ai) cc gA⟩
theorem aav{l:List Oper}(Q:Exit->Act->World->Prop)(aG:Region.noSelect l.toArray=true):∀(t:zC) (n:Nat) (listed:Array Bool) (a:Act) (w:World),Hb md l.toArray n t listed=true->S w->
  Hj P l.toArray Q S l t a w->wpAnyH P md l.toArray (λe a w=>e=.normal/\Q .normal a w) S n listed a w
 | .read i k,0,_,_,_,aH,_,_=>by cases aH
 | .read i k,n+1,listed,a,w,aH,bS,h=>by
  simp only [Hb,atP]at aH;obtain⟨⟨aj,bC⟩,EU⟩:=aH;obtain⟨o,bp⟩:=AW (by simpa using aj:i∈Region.ready md l.toArray listed);obtain⟨v,aO,au⟩:=h o (by simpa using bp);exact wpAnyH_take bp aG bC aj (λc a w h=>by cases h.1) aO bS (aav Q aG k n _ _ w EU bS au)
 | .set ts dep k,n,listed,a,w,aH,bS,h=>by
  unfold Hb at aH;simp only [atP,atQ]at aH;obtain⟨sZ,U,ae,aM⟩:=h;have:=aau (md:=md) (S:=S) (n:=n - ts.length) Q aG ae aM ts.length ts listed a w rfl aH.2 bS U
  rwa [Nat.sub_add_cancel aH.1]at this
theorem abI(S:World->Prop)(t:zC)(id:Nat){l':List Oper}{a:Act}(hm:P.follows .mixedOrders=true)(aH:Z3 .any l'.toArray t=true)(bS:S (w.drewN 1))(h:Hj P l'.toArray Q S l' t a (w.drewN 1)):(Code.region id l'.toArray true).wp P Q a w:=by
 simp only [Z3,atP]at aH;have:=aav (md:=.any) (S:=S) Q aH.1 t _ _ a _ aH.2 bS h;refine ayQ hm (Hi ?_ _ _ _ _ (ayR _ _ _ _ this));rintro e a w ⟨rfl,h⟩;exact h
variable {ops:Array Oper} {a:Act} {w:World} {N:Nat} {l:List (Nat × Value)} {L:List Oper} {i:Nat}
theorem GO(h:Fr N l a){k:zC}{d:Nat}{op:Op}{pos:String}{bx:Array Edge}{v:Value}(bp:L[i]? =some ⟨some d,op,ty,pos,bx,none⟩)(aj:∀w,S w->bL P l w op ty v w)(aI:Nat.blt d N=true:=by exact rfl)(cS:∀aU,Fr N ((d,v)::l) aU->Hj P ops Q S L k aU w):Hj P ops Q S L (.read i k) a w:=by
 intro o nD;rw [bp]at nD;cases nD
 exact⟨v,.inl ⟨by simp [Region.wanted],λw hw=>aj w hw a.eval h.eval _ _ _ _⟩,cS _ (h.put aI v)⟩
end
section
attribute [local irreducible] wpList wpQuiet wpStill Code.wp Exit.then Exit.inBlock bodyPost Calls bL eT
theorem Fr.any{N:Nat}{a:Act}(h:Fr N l a)(d:Nat)(aI:Nat.blt d N=true):∃v,Fr N ((d,v)::l) a:=by
 have pG:d<a.tmps.size:=by rw [h.size];simpa [Nat.blt_eq]using aI
 exact⟨_,h.add (ayv pG)⟩
def hF(c:Nat):Value:=.int .u64 (c:Nat)
def Hu(base:Nat)(a':List Nat)(v:Value)(w:World):Prop:=∃ay c,v=.slice ay a'.length c/\w.ownsRow base 5 1 (.slice ay a'.length c) a'.length (a'.map ek)
def Ht(base n:Nat)(v:Value)(w:World):Prop:=∃g,v=.slice (some ⟨g,0,none⟩) n n/\w.heap[g]? =some (.cells (List.replicate n (Value.int .u64 0)).toArray 34 (0,0))/\base<=g
def Hs(base n:Nat)(v:Value)(w:World):Prop:=∃g,v=.slice (some ⟨g,0,none⟩) n n/\w.heap[g]? =some (.cells (List.replicate n (Value.bool false)).toArray 4 (0,0))/\base<=g
def hq(f:Bool)(slot:Nat)(p o h:Value)(k:Nat):List Value:=[.bool f,.int .i64 (slot:Nat),p,o,h,.int .i64 (k:Nat)]
def Hv(base:Nat)(v:Value)(w:World):Prop:=∃g c,v=.pointer (some ⟨g,0,none⟩)/\w.heap[g]? =some (.cells c 39 (0,0))/\c.size=6/\base<=g
theorem Hu.below{base:Nat}{a':List Nat}{v:Value}(h:Hu base a' v w)(hb:Below w.heap.size w w'):Hu base a' v w':=by
 obtain⟨ay,c,e,h⟩:=h;exact⟨ay,c,e,cW h hb⟩
theorem Ht.below{base n:Nat}{v:Value}(h:Ht base n v w)(hb:Below w.heap.size w w'):Ht base n v w':=by
 obtain⟨g,e,h,ae⟩:=h;exact⟨g,e,(hb.block _ (bO h)).trans h,ae⟩
theorem Hs.below{base n:Nat}{v:Value}(h:Hs base n v w)(hb:Below w.heap.size w w'):Hs base n v w':=by
 obtain⟨g,e,h,ae⟩:=h;exact⟨g,e,(hb.block _ (bO h)).trans h,ae⟩
theorem Hv.below{base:Nat}{v:Value}(h:Hv base v w)(hb:Below w.heap.size w w'):Hv base v w':=by
 obtain⟨g,c,e,h,ae⟩:=h;exact⟨g,c,e,(hb.block _ (bO h)).trans h,ae⟩
theorem ca(h:w.grownBy w' none):Below w.heap.size w w':=(atL _ w).grown h (atI _) (λk au=>by cases au)
def aaP(cy:World)(a':List Nat)(n:Nat)(pw:List (Nat × Value))(rem:List Nat)(a:Act)(u:World):Prop:=
 (∀t∈rem,t=1\/t=4\/t=7\/t=8\/t=9)/\rem.Nodup/\Below cy.heap.size cy u/\
 ∃v24 v27 v30 v31 v10,Fr 268 ((24,v24)::(27,v27)::(30,v30)::(31,v31)::(10,v10)::pw) a/\(1∈rem\/Hu cy.heap.size a' v24 u)/\(4∈rem\/Ht cy.heap.size n v27 u)/\(7∈rem\/Hs cy.heap.size n v30 u)/\
  (8∈rem\/(1 ∉ rem/\4 ∉ rem/\7 ∉ rem/\v31=.agg (hq false 0 v24 v27 v30 0).toArray))/\(9∈rem\/Hv cy.heap.size v10 u)
theorem qI{t s:Nat}(b5:s≠t){p q:Prop}(h:s∈rem\/p)(VL:p->q):s∈rem.erase t\/q:=h.imp (λh=>(awZ b5).2 h) VL
theorem Df{t s:Nat}(h:s ∉ rem):s ∉ rem.erase t:=λU=>h (azc U)
structure hs(u:World)(R G:Nat)(ay:Option Addr)(cp go dB:Nat)(s:cR)(k:Nat):Prop where
 r:u.heap[R]? =some (.cells (s.r.map hF).toArray 85 (0,0))
 h5:u.heap[G]? =some (.cells (hq false 0 (.slice ay s.a'.length cp) (.slice (some ⟨go,0,none⟩) s.out.length s.out.length) (.slice (some ⟨dB,0,none⟩) s.has.length s.has.length) k).toArray 39 (0,0))
 a':(s.a'=[]/\ay=none)\/∃g rest,ay=some ⟨g,0,none⟩/\lz u g rest s.a'
 cap:s.a'.length<=cp
 out:u.heap[go]? =some (.cells (s.out.map hF).toArray 34 (0,0))
 has:u.heap[dB]? =some (.cells (s.has.map Value.bool).toArray 4 (0,0))
theorem hs.below{u:World}{cp go k:Nat}{s:cR}(h:hs u R G ay cp go dB s k)(hb:Below u.heap.size u fy):hs fy R G ay cp go dB s k:=
 ⟨(hb.block _ (bO h.r)).trans h.r,(hb.block _ (bO h.h5)).trans h.h5,h.a'.imp id λ⟨g,rest,e,aW⟩=>⟨g,rest,e,aW.below hb⟩,h.cap,(hb.block _ (bO h.out)).trans h.out,(hb.block _ (bO h.has)).trans h.has⟩
theorem hs.bI{u:World}{cp go k:Nat}{s:cR}(h:hs u R G ay cp go dB s k)(aj:s.r.length=16){i:Nat}(ai:i<16):u.cell? ⟨R,0+i,none⟩=some (.int .u64 (s.bI i:Nat)):=by
 refine aF h.r ?_;have h4:i<s.r.length:=bj
 simp [cR.bI,h4,hF]
theorem hs.put{u:World}{cp go k:Nat}{s:cR}(h:hs u R G ay cp go dB s k){i:Nat}(az:fy.heap[R]? =some (.cells ((s.r.map hF).toArray.setIfInBounds (0+i) (.int .u64 (v:Nat))) 85 (0,0)))(an:u.grownBy fy (some R)):hs fy R G ay cp go dB (s.put i v) k:=by
 refine⟨?_,aD h.h5 an (by have:=c1 h.h5 h.r bk;simpa using this),h.a'.imp id ?_,h.cap,aD h.out an (by have:=c1 h.out h.r bk;simpa using this),aD h.has an (by have:=c1 h.has h.r bk;simpa using this)⟩
 · rw [az,auR,aub];simp [cR.put,hF,aww]
 · rintro ⟨g,rest,e,aW⟩;exact⟨g,rest,e,aD aW an (by have:=c1 aW h.r bk;simpa using this)⟩
theorem hs.step{u:World}{cp go k:Nat}{s:cR}(h:hs u R G ay cp go dB s k)(az:fy.heap[G]? =some (.cells ((hq false 0 (.slice ay s.a'.length cp) (.slice (some ⟨go,0,none⟩) s.out.length s.out.length) (.slice (some ⟨dB,0,none⟩) s.has.length s.has.length) k).toArray.setIfInBounds (0+5) (.int .i64 ((k+1:Nat):Int))) 39 (0,0)))(an:u.grownBy fy (some G)):hs fy R G ay cp go dB s (k+1):=by
 refine⟨aD h.r an (by have:=c1 h.r h.h5 bk;simpa using this),az,h.a'.imp id ?_,h.cap,aD h.out an (by have:=c1 h.out h.h5 bk;simpa using this),aD h.has an (by have:=c1 h.has h.h5 bk;simpa using this)⟩;rintro ⟨g,rest,e,aW⟩;exact⟨g,rest,e,aD aW an (by have:=c1 aW h.h5 bk;simpa using this)⟩
theorem hs.store{u:World}{cp go k g:Nat}{rest:List Value}{s:cR}(h:hs u R G (some ⟨g,0,none⟩) cp go dB s k){a':List Nat}(aN:a'.length=s.a'.length)(aW:lz u g rest s.a')(az:lz fy g rest a')(an:u.grownBy fy (some g)):hs fy R G (some ⟨g,0,none⟩) cp go dB { s with a':=a' } k:=by
 refine⟨aD h.r an (by have:=c1 h.r aW bk;simpa using this),?_,.inr ⟨g,rest,rfl,az⟩,by show a'.length<=cp;rw [aN];exact h.cap,aD h.out an (by have:=c1 h.out aW bk;simpa using this),aD h.has an (by have:=c1 h.has aW bk;simpa using this)⟩;show fy.heap[G]? =some (.cells (hq false 0 (.slice _ a'.length cp) _ _ k).toArray _ _);rw [aN];exact aD h.h5 an (by have:=c1 h.h5 aW bk;simpa using this)
theorem al0{u:World}{base n c:Nat}{a':List Nat}(h:u.ownsRow base 5 1 (.slice ay n c) n (a'.map ek)):((a'=[]/\ay=none)\/∃g rest,ay=some ⟨g,0,none⟩/\lz u g rest a')/\n<=c/\∀g,ay=some ⟨g,0,none⟩->base<=g:=by
 rcases h.2 with ⟨aJ,ba⟩|⟨g,cap,cur,aJ,hb,az,hle,_,aG,bW⟩
 · injection aJ with U ae aM
   subst ba;refine⟨.inl ⟨?_,U⟩,bj,λg az=>by rw [U]at az;cases az⟩;have:=h.1;simpa using this
 · injection aJ with U ae aM
   subst U;subst aM;refine⟨.inr ⟨g,cur.toList.drop (n*1),rfl,?_⟩,hle,λjx o1=>by cases o1;exact hb⟩;unfold lz;rw [az,<-bW,awd]
def Rm(w:World)(u:Value)(r:Option Nat × cR × Nat):Prop:=
 (∃slot,r.1=some slot/\u=.agg (hq true slot (.slice none 0 0) (.slice none 0 0) (.slice none 0 0) r.2.2).toArray)\/
 (r.1=none/\∃ay cp go dB,u=.agg (hq false 0 (.slice ay r.2.1.a'.length cp) (.slice (some ⟨go,0,none⟩) r.2.1.out.length r.2.1.out.length) (.slice (some ⟨dB,0,none⟩) r.2.1.has.length r.2.1.has.length) r.2.2).toArray/\ee w ay ek r.2.1.a'/\ee w (some ⟨go,0,none⟩) hF r.2.1.out/\ee w (some ⟨dB,0,none⟩) Value.bool r.2.1.has)
theorem hs.rows{u:World}{cp go k:Nat}{s:cR}(h:hs u R G ay cp go dB s k):ee u ay ek s.a'/\ee u (some ⟨go,0,none⟩) hF s.out/\ee u (some ⟨dB,0,none⟩) Value.bool s.has:=by
 refine⟨λi ai=>?_,λi ai=>⟨go,0,rfl,aF h.out (by simp [ai])⟩,λi ai=>⟨dB,0,rfl,aF h.has (by simp [ai])⟩⟩;rcases h.a' with ⟨aJ,_⟩|⟨g,rest,e,aW⟩
 · rw [aJ]at ai;cases ai
 · exact⟨g,0,e,by have:=aW.cell ai;simpa using this⟩
theorem hs.amz{u:World}{cp go k:Nat}{s:cR}(h:hs u R G ay cp go dB s k):∀j v,(hq false 0 (.slice ay s.a'.length cp) (.slice (some ⟨go,0,none⟩) s.out.length s.out.length) (.slice (some ⟨dB,0,none⟩) s.has.length s.has.length) k).toArray[j]? =some v->u.cell? ⟨G,0+j,none⟩=some v:=λj v ah=>aF h.h5 (by rw [aub];exact ah)
theorem vC(f:Bool)(slot n m l k:Nat)(a b c:Option Addr)(x y z:Nat):∀v∈(hq f slot (.slice a n x) (.slice b m y) (.slice c l z) k).toArray,v.oneCell'=true:=λv ao=>by simp [hq]at ao;rcases ao with rfl|rfl|rfl|rfl|rfl|rfl<;>rfl
theorem hs.other{u:World}{cp go k Z:Nat}{s:cR}(h:hs u R G ay cp go dB s k){c:Array Value}(bA:u.heap[Z]? =some (.cells c 39 (0,0)))(b5:G≠Z)(an:u.grownBy fy (some Z)):hs fy R G ay cp go dB s k:=
 ⟨aD h.r an (by have:=c1 h.r bA bk;simpa using this),aD h.h5 an bm,h.a'.imp id λ⟨g,rest,e,aW⟩=>⟨g,rest,e,aD aW an (by have:=c1 aW bA bk;simpa using this)⟩,h.cap,aD h.out an (by have:=c1 h.out bA bk;simpa using this),aD h.has an (by have:=c1 h.has bA bk;simpa using this)⟩
theorem Dx(h:dW x=true)(ft:x.op=6\/x.op=7):x.n<=63:=by
 obtain⟨a8,dz,d'⟩:=nS h;rcases ft with e|e<;>rw [e]at dz<;>cases dz<;>simp [hc,okF,fX,Ins.get]at d'<;>omega
section
theorem aqb(a b:Nat):IntKind.u64.wrap ((a:Int)*2^b)=((mA a b:Nat):Int):=by
 have e:IntKind.u64.wrap ((a:Int)*2^b)=((a:Int)*2^b)%18446744073709551616:=rfl;rw [e];unfold mA;simp
theorem L7{P:Program}{w:World}{x y:Operand}{ky:IntKind}{a b:Nat}{p q:Int}{t t' ty:TypeId}(hx:a7 l x (.int .u64 p):=by exact rfl)(aO:a7 l y (.int ky q):=by exact rfl)(aW:p=(a:Int):=by exact rfl)(aZ:q=(b:Int):=by exact rfl)(hb:b<=64):
  bL P l w (.binOp .shl t x y t') ty (.int .u64 ((mA a b:Nat):Int)) w:=by
 unfold bL;intro cC aY d pos bx g;subst aW;subst aZ;have e:(eqGuard .shl t x y (.int .u64 a) (.int ky b)).run P w=.ok () w:=rfl;have dj:(Op.shift .shl .u64 (a:Int) ky (b:Int)).run P w=.ok (.int .u64 ((mA a b:Nat):Int)) w:=by
  have U:¬((b:Int) <0):=bj
  simp only [Op.shift,U,axp,avJ,awv (show b<=IntKind.u64.bits from hb)];rw [aqb];rfl
 have bf:(binOp .shl t (.int .u64 a) (.int ky b)).run P w=.ok (.int .u64 ((mA a b:Nat):Int)) w:=dj;simp only [execOp,aY _ _ hx,aY _ _ aO,auu,e,aun,bf];rfl
end
def fs(x:Ins):Bool:=!(decide (x.op=0)||decide (x.op=18))
def dx(x:Ins):Bool:=decide (x.op=18)||decide (x.op=19)
def hD(x:Ins):List Nat:=(cX x.op).1.ec x
def fh(x:Ins):Bool:=(cX x.op).2.1
def ih(x:Ins)(dS:Nat->Prop):Nat->Prop:=λr=>dS r\/(fh x=true/\r=x.a)
def ef:List Ins->(Nat->Prop)->Prop
 | [],_=>True
 |x::p,dS=>(∀r∈hD x,dS r)/\(fs x=true->ef p (ih x dS))/\(dx x=true->ef (p.drop x.n) (ih x dS))
 termination_by p=>p.length
 decreasing_by all_goals simp [atU];try omega
theorem ef.mono:∀{p:List Ins} {dS V:Nat->Prop},ef p dS->(∀r,dS r->V r)->ef p V
 | [],_,_,_,_=>by rw [ef];trivial
 |x::p,dS,V,h,ao=>by
  rw [ef]at h ⊢;have hu:∀r,ih x dS r->ih x V r:=λr=>Or.imp (ao r) id;exact⟨λr aj=>ao r (h.1 r aj),λbC=>(h.2.1 bC).mono hu,λah=>(h.2.2 ah).mono hu⟩
 termination_by p=>p.length
 decreasing_by all_goals simp [atU];try omega
theorem ef.inter:∀{p:List Ins} {dS V:Nat->Prop},ef p dS->ef p V->ef p (λr=>dS r/\V r)
 | [],_,_,_,_=>by rw [ef];trivial
 |x::p,dS,V,h,k=>by
  rw [ef]at h k ⊢;have hu:∀r,(ih x dS r/\ih x V r)->ih x (λr=>dS r/\V r) r:=by
   rintro r ⟨U|U,ae|ae⟩
   · exact .inl ⟨U,ae⟩
   all_goals first|exact .inr U|exact .inr ae
  exact⟨λr aj=>⟨h.1 r aj,k.1 r aj⟩,λbC=>((h.2.1 bC).inter (k.2.1 bC)).mono hu,λah=>((h.2.2 ah).inter (k.2.2 ah)).mono hu⟩
 termination_by p=>p.length
 decreasing_by all_goals simp [atU];try omega
def l8:List Ins->Prop
 | []=>True
 |x::p=>(dx x=true->x.n<=p.length)/\l8 p
theorem l8.drop:∀{p:List Ins} (n:Nat),l8 p->l8 (p.drop n)
 |p,0,h=>by simpa using h
 | [],_+1,h=>by simpa using h
 |_::p,n+1,h=>by rw [at5];exact h.2.drop n
theorem sS{size:Nat}:∀{p:List Ins},e5 size slots p=true->l8 p
 | [],_=>trivial
 |x::p,h=>by
  refine⟨λah=>?_,?_⟩
  · have:=QT h (i:=0) bl (by simpa [dx]using ah);simp at this;omega
  · simp only [e5,atP]at h;exact sS h.2
def jw(u:Nat):Nat->Prop:=λr=>u.testBit r=true
theorem Zl(l:List Nat)(i:Nat):(iY l).testBit i=decide (i∈l):=by
 have key:∀(l:List Nat) (r:Nat),(l.foldl (λr x=>r ||| 2^x) r).testBit i=(r.testBit i||decide (i∈l)):=by
  intro l;induction l with
  |nil=>intro r;simp
  |cons x l df=>
   intro r;rw [List.foldl_cons,df,aw5,Nat.testBit_two_pow];by_cases h:x=i
   · subst h;simp
   · have e9:i≠x:=λe=>h e.symm;simp [h,e9]
 rw [iY,key];simp
theorem aa9(a u:Nat):mI a u=0↔∀r,a.testBit r=true->u.testBit r=true:=by
 constructor
 · intro h r aj;have:=En a u r;rw [h,aj]at this;simpa using this
 · intro h;refine awY λi=>?_;rw [En,Nat.zero_testBit];cases ha:a.testBit i with
   |false=>rfl
   |true=>rw [h i ha];rfl
theorem aab(x:Ins)(u r:Nat):jw (jE x u) r↔ih x (jw u) r:=by
 unfold jw jE ih fh;by_cases h:(cX x.op).2.1=true
 · rw [atM h];simp only [aw5,Zl,h,au9,atQ,avA,true_and]
 · rw [atK h];simp [h]
theorem YU(x:Ins)(u:Nat):mI (iY (hD x)) u=0↔∀r∈hD x,jw u r:=by
 rw [aa9];simp only [Zl,atQ,jw]
def q1(a b:List (Option Nat)):Prop:=a.length=b.length/\∀(j v:Nat),a[j]? =some (some v)->∃iy,b[j]? =some (some iy)/\∀r,jw iy r->jw v r
theorem q1.refl(a:List (Option Nat)):q1 a a:=⟨rfl,λ_ v h=>⟨v,h,λ_ h=>h⟩⟩
theorem q1.trans{a b c:List (Option Nat)}(h:q1 a b)(k:q1 b c):q1 a c:=⟨h.1.trans k.1,λj v ao=>by
 obtain⟨iy,U,ae⟩:=h.2 j v ao;obtain⟨apF,aM,cc⟩:=k.2 j iy U;exact⟨apF,aM,λr aj=>ae r (cc r aj)⟩⟩
theorem Ew(cl:List (Option Nat))(i s m:Nat):(nn cl i s)[m]? =if m=i/\i<cl.length then some (some (x9 s (cl[i]?.getD none)))else cl[m]? :=by
 unfold nn;rw [awr];by_cases h:i=m
 · subst h;by_cases aN:i<cl.length
   · simp [aN]
   · simp [aN]
 · have e9:¬m=i:=λe=>h e.symm;simp [h,e9]
theorem HT(cl:List (Option Nat))(i s:Nat):q1 cl (nn cl i s):=⟨(zL _ _ _).symm,λj v ao=>by
 rw [Ew];split
 · rename_i h;obtain⟨rfl,aN⟩:=h;refine⟨_,rfl,λr aj=>?_⟩;rw [ao]at aj;simp only [aw6,x9,jw,axo,atP]at aj;exact aj.1
 · exact⟨v,ao,λ_ h=>h⟩⟩
theorem Sx(cl:List (Option Nat)){i:Nat}(s:Nat)(ai:i<cl.length):∃v,(nn cl i s)[i]? =some (some v)/\∀r,jw v r->jw s r:=by
 rw [Ew,atM ⟨rfl,ai⟩];refine⟨_,rfl,λr aj=>?_⟩;cases he:cl[i]?.getD none with
 |none=>rw [he]at aj;exact aj
 |some u=>
  rw [he]at aj;simp only [x9,jw,axo,atP]at aj;exact aj.2
def tS(x:Ins)(k:Nat)(cl:List (Option Nat))(u:Nat):List (Option Nat):=xm x k (qo x k cl u) u
theorem Ig(x:Ins)(k:Nat)(cl:List (Option Nat))(u:Nat):qo x k cl u=if fs x=true then nn cl (k+1) u else cl:=by
 unfold qo fs;by_cases h:x.op=0\/x.op=18
 · rw [atM h,atK (by simp only [auI,avp,aup];omega)]
 · rw [atK h,atM (by simp only [auI,avp,aup];omega)]
theorem JL(x:Ins)(k:Nat)(cl:List (Option Nat))(u:Nat):xm x k cl u=if dx x=true then nn cl (k+1+x.n) u else cl:=by
 unfold xm dx;by_cases h:x.op=18\/x.op=19
 · rw [atM h,atM (by simpa using h)]
 · rw [atK h,atK (by simpa using h)]
theorem X6(x:Ins)(k:Nat)(cl:List (Option Nat))(u:Nat):q1 cl (tS x k cl u):=by
 unfold tS;rw [JL,Ig];split<;>split<;>first|exact(HT _ _ _).trans (HT _ _ _)|exact HT _ _ _|exact q1.refl _
theorem aoM{k:Nat}{cl s:List (Option Nat)}(h:uf x k cl=some s):q1 cl s:=by
 unfold uf at h;split at h
 · cases h;exact q1.refl _
 · split at h
   · cases h;exact X6 _ _ _ _
   · cases h
theorem YT:∀(n k:Nat) (cl:List (Option Nat)) (p:List Ins),oE k cl p=true->n<=p.length->∃DS,oE (k+n) DS (p.drop n)=true/\q1 cl DS
 | 0,k,cl,p,h,_=>⟨cl,by simpa using h,q1.refl _⟩
 |n+1,k,cl,[],_,ba=>by simp at ba
 |n+1,k,cl,x::p,h,ba=>by
  rw [oE]at h;split at h
  · cases h
  · rename_i s aG;obtain⟨DS,U,ae⟩:=YT n (k+1) s p h (by simpa using ba);exact⟨DS,by rw [at5,show k+(n+1)=k+1+n by omega];exact U,(aoM aG).trans ae⟩
theorem Qf:∀(p:List Ins) (k:Nat) (cl:List (Option Nat)) (u:Nat),oE k cl p=true->cl.length=k+p.length+1->l8 p->cl[k]? =some (some u)->ef p (jw u)
 | [],_,_,_,_,_,_,_=>by rw [ef];trivial
 |x::p,k,cl,u,h,aN,eA,hu=>by
  rw [oE]at h;have gY:uf x k cl=if mI (iY (hD x)) u=0 then some (tS x k cl (jE x u))else none:=by
    unfold uf;rw [hu];rfl
  rw [gY]at h;by_cases aJ:mI (iY (hD x)) u=0
  · rw [atM aJ]at h;replace h:oE (k+1) (tS x k cl (jE x u)) p=true:=h;simp only [aue]at aN;have kT:(tS x k cl (jE x u)).length=k+1+p.length+1:=by rw [<-(X6 x k cl (jE x u)).1,aN];omega
    have Wi:∀v,(∀r,jw v r->jw (jE x u) r)->∀r,jw v r->ih x (jw u) r:=λv ao r aj=>(aab x u r).1 (ao r aj);rw [ef];refine⟨(YU x u).1 aJ,λbC=>?_,λah=>?_⟩
    · have:∃v,(tS x k cl (jE x u))[k+1]? =some (some v)/\∀r,jw v r->jw (jE x u) r:=by
       obtain⟨v,U,ae⟩:=Sx cl (i:=k+1) (jE x u) bj;unfold tS;rw [Ig,atM bC,JL];split
       · obtain⟨iy,aM,cc⟩:=(HT (nn cl (k+1) (jE x u)) (k+1+x.n) (jE x u)).2 _ _ U;exact⟨iy,aM,λr aj=>ae r (cc r aj)⟩
       · exact⟨v,U,ae⟩
      obtain⟨v,U,ae⟩:=this;exact(Qf p (k+1) _ v h kT eA.2 U).mono (Wi v ae)
    · have ba:=eA.1 ah;have:∃v,(tS x k cl (jE x u))[k+1+x.n]? =some (some v)/\∀r,jw v r->jw (jE x u) r:=by
       unfold tS;rw [JL,atM ah];exact Sx _ _ (by rw [Ig];split<;>simp [zL,aN]<;>omega)
      obtain⟨v,U,ae⟩:=this;obtain⟨DS,aM,cc⟩:=YT x.n (k+1) _ p h ba;obtain⟨iy,gA,gM⟩:=cc.2 _ _ U;exact(Qf (p.drop x.n) (k+1+x.n) DS iy aM (by rw [<-cc.1,kT,atU];omega) (eA.2.drop _) gA).mono (Wi iy λr aj=>ae r (gM r aj))
  · rw [atK aJ]at h;cases h
 termination_by p=>p.length
 decreasing_by all_goals simp [atU];try omega
theorem Qu:∀(p:List Ins) (k:Nat) (cl:List (Option Nat)),(∀(j v:Nat),cl[k+j]? =some (some v)->ef (p.drop j) (jw v))->oE k cl p=true
 | [],_,_,_=>rfl
 |x::p,k,cl,h=>by
  rw [oE];unfold uf;cases he:cl[k]?.getD none with
  |none=>
   show oE (k+1) cl p=true;exact Qu p (k+1) cl λj v ao=>by
     have:=h (j+1) v (by rw [<-ao];congr 1;omega);simpa using this
  |some u=>
   have hu:cl[k]? =some (some u):=by
     cases aG:cl[k]? with
     |none=>rw [aG]at he;cases he
     |some o=>rw [aG]at he;exact atW some he
   have aJ:=h 0 u hu;rw [aus,ef]at aJ;obtain⟨aj,bC,ah⟩:=aJ;have fD:mI (iY ((cX x.op).1.ec x)) u=0:=(YU x u).2 aj;simp only [atM fD];show oE (k+1) (tS x k cl (jE x u)) p=true;have hold:∀(j v:Nat),cl[k+1+j]? =some (some v)->ef (p.drop j) (jw v):=λj v ao=>by
     have:=h (j+1) v (by rw [<-ao];congr 1;omega);simpa using this
   have key:∀(l:List (Option Nat)) (i:Nat),(∀(j v:Nat),l[k+1+j]? =some (some v)->ef (p.drop j) (jw v))->ef (p.drop i) (ih x (jw u))->∀(j v:Nat),(nn l (k+1+i) (jE x u))[k+1+j]? =some (some v)->ef (p.drop j) (jw v):=by
     intro l i aN ai j v ao;rw [Ew]at ao;split at ao
     · rename_i hm;obtain rfl:j=i:=bj
       injection ao with ao
       injection ao with ao
       subst ao;have hb:=ai.mono λr aj=>(aab x u r).2 aj;cases bp:l[k+1+j]?.getD none with
       |none=>exact hb
       |some w=>
        have hw:l[k+1+j]? =some (some w):=by
         cases aG:l[k+1+j]? with
         |none=>rw [aG]at bp;cases bp
         |some o=>rw [aG]at bp;exact atW some bp
        exact((aN j w hw).inter hb).mono λr aj=>by simp only [jw,x9,axo,atP];exact aj
     · exact aN j v ao
   refine Qu p (k+1) _ ?_;unfold tS;rw [JL,Ig];split
   · rename_i tC;split
     · rename_i NA;exact key _ _ (key cl 0 hold (by simpa using bC NA)) (ah tC)
     · exact key _ _ hold (ah tC)
   · split
     · rename_i NA;exact key cl 0 hold (by simpa using bC NA)
     · exact hold
theorem YR{p:List Ins}(h:l8 p):Be p=true↔ef p (λ_=>False):=by
 unfold Be Bo;constructor
 · intro aj;exact(Qf p 0 _ 0 aj (by rw [zL];simp) h (by rw [Ew,atM ⟨rfl,bl⟩];simp [au0,x9])).mono λr aj=>by simp [jw]at aj
 · intro aG;refine Qu p 0 _ λj v ao=>?_;rw [Ew]at ao;split at ao
   · rename_i hm;obtain rfl:j=0:=bj
     exact aG.mono λr aj=>aj.elim
   · rw [au0]at ao;split at ao<;>cases ao
theorem rP{size:Nat}{p:List Ins}:hG size slots p=true↔e5 size slots p=true/\ef p (λ_=>False):=by
 unfold hG;rw [atP];constructor
 · rintro ⟨U,ae⟩;exact⟨U,(YR (sS U)).1 ae⟩
 · rintro ⟨U,ae⟩;exact⟨U,(YR (sS U)).2 ae⟩
def gG(r:Option Nat × cR × Nat):Option Nat × List Nat × List Nat × List Bool:=(r.1,r.2.1.a',r.2.1.out,r.2.1.has)
structure ly(L:Nat->Prop)(s t:cR):Prop where
 r:∀i,L i->s.bI i=t.bI i
 ls:s.r.length=16
 lt:t.r.length=16
 a':s.a'=t.a'
 out:s.out=t.out
 has:s.has=t.has
theorem ly.refl(L:Nat->Prop){s:cR}(h:s.r.length=16):ly L s s:=⟨λ_ _=>rfl,h,h,rfl,rfl,rfl⟩
theorem ly.mono{L M:Nat->Prop}{s t:cR}(h:ly L s t)(hm:∀i,M i->L i):ly M s t:=⟨λi ai=>h.r i (hm i ai),h.ls,h.lt,h.a',h.out,h.has⟩
theorem ly.symm{L:Nat->Prop}{s t:cR}(h:ly L s t):ly L t s:=⟨λi ai=>(h.r i ai).symm,h.lt,h.ls,h.a'.symm,h.out.symm,h.has.symm⟩
theorem ly.trans{L:Nat->Prop}{s t u:cR}(h:ly L s t)(k:ly L t u):ly L s u:=⟨λi ai=>(h.r i ai).trans (k.r i ai),h.ls,k.lt,h.a'.trans k.a',h.out.trans k.out,h.has.trans k.has⟩
theorem y2(s:cR)(a v i:Nat)(h:a<s.r.length):(s.put a v).bI i=if i=a then v else s.bI i:=by
 unfold cR.put cR.bI;rw [awr];by_cases e:a=i
 · subst e;simp [h]
 · have e':¬i=a:=λh=>e h.symm;simp [e,e']
theorem Dr(s:cR)(a v:Nat):(s.put a v).r.length=s.r.length:=by simp [cR.put]
theorem ly.put{L:Nat->Prop}{s t:cR}(h:ly L s t){a:Nat}(ha:a<16):ly (λr=>L r\/r=a) (s.put a v) (t.put a v):=by
 refine⟨λi ai=>?_,by rw [Dr,h.ls],by rw [Dr,h.lt],h.a',h.out,h.has⟩;rw [y2 _ _ _ _ (by rw [h.ls];exact ha),y2 _ _ _ _ (by rw [h.lt];exact ha)];by_cases e:i=a
 · rw [atM e,atM e]
 · rw [atK e,atK e];exact h.r i (ai.resolve_right e)
theorem KI(aV:List Nat)(x:Ins):(fh x=true/\∃f:cR->Nat,(∀s,dI aV x s=s.put x.a (f s))/\∀L s t,ly L s t->(∀r∈hD x,L r)->f s=f t)\/
  (fh x=false/\∃g:cR->List Nat × List Nat × List Bool,(∀s,dI aV x s={ s with a':=(g s).1,out:=(g s).2.1,has:=(g s).2.2 })/\∀L s t,ly L s t->(∀r∈hD x,L r)->g s=g t):=by
 unfold fh hD;obtain⟨op,a,b,n,bK⟩:=x
 match op with
 | 1=>exact .inl ⟨rfl,λs=>bK,λs=>rfl,λ_ _ _ _ _=>rfl⟩
 | 2=>exact .inl ⟨rfl,λs=>s.bI b,λs=>rfl,λL s t h aN=>h.r _ (aN b (by simp [cX,eu.ec]))⟩
 | 3=>exact .inl ⟨rfl,λs=>s.bI a &&& s.bI b,λs=>rfl,λL s t h aN=>by dsimp only;rw [h.r a (aN a (by simp [cX,eu.ec])),h.r b (aN b (by simp [cX,eu.ec]))]⟩
 | 4=>exact .inl ⟨rfl,λs=>s.bI a ||| s.bI b,λs=>rfl,λL s t h aN=>by dsimp only;rw [h.r a (aN a (by simp [cX,eu.ec])),h.r b (aN b (by simp [cX,eu.ec]))]⟩
 | 5=>exact .inl ⟨rfl,λs=>s.bI a ^^^ s.bI b,λs=>rfl,λL s t h aN=>by dsimp only;rw [h.r a (aN a (by simp [cX,eu.ec])),h.r b (aN b (by simp [cX,eu.ec]))]⟩
 | 6=>exact .inl ⟨rfl,λs=>mA (s.bI a) n,λs=>rfl,λL s t h aN=>by dsimp only;rw [h.r a (aN a (by simp [cX,eu.ec]))]⟩
 | 7=>exact .inl ⟨rfl,λs=>s.bI a/2^n,λs=>rfl,λL s t h aN=>by dsimp only;rw [h.r a (aN a (by simp [cX,eu.ec]))]⟩
 | 8=>exact .inl ⟨rfl,λs=>s.bI a &&& bK,λs=>rfl,λL s t h aN=>by dsimp only;rw [h.r a (aN a (by simp [cX,eu.ec]))]⟩
 | 9=>exact .inl ⟨rfl,λs=>mU false ((s.a'.drop b).take n),λs=>rfl,λL s t h aN=>by dsimp only;rw [h.a']⟩
 | 10=>exact .inl ⟨rfl,λs=>mU true ((s.a'.drop b).take n),λs=>rfl,λL s t h aN=>by dsimp only;rw [h.a']⟩
 | 11=>exact .inr ⟨rfl,λs=>(hW s.a' b n false (s.bI a) (2^64- 1) n,s.out,s.has),λs=>rfl,λL s t h aN=>by dsimp only;rw [h.a',h.out,h.has,h.r a (aN a (by simp [cX,eu.ec]))]⟩
 | 12=>exact .inr ⟨rfl,λs=>(hW s.a' b n true (s.bI a) (2^64- 1) n,s.out,s.has),λs=>rfl,λL s t h aN=>by dsimp only;rw [h.a',h.out,h.has,h.r a (aN a (by simp [cX,eu.ec]))]⟩
 | 13=>exact .inr ⟨rfl,λs=>(hW s.a' b n false (s.bI a) bK n,s.out,s.has),λs=>rfl,λL s t h aN=>by dsimp only;rw [h.a',h.out,h.has,h.r a (aN a (by simp [cX,eu.ec]))]⟩
 | 14=>exact .inl ⟨rfl,λs=>mL (s.bI a) n true,λs=>rfl,λL s t h aN=>by dsimp only;rw [h.r a (aN a (by simp [cX,eu.ec]))]⟩
 | 15=>exact .inl ⟨rfl,λs=>aV[b]?.getD 0,λs=>rfl,λL s t h aN=>rfl⟩
 | 16=>exact .inr ⟨rfl,λs=>(s.a',s.out.set b (s.bI a),s.has.set b true),λs=>rfl,λL s t h aN=>by dsimp only;rw [h.a',h.out,h.has,h.r a (aN a (by simp [cX,eu.ec]))]⟩
 | 0=>exact .inr ⟨rfl,λs=>(s.a',s.out,s.has),λs=>rfl,λL s t h aN=>by dsimp only;rw [h.a',h.out,h.has]⟩
 | 17=>exact .inr ⟨rfl,λs=>(s.a',s.out,s.has),λs=>rfl,λL s t h aN=>by dsimp only;rw [h.a',h.out,h.has]⟩
 | 18=>exact .inr ⟨rfl,λs=>(s.a',s.out,s.has),λs=>rfl,λL s t h aN=>by dsimp only;rw [h.a',h.out,h.has]⟩
 | 19=>exact .inr ⟨rfl,λs=>(s.a',s.out,s.has),λs=>rfl,λL s t h aN=>by dsimp only;rw [h.a',h.out,h.has]⟩
 |_+20=>exact .inr ⟨rfl,λs=>(s.a',s.out,s.has),λs=>rfl,λL s t h aN=>by dsimp only;rw [h.a',h.out,h.has]⟩
theorem vP(h:fh x=false)(L:Nat->Prop)(r:Nat):ih x L r↔L r:=by unfold ih;simp [h]
theorem vQ(h:fh x=true)(L:Nat->Prop)(r:Nat):ih x L r↔(L r\/r=x.a):=by unfold ih;simp [h]
theorem ly.step{L:Nat->Prop}{s t:cR}(h:ly L s t)(aj:∀r∈hD x,L r)(ha:fh x=true->x.a<16):ly (ih x L) (dI aV x s) (dI aV x t):=by
 rcases KI aV x with ⟨hw,f,bC,he⟩|⟨hw,g,az,he⟩
 · rw [bC,bC,he L s t h aj];exact(h.put (ha hw)).mono λi ai=>(vQ hw L i).1 ai
 · rw [az,az,he L s t h aj];exact⟨λi ai=>h.r i ((vP hw L i).1 ai),h.ls,h.lt,rfl,rfl,rfl⟩
def q2(p:List Ins):Prop:=∀x∈p,fh x=true->x.a<16
theorem q2.drop{p:List Ins}(h:q2 p)(n:Nat):q2 (p.drop n):=λx hx=>h x (auG hx)
theorem QU{size:Nat}{p:List Ins}(h:e5 size slots p=true):q2 p:=λx hx hw=>by
 obtain⟨i,ai,rfl⟩:=avh hx;exact jB (rM h i ai).1 (.inl hw)
theorem iL{n:Nat}(h:x.op=n):fh x=(cX n).2.1:=by unfold fh;rw [h]
theorem mz{n:Nat}(h:x.op=n):hD x=(cX n).1.ec x:=by unfold hD;rw [h]
theorem oC(aJ:x.op≠0)(dD:x.op≠18):fs x=true:=by simp [fs,aJ,dD]
theorem lj(h:x.op=18\/x.op=19):dx x=true:=by simpa [dx]using h
theorem Dz:∀{p:List Ins} {L:Nat->Prop} {s t:cR} (k cS:Nat),ef p L->q2 p->ly L s t->gG (da aV p s k)=gG (da aV p t cS)
 | [],L,s,t,k,cS,_,_,h=>by rw [da,da];simp only [gG,h.a',h.out,h.has]
 |x::p,L,s,t,k,cS,aG,hw,h=>by
  rw [ef]at aG;obtain⟨aj,bC,ah⟩:=aG;have ov:q2 p:=λy aO=>hw y (at0 _ aO);rw [da,da];by_cases aJ:x.op=0
  · rw [atM aJ,atM aJ];simp only [gG,h.a',h.out,h.has]
  rw [atK aJ,atK aJ];by_cases gz:x.op=17
  · have nq:s.bI x.a=t.bI x.a:=h.r _ (aj _ (by rw [mz gz];simp [cX,eu.ec]));rw [atM gz,atM gz,nq];split
    · exact Dz _ _ (bC (oC aJ bj)) ov (h.mono λi ai=>(vP (iL gz) L i).1 ai)
    · simp only [gG,h.a',h.out,h.has]
  rw [atK gz,atK gz];by_cases dD:x.op=18
  · rw [atM dD,atM dD];exact Dz _ _ (ah (lj (.inl dD))) (ov.drop _) (h.mono λi ai=>(vP (iL dD) L i).1 ai)
  rw [atK dD,atK dD];by_cases dZ:x.op=19
  · have nq:s.bI x.a=t.bI x.a:=h.r _ (aj _ (by rw [mz dZ];simp [cX,eu.ec]));rw [atM dZ,atM dZ,nq];have hm:=h.mono λi ai=>(vP (iL dZ) L i).1 ai;split
    · exact Dz _ _ (bC (oC aJ dD)) ov hm
    · exact Dz _ _ (ah (lj (.inr dZ))) (ov.drop _) hm
  rw [atK dZ,atK dZ];exact Dz _ _ (bC (oC aJ dD)) ov (h.step aj (hw x auy))
 termination_by p=>p.length
 decreasing_by all_goals simp [atU];try omega
theorem anM{p:List Ins}{s:cR}{k:Nat}(h:x.op=17):da aV (x::p) s k=if r' (s.bI x.a) x.n (decide (x.bK=1))=true then da aV p s (k+1)else(some x.b,s,k+1):=by rw [da,atK bj,atM h]
theorem Qo{p:List Ins}{s:cR}{k:Nat}(h:x.op=18):da aV (x::p) s k=da aV (p.drop x.n) s (k+1):=by rw [da,atK bj,atK bj,atM h]
theorem Y9{p:List Ins}{s:cR}{k:Nat}(h:x.op=19):da aV (x::p) s k=if s.bI x.a=x.bK then da aV p s (k+1)else da aV (p.drop x.n) s (k+1):=by rw [da,atK bj,atK bj,atK bj,atM h]
theorem Y'{p:List Ins}{s:cR}{k:Nat}(aJ:x.op≠0)(gz:x.op≠17)(dD:x.op≠18)(dZ:x.op≠19):da aV (x::p) s k=da aV p (dI aV x s) (k+1):=by rw [da,atK aJ,atK gz,atK dD,atK dZ]
theorem GR{aV:List Nat}:∀(p:List Ins) (s:cR) (k cS:Nat),gG (da aV p s k)=gG (da aV p s cS)
 | [],s,k,cS=>by rw [da,da];rfl
 |x::p,s,k,cS=>by
  rw [da,da];have bw:=GR p s (k+1) (cS+1) (aV:=aV);have bf:=GR (p.drop x.n) s (k+1) (cS+1) (aV:=aV);have dj:=GR p (dI aV x s) (k+1) (cS+1) (aV:=aV);split
  · rfl
  split
  · split
    · exact bw
    · rfl
  split
  · exact bf
  split
  · split
    · exact bw
    · exact bf
  exact dj
 termination_by p=>p.length
 decreasing_by all_goals simp [atU];try omega
abbrev dp:=Nat->Option Nat
def qW(f:Nat->Nat->Nat):Option Nat->Option Nat->Option Nat
 |some a,some b=>some (f a b)
 |_,_=>none
def iI(x:Ins)(K:dp):Option Nat:=
 match x.op with
 | 2=>K x.b
 | 3=>qW (λa b=>a &&& b) (K x.a) (K x.b)
 | 4=>qW (λa b=>a ||| b) (K x.a) (K x.b)
 | 5=>qW (λa b=>a ^^^ b) (K x.a) (K x.b)
 | 6=>(K x.a).map λa=>mA a x.n
 | 7=>(K x.a).map λa=>a/2^x.n
 | 8=>(K x.a).map λa=>a &&& x.bK
 | 14=>(K x.a).map λa=>mL a x.n true
 |_=>none
def h0(x:Ins)(K:dp):Ins:=
 match iI x K with
 |some v=>⟨1,x.a,0,0,v⟩
 |none=>match K x.a with
  |some v=>if x.op=19 then(if v=x.bK then eQ 18 else⟨18,0,0,x.n,0⟩)else if x.op=17/\r' v x.n (decide (x.bK=1))=true then eQ 18 else x
  |none=>x
def mH(x:Ins)(K:dp):dp:=λr=>if fh x=true/\r=x.a then(if x.op=1 then some x.bK else none)else K r
def yU:Option dp->dp->dp
 |none,k=>k
 |some a,k=>λr=>if k r=a r then a r else none
def pS(ats:List (Option dp))(i:Nat)(k:dp):List (Option dp):=ats.set i (some (yU (ats[i]?.getD none) k))
def qJ(x:Ins)(ats:List (Option dp))(k:dp):List (Option dp):=
 let a:=if fs x=true then pS ats 0 k else ats
 if dx x=true then pS a x.n k else a
def rD(x:Ins)(ats:List (Option dp)):Ins:=match ats[0]?.getD none with
 |none=>x
 |some K=>h0 x K
def ix(x:Ins)(ats:List (Option dp)):List (Option dp):=match ats[0]?.getD none with
 |none=>ats.tail
 |some K=>qJ (h0 x K) ats.tail (mH (h0 x K) K)
def hj:List Ins->List (Option dp)->List Ins
 | [],_=>[]
 |x::p,ats=>rD x ats::hj p (ix x ats)
def AR:dp:=λ_=>none
def th(p:List Ins):List Ins:=hj p (some AR::List.replicate p.length none)
def s6:List Ins->List (Option dp)->Nat->List (Option dp)
 |_,ats,0=>ats
 | [],ats,_+1=>ats
 |x::p,ats,n+1=>s6 p (ix x ats) n
theorem Mw:∀(p:List Ins) (ats:List (Option dp)),(hj p ats).length=p.length
 | [],_=>rfl
 |x::p,ats=>by simp [hj,Mw p]
theorem Mv:∀(n:Nat) (p:List Ins) (ats:List (Option dp)),(hj p ats).drop n=hj (p.drop n) (s6 p ats n)
 | 0,p,ats=>by simp [s6]
 |n+1,[],ats=>by simp [hj,s6]
 |n+1,x::p,ats=>by rw [hj,at5,at5,s6];exact Mv n p _
theorem JV(ats:List (Option dp))(i:Nat)(k:dp):(pS ats i k).length=ats.length:=by simp [pS]
theorem aln(x:Ins)(ats:List (Option dp))(k:dp):(qJ x ats k).length=ats.length:=by
 unfold qJ;dsimp only;split<;>split<;>simp [JV]
theorem ZO(x:Ins)(ats:List (Option dp)):(ix x ats).length=ats.length - 1:=by
 unfold ix;split
 · simp
 · rw [aln];simp
def pn(K:dp)(s:cR):Prop:=∀r v,K r=some v->s.bI r=v
def jt(ats:List (Option dp))(j:Nat)(s:cR):Prop:=∃K,ats[j]? =some (some K)/\pn K s
theorem XK(ats:List (Option dp))(i j:Nat)(k:dp):(pS ats i k)[j]? =if j=i/\i<ats.length then some (some (yU (ats[i]?.getD none) k))else ats[j]? :=by
 unfold pS;rw [awr];by_cases h:i=j
 · subst h;by_cases aN:i<ats.length<;>simp [aN]
 · have e9:¬j=i:=λe=>h e.symm;simp [h,e9]
theorem jt.meet{ats:List (Option dp)}{s:cR}(h:jt ats j s)(i:Nat)(k:dp):jt (pS ats i k) j s:=by
 obtain⟨K,U,ae⟩:=h;unfold jt;rw [XK];split
 · rename_i e;obtain⟨rfl,_⟩:=e;refine⟨_,rfl,λr v ao=>?_⟩;rw [U]at ao;simp only [aw6,yU]at ao;split at ao
   · exact ae r v ao
   · cases ao
 · exact⟨K,U,ae⟩
theorem jt.at{ats:List (Option dp)}{i:Nat}{s:cR}{k:dp}(ai:i<ats.length)(au:pn k s):jt (pS ats i k) i s:=by
 unfold jt;rw [XK,atM ⟨rfl,ai⟩];refine⟨_,rfl,λr v ao=>?_⟩;cases bp:ats[i]?.getD none with
 |none=>rw [bp]at ao;exact au r v ao
 |some a=>
  rw [bp]at ao;simp only [yU]at ao;split at ao
  · rename_i e;exact au r v (e.trans ao)
  · cases ao
theorem jt.next{ats:List (Option dp)}{s:cR}(h:jt ats j s)(k:dp):jt (qJ x ats k) j s:=by
 unfold qJ;dsimp only;split<;>split<;>first|exact(h.meet _ _).meet _ _|exact h.meet _ _|exact h
theorem jt.tail{ats:List (Option dp)}{s:cR}(h:jt ats (j+1) s):jt ats.tail j s:=by
 obtain⟨K,U,ae⟩:=h;exact⟨K,by cases ats with|nil=>simp at U|cons a l=>simpa using U,ae⟩
theorem jt.step{ats:List (Option dp)}{s:cR}(h:jt ats (j+1) s):jt (ix x ats) j s:=by
 unfold ix;split
 · exact h.tail
 · exact h.tail.next _
theorem jt.RQ:∀(n:Nat) {p:List Ins} {ats:List (Option dp)} {s:cR},n<=p.length->jt ats n s->jt (s6 p ats n) 0 s
 | 0,p,ats,s,_,h=>by simpa [s6]using h
 |n+1,[],ats,s,ba,h=>by simp at ba
 |n+1,x::p,ats,s,ba,h=>by
  rw [s6];exact jt.RQ n (by simpa using ba) h.step
theorem RR:∀(n:Nat) (p:List Ins) (ats:List (Option dp)),n<=p.length->(s6 p ats n).length=ats.length - n
 | 0,p,ats,_=>by simp [s6]
 |n+1,[],ats,ba=>by simp at ba
 |n+1,x::p,ats,ba=>by
  rw [s6,RR n p _ (by simpa using ba),ZO];omega
theorem alo{ats:List (Option dp)}{s:cR}{k:dp}(bC:fs x=true)(aN:0<ats.length)(au:pn k s):jt (qJ x ats k) 0 s:=by
 unfold qJ;dsimp only;rw [atM bC];split
 · exact(jt.at aN au).meet _ _
 · exact jt.at aN au
theorem alp{ats:List (Option dp)}{s:cR}{k:dp}(ah:dx x=true)(aN:x.n<ats.length)(au:pn k s):jt (qJ x ats k) x.n s:=by
 unfold qJ;dsimp only;rw [atM ah];exact jt.at (by split<;>simp [JV,aN]) au
theorem akL{K:dp}{s:cR}(h:iI x K=some v)(aG:pn K s):dI aV x s=s.put x.a v/\fh x=true/\x.op≠0/\x.op≠17/\x.op≠18/\x.op≠19:=by
 have bf:∀f,qW f (K x.a) (K x.b)=some v->f (s.bI x.a) (s.bI x.b)=v:=by
   intro f bC;cases ha:K x.a with
   |none=>rw [ha]at bC;cases bC
   |some a=>
    cases hb:K x.b with
    |none=>rw [ha,hb]at bC;cases bC
    |some b=>
     rw [ha,hb]at bC;rw [aG _ _ ha,aG _ _ hb];injection bC
 have bw:∀f:Nat->Nat,(K x.a).map f=some v->f (s.bI x.a)=v:=by
   intro f bC;cases ha:K x.a with
   |none=>rw [ha]at bC;cases bC
   |some a=>
    rw [ha]at bC;rw [aG _ _ ha];injection bC
 unfold iI at h;unfold dI fh;split at h
 · rename_i e;simp only [e,cX];rw [aG _ _ h];simp
 · rename_i e;simp only [e,cX];rw [bf _ h];simp
 · rename_i e;simp only [e,cX];rw [bf _ h];simp
 · rename_i e;simp only [e,cX];rw [bf _ h];simp
 · rename_i e;simp only [e,cX];rw [bw _ h];simp
 · rename_i e;simp only [e,cX];rw [bw _ h];simp
 · rename_i e;simp only [e,cX];rw [bw _ h];simp
 · rename_i e;simp only [e,cX];rw [bw _ h];simp
 · cases h
inductive rT (x:Ins) (K:dp):Ins->Prop where
 |same:rT x K x
 |const (v:Nat) (h:iI x K=some v):rT x K ⟨1,x.a,0,0,v⟩
 |pass (v:Nat) (h:x.op=19) (ao:K x.a=some v) (ba:v≠x.bK):rT x K ⟨18,0,0,x.n,0⟩
 |stay (v:Nat) (h:x.op=19) (ao:K x.a=some v) (ba:v=x.bK):rT x K (eQ 18)
 |fits (v:Nat) (h:x.op=17) (ao:K x.a=some v) (ba:r' v x.n (decide (x.bK=1))=true):rT x K (eQ 18)
theorem BP(x:Ins)(K:dp):rT x K (h0 x K):=by
 unfold h0;split
 · rename_i v h;exact .const v h
 · split
   · rename_i v ao;split
     · rename_i h;split
       · rename_i ba;exact .stay v h ao ba
       · rename_i ba;exact .pass v h ao ba
     · split
       · rename_i h;exact .fits v h.1 ao h.2
       · exact .same
   · exact .same
theorem pn.after{K:dp}{s:cR}(h:pn K s)(aN:s.r.length=16)(ha:fh x=true->x.a<16):pn (mH x K) (dI aV x s):=by
 intro r v ao;unfold mH at ao;rcases KI aV x with ⟨hw,f,bC,_⟩|⟨hw,g,az,_⟩
 · rw [bC,y2 _ _ _ _ (by rw [aN];exact ha hw)];by_cases e:r=x.a
   · rw [atM ⟨hw,e⟩]at ao;rw [atM e];split at ao
     · rename_i U;have ae:dI aV x s=s.put x.a x.bK:=by unfold dI;simp only [U]
       have aM:=atW (λt=>cR.bI t x.a) ((bC s).symm.trans ae);rw [y2 _ _ _ _ (by rw [aN];exact ha hw),y2 _ _ _ _ (by rw [aN];exact ha hw),atM rfl,atM rfl]at aM;rw [aM];injection ao
     · cases ao
   · rw [atK (λh=>e h.2)]at ao;rw [atK e];exact h r v ao
 · rw [atK (λh=>by rw [hw]at h;cases h.1)]at ao;rw [az];exact h r v ao
theorem aoN(aV:List Nat)(x:Ins)(s:cR):(dI aV x s).r.length=s.r.length:=by
 rcases KI aV x with ⟨hw,f,bC,_⟩|⟨hw,g,az,_⟩
 · rw [bC,Dr]
 · rw [az]
theorem pn.A1{K:dp}{s:cR}(h:pn K s)(hw:fh x=false):pn (mH x K) s:=by
 intro r v ao;unfold mH at ao;rw [atK (λh=>by rw [hw]at h;cases h.1)]at ao;exact h r v ao
theorem Mx{aV:List Nat}:∀{p:List Ins} {ats:List (Option dp)} {s:cR} (k:Nat),jt ats 0 s->ats.length=p.length+1->l8 p->q2 p->s.r.length=16->da aV (hj p ats) s k=da aV p s k
 | [],_,_,_,_,_,_,_,_=>rfl
 |x::p,ats,s,k,aG,eV,eA,hw,aN=>by
  obtain⟨K,cv,bS⟩:=aG;have ov:q2 p:=λy aO=>hw y (at0 _ aO);have ahz:rD x ats=h0 x K:=by unfold rD;rw [cv];rfl
  have V7:ix x ats=qJ (h0 x K) ats.tail (mH (h0 x K) K):=by unfold ix;rw [cv];rfl
  have tL:ats.tail.length=p.length+1:=by simp [eV]
  have eC:(ix x ats).length=p.length+1:=by rw [ZO,eV];simp
  rw [hj,ahz];have kN:∀(eP:cR) (cS:Nat),fs (h0 x K)=true->pn (mH (h0 x K) K) eP->eP.r.length=16->da aV (hj p (ix x ats)) eP cS=da aV p eP cS:=λeP cS bC au tD=>
   Mx cS (by rw [V7];exact alo bC bj au) eC eA.2 ov tD
  have jump:∀(eP:cR) (cS:Nat) (n:Nat),dx (h0 x K)=true->(h0 x K).n=n->n<=p.length->pn (mH (h0 x K) K) eP->eP.r.length=16->da aV ((hj p (ix x ats)).drop n) eP cS=da aV (p.drop n) eP cS:=by
   rintro eP cS n ah rfl ba au tD;rw [Mv];exact Mx cS (jt.RQ _ ba (by rw [V7];exact alp ah bj au)) (by rw [RR _ _ _ ba,eC,atU];omega) (eA.2.drop _) (ov.drop _) tD
  have hb:=BP x K;generalize h0 x K=y at hb kN jump;cases hb with
  |same=>
   rw [da,da];by_cases aJ:x.op=0
   · rw [atM aJ,atM aJ]
   rw [atK aJ,atK aJ];by_cases gz:x.op=17
   · rw [atM gz,atM gz];rw [kN s (k+1) (oC aJ bj) (bS.A1 (iL gz)) aN]
   rw [atK gz,atK gz];by_cases dD:x.op=18
   · rw [atM dD,atM dD];exact jump s (k+1) x.n (lj (.inl dD)) rfl (eA.1 (lj (.inl dD))) (bS.A1 (iL dD)) aN
   rw [atK dD,atK dD];by_cases dZ:x.op=19
   · rw [atM dZ,atM dZ];rw [kN s (k+1) (oC aJ dD) (bS.A1 (iL dZ)) aN,jump s (k+1) x.n (lj (.inr dZ)) rfl (eA.1 (lj (.inr dZ))) (bS.A1 (iL dZ)) aN]
   rw [atK dZ,atK dZ];exact kN _ _ (oC aJ dD) (bS.after aN (hw x auy)) (by rw [aoN,aN])
  |const v h=>
   obtain⟨U,ae,nI,n17,n18,n19⟩:=akL (aV:=aV) h bS;have e:dI aV ⟨1,x.a,0,0,v⟩ s=s.put x.a v:=rfl;rw [Y' nI n17 n18 n19,Y' (x:=⟨1,x.a,0,0,v⟩) bl bl bl bl,U,e];refine kN _ _ rfl ?_ (by rw [Dr,aN]);rw [<-e];exact bS.after aN (λ_=>hw x auy ae)
  |pass v h ao ba=>
   rw [Y9 h,Qo rfl,atK (by rw [bS _ _ ao];exact ba)];exact jump s (k+1) x.n rfl rfl (eA.1 (lj (.inr h))) (bS.A1 rfl) aN
  |stay v h ao ba=>
   rw [Y9 h,Qo rfl,atM (by rw [bS _ _ ao];exact ba)];have:=jump s (k+1) 0 rfl rfl (auc _) (bS.A1 rfl) aN;simpa [eQ]using this
  |fits v h ao ba=>
   rw [anM h,Qo rfl,atM (by rw [bS _ _ ao];exact ba)];have:=jump s (k+1) 0 rfl rfl (auc _) (bS.A1 rfl) aN;simpa [eQ]using this
 termination_by p=>p.length
 decreasing_by all_goals simp [atU];try omega
theorem My:∀{p:List Ins} {ats:List (Option dp)} {dS:Nat->Prop},ef p dS->l8 p->ef (hj p ats) dS
 | [],_,_,_,_=>by rw [hj,ef];trivial
 |x::p,ats,dS,h,eA=>by
  have aO:∃y,rD x ats=y/\(y=x\/∃K,rT x K y):=by
    unfold rD;split
    · exact⟨x,rfl,.inl rfl⟩
    · rename_i K _;exact⟨_,rfl,.inr ⟨K,BP x K⟩⟩
  obtain⟨y,e,aO⟩:=aO;rw [hj,e,ef];rw [ef]at h;obtain⟨aj,bC,ah⟩:=h;have kN:∀V,ef p V->ef (hj p (ix x ats)) V:=λV gi=>My gi eA.2;have jump:∀V n,n<=p.length->ef (p.drop n) V->ef ((hj p (ix x ats)).drop n) V:=λV n ba gi=>by
    rw [Mv];exact My gi (eA.2.drop _)
  have same:((∀r∈hD x,dS r)/\(fs x=true->ef (hj p (ix x ats)) (ih x dS))/\(dx x=true->ef ((hj p (ix x ats)).drop x.n) (ih x dS))):=
    ⟨aj,λh=>kN _ (bC h),λh=>jump _ _ (eA.1 h) (ah h)⟩
  have zero:fh x=false->fs x=true->((∀r∈hD (eQ 18),dS r)/\(fs (eQ 18)=true->ef (hj p (ix x ats)) (ih (eQ 18) dS))/\(dx (eQ 18)=true->ef ((hj p (ix x ats)).drop (eQ 18).n) (ih (eQ 18) dS))):=λo4 h=>
    ⟨by simp [hD,eQ,cX,eu.ec],by simp [fs,eQ],λ_=>by
      show ef ((hj p (ix x ats)).drop 0) _;rw [aus];exact(kN _ (bC h)).mono λr aj=>.inl ((vP o4 dS r).1 aj)⟩
  rcases aO with rfl|⟨K,aO⟩
  · exact same
  cases aO with
  |same=>exact same
  |const v h=>
    have fa:fh x=true/\x.op≠0/\x.op≠18:=by
      unfold iI at h;unfold fh;split at h<;>first|(rename_i e;rw [e];exact⟨rfl,bk,bk⟩)|cases h
    refine⟨by simp [hD,cX,eu.ec],λ_=>(kN _ (bC (oC fa.2.1 fa.2.2))).mono λr aj=>?_,by simp [dx]⟩;rw [vQ fa.1]at aj;rw [vQ (x:=⟨1,x.a,0,0,v⟩) rfl];exact aj
  |pass v h ao ba=>
    refine⟨by simp [hD,cX,eu.ec],by simp [fs],λ_=>?_⟩;exact(jump _ _ (eA.1 (lj (.inr h))) (ah (lj (.inr h)))).mono λr aj=>.inl ((vP (iL h) dS r).1 aj)
  |stay v h ao ba=>exact zero (iL h) (oC bj bj)
  |fits v h ao ba=>exact zero (iL h) (oC bj bj)
 termination_by p=>p.length
 decreasing_by all_goals simp [atU];try omega
def qf(K:dp):Prop:=∀r v,K r=some v->v<2^64
def rS(ats:List (Option dp)):Prop:=∀K,some K∈ats->qf K
theorem PA{K:dp}(h:iI x K=some v)(cv:qf K)(hx:x.bK<2^64):v<2^64:=by
 have bf:∀f,qW f (K x.a) (K x.b)=some v->(∀a b,a<2^64->b<2^64->f a b<2^64)->v<2^64:=by
   intro f bC aC;cases ha:K x.a with
   |none=>rw [ha]at bC;cases bC
   |some a=>
    cases hb:K x.b with
    |none=>rw [ha,hb]at bC;cases bC
    |some b=>
     rw [ha,hb]at bC;injection bC with bC
     rw [<-bC];exact aC a b (cv _ _ ha) (cv _ _ hb)
 have bw:∀f:Nat->Nat,(K x.a).map f=some v->(∀a,a<2^64->f a<2^64)->v<2^64:=by
   intro f bC aC;cases ha:K x.a with
   |none=>rw [ha]at bC;cases bC
   |some a=>
    rw [ha]at bC;injection bC with bC
    rw [<-bC];exact aC a (cv _ _ ha)
 unfold iI at h;split at h
 · exact cv _ _ h
 · exact bf _ h λa b ha _=>au6 _ (by assumption)
 · exact bf _ h λa b ha hb=>avn ha hb
 · exact bf _ h λa b ha hb=>awL ha hb
 · exact bw _ h λa _=>QB _ _
 · exact bw _ h λa ha=>avB (ax5 _ _) ha
 · exact bw _ h λa _=>au6 _ hx
 · exact bw _ h λa ha=>Th ha _ _
 · cases h
theorem abt{y:Ins}{K:dp}(h:rT x K y)(cv:qf K)(hx:x.bK<2^64):y.bK<2^64:=by
 cases h with
 |same=>exact hx
 |const v h=>exact PA h cv hx
 |_=>show(0:Nat) <2^64;decide
theorem RT{K:dp}(cv:qf K)(hx:x.bK<2^64):qf (mH x K):=by
 intro r v ao;unfold mH at ao;split at ao
 · split at ao
   · injection ao with ao;rw [<-ao];exact hx
   · cases ao
 · exact cv r v ao
theorem Gs{ats:List (Option dp)}{i:Nat}{k:dp}(h:rS ats)(au:qf k):rS (pS ats i k):=by
 intro K hm;rcases awn hm with U|U
 · exact h K U
 · injection U with U
   subst U;cases bp:ats[i]?.getD none with
   |none=>exact au
   |some a=>
    have ha:some a∈ats:=by
      cases aG:ats[i]? with
      |none=>rw [aG]at bp;cases bp
      |some o=>rw [aG]at bp;rw [<-(show o=some a from bp)];exact auF aG
    intro r v ao;simp only [yU]at ao;split at ao
    · exact h a ha r v ao
    · cases ao
theorem aoL{ats:List (Option dp)}(h:rS ats)(hx:x.bK<2^64):rS (ix x ats):=by
 have bW:rS ats.tail:=λK cv=>h K (List.mem_of_mem_tail cv);unfold ix;split
 · exact bW
 · rename_i K cv;have yl:qf K:=h K (by
    cases aG:ats[0]? with
    |none=>rw [aG]at cv;cases cv
    |some o=>rw [aG]at cv;rw [<-(show o=some K from cv)];exact auF aG)
   have aO:=abt (BP x K) yl hx;have ha:=RT yl aO;unfold qJ;dsimp only;split<;>split<;>first|exact Gs (Gs bW ha) ha|exact Gs bW ha|exact bW
theorem am0{a:Nat}(ha:a<=15)(ao:v<2^64):dW ⟨1,a,0,0,v⟩=true:=(sM ao).2 ⟨_,rfl,by simp [hc,okF,fX,Ins.get];omega,rfl⟩
theorem Qh{n:Nat}(ba:n<=16384):dW ⟨18,0,0,n,0⟩=true:=(sM (by show(0:Nat) <2^64;decide)).2 ⟨_,rfl,by simp [hc,okF];omega,rfl⟩
theorem YY(h:dW x=true)(ft:x.op=18\/x.op=19):x.n<=16384:=by
 obtain⟨a8,dz,d'⟩:=nS h;rcases ft with e|e<;>rw [e]at dz<;>cases dz<;>simp [hc,okF,fX,Ins.get]at d'<;>omega
theorem Tx{size slots:Nat}:∀{p:List Ins} {ats:List (Option dp)},rS ats->(∀x∈p,x.bK<2^64)->e5 size slots p=true->e5 size slots (hj p ats)=true
 | [],_,_,_,_=>rfl
 |x::p,ats,aH,ai,h=>by
  have hx:=ai x auy;have aO:∃y,rD x ats=y/\(y=x\/∃K,rT x K y/\qf K):=by
    unfold rD;split
    · exact⟨x,rfl,.inl rfl⟩
    · rename_i K cv;exact⟨_,rfl,.inr ⟨K,BP x K,aH K (by
       cases aG:ats[0]? with
       |none=>rw [aG]at cv;cases cv
       |some o=>rw [aG]at cv;rw [<-(show o=some K from cv)];exact auF aG)⟩⟩
  obtain⟨y,e,aO⟩:=aO;rw [hj,e,e5,Mw];have CE:=Tx (p:=p) (ats:=ix x ats) (aoL aH hx) (λz bA=>ai z (at0 _ bA)) (by simp only [e5,atP]at h;exact h.2);have eA:=(sS h).1;simp only [e5,atP,atQ]at h ⊢;refine⟨?_,CE⟩;rcases aO with rfl|⟨K,aO,yl⟩
  · exact h.1
  cases aO with
  |same=>exact h.1
  |const v ao=>
    have o4:fh x=true:=by
      unfold iI at ao;unfold fh;split at ao<;>first|(rename_i e;rw [e];rfl)|cases ao
    have:=jB h.1.1 (.inl o4);exact⟨am0 bj (PA ao yl hx),rfl⟩
  |pass v ft ao ba=>
    have:=eA (lj (.inr ft));exact⟨Qh (YY h.1.1 (.inr ft)),by simp only [cX,gS.err];rw [atK bj]⟩
  |stay v ft ao ba=>exact⟨Qh bk,rfl⟩
  |fits v ft ao ba=>exact⟨Qh bk,rfl⟩
def oS(p:List Ins):Nat:=p.countP λx=>!(decide (x.op=1)||decide (x.op=18))
theorem HP(x:Ins)(p:List Ins):oS (x::p)=oS p+if x.op=1\/x.op=18 then 0 else 1:=by
 unfold oS;rw [List.countP_cons];by_cases h:x.op=1\/x.op=18
 · rw [atM h,atK (by simp only [auI,avp,aup];omega)]
 · rw [atK h,atM (by simp only [auI,avp,aup];omega)]
theorem Tw:∀(p:List Ins) (ats:List (Option dp)),hj p ats=p\/oS (hj p ats) <oS p
 | [],_=>.inl rfl
 |x::p,ats=>by
  have aO:∃y,rD x ats=y/\(y=x\/∃K,rT x K y):=by
    unfold rD;split
    · exact⟨x,rfl,.inl rfl⟩
    · rename_i K _;exact⟨_,rfl,.inr ⟨K,BP x K⟩⟩
  obtain⟨y,e,aO⟩:=aO;rw [hj,e];have df:=Tw p (ix x ats);have hle:oS (hj p (ix x ats))<=oS p:=by
    rcases df with h|h
    · rw [h];exact atI _
    · omega
  have same:y=x->(y::hj p (ix x ats)=x::p\/oS (y::hj p (ix x ats)) <oS (x::p)):=by
    rintro rfl;rcases df with h|h
    · rw [h];exact .inl rfl
    · right;rw [HP,HP];omega
  have less:(y.op=1\/y.op=18)->¬(x.op=1\/x.op=18)->(y::hj p (ix x ats)=x::p\/oS (y::hj p (ix x ats)) <oS (x::p)):=by
    intro U ae;right;rw [HP,HP,atM U,atK ae];omega
  rcases aO with h|⟨K,aO⟩
  · exact same h
  cases aO with
  |same=>exact same rfl
  |const v ao=>
    refine less (.inl rfl) ?_;unfold iI at ao;split at ao<;>first|(rename_i e;omega)|cases ao
  |pass v ft _ _=>exact less (.inr rfl) bj
  |stay v ft _ _=>exact less (.inr rfl) bj
  |fits v ft _ _=>exact less (.inr rfl) bj
theorem Tv{size:Nat}{p:List Ins}(ai:∀x∈p,x.bK<2^64)(h:hG size slots p=true):hG size slots (th p)=true/\(∀aV s k,s.r.length=16->da aV (th p) s k=da aV p s k)/\(th p).length=p.length/\(th p=p\/oS (th p) <oS p):=by
 obtain⟨U,ae⟩:=rP.1 h;have w1:pn AR=λ_=>True:=by funext s;simp [pn,AR]
 refine⟨rP.2 ⟨Tx (λK cv=>?_) ai U,My ae (sS U)⟩,λaV s k aN=>Mx k ⟨AR,rfl,by rw [w1];trivial⟩ bl (sS U) (QU U) aN,Mw _ _,Tw _ _⟩;rcases au1.1 cv with h|h
 · injection h with h;subst h;intro r v ao;cases ao
 · cases awq h
theorem HY{x:Operand}{p:Option Nat}{t k e:TypeId}(b0:P.underlying t=some (.map k e))(hx:a7 l x (.map p):=by exact rfl):bL P l w (.binOp .eql t x (.const (.map none)) t') ty (.bool p.isNone) w:=by
 unfold bL;intro cC aY d pos bx g;have bf:(eqGuard .eql t x (.const (.map none)) (.map p) (.map none)).run P w=.ok () w:=by
  rfl
 have dj:=run_eql_map_nil_sl (P:=P) w t k e p b0;have fl:cC (.const (.map none))=.map none:=aY _ _ rfl;simp only [execOp,aY _ _ hx,fl,auu,bf,aun,dj];rfl
theorem aqd(w:World)(x:Ins)(h:x.op<20):bd prog 219 [.int .i64 (x.op:Nat)].toArray w (λv w'=>v=.bool (fh x)/\w'=w):=by
 unfold fh;generalize x.op=o at*;refine cF func219 rfl 16 rfl 17 rfl (λa I=>?_);rcases o with _|_|_|_|_|_|_|_|_|_|_|_|_|_|_|_|_|_|_|_|o
 case succ.succ.succ.succ.succ.succ.succ.succ.succ.succ.succ.succ.succ.succ.succ.succ.succ.succ.succ.succ=>omega
 all_goals
  revert a;refine ad λa I=>?_;exact bc I rfl rfl ⟨rfl,rfl⟩
theorem Pr(w:World){q b:Nat}{K:dp}(h:jr w q b K){r:Nat}(aj:r<2^62):(Instr.lookup 276 (.map (some b)) (.int .i64 (r:Nat)) true).run prog w=.ok (.tuple #[.int .u64 (((K r).getD 0:Nat):Int),.bool (K r).isSome]) w:=
 h.look awk atX auM (avw w) aj
theorem aaX(w:World)(x:Ins)(hx:fc x)(ft:x.op<20){q b:Nat}{K:dp}(h:jr w q b K)(aZ:q<maxLen):bd prog 166 [.agg x.cells.toArray,.map (some b)].toArray w
   (λv w'=>∃b',v=.map (some b')/\w.heap.size<=b'/\jr w' (q+1) b' (mH x K)/\Below w.heap.size w w'):=by
 have ha:=hx.a;refine dP func166 rfl 20 rfl 22 rfl (λa I=>?_);revert a;refine ad λa I=>?_;refine di I rfl (k:=λa aq aE aT b8 I=>?_);have aB:=ca aT;revert a;refine ad λa I=>?_;refine aQ I (XJ aq (h.below aB)) λa v ax ab I=>?_;obtain⟨rfl,gE,aC⟩:=ab;have aL:dd w.heap.size x ax:=(aC.block _ (bO aE)).trans aE;have dk:=aB.trans (aC.mono aB.size);have gj:=aB.size;have cV:ax.cell? ⟨w.heap.size,0+1,none⟩=some (.int .i64 (x.a:Nat)):=aF aL rfl;have jH:ax.cell? ⟨w.heap.size,0+4,none⟩=some (.int .u64 (x.bK:Nat)):=aF aL rfl;revert a;(repeat first|refine ag ?_|refine J (af aL.op) ?_);intro a I;refine aQ I (aqd ax x ft) λa v a6 ab I=>?_;obtain⟨rfl,rfl⟩:=ab;obtain⟨bZ,U0,j4,bD,eY⟩:=gE.del awk atX ha 0;have oX:dd w.heap.size x bZ:=aD aL bD (by have:=bO aL;simp;have:=bO aE;omega);have b7:=dk.grown bD dk.size (λk au=>by cases au;exact gj);by_cases hw:fh x=true
 · by_cases U:x.op=1
   · have jI:(x.op:Int)=1:=bj
     obtain⟨bN,ahS,z7,br,dw⟩:=j4.put aZ awk atX auM ha hx.bK;rw [hw]at I;have abJ:bZ.cell? ⟨w.heap.size,0+1,none⟩=some (.int .i64 (x.a:Nat)):=aF oX rfl;have HO:bZ.cell? ⟨w.heap.size,0+4,none⟩=some (.int .u64 (x.bK:Nat)):=aF oX rfl;revert a;(repeat first|(intro a I;(refine ZP I U0 rfl rfl (λa I=>?_));revert a)|(intro a I;(refine gv I (r6 ahS rfl rfl rfl) rfl (λa I=>?_));revert a)|refine ag ?_|refine J (af cV) ?_|refine J (af oX.op) ?_|refine J (af abJ) ?_|refine J (af HO) ?_);intro a I;refine bc I rfl rfl ⟨_,rfl,gj,?_,b7.grown br b7.size (λk au=>by cases au;exact gj)⟩;have e:mH x K=λs=>if s=x.a then some x.bK else if s=x.a then none else K s:=by
      funext s
      unfold mH;by_cases e:s=x.a
      · rw [atM ⟨hw,e⟩,atM U,atM e]
      · rw [atK (λh=>e h.2),atK e,atK e]
     rw [e];exact z7
   · have jI:¬(x.op:Int)=1:=bj
     rw [hw]at I;revert a;(repeat first|(intro a I;(refine ZP I U0 rfl rfl (λa I=>?_));revert a)|refine ag ?_|refine J (af cV) ?_|refine J (af oX.op) ?_);intro a I;refine bc I rfl rfl ⟨_,rfl,gj,?_,b7⟩;have e:mH x K=λs=>if s=x.a then none else K s:=by
      funext s
      unfold mH;by_cases e:s=x.a
      · rw [atM ⟨hw,e⟩,atK U,atM e]
      · rw [atK (λh=>e h.2),atK e]
     rw [e];exact j4.more bj
 · have jI:¬(x.op:Int)=1:=by
     intro h;have U:x.op=1:=bj
     exact hw (by unfold fh;rw [U];rfl)
   rw [avS.2 hw]at I;revert a;(repeat first|refine ag ?_|refine J (af aL.op) ?_);intro a I;refine bc I rfl rfl ⟨_,rfl,gj,?_,dk⟩;have e:mH x K=K:=by
     funext s
     unfold mH;rw [atK (λh=>hw h.1)]
   rw [e];exact gE.more bj
theorem ak2(w:World){q b:Nat}{K:dp}(h:jr w q b K):bd prog 167 [.map none,.map (some b)].toArray w (λv w'=>∃b',v=.map (some b')/\w.heap.size<=b'/\jr w' q b' (yU none K)/\Below w.heap.size w w'):=by
 refine dP func167 rfl 11 rfl 13 rfl (λa I=>?_);revert a;refine ad λa I=>?_;refine di I rfl (k:=λa aq aE aT b8 I=>?_);have aB:=ca aT;have av:aq.cell? ⟨w.heap.size,0,none⟩=some (.map (some b)):=aF aE rfl;revert a;(repeat first|refine ag ?_|refine J (HY (aA _ _ rfl)) ?_|refine J (af av) ?_);intro a I;refine aQ I (XJ aq (h.below aB)) λa v ax ab I=>?_;obtain⟨rfl,gE,aC⟩:=ab;revert a;refine ad λa I=>?_;exact bc I rfl rfl ⟨_,rfl,aB.size,gE,aB.trans (aC.mono aB.size)⟩
theorem ak3(w:World){q b fk:Nat}{K Lc:dp}(U:jr w q fk Lc)(h:jr w q b K)(b5:fk≠b):bd prog 167 [.map (some fk),.map (some b)].toArray w
  (λv w'=>v=.map (some fk)/\jr w' q fk (yU (some Lc) K)/\w.grownBy w' (some fk)):=by
 refine dP func167 rfl 11 rfl 13 rfl (λa I=>?_);revert a;refine ad λa I=>?_;refine di I rfl (k:=λa aq aE aT b8 I=>?_);have aB:=ca aT;have av:aq.cell? ⟨w.heap.size,0,none⟩=some (.map (some b)):=aF aE rfl;obtain⟨eH,Rh,jL,eo,oh⟩:=U.below aB;obtain⟨e1,oP,rn,e0,mP⟩:=h.below aB;have bu:=U.lt;have aec:∀args w,(callFunc 221 args).run prog w=.ok (.enter 221 args) w:=enters_of func221 bh rfl;have agE:bd prog 220 [.map (some fk),.func (.func 221) #[] #[.pointer (some ⟨w.heap.size,0,none⟩)]].toArray aq (λv w'=>v=.tuple #[]/\w'.ownsMap prog 3 (plainElem prog 34) fk eH (Lib.deleteFuncD (xC oP) Rh)/\aq.grownBy w' (some fk)):=by
  refine auC (AnyDf.maps_DeleteFunc Tryz.akX W5 (plainElem prog 34) (xC oP) 221 #[.pointer (some ⟨w.heap.size,0,none⟩)] fk eH Rh aq aec eo (λW key val kl aqn Re Fp mQ ao=>?_)) ?_
  · obtain⟨c,rfl,aO,_⟩:=ayF auM ao;obtain rfl:aqn=.lit (.int .u64 c):=by simpa using (atW Prod.fst aO)
    obtain⟨x,rfl,rfl,_⟩:=Go.Maps.keyOf_int_inv atX mQ;have ahE:=e0.kept Fp (by simp;exact λe=>b5 e.symm);have agC:W.cell? ⟨w.heap.size,0,none⟩=some (.map (some b)):=aF (aD aE Fp bm) rfl;refine auC (akS W ahE agC mQ (c:=c)) ?_;rintro e w' ⟨v,rfl,rfl,rfl⟩;exact⟨rfl,awK _ _⟩
  · rintro e w' ⟨rfl,ae,aM⟩;exact⟨_,rfl,rfl,ae,aM⟩
 revert a;(repeat first|refine ag ?_|refine J (HY (aA _ _ rfl)) ?_|refine J (wm (vs:=[.pointer (some ⟨w.heap.size,0,none⟩)]) ⟨rfl,trivial⟩) ?_);intro a I;refine aQ I agE λa v ax ab I=>?_;obtain⟨rfl,pK,bz⟩:=ab;revert a;refine ad λa I=>?_;exact bc I rfl rfl ⟨rfl,⟨eH,_,jL,pK,oh.meet mP eo atX⟩,(It aT).trans bz⟩
end
end Go.Proofs.YtnkjmbbddmgjiaaGreatDoor