import Derived.Test.YtnkjmbbddmgjiaaGreatDoorSumLawCheckedS6
set_option linter.unusedSimpArgs false
set_option linter.unusedVariables false
set_option maxRecDepth 1000000
set_option maxHeartbeats 400000000
namespace Go.Proofs.YtnkjmbbddmgjiaaGreatDoor
open Go.RowKit Go.Proofs.Tryz
variable {de v L slots mask:Nat}{w w':World}{cl:List (Option Nat)}{x y:Operand}{ty e:TypeId}{ap:Option Addr}{fP:Bool}
section
attribute [local irreducible] wpList wpQuiet wpStill Code.wp Exit.then Exit.inBlock bodyPost Calls bL eT
def iY(l:List Nat):Nat:=l.foldl (λr x=>r ||| 2^x) 0
inductive eu where
 |n|a|b|ht
inductive gS where
 |free|bytes|slot|skip
def eu.ec(x:Ins):eu->List Nat
 | .n=>[]
 | .a=>[x.a]
 | .b=>[x.b]
 | .ht=>[x.a,x.b]
def gS.err(x:Ins)(size slots left:Nat):gS->Nat
 | .free=>0
 | .bytes=>if size<x.b+x.n then 16 else 0
 | .slot=>if slots<=x.b then 18 else 0
 | .skip=>if left<x.n then 16 else 0
def cX:Nat->eu × Bool × gS
 | 1=>(.n,true,.free)
 | 2=>(.b,true,.free)
 | 3=>(.ht,true,.free)
 | 4=>(.ht,true,.free)
 | 5=>(.ht,true,.free)
 | 6=>(.a,true,.free)
 | 7=>(.a,true,.free)
 | 8=>(.a,true,.free)
 | 14=>(.a,true,.free)
 | 9=>(.n,true,.bytes)
 | 10=>(.n,true,.bytes)
 | 11=>(.a,false,.bytes)
 | 12=>(.a,false,.bytes)
 | 13=>(.a,false,.bytes)
 | 15=>(.n,true,.slot)
 | 16=>(.a,false,.slot)
 | 17=>(.a,false,.slot)
 | 19=>(.a,false,.skip)
 | 18=>(.n,false,.skip)
 |_=>(.n,false,.free)
def jC:eu->Nat
 | .n=>109
 | .a=>113
 | .b=>111
 | .ht=>112
def jD:gS->Nat
 | .free=>110
 | .bytes=>114
 | .slot=>115
 | .skip=>116
def fN(r:eu × Bool × gS):List Value:=[cu (jC r.1),.bool r.2.1,cu (jD r.2.2)]
theorem an7(l:List Nat)(x:Nat):iY (l++ [x])=iY l ||| 2^x:=by unfold iY;rw [axG];rfl
theorem Yj{a b:Nat}(ha:a<65536)(hb:b<65536):a ||| b<65536:=avn (n:=16) ha hb
theorem Qx(l:List Nat)(h:∀x∈l,x<16):iY l<65536:=by
 have key:∀(l:List Nat) (r:Nat),r<65536->(∀x∈l,x<16)->l.foldl (λr x=>r ||| 2^x) r<65536:=by
  intro l;induction l with
  |nil=>intro r aj _;exact aj
  |cons x l df=>
   intro r aj h;exact df _ (Yj aj (aw1 (by decide:1<2) (h x bl))) (λy aO=>h y (by simp [aO]))
 exact key l 0 bk h
theorem K0(w:World)(l:List Nat)(aN:∀x∈l,x<16){al:Option Addr}(h:ee w al (λn:Nat=>Value.int .i64 (n:Nat)) l)(ba:l.length<=16):bd prog 62 [.slice al l.length de].toArray w (λv w'=>v=.int .u16 (iY l:Nat)/\w'=w):=by
 refine cF func62 rfl 17 rfl 18 rfl (λa I=>?_);revert a;refine ad λa I=>?_;refine eg (λq a wr=>wr=w/\∃k,k<=l.length/\q=l.length - k/\Fr 18 [(3,.int .u16 (iY (l.take k):Nat)),(6,.slice al l.length de),(7,.int .i64 (l.length:Nat)),(8,.int .i64 (k:Nat))] a) l.length
   ⟨rfl,0,auc _,rfl,I.bb⟩ ?_
 clear I a;rintro q a _ ⟨rfl,k,au,rfl,I⟩;by_cases bu:k<l.length
 · obtain⟨b,o,e,av⟩:=h k bu;have hx:=aN _ (at6 bu);have bW:=Qx (l.take k) (λx hx=>aN x (awW hx));have aG:iY (l.take (k+1))=iY (l.take k) ||| 2^l[k]:=by rw [auP bu,an7]
   generalize l[k]=x at av hx aG;rw [e]at I;revert a;(repeat first|refine ag ?_|refine J (H6 (b:=x) rfl rfl rfl rfl (by show x<16;exact hx)) ?_|refine J (fi (a:=iY (l.take k)) (b:=2^x) rfl rfl rfl rfl rfl (by show _<65536;exact bW) (by show _<65536;exact aw1 (by decide:1<2) hx)) ?_|refine J (af av) ?_);intro a I;exact⟨l.length - (k+1),bj,rfl,k+1,bj,rfl,e.symm▸(aG▸I.bb)⟩
 · obtain rfl:k=l.length:=bj
   rw [av0]at I;revert a;refine ad λa I=>?_;exact bc I rfl rfl ⟨rfl,rfl⟩
theorem am5(w:World)(x:Ins):bd prog 109 [.agg x.cells.toArray].toArray w (λv w'=>v=.int .u16 (iY []:Nat)/\Below w.heap.size w w'):=by
 refine cF func109 rfl 2 rfl 3 rfl (λa I=>?_);revert a;refine ad λa I=>?_;refine di I (cs:=x.cells.toArray) rfl (k:=λa aq aE aT b8 I=>?_);revert a;refine ad λa I=>?_;exact bc I rfl rfl ⟨rfl,aK (atL _ w) aT (atI _)⟩
theorem Qc:ee (w.alloc (.cells #[Value.int .i64 (v:Nat)] 3)) (some ⟨w.heap.size,0,none⟩) (λn:Nat=>Value.int .i64 (n:Nat)) [v]:=λi ai=>⟨_,_,rfl,by
 obtain rfl:i=0:=by simpa using ai
 exact aF (auE w _) rfl⟩
theorem amN{u:Nat}:ee (w.alloc (.cells #[Value.int .i64 (v:Nat),Value.int .i64 (u:Nat)] 3)) (some ⟨w.heap.size,0,none⟩) (λn:Nat=>Value.int .i64 (n:Nat)) [v,u]:=λi ai=>⟨_,_,rfl,by
 rcases i with _|_|i
 · exact aF (auE w _) rfl
 · exact aF (auE w _) rfl
 · simp at ai;omega⟩
theorem am2(w:World)(x:Ins)(hx:x.a<16):bd prog 113 [.agg x.cells.toArray].toArray w (λv w'=>v=.int .u16 (iY [x.a]:Nat)/\Below w.heap.size w w'):=by
 refine cF func113 rfl 6 rfl 7 rfl (λa I=>?_);revert a;refine ad λa I=>?_;refine di I (cs:=x.cells.toArray) rfl (k:=λa aq aE aT b8 I=>?_);have hb:=aK (atL _ w) aT (atI _);have aL:dd w.heap.size x aq:=aE;have cV:aq.cell? ⟨w.heap.size,0+1,none⟩=some (.int .i64 (x.a:Nat)):=aF aL rfl;revert a;(repeat first|refine ag ?_|refine J (af cV) ?_);intro a I;refine st I (q5 (aA _ _ rfl) sF rfl) rfl (λa I=>?_);refine aQ I (K0 _ [x.a] (by simpa using hx) Qc bl) λa v ax ab I=>?_;obtain⟨rfl,rfl⟩:=ab;revert a;refine ad λa I=>?_;exact bc I rfl rfl ⟨rfl,hb.trans ((e7 aq _).mono hb.size)⟩
theorem am4(w:World)(x:Ins)(hx:x.b<16):bd prog 111 [.agg x.cells.toArray].toArray w (λv w'=>v=.int .u16 (iY [x.b]:Nat)/\Below w.heap.size w w'):=by
 refine cF func111 rfl 6 rfl 7 rfl (λa I=>?_);revert a;refine ad λa I=>?_;refine di I (cs:=x.cells.toArray) rfl (k:=λa aq aE aT b8 I=>?_);have hb:=aK (atL _ w) aT (atI _);have aL:dd w.heap.size x aq:=aE;have cV:aq.cell? ⟨w.heap.size,0+2,none⟩=some (.int .i64 (x.b:Nat)):=aF aL rfl;revert a;(repeat first|refine ag ?_|refine J (af cV) ?_);intro a I;refine st I (q5 (aA _ _ rfl) sF rfl) rfl (λa I=>?_);refine aQ I (K0 _ [x.b] (by simpa using hx) Qc bl) λa v ax ab I=>?_;obtain⟨rfl,rfl⟩:=ab;revert a;refine ad λa I=>?_;exact bc I rfl rfl ⟨rfl,hb.trans ((e7 aq _).mono hb.size)⟩
theorem am3(w:World)(x:Ins)(ha:x.a<16)(hx:x.b<16):bd prog 112 [.agg x.cells.toArray].toArray w (λv w'=>v=.int .u16 (iY [x.a,x.b]:Nat)/\Below w.heap.size w w'):=by
 refine cF func112 rfl 8 rfl 9 rfl (λa I=>?_);revert a;refine ad λa I=>?_;refine di I (cs:=x.cells.toArray) rfl (k:=λa aq aE aT b8 I=>?_);have hb:=aK (atL _ w) aT (atI _);have aL:dd w.heap.size x aq:=aE;have cV:aq.cell? ⟨w.heap.size,0+1,none⟩=some (.int .i64 (x.a:Nat)):=aF aL rfl;have cb:aq.cell? ⟨w.heap.size,0+2,none⟩=some (.int .i64 (x.b:Nat)):=aF aL rfl;revert a;(repeat first|refine ag ?_|refine J (af cV) ?_|refine J (af cb) ?_);intro a I;refine st I (L2 (z:=.int .i64 0) (fQ:=8) (aA _ _ rfl) sF rfl bk bk (vs:=[(0,.int .i64 (x.a:Nat)),(1,.int .i64 (x.b:Nat))]) (cells:=#[.int .i64 (x.a:Nat),.int .i64 (x.b:Nat)]) bh ⟨rfl,rfl,rfl,rfl,trivial⟩) rfl (λa I=>?_);refine aQ I (K0 _ [x.a,x.b] (by simp [ha,hx]) amN bl) λa v ax ab I=>?_;obtain⟨rfl,rfl⟩:=ab;revert a;refine ad λa I=>?_;exact bc I rfl rfl ⟨rfl,hb.trans ((e7 aq _).mono hb.size)⟩
theorem ao6(w:World)(x:Ins)(size slots left:Int):bd prog 110 [.agg x.cells.toArray,.int .i64 size,.int .i64 slots,.int .i64 left].toArray w (λv w'=>v=.int .i64 ((0:Nat):Int)/\Below w.heap.size w w'):=by
 refine wE func110 rfl 5 rfl 9 rfl (λa I=>?_);revert a;refine ad λa I=>?_;refine di I (cs:=x.cells.toArray) rfl (k:=λa aq aE aT b8 I=>?_);revert a;refine ad λa I=>?_;exact bc I rfl rfl ⟨rfl,aK (atL _ w) aT (atI _)⟩
theorem ao5(w:World)(x:Ins)(size slots left:Nat)(I2:x.b<2^62)(Vx:x.n<2^62):bd prog 114 [.agg x.cells.toArray,.int .i64 (size:Nat),.int .i64 (slots:Nat),.int .i64 (left:Nat)].toArray w (λv w'=>v=.int .i64 ((gS.err x size slots left .bytes:Nat):Int)/\Below w.heap.size w w'):=by
 refine wE func114 rfl 12 rfl 16 rfl (λa I=>?_);revert a;refine ad λa I=>?_;refine di I (cs:=x.cells.toArray) rfl (k:=λa aq aE aT b8 I=>?_);have hb:=aK (atL _ w) aT (atI _);have aL:dd w.heap.size x aq:=aE;have cV:aq.cell? ⟨w.heap.size,0+2,none⟩=some (.int .i64 (x.b:Nat)):=aF aL rfl;have cb:aq.cell? ⟨w.heap.size,0+3,none⟩=some (.int .i64 (x.n:Nat)):=aF aL rfl;by_cases bW:size<x.b+x.n
 · revert a;(repeat first|refine ag ?_|refine J (af cV) ?_|refine J (af cb) ?_);intro a I;exact bc I rfl rfl ⟨by simp only [gS.err];rw [atM bW];rfl,hb⟩
 · revert a;(repeat first|refine ag ?_|refine J (af cV) ?_|refine J (af cb) ?_);intro a I;exact bc I rfl rfl ⟨by simp only [gS.err];rw [atK bW];rfl,hb⟩
theorem ao9(w:World)(x:Ins)(size slots left:Nat):bd prog 115 [.agg x.cells.toArray,.int .i64 (size:Nat),.int .i64 (slots:Nat),.int .i64 (left:Nat)].toArray w (λv w'=>v=.int .i64 ((gS.err x size slots left .slot:Nat):Int)/\Below w.heap.size w w'):=by
 refine wE func115 rfl 9 rfl 13 rfl (λa I=>?_);revert a;refine ad λa I=>?_;refine di I (cs:=x.cells.toArray) rfl (k:=λa aq aE aT b8 I=>?_);have hb:=aK (atL _ w) aT (atI _);have aL:dd w.heap.size x aq:=aE;have cV:aq.cell? ⟨w.heap.size,0+2,none⟩=some (.int .i64 (x.b:Nat)):=aF aL rfl;by_cases bW:slots<=x.b
 · revert a;(repeat first|refine ag ?_|refine J (af cV) ?_);intro a I;exact bc I rfl rfl ⟨by simp only [gS.err];rw [atM bW];rfl,hb⟩
 · revert a;(repeat first|refine ag ?_|refine J (af cV) ?_);intro a I;exact bc I rfl rfl ⟨by simp only [gS.err];rw [atK bW];rfl,hb⟩
theorem ao8(w:World)(x:Ins)(size slots left:Nat):bd prog 116 [.agg x.cells.toArray,.int .i64 (size:Nat),.int .i64 (slots:Nat),.int .i64 (left:Nat)].toArray w (λv w'=>v=.int .i64 ((gS.err x size slots left .skip:Nat):Int)/\Below w.heap.size w w'):=by
 refine wE func116 rfl 9 rfl 13 rfl (λa I=>?_);revert a;refine ad λa I=>?_;refine di I (cs:=x.cells.toArray) rfl (k:=λa aq aE aT b8 I=>?_);have hb:=aK (atL _ w) aT (atI _);have aL:dd w.heap.size x aq:=aE;have cV:aq.cell? ⟨w.heap.size,0+3,none⟩=some (.int .i64 (x.n:Nat)):=aF aL rfl;by_cases bW:left<x.n
 · revert a;(repeat first|refine ag ?_|refine J (af cV) ?_);intro a I;exact bc I rfl rfl ⟨by simp only [gS.err];rw [atM bW];rfl,hb⟩
 · revert a;(repeat first|refine ag ?_|refine J (af cV) ?_);intro a I;exact bc I rfl rfl ⟨by simp only [gS.err];rw [atK bW];rfl,hb⟩
theorem am6(w:World)(x:Ins)(r:eu)(hx:∀y∈r.ec x,y<16):kD prog (cu (jC r)) [.agg x.cells.toArray] w (λv w'=>v=.int .u16 (iY (r.ec x):Nat)/\Below w.heap.size w w'):=by
 cases r with
 |n=>exact⟨_,_,_,rfl,abN,by simpa [jC,eu.ec]using am5 w x⟩
 |a=>exact⟨_,_,_,rfl,abR,by simpa [jC,eu.ec]using am2 w x (hx _ (by simp [eu.ec]))⟩
 |b=>exact⟨_,_,_,rfl,abP,by simpa [jC,eu.ec]using am4 w x (hx _ (by simp [eu.ec]))⟩
 |ht=>exact⟨_,_,_,rfl,abQ,by simpa [jC,eu.ec]using am3 w x (hx _ (by simp [eu.ec])) (hx _ (by simp [eu.ec]))⟩
theorem ao7(w:World)(x:Ins)(t:gS)(size slots left:Nat)(I2:x.b<2^62)(Vx:x.n<2^62):kD prog (cu (jD t)) [.agg x.cells.toArray,.int .i64 (size:Nat),.int .i64 (slots:Nat),.int .i64 (left:Nat)] w (λv w'=>v=.int .i64 ((gS.err x size slots left t:Nat):Int)/\Below w.heap.size w w'):=by
 cases t with
 |free=>exact⟨_,_,_,rfl,abO,by simpa [jD,gS.err]using ao6 w x size slots left⟩
 |bytes=>exact⟨_,_,_,rfl,abS,by simpa [jD]using ao5 w x size slots left I2 Vx⟩
 |slot=>exact⟨_,_,_,rfl,abT,by simpa [jD]using ao9 w x size slots left⟩
 |skip=>exact⟨_,_,_,rfl,abU,by simpa [jD]using ao8 w x size slots left⟩
theorem lZ(r:eu × Bool × gS):∀v∈(fN r).toArray,v.oneCell'=true:=λv ao=>by simp [fN]at ao;rcases ao with rfl|rfl|rfl<;>rfl
def gf(w:World)(op:Nat):Prop:=bd prog 60 [.int .i64 (op:Nat)].toArray w (λv w'=>v=.agg (fN (cX op)).toArray/\Below w.heap.size w w')
theorem ank(w:World):gf w 0:=by
 unfold gf;refine cF avj rfl 43 rfl 44 rfl (λa I=>?_);refine fC ?_;refine fB _ ?_;refine b6 I lV λa aq aE aT b8 I=>?_;revert a;(repeat first|refine ag ?_|refine J (cA (vs:=[(0,cu (jC .n)),(1,.bool false),(2,cu (jD .free))]) (cells:=(fN (.n,false,.free)).toArray) bh ⟨rfl,rfl,rfl,rfl,rfl,rfl,trivial⟩) ?_);intro a I;refine cE I (cs:=(fN (.n,false,.free)).toArray) aE (lZ _) λa ax aP aS cZ I=>?_;revert a;refine ad λa I=>?_;exact ff I rfl (agg _ rfl) (aw _ _ rfl) aP rfl ⟨rfl,aK (aK (atL _ w) aT (atI _)) aS bj⟩
theorem anl(w:World):gf w 1:=by
 unfold gf;refine cF avj rfl 43 rfl 44 rfl (λa I=>?_);refine fC ?_;refine fB _ ?_;refine b6 I lV λa aq aE aT b8 I=>?_;revert a;(repeat first|refine ag ?_|refine J (cA (vs:=[(0,cu (jC .n)),(1,.bool true),(2,cu (jD .free))]) (cells:=(fN (.n,true,.free)).toArray) bh ⟨rfl,rfl,rfl,rfl,rfl,rfl,trivial⟩) ?_);intro a I;refine cE I (cs:=(fN (.n,true,.free)).toArray) aE (lZ _) λa ax aP aS cZ I=>?_;revert a;refine ad λa I=>?_;exact ff I rfl (agg _ rfl) (aw _ _ rfl) aP rfl ⟨rfl,aK (aK (atL _ w) aT (atI _)) aS bj⟩
theorem anw(w:World):gf w 2:=by
 unfold gf;refine cF avj rfl 43 rfl 44 rfl (λa I=>?_);refine fC ?_;refine fB _ ?_;refine b6 I lV λa aq aE aT b8 I=>?_;revert a;(repeat first|refine ag ?_|refine J (cA (vs:=[(0,cu (jC .b)),(1,.bool true),(2,cu (jD .free))]) (cells:=(fN (.b,true,.free)).toArray) bh ⟨rfl,rfl,rfl,rfl,rfl,rfl,trivial⟩) ?_);intro a I;refine cE I (cs:=(fN (.b,true,.free)).toArray) aE (lZ _) λa ax aP aS cZ I=>?_;revert a;refine ad λa I=>?_;exact ff I rfl (agg _ rfl) (aw _ _ rfl) aP rfl ⟨rfl,aK (aK (atL _ w) aT (atI _)) aS bj⟩
theorem anx(w:World):gf w 3:=by
 unfold gf;refine cF avj rfl 43 rfl 44 rfl (λa I=>?_);refine fC ?_;refine fB _ ?_;refine b6 I lV λa aq aE aT b8 I=>?_;revert a;(repeat first|refine ag ?_|refine J (cA (vs:=[(0,cu (jC .ht)),(1,.bool true),(2,cu (jD .free))]) (cells:=(fN (.ht,true,.free)).toArray) bh ⟨rfl,rfl,rfl,rfl,rfl,rfl,trivial⟩) ?_);intro a I;refine cE I (cs:=(fN (.ht,true,.free)).toArray) aE (lZ _) λa ax aP aS cZ I=>?_;revert a;refine ad λa I=>?_;exact ff I rfl (agg _ rfl) (aw _ _ rfl) aP rfl ⟨rfl,aK (aK (atL _ w) aT (atI _)) aS bj⟩
theorem anz(w:World):gf w 4:=by
 unfold gf;refine cF avj rfl 43 rfl 44 rfl (λa I=>?_);refine fC ?_;refine fB _ ?_;refine b6 I lV λa aq aE aT b8 I=>?_;revert a;(repeat first|refine ag ?_|refine J (cA (vs:=[(0,cu (jC .ht)),(1,.bool true),(2,cu (jD .free))]) (cells:=(fN (.ht,true,.free)).toArray) bh ⟨rfl,rfl,rfl,rfl,rfl,rfl,trivial⟩) ?_);intro a I;refine cE I (cs:=(fN (.ht,true,.free)).toArray) aE (lZ _) λa ax aP aS cZ I=>?_;revert a;refine ad λa I=>?_;exact ff I rfl (agg _ rfl) (aw _ _ rfl) aP rfl ⟨rfl,aK (aK (atL _ w) aT (atI _)) aS bj⟩
theorem anA(w:World):gf w 5:=by
 unfold gf;refine cF avj rfl 43 rfl 44 rfl (λa I=>?_);refine fC ?_;refine fB _ ?_;refine b6 I lV λa aq aE aT b8 I=>?_;revert a;(repeat first|refine ag ?_|refine J (cA (vs:=[(0,cu (jC .ht)),(1,.bool true),(2,cu (jD .free))]) (cells:=(fN (.ht,true,.free)).toArray) bh ⟨rfl,rfl,rfl,rfl,rfl,rfl,trivial⟩) ?_);intro a I;refine cE I (cs:=(fN (.ht,true,.free)).toArray) aE (lZ _) λa ax aP aS cZ I=>?_;revert a;refine ad λa I=>?_;exact ff I rfl (agg _ rfl) (aw _ _ rfl) aP rfl ⟨rfl,aK (aK (atL _ w) aT (atI _)) aS bj⟩
theorem anB(w:World):gf w 6:=by
 unfold gf;refine cF avj rfl 43 rfl 44 rfl (λa I=>?_);refine fC ?_;refine fB _ ?_;refine b6 I lV λa aq aE aT b8 I=>?_;revert a;(repeat first|refine ag ?_|refine J (cA (vs:=[(0,cu (jC .a)),(1,.bool true),(2,cu (jD .free))]) (cells:=(fN (.a,true,.free)).toArray) bh ⟨rfl,rfl,rfl,rfl,rfl,rfl,trivial⟩) ?_);intro a I;refine cE I (cs:=(fN (.a,true,.free)).toArray) aE (lZ _) λa ax aP aS cZ I=>?_;revert a;refine ad λa I=>?_;exact ff I rfl (agg _ rfl) (aw _ _ rfl) aP rfl ⟨rfl,aK (aK (atL _ w) aT (atI _)) aS bj⟩
theorem anC(w:World):gf w 7:=by
 unfold gf;refine cF avj rfl 43 rfl 44 rfl (λa I=>?_);refine fC ?_;refine fB _ ?_;refine b6 I lV λa aq aE aT b8 I=>?_;revert a;(repeat first|refine ag ?_|refine J (cA (vs:=[(0,cu (jC .a)),(1,.bool true),(2,cu (jD .free))]) (cells:=(fN (.a,true,.free)).toArray) bh ⟨rfl,rfl,rfl,rfl,rfl,rfl,trivial⟩) ?_);intro a I;refine cE I (cs:=(fN (.a,true,.free)).toArray) aE (lZ _) λa ax aP aS cZ I=>?_;revert a;refine ad λa I=>?_;exact ff I rfl (agg _ rfl) (aw _ _ rfl) aP rfl ⟨rfl,aK (aK (atL _ w) aT (atI _)) aS bj⟩
theorem anD(w:World):gf w 8:=by
 unfold gf;refine cF avj rfl 43 rfl 44 rfl (λa I=>?_);refine fC ?_;refine fB _ ?_;refine b6 I lV λa aq aE aT b8 I=>?_;revert a;(repeat first|refine ag ?_|refine J (cA (vs:=[(0,cu (jC .a)),(1,.bool true),(2,cu (jD .free))]) (cells:=(fN (.a,true,.free)).toArray) bh ⟨rfl,rfl,rfl,rfl,rfl,rfl,trivial⟩) ?_);intro a I;refine cE I (cs:=(fN (.a,true,.free)).toArray) aE (lZ _) λa ax aP aS cZ I=>?_;revert a;refine ad λa I=>?_;exact ff I rfl (agg _ rfl) (aw _ _ rfl) aP rfl ⟨rfl,aK (aK (atL _ w) aT (atI _)) aS bj⟩
theorem anE(w:World):gf w 9:=by
 unfold gf;refine cF avj rfl 43 rfl 44 rfl (λa I=>?_);refine fC ?_;refine fB _ ?_;refine b6 I lV λa aq aE aT b8 I=>?_;revert a;(repeat first|refine ag ?_|refine J (cA (vs:=[(0,cu (jC .n)),(1,.bool true),(2,cu (jD .bytes))]) (cells:=(fN (.n,true,.bytes)).toArray) bh ⟨rfl,rfl,rfl,rfl,rfl,rfl,trivial⟩) ?_);intro a I;refine cE I (cs:=(fN (.n,true,.bytes)).toArray) aE (lZ _) λa ax aP aS cZ I=>?_;revert a;refine ad λa I=>?_;exact ff I rfl (agg _ rfl) (aw _ _ rfl) aP rfl ⟨rfl,aK (aK (atL _ w) aT (atI _)) aS bj⟩
theorem anm(w:World):gf w 10:=by
 unfold gf;refine cF avj rfl 43 rfl 44 rfl (λa I=>?_);refine fC ?_;refine fB _ ?_;refine b6 I lV λa aq aE aT b8 I=>?_;revert a;(repeat first|refine ag ?_|refine J (cA (vs:=[(0,cu (jC .n)),(1,.bool true),(2,cu (jD .bytes))]) (cells:=(fN (.n,true,.bytes)).toArray) bh ⟨rfl,rfl,rfl,rfl,rfl,rfl,trivial⟩) ?_);intro a I;refine cE I (cs:=(fN (.n,true,.bytes)).toArray) aE (lZ _) λa ax aP aS cZ I=>?_;revert a;refine ad λa I=>?_;exact ff I rfl (agg _ rfl) (aw _ _ rfl) aP rfl ⟨rfl,aK (aK (atL _ w) aT (atI _)) aS bj⟩
theorem ann(w:World):gf w 11:=by
 unfold gf;refine cF avj rfl 43 rfl 44 rfl (λa I=>?_);refine fC ?_;refine fB _ ?_;refine b6 I lV λa aq aE aT b8 I=>?_;revert a;(repeat first|refine ag ?_|refine J (cA (vs:=[(0,cu (jC .a)),(1,.bool false),(2,cu (jD .bytes))]) (cells:=(fN (.a,false,.bytes)).toArray) bh ⟨rfl,rfl,rfl,rfl,rfl,rfl,trivial⟩) ?_);intro a I;refine cE I (cs:=(fN (.a,false,.bytes)).toArray) aE (lZ _) λa ax aP aS cZ I=>?_;revert a;refine ad λa I=>?_;exact ff I rfl (agg _ rfl) (aw _ _ rfl) aP rfl ⟨rfl,aK (aK (atL _ w) aT (atI _)) aS bj⟩
theorem ano(w:World):gf w 12:=by
 unfold gf;refine cF avj rfl 43 rfl 44 rfl (λa I=>?_);refine fC ?_;refine fB _ ?_;refine b6 I lV λa aq aE aT b8 I=>?_;revert a;(repeat first|refine ag ?_|refine J (cA (vs:=[(0,cu (jC .a)),(1,.bool false),(2,cu (jD .bytes))]) (cells:=(fN (.a,false,.bytes)).toArray) bh ⟨rfl,rfl,rfl,rfl,rfl,rfl,trivial⟩) ?_);intro a I;refine cE I (cs:=(fN (.a,false,.bytes)).toArray) aE (lZ _) λa ax aP aS cZ I=>?_;revert a;refine ad λa I=>?_;exact ff I rfl (agg _ rfl) (aw _ _ rfl) aP rfl ⟨rfl,aK (aK (atL _ w) aT (atI _)) aS bj⟩
theorem anp(w:World):gf w 13:=by
 unfold gf;refine cF avj rfl 43 rfl 44 rfl (λa I=>?_);refine fC ?_;refine fB _ ?_;refine b6 I lV λa aq aE aT b8 I=>?_;revert a;(repeat first|refine ag ?_|refine J (cA (vs:=[(0,cu (jC .a)),(1,.bool false),(2,cu (jD .bytes))]) (cells:=(fN (.a,false,.bytes)).toArray) bh ⟨rfl,rfl,rfl,rfl,rfl,rfl,trivial⟩) ?_);intro a I;refine cE I (cs:=(fN (.a,false,.bytes)).toArray) aE (lZ _) λa ax aP aS cZ I=>?_;revert a;refine ad λa I=>?_;exact ff I rfl (agg _ rfl) (aw _ _ rfl) aP rfl ⟨rfl,aK (aK (atL _ w) aT (atI _)) aS bj⟩
theorem anq(w:World):gf w 14:=by
 unfold gf;refine cF avj rfl 43 rfl 44 rfl (λa I=>?_);refine fC ?_;refine fB _ ?_;refine b6 I lV λa aq aE aT b8 I=>?_;revert a;(repeat first|refine ag ?_|refine J (cA (vs:=[(0,cu (jC .a)),(1,.bool true),(2,cu (jD .free))]) (cells:=(fN (.a,true,.free)).toArray) bh ⟨rfl,rfl,rfl,rfl,rfl,rfl,trivial⟩) ?_);intro a I;refine cE I (cs:=(fN (.a,true,.free)).toArray) aE (lZ _) λa ax aP aS cZ I=>?_;revert a;refine ad λa I=>?_;exact ff I rfl (agg _ rfl) (aw _ _ rfl) aP rfl ⟨rfl,aK (aK (atL _ w) aT (atI _)) aS bj⟩
theorem anr(w:World):gf w 15:=by
 unfold gf;refine cF avj rfl 43 rfl 44 rfl (λa I=>?_);refine fC ?_;refine fB _ ?_;refine b6 I lV λa aq aE aT b8 I=>?_;revert a;(repeat first|refine ag ?_|refine J (cA (vs:=[(0,cu (jC .n)),(1,.bool true),(2,cu (jD .slot))]) (cells:=(fN (.n,true,.slot)).toArray) bh ⟨rfl,rfl,rfl,rfl,rfl,rfl,trivial⟩) ?_);intro a I;refine cE I (cs:=(fN (.n,true,.slot)).toArray) aE (lZ _) λa ax aP aS cZ I=>?_;revert a;refine ad λa I=>?_;exact ff I rfl (agg _ rfl) (aw _ _ rfl) aP rfl ⟨rfl,aK (aK (atL _ w) aT (atI _)) aS bj⟩
theorem ans(w:World):gf w 16:=by
 unfold gf;refine cF avj rfl 43 rfl 44 rfl (λa I=>?_);refine fC ?_;refine fB _ ?_;refine b6 I lV λa aq aE aT b8 I=>?_;revert a;(repeat first|refine ag ?_|refine J (cA (vs:=[(0,cu (jC .a)),(1,.bool false),(2,cu (jD .slot))]) (cells:=(fN (.a,false,.slot)).toArray) bh ⟨rfl,rfl,rfl,rfl,rfl,rfl,trivial⟩) ?_);intro a I;refine cE I (cs:=(fN (.a,false,.slot)).toArray) aE (lZ _) λa ax aP aS cZ I=>?_;revert a;refine ad λa I=>?_;exact ff I rfl (agg _ rfl) (aw _ _ rfl) aP rfl ⟨rfl,aK (aK (atL _ w) aT (atI _)) aS bj⟩
theorem ant(w:World):gf w 17:=by
 unfold gf;refine cF avj rfl 43 rfl 44 rfl (λa I=>?_);refine fC ?_;refine fB _ ?_;refine b6 I lV λa aq aE aT b8 I=>?_;revert a;(repeat first|refine ag ?_|refine J (cA (vs:=[(0,cu (jC .a)),(1,.bool false),(2,cu (jD .slot))]) (cells:=(fN (.a,false,.slot)).toArray) bh ⟨rfl,rfl,rfl,rfl,rfl,rfl,trivial⟩) ?_);intro a I;refine cE I (cs:=(fN (.a,false,.slot)).toArray) aE (lZ _) λa ax aP aS cZ I=>?_;revert a;refine ad λa I=>?_;exact ff I rfl (agg _ rfl) (aw _ _ rfl) aP rfl ⟨rfl,aK (aK (atL _ w) aT (atI _)) aS bj⟩
theorem anu(w:World):gf w 18:=by
 unfold gf;refine cF avj rfl 43 rfl 44 rfl (λa I=>?_);refine fC ?_;refine fB _ ?_;refine b6 I lV λa aq aE aT b8 I=>?_;revert a;(repeat first|refine ag ?_|refine J (cA (vs:=[(0,cu (jC .n)),(1,.bool false),(2,cu (jD .skip))]) (cells:=(fN (.n,false,.skip)).toArray) bh ⟨rfl,rfl,rfl,rfl,rfl,rfl,trivial⟩) ?_);intro a I;refine cE I (cs:=(fN (.n,false,.skip)).toArray) aE (lZ _) λa ax aP aS cZ I=>?_;revert a;refine ad λa I=>?_;exact ff I rfl (agg _ rfl) (aw _ _ rfl) aP rfl ⟨rfl,aK (aK (atL _ w) aT (atI _)) aS bj⟩
theorem anv(w:World):gf w 19:=by
 unfold gf;refine cF avj rfl 43 rfl 44 rfl (λa I=>?_);refine fC ?_;refine fB _ ?_;refine b6 I lV λa aq aE aT b8 I=>?_;revert a;(repeat first|refine ag ?_|refine J (cA (vs:=[(0,cu (jC .a)),(1,.bool false),(2,cu (jD .skip))]) (cells:=(fN (.a,false,.skip)).toArray) bh ⟨rfl,rfl,rfl,rfl,rfl,rfl,trivial⟩) ?_);intro a I;refine cE I (cs:=(fN (.a,false,.skip)).toArray) aE (lZ _) λa ax aP aS cZ I=>?_;revert a;refine ad λa I=>?_;exact ff I rfl (agg _ rfl) (aw _ _ rfl) aP rfl ⟨rfl,aK (aK (atL _ w) aT (atI _)) aS bj⟩
theorem Y4(w:World)(op:Nat)(h:op<20):gf w op:=by
 rcases op with _|_|_|_|_|_|_|_|_|_|_|_|_|_|_|_|_|_|_|_|op
 · exact ank w
 · exact anl w
 · exact anw w
 · exact anx w
 · exact anz w
 · exact anA w
 · exact anB w
 · exact anC w
 · exact anD w
 · exact anE w
 · exact anm w
 · exact ann w
 · exact ano w
 · exact anp w
 · exact anq w
 · exact anr w
 · exact ans w
 · exact ant w
 · exact anu w
 · exact anv w
 · omega
theorem zX{α:Type}{enc:α->List Value}{sz:Nat}(he:∀x,(enc x).length=sz){cs:List Value}{p q:Nat}:∀(xs:List α) (k:Nat) (au:k<xs.length) (y:α),q<=sz->p<=q->enc y=(enc xs[k]).take p++cs++(enc xs[k]).drop q->(xs.flatMap enc).take (k*sz+p)++cs++(xs.flatMap enc).drop (k*sz+q)=(xs.set k y).flatMap enc
 |x::xs,0,_,y,aZ,aW,aO=>by
  have hx:=he x;simp only [awU,List.set_cons_zero,Nat.zero_mul,aub];rw [awB bj,awC bj,<-auJ];simp only [axA]at aO;rw [aO]
 |x::xs,k+1,au,y,aZ,aW,aO=>by
  have hx:=he x;simp only [awU,List.set_cons_succ];rw [<-zX he xs k (by simpa using au) y aZ aW (by simpa using aO)];rw [show(k+1)*sz+p=sz+(k*sz+p) by rw [av7];omega,show(k+1)*sz+q=sz+(k*sz+q) by rw [av7];omega];rw [List.take_append,List.drop_append,hx];rw [awI (l:=enc x) bj,List.drop_of_length_le (l:=enc x) bj];simp [au2,auJ]
theorem Ln(w:World)(k y:Int):bd prog 59 [.int .i64 k,.int .i64 y].toArray w (λv w'=>v=mg k 0 y/\w'=w):=by
 refine dP func59 rfl 7 rfl 9 rfl (λa I=>?_);revert a;(repeat first|refine ag ?_|refine J (cA (vs:=[(0,.int .i64 k),(2,.int .i64 y)]) (cells:=#[.int .i64 k,.int .i64 0,.int .i64 y]) bh ⟨rfl,rfl,rfl,rfl,trivial⟩) ?_);intro a I;exact bc I rfl rfl ⟨rfl,rfl⟩
def ud:Option Nat->List Value
 |none=>[.bool false,.int .u16 0]
 |some s=>[.bool true,.int .u16 (s:Nat)]
theorem G7(s:Option Nat):(ud s).length=2:=by cases s<;>rfl
def nh(w:World)(L:Nat)(cl:List (Option Nat)):Prop:=w.heap[L]? =some (.cells (cl.flatMap ud).toArray 163 (0,0))
def x9(s:Nat):Option Nat->Nat
 |none=>s
 |some u=>u &&& s
def nn(cl:List (Option Nat))(i s:Nat):List (Option Nat):=cl.set i (some (x9 s (cl[i]?.getD none)))
theorem ZR(h:nh w L cl){i q:Nat}(ai:i<cl.length)(aZ:q<2){v:Value}(ao:(ud cl[i])[q]? =some v):w.cell? ⟨L,0+i*2+q,none⟩=some v:=
 aF h (by rw [aub];have:=flat_get G7 cl i ai q aZ;simpa [this]using ao)
theorem ZS(h:nh w L cl){i:Nat}(ai:i<cl.length):w.cell? ⟨L,0+i*2+0,none⟩=some (.bool cl[i].isSome):=ZR h ai bk (by cases cl[i]<;>rfl)
theorem QI(h:nh w L cl){i:Nat}(ai:i<cl.length):w.cell? ⟨L,0+i*2+1,none⟩=some (.int .u16 ((cl[i].getD 0:Nat):Int)):=ZR h ai bk (by cases cl[i]<;>rfl)
theorem KJ(cl:List (Option Nat)):(cl.flatMap ud).toArray.size=2*cl.length:=by
 induction cl with
 |nil=>rfl
 |cons s l df=>
  have:=G7 s;simp only [av4,awU,atV,aue]at df ⊢;omega
theorem aob{l:List Value}{j:Nat}(ah:j<l.length)(v:Value):l.toArray.setIfInBounds j v=(l.take j++ [v]++l.drop (j+1)).toArray:=by
 rw [auR,axq,atM ah];simp
theorem ZT{i s:Nat}(ai:i<cl.length)(aJ:cl[i].isSome=true)(az:w.heap[L]? =some (.cells ((cl.flatMap ud).toArray.setIfInBounds (0+i*2+1) (.int .u16 (s:Nat))) 163 (0,0))):nh w L (cl.set i (some s)):=by
 have kT:=KJ cl;unfold nh;rw [az,<-zX G7 (p:=1) (q:=2) (cs:=[.int .u16 (s:Nat)]) cl i ai (some s) bk bk (by cases he:cl[i]with|none=>rw [he]at aJ;cases aJ|some u=>rfl)];rw [aob (by rw [av4]at kT;omega),aub]
theorem HU(w:World){i s:Nat}(cl:List (Option Nat))(h:nh w L cl)(ai:i<cl.length)(aG:s<65536)(j7:∀u,some u∈cl->u<65536):
  bd prog 61 [.pointer (some ⟨L,0+i*2,none⟩),.int .u16 (s:Nat)].toArray w (λ_ w'=>nh w' L (nn cl i s)/\w.grownBy w' (some L)):=by
 have c0:=ZS h ai;have bM:=QI h ai;have kT:=KJ cl;have hu:nn cl i s=cl.set i (some (x9 s cl[i])):=by unfold nn;rw [atT ai];rfl
 refine dP func61 rfl 19 rfl 21 rfl (λa I=>?_);cases he:cl[i]with
 |some u=>
  rw [he]at c0 bM;have ail:=j7 u (by rw [<-he];exact at6 ai);revert a;(repeat first|refine ag ?_|refine J (fi (a:=u) (b:=s) rfl rfl rfl rfl rfl (by show _<65536;exact ail) (by show _<65536;exact aG)) ?_|refine J (af c0) ?_|refine J (af bM) ?_);intro a I;refine cr I (aw _ _ rfl) h (i:=0+i*2+1) (by rw [kT];omega) rfl rfl rfl (k:=λa aq aE aT b8 I=>?_);refine atJ ?_;refine lo I rfl ⟨?_,aT⟩;rw [hu,he];exact ZT ai (by rw [he];rfl) aE
 |none=>
  rw [he]at c0;revert a;(repeat first|refine ag ?_|refine J (cA (vs:=[(0,.bool true),(1,.int .u16 (s:Nat))]) (cells:=(ud (some s)).toArray) bh ⟨rfl,rfl,rfl,rfl,trivial⟩) ?_|refine J (af c0) ?_);intro a I;refine qT I (o:=0+i*2) (cs:=(ud (some s)).toArray) (aw _ _ rfl) rfl (by rw [kT];omega) h (λv ao=>by simp [ud]at ao;rcases ao with rfl|rfl<;>rfl) (k:=λa aq aE aT b8 I=>?_);have U:nh aq L (cl.set i (some s)):=by
   unfold nh;rw [aE,<-zX G7 (p:=0) (q:=2) (cs:=ud (some s)) cl i ai (some s) bk bk (by rw [he];rfl)];simp
  have NQ:i<(cl.set i (some s)).length:=by simpa using ai
  have bM:=QI U NQ;have bw:(cl.set i (some s))[i]=some s:=bl
  rw [bw]at bM;have Jh:=KJ (cl.set i (some s));revert a;(repeat first|refine ag ?_|refine J (fi (a:=s) (b:=s) rfl rfl rfl rfl rfl (by show _<65536;exact aG) (by show _<65536;exact aG)) ?_|refine J (af bM) ?_);intro a I;refine cr I (aw _ _ rfl) U (i:=0+i*2+1) (by rw [Jh];simp;omega) rfl rfl rfl (k:=λa ax aP aS cZ I=>?_);refine atJ ?_;refine lo I rfl ⟨?_,aT.trans aS⟩;have:=ZT (s:=s &&& s) NQ (by rw [bw];rfl) aP;rw [hu,he];simpa [x9]using this
section
theorem B0{P:Program}{l:List (Nat × Value)}{s f:Nat}{u v:Value}(aj:(Instr.field s u f).run P w=.ok v w)(hx:a7 l x u:=by exact rfl):bL P l w (.field s x f) ty v w:=by
 unfold bL;intro cC aY d pos bx g;simp only [execOp,aY _ _ hx,auu,aj];rfl
end
def e5(size slots:Nat):List Ins->Bool
 | []=>true
 |x::p=>dW x&&decide (gS.err x size slots p.length (cX x.op).2.2=0)&&e5 size slots p
theorem ape{size:Nat}{p:List Ins}{k:Nat}(h:k<p.length):e5 size slots (p.drop k)=(dW p[k]&&decide (gS.err p[k] size slots (p.length - k - 1) (cX p[k].op).2.2=0)&&e5 size slots (p.drop (k+1))):=by
 rw [aua h,e5];have e:(p.drop (k+1)).length=p.length - k - 1:=by rw [atU];omega
 rw [e]
theorem apf(w:World)(bF:Env w)(p:List Ins)(aW:∀x∈p,fc x){cp:Nat}(cj:dA w ap 5 Ins.cells p)(hlen:p.length<=16384)(size slots:Nat):bd prog 25 [.slice ap p.length cp,.int .i64 (size:Nat),.int .i64 (slots:Nat)].toArray w (λv w'=>
   ((e5 size slots p=true/\v=.nilIface)\/(e5 size slots p=false/\∃t u,v=.iface t u))/\Below w.heap.size w w'):=by
 refine mf func25 rfl 44 rfl 47 rfl (λa I=>?_);revert a;refine ad λa I=>?_;refine eg (λq a wr=>∃k,k<=p.length/\q=p.length - k/\Fr 47 [(0,.slice ap p.length cp),(1,.int .i64 (size:Nat)),(2,.int .i64 (slots:Nat)),(12,.slice ap p.length cp),(13,.int .i64 (p.length:Nat)),(14,.int .i64 (k:Nat))] a/\e5 size slots p=e5 size slots (p.drop k)/\Below w.heap.size w wr) p.length
   ⟨0,auc _,rfl,I.bb,rfl,atL _ _⟩ ?_
 clear I a;rintro q a wr ⟨k,au,rfl,I,mS,hb⟩;by_cases bu:k<p.length
 · rw [ape bu]at mS;obtain⟨g,o,e,av⟩:=(cj.below hb) k bu;have hx:=aW _ (at6 bu);generalize p[k]=x at av hx mS;replace av:∀j v,x.cells.toArray[j]? =some v->wr.cell? ⟨g,o+k*5+j,none⟩=some v:=λj v ah=>av j v (by simpa using ah);rw [e]at I;revert a;(repeat first|refine ag ?_|refine J (dq (j:=k)) ?_|refine J (bJ av) ?_);intro a I;refine b6 I fK λa bN bB br dw I=>?_;revert a;refine ad λa I=>?_;refine cE I (cs:=x.cells.toArray) bB (jN x) λa bQ cI cM fm I=>?_;have bP:=aK (aK (atL _ wr) br (atI _)) cM bj;have aL:dd wr.heap.size x bQ:=cI;replace hb:=hb.trans (bP.mono hb.size);clear bB br dw cI cM fm bP av;revert a;(repeat first|refine ag ?_|refine J (bJ aL.all) ?_);intro a I;refine aQ I (aml bQ (bF.below hb) x hx) λa v bt ab I=>?_;obtain⟨⟨s,rfl⟩,b2⟩:=ab;replace aL:=aL.below b2;replace hb:=hb.trans (b2.mono hb.size);clear b2;cases aj:dW x with
   |false=>
    rw [YD aj]at I;rw [aj]at mS;revert a;refine ad λa I=>?_;refine aQ I (Ln bt 20 (k:Nat)) λa v cD ab I=>?_;obtain⟨rfl,mw⟩:=ab;subst mw;revert a;refine ad λa I=>?_;exact bc I rfl rfl ⟨.inr ⟨by rw [mS];rfl,_,_,rfl⟩,hb⟩
   |true=>
    rw [YE aj]at I;rw [aj,auN]at mS;obtain⟨a8,dz,_⟩:=nS aj;have ft:=tT dz;revert a;(repeat first|(intro a I;(refine Eu (dd wr.heap.size x) (.read 0 (.read 1 (.read 4 (.read 5 (.read 6 (.read 7 (.read 8 (.read 9 (.read 10 (.read 11 (.cJ 2 (.read 3 (.cJ 12 (.read 13 .done)))))))))))))) 7 mixed bh (aL.below (eU (atL _ _) 1)) ?_);revert a)|refine ag ?_);intro a I;have aI:Below bt.heap.size bt (bt.drewN 1):=eU (atL _ bt) 1;replace aL:=aL.below aI;replace hb:=hb.trans (aI.mono hb.size);generalize bt.drewN 1=fG at*;refine dU I rfl (λak ar=>km (hz _ _ _ _ rfl) (aw _ _ rfl)) rfl (λa I=>?_);refine dU I rfl (λak ar=>im atX (dd.op ar)) rfl (λa I=>?_);refine dU I rfl (λak ar=>bJ (dd.all ar)) rfl (λa I=>?_);refine dU I rfl (λak ar=>hv) rfl (λa I=>?_);refine dU I rfl (λak ar=>hv) rfl (λa I=>?_);refine dU I rfl (λak ar=>hv) rfl (λa I=>?_);refine dU I rfl (λak ar=>q6 underlying25) rfl (λa I=>?_);refine dU I rfl (λak ar=>hv) rfl (λa I=>?_);refine dU I rfl (λak ar=>te) rfl (λa I=>?_);refine dU I rfl (λak ar=>te) rfl (λa I=>?_);refine dV rfl ?_;refine aQ I (Y4 fG x.op ft) (k:=λa v fU ab I=>atJ ?_);obtain⟨rfl,aC⟩:=ab;replace aL:=aL.below aC;replace hb:=hb.trans (aC.mono hb.size);refine⟨rfl,aL,?_⟩;refine dU I rfl (λak ar=>B0 (v:=cu (jD (cX x.op).2.2)) bh) rfl (λa I=>?_);refine dV rfl ?_;have hle:((p.length:Nat):Int)- (k:Nat)- 1=((p.length - k - 1:Nat):Int):=bj
    rw [hle]at I;refine iZ I (ao7 fU x (cX x.op).2.2 size slots (p.length - k - 1) hx.b hx.n) ⟨rfl,rfl,rfl,rfl,trivial⟩ (k:=λa v fg ab I=>atJ ?_);obtain⟨rfl,a1⟩:=ab;replace aL:=aL.below a1;replace hb:=hb.trans (a1.mono hb.size);refine⟨rfl,aL,?_⟩;refine dU I rfl (λak ar=>k5) rfl (λa I=>?_);refine iw ?_;generalize gS.err x size slots (p.length - k - 1) (cX x.op).2.2=Ml at*;by_cases aJ:Ml=0
    · subst aJ;revert a;refine ad λa I=>?_;exact⟨p.length - (k+1),bj,k+1,bj,rfl,e.symm▸I.bb,by rw [mS];simp,hb⟩
    · have Cb:¬((Ml:Nat):Int)=0:=bj
      revert a;refine ad λa I=>?_;refine aQ I (Ln fg (Ml:Nat) (k:Nat)) λa v cD ab I=>?_;obtain⟨rfl,mw⟩:=ab;subst mw;revert a;refine ad λa I=>?_;exact bc I rfl rfl ⟨.inr ⟨by rw [mS];simp [aJ],_,_,rfl⟩,hb⟩
 · obtain rfl:k=p.length:=bj
   rw [auD]at mS;revert a;refine ad λa I=>?_;exact bc I rfl rfl ⟨.inl ⟨by rw [mS];rfl,rfl⟩,hb⟩
section
variable {P:Program} {ops:Array Oper} {Q:Exit->Act->World->Prop} {a:Act} {w:World} {rest:List Oper} {N:Nat} {l:List (Nat × Value)}
theorem ma(id:Nat){ops:Array Oper}{b:Bool}{c y:Code}(gQ:Act->World->Prop)(U:Lb ((Code.seq (Code.region id ops b) c).wp P (Exit.then (λaU w'=>gQ aU w') Q) a w))(ae:∀aU w',gQ aU w'->y.wp P Q aU w'):(Code.seq (Code.seq (Code.region id ops b) c) y).wp P Q a w:=Lw gQ U.out ae
theorem QG(h:Fr N l a){d:Nat}{t ty:TypeId}{pos:String}{bx:Array Edge}{z:Value}{bytes c base sz:Nat}{q:Int}{AU ky:IntKind}(b0:P.underlying t=some (.slice e))(ai:(P.info? e).map (λi=>(i.zero,i.size,i.bytes))=some (some z,sz,bytes))(lM:bytes*c<=281474976710656)(hm:c<=maxLen)(mm:base<=w.heap.size)(aZ:q=(c:Int))(hx:a7 l x (.int AU q):=by exact rfl)(aO:a7 l y (.int ky q):=by exact rfl)(aI:Nat.blt d N=true:=by exact rfl)(k:∀aU w',w'.ownsRow base e sz (.slice (some ⟨w.heap.size,0,none⟩) c c) c (madeCells z.cells (c*sz)).toList->w.grownBy w' none->Fr N ((d,.slice (some ⟨w.heap.size,0,none⟩) c c)::l) aU->wpList P ops Q rest aU w'):
  wpList P ops Q (⟨some d,.makeSlice t x y,ty,pos,bx,none⟩::rest) a w:=by
 obtain⟨i,g1,g2,g3,g4⟩:=avH ai;subst aZ;obtain⟨w',aj,U,ae⟩:=run_make_full (P:=P) w base t e i z sz b0 g1 g2 g3 AU ky c (by rw [g4];exact lM) hm mm;refine st h (v:=.slice (some ⟨w.heap.size,0,none⟩) c c) (w':=w') ?_ aI λaU I=>k aU w' U ae I;unfold bL;intro cC aY d pos bx g;simp [execOp,aY _ _ hx,aY _ _ aO,aj]
end
theorem vB{base n s g:Nat}{xs:List Value}(h:w.ownsRow base e s (.slice (some ⟨g,0,none⟩) n n) n xs):w.heap[g]? =some (.cells xs.toArray e (0,0)):=by
 rcases h.2 with ⟨aJ,_⟩|⟨jx,cap,cur,aJ,_,az,_,_,av,bW⟩
 · cases aJ
 · injection aJ with U ae aM
   cases U;subst aM
   have:cur.toList.take (n*s)=cur.toList:=awI (by simp [av]);rw [this]at bW;rw [az,<-bW]
theorem akM(n:Nat):(madeCells #[Value.bool false,.int .u16 0] (n*2)).toList=(List.replicate n (none:Option Nat)).flatMap ud:=by
 refine axF λj=>?_;by_cases ah:j<n*2
 · have ai:j/2<(List.replicate n (none:Option Nat)).length:=bm
   have U:=flat_get G7 (List.replicate n (none:Option Nat)) (j/2) ai (j%2) (avI _ bk);rw [show j/2*2+j%2=j by omega]at U;rw [U];simp only [madeCells,ay3];rcases Nat.mod_two_eq_zero_or_one j with h|h<;>simp [ah,h,ud]
 · rw [avf (by simp [madeCells];omega),avf (by have:=KJ (List.replicate n (none:Option Nat));simp at this ⊢;omega)]
theorem jB{x:Ins}(h:dW x=true)(ba:(cX x.op).2.1=true\/∃y,y∈(cX x.op).1.ec x):x.a<16:=by
 obtain⟨a8,dz,d'⟩:=nS h;have key:∃t,a8=fX::t:=by
  revert ba
  unfold ir at dz;split at dz<;>first|(cases dz;exact λ_=>⟨_,rfl⟩)|(cases dz;rename_i e;rw [e];simp [cX,eu.ec];done)|cases dz
 obtain⟨t,rfl⟩:=key;simp [hc,okF,fX,Ins.get]at d';omega
theorem za{x:Ins}(h:dW x=true):∀y∈(cX x.op).1.ec x,y<16:=by
 intro y aO;have ha:=jB h (.inr ⟨y,aO⟩);obtain⟨a8,dz,d'⟩:=nS h;have hb:y=x.a\/(y=x.b/\a8=[fX,tY]):=by
   unfold ir at dz;split at dz<;>first|(cases dz;rename_i e;rw [e]at aO;simp [cX,eu.ec]at aO;rcases aO with rfl|rfl<;>simp;done)|(cases dz;rename_i e;rw [e]at aO;simp [cX,eu.ec]at aO;subst aO;simp;done)|(cases dz;rename_i e;rw [e]at aO;simp [cX,eu.ec]at aO;done)|cases dz
 rcases hb with rfl|⟨rfl,rfl⟩
 · exact ha
 · simp [hc,okF,fX,tY,Ins.get]at d';omega
def jE(x:Ins)(u:Nat):Nat:=if (cX x.op).2.1=true then u ||| iY [x.a]else u
def qo(x:Ins)(k:Nat)(cl:List (Option Nat))(u:Nat):List (Option Nat):=if x.op=0\/x.op=18 then cl else nn cl (k+1) u
def xm(x:Ins)(k:Nat)(cl:List (Option Nat))(u:Nat):List (Option Nat):=if x.op=18\/x.op=19 then nn cl (k+1+x.n) u else cl
def uf(x:Ins)(k:Nat)(cl:List (Option Nat)):Option (List (Option Nat)):=
 match cl[k]?.getD none with
 |none=>some cl
 |some u=>if mI (iY ((cX x.op).1.ec x)) u=0 then some (xm x k (qo x k cl (jE x u)) (jE x u))else none
def oE:Nat->List (Option Nat)->List Ins->Bool
 |_,_,[]=>true
 |k,cl,x::p=>match uf x k cl with
  |none=>false
  |some s=>oE (k+1) s p
def Bo(n:Nat):List (Option Nat):=nn (List.replicate (n+1) none) 0 0
def Be(p:List Ins):Bool:=oE 0 (Bo p.length) p
def Ek(cl:List (Option Nat)):Prop:=∀u,some u∈cl->u<65536
theorem zL(cl:List (Option Nat))(i s:Nat):(nn cl i s).length=cl.length:=by unfold nn;simp
theorem HS{i s:Nat}(h:Ek cl)(aG:s<65536):Ek (nn cl i s):=by
 intro u hu;rcases awn hu with U|U
 · exact h u U
 · injection U with U
   subst U;cases he:cl[i]?.getD none with
   |none=>exact aG
   |some v=>exact avB Nat.and_le_right aG
theorem rM{size:Nat}:∀{p:List Ins},e5 size slots p=true->∀(i:Nat) (h:i<p.length),dW p[i]=true/\gS.err p[i] size slots (p.length - i - 1) (cX p[i].op).2.2=0
 |x::p,h,0,_=>by
  simp only [e5,atP,atQ]at h;exact⟨h.1.1,by simpa using h.1.2⟩
 |x::p,h,i+1,ai=>by
  simp only [e5,atP,atQ]at h;have:=rM h.2 i (by simpa using ai);simpa [Nat.sub_sub,axi,Nat.add_left_comm]using this
theorem QT{size:Nat}{p:List Ins}(h:e5 size slots p=true){i:Nat}(ai:i<p.length)(ft:p[i].op=18\/p[i].op=19):i+1+p[i].n<=p.length:=by
 have U:=(rM h i ai).2;rcases ft with e|e<;>rw [e]at U<;>simp only [cX,gS.err]at U<;>split at U<;>omega
theorem nh.kept(h:nh w L cl)(hb:Below w.heap.size w w'):nh w' L cl:=(hb.block _ (bO h)).trans h
theorem amP{k:Nat}{p:List Ins}(h:k<p.length):oE k cl (p.drop k)=match uf p[k] k cl with|none=>false|some s=>oE (k+1) s (p.drop (k+1)):=by
 rw [aua h,oE]<;>(cases uf p[k] k cl<;>rfl)
theorem Y3{B:Nat}{r:eu × Bool × gS}(h:w.heap[B]? =some (.cells (fN r).toArray 157 (0,0))):w.cell? ⟨B,0+0,none⟩=some (cu (jC r.1))/\w.cell? ⟨B,0+1,none⟩=some (.bool r.2.1):=⟨aF h rfl,aF h rfl⟩
theorem amR(w:World)(p:List Ins)(aW:∀x∈p,fc x){cp:Nat}(cj:dA w ap 5 Ins.cells p)(hlen:p.length<=16384){size:Nat}(cT:e5 size slots p=true):bd prog 26 [.slice ap p.length cp].toArray w (λv w'=>
   ((Be p=true/\v=.nilIface)\/(Be p=false/\∃t u,v=.iface t u))/\Below w.heap.size w w'):=by
 refine cF func26 rfl 84 rfl 85 rfl (λa I=>?_);revert a;refine ad λa I=>?_;have jL:((p.length:Nat):Int)+1=((p.length+1:Nat):Int):=bj
 rw [jL]at I;refine QG I (aA _ _ rfl) ai0 (c:=p.length+1) bj bn (atI _) rfl (k:=λa aq aX an I=>?_);have bY:nh aq w.heap.size (List.replicate (p.length+1) none):=by
   have:=vB aX;unfold nh;rw [this]
   congr 2
   exact atW List.toArray (akM (p.length+1))
 have hb:=aK (atL _ w) an (atI _);clear aX an;revert a;(repeat first|refine ag ?_|refine J (dq (j:=0)) ?_);intro a I;refine aQ I (HU aq (i:=0) (s:=0) _ bY bl bk (λu hu=>by simp at hu)) λa v ax ab I=>?_;obtain⟨sC,aS⟩:=ab;replace hb:=aK hb aS hb.size;replace sC:nh ax w.heap.size (Bo p.length):=sC;clear bY aS;have FD:(Bo p.length).length=p.length+1:=by unfold Bo;rw [zL];simp
 have lJ:Ek (Bo p.length):=HS (λu hu=>by simp at hu) bk;revert a;refine ad λa I=>?_;refine eg (λq a wr=>∃k cl,k<=p.length/\q=p.length - k/\Fr 85 [(3,.slice (some ⟨w.heap.size,0,none⟩) (p.length+1) (p.length+1)),(15,.slice ap p.length cp),(16,.int .i64 (p.length:Nat)),(17,.int .i64 (k:Nat))] a/\nh wr w.heap.size cl/\cl.length=p.length+1/\Ek cl/\Be p=oE k cl (p.drop k)/\Below w.heap.size w wr) p.length
   ⟨0,Bo p.length,auc _,rfl,I.bb,sC,FD,lJ,rfl,hb⟩ ?_
 clear I a sC FD lJ hb jL;rintro q a wr ⟨k,cl,au,rfl,I,bY,eC,CT,dv,hb⟩;by_cases bu:k<p.length
 · rw [amP bu]at dv;obtain⟨g,o,e,av⟩:=(cj.below hb) k bu;have hx:=aW _ (at6 bu);have aj:=(rM cT k bu).1;have eA:=QT cT bu;generalize p[k]=x at av hx dv aj eA;replace av:∀j v,x.cells.toArray[j]? =some v->wr.cell? ⟨g,o+k*5+j,none⟩=some v:=λj v ah=>av j v (by simpa using ah);rw [e]at I;revert a;(repeat first|refine ag ?_|refine J (dq (j:=k)) ?_|refine J (bJ av) ?_);intro a I;refine b6 I fK λa bN bB br dw I=>?_;revert a;refine ad λa I=>?_;refine cE I (cs:=x.cells.toArray) bB (jN x) λa bQ cI cM fm I=>?_;have bP:=aK (aK (atL _ wr) br (atI _)) cM bj;have aL:dd wr.heap.size x bQ:=cI;replace bY:=bY.kept bP;replace hb:=hb.trans (bP.mono hb.size);clear bB br dw cI cM fm bP av;have CJ:k<cl.length:=bj
   have c0:=ZS bY CJ;have u4:cl[k]?.getD none=cl[k]:=by rw [atT CJ];rfl
   cases he:cl[k]with
   |none=>
    rw [he]at c0 u4;revert a;(repeat first|refine ag ?_|refine J (dq (j:=k)) ?_|refine J (af c0) ?_);intro a I;exact⟨p.length - (k+1),bj,k+1,cl,bj,rfl,e.symm▸I.bb,bY,eC,CT,by rw [dv];simp [uf,u4],hb⟩
   |some gb=>
    rw [he]at c0 u4;have Gd:=CT gb (by rw [<-he];exact at6 CJ);obtain⟨a8,dz,_⟩:=nS aj;have ft:=tT dz;have VW:=za aj;have V6:=Qx _ VW;revert a;(repeat first|refine ag ?_|refine J (dq (j:=k)) ?_|refine J (af c0) ?_|refine J (af aL.op) ?_);intro a I;refine aQ I (Y4 bQ x.op ft) λa v bt ab I=>?_;obtain⟨rfl,b2⟩:=ab;replace aL:=aL.below b2;replace bY:=bY.kept b2;replace hb:=hb.trans (b2.mono hb.size);refine b6 I lV λa cD en bE hl I=>?_;refine cE I (cs:=(fN (cX x.op)).toArray) en (lZ _) λa dt dm cG hn I=>?_;have dT:=aK (aK (atL _ bt) bE (atI _)) cG bj;replace aL:=aL.below dT;replace bY:=bY.kept dT;replace hb:=hb.trans (dT.mono hb.size);obtain⟨xE,hp⟩:=Y3 dm;have bM:=QI bY CJ;rw [he]at bM;clear b2 en bE hl cG hn dT c0;revert a;(repeat first|refine ag ?_|refine J (dq (j:=k)) ?_|refine J (im underlying154 xE) ?_|refine J (bJ aL.all) ?_|refine J (af bM) ?_);intro a I;refine iZ I (am6 dt x (cX x.op).1 VW) ⟨rfl,trivial⟩ (k:=λa v gw ab I=>?_);obtain⟨rfl,gN⟩:=ab;replace dm:=(gN.block _ (bO dm)).trans dm;replace aL:=aL.below gN;replace bY:=bY.kept gN;replace hb:=hb.trans (gN.mono hb.size);obtain⟨_,hp⟩:=Y3 dm;clear gN xE bM;by_cases bA:mI (iY ((cX x.op).1.ec x)) gb=0
    case neg=>
      have Wy:¬((mI (iY ((cX x.op).1.ec x)) gb:Nat):Int)=0:=bj
      revert a;(repeat first|refine ag ?_|refine J (fi (a:=iY ((cX x.op).1.ec x)) (b:=gb) rfl rfl rfl rfl rfl (by show _<65536;exact V6) (by show _<65536;exact Gd)) ?_);intro a I;refine aQ I (Ln gw 21 (k:Nat)) λa v nT ab I=>?_;obtain⟨rfl,mw⟩:=ab;subst mw;revert a;refine ad λa I=>?_;exact bc I rfl rfl ⟨.inr ⟨by rw [dv];simp [uf,u4,bA],_,_,rfl⟩,hb⟩
    have Wy:((mI (iY ((cX x.op).1.ec x)) gb:Nat):Int)=0:=bj
    replace dv:Be p=oE (k+1) (xm x k (qo x k cl (jE x gb)) (jE x gb)) (p.drop (k+1)):=by rw [dv];simp [uf,u4,bA]
    revert a;(repeat first|(intro a I;(refine ma 11 (λa u=>Fr 85 [(3,.slice (some ⟨w.heap.size,0,none⟩) (p.length+1) (p.length+1)),(15,.slice (some ⟨g,o,none⟩) p.length cp),(16,.int .i64 (p.length:Nat)),(17,.int .i64 (k:Nat)),(4,.int .i64 (k:Nat)),(5,.pointer (some ⟨wr.heap.size,0,none⟩)),(7,.int .u16 (jE x gb:Nat))] a/\dd wr.heap.size x u/\nh u w.heap.size cl/\Below w.heap.size w u/\jE x gb<65536) ?_ ?_);revert a)|refine ag ?_|refine J (fi (a:=iY ((cX x.op).1.ec x)) (b:=gb) rfl rfl rfl rfl rfl (by show _<65536;exact V6) (by show _<65536;exact Gd)) ?_);intro a I
    · refine⟨?_⟩;cases hw:(cX x.op).2.1 with
      |false=>
        rw [hw]at hp;have hu:jE x gb=gb:=by unfold jE;rw [hw];rfl
        revert a;(repeat first|refine ag ?_|refine J (af hp) ?_);intro a I;rw [hu];exact⟨I.bb,aL,bY,hb,Gd⟩
      |true=>
        rw [hw]at hp;have hu:jE x gb=gb ||| iY [x.a]:=by unfold jE;rw [hw];rfl
        have re:=jB aj (.inl hw);have lS:=Qx [x.a] (by simpa using re);have cV:gw.cell? ⟨wr.heap.size,0+1,none⟩=some (.int .i64 (x.a:Nat)):=aF aL rfl;revert a;(repeat first|refine ag ?_|refine J (af hp) ?_|refine J (af cV) ?_);intro a I;have gO:=e7 gw (.cells #[.int .i64 (x.a:Nat)] 3);refine st I (q5 (aA _ _ rfl) sF rfl) rfl (λa I=>?_);refine aQ I (K0 _ [x.a] (by simpa using re) Qc bl) λa v k0 ab I=>?_;obtain⟨rfl,rfl⟩:=ab;revert a;(repeat first|refine ag ?_|refine J (fi (a:=gb) (b:=iY [x.a]) rfl rfl rfl rfl rfl (by show _<65536;exact Gd) (by show _<65536;exact lS)) ?_);intro a I;rw [hu];exact⟨I.bb,aL.below gO,bY.kept gO,hb.trans (gO.mono hb.size),Yj Gd lS⟩
    clear I aL bY hb dm hp bA Wy;rintro a nT ⟨I,aL,bY,hb,hu⟩;generalize jE x gb=fG at*;revert a;(repeat (intro a I;(refine ma 13 (λa u=>Fr 85 [(3,.slice (some ⟨w.heap.size,0,none⟩) (p.length+1) (p.length+1)),(15,.slice (some ⟨g,o,none⟩) p.length cp),(16,.int .i64 (p.length:Nat)),(17,.int .i64 (k:Nat)),(4,.int .i64 (k:Nat)),(5,.pointer (some ⟨wr.heap.size,0,none⟩)),(7,.int .u16 (fG:Nat))] a/\dd wr.heap.size x u/\nh u w.heap.size (qo x k cl fG)/\Below w.heap.size w u) ?_ ?_);revert a));intro a I
    · refine⟨?_⟩;by_cases aJ:x.op=0
      · have Cb:(x.op:Int)=0:=bj
        revert a;(repeat first|refine ag ?_|refine J (af aL.op) ?_);intro a I;exact⟨I.bb,aL,by unfold qo;rw [atM (.inl aJ)];exact bY,hb⟩
      · by_cases dD:x.op=18
        · have Cb:(x.op:Int)=18:=bj
          revert a;(repeat first|refine ag ?_|refine J (af aL.op) ?_);intro a I;exact⟨I.bb,aL,by unfold qo;rw [atM (.inr dD)];exact bY,hb⟩
        · have Cb:¬(x.op:Int)=0:=bj
          have TP:¬(x.op:Int)=18:=bj
          revert a;(repeat first|refine ag ?_|refine J (dq (j:=k+1)) ?_|refine J (af aL.op) ?_);intro a I;refine aQ I (HU nT (i:=k+1) (s:=fG) _ bY bj hu CT) λa v k0 ab I=>?_;obtain⟨sC,aS⟩:=ab;revert a;refine ad λa I=>?_;exact⟨I.bb,aD aL aS (by have:=c1 aL bY bk;simpa using this),by unfold qo;rw [atK bj];exact sC,aK hb aS hb.size⟩
    clear I aL bY hb;rintro a k0 ⟨I,aL,bY,hb⟩;have pH:(qo x k cl fG).length=p.length+1:=by unfold qo;split<;>simp [zL,eC]
    have Fl:Ek (qo x k cl fG):=by unfold qo;split;exact CT;exact HS CT hu
    generalize qo x k cl fG=G6 at*;have db:k0.cell? ⟨wr.heap.size,0+3,none⟩=some (.int .i64 (x.n:Nat)):=aF aL rfl;by_cases U:x.op=18\/x.op=19
    · have ah:=eA U;have IX:((k:Nat):Int)+1+(x.n:Nat)=((k+1+x.n:Nat):Int):=bj
      have Fj:xm x k G6 fG=nn G6 (k+1+x.n) fG:=by unfold xm;rw [atM U]
      rw [Fj]at dv;by_cases dD:x.op=18
      · have Cb:(x.op:Int)=18:=bj
        revert a;(repeat first|refine ag ?_|refine J (dq (j:=k+1+x.n)) ?_|refine J (af aL.op) ?_|refine J (af db) ?_);intro a I;refine aQ I (HU k0 (i:=k+1+x.n) (s:=fG) _ bY bj hu Fl) λa v p6 ab I=>?_;obtain⟨sC,aS⟩:=ab;revert a;refine ad λa I=>?_;exact⟨p.length - (k+1),bj,k+1,_,bj,rfl,e.symm▸I.bb,sC,by rw [zL];exact pH,HS Fl hu,dv,aK hb aS hb.size⟩
      · have Cb:¬(x.op:Int)=18:=bj
        have MJ:(x.op:Int)=19:=bj
        revert a;(repeat first|refine ag ?_|refine J (dq (j:=k+1+x.n)) ?_|refine J (af aL.op) ?_|refine J (af db) ?_);intro a I;refine aQ I (HU k0 (i:=k+1+x.n) (s:=fG) _ bY bj hu Fl) λa v p6 ab I=>?_;obtain⟨sC,aS⟩:=ab;revert a;refine ad λa I=>?_;exact⟨p.length - (k+1),bj,k+1,_,bj,rfl,e.symm▸I.bb,sC,by rw [zL];exact pH,HS Fl hu,dv,aK hb aS hb.size⟩
    · have TP:¬(x.op:Int)=18:=bj
      have MJ:¬(x.op:Int)=19:=bj
      have Fj:xm x k G6 fG=G6:=by unfold xm;rw [atK U]
      rw [Fj]at dv;revert a;(repeat first|refine ag ?_|refine J (af aL.op) ?_);intro a I;exact⟨p.length - (k+1),bj,k+1,G6,bj,rfl,e.symm▸I.bb,bY,pH,Fl,dv,hb⟩
 · obtain rfl:k=p.length:=bj
   rw [auD]at dv;revert a;refine ad λa I=>?_;exact bc I rfl rfl ⟨.inl ⟨by rw [dv];rfl,rfl⟩,hb⟩
def hG(size slots:Nat)(p:List Ins):Bool:=e5 size slots p&&Be p
theorem Bt(w:World)(bF:Env w)(p:List Ins)(aW:∀x∈p,fc x){cp:Nat}(cj:dA w ap 5 Ins.cells p)(hlen:p.length<=16384)(size slots:Nat)(bT:size<=8)(eC:slots<=64):bd prog 10 [.slice ap p.length cp,.int .i64 (size:Nat),.int .i64 (slots:Nat)].toArray w (λv w'=>
   ((hG size slots p=true/\v=.nilIface)\/(hG size slots p=false/\∃t u,v=.iface t u))/\Below w.heap.size w w'):=by
 refine mf func10 rfl 35 rfl 38 rfl (λa I=>?_);revert a;refine ad λa I=>?_;refine aQ I (apf w bF p aW cj hlen size slots) λa v aq ab I=>?_;obtain⟨⟨cT,rfl⟩|⟨cT,t,u,rfl⟩,hb⟩:=ab
 · revert a;refine ad λa I=>?_;refine aQ I (amR aq p aW (cj.below hb) hlen cT) λa v ax ab I=>?_;obtain⟨h,aC⟩:=ab;revert a;refine ad λa I=>?_;refine bc I rfl rfl ⟨?_,hb.trans (aC.mono hb.size)⟩;unfold hG;rw [cT,auN];exact h
 · revert a;refine ad λa I=>?_;exact bc I rfl rfl ⟨.inr ⟨by unfold hG;rw [cT];rfl,_,_,rfl⟩,hb⟩
def qG:List Nat->Nat->Nat->Nat
 | [],_,v=>v
 |b::aa,i,v=>qG aa (i+1) (v ||| b*2^(8*i))
def vv:List Nat->Nat->Nat
 | [],v=>v
 |b::aa,v=>vv aa (v*2^8 ||| b)
def mU(fP:Bool)(aa:List Nat):Nat:=if fP then vv aa 0 else qG aa 0 0
def xv(v n:Nat):Nat:=if 64<n then v else v &&& (2^n - 1)
theorem YC(k:Nat)(h:k<8):2^(8*k)*256<=2^64:=by
 have:2^(8*k)*256=2^(8*k+8):=by rw [avZ]
 rw [this];exact aum bk bj
theorem Xz(w:World)(aa:List Nat)(gj:∀c∈aa,c<256){al:Option Addr}(h:ee w al ek aa)(ba:aa.length<=8)(fP:Bool):bd prog 27 [.slice al aa.length de,.bool fP].toArray w (λv w'=>v=.int .u64 (mU fP aa:Nat)/\mU fP aa<2^64/\w'=w):=by
 refine dP func27 rfl 28 rfl 30 rfl (λa I=>?_);cases fP with
 |false=>
  revert a;refine ad λa I=>?_;refine eg (λq a wr=>wr=w/\∃k u,k<=aa.length/\q=aa.length - k/\Fr 30 [(1,.bool false),(5,.int .u64 (u:Nat)),(8,.slice al aa.length de),(9,.int .i64 (aa.length:Nat)),(10,.int .i64 (k:Nat))] a/\u<2^(8*k)/\qG aa 0 0=qG (aa.drop k) k u) aa.length
    ⟨rfl,0,0,auc _,rfl,I.bb,bk,rfl⟩ ?_
  clear I a;rintro q a _ ⟨rfl,k,u,au,rfl,I,hu,iE⟩;by_cases bu:k<aa.length
  · obtain⟨b,o,e,av⟩:=h k bu;have hx:=gj _ (at6 bu);rw [aua bu,qG]at iE;generalize aa[k]=x at av hx iE;have aW:=YC k bj;have hm:x*2^(8*k) <2^(8*(k+1)):=by
     rw [show 8*(k+1)=8*k+8 by omega,avZ];have:=avL (8*k);rw [avq];exact aye hx this
    have Vk:2^(8*(k+1))<=2^64:=aum bk bj;have CY:u<2^(8*(k+1)):=auj hu (aum bk bj);have ko:(8:Int)*(k:Nat)=((8*k:Nat):Int):=bj
    rw [e]at I;revert a;(repeat first|refine ag ?_|refine J (e8 (aA _ _ rfl) (aA _ _ rfl) rfl (Hl hx)) ?_|refine J (n9 (n:=(k:Nat)) rfl rfl bj) ?_|refine J (wv (a:=x) (b:=8*k) rfl rfl rfl bj rfl (by show 8*k<=64;omega) (by show x*2^(8*k) <2^64;omega)) ?_|refine J (fi (a:=u) (b:=x*2^(8*k)) rfl rfl rfl rfl rfl (by show _<2^64;omega) (by show _<2^64;omega)) ?_|refine J (af av) ?_);intro a I;exact⟨aa.length - (k+1),bj,rfl,k+1,_,bj,rfl,e.symm▸I.bb,avn CY hm,iE⟩
  · obtain rfl:k=aa.length:=bj
    rw [auD]at iE;replace iE:qG aa 0 0=u:=iE;have:u<2^64:=auj hu (aum bk bj);revert a;refine ad λa I=>?_;exact bc I rfl rfl ⟨by show Value.int _ _=.int _ ((qG aa 0 0:Nat):Int);rw [iE],by show qG aa 0 0<_;rw [iE];exact this,rfl⟩
 |true=>
  revert a;refine ad λa I=>?_;refine eg (λq a wr=>wr=w/\∃k u,k<=aa.length/\q=aa.length - k/\Fr 30 [(1,.bool true),(5,.int .u64 (u:Nat)),(8,.slice al aa.length de),(9,.int .i64 (aa.length:Nat)),(10,.int .i64 (k:Nat))] a/\u<2^(8*k)/\vv aa 0=vv (aa.drop k) u) aa.length
    ⟨rfl,0,0,auc _,rfl,I.bb,bk,rfl⟩ ?_
  clear I a;rintro q a _ ⟨rfl,k,u,au,rfl,I,hu,iE⟩;by_cases bu:k<aa.length
  · obtain⟨b,o,e,av⟩:=h k bu;have hx:=gj _ (at6 bu);rw [aua bu,vv]at iE;generalize aa[k]=x at av hx iE;have hm:u*2^8<2^(8*(k+1)):=by
     rw [show 8*(k+1)=8*k+8 by omega,avZ];exact avM hu bk
    have Vk:2^(8*(k+1))<=2^64:=aum bk bj;have yI:=auj hx (by have:=aum (n:=2) bk (show 8<=8*(k+1) by omega);omega);rw [e]at I;revert a;(repeat first|refine ag ?_|refine J (e8 (aA _ _ rfl) (aA _ _ rfl) rfl (Hl hx)) ?_|refine J (wv (a:=u) (b:=8) rfl rfl rfl rfl rfl (by show 8<=64;omega) (by show u*2^8<2^64;omega)) ?_|refine J (fi (a:=u*2^8) (b:=x) rfl rfl rfl rfl rfl (by show _<2^64;omega) (by show _<2^64;omega)) ?_|refine J (af av) ?_);intro a I;exact⟨aa.length - (k+1),bj,rfl,k+1,_,bj,rfl,e.symm▸I.bb,avn hm yI,iE⟩
  · obtain rfl:k=aa.length:=bj
    rw [auD]at iE;replace iE:vv aa 0=u:=iE;have:u<2^64:=auj hu (aum bk bj);revert a;refine ad λa I=>?_;exact bc I rfl rfl ⟨by show Value.int _ _=.int _ ((vv aa 0:Nat):Int);rw [iE],by show vv aa 0<_;rw [iE];exact this,rfl⟩
theorem akO(k:Nat):(2^k - 1)*2^1 ||| 1=2^(k+1)- 1:=by
 have h:=avL k;have e:(2^k - 1)*2^1 ||| 1=(2^k - 1)*2^1+1:=by
  rw [avq];exact(ax' (i:=1) (b:=1) bk (2^k - 1)).symm
 rw [e,ayu];omega
theorem akx(w:World)(v n:Nat)(ao:v<2^64)(ba:n<2^62):bd prog 63 [.int .u64 (v:Nat),.int .i64 (n:Nat)].toArray w (λu w'=>u=.int .u64 (xv v n:Nat)/\w'=w):=by
 refine dP func63 rfl 17 rfl 19 rfl (λa I=>?_);by_cases qp:64<n
 · revert a;refine ad λa I=>?_;exact bc I rfl rfl ⟨by unfold xv;rw [atM qp],rfl⟩
 · revert a;refine ad λa I=>?_;refine eg (λq a wr=>wr=w/\∃k,k<=n/\q=n - k/\Fr 19 [(0,.int .u64 (v:Nat)),(5,.int .u64 ((2^k - 1:Nat):Int)),(9,.int .i64 (n:Nat)),(10,.int .i64 (k:Nat))] a) n
     ⟨rfl,0,auc _,rfl,I.bb⟩ ?_
   clear I a;rintro q a _ ⟨rfl,k,au,rfl,I⟩;by_cases bu:k<n
   · have ahs:=akO k;have aW:2^(k+1)<=2^64:=aum bk bj;have FV:=avL k;have w7:2^(k+1)=2^k*2:=ayu ..;revert a;(repeat first|refine ag ?_|refine J (wv (a:=2^k - 1) (b:=1) rfl rfl rfl rfl rfl bk (by show(2^k - 1)*2^1<2^64;omega)) ?_|refine J (fi (a:=(2^k - 1)*2^1) (b:=1) rfl rfl rfl rfl rfl (by show(2^k - 1)*2^1<2^64;omega) bk) ?_);intro a I;exact⟨n - (k+1),bj,rfl,k+1,bj,rfl,ahs▸I.bb⟩
   · obtain rfl:k=n:=bj
     have aW:2^k<=2^64:=aum bk bj;have FV:=avL k;revert a;(repeat first|refine ag ?_|refine J (fi (a:=v) (b:=2^k - 1) rfl rfl rfl rfl rfl (by show _<2^64;exact ao) (by show _<2^64;omega)) ?_);intro a I;exact bc I rfl rfl ⟨by unfold xv;rw [atK qp],rfl⟩
section
variable {P:Program} {w:World} {l:List (Nat × Value)}
theorem anS{k:IntKind}{a b:Nat}(aG:k.signed=false)(ha:a<2^k.bits)(hb:b<2^k.bits):(Op.intBits .xor k (a:Int) (b:Int)).run P w=.ok (.int k ((a ^^^ b:Nat):Int)) w:=by
 have yq:=auU ha;have gU:=auU hb;simp only [Op.intBits,aw2,BitVec.toNat_xor,ayr,yq,gU];rw [vS aG (awL ha hb)];rfl
theorem EB{k:IntKind}{a b:Nat}{p q:Int}{t t' ty:TypeId}(hx:a7 l x (.int k p):=by exact rfl)(aO:a7 l y (.int k q):=by exact rfl)(aG:k.signed=false:=by exact rfl)(aW:p=(a:Int):=by exact rfl)(aZ:q=(b:Int):=by exact rfl)(ha:a<2^k.bits)(hb:b<2^k.bits):
  bL P l w (.binOp .xor t x y t') ty (.int k ((a ^^^ b:Nat):Int)) w:=by
 unfold bL;intro cC aY d pos bx g;subst aW;subst aZ;have e:(eqGuard .xor t x y (.int k a) (.int k b)).run P w=.ok () w:=rfl;have bf:(binOp .xor t (.int k a) (.int k b)).run P w=.ok (.int k ((a ^^^ b:Nat):Int)) w:=by
  have:=anS (P:=P) (w:=w) aG ha hb;simpa [binOp]using this
 simp only [execOp,aY _ _ hx,aY _ _ aO,auu,e,aun,bf];rfl
end
def mL(v n:Nat)(s:Bool):Nat:=if s=false\/n<1\/64<=n then xv v n else((xv v n ^^^ 2^(n - 1))+(2^64- 2^(n - 1)))%2^64
def r'(v n:Nat)(s:Bool):Bool:=decide (1<=n)&&decide (n<=64)&&decide (mL v n s=v)
theorem XC(h:v<2^64)(n:Nat):xv v n<2^64:=by
 unfold xv;split
 · exact h
 · exact avB Nat.and_le_left h
theorem Th(h:v<2^64)(n:Nat)(s:Bool):mL v n s<2^64:=by
 unfold mL;split
 · exact XC h n
 · exact avI _ bk
theorem aqc{a b:Nat}(hb:b<=2^64):IntKind.u64.wrap ((a:Int)- (b:Int))=(((a+(2^64- b))%2^64:Nat):Int):=by
 have e:IntKind.u64.wrap ((a:Int)- (b:Int))=((a:Int)- (b:Int))%18446744073709551616:=rfl;rw [e];have ae:(2:Nat)^64=18446744073709551616:=bk
 rw [ae]at hb ⊢;omega
theorem Mo(w:World)(v n:Nat)(s:Bool)(ao:v<2^64)(ba:n<2^62):bd prog 29 [.int .u64 (v:Nat),.int .i64 (n:Nat),.bool s].toArray w (λu w'=>u=.int .u64 (mL v n s:Nat)/\w'=w):=by
 have CL:=XC ao n;refine mf func29 rfl 28 rfl 31 rfl (λa I=>?_);revert a;refine ad λa I=>?_;refine aQ I (akx w v n ao ba) λa u aq ab I=>?_;obtain⟨rfl,rfl⟩:=ab;cases s with
 |false=>
  revert a;refine ad λa I=>?_;exact bc I rfl rfl ⟨by unfold mL;rw [atM (.inl rfl)],rfl⟩
 |true=>
  by_cases U:n<1
  · revert a;refine ad λa I=>?_;exact bc I rfl rfl ⟨by unfold mL;rw [atM (.inr (.inl U))],rfl⟩
  · by_cases qp:64<=n
    · revert a;refine ad λa I=>?_;exact bc I rfl rfl ⟨by unfold mL;rw [atM (.inr (.inr qp))],rfl⟩
    · have aW:2^(n - 1) <2^64:=aw1 bk bj;have jL:((n:Nat):Int)- 1=((n - 1:Nat):Int):=bj
      have hx:=awL CL aW;have Gf:=aqc (a:=xv v n ^^^ 2^(n - 1)) (b:=2^(n - 1)) bj;revert a;(repeat first|refine ag ?_|refine J (H6 (b:=n - 1) rfl rfl rfl jL (by show n - 1<64;omega)) ?_|refine J (EB (a:=xv v n) (b:=2^(n - 1)) rfl rfl rfl rfl rfl CL aW) ?_|refine J (uE SN (atW (Value.int .u64) Gf)) ?_);intro a I;exact bc I rfl rfl ⟨by unfold mL;rw [atK bm],rfl⟩
theorem Tp(w:World)(v n:Nat)(s:Bool)(ao:v<2^64)(ba:n<2^62):bd prog 30 [.int .u64 (v:Nat),.int .i64 (n:Nat),.bool s].toArray w (λu w'=>u=.bool (r' v n s)/\w'=w):=by
 refine mf func30 rfl 18 rfl 21 rfl (λa I=>?_);by_cases U:1<=n
 · by_cases qp:n<=64
   · revert a;refine ad λa I=>?_;refine ig I (Mo w v n s ao ba) Sc ⟨rfl,rfl,rfl,trivial⟩ (k:=λa u aq ab I=>?_);obtain⟨rfl,rfl⟩:=ab;by_cases he:mL v n s=v
     · have Nw:((mL v n s:Nat):Int)=(v:Nat):=bj
       revert a;refine ad λa I=>?_;exact bc I rfl rfl ⟨by unfold r';simp [U,qp,he],rfl⟩
     · have Nw:¬((mL v n s:Nat):Int)=(v:Nat):=bj
       revert a;refine ad λa I=>?_;exact bc I rfl rfl ⟨by unfold r';simp [he],rfl⟩
   · revert a;refine ad λa I=>?_;exact bc I rfl rfl ⟨by unfold r';simp [qp],rfl⟩
 · revert a;refine ad λa I=>?_;exact bc I rfl rfl ⟨by unfold r';simp [U],rfl⟩
theorem afd(w:World)(g:Nat):w.grownBy w (some g):=⟨rfl,rfl,rfl,atI _,λ_ _ _=>rfl⟩
def lz(w:World)(g:Nat)(rest:List Value)(aa:List Nat):Prop:=w.heap[g]? =some (.cells (aa.map ek++rest).toArray 5 (0,0))
theorem lz.cell{g:Nat}{rest:List Value}{aa:List Nat}(h:lz w g rest aa){i:Nat}(ai:i<aa.length):w.cell? ⟨g,i,none⟩=some (ek aa[i]):=aF h (by simp [auK,ai])
theorem lz.below{g:Nat}{rest:List Value}{aa:List Nat}(h:lz w g rest aa)(hb:Below w.heap.size w w'):lz w' g rest aa:=(hb.block _ (bO h)).trans h
def DO(old v mask k:Nat):Nat:=mI old (mask/2^k%256) ||| (v/2^k%256 &&& mask/2^k%256)
def ue(fP:Bool)(n i:Nat):Nat:=if fP then 8*(n - 1- i)else 8*i
def hW(aa:List Nat)(o n:Nat)(fP:Bool)(v mask k:Nat):List Nat:=aa.mapIdx λj b=>if o<=j/\j<o+k then DO b v mask (ue fP n (j - o))else b
theorem zi(aa:List Nat)(o n:Nat)(fP:Bool)(v mask k:Nat):(hW aa o n fP v mask k).length=aa.length:=by simp [hW]
theorem aoD(aa:List Nat)(o n:Nat)(fP:Bool)(v mask:Nat):hW aa o n fP v mask 0=aa:=by
 refine axF λj=>?_;simp only [hW,awo];rw [show(λb=>if o<=j/\j<o+0 then DO b v mask (ue fP n (j - o))else b)=id by funext b;rw [atK bj];rfl];simp
theorem aoA{aa:List Nat}{o n:Nat}{k:Nat}(h:o+k<aa.length):(hW aa o n fP v mask k)[o+k]'(by rw [zi];exact h)=aa[o+k]:=by
 simp [hW]
theorem aoC{aa:List Nat}{o n:Nat}{k:Nat}(h:o+k<aa.length):(hW aa o n fP v mask k).set (o+k) (DO aa[o+k] v mask (ue fP n k))=hW aa o n fP v mask (k+1):=by
 refine axF λj=>?_;rw [awr];by_cases ah:o+k=j
 · subst ah;rw [atM rfl,atM (by rw [zi];exact h)];simp only [hW,awo];rw [atT h];simp
 · rw [atK ah];simp only [hW,awo]
   congr 1
   funext b
   by_cases av:o<=j/\j<o+k
   · rw [atM av,atM bj]
   · rw [atK av,atK bj]
theorem aoy{old:Nat}(h:old<256)(v mask k:Nat):DO old v mask k<256:=by
 unfold DO;exact avn (n:=8) (BN (n:=8) h) (au6 (n:=8) _ (avI _ bk))
theorem aoz{aa:List Nat}(h:∀c∈aa,c<256)(o n:Nat)(fP:Bool)(v mask k:Nat):∀c∈hW aa o n fP v mask k,c<256:=by
 intro c av;obtain⟨j,ah⟩:=List.getElem?_of_mem av;simp only [hW,awo]at ah;cases he:aa[j]? with
 |none=>rw [he]at ah;cases ah
 |some b=>
  rw [he]at ah;have hb:=h b (auF he);simp only [aug,auW]at ah;subst ah;split
  · exact aoy hb _ _ _
  · exact hb
theorem lz.set{g i b:Nat}{aa:List Nat}{rest:List Value}(ai:i<aa.length)(h:w'.heap[g]? =some (.cells ((aa.map ek++rest).toArray.setIfInBounds i (ek b)) 5 (0,0))):lz w' g rest (aa.set i b):=by
 unfold lz;rw [h,auR,List.set_append_left _ _ (by simpa using ai),aww]
theorem zg(m k:Nat):IntKind.u8.wrap ((m/2^k:Nat):Int)=((m/2^k%256:Nat):Int):=D7 _
theorem QH(w:World){g o n:Nat}{rest:List Value}(aa:List Nat)(gj:∀c∈aa,c<256)(h:lz w g rest aa)(ase:o+n<=aa.length)(ba:n<=8)(I5:aa.length<=64)(fP:Bool)(v mask:Nat)(ao:v<2^64)(hm:mask<2^64):
   bd prog 28 [.slice (some ⟨g,o,none⟩) n de,.bool fP,.int .u64 (v:Nat),.int .u64 (mask:Nat)].toArray w (λ_ w'=>lz w' g rest (hW aa o n fP v mask n)/\w.grownBy w' (some g)):=by
 refine wE func28 rfl 42 rfl 46 rfl (λa I=>?_);revert a;refine ad λa I=>?_;refine eg (λq a wr=>∃k,k<=n/\q=n - k/\Fr 46 [(0,.slice (some ⟨g,o,none⟩) n de),(1,.bool fP),(2,.int .u64 (v:Nat)),(3,.int .u64 (mask:Nat)),(11,.slice (some ⟨g,o,none⟩) n de),(12,.int .i64 (n:Nat)),(13,.int .i64 (k:Nat))] a/\lz wr g rest (hW aa o n fP v mask k)/\w.grownBy wr (some g)) n
   ⟨0,auc _,rfl,I.bb,by rw [aoD];exact h,afd w g⟩ ?_
 clear I a;rintro q a wr ⟨k,au,rfl,I,cj,an⟩;by_cases bu:k<n
 · have d':o+k<aa.length:=bj
   have Oi:o+k<(hW aa o n fP v mask k).length:=by rw [zi];exact d'
   have av:=cj.cell Oi;rw [aoA d']at av;have hold:=gj _ (at6 d');have gY:=aoC (n:=n) (fP:=fP) (v:=v) (mask:=mask) d';generalize wZ:aa[o+k]=old at av hold gY;have az:wr.heap[g]? =some (.cells ((hW aa o n fP v mask k).map ek++rest).toArray 5 (0,0)):=cj;have qB:mask/2^ue fP n k%256<256:=avI _ bk;have C1:v/2^ue fP n k%256<256:=avI _ bk;have aft:(8:Int)*(k:Nat)=((8*k:Nat):Int):=bj
   have uS:ue fP n k<=64:=by unfold ue;split<;>omega
   cases fP with
   |false=>
    have M1:ue false n k=8*k:=rfl;rw [M1]at qB C1 gY uS;have wL:=aft;revert a;(repeat first|(intro a I;(refine kI 7 16 mixed bh ?_;simp only [aul,auA,at5,aus]);revert a)|refine ag ?_|refine J (n9 (n:=(k:Nat)) rfl rfl bj) ?_|refine b4 (n9 (n:=(k:Nat)) rfl rfl bj) ?_|refine J (lG (a:=mask) (b:=8*k) rfl rfl rfl wL uS) ?_|refine b4 (lG (a:=mask) (b:=8*k) rfl rfl rfl wL uS) ?_|refine J (lG (a:=v) (b:=8*k) rfl rfl rfl wL uS) ?_|refine b4 (lG (a:=v) (b:=8*k) rfl rfl rfl wL uS) ?_|refine J (e8 (aA _ _ rfl) (aA _ _ rfl) rfl (zg mask (8*k))) ?_|refine b4 (e8 (aA _ _ rfl) (aA _ _ rfl) rfl (zg mask (8*k))) ?_|refine J (e8 (aA _ _ rfl) (aA _ _ rfl) rfl (zg v (8*k))) ?_|refine b4 (e8 (aA _ _ rfl) (aA _ _ rfl) rfl (zg v (8*k))) ?_|refine J (fi (a:=old) (b:=mask/2^(8*k)%256) rfl rfl rfl rfl rfl hold qB) ?_|refine b4 (fi (a:=old) (b:=mask/2^(8*k)%256) rfl rfl rfl rfl rfl hold qB) ?_|refine J (fi (a:=v/2^(8*k)%256) (b:=mask/2^(8*k)%256) rfl rfl rfl rfl rfl C1 qB) ?_|refine b4 (fi (a:=v/2^(8*k)%256) (b:=mask/2^(8*k)%256) rfl rfl rfl rfl rfl C1 qB) ?_|refine J (fi (a:=mI old (mask/2^(8*k)%256)) (b:=v/2^(8*k)%256 &&& mask/2^(8*k)%256) rfl rfl rfl rfl rfl (BN (n:=8) hold) (au6 (n:=8) _ qB)) ?_|refine b4 (fi (a:=mI old (mask/2^(8*k)%256)) (b:=v/2^(8*k)%256 &&& mask/2^(8*k)%256) rfl rfl rfl rfl rfl (BN (n:=8) hold) (au6 (n:=8) _ qB)) ?_|refine J (af av) ?_|refine b4 (af av) ?_);intro a I;refine cr I (aw _ _ rfl) (show(wr.drewN 1).heap[g]? =_ from az) (i:=o+k) bm rfl rfl rfl (k:=λa aq aE aT b8 I=>?_);revert a;refine ad λa I=>?_;exact⟨n - (k+1),bj,k+1,bj,rfl,I.bb,gY▸lz.set Oi aE,an.trans (iQ aT)⟩
   |true=>
    have M1:ue true n k=8*(n - 1- k):=rfl;rw [M1]at qB C1 gY uS;have wL:(8:Int)*((n:Nat)- 1- (k:Nat))=((8*(n - 1- k):Nat):Int):=bj
    revert a;(repeat first|(intro a I;(refine kI 7 16 mixed bh ?_;simp only [aul,auA,at5,aus]);revert a)|refine ag ?_|refine J (n9 (n:=(k:Nat)) rfl rfl bj) ?_|refine b4 (n9 (n:=(k:Nat)) rfl rfl bj) ?_|refine J (n9 (n:=(n:Nat)- 1- (k:Nat)) rfl rfl bj) ?_|refine b4 (n9 (n:=(n:Nat)- 1- (k:Nat)) rfl rfl bj) ?_|refine J (lG (a:=mask) (b:=8*(n - 1- k)) rfl rfl rfl wL uS) ?_|refine b4 (lG (a:=mask) (b:=8*(n - 1- k)) rfl rfl rfl wL uS) ?_|refine J (lG (a:=v) (b:=8*(n - 1- k)) rfl rfl rfl wL uS) ?_|refine b4 (lG (a:=v) (b:=8*(n - 1- k)) rfl rfl rfl wL uS) ?_|refine J (e8 (aA _ _ rfl) (aA _ _ rfl) rfl (zg mask (8*(n - 1- k)))) ?_|refine b4 (e8 (aA _ _ rfl) (aA _ _ rfl) rfl (zg mask (8*(n - 1- k)))) ?_|refine J (e8 (aA _ _ rfl) (aA _ _ rfl) rfl (zg v (8*(n - 1- k)))) ?_|refine b4 (e8 (aA _ _ rfl) (aA _ _ rfl) rfl (zg v (8*(n - 1- k)))) ?_|refine J (fi (a:=old) (b:=mask/2^(8*(n - 1- k))%256) rfl rfl rfl rfl rfl hold qB) ?_|refine b4 (fi (a:=old) (b:=mask/2^(8*(n - 1- k))%256) rfl rfl rfl rfl rfl hold qB) ?_|refine J (fi (a:=v/2^(8*(n - 1- k))%256) (b:=mask/2^(8*(n - 1- k))%256) rfl rfl rfl rfl rfl C1 qB) ?_|refine b4 (fi (a:=v/2^(8*(n - 1- k))%256) (b:=mask/2^(8*(n - 1- k))%256) rfl rfl rfl rfl rfl C1 qB) ?_|refine J (fi (a:=mI old (mask/2^(8*(n - 1- k))%256)) (b:=v/2^(8*(n - 1- k))%256 &&& mask/2^(8*(n - 1- k))%256) rfl rfl rfl rfl rfl (BN (n:=8) hold) (au6 (n:=8) _ qB)) ?_|refine b4 (fi (a:=mI old (mask/2^(8*(n - 1- k))%256)) (b:=v/2^(8*(n - 1- k))%256 &&& mask/2^(8*(n - 1- k))%256) rfl rfl rfl rfl rfl (BN (n:=8) hold) (au6 (n:=8) _ qB)) ?_|refine J (af av) ?_|refine b4 (af av) ?_);intro a I;refine cr I (aw _ _ rfl) (show(wr.drewN 1).heap[g]? =_ from az) (i:=o+k) bm rfl rfl rfl (k:=λa aq aE aT b8 I=>?_);revert a;refine ad λa I=>?_;exact⟨n - (k+1),bj,k+1,bj,rfl,I.bb,gY▸lz.set Oi aE,an.trans (iQ aT)⟩
 · obtain rfl:k=n:=bj
   revert a;refine ad λa I=>?_;exact lo I rfl ⟨cj,an⟩
end
end Go.Proofs.YtnkjmbbddmgjiaaGreatDoor