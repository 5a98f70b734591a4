import Derived.Test.YtnkjmbbddmgjiaaGreatDoorSumLawCheckedS5
set_option linter.unusedSimpArgs false
set_option linter.unusedVariables false
set_option maxRecDepth 1000000
set_option maxHeartbeats 400000000
namespace Go.Proofs.YtnkjmbbddmgjiaaGreatDoor
open Go.RowKit Go.Proofs.Tryz
variable {w w':World}{ch cK cg ct:dN}{f:Fd}{dF:List (Lit × Value)}{a8:List Fd}{d:TypeDesc}{v:Value}{xs:List Value}{x y:Ins}{ty e:TypeId}{jG:Nat}{nP:List Nat}
section
attribute [local irreducible] wpList wpQuiet wpStill Code.wp Exit.then Exit.inBlock bodyPost Calls bL eT
def ga(f:Nat)(hX:Value):Value:=.func (.func f) #[hX] #[]
def opsL(hX:Value):List (Lit × Value):=[(.int .i64 19,ga 57 hX),(.int .i64 18,ga 56 hX),(.int .i64 17,ga 55 hX),(.int .i64 16,ga 54 hX),(.int .i64 15,ga 54 hX),(.int .i64 14,ga 53 hX),(.int .i64 13,ga 52 hX),(.int .i64 12,ga 51 hX),(.int .i64 11,ga 51 hX),(.int .i64 10,ga 51 hX),(.int .i64 9,ga 51 hX),(.int .i64 8,ga 48 hX),(.int .i64 7,ga 50 hX),(.int .i64 6,ga 50 hX),(.int .i64 5,ga 49 hX),(.int .i64 4,ga 49 hX),(.int .i64 3,ga 49 hX),(.int .i64 2,ga 49 hX),(.int .i64 1,ga 48 hX),(.int .i64 0,ga 47 hX)]
structure BC(w:World)(b:Nat)(ch cK cg ct:dN):Prop where
 hX:lA w ch cK cg ct
 mp:eO prog 3 w b (opsL (eX ch cK cg ct))
theorem BC.below{b:Nat}(h:BC w b ch cK cg ct)(hb:Below w.heap.size w w'):BC w' b ch cK cg ct:=⟨h.hX.below hb,h.mp.below hb⟩
theorem lX{k:Nat}(h:k<2^62):keyOf prog 3 (.int .i64 (k:Nat))=some (.int .i64 (k:Nat)):=avN atX (by simp [Lit.wf,show IntKind.i64.min= -9223372036854775808 by decide,show IntKind.i64.max=9223372036854775807 by decide];omega)
theorem dN.k2.grown{z:dN}{b:Nat}{k:TypeId}(h:z.k2 w f)(hm:eO prog k w b dF)(an:w.grownBy w' (some b)):z.k2 w' f:=h.same λS bS j ah=>by
 obtain⟨v,e,U,_⟩:=bS j ah;refine an.block j (bO U) λx=>?_;cases x
 obtain⟨es,c,hb,_⟩:=hm.1;rw [U]at hb;cases hb
theorem lA.grown{b:Nat}{k:TypeId}(h:lA w ch cK cg ct)(hm:eO prog k w b dF)(an:w.grownBy w' (some b)):lA w' ch cK cg ct:=⟨h.r.grown hm an,h.o.grown hm an,h.s.grown hm an,h.i.grown hm an⟩
theorem PB(w:World):bd prog 20 #[] w (λv w'=>(∃b ch cK cg ct,v=.map (some b)/\BC w' b ch cK cg ct)/\Below w.heap.size w w'):=by
 refine yd func20 rfl 49 rfl 49 rfl (λa I=>?_);revert a;refine ad λa I=>?_;have hb:=atL w.heap.size w;refine aQ I (Bj _ .a 0 15 ⟨#[114]⟩ bk bk) λa v gb ab I=>?_;obtain⟨ao,aC⟩:=ab;obtain⟨z0,rfl,yJ⟩:=ao.f5;clear ao;replace hb:=hb.trans (aC.mono hb.size);refine aQ I (Bj _ .b 0 15 ⟨#[114]⟩ bk bk) λa v fG ab I=>?_;obtain⟨ao,aC⟩:=ab;obtain⟨dL,rfl,xj⟩:=ao.f5;clear ao;replace hb:=hb.trans (aC.mono hb.size);replace yJ:=yJ.below aC;refine aQ I (Bj _ .b 0 63 ⟨#[]⟩ bk bk) λa v fU ab I=>?_;obtain⟨ao,aC⟩:=ab;obtain⟨z2,rfl,fE⟩:=ao.f5;clear ao;replace hb:=hb.trans (aC.mono hb.size);replace yJ:=yJ.below aC;replace xj:=xj.below aC;refine aQ I (alF _) λa v fg ab I=>?_;obtain⟨ao,aC⟩:=ab;obtain⟨z3,rfl,lg⟩:=ao.f5;clear ao;replace hb:=hb.trans (aC.mono hb.size);have cT:lA fg z0 dL z2 z3:=⟨yJ.below aC,xj.below aC,fE.below aC,lg⟩;revert a;(repeat first|refine ag ?_|refine J (cA (vs:=[(0,.agg z0.cells.toArray),(1,.agg dL.cells.toArray),(2,.agg z2.cells.toArray),(3,.agg z3.cells.toArray)]) (cells:=(kY z0 dL z2 z3).toArray) bh ⟨rfl,rfl,rfl,rfl,rfl,rfl,rfl,rfl,trivial⟩) ?_);intro a I;refine b6 I aiZ λa jU bX bD eY I=>?_;refine cE I (cs:=(kY z0 dL z2 z3).toArray) bX (ao0 cT) λa vO bB br dw I=>?_;have aH:=fg.heap.size;have cx:=aK (aK (atL _ fg) bD (atI _)) br bj;replace cT:=cT.below cx;replace hb:=hb.trans (cx.mono hb.size);replace bB:eZ fg.heap.size z0 dL z2 z3 vO:=bB;have arI:=bO bB;have bT:=hb.size;clear bX bD eY br dw cx aC yJ xj fE lg;revert a;refine ad λa I=>?_;refine st I (qm auB) rfl (λa I=>?_);have hm:eO prog 3 (vO.alloc (.map #[] 0)) vO.heap.size []:=eO.new vO;have aC:=e7 vO (.map #[] 0);replace cT:=cT.below aC;replace bB:=bB.below aC;replace hb:=hb.trans (aC.mono hb.size);generalize vO.alloc _=m0 at*;revert a;(repeat first|refine ag ?_|refine J (bJ bB.all) ?_|refine J (me (vs:=[eX z0 dL z2 z3]) ⟨rfl,trivial⟩) ?_);intro a I;obtain⟨m1,aj,ez,an,gk⟩:=hm.put (auq atX) auB (lX (k:=0) bk) (ga 47 (eX z0 dL z2 z3)) (by simp;decide);refine gv I (lF aj) rfl (λa I=>?_);replace bB:eZ fg.heap.size z0 dL z2 z3 m1:=aD bB an bm;replace cT:=cT.grown hm an;replace hb:=hb.grown an hb.size (λj ah=>by cases ah;exact bT);replace hm:=ez;clear aj ez an gk;revert a;(repeat first|refine ag ?_|refine J (bJ bB.all) ?_|refine J (me (vs:=[eX z0 dL z2 z3]) ⟨rfl,trivial⟩) ?_);intro a I;obtain⟨m2,aj,ez,an,gk⟩:=hm.put (auq atX) auB (lX (k:=1) bk) (ga 48 (eX z0 dL z2 z3)) (by simp;decide);refine gv I (lF aj) rfl (λa I=>?_);replace bB:eZ fg.heap.size z0 dL z2 z3 m2:=aD bB an bm;replace cT:=cT.grown hm an;replace hb:=hb.grown an hb.size (λj ah=>by cases ah;exact bT);replace hm:=ez;clear aj ez an gk;revert a;(repeat first|refine ag ?_|refine J (bJ bB.all) ?_|refine J (me (vs:=[eX z0 dL z2 z3]) ⟨rfl,trivial⟩) ?_);intro a I;obtain⟨m3,aj,ez,an,gk⟩:=hm.put (auq atX) auB (lX (k:=2) bk) (ga 49 (eX z0 dL z2 z3)) (by simp;decide);refine gv I (lF aj) rfl (λa I=>?_);replace bB:eZ fg.heap.size z0 dL z2 z3 m3:=aD bB an bm;replace cT:=cT.grown hm an;replace hb:=hb.grown an hb.size (λj ah=>by cases ah;exact bT);replace hm:=ez;clear aj ez an gk;revert a;(repeat first|refine ag ?_|refine J (bJ bB.all) ?_|refine J (me (vs:=[eX z0 dL z2 z3]) ⟨rfl,trivial⟩) ?_);intro a I;obtain⟨m4,aj,ez,an,gk⟩:=hm.put (auq atX) auB (lX (k:=3) bk) (ga 49 (eX z0 dL z2 z3)) (by simp;decide);refine gv I (lF aj) rfl (λa I=>?_);replace bB:eZ fg.heap.size z0 dL z2 z3 m4:=aD bB an bm;replace cT:=cT.grown hm an;replace hb:=hb.grown an hb.size (λj ah=>by cases ah;exact bT);replace hm:=ez;clear aj ez an gk;revert a;(repeat first|refine ag ?_|refine J (bJ bB.all) ?_|refine J (me (vs:=[eX z0 dL z2 z3]) ⟨rfl,trivial⟩) ?_);intro a I;obtain⟨m5,aj,ez,an,gk⟩:=hm.put (auq atX) auB (lX (k:=4) bk) (ga 49 (eX z0 dL z2 z3)) (by simp;decide);refine gv I (lF aj) rfl (λa I=>?_);replace bB:eZ fg.heap.size z0 dL z2 z3 m5:=aD bB an bm;replace cT:=cT.grown hm an;replace hb:=hb.grown an hb.size (λj ah=>by cases ah;exact bT);replace hm:=ez;clear aj ez an gk;revert a;(repeat first|refine ag ?_|refine J (bJ bB.all) ?_|refine J (me (vs:=[eX z0 dL z2 z3]) ⟨rfl,trivial⟩) ?_);intro a I;obtain⟨m6,aj,ez,an,gk⟩:=hm.put (auq atX) auB (lX (k:=5) bk) (ga 49 (eX z0 dL z2 z3)) (by simp;decide);refine gv I (lF aj) rfl (λa I=>?_);replace bB:eZ fg.heap.size z0 dL z2 z3 m6:=aD bB an bm;replace cT:=cT.grown hm an;replace hb:=hb.grown an hb.size (λj ah=>by cases ah;exact bT);replace hm:=ez;clear aj ez an gk;revert a;(repeat first|refine ag ?_|refine J (bJ bB.all) ?_|refine J (me (vs:=[eX z0 dL z2 z3]) ⟨rfl,trivial⟩) ?_);intro a I;obtain⟨m7,aj,ez,an,gk⟩:=hm.put (auq atX) auB (lX (k:=6) bk) (ga 50 (eX z0 dL z2 z3)) (by simp;decide);refine gv I (lF aj) rfl (λa I=>?_);replace bB:eZ fg.heap.size z0 dL z2 z3 m7:=aD bB an bm;replace cT:=cT.grown hm an;replace hb:=hb.grown an hb.size (λj ah=>by cases ah;exact bT);replace hm:=ez;clear aj ez an gk;revert a;(repeat first|refine ag ?_|refine J (bJ bB.all) ?_|refine J (me (vs:=[eX z0 dL z2 z3]) ⟨rfl,trivial⟩) ?_);intro a I;obtain⟨m8,aj,ez,an,gk⟩:=hm.put (auq atX) auB (lX (k:=7) bk) (ga 50 (eX z0 dL z2 z3)) (by simp;decide);refine gv I (lF aj) rfl (λa I=>?_);replace bB:eZ fg.heap.size z0 dL z2 z3 m8:=aD bB an bm;replace cT:=cT.grown hm an;replace hb:=hb.grown an hb.size (λj ah=>by cases ah;exact bT);replace hm:=ez;clear aj ez an gk;revert a;(repeat first|refine ag ?_|refine J (bJ bB.all) ?_|refine J (me (vs:=[eX z0 dL z2 z3]) ⟨rfl,trivial⟩) ?_);intro a I;obtain⟨m9,aj,ez,an,gk⟩:=hm.put (auq atX) auB (lX (k:=8) bk) (ga 48 (eX z0 dL z2 z3)) (by simp;decide);refine gv I (lF aj) rfl (λa I=>?_);replace bB:eZ fg.heap.size z0 dL z2 z3 m9:=aD bB an bm;replace cT:=cT.grown hm an;replace hb:=hb.grown an hb.size (λj ah=>by cases ah;exact bT);replace hm:=ez;clear aj ez an gk;revert a;(repeat first|refine ag ?_|refine J (bJ bB.all) ?_|refine J (me (vs:=[eX z0 dL z2 z3]) ⟨rfl,trivial⟩) ?_);intro a I;obtain⟨m10,aj,ez,an,gk⟩:=hm.put (auq atX) auB (lX (k:=9) bk) (ga 51 (eX z0 dL z2 z3)) (by simp;decide);refine gv I (lF aj) rfl (λa I=>?_);replace bB:eZ fg.heap.size z0 dL z2 z3 m10:=aD bB an bm;replace cT:=cT.grown hm an;replace hb:=hb.grown an hb.size (λj ah=>by cases ah;exact bT);replace hm:=ez;clear aj ez an gk;revert a;(repeat first|refine ag ?_|refine J (bJ bB.all) ?_|refine J (me (vs:=[eX z0 dL z2 z3]) ⟨rfl,trivial⟩) ?_);intro a I;obtain⟨m11,aj,ez,an,gk⟩:=hm.put (auq atX) auB (lX (k:=10) bk) (ga 51 (eX z0 dL z2 z3)) (by simp;decide);refine gv I (lF aj) rfl (λa I=>?_);replace bB:eZ fg.heap.size z0 dL z2 z3 m11:=aD bB an bm;replace cT:=cT.grown hm an;replace hb:=hb.grown an hb.size (λj ah=>by cases ah;exact bT);replace hm:=ez;clear aj ez an gk;revert a;(repeat first|refine ag ?_|refine J (bJ bB.all) ?_|refine J (me (vs:=[eX z0 dL z2 z3]) ⟨rfl,trivial⟩) ?_);intro a I;obtain⟨m12,aj,ez,an,gk⟩:=hm.put (auq atX) auB (lX (k:=11) bk) (ga 51 (eX z0 dL z2 z3)) (by simp;decide);refine gv I (lF aj) rfl (λa I=>?_);replace bB:eZ fg.heap.size z0 dL z2 z3 m12:=aD bB an bm;replace cT:=cT.grown hm an;replace hb:=hb.grown an hb.size (λj ah=>by cases ah;exact bT);replace hm:=ez;clear aj ez an gk;revert a;(repeat first|refine ag ?_|refine J (bJ bB.all) ?_|refine J (me (vs:=[eX z0 dL z2 z3]) ⟨rfl,trivial⟩) ?_);intro a I;obtain⟨m13,aj,ez,an,gk⟩:=hm.put (auq atX) auB (lX (k:=12) bk) (ga 51 (eX z0 dL z2 z3)) (by simp;decide);refine gv I (lF aj) rfl (λa I=>?_);replace bB:eZ fg.heap.size z0 dL z2 z3 m13:=aD bB an bm;replace cT:=cT.grown hm an;replace hb:=hb.grown an hb.size (λj ah=>by cases ah;exact bT);replace hm:=ez;clear aj ez an gk;revert a;(repeat first|refine ag ?_|refine J (bJ bB.all) ?_|refine J (me (vs:=[eX z0 dL z2 z3]) ⟨rfl,trivial⟩) ?_);intro a I;obtain⟨m14,aj,ez,an,gk⟩:=hm.put (auq atX) auB (lX (k:=13) bk) (ga 52 (eX z0 dL z2 z3)) (by simp;decide);refine gv I (lF aj) rfl (λa I=>?_);replace bB:eZ fg.heap.size z0 dL z2 z3 m14:=aD bB an bm;replace cT:=cT.grown hm an;replace hb:=hb.grown an hb.size (λj ah=>by cases ah;exact bT);replace hm:=ez;clear aj ez an gk;revert a;(repeat first|refine ag ?_|refine J (bJ bB.all) ?_|refine J (me (vs:=[eX z0 dL z2 z3]) ⟨rfl,trivial⟩) ?_);intro a I;obtain⟨m15,aj,ez,an,gk⟩:=hm.put (auq atX) auB (lX (k:=14) bk) (ga 53 (eX z0 dL z2 z3)) (by simp;decide);refine gv I (lF aj) rfl (λa I=>?_);replace bB:eZ fg.heap.size z0 dL z2 z3 m15:=aD bB an bm;replace cT:=cT.grown hm an;replace hb:=hb.grown an hb.size (λj ah=>by cases ah;exact bT);replace hm:=ez;clear aj ez an gk;revert a;(repeat first|refine ag ?_|refine J (bJ bB.all) ?_|refine J (me (vs:=[eX z0 dL z2 z3]) ⟨rfl,trivial⟩) ?_);intro a I;obtain⟨m16,aj,ez,an,gk⟩:=hm.put (auq atX) auB (lX (k:=15) bk) (ga 54 (eX z0 dL z2 z3)) (by simp;decide);refine gv I (lF aj) rfl (λa I=>?_);replace bB:eZ fg.heap.size z0 dL z2 z3 m16:=aD bB an bm;replace cT:=cT.grown hm an;replace hb:=hb.grown an hb.size (λj ah=>by cases ah;exact bT);replace hm:=ez;clear aj ez an gk;revert a;(repeat first|refine ag ?_|refine J (bJ bB.all) ?_|refine J (me (vs:=[eX z0 dL z2 z3]) ⟨rfl,trivial⟩) ?_);intro a I;obtain⟨m17,aj,ez,an,gk⟩:=hm.put (auq atX) auB (lX (k:=16) bk) (ga 54 (eX z0 dL z2 z3)) (by simp;decide);refine gv I (lF aj) rfl (λa I=>?_);replace bB:eZ fg.heap.size z0 dL z2 z3 m17:=aD bB an bm;replace cT:=cT.grown hm an;replace hb:=hb.grown an hb.size (λj ah=>by cases ah;exact bT);replace hm:=ez;clear aj ez an gk;revert a;(repeat first|refine ag ?_|refine J (bJ bB.all) ?_|refine J (me (vs:=[eX z0 dL z2 z3]) ⟨rfl,trivial⟩) ?_);intro a I;obtain⟨m18,aj,ez,an,gk⟩:=hm.put (auq atX) auB (lX (k:=17) bk) (ga 55 (eX z0 dL z2 z3)) (by simp;decide);refine gv I (lF aj) rfl (λa I=>?_);replace bB:eZ fg.heap.size z0 dL z2 z3 m18:=aD bB an bm;replace cT:=cT.grown hm an;replace hb:=hb.grown an hb.size (λj ah=>by cases ah;exact bT);replace hm:=ez;clear aj ez an gk;revert a;(repeat first|refine ag ?_|refine J (bJ bB.all) ?_|refine J (me (vs:=[eX z0 dL z2 z3]) ⟨rfl,trivial⟩) ?_);intro a I;obtain⟨m19,aj,ez,an,gk⟩:=hm.put (auq atX) auB (lX (k:=18) bk) (ga 56 (eX z0 dL z2 z3)) (by simp;decide);refine gv I (lF aj) rfl (λa I=>?_);replace bB:eZ fg.heap.size z0 dL z2 z3 m19:=aD bB an bm;replace cT:=cT.grown hm an;replace hb:=hb.grown an hb.size (λj ah=>by cases ah;exact bT);replace hm:=ez;clear aj ez an gk;revert a;(repeat first|refine ag ?_|refine J (bJ bB.all) ?_|refine J (me (vs:=[eX z0 dL z2 z3]) ⟨rfl,trivial⟩) ?_);intro a I;obtain⟨m20,aj,ez,an,gk⟩:=hm.put (auq atX) auB (lX (k:=19) bk) (ga 57 (eX z0 dL z2 z3)) (by simp;decide);refine gv I (lF aj) rfl (λa I=>?_);replace bB:eZ fg.heap.size z0 dL z2 z3 m20:=aD bB an bm;replace cT:=cT.grown hm an;replace hb:=hb.grown an hb.size (λj ah=>by cases ah;exact bT);replace hm:=ez;clear aj ez an gk;revert a;refine ad λa I=>?_;exact bc I rfl rfl ⟨⟨_,z0,dL,z2,z3,rfl,cT,hm⟩,hb⟩
theorem alP{op:Nat}(h:ir op=none)(hX:Value):eD (.int .i64 (op:Nat)) (opsL hX)=none:=by
 have aqZ:20<=op:=by
  refine aw7 λbu=>?_;have:∀op:Fin 20,(ir op.val).isNone=false:=bk
  have:=this ⟨op,bu⟩;simp [h]at this
 unfold opsL;simp only [eD];rw [atK bm];rw [atK bm];rw [atK bm];rw [atK bm];rw [atK bm];rw [atK bm];rw [atK bm];rw [atK bm];rw [atK bm];rw [atK bm];rw [atK bm];rw [atK bm];rw [atK bm];rw [atK bm];rw [atK bm];rw [atK bm];rw [atK bm];rw [atK bm];rw [atK bm];rw [atK bm]
theorem alQ{op:Nat}(h:ir op=some a8)(ch cK cg ct:dN):∃f,eD (.int .i64 (op:Nat)) (opsL (eX ch cK cg ct))=some (ga f (eX ch cK cg ct))/\∀w,lA w ch cK cg ct->kD prog (ga f (eX ch cK cg ct)) [] w (λv w'=>hI w' w.heap.size v a8/\Below w.heap.size w w'):=by
 unfold ir at h;split at h
 · cases h;exact⟨47,by simp [eD,opsL],λw hw=>⟨_,_,_,rfl,acr,by simpa using aoZ w hw⟩⟩
 · cases h;exact⟨48,by simp [eD,opsL],λw hw=>⟨_,_,_,rfl,Se,by simpa using ZW w hw⟩⟩
 · cases h;exact⟨49,by simp [eD,opsL],λw hw=>⟨_,_,_,rfl,HJ,by simpa using KL w hw⟩⟩
 · cases h;exact⟨49,by simp [eD,opsL],λw hw=>⟨_,_,_,rfl,HJ,by simpa using KL w hw⟩⟩
 · cases h;exact⟨49,by simp [eD,opsL],λw hw=>⟨_,_,_,rfl,HJ,by simpa using KL w hw⟩⟩
 · cases h;exact⟨49,by simp [eD,opsL],λw hw=>⟨_,_,_,rfl,HJ,by simpa using KL w hw⟩⟩
 · cases h;exact⟨50,by simp [eD,opsL],λw hw=>⟨_,_,_,rfl,Sf,by simpa using ZY w hw⟩⟩
 · cases h;exact⟨50,by simp [eD,opsL],λw hw=>⟨_,_,_,rfl,Sf,by simpa using ZY w hw⟩⟩
 · cases h;exact⟨48,by simp [eD,opsL],λw hw=>⟨_,_,_,rfl,Se,by simpa using ZW w hw⟩⟩
 · cases h;exact⟨51,by simp [eD,opsL],λw hw=>⟨_,_,_,rfl,HK,by simpa using DV w hw⟩⟩
 · cases h;exact⟨51,by simp [eD,opsL],λw hw=>⟨_,_,_,rfl,HK,by simpa using DV w hw⟩⟩
 · cases h;exact⟨51,by simp [eD,opsL],λw hw=>⟨_,_,_,rfl,HK,by simpa using DV w hw⟩⟩
 · cases h;exact⟨51,by simp [eD,opsL],λw hw=>⟨_,_,_,rfl,HK,by simpa using DV w hw⟩⟩
 · cases h;exact⟨52,by simp [eD,opsL],λw hw=>⟨_,_,_,rfl,acs,by simpa using aoX w hw⟩⟩
 · cases h;exact⟨53,by simp [eD,opsL],λw hw=>⟨_,_,_,rfl,acu,by simpa using ao3 w hw⟩⟩
 · cases h;exact⟨54,by simp [eD,opsL],λw hw=>⟨_,_,_,rfl,Sg,by simpa using ZX w hw⟩⟩
 · cases h;exact⟨54,by simp [eD,opsL],λw hw=>⟨_,_,_,rfl,Sg,by simpa using ZX w hw⟩⟩
 · cases h;exact⟨55,by simp [eD,opsL],λw hw=>⟨_,_,_,rfl,acv,by simpa using aoY w hw⟩⟩
 · cases h;exact⟨56,by simp [eD,opsL],λw hw=>⟨_,_,_,rfl,acw,by simpa using ao1 w hw⟩⟩
 · cases h;exact⟨57,by simp [eD,opsL],λw hw=>⟨_,_,_,rfl,acx,by simpa using ao2 w hw⟩⟩
 · cases h
theorem J2(w:World){b:Nat}(h:BC w b ch cK cg ct)(op:Nat)(ft:op<2^62):bd prog 22 [.map (some b),.int .i64 (op:Nat)].toArray w (λv w'=>
  ((∃a8 u,ir op=some a8/\v=.tuple #[u,.bool true]/\hI w' w.heap.size u a8)\/(ir op=none/\v=.tuple #[.slice none 0 0,.bool false]))/\Below w.heap.size w w'):=by
 have bA:(zeroValue 150).run prog w=.ok .nilFunc w:=bh
 have qA:=h.mp.look_ok (auq atX) auB bA (lX ft);refine dP func22 rfl 16 rfl 18 rfl (λa I=>?_);cases bC:ir op with
 |none=>
  rw [alP bC]at qA;revert a;(repeat first|refine ag ?_|refine J (hN qA) ?_);intro a I;exact eI I rfl rfl rfl ⟨.inr ⟨rfl,rfl⟩,atL _ _⟩
 |some a8=>
  obtain⟨f,e,av⟩:=alQ bC ch cK cg ct;rw [e]at qA;revert a;(repeat first|refine ag ?_|refine J (hN qA) ?_);intro a I;refine iZ I (av w h.hX) trivial (k:=λa v aq ab I=>?_);obtain⟨ao,hb⟩:=ab;revert a;refine ad λa I=>?_;exact eI I rfl rfl rfl ⟨.inl ⟨a8,_,rfl,rfl,ao⟩,hb⟩
end
def sP(d:TypeDesc)(v:Value):Bool:=match d,v with
 | .int k,.int cS _=>k==cS
 | .bool,.bool _=>true
 | .string,.string _=>true
 |_,_=>false
def Bh:List TypeDesc->List Value->Bool
 | [],[]=>true
 |d::ds,v::vs=>sP d v&&Bh ds vs
 |_,_=>false
def zQ:Value->Value->Bool
 | .int _ a,.int _ b=>a==b
 | .bool a,.bool b=>a==b
 | .string a,.string b=>a.toList==b.toList
 |_,_=>false
def kn:List Value->List Value->Bool
 | [],[]=>true
 |x::xs,y::ys=>zQ x y&&kn xs ys
 |_,_=>false
def Im(P:Program):Nat->List TypeDesc->List Field->Bool
 |_,[],[]=>true
 |o,d::ds,f::a8=>decide (f.offset=o)&&decide (¬f.name= "_")&&(match P.underlying f.type,d with|some (.int k),.int cS=>k==cS|some .bool,.bool=>true|some .string,.string=>true|_,_=>false)&&Im P (o+1) ds a8
 |_,_,_=>false
def Il(P:Program)(t:TypeId)(ds:List TypeDesc):Bool:=
 (match P.underlying t with|some (.struct a8)=>Im P 0 ds a8.toList|_=>false)&& !P.stoodInHeld t&& !P.eqGuardType P.depth t
section
variable {P:Program} {w:World} {l:List (Nat × Value)}
theorem apy{f:Field}(h:(match P.underlying f.type,d with|some (.int k),.int cS=>k==cS|some .bool,.bool=>true|some .string,.string=>true|_,_=>false)=true):P.underlying f.type=some d:=by
 split at h
 · rename_i U;rw [U,eq_of_beq h]
 · rename_i U;rw [U]
 · rename_i U;rw [U]
 · cases h
theorem anN{t:TypeId}{u:Value}(aI:P.underlying t=some d)(hu:sP d u=true)(ao:sP d v=true):(Op.equalIn 9999 t u v).run P w=.ok (zQ u v) w:=by
 cases d with
 |int k=>
  cases u with
  |int h' a=>
   cases v with
   |int lW b=>
    obtain rfl:k=h':=eq_of_beq hu;obtain rfl:k=lW:=eq_of_beq ao;exact run_equalIn_int w 9998 t k k a b aI
   |_=>simp [sP]at ao
  |_=>simp [sP]at hu
 |bool=>
  cases u with
  |bool a=>
   cases v with
   |bool b=>exact run_equalIn_bool' w 9998 t a b aI
   |_=>simp [sP]at ao
  |_=>simp [sP]at hu
 |string=>
  cases u with
  |string a=>
   cases v with
   |string b=>exact run_equalIn_string w 9998 t a b aI
   |_=>simp [sP]at ao
  |_=>simp [sP]at hu
 |_=>simp [sP]at hu
theorem Za{t:TypeId}(aI:P.underlying t=some d){xs:Array Value}{o:Nat}{x:Value}(h:xs[o]? =some x)(aG:sP d x=true):(part t xs o).run P w=.ok x w:=by
 cases d with
 |int k=>simp [part,isAgg,auf aI,h]
 |bool=>simp [part,isAgg,auf aI,h]
 |string=>simp [part,isAgg,auf aI,h]
 |_=>simp [sP]at aG
theorem Y8:∀(ds:List TypeDesc) (a8:List Field) (o:Nat) (y5 y7 vM vN:List Value),y5.length=o->y7.length=o->Im P o ds a8=true->Bh ds vM=true->Bh ds vN=true->
  (Op.eqFields 9999 (y5++vM).toArray (y7++vN).toArray a8).run P w=.ok (kn vM vN) w
 | [],[],o,y5,y7,vM,vN,_,_,_,U,ae=>by
  cases vM with
  |nil=>
   cases vN with
   |nil=>simp [Op.eqFields,kn]
   |cons _ _=>cases ae
  |cons _ _=>cases U
 | [],f::a8,_,_,_,_,_,_,_,h,_,_=>by cases h
 |d::ds,[],_,_,_,_,_,_,_,h,_,_=>by cases h
 |d::ds,f::a8,o,y5,y7,vM,vN,hx,aO,h,U,ae=>by
  cases vM with
  |nil=>cases U
  |cons x vM=>
   cases vN with
   |nil=>cases ae
   |cons y vN=>
    simp only [Im,atP,atQ]at h;obtain⟨⟨⟨bp,ba⟩,hu⟩,aj⟩:=h;simp only [Bh,atP]at U ae;have aI:=apy hu;have ex:(y5++x::vM).toArray[f.offset]? =some x:=by rw [bp,<-hx];simp
    have B5:(y7++y::vN).toArray[f.offset]? =some y:=by rw [bp,<-aO];simp
    rw [Op.eqFields,atM ba];simp only [auu,Za aI ex U.1,Za aI B5 ae.1,anN aI U.1 ae.1,aun];have df:=Y8 ds a8 (o+1) (y5++ [x]) (y7++ [y]) vM vN (by simp [hx]) (by simp [aO]) aj U.2 ae.2;rw [auJ,auJ]at df;cases he:zQ x y with
    |false=>simp [kn,he]
    |true=>
     simp only [Bool.not_true,awe,axp,kn,he,auN];exact df
theorem HZ{op:BinOp}{x y:Operand}{ys:List Value}{ds:List TypeDesc}{r:Bool}{t t':TypeId}(h:Il P t ds=true)(j9:Bh ds xs=true)(vk:Bh ds ys=true)(hx:a7 l x (.agg xs.toArray):=by exact rfl)(aO:a7 l y (.agg ys.toArray):=by exact rfl)(aj:(match op with| .eql=>some (kn xs ys)| .neq=>some (!kn xs ys)|_=>none)=some r:=by exact rfl):bL P l w (.binOp op t x y t') ty (.bool r) w:=by
 intro cC aY d0 pos bx g;simp only [Il,atP,auI]at h;obtain⟨⟨U,ae⟩,aM⟩:=h;have key:(Op.equalIn 10000 t (.agg xs.toArray) (.agg ys.toArray)).run P w=.ok (kn xs ys) w:=by
   split at U
   · rename_i a8 hu;have dz:P.fieldsOf t=a8:=by simp [Program.fieldsOf,hu]
     rw [run_equalIn_agg w 9999 t _ _ (by rw [dz];exact hu) ae,dz];exact Y8 ds a8.toList 0 [] [] xs ys rfl rfl U j9 vk
   · cases U
 cases op<;>simp only [auW,reduceCtorEq]at aj<;>subst aj
 · simp only [execOp,aY _ _ hx,aY _ _ aO,auu,aya w _ t x y _ _ aM,aun,run_eql_struct,key];rfl
 · simp only [execOp,aY _ _ hx,aY _ _ aO,auu,aya w _ t x y _ _ aM,aun,run_neq_struct,key];rfl
end
section
attribute [local irreducible] wpList wpQuiet wpStill Code.wp Exit.then Exit.inBlock bodyPost Calls bL eT
theorem al1{base n s:Nat}(h:w.ownsRow base e s v n xs)(au:∀g c f,v.ownBlock=some g->w.heap[g]? =some (.cells c e f)->w'.heap[g]? =some (.cells c e f)):w'.ownsRow base e s v n xs:=by
 refine⟨h.1,?_⟩;rcases h.2 with aJ|⟨g,cap,cur,rfl,hb,az,r⟩
 · exact .inl aJ
 · exact .inr ⟨g,cap,cur,rfl,hb,au g _ _ rfl az,r⟩
theorem hI.aax{base B:Nat}{c:Array Value}(h:hI w base v a8)(hw:ju jG B w w')(aH:w.heap[B]? =some (.cells c 83 (0,0))):hI w' base v a8:=by
 obtain⟨ay,nm,cg,e,aN,bp,bA⟩:=h.ex;refine⟨ay,nm,cg,e,aN,al1 bp λg eS f _ az=>hw.at_ az bk (c1 az aH bk),λi z f U ae=>(bA i z f U ae).same λS bS k au=>?_⟩;obtain⟨u,e',aM,cc⟩:=bS k au;have:=hw.at_ aM (λx=>by rw [x]at cc;cases cc) (c1 aM aH (λx=>by rw [x]at cc;cases cc));rw [this,aM]
theorem hI.EO{base R:Nat}{c:Array Value}(h:hI w base v a8)(az:w.grownBy w' (some R))(ab:w.heap[R]? =some (.cells c 68 (0,0))):hI w' base v a8:=by
 obtain⟨ay,nm,cg,e,aN,bp,bA⟩:=h.ex;exact⟨ay,nm,cg,e,aN,pW bp ab bk az,λi z f U ae=>(bA i z f U ae).same λS bS=>anX bS ab rfl az⟩
theorem hI.get{base:Nat}(h:hI w base v a8){i:Nat}(ai:i<a8.length):∃(g c:Nat) (z:dN) (f:Fd),v=.slice (some ⟨g,0,none⟩) a8.length c/\a8[i]? =some f/\z.k2 w f/\∀j u,z.cells.toArray[j]? =some u->w.cell? ⟨g,0+i*5+j,none⟩=some u:=by
 obtain⟨ay,c,cg,rfl,aN,bp,bA⟩:=h.ex;obtain⟨g,rfl,_⟩:=nM bp bj;have aj:=A8 aeB bp aN;have h4:i<cg.length:=bj
 obtain⟨b,o,e,av⟩:=aj i h4;cases e
 exact⟨g,c,cg[i],a8[i],rfl,atT ai,bA i _ _ (atT h4) (atT ai),λj u ah=>av j u (by simpa using ah)⟩
theorem hI.val{base:Nat}(h:hI w base v a8):∃ay c,v=.slice ay a8.length c:=by
 obtain⟨ay,c,cg,e,_⟩:=h.ex;exact⟨ay,c,e⟩
theorem aee(hx:fc x)(f:Fd):(ns x f).length<=10:=by
 cases f with
 |sm r bq ai=>show 1<=10;omega
 |bytes=>show 1<=10;omega
 |skip=>exact KC (by have:=hx.n;omega)
 |num=>exact KC hx.bK
 |sign=>exact KC hx.bK
theorem Ia(hx:fc x):∀a8:List Fd,(h3 x a8).length<=10*a8.length
 | []=>atI _
 |f::a8=>by
  have U:=aee hx f;have ae:=Ia hx a8;have:(h3 x (f::a8)).length=(ns x f).length+(h3 x a8).length:=by simp [h3]
  rw [this,aue];omega
theorem EL{op:Nat}(h:ir op=some a8):a8.length<=4:=by
 unfold ir at h;split at h<;>first|(cases h;decide)|cases h
theorem aeM{op k:Nat}(h:ir op=some a8)(au:a8[k]? =some .bytes)(d':hc x (a8.take k)=true):x.b<=7:=by
 have key:∀l:List Fd,l=mV\/l=mV++ [.num]->l[k]? =some .bytes->hc x (l.take k)=true->x.b<=7:=by
  rintro l (rfl|rfl) U ae<;>
  (rcases k with _|_|_|_|k<;>first|(simp [mV,fX]at U;done)|(simp [hc,mV,fX,okF,Ins.get]at ae;omega))
 have no:∀l:List Fd,(∀f∈l,f≠.bytes)->l[k]? =some .bytes->x.b<=7:=λl U ae=>absurd rfl (U _ (auF ae));unfold ir at h;split at h<;>first
 |(cases h;exact key _ (.inl rfl) au d')
 |(cases h;exact key _ (.inr rfl) au d')
 |(cases h;exact no _ (by simp [fX,tY,zh]) au)
 |cases h
theorem amZ{k:Nat}(h:ir x.op=some a8)(au:a8[k]? =some f)(bC:okF x f=false):dW x=false:=by
 unfold dW;rw [h];have:hc x a8=false:=by
  unfold hc;rw [List.all_eq_false];exact⟨f,auF au,by simp [bC]⟩
 simp [this]
theorem ZV{k:Nat}(au:a8[k]? =some f):h3 x (a8.take (k+1))=h3 x (a8.take k)++ns x f/\hc x (a8.take (k+1))=(hc x (a8.take k)&&okF x f):=by
 obtain⟨U,ae⟩:=atY.1 au;rw [auP U,ae];simp [h3,hc]
def WS:List TypeDesc:=[.int .i64,.int .i64,.int .i64,.int .i64,.int .u64]
theorem WT:Il prog 66 WS=true:=bh
theorem JH(x:Ins):Bh WS x.cells=true:=rfl
theorem JG(x y:Ins):kn x.cells y.cells=decide (x=y):=by
 obtain⟨e6,a2,a3,a4,a5⟩:=x;obtain⟨fk,hM,lD,hi,qj⟩:=y;have hb:∀a b:Nat,(((a:Nat):Int)==((b:Nat):Int))=decide (a=b):=λa b=>by
  by_cases h:a=b
  · subst h;simp
  · rw [auk h];exact au8.2 bj
 simp only [Ins.cells,kn,zQ,hb,Ins.mk.injEq,azA];by_cases U:e6=fk<;>by_cases ae:a2=hM<;>by_cases aM:a3=lD<;>by_cases cc:a4=hi<;>by_cases gA:a5=qj<;>simp [U,ae,aM,cc,gA]
def dd(B:Nat)(x:Ins)(w:World):Prop:=w.heap[B]? =some (.cells x.cells.toArray 66 (0,0))
theorem dd.below{B:Nat}(h:dd B x w)(hb:Below w.heap.size w w'):dd B x w':=(hb.block _ (bO h)).trans h
theorem dd.all{B:Nat}(h:dd B x w):∀j v,x.cells.toArray[j]? =some v->w.cell? ⟨B,0+j,none⟩=some v:=λj v ah=>aF h (by rw [aub];exact ah)
theorem dd.op{B:Nat}(h:dd B x w):w.cell? ⟨B,0+0,none⟩=some (.int .i64 (x.op:Nat)):=aF h rfl
theorem Qg(w:World){b:Nat}(h:BC w b ch cK cg ct)(x:Ins)(hx:fc x):bd prog 23 [.map (some b),.agg x.cells.toArray].toArray w (λv w'=>v=.bool (dW x)/\Below w.heap.size w w'):=by
 refine dP func23 rfl 65 rfl 67 rfl (λa I=>?_);revert a;refine ad λa I=>?_;refine di I (cs:=x.cells.toArray) rfl (k:=λa aq aE aT b8 I=>?_);have hb:=aK (atL _ w) aT (atI _);have aL:dd w.heap.size x aq:=aE;revert a;(repeat first|refine ag ?_|refine J (af aL.op) ?_);intro a I;refine aQ I (J2 aq (h.below hb) x.op hx.op) λa v ax ab I=>?_;obtain⟨⟨a8,u,dz,rfl,ao⟩|⟨dz,rfl⟩,aC⟩:=ab
 case inr=>
   revert a;refine ad λa I=>?_;exact bc I rfl rfl ⟨by show Value.bool _=_;unfold dW;rw [dz],hb.trans (aC.mono hb.size)⟩
 replace aL:=aL.below aC;replace hb:=hb.trans (aC.mono hb.size);clear aC aE aT b8;have pH:=EL dz;have arM:=bO aL;revert a;(repeat first|refine ag ?_|refine J (bJ aL.all) ?_|refine J (cA (vs:=[(1,.agg x.cells.toArray)]) (cells:=(Bx none 0 0 x).toArray) bh ⟨rfl,rfl,trivial⟩) ?_);intro a I;refine di I (cs:=(Bx none 0 0 x).toArray) rfl (k:=λa a6 bR bz eE I=>?_);have a1:=aK (atL _ ax) bz (atI _);have bY:iO a6 ax.heap.size ax.heap.size x []:=⟨⟨none,0,bR,auH _ _ _ _⟩,atI _⟩;replace aL:=aL.below a1;replace ao:=ao.below a1;have eB:=hb.size;replace hb:=hb.trans (a1.mono hb.size);obtain⟨ay,c,hu⟩:=ao.val;subst hu;revert a;refine ad λa I=>?_;have b7:=atL a6.heap.size a6;refine eg (λq a wr=>∃k,k<=a8.length/\q=a8.length - k/\Fr 67 [(4,.bool false),(3,.pointer (some ⟨w.heap.size,0,none⟩)),(5,.slice ay a8.length c),(7,.pointer (some ⟨ax.heap.size,0,none⟩)),(25,.slice ay a8.length c),(26,.int .i64 (a8.length:Nat)),(27,.int .i64 (k:Nat))] a/\iO wr ax.heap.size ax.heap.size x (h3 x (a8.take k))/\hc x (a8.take k)=true/\hI wr aq.heap.size (.slice ay a8.length c) a8/\dd w.heap.size x wr/\Below w.heap.size w wr) a8.length
   ⟨0,auc _,rfl,I.bb,bY,rfl,ao,aL,hb⟩ ?_
 clear I a bY ao aL hb bR bz eE a1 b7;rintro q a wr ⟨k,au,rfl,I,bY,d',ao,aL,hb⟩;have Nx:=Ia hx (a8.take k);have gZ:(a8.take k).length<=a8.length:=bm
 by_cases bu:k<a8.length
 · obtain⟨g,nm,z,f,e,bC,bA,av⟩:=ao.get bu;have e':ay=some ⟨g,0,none⟩/\c=nm:=by cases e;exact⟨rfl,rfl⟩
   rw [e'.1]at I;revert a;(repeat first|refine ag ?_|refine J (dq (j:=k)) ?_|refine J (bJ av) ?_);intro a I;refine b6 I jM λa bN bB br dw I=>?_;refine cE I (cs:=z.cells.toArray) bB (λv ao=>bA.one v (by simpa using ao)) λa bQ cI cM fm I=>?_;have bP:=aK (aK (atL _ wr) br (atI _)) cM bj;replace bY:=bY.below bP;replace ao:=ao.below bP;replace aL:=aL.below bP;replace bA:=bA.below bP;replace hb:=hb.trans (bP.mono hb.size);have tl:bQ.heap[wr.heap.size]? =some (.cells z.cells.toArray 80 (0,0)):=cI;have d0:bQ.cell? ⟨wr.heap.size,0+0,none⟩=some z.c0:=aF tl rfl;clear bB br dw cI cM fm bP av e;obtain⟨S,bS,sc⟩:=bA.at_;revert a;(repeat first|refine ag ?_|refine J (im underlying74 d0) ?_|refine J (bJ aL.all) ?_);intro a I;refine iZ I (sc.ok bQ x (λ_ _=>rfl) hx (λe=>aeM dz (by rw [bC,e]) d')) ⟨rfl,trivial⟩ (k:=λa v bt ab I=>?_);obtain⟨rfl,b2⟩:=ab;replace bY:=bY.below b2;replace ao:=ao.below b2;replace aL:=aL.below b2;replace hb:=hb.trans (b2.mono hb.size);have afI:=(b2.block _ (bO tl)).trans tl;replace sc:=sc.same (Zf bS b2);have d1:bt.cell? ⟨wr.heap.size,0+1,none⟩=some z.bM:=aF afI rfl;by_cases NG:okF x f=true
   · rw [NG]at I;revert a;(repeat first|refine ag ?_|refine J (im underlying75 d1) ?_);intro a I;refine iZ I (sc.wr bt _ _ x _ (λ_ _=>rfl) hx bY bj (awO (by obtain⟨⟨_,_,U,_⟩,_⟩:=bY;exact bO U))) ⟨rfl,trivial⟩ (k:=λa v cD ab I=>?_);obtain⟨OL,mw⟩:=ab;obtain⟨⟨_,_,yy,_⟩,_⟩:=id bY;replace ao:=ao.aax mw yy;replace aL:dd w.heap.size x cD:=mw.at_ aL bk (c1 aL yy bk);replace hb:=hb.trans (mw.below.mono eB);revert a;refine ad λa I=>?_;obtain⟨t1,t2⟩:=ZV (x:=x) bC;exact⟨a8.length - (k+1),bj,k+1,bj,rfl,e'.1.symm▸I.bb,by rw [t1];exact OL,by rw [t2,d',NG];rfl,ao,aL,hb⟩
   · have U6:okF x f=false:=by simpa using NG
     rw [U6]at I;revert a;refine ad λa I=>?_;exact bc I rfl rfl ⟨by rw [amZ dz bC U6],hb⟩
 · obtain rfl:k=a8.length:=bj
   rw [av0]at bY d' Nx;obtain⟨⟨eM,fr,Fp,aX⟩,_⟩:=bY;have R2:wr.cell? ⟨ax.heap.size,0+0,none⟩=some (.slice eM (h3 x a8).length fr):=aF Fp rfl;revert a;(repeat first|(intro a I;(refine gJ (λak=>Below wr.heap.size wr ak) [(0,true),(1,true),(2,true),(3,true),(4,true),(5,true),(6,true),(7,true),(8,false),(9,true)] 12 mixed bh (eU (atL _ _) 1) ?_;simp only [fF,atZ,atS,atO,at1,aug]);revert a)|refine ag ?_);intro a I;have aI:Below wr.heap.size wr (wr.drewN 1):=eU (atL _ _) 1;revert a;(repeat first|refine e3 ?_|refine cB (λak ar=>cA (vs:=[(0,.int .i64 (x.op:Nat))]) (cells:=(eQ x.op).cells.toArray) bh ⟨rfl,rfl,trivial⟩) ?_|refine cB (λak ar=>cA (vs:=[(0,.slice eM (h3 x a8).length fr),(2,.agg (eQ x.op).cells.toArray)]) (cells:=(xH eM (h3 x a8).length fr 0 (eQ x.op) .nilIface).toArray) bh ⟨rfl,rfl,rfl,rfl,trivial⟩) ?_|refine cB (λak ar=>af (eG R2 ar)) ?_|refine cB (λak ar=>af (eG aL.op ar)) ?_);intro a I;refine c7 ?_;replace ao:=ao.below aI;replace aL:=aL.below aI;replace hb:=hb.trans (aI.mono hb.size);have Gf:=hb.size;have VD:=d';replace aX:=cW aX aI;generalize wr.drewN 1=v0 at*;refine di I (cs:=(xH eM (h3 x a8).length fr 0 (eQ x.op) .nilIface).toArray) rfl (k:=λa bN bB br dw I=>atJ ?_);have cx:=aK (atL _ v0) br (atI _);refine⟨rfl,aI.trans (cx.mono aI.size),?_⟩;revert a;refine hH λa I=>?_;refine fj ?_;have dv:iA bN v0.heap.size eM (h3 x a8).length fr 0 (eQ x.op) .nilIface (h3 x a8):=by
     refine⟨bB,(nL (cW aX cx)).2,rfl,λp aW=>?_,bj,?_⟩
     · rcases aX.2 with ⟨aJ,_⟩|⟨g,cap,cur,aJ,_,az,_⟩
       · injection aJ with U;rw [U]at aW;cases aW
       · injection aJ with U;rw [U]at aW;cases aW
         exact azG (bO az)
     · intro c av;obtain⟨f,_,av⟩:=awa.1 av;cases f with
       |sm r bq ai=>simp [ns]at av;omega
       |bytes=>simp [ns]at av;omega
       |skip=>exact DG _ _ av
       |num=>exact DG _ _ av
       |sign=>exact DG _ _ av
   replace ao:=ao.below cx;replace aL:=aL.below cx;replace hb:=hb.trans (cx.mono hb.size);have lP:=B3 (r:=[]) hx.bK a8 (eQ x.op) d' (B' dz).2;rw [avC]at lP;clear Fp aX R2 aI bB br dw cx d' Nx gZ bu;revert a;refine ad λa I=>?_;refine eg (λq a wr=>∃k y at2,k<=a8.length/\q=a8.length - k/\Fr 67 [(4,.bool false),(3,.pointer (some ⟨w.heap.size,0,none⟩)),(10,.pointer (some ⟨v0.heap.size,0,none⟩)),(50,.slice ay a8.length c),(51,.int .i64 (a8.length:Nat)),(52,.int .i64 (k:Nat))] a/\iA wr v0.heap.size eM (h3 x a8).length fr at2 y .nilIface (h3 x a8)/\at2<=(h3 x a8).length/\k6 y ((h3 x a8).drop at2) (a8.drop k)=some (a8.foldl (zM x) (eQ x.op),[])/\hI wr aq.heap.size (.slice ay a8.length c) a8/\dd w.heap.size x wr/\Below w.heap.size w wr/\v0.heap.size<=wr.heap.size) a8.length
     ⟨0,eQ x.op,0,auc _,rfl,I.bb,dv,auc _,lP,ao,aL,hb,awO (bO dv.cells)⟩ ?_
   clear I a dv ao aL hb lP au;rintro q a cm ⟨k,y,at2,au,rfl,I,dv,qq,lP,ao,aL,hb,bT⟩;by_cases bu:k<a8.length
   · obtain⟨g,nm,z,f,e,bC,bA,av⟩:=ao.get bu;have e':ay=some ⟨g,0,none⟩/\c=nm:=by cases e;exact⟨rfl,rfl⟩
     rw [e'.1]at I;revert a;(repeat first|refine ag ?_|refine J (dq (j:=k)) ?_|refine J (bJ av) ?_);intro a I;refine b6 I jM λa bN bB br dw I=>?_;refine cE I (cs:=z.cells.toArray) bB (λv ao=>bA.one v (by simpa using ao)) λa bQ cI cM fm I=>?_;have bP:=aK (aK (atL _ cm) br (atI _)) cM bj;replace dv:=dv.below bP;replace ao:=ao.below bP;replace aL:=aL.below bP;replace bA:=bA.below bP;replace hb:=hb.trans (bP.mono hb.size);have tl:bQ.heap[cm.heap.size]? =some (.cells z.cells.toArray 80 (0,0)):=cI;have d2:bQ.cell? ⟨cm.heap.size,0+2,none⟩=some z.c2:=aF tl rfl;have asz:=bP.size;clear bB br dw cI cM fm bP av e;obtain⟨S,bS,sc⟩:=bA.at_;revert a;(repeat first|refine ag ?_|refine J (im underlying76 d2) ?_);intro a I;refine iZ I (sc.rd bQ _ _ _ _ _ _ _ (λ_ _=>rfl) dv qq) ⟨rfl,trivial⟩ (k:=λa v bt ab I=>?_);obtain⟨cf,ab⟩:=ab;have NC:a8.drop k=f::a8.drop (k+1):=by
       rw [aua bu];rw [atT bu]at bC;rw [aud bC]
     rw [NC,k6]at lP;rcases ab with ⟨qa,r,at3,nx,CQ,mu,IW⟩|⟨nx,_⟩
     · rw [nx]at lP;replace ao:=ao.EO cf dv.cells;replace aL:dd w.heap.size x bt:=aD aL cf (by have:=c1 aL dv.cells bk;simpa using this);replace hb:=hb.grown cf hb.size (λj ah=>by cases ah;exact Gf);revert a;refine ad λa I=>?_;exact⟨a8.length - (k+1),bj,k+1,qa,at3,bj,rfl,e'.1.symm▸I.bb,CQ,IW,by rw [mu];exact lP,ao,aL,hb,by have:=cf.size;omega⟩
     · rw [nx]at lP;cases lP
   · obtain rfl:k=a8.length:=bj
     rw [auD]at lP;obtain⟨rfl,_⟩:=aw' (aud lP);have tu:∀j v,(a8.foldl (zM x) (eQ x.op)).cells.toArray[j]? =some v->cm.cell? ⟨v0.heap.size,0+2+j,none⟩=some v:=λj v ah=>aF dv.cells (by rcases j with _|_|_|_|_|j<;>first|exact ah|(simp [Ins.cells]at ah));revert a;(repeat first|refine ag ?_|refine ck (λak ar=>bJ (by obtain⟨n,rfl⟩:=ar;exact aL.all)) ?_|refine ck (λak ar=>bJ (by obtain⟨n,rfl⟩:=ar;exact tu)) ?_|refine ck (λak ar=>HZ WT (JH _) (JH _)) ?_|refine λ(_:Nat)=>?_);intros;rename_i g' a I;refine bc I rfl rfl ⟨?_,hb.trans (cP.below ⟨_,rfl⟩ _)⟩;rw [JG]
     congr 1
     have I':=B3 (r:=[]) hx.bK a8 (eQ x.op) VD (B' dz).2;rw [avC]at I';unfold dW;rw [dz];dsimp only;rw [VD,I',auN]
def Dl:ByteArray:=⟨#[104,97,108,116,32,99,111,110,115,116,32,109,111,118,101,32,97,110,100,32,111,114,32,120,111,114,32,115,104,108,32,115,104,114,32,109,97,115,107,32,108,111,97,100,32,108,111,97,100,98,105,103,32,115,116,111,114,101,32,115,116,111,114,101,98,105,103,32,98,108,101,110,100,32,115,105,103,110,32,105,110,32,111,117,116,32,102,105,116,115,32,115,107,105,112,32,115,107,105,112,110,101]⟩
def A4:List (List UInt8):=Lib.fields Dl.data.toList
theorem Yg:A4.length=20:=bh
theorem alN:∀l∈A4,l.length<=8:=by
 have h:A4.all (λl=>decide (l.length<=8))=true:=bh
 intro l aN;exact auo (au7.1 h l aN)
theorem alO:∀(j:Nat) (b:UInt8),Dl.data.toList[j]? =some b->b.toNat<128:=by
 have h:Dl.data.toList.all (λb=>decide (b.toNat<128))=true:=bh
 intro j b hb;exact auo (au7.1 h b (auF hb))
theorem aeE(w:World)(bF:Env w):bd prog 108 [.string Dl].toArray w (λv w'=>v=.slice (some ⟨w.heap.size,0,none⟩) 20 20/\(∀i,i<20->∃s:ByteArray,w'.cell? ⟨w.heap.size,0+i,none⟩=some (.string s)/\s.size<=8)/\Below w.heap.size w w'):=
 auC (Tryz.strings_Fields Dl w bk alO bF.ZI) λe w' h=>by
  obtain⟨bw,rfl⟩:=h;rw [show Lib.fields Dl.data.toList=A4 from rfl,Yg]at bw;refine⟨_,bw,rfl,λi ai=>?_,e7 _ _⟩;have h4:i<A4.length:=by rw [Yg];exact ai
  refine⟨⟨A4[i].toArray⟩,aF (auE w _) ?_,?_⟩
  · rw [aub];show((A4.map λl=>Value.string ⟨l.toArray⟩).toArray)[i]? =_;simp [h4]
  · have:=alN _ (at6 h4);simpa [ByteArray.size]using this
def GF(x:Ins):Value:=if dW x then .nilIface else .iface 70 (.int .i64 20)
theorem YE(h:dW x=true):GF x=.nilIface:=by unfold GF;rw [atM h]
theorem YD(h:dW x=false):GF x=.iface 70 (.int .i64 20):=by unfold GF;rw [atK (by simp [h])]
theorem nS(h:dW x=true):∃a8,ir x.op=some a8/\hc x a8=true:=by
 unfold dW at h;split at h
 · cases h
 · rename_i a8 bC;exact⟨a8,bC,by simp only [atP]at h;exact h.1⟩
theorem tT{op:Nat}(h:ir op=some a8):op<20:=by
 refine Nat.lt_of_not_le λae=>?_;unfold ir at h;split at h<;>first|omega|cases h
theorem alJ(h:hc x a8=true){k:Nat}(au:a8[k]? =some f):okF x f=true:=by
 unfold hc at h;exact au7.1 h f (auF au)
theorem aml(w:World)(bF:Env w)(x:Ins)(hx:fc x):bd prog 58 [.agg x.cells.toArray].toArray w (λv w'=>(∃s,v=.tuple #[.string s,GF x])/\Below w.heap.size w w'):=by
 refine cF func58 rfl 42 rfl 43 rfl (λa I=>?_);revert a;refine ad λa I=>?_;refine di I (cs:=x.cells.toArray) rfl (k:=λa aq aE aT b8 I=>?_);have hb:=aK (atL _ w) aT (atI _);have aL:dd w.heap.size x aq:=aE;replace bF:=bF.below hb;clear aE aT b8;revert a;refine ad λa I=>?_;refine aQ I (PB aq) λa v ax ab I=>?_;obtain⟨⟨b,ch,cK,cg,ct,rfl,h⟩,aC⟩:=ab;replace aL:=aL.below aC;replace bF:=bF.below aC;replace hb:=hb.trans (aC.mono hb.size);clear aC;revert a;(repeat first|refine ag ?_|refine J (bJ aL.all) ?_);intro a I;refine aQ I (Qg ax h x hx) λa v a6 ab I=>?_;obtain⟨rfl,a1⟩:=ab;replace aL:=aL.below a1;replace bF:=bF.below a1;replace h:=h.below a1;replace hb:=hb.trans (a1.mono hb.size);clear a1;cases aj:dW x with
 |false=>
  rw [aj]at I;revert a;refine ad λa I=>?_;exact eI I rfl rfl rfl ⟨⟨_,by rw [YD aj]⟩,hb⟩
 |true=>
  rw [aj]at I;obtain⟨a8,dz,d'⟩:=nS aj;have bu:=tT dz;have pH:=EL dz;revert a;(repeat first|refine ag ?_|refine J (af aL.op) ?_);intro a I;refine aQ I (J2 a6 h x.op hx.op) λa v bZ ab I=>?_;obtain⟨⟨TA,u,tA,rfl,ao⟩|⟨tA,rfl⟩,b7⟩:=ab
  case inr=>rw [dz]at tA;cases tA
  rw [dz]at tA;cases tA
  replace aL:=aL.below b7;replace bF:=bF.below b7;have fS:=hb.size;replace hb:=hb.trans (b7.mono hb.size);clear b7;obtain⟨ay,c,hu⟩:=ao.val;subst hu;revert a;(repeat first|(intro a I;(refine Eu (dd w.heap.size x) (.read 1 (.read 2 (.cJ 0 (.read 3 (.cJ 4 (.read 5 .done)))))) 5 mixed bh (aL.below (eU (atL _ _) 1)) ?_);revert a)|refine ag ?_);intro a I;have aI:Below bZ.heap.size bZ (bZ.drewN 1):=eU (atL _ bZ) 1;replace aL:=aL.below aI;replace bF:=bF.below aI;replace ao:=ao.below aI;replace hb:=hb.trans (aI.mono hb.size);generalize bZ.drewN 1=fG at*;refine dU I rfl (λak ar=>km (hz _ _ _ _ rfl) (aw _ _ rfl)) rfl (λa I=>?_);refine dU I rfl (λak ar=>im atX (dd.op ar)) rfl (λa I=>?_);refine dV rfl ?_;refine aQ I (aeE fG bF) (k:=λa v fU ab I=>atJ ?_);obtain⟨rfl,ba,cx⟩:=ab;obtain⟨h8,Fb,ld⟩:=ba x.op bu;replace aL:=aL.below cx;replace bF:=bF.below cx;replace ao:=ao.below cx;replace hb:=hb.trans (cx.mono hb.size);refine⟨rfl,aL,?_⟩;refine dU I rfl (λak ar=>H0 (aA _ _ rfl) (aw _ _ rfl) (j:=x.op)) rfl (λa I=>?_);refine dV rfl ?_;refine st I (im auh (show fU.cell? ⟨fG.heap.size,0+x.op*1,none⟩=some (.string h8) by rw [axE];exact Fb)) rfl (λa I=>atJ ?_);refine⟨rfl,aL,?_⟩;refine dU I rfl (λak ar=>k5) rfl (λa I=>?_);refine iw ?_;clear ba Fb cx aI h;revert a;refine ad λa I=>?_;refine eg (λq a wr=>∃k s,k<=a8.length/\q=a8.length - k/\Fr 43 [(1,.pointer (some ⟨w.heap.size,0,none⟩)),(7,.string s),(28,.slice ay a8.length c),(29,.int .i64 (a8.length:Nat)),(30,.int .i64 (k:Nat))] a/\s.size<=200*(k+1)/\hI wr a6.heap.size (.slice ay a8.length c) a8/\dd w.heap.size x wr/\Env wr/\Below w.heap.size w wr) a8.length
    ⟨0,h8,auc _,rfl,I.bb,bj,ao,aL,bF,hb⟩ ?_
  clear I a ao aL hb bF ld;rintro q a wr ⟨k,s,au,rfl,I,aG,ao,aL,bF,hb⟩;by_cases rm:k<a8.length
  · obtain⟨g,nm,z,f,e,bC,bA,av⟩:=ao.get rm;have e':ay=some ⟨g,0,none⟩/\c=nm:=by cases e;exact⟨rfl,rfl⟩
    rw [e'.1]at I;revert a;(repeat first|refine ag ?_|refine J (dq (j:=k)) ?_|refine J (bJ av) ?_);intro a I;refine b6 I jM λa bN bB br dw I=>?_;refine cE I (cs:=z.cells.toArray) bB (λv ao=>bA.one v (by simpa using ao)) λa bQ cI cM fm I=>?_;have bP:=aK (aK (atL _ wr) br (atI _)) cM bj;replace ao:=ao.below bP;replace aL:=aL.below bP;replace bF:=bF.below bP;replace bA:=bA.below bP;replace hb:=hb.trans (bP.mono hb.size);have tl:bQ.heap[wr.heap.size]? =some (.cells z.cells.toArray 80 (0,0)):=cI;have d3:bQ.cell? ⟨wr.heap.size,0+3,none⟩=some z.c3:=aF tl rfl;clear bB br dw cI cM fm bP av e;obtain⟨S,bS,sc⟩:=bA.at_;revert a;(repeat first|refine ag ?_|refine J (im underlying77 d3) ?_|refine J (bJ aL.all) ?_);intro a I;refine iZ I (sc.tx bQ x (λ_ _=>rfl) hx (alJ d' bC) bF) ⟨rfl,trivial⟩ (k:=λa v bt ab I=>?_);obtain⟨⟨t,rfl,bW⟩,b2⟩:=ab;replace ao:=ao.below b2;replace aL:=aL.below b2;replace bF:=bF.below b2;replace hb:=hb.trans (b2.mono hb.size);have U:(⟨#[32]⟩:ByteArray).size=1:=rfl;revert a;(repeat first|refine ag ?_|refine J (BZ (s:=⟨#[32]⟩) (u:=t) rfl rfl bj) ?_);intro a I;have b8:((⟨#[32]⟩:ByteArray)++t).size=1+t.size:=by rw [awR,U]
    revert a;(repeat first|refine ag ?_|refine J (BZ (s:=s) (u:=(⟨#[32]⟩:ByteArray)++t) rfl rfl (by rw [b8];omega)) ?_);intro a I;exact⟨a8.length - (k+1),bj,k+1,s++((⟨#[32]⟩:ByteArray)++t),bj,rfl,e'.1.symm▸I.bb,by rw [awR,b8];omega,ao,aL,bF,hb⟩
  · obtain rfl:k=a8.length:=bj
    revert a;refine ad λa I=>?_;exact eI I rfl rfl rfl ⟨⟨_,by rw [YE aj]⟩,hb⟩
end
section
variable {P:Program} {ops:Array Oper} {Q:Exit->Act->World->Prop} {a:Act} {w w':World} {rest:List Oper} {N:Nat} {l:List (Nat × Value)}
theorem qT(h:Fr N l a){x y:Operand}{g o:Nat}{cs c:Array Value}{t ty:TypeId}{pos:String}{bx:Array Edge}{n:Nat}(aG:(P.info? t).map (·.size)=some n)(ba:cs.size=n)(av:o+n<=c.size)(az:w.heap[g]? =some (.cells c e (0,0)))(ao:∀v∈cs,v.oneCell'=true)(hx:a7 l x (.pointer (some ⟨g,o,none⟩)):=by exact rfl)(aO:a7 l y (.agg cs):=by exact rfl)(k:∀aU w',w'.heap[g]? =some (.cells (c.toList.take o++cs.toList++c.toList.drop (o+n)).toArray e (0,0))->w.grownBy w' (some g)->w'.heap.size=w.heap.size->Fr N l aU->wpList P ops Q rest aU w'):
   wpList P ops Q (⟨none,.store t x y,ty,pos,bx,none⟩::rest) a w:=by
 subst ba;have aj:=run_storeCells_at (P:=P) g o e cs.toList 0 c w az bm (by simpa using ao);refine gv h (w':=w.setRow g (c.toList.take (o+0)++cs.toList++c.toList.drop (o+0+cs.toList.length)).toArray) ?_ rfl λaU I=>k aU _ ?_ ?_ (by simp [World.setRow]) I
 · intro cC aY d pos bx ae6;obtain⟨pb,U,ae⟩:=at7.1 aG;have la:(Value.agg cs).cells=cs:=rfl;simp [execOp,Instr.storeAt,Instr.sureAddr,storeVar,aY _ _ hx,aY _ _ aO,sizeOf,typeInfo,U,ae,la,aj]
 · rw [setRow_heap w g c _ e _ az];simp
 · exact⟨rfl,rfl,rfl,by simp [World.setRow],λk au b5=>setRow_other w g k _ (by intro e;exact b5 (by rw [e]))⟩
end
section
variable {P:Program} {Q:Exit->Act->World->Prop}
theorem r4(S:World->Prop)(R:Act->World->Prop)(t:qi)(id:Nat){l':List Oper}{a:Act}(hm:P.follows .mixedOrders=true)(aH:KR .any l'.toArray t=true)(bS:S (w.drewN 1))(au:∀a w,R a w->Q .normal a w)(h:k1 P l'.toArray (λ_ a w=>R a w) S l' t a (w.drewN 1)):(Code.region id l'.toArray true).wp P Q a w:=by
 simp only [KR,atP]at aH;have:=Bw (md:=.any) (S:=S) (λ_ a w=>R a w) aH.1 _ t _ a _ aH.2 bS h;refine ayQ hm (Hi ?_ _ _ _ _ (ayR _ _ _ _ this));rintro e a w ⟨rfl,h⟩;exact au _ _ h
end
section
attribute [local irreducible] wpList wpQuiet wpStill Code.wp Exit.then Exit.inBlock bodyPost Calls bL eT
theorem aei(h:ir x.op=some a8):encI x=x.op::h3 x a8:=by unfold encI;rw [h]
theorem aeh(hx:fc x):(encI x).length<=41:=by
 unfold encI;cases h:ir x.op with
 |none=>simp
 |some a8=>
  have U:=Ia hx a8;have ae:=EL h;simp only [aue];omega
theorem Mi:∀(p:List Ins),(∀x∈p,fc x)->(kM p).length<=41*p.length
 | [],_=>atI _
 |x::p,h=>by
  have U:=aeh (h x bl);have ae:=Mi p (λy aO=>h y (by simp [aO]));have:(kM (x::p)).length=(encI x).length+(kM p).length:=by simp [kM]
  rw [this,aue];omega
theorem aek{p:List Ins}{k:Nat}(h:k<p.length):kM (p.take (k+1))=kM (p.take k)++encI p[k]:=by
 unfold kM;rw [auP h,avT];simp
theorem aa6{p:List Ins}{k:Nat}(h:k<p.length):(p.take (k+1)).all dW=((p.take k).all dW&&dW p[k]):=by
 rw [auP h,List.all_append];simp
theorem aa2{p:List Ins}{k:Nat}(h:k<p.length)(aj:dW p[k]=false):p.all dW=false:=by
 refine avS.2 λe=>?_;have:=au7.1 e _ (at6 h);rw [aj]at this;cases this
theorem aef{k:Nat}(h:a8[k]? =some f):h3 x (a8.take (k+1))=h3 x (a8.take k)++ns x f:=(ZV (x:=x) h).1
theorem Yl{base n s:Nat}(h:w.ownsRow base e s v n xs)(hb:jG<=base):w.ownsRow jG e s v n xs:=PY h λk au=>by
 rcases h.2 with ⟨rfl,_⟩|⟨g,cap,cur,rfl,az,_⟩
 · simp [Value.ownBlock]at au
 · simp [Value.ownBlock]at au;subst au;omega
def wC(p:List Ins):Bool:=decide (p.length<=16384)&&p.all dW
theorem jN(x:Ins):∀v∈x.cells.toArray,v.oneCell'=true:=λv ao=>by simp [Ins.cells]at ao;rcases ao with rfl|rfl|rfl|rfl|rfl<;>rfl
theorem Tc(w:World)(p:List Ins)(aW:∀x∈p,fc x){ap:Option Addr}{cp:Nat}(cj:dA w ap 5 Ins.cells p)(hlen:p.length<2^62):bd prog 6 [.slice ap p.length cp].toArray w (λv w'=>
   ((wC p=true/\∃ay c,v=.tuple #[.slice ay (kM p).length c,.nilIface]/\w'.ownsRow w.heap.size 5 1 (.slice ay (kM p).length c) (kM p).length ((kM p).map ek))\/(wC p=false/\∃t u,v=.tuple #[.slice none 0 0,.iface t u]))/\Below w.heap.size w w'):=by
 refine cF func6 rfl 70 rfl 71 rfl (λa I=>?_);by_cases qu:p.length<=16384
 case neg=>
   have bW:decide ((p.length:Int)>16384)=true:=bm
   repeat' (first|refine fC ?_|refine fB _ ?_|refine atJ ?_|refine mb ?_|refine BS ?_|refine azB ?_|((apply st I);(first|exact hv|exact k5|exact ql|exact q6 (aA _ _ rfl)|exact uB (uy _ rfl));clear I;clear a;intro a I)|(apply HH I;exact rfl;first|exact rfl|assumption))
   all_goals first
   |exact eI I rfl rfl rfl ⟨.inr ⟨by unfold wC;simp [qu],_,_,rfl⟩,atL _ _⟩
   |(exfalso;omega)
 have bW:decide ((p.length:Int)>16384)=false:=bm
 revert a;refine ad λa I=>?_;refine aQ I (PB w) λa v aq ab I=>?_;obtain⟨⟨b,ch,cK,cg,ct,rfl,h⟩,kQ⟩:=ab;revert a;(repeat first|refine ag ?_|refine J (cA (vs:=[]) (cells:=(Bx none 0 0 (eQ 0)).toArray) bh trivial) ?_);intro a I;refine di I (cs:=(Bx none 0 0 (eQ 0)).toArray) rfl (k:=λa ax aP aS cZ I=>?_);have hb:=aK (atL _ aq) aS (atI _);have bY:iO ax aq.heap.size aq.heap.size (eQ 0) []:=⟨⟨none,0,aP,auH _ _ _ _⟩,atI _⟩;have ld:=kQ.size;clear aP aS cZ;revert a;refine ad λa I=>?_;refine eg (λq a wr=>∃k cz,k<=p.length/\q=p.length - k/\Fr 71 [(4,.map (some b)),(5,.pointer (some ⟨aq.heap.size,0,none⟩)),(19,.slice ap p.length cp),(20,.int .i64 (p.length:Nat)),(21,.int .i64 (k:Nat))] a/\iO wr aq.heap.size aq.heap.size cz (kM (p.take k))/\(p.take k).all dW=true/\Below aq.heap.size aq wr) p.length
   ⟨0,eQ 0,auc _,rfl,I.bb,bY,rfl,hb⟩ ?_
 clear I a bY hb;rintro q a wr ⟨k,cz,au,rfl,I,bY,j7,hb⟩;have Um:=(cj.below kQ).below hb;have dk:=kQ.trans (hb.mono ld);have gr:=Mi (p.take k) (λx hx=>aW x (awW hx));have tL:(p.take k).length<=16384:=bm
 by_cases bu:k<p.length
 · obtain⟨g,o,e,av⟩:=Um k bu;have hx:=aW _ (at6 bu);have asK:p[k]=p[k]:=rfl;generalize O4:p[k]=x at av hx;replace av:∀j v,x.cells.toArray[j]? =some v->wr.cell? ⟨g,o+k*5+j,none⟩=some v:=λj v ah=>av j v (by simpa using ah);rw [e]at I;revert a;(repeat first|refine ag ?_|refine J (dq (j:=k)) ?_|refine J (bJ av) ?_);intro a I;refine b6 I fK λa bN bB br dw I=>?_;revert a;refine ad λa I=>?_;refine cE I (cs:=x.cells.toArray) bB (jN x) λa bQ cI cM fm I=>?_;have bP:=aK (aK (atL _ wr) br (atI _)) cM bj;have aL:dd wr.heap.size x bQ:=cI;replace bY:=bY.below bP;replace hb:=hb.trans (bP.mono hb.size);clear bB br dw cI cM fm bP av Um;revert a;(repeat first|refine ag ?_|refine J (bJ aL.all) ?_);intro a I;refine aQ I (Qg bQ (h.below hb) x hx) λa v bt ab I=>?_;obtain⟨rfl,b2⟩:=ab;replace bY:=bY.below b2;replace aL:=aL.below b2;replace hb:=hb.trans (b2.mono hb.size);clear b2;cases aj:dW x with
   |false=>
    rw [aj]at I;revert a;refine ad λa I=>?_;refine aQ I (B8 bt 20 (k:Nat)) λa v cD ab I=>?_;obtain⟨rfl,mw⟩:=ab;subst mw;revert a;refine ad λa I=>?_;exact eI I rfl rfl rfl ⟨.inr ⟨by unfold wC;rw [aa2 bu (by rw [O4];exact aj),Bool.and_false],_,_,rfl⟩,kQ.trans (hb.mono ld)⟩
   |true=>
    rw [aj]at I;obtain⟨a8,dz,d'⟩:=nS aj;have rm:=tT dz;have pH:=EL dz;have aI:Below bt.heap.size bt (bt.drewN 1):=eU (atL _ bt) 1;have Cm:=aL.below aI;revert a;(repeat first|(intro a I;(refine r4 (dd wr.heap.size x) (λa u=>Fr 71 [(4,.map (some b)),(5,.pointer (some ⟨aq.heap.size,0,none⟩)),(7,.pointer (some ⟨wr.heap.size,0,none⟩)),(19,.slice (some ⟨g,o,none⟩) p.length cp),(20,.int .i64 (p.length:Nat)),(21,.int .i64 (k:Nat))] a/\dd wr.heap.size x u/\iO u aq.heap.size aq.heap.size x (kM (p.take k)++ [x.op])/\Below aq.heap.size aq u) (.read 0 (.read 1 (.read 2 (.read 6 (.read 11 (.read 3 (.read 4 (.read 7 (.read 8 (.two 5 9 (.cJ 9 (.cJ 10 (.read 12 (.read 13 (.cJ 14 (.read 15 (.read 16 (.cJ 17 .done)))))))) (.cJ 5 (.cJ 10 (.read 12 (.read 13 (.cJ 14 (.read 15 (.read 16 (.cJ 17 .done)))))))))))))))))) 9 mixed bh Cm ?_ ?_);revert a)|refine ag ?_);intro a I
    rotate_left
    · replace aL:=Cm;replace bY:=bY.below aI;replace hb:=hb.trans (aI.mono hb.size);clear aI Cm;generalize bt.drewN 1=gb at*;obtain⟨⟨ay,cap,az,aX⟩,cU⟩:=bY;refine dU I rfl (λak ar=>hv) rfl (λa I=>?_);refine dU I rfl (λak ar=>hv) rfl (λa I=>?_);refine dU I rfl (λak ar=>hv) rfl (λa I=>?_);refine dU I rfl (λak ar=>km (hz _ _ _ _ rfl) (aw _ _ rfl)) rfl (λa I=>?_);refine dU I rfl (λak ar=>bJ (dd.all ar)) rfl (λa I=>?_);refine dU I rfl (λak ar=>kL) rfl (λa I=>?_);refine dU I rfl (λak ar=>km (hz _ _ _ _ rfl) (aw _ _ rfl)) rfl (λa I=>?_);refine dU I rfl (λak ar=>im atX (dd.op ar)) rfl (λa I=>?_);refine dU I rfl (λak ar=>e8 (aA _ _ rfl) (aA _ _ rfl) rfl (D7 x.op)) rfl (λa I=>?_);refine ln rfl rfl ?_ ?_
      · refine st I (af (aF az (i:=0+0) rfl)) rfl (λa I=>atJ ⟨rfl,aL,?_⟩);refine dV rfl ?_;have aB:=e7 gb (.cells #[ek (x.op%256)] 5);have hu:(gb.alloc (.cells #[ek (x.op%256)] 5)).cell? ⟨gb.heap.size,0,none⟩=some (ek (x.op%256)):=aF (auE gb _) rfl;replace aL:=aL.below aB;refine st I (q5 (aA _ _ rfl) mT rfl) rfl (λa I=>atJ ⟨rfl,aL,?_⟩);replace az:=(aB.block _ (bO az)).trans az;replace aX:=cW aX aB;replace hb:=hb.trans (aB.mono hb.size);generalize gb.alloc _=fG at*;refine dV rfl ?_;refine xL I (aA _ _ rfl) mT rfl aX hu bj bn hb.size (k:=λa eM fr fU eR aS I=>?_);have aP:=aD az aS (jk aX az bk);have sj:dd wr.heap.size x fU:=aD aL aS (jk aX aL bk);replace hb:=j0 hb hb.size aX aS;refine atJ ⟨rfl,sj,?_⟩;refine dU I rfl (λak ar=>kL) rfl (λa I=>?_);refine dU I rfl (λak ar=>km (hz _ _ _ _ rfl) (aw _ _ rfl)) rfl (λa I=>?_);refine dV rfl ?_;refine cr I (aw _ _ rfl) aP (i:=0+0) (by show 0+0<6;decide) rfl rfl rfl (k:=λa fg bR bz eE I=>?_);have jz:=pW eR aP bk bz;have Ac:dd wr.heap.size x fg:=aD sj bz (by have:=c1 sj aP bk;simpa using this);replace hb:=aK hb bz hb.size;refine atJ ⟨rfl,Ac,?_⟩;refine dU I rfl (λak ar=>kL) rfl (λa I=>?_);refine dU I rfl (λak ar=>km (hz _ _ _ _ rfl) (aw _ _ rfl)) rfl (λa I=>?_);refine dV rfl ?_;refine qT I (o:=0+1) (cs:=x.cells.toArray) (aw _ _ rfl) rfl (by show 0+1+5<=6;decide) bR (jN x) (k:=λa jU bX bD eY I=>?_);have vc:=pW jz bR bk bD;have oX:dd wr.heap.size x jU:=aD Ac bD (by have:=c1 Ac bR bk;simpa using this);replace hb:=aK hb bD hb.size;refine atJ ⟨rfl,oX,?_⟩;rw [auU (by omega:x.op<256)]at vc;exact iw ⟨I.bb,oX,iO.push bX vc cU,hb⟩
      · have aB:=e7 gb (.cells #[ek (x.op%256)] 5);have hu:(gb.alloc (.cells #[ek (x.op%256)] 5)).cell? ⟨gb.heap.size,0,none⟩=some (ek (x.op%256)):=aF (auE gb _) rfl;replace aL:=aL.below aB;refine st I (q5 (aA _ _ rfl) mT rfl) rfl (λa I=>atJ ⟨rfl,aL,?_⟩);replace az:=(aB.block _ (bO az)).trans az;replace aX:=cW aX aB;replace hb:=hb.trans (aB.mono hb.size);generalize gb.alloc _=fG at*;refine dV rfl ?_;refine st I (af (aF az (i:=0+0) rfl)) rfl (λa I=>atJ ⟨rfl,aL,?_⟩);refine dV rfl ?_;refine xL I (aA _ _ rfl) mT rfl aX hu bj bn hb.size (k:=λa eM fr fU eR aS I=>?_);have aP:=aD az aS (jk aX az bk);have sj:dd wr.heap.size x fU:=aD aL aS (jk aX aL bk);replace hb:=j0 hb hb.size aX aS;refine atJ ⟨rfl,sj,?_⟩;refine dU I rfl (λak ar=>kL) rfl (λa I=>?_);refine dU I rfl (λak ar=>km (hz _ _ _ _ rfl) (aw _ _ rfl)) rfl (λa I=>?_);refine dV rfl ?_;refine cr I (aw _ _ rfl) aP (i:=0+0) (by show 0+0<6;decide) rfl rfl rfl (k:=λa fg bR bz eE I=>?_);have jz:=pW eR aP bk bz;have Ac:dd wr.heap.size x fg:=aD sj bz (by have:=c1 sj aP bk;simpa using this);replace hb:=aK hb bz hb.size;refine atJ ⟨rfl,Ac,?_⟩;refine dU I rfl (λak ar=>kL) rfl (λa I=>?_);refine dU I rfl (λak ar=>km (hz _ _ _ _ rfl) (aw _ _ rfl)) rfl (λa I=>?_);refine dV rfl ?_;refine qT I (o:=0+1) (cs:=x.cells.toArray) (aw _ _ rfl) rfl (by show 0+1+5<=6;decide) bR (jN x) (k:=λa jU bX bD eY I=>?_);have vc:=pW jz bR bk bD;have oX:dd wr.heap.size x jU:=aD Ac bD (by have:=c1 Ac bR bk;simpa using this);replace hb:=aK hb bD hb.size;refine atJ ⟨rfl,oX,?_⟩;rw [auU (by omega:x.op<256)]at vc;exact iw ⟨I.bb,oX,iO.push bX vc cU,hb⟩
    rintro a jU ⟨I,oX,bY,hb⟩;revert a;(repeat first|refine ag ?_|refine J (af oX.op) ?_);intro a I;refine aQ I (J2 jU (h.below hb) x.op hx.op) λa v cD ab I=>?_;obtain⟨⟨TA,u,tA,rfl,ao⟩|⟨tA,rfl⟩,c'⟩:=ab
    case inr=>rw [dz]at tA;cases tA
    rw [dz]at tA;cases tA
    replace bY:=bY.below c';replace hb:=hb.trans (c'.mono hb.size);clear c';obtain⟨bx,c,hu⟩:=ao.val;subst hu;revert a;refine ad λa I=>?_;refine eg (λq a cm=>∃j,j<=a8.length/\q=a8.length - j/\Fr 71 [(4,.map (some b)),(5,.pointer (some ⟨aq.heap.size,0,none⟩)),(19,.slice (some ⟨g,o,none⟩) p.length cp),(20,.int .i64 (p.length:Nat)),(21,.int .i64 (k:Nat)),(55,.slice bx a8.length c),(56,.int .i64 (a8.length:Nat)),(57,.int .i64 (j:Nat))] a/\iO cm aq.heap.size aq.heap.size x (kM (p.take k)++ [x.op]++h3 x (a8.take j))/\hI cm jU.heap.size (.slice bx a8.length c) a8/\Below aq.heap.size aq cm) a8.length
      ⟨0,auc _,rfl,I.bb,by simpa [h3]using bY,ao,hb⟩ ?_
    clear I a bY ao hb oX;rintro q a cm ⟨j,ah,rfl,I,bY,ao,hb⟩;have Nx:=Ia hx (a8.take j);have arv:(a8.take j).length<=4:=bm
    by_cases Au:j<a8.length
    · obtain⟨jx,nm,z,f,bf,bC,bA,av⟩:=ao.get Au;have e':bx=some ⟨jx,0,none⟩/\c=nm:=by cases bf;exact⟨rfl,rfl⟩
      rw [e'.1]at I;revert a;(repeat first|refine ag ?_|refine J (dq (j:=j)) ?_|refine J (bJ av) ?_);intro a I;refine b6 I jM λa bN bB br dw I=>?_;refine cE I (cs:=z.cells.toArray) bB (λv ao=>bA.one v (by simpa using ao)) λa bQ cI cM fm I=>?_;have bP:=aK (aK (atL _ cm) br (atI _)) cM bj;replace bY:=bY.below bP;replace ao:=ao.below bP;replace bA:=bA.below bP;replace hb:=hb.trans (bP.mono hb.size);have tl:bQ.heap[cm.heap.size]? =some (.cells z.cells.toArray 80 (0,0)):=cI;have d1:bQ.cell? ⟨cm.heap.size,0+1,none⟩=some z.bM:=aF tl rfl;clear bB br dw cI cM fm bP av bf;obtain⟨S,bS,sc⟩:=bA.at_;revert a;(repeat first|refine ag ?_|refine J (im underlying75 d1) ?_);intro a I;refine iZ I (sc.wr bQ _ _ x _ (λ_ _=>rfl) hx bY (by simp only [atV,aue,avd];omega) hb.size) ⟨rfl,trivial⟩ (k:=λa v cD ab I=>?_);obtain⟨OL,mw⟩:=ab;obtain⟨⟨_,_,yy,_⟩,_⟩:=id bY;replace ao:=ao.aax mw yy;replace hb:=hb.trans mw.below;revert a;refine ad λa I=>?_;exact⟨a8.length - (j+1),bj,j+1,bj,rfl,e'.1.symm▸I.bb,by rw [aef bC,<-auJ];exact OL,ao,hb⟩
    · obtain rfl:j=a8.length:=bj
      rw [av0]at bY;revert a;refine ad λa I=>?_;refine⟨p.length - (k+1),bj,k+1,x,bj,rfl,e.symm▸I.bb,?_,by rw [aa6 bu,j7,O4,aj];rfl,hb⟩;rw [aek bu,O4,aei dz];simpa using bY
 · obtain rfl:k=p.length:=bj
   rw [av0]at bY j7;obtain⟨⟨ay,cap,az,aX⟩,cU⟩:=bY;revert a;(repeat first|refine ag ?_|refine J (af (aF az (i:=0+0) rfl)) ?_);intro a I;exact eI I rfl rfl rfl ⟨.inl ⟨by unfold wC;rw [j7,aur qu];rfl,ay,cap,rfl,Yl aX ld⟩,dk⟩
theorem adW{aa r:List Nat}(hx:fc x)(aH:∀c∈aa,c<256)(h:iq x aa f=some (y,r)):fc y:=by
 cases f with
 |sm rg bq ai=>
  cases aa with
  |nil=>cases h
  |cons c q=>
   have av:=aH c bl;unfold iq at h;cases h
   cases rg
   · exact⟨hx.op,by show c<_;omega,hx.b,hx.n,hx.bK⟩
   · exact⟨hx.op,hx.a,by show c<_;omega,hx.n,hx.bK⟩
   · exact⟨hx.op,hx.a,hx.b,by show c<_;omega,hx.bK⟩
 |skip=>
  unfold iq at h;cases aG:jm aa 0 with
  |none=>rw [aG]at h;cases h
  |some p=>
   rw [aG]at h;cases h;exact⟨hx.op,hx.a,hx.b,by show min _ _<_;omega,hx.bK⟩
 |bytes=>
  cases aa with
  |nil=>cases h
  |cons c q=>
   have av:=aH c bl;unfold iq at h;cases h
   exact⟨hx.op,hx.a,hx.b,by show c<_;omega,hx.bK⟩
 |num=>
  unfold iq at h;cases aG:jm aa 0 with
  |none=>rw [aG]at h;cases h
  |some p=>
   rw [aG]at h;cases h;have:=(DF aa 0 p.1 p.2 aH aG).2.1;exact⟨hx.op,hx.a,hx.b,hx.n,by show p.1<_;omega⟩
 |sign=>
  unfold iq at h;cases aG:jm aa 0 with
  |none=>rw [aG]at h;cases h
  |some p=>
   rw [aG]at h;cases h;have:=(DF aa 0 p.1 p.2 aH aG).2.1;exact⟨hx.op,hx.a,hx.b,hx.n,by show p.1<_;omega⟩
theorem ad1{k c:Nat}{r:List Nat}(h:ir c=none):j2 k (c::r)=none:=by
 cases k with
 |zero=>rfl
 |succ k=>unfold j2;simp [r8,h]
theorem ad0{k c:Nat}{r:List Nat}(h:ir c=some a8)(ae:k6 (eQ c) r a8=none):j2 k (c::r)=none:=by
 cases k with
 |zero=>rfl
 |succ k=>unfold j2;simp [r8,h,ae]
theorem adZ{k c:Nat}{r:List Nat}(h:ir c=some a8)(ae:k6 (eQ c) r a8=some (y,nP))(aM:dW y=false):j2 k (c::r)=none:=by
 cases k with
 |zero=>rfl
 |succ k=>unfold j2;simp [r8,h,ae,aM]
theorem ad2{k c:Nat}{r:List Nat}(h:ir c=some a8)(ae:k6 (eQ c) r a8=some (y,nP))(aM:dW y=true):j2 (k+1) (c::r)=(j2 k nP).map λp=>y::p:=by
 rw [j2];simp [r8,h,ae,aM]
theorem ajb{c:Nat}(h:c<256):fc (eQ c):=⟨by show c<_;omega,by show 0<_;omega,by show 0<_;omega,by show 0<_;omega,by show 0<_;omega⟩
theorem SZ(w:World)(aa:List Nat)(gj:∀c∈aa,c<256){ht:Option Addr}{cb:Nat}(aH:ee w ht ek aa)(cY:∀p,ht=some p->p.block<w.heap.size)(u':aa.length<=1048576):bd prog 5 [.slice ht aa.length cb].toArray w (λv w'=>
   ((∃p ay c,j2 16384 aa=some p/\v=.tuple #[.slice ay p.length c,.nilIface]/\w'.ownsRow w.heap.size 66 5 (.slice ay p.length c) p.length (p.flatMap Ins.cells)/\(∀x∈p,fc x))\/(j2 16384 aa=none/\∃t u,v=.tuple #[.slice none 0 0,.iface t u]))/\Below w.heap.size w w'):=by
 refine cF func5 rfl 99 rfl 100 rfl (λa I=>?_);revert a;refine ad λa I=>?_;refine aQ I (PB w) λa v aq ab I=>?_;obtain⟨⟨b,ch,cK,cg,ct,rfl,h⟩,kQ⟩:=ab;have ld:=kQ.size;revert a;(repeat first|refine ag ?_|refine J (cA (vs:=[(0,.slice ht aa.length cb)]) (cells:=(xH ht aa.length cb 0 (eQ 0) .nilIface).toArray) bh ⟨rfl,rfl,trivial⟩) ?_);intro a I;refine di I (cs:=(xH ht aa.length cb 0 (eQ 0) .nilIface).toArray) rfl (k:=λa ax aP aS cZ I=>?_);have hb:=aK (atL _ aq) aS (atI _);have UD:∀p,ht=some p->p.block≠aq.heap.size:=λp aW=>by have:=cY p aW;omega
 have dv:iA ax aq.heap.size ht aa.length cb 0 (eQ 0) .nilIface aa:=⟨aP,(aH.below kQ).below hb,rfl,UD,u',gj⟩;have aX:=auH ax aq.heap.size 66 5;clear aP aS cZ;revert a;refine ad λa I=>?_;refine eg (λq a wr=>∃at_ cz ay cap all,q=16384- all.length/\Fr 100 [(0,.slice ht aa.length cb),(4,.slice ay all.length cap),(5,.map (some b)),(6,.pointer (some ⟨aq.heap.size,0,none⟩))] a/\iA wr aq.heap.size ht aa.length cb at_ cz .nilIface aa/\at_<=aa.length/\wr.ownsRow aq.heap.size 66 5 (.slice ay all.length cap) all.length (all.flatMap Ins.cells)/\(∀x∈all,fc x)/\all.length<=16384/\j2 16384 aa=(j2 (16384- all.length) (aa.drop at_)).map (all++ ·)/\Below aq.heap.size aq wr) 16384
   ⟨0,eQ 0,none,0,[],rfl,I.bb,dv,auc _,aX,λx hx=>(by cases hx),bk,bl,hb⟩ ?_
 clear I a dv aX hb;rintro q a wr ⟨at_,cz,ay,cap,all,rfl,I,dv,ha,aX,j7,arH,lP,hb⟩;have dk:=kQ.trans (hb.mono ld);have bM:wr.cell? ⟨aq.heap.size,0+1,none⟩=some (.int .i64 (at_:Nat)):=aF dv.cells rfl;by_cases bu:at_<aa.length
 · have cd:=aua bu;have I9:=gj _ (at6 bu);obtain⟨du,PR,fD,av⟩:=dv.rd at_ bu;generalize UW:aa[at_]=c at cd I9 av;by_cases ER:all.length=16384
   · have TO:(all.length:Int)=16384:=bj
     revert a;(repeat first|refine ag ?_|refine J (af bM) ?_);intro a I;refine aQ I (B8 wr 5 (at_:Nat)) λa v cD ab I=>?_;obtain⟨rfl,mw⟩:=ab;subst mw;revert a;refine ad λa I=>?_;exact eI I rfl rfl rfl ⟨.inr ⟨by rw [lP,ER,cd];rfl,_,_,rfl⟩,dk⟩
   · have TO:¬(all.length:Int)=16384:=bj
     rw [fD]at I;revert a;(repeat first|refine ag ?_|refine J (e8 (aA _ _ rfl) (aA _ _ rfl) rfl (Q9 I9)) ?_|refine J (af bM) ?_|refine J (af av) ?_);intro a I;refine aQ I (J2 wr (h.below hb) c bj) λa v bZ ab I=>?_;obtain⟨⟨a8,u,dz,rfl,ao⟩|⟨dz,rfl⟩,b7⟩:=ab
     case inr=>
       revert a;refine ad λa I=>?_;refine aQ I (B8 bZ 20 (at_:Nat)) λa v cD ab I=>?_;obtain⟨rfl,mw⟩:=ab;subst mw;revert a;refine ad λa I=>?_;exact eI I rfl rfl rfl ⟨.inr ⟨by rw [lP,cd,ad1 dz];rfl,_,_,rfl⟩,dk.trans (b7.mono dk.size)⟩
     replace dv:=dv.below b7;replace aX:=cW aX b7;replace hb:=hb.trans (b7.mono hb.size);replace av:=eG av b7;clear b7 dk bM;have pH:=EL dz;obtain⟨bx,LL,hu⟩:=ao.val;subst hu;revert a;(repeat first|refine ag ?_|refine J (cA (vs:=[(0,.int .i64 (c:Nat))]) (cells:=(eQ c).cells.toArray) bh ⟨rfl,rfl,trivial⟩) ?_|refine J (e8 (aA _ _ rfl) (aA _ _ rfl) rfl (Q9 I9)) ?_|refine J (af av) ?_);intro a I;refine cr I (aw _ _ rfl) dv.cells (i:=0+1) (by show 0+1<8;decide) rfl rfl rfl (k:=λa bN bB br dw I=>?_);have FY:=dv.set (at2:=at_+1) (y:=cz) (e':=.nilIface) bB br;replace aX:=pW aX dv.cells bk br;replace ao:=ao.EO br dv.cells;replace hb:=aK hb br hb.size;revert a;refine ad λa I=>?_;refine qT I (o:=0+2) (cs:=(eQ c).cells.toArray) (aw _ _ rfl) rfl (by show 0+2+5<=8;decide) FY.cells (jN _) (k:=λa bQ cI cM fm I=>?_);have FZ:=FY.set (at2:=at_+1) (y:=eQ c) (e':=.nilIface) cI cM;replace aX:=pW aX FY.cells bk cM;replace ao:=ao.EO cM FY.cells;replace hb:=aK hb cM hb.size;revert a;refine ad λa I=>?_;refine cr I (aw _ _ rfl) FZ.cells (i:=0+7) (by show 0+7<8;decide) rfl rfl rfl (k:=λa bt c8 cf fZ I=>?_);have VV:=FZ.set (at2:=at_+1) (y:=eQ c) (e':=.nilIface) c8 cf;replace aX:=pW aX FZ.cells bk cf;replace ao:=ao.EO cf FZ.cells;replace hb:=aK hb cf hb.size;clear dv FY FZ bB br dw cI cM fm c8 cf fZ av;revert a;refine ad λa I=>?_;refine eg (λq a cm=>∃j y at2,j<=a8.length/\q=a8.length - j/\Fr 100 [(0,.slice (some ⟨du,PR,none⟩) aa.length cb),(4,.slice ay all.length cap),(5,.map (some b)),(6,.pointer (some ⟨aq.heap.size,0,none⟩)),(7,.int .i64 (at_:Nat)),(63,.slice bx a8.length LL),(64,.int .i64 (a8.length:Nat)),(65,.int .i64 (j:Nat))] a/\iA cm aq.heap.size ht aa.length cb at2 y .nilIface aa/\at2<=aa.length/\k6 (eQ c) (aa.drop (at_+1)) a8=k6 y (aa.drop at2) (a8.drop j)/\fc y/\hI cm wr.heap.size (.slice bx a8.length LL) a8/\cm.ownsRow aq.heap.size 66 5 (.slice ay all.length cap) all.length (all.flatMap Ins.cells)/\Below aq.heap.size aq cm) a8.length
       ⟨0,eQ c,at_+1,auc _,rfl,I.bb,VV,bj,rfl,ajb I9,ao,aX,hb⟩ ?_
     clear I a VV ao aX hb;rintro q a cm ⟨j,y,at2,ah,rfl,I,dv,qq,u0,aO,ao,aX,hb⟩;have dk:=kQ.trans (hb.mono ld);by_cases Au:j<a8.length
     · obtain⟨jx,nm,z,f,bf,bC,bA,av⟩:=ao.get Au;have e':bx=some ⟨jx,0,none⟩/\LL=nm:=by cases bf;exact⟨rfl,rfl⟩
       rw [e'.1]at I;revert a;(repeat first|refine ag ?_|refine J (dq (j:=j)) ?_|refine J (bJ av) ?_);intro a I;refine b6 I jM λa bN bB br dw I=>?_;refine cE I (cs:=z.cells.toArray) bB (λv ao=>bA.one v (by simpa using ao)) λa bQ cI cM fm I=>?_;have bP:=aK (aK (atL _ cm) br (atI _)) cM bj;replace dv:=dv.below bP;replace ao:=ao.below bP;replace aX:=cW aX bP;replace bA:=bA.below bP;replace hb:=hb.trans (bP.mono hb.size);have tl:bQ.heap[cm.heap.size]? =some (.cells z.cells.toArray 80 (0,0)):=cI;have d2:bQ.cell? ⟨cm.heap.size,0+2,none⟩=some z.c2:=aF tl rfl;clear bB br dw cI cM fm bP av bf dk;obtain⟨S,bS,sc⟩:=bA.at_;revert a;(repeat first|refine ag ?_|refine J (im underlying76 d2) ?_);intro a I;refine iZ I (sc.rd bQ _ _ _ _ _ _ _ (λ_ _=>rfl) dv qq) ⟨rfl,trivial⟩ (k:=λa v bt ab I=>?_);obtain⟨cf,ab⟩:=ab;replace ao:=ao.EO cf dv.cells;replace aX:=pW aX dv.cells bk cf;replace hb:=aK hb cf hb.size;have NC:a8.drop j=f::a8.drop (j+1):=by
         rw [aua Au];rw [atT Au]at bC;rw [aud bC]
       rw [NC,k6]at u0;have lM:∀c∈aa.drop at2,c<256:=λc av=>gj c (auG av);rcases ab with ⟨qa,r,at3,nx,CQ,mu,IW⟩|⟨nx,at3,qa,ajw,aqo,CQ,IW⟩
       · rw [nx]at u0;have d7:bt.cell? ⟨aq.heap.size,0+7,none⟩=some .nilIface:=aF CQ.cells rfl;revert a;(repeat first|refine ag ?_|refine J (im au4 d7) ?_);intro a I;exact⟨a8.length - (j+1),bj,j+1,qa,at3,bj,rfl,e'.1.symm▸I.bb,CQ,IW,by rw [mu];exact u0,adW aO lM nx,ao,aX,hb⟩
       · rw [nx]at u0;have d7:bt.cell? ⟨aq.heap.size,0+7,none⟩=some (mg ajw 0 aqo):=aF CQ.cells rfl;revert a;(repeat first|refine ag ?_|refine J (im au4 d7) ?_|refine ck (λak ar=>im au4 (by obtain⟨n,rfl⟩:=ar;exact d7)) ?_|refine λ(_:Nat)=>?_);intros;rename_i g' a I;exact eI I rfl rfl rfl ⟨.inr ⟨by rw [lP,cd,ad0 dz u0];rfl,_,_,rfl⟩,kQ.trans ((hb.trans (cP.below ⟨_,rfl⟩ _)).mono ld)⟩
     · obtain rfl:j=a8.length:=bj
       rw [auD]at u0;replace u0:k6 (eQ c) (aa.drop (at_+1)) a8=some (y,aa.drop at2):=u0;have tu:∀j v,y.cells.toArray[j]? =some v->cm.cell? ⟨aq.heap.size,0+2+j,none⟩=some v:=λj v ah=>aF dv.cells (by rcases j with _|_|_|_|_|j<;>first|exact ah|(simp [Ins.cells]at ah));revert a;(repeat first|refine ag ?_|refine J (bJ tu) ?_);intro a I;refine aQ I (Qg cm (h.below hb) y aO) λa v bt ab I=>?_;obtain⟨rfl,b2⟩:=ab;replace tu:=λj v ah=>eG (tu j v ah) b2;replace dv:=dv.below b2;replace aX:=cW aX b2;replace hb:=hb.trans (b2.mono hb.size);cases aj:dW y with
       |false=>
         rw [aj]at I;revert a;refine ad λa I=>?_;refine aQ I (B8 bt 20 (at_:Nat)) λa v cD ab I=>?_;obtain⟨rfl,mw⟩:=ab;subst mw;revert a;refine ad λa I=>?_;exact eI I rfl rfl rfl ⟨.inr ⟨by rw [lP,cd,adZ dz u0 aj];rfl,_,_,rfl⟩,kQ.trans (hb.mono ld)⟩
       |true=>
         rw [aj]at I;revert a;(repeat first|refine ag ?_|refine J (bJ tu) ?_);intro a I;refine zk I (us:=y.cells.toArray) (aA _ _ rfl) fK rfl bk bk rfl (jN y) aX bj bn hb.size (k:=λa eM fr cD rq bE lL I=>?_);have agB:=aD dv.cells bE (jk aX dv.cells bk);replace hb:=j0 hb hb.size aX bE;revert a;refine ad λa I=>?_;obtain⟨m,hm⟩:∃m,16384- all.length=m+1:=⟨16384- all.length - 1,bj⟩;refine⟨16384- (all.length+1),bj,at2,y,eM,fr,all++ [y],bl,fD.symm▸(by simpa using I.xp (l':=[(0,.slice (some ⟨du,PR,none⟩) aa.length cb),(4,.slice eM (all.length+1) fr),(5,.map (some b)),(6,.pointer (some ⟨aq.heap.size,0,none⟩))]) ⟨rfl,rfl,rfl,rfl,trivial⟩),⟨agB,(aH.below kQ).below hb,rfl,UD,u',gj⟩,qq,by simpa using rq,?_,bm,?_,hb⟩
         · intro x hx;rcases aws.1 hx with h|h
           · exact j7 x h
           · simp at h;subst h;exact aO
         · rw [lP,cd,hm,ad2 dz u0 aj];have:16384- (all++ [y]).length=m:=bm
           rw [this];cases j2 m (aa.drop at2)<;>simp
 · obtain rfl:at_=aa.length:=bj
   rw [auD]at lP;revert a;(repeat first|refine ag ?_|refine J (af bM) ?_);intro a I;exact eI I rfl rfl rfl ⟨.inl ⟨all,ay,cap,by rw [lP];cases (16384- all.length)<;>simp [j2],rfl,Yl aX ld,j7⟩,dk⟩
end
end Go.Proofs.YtnkjmbbddmgjiaaGreatDoor