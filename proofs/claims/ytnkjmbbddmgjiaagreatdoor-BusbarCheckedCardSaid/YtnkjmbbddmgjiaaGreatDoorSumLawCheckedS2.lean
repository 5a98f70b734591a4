import Derived.Test.YtnkjmbbddmgjiaaGreatDoorSumLawCheckedS1
set_option linter.unusedSimpArgs false
set_option linter.unusedVariables false
set_option maxRecDepth 1000000
set_option maxHeartbeats 400000000
namespace Go.Proofs.YtnkjmbbddmgjiaaGreatDoor
open Go.RowKit Go.Proofs.Tryz
variable {v z hU key:Value}{w w':World}{j d jG N:Nat}{l':List Oper}{ty e:TypeId}{bx:Array Edge}{xs:List Value}{x y:Operand}{us:Array Value}{ay:Option Addr}{jF:Addr}{h2:TypeDesc}{dF:List (Lit × Value)}
theorem mixed:prog.follows .mixedOrders=true:=bh
def xu{β:Type}:List (Nat × β)->Nat->Option β
 | [],_=>none
 |p::l,t=>bif Nat.beq p.1 t then some p.2 else xu l t
theorem Xv{β:Type}:∀{l:List (Nat × β)} {t:Nat} {v:β},xu l t=some v->(t,v)∈l
 | [],_,_,h=>by cases h
 |p::l,t,v,h=>by
  unfold xu at h;cases e:Nat.beq p.1 t with
  |true=>rw [e]at h;cases h;rw [<-axN e];exact auy
  |false=>rw [e]at h;exact at0 _ (Xv h)
def yT{β:Type}(l:List (List (Nat × β)))(t:Nat):Option β:=(l[t/16]?).bind (xu · t)
theorem Gq{β Ho:Type}{l:List (List (Nat × β))}{f:Nat->Ho}{g:β->Ho}(h:(l.map λq=>q.map λp=>f p.1)=l.map λq=>q.map λp=>g p.2){t:Nat}{v:β}(e:yT l t=some v):f t=g v:=by
 obtain⟨q,U,ae⟩:=axs.1 e;exact awT.1 (awT.1 h q (auF U)) _ (Xv ae)
noncomputable abbrev fL (t:TypeId):=(prog.info? t).map λi=>(i.zero,i.size,i.bytes)
theorem sF:fL 3=some (some (.int .i64 0),1,8):=bh
theorem Gi:fL 4=some (some (.bool false),1,1):=bh
theorem mT:fL 5=some (some (.int .u8 0),1,1):=bh
theorem xl:fL 9=some (some (.string ⟨#[]⟩),1,16):=bh
theorem ai2:fL 25=some (some (.slice none 0 0),1,24):=bh
theorem WO:fL 27=some (some (.nilIface),1,16):=bh
theorem AO:fL 34=some (some (.int .u64 0),1,8):=bh
theorem sG:fL 39=some (some (.agg #[.bool false,.int .i64 0,.slice none 0 0,.slice none 0 0,.slice none 0 0,.int .i64 0]),6,96):=bh
theorem WR:fL 51=some (some (.agg #[.int .u32 0,.bool false,.slice none 0 0]),3,32):=bh
theorem C4:fL 55=some (some (.agg #[.string ⟨#[]⟩,.int .u64 0]),2,24):=bh
theorem fK:fL 66=some (some (.agg #[.int .i64 0,.int .i64 0,.int .i64 0,.int .i64 0,.int .u64 0]),5,40):=bh
theorem ai7:fL 70=some (some (.int .i64 0),1,8):=bh
theorem jM:fL 80=some (some (.agg #[.nilFunc,.nilFunc,.nilFunc,.nilFunc,.nilFunc]),5,40):=bh
theorem ai8:fL 85=some (some (.agg #[.int .u64 0,.int .u64 0,.int .u64 0,.int .u64 0,.int .u64 0,.int .u64 0,.int .u64 0,.int .u64 0,.int .u64 0,.int .u64 0,.int .u64 0,.int .u64 0,.int .u64 0,.int .u64 0,.int .u64 0,.int .u64 0]),16,128):=bh
theorem ai9:fL 92=some (some (.agg #[.slice none 0 0,.int .i64 0,.int .i64 0]),3,40):=bh
theorem ai':fL 95=some (some (.nilFunc),1,8):=bh
theorem aja:fL 97=some (some (.slice none 0 0),1,24):=bh
theorem Pe:fL 101=some (some (.agg #[.int .i64 0,.int .i64 0]),2,16):=bh
theorem JE:fL 103=some (some (.agg #[.int .i64 0,.int .i64 0,.string ⟨#[]⟩]),3,32):=bh
theorem Gh:fL 106=some (some (.agg #[.int .i64 0,.int .i64 0,.slice none 0 0]),3,40):=bh
theorem Pf:fL 110=some (some (.agg #[.bool false,.int .i64 0,.int .i64 0,.string ⟨#[]⟩,.int .i64 0,.int .i64 0,.slice none 0 0,.slice none 0 0,.slice none 0 0]),9,128):=bh
theorem WJ:fL 114=some (some (.agg #[.int .i64 0,.int .i64 0,.int .i64 0]),3,24):=bh
theorem yN:fL 124=some (some (.agg #[.int .i64 0,.int .i64 0,.int .u32 0,.bool false,.string ⟨#[]⟩,.int .i64 0,.string ⟨#[]⟩,.slice none 0 0]),8,88):=bh
theorem vm:fL 131=some (some (.agg #[.int .i64 0,.int .i64 0]),2,16):=bh
theorem kv:fL 133=some (some (.agg #[.int .i64 0,.int .i64 0,.string ⟨#[]⟩,.int .i64 0,.int .u64 0,.int .i64 0,.int .i64 0,.bool false,.bool false,.int .i64 0,.int .i64 0,.int .i64 0,.int .i64 0,.int .i64 0,.int .i64 0,.int .i64 0,.int .i64 0,.string ⟨#[]⟩,.slice none 0 0]),19,176):=bh
theorem WK:fL 137=some (some (.slice none 0 0),1,24):=bh
theorem aiY:fL 139=some (some (.agg #[.int .i64 0,.int .i64 0,.int .u32 0,.bool false,.string ⟨#[]⟩,.slice none 0 0]),6,64):=bh
theorem aiZ:fL 149=some (some (.agg #[.nilFunc,.nilFunc,.nilFunc,.nilFunc,.nilFunc,.nilFunc,.nilFunc,.nilFunc,.nilFunc,.nilFunc,.nilFunc,.nilFunc,.nilFunc,.nilFunc,.nilFunc,.nilFunc,.nilFunc,.nilFunc,.nilFunc,.nilFunc]),20,160):=bh
theorem lV:fL 157=some (some (.agg #[.nilFunc,.bool false,.nilFunc]),3,24):=bh
theorem ai0:fL 163=some (some (.agg #[.bool false,.int .u16 0]),2,4):=bh
theorem WL:fL 178=some (some (.nilIface),1,16):=bh
theorem WM:fL 180=some (some (.agg #[.int .i64 0,.string ⟨#[]⟩]),2,24):=bh
theorem WN:fL 197=some (some (.agg #[.int .u32 0,.bool false,.string ⟨#[]⟩]),3,24):=bh
theorem rv:fL 232=some (some (.agg #[.int .i64 0,.string ⟨#[]⟩,.int .i64 0,.int .i64 0]),4,40):=bh
theorem ai1:fL 246=some (some (.agg #[.int .i64 0,.string ⟨#[]⟩]),2,24):=bh
theorem ai3:fL 276=some (some (.map none),1,8):=bh
theorem yO:fL 286=some (some (.agg #[.bool false,.int .i64 0,.int .i64 0,.int .i64 0,.int .i64 0,.int .i64 0,.int .u64 0,.int .i64 0]),8,64):=bh
theorem WQ:fL 291=some (some (.agg #[.bool false,.bool false,.bool false,.bool false,.bool false,.bool false,.bool false,.bool false,.bool false,.bool false,.bool false,.bool false,.bool false,.bool false,.bool false,.bool false]),16,16):=bh
theorem JF:fL 292=some (some (.agg #[.bool false,.bool false,.bool false,.bool false,.bool false,.bool false,.bool false,.bool false,.bool false,.bool false,.bool false,.bool false,.bool false,.bool false,.bool false,.bool false]),16,16):=bh
theorem ai4:fL 326=some (some (.agg #[.int .u8 0,.int .u8 0,.int .u8 0,.int .u8 0,.int .u8 0,.int .u8 0,.int .u8 0,.int .u8 0,.int .u8 0,.int .u8 0,.int .u8 0,.int .u8 0,.int .u8 0,.int .u8 0,.int .u8 0,.int .u8 0,.int .u8 0,.int .u8 0,.int .u8 0,.int .u8 0,.int .u8 0,.int .u8 0,.int .u8 0,.int .u8 0]),24,24):=bh
theorem tN:fL 356=some (some (.agg #[.bool false,.bool false,.bool false,.bool false,.bool false,.bool false,.bool false,.bool false,.bool false,.bool false,.bool false,.bool false,.bool false,.bool false,.bool false,.bool false,.bool false,.bool false,.bool false,.bool false,.bool false,.bool false,.bool false,.bool false,.bool false,.bool false,.bool false,.bool false,.bool false,.bool false,.bool false,.bool false,.bool false,.bool false,.bool false,.bool false,.bool false,.bool false,.bool false,.bool false,.bool false,.bool false,.bool false,.bool false,.bool false,.bool false,.bool false,.bool false,.bool false,.bool false,.bool false,.bool false,.bool false,.bool false,.bool false,.bool false,.bool false,.bool false,.bool false,.bool false,.bool false,.bool false,.bool false,.bool false]),64,64):=bh
theorem ai5:fL 370=some (some (.agg #[.int .u8 0,.int .u8 0,.int .u8 0,.int .u8 0,.int .u8 0,.int .u8 0,.int .u8 0,.int .u8 0,.int .u8 0,.int .u8 0,.int .u8 0,.int .u8 0,.int .u8 0,.int .u8 0,.int .u8 0,.int .u8 0,.int .u8 0,.int .u8 0,.int .u8 0,.int .u8 0,.int .u8 0,.int .u8 0,.int .u8 0,.int .u8 0,.int .u8 0,.int .u8 0,.int .u8 0,.int .u8 0,.int .u8 0,.int .u8 0,.int .u8 0,.int .u8 0,.int .u8 0,.int .u8 0,.int .u8 0,.int .u8 0,.int .u8 0,.int .u8 0,.int .u8 0,.int .u8 0,.int .u8 0,.int .u8 0,.int .u8 0,.int .u8 0,.int .u8 0,.int .u8 0,.int .u8 0,.int .u8 0,.int .u8 0,.int .u8 0,.int .u8 0,.int .u8 0,.int .u8 0,.int .u8 0,.int .u8 0,.int .u8 0,.int .u8 0,.int .u8 0,.int .u8 0,.int .u8 0,.int .u8 0,.int .u8 0,.int .u8 0,.int .u8 0,.int .u8 0]),65,65):=bh
theorem ai6:fL 386=some (some (.agg #[.pointer none,.slice none 0 0]),2,32):=bh
theorem Pg:fL 412=some (some (.agg #[.bool false,.string ⟨#[]⟩,.int .i64 0]),3,32):=bh
def QY:List (List (Nat × TypeDesc)):=[[(2,.int .i64),(3,.int .i64),(4,.bool),(5,.int .u8),(6,.int .u8),(9,.string),(10,.string),(11,.string),(12,.int .u64),(15,.pointer 445)],[(16,.pointer 448),(17,.pointer 455),(21,.int .i32),(22,.slice 5),(23,.slice 34),(25,.slice 66)],[(34,.int .u64),(37,.slice 4),(46,.pointer 121)],[(49,.int .u32),(56,.slice 55),(61,.map 3 150),(62,.map 3 150)],[(64,.pointer 68),(70,.int .i64),(71,.slice 80)],[(81,.pointer 83),(85,.array 16 34),(93,.slice 95)],[(97,.slice 178),(104,.slice 9),(107,.slice 124),(108,.slice 139)],[(117,.pointer 114),(118,.map 9 125),(119,.map 136 125),(122,.slice 133),(125,.pointer 129),(126,.map 9 3),(127,.slice 137)],[(137,.slice 246),(143,.slice 3)],[(159,.slice 163)],[(160,.int .u16),(161,.int .u16),(166,.int .u64),(170,.slice 232),(173,.pointer 175)],[(187,.pointer 192),(188,.map 9 4),(189,.map 197 4),(190,.map 197 133)],[(201,.int .u64)],[(208,.int .u8),(215,.pointer 3),(216,.pointer 66)],[(229,.pointer 163)],[(249,.map 2 4),(252,.pointer 461)],[(261,.slice 27),(263,.pointer 25)],[(272,.array 256 5),(274,.slice 276),(275,.map 3 34),(276,.map 3 34),(281,.slice 291)],[(290,.slice 292),(291,.array 16 4),(292,.array 16 4)],[(314,.array 16 313)],[(322,.int .i64),(323,.pointer 366),(326,.array 24 5),(331,.slice 333),(335,.pointer 375)],[],[(352,.pointer 133),(355,.array 64 4),(356,.array 64 4),(360,.map 34 356)],[(369,.array 20 34),(370,.array 65 5),(372,.slice 377),(373,.slice 380)],[(384,.pointer 386),(396,.array 4 131),(399,.pointer 5)],[(400,.pointer 402),(404,.pointer 377),(405,.pointer 380)],[(419,.slice 70),(424,.array 32 5),(425,.array 64 5),(428,.array 256 4),(429,.array 256 4)],[(433,.pointer 429),(446,.array 0 16)],[(450,.int .u8),(452,.int .i32),(453,.int .i32),(462,.pointer 465)],[(466,.slice 469),(467,.int .i32),(470,.pointer 27)]]
def apm(t:Nat):Option TypeDesc:=yT QY t
theorem apn:(QY.map λq=>q.map λp=>prog.underlying p.1)=QY.map λq=>q.map λp=>some p.2:=bh
theorem aA(t:Nat)(d:TypeDesc)(h:apm t=some d):prog.underlying t=some d:=Gq (f:=prog.underlying) (g:=some) apn h
def aoR:List (List (Nat × Option Nat)):=[[(7,some 4),(8,some 4),(13,some 2),(14,some 2)],[],[(38,some 6),(39,some 6)],[(50,some 3),(51,some 3),(54,some 2),(55,some 2)],[(65,some 5),(66,some 5),(67,some 8),(68,some 8),(79,some 5)],[(80,some 5),(82,some 6),(83,some 6),(85,some 16),(91,some 3),(92,some 3)],[(100,some 2),(101,some 2),(102,some 3),(103,some 3),(105,some 3),(106,some 3),(109,some 9),(110,some 9)],[(113,some 3),(114,some 3),(120,some 3),(121,some 3),(123,some 8),(124,some 8)],[(128,some 12),(129,some 12),(130,some 2),(131,some 2),(132,some 19),(133,some 19),(135,some 2),(136,some 2),(138,some 6),(139,some 6)],[(148,some 20),(149,some 20),(156,some 3),(157,some 3)],[(162,some 2),(163,some 2)],[(179,some 2),(180,some 2),(191,some 4)],[(192,some 4),(196,some 3),(197,some 3),(202,some 3),(203,some 3)],[],[(231,some 4),(232,some 4)],[(245,some 2),(246,some 2)],[],[(272,none),(283,some 4),(284,some 4),(285,some 8),(286,some 8)],[(291,some 16),(292,some 16)],[(312,some 2),(313,some 2),(314,some 32)],[(326,some 24),(332,some 2),(333,some 2)],[],[(355,some 64),(356,some 64),(365,some 3),(366,some 3)],[(369,some 20),(370,some 65),(374,some 3),(375,some 3),(376,some 3),(377,some 3),(379,some 3),(380,some 3)],[(385,some 2),(386,some 2),(396,some 8)],[(411,some 3),(412,some 3)],[(424,some 32),(425,some 64),(428,none),(429,none)],[(444,some 4),(445,some 4),(446,some 0),(447,some 0)],[(448,some 0),(454,some 11),(455,some 11),(460,some 2),(461,some 2)],[(464,some 5),(465,some 5),(468,some 4),(469,some 4)]]
def KK(t:Nat):Option Nat:=bif Nat.blt t 471 then(yT aoR t).getD (some 1)else none
theorem aoS:((List.range 471).map λt=>(KK t).bind λ_=>(prog.info? t).map (·.size))=(List.range 471).map KK:=bh
theorem aw(t:Nat)(n:Nat)(h:KK t=some n):(prog.info? t).map (·.size)=some n:=by
 have hb:Nat.blt t 471=true:=by
  cases e:Nat.blt t 471 with
  |true=>rfl
  |false=>unfold KK at h;rw [e]at h;cases h
 have:=awT.1 aoS t (azq.2 (by simpa using hb));rw [h]at this;exact this
def Pa(d:TypeDesc):Bool:=match d with| .interface _=>true|_=>false
def Pb:List (List (Nat × Unit)):=[[],[20,26,27],[],[],[],[],[],[],[],[],[],[177,178],[205,206],[],[],[],[256,259,260],[],[],[],[],[],[],[],[],[408]].map λq=>q.map λt=>(t,())
def WH(t:Nat):Bool:=(yT Pb t).isSome
theorem aiT:(Pb.map λq=>q.map λp=>(prog.underlying p.1).map Pa)=Pb.map λq=>q.map λ_=>some true:=bh
theorem aiS(t:Nat)(h:WH t=true):(prog.underlying t).map Pa=some true:=by
 obtain⟨u,hu⟩:=awt.1 h;exact Gq (f:=λt=>(prog.underlying t).map Pa) (g:=λ_=>some true) aiT hu
def Lk:List (List (Nat × Unit)):=[[7,8,13,14],[18,19],[38,39],[50,51,54,55],[65,66,67,68,79],[80,82,83,85,91,92],[100,101,102,103,105,106,109,110],[113,114,120,121,123,124],[128,129,130,131,132,133,135,136,138,139],[148,149,156,157],[162,163,174,175],[179,180,191],[192,196,197,202,203],[],[231,232],[245,246,250,251],[],[272,283,284,285,286],[291,292],[312,313,314],[326,332,333],[],[355,356,365,366],[369,370,374,375,376,377,379,380],[385,386,396],[401,402,411,412],[424,425,428,429],[444,445,446,447],[448,454,455,460,461],[464,465,468,469]].map λq=>q.map λt=>(t,())
def aaY(t:Nat):Bool:=(yT Lk t).isSome
theorem aaZ:(Lk.map λq=>q.map λp=>(prog.underlying p.1).map n0)=Lk.map λq=>q.map λ_=>some true:=bh
theorem agg(t:Nat)(h:aaY t=true):(prog.underlying t).map n0=some true:=by
 obtain⟨u,hu⟩:=awt.1 h;exact Gq (f:=λt=>(prog.underlying t).map n0) (g:=λ_=>some true) aaZ hu
def LX:List (List (Nat × Unit)):=[[2,3,4,5,6,7,8,9,10,11,12,13,14,15],[16,17,18,19,21,22,23,25],[34,37,38,39,46],[49,50,51,54,55,56],[64,65,66,67,68,70,71,79],[80,81,82,83,91,92,93],[97,100,101,102,103,104,105,106,107,108,109,110],[113,114,117,120,121,122,123,124,125,127],[128,129,130,131,132,133,135,136,137,138,139,143],[148,149,156,157,159],[160,161,162,163,166,170,173,174,175],[179,180,187,191],[192,196,197,201,202,203],[208,215,216],[229,231,232],[245,246,250,251,252],[261,263],[274,281,283,284,285,286],[290],[312,313],[322,323,331,332,333,335],[],[352,365,366],[372,373,374,375,376,377,379,380],[384,385,386,399],[400,401,402,404,405,411,412],[419],[433,444,445,447],[448,450,452,453,454,455,460,461,462],[464,465,466,467,468,469,470]].map λq=>q.map λt=>(t,())
def ac'(t:Nat):Bool:=(yT LX t).isSome
theorem ada:(LX.map λq=>q.map λp=>(prog.underlying p.1).map Ex)=LX.map λq=>q.map λ_=>some true:=bh
theorem uy(t:Nat)(h:ac' t=true):(prog.underlying t).map Ex=some true:=by
 obtain⟨u,hu⟩:=awt.1 h;exact Gq (f:=λt=>(prog.underlying t).map Ex) (g:=λ_=>some true) ada hu
theorem lU(t:Nat)(h:WH t=true):∃ms,prog.underlying t=some (.interface ms):=by
 have:=aiS t h;cases e:prog.underlying t with
 |none=>rw [e]at this;cases this
 |some d=>
  rw [e]at this;cases d with
  |interface ms=>exact⟨ms,rfl⟩
  |_=>cases this
def Mu:List (List (Nat × List (Nat × Nat))):=[[(7,[(0,2),(1,3),(2,4),(3,6)]),(8,[(0,2),(1,3),(2,4),(3,6)]),(13,[(0,9),(1,12)]),(14,[(0,9),(1,12)])],[(18,[(0,17)]),(19,[(0,17)])],[(38,[(0,4),(1,3),(2,22),(3,23),(4,37),(5,3)]),(39,[(0,4),(1,3),(2,22),(3,23),(4,37),(5,3)])],[(50,[(0,49),(1,4),(2,22)]),(51,[(0,49),(1,4),(2,22)]),(54,[(0,9),(1,34)]),(55,[(0,9),(1,34)])],[(65,[(0,3),(1,3),(2,3),(3,3),(4,34)]),(66,[(0,3),(1,3),(2,3),(3,3),(4,34)]),(67,[(0,22),(1,3),(2,66),(7,27)]),(68,[(0,22),(1,3),(2,66),(7,27)]),(79,[(0,74),(1,75),(2,76),(3,77),(4,78)])],[(80,[(0,74),(1,75),(2,76),(3,77),(4,78)]),(82,[(0,22),(1,66)]),(83,[(0,22),(1,66)]),(91,[(0,25),(1,3),(2,3)]),(92,[(0,25),(1,3),(2,3)])],[(100,[(0,3),(1,3)]),(101,[(0,3),(1,3)]),(102,[(0,101),(2,9)]),(103,[(0,101),(2,9)]),(105,[(0,101),(2,104)]),(106,[(0,101),(2,104)]),(109,[(0,4),(1,103),(4,106),(7,107),(8,108)]),(110,[(0,4),(1,103),(4,106),(7,107),(8,108)])],[(113,[(0,70),(1,3),(2,3)]),(114,[(0,70),(1,3),(2,3)]),(120,[(0,104),(1,118),(2,119)]),(121,[(0,104),(1,118),(2,119)]),(123,[(0,101),(2,49),(3,4),(4,9),(5,3),(6,9),(7,122)]),(124,[(0,101),(2,49),(3,4),(4,9),(5,3),(6,9),(7,122)])],[(128,[(0,124),(8,25),(9,25),(10,126),(11,127)]),(129,[(0,124),(8,25),(9,25),(10,126),(11,127)]),(130,[(0,2),(1,2)]),(131,[(0,2),(1,2)]),(132,[(0,101),(2,9),(3,3),(4,34),(5,3),(6,3),(7,4),(8,4),(9,131),(11,131),(13,131),(15,131),(17,9),(18,104)]),(133,[(0,101),(2,9),(3,3),(4,34),(5,3),(6,3),(7,4),(8,4),(9,131),(11,131),(13,131),(15,131),(17,9),(18,104)]),(135,[(0,49),(1,4)]),(136,[(0,49),(1,4)]),(138,[(0,101),(2,49),(3,4),(4,9),(5,137)]),(139,[(0,101),(2,49),(3,4),(4,9),(5,137)])],[(148,[(0,80),(5,80),(10,80),(15,80)]),(149,[(0,80),(5,80),(10,80),(15,80)]),(156,[(0,154),(1,4),(2,155)]),(157,[(0,154),(1,4),(2,155)])],[(162,[(0,4),(1,161)]),(163,[(0,4),(1,161)]),(174,[(0,170)]),(175,[(0,170)])],[(179,[(0,3),(1,9)]),(180,[(0,3),(1,9)]),(191,[(0,188),(1,188),(2,189),(3,190)])],[(192,[(0,188),(1,188),(2,189),(3,190)]),(196,[(0,49),(1,4),(2,9)]),(197,[(0,49),(1,4),(2,9)]),(202,[(0,17),(1,200),(2,201)]),(203,[(0,17),(1,200),(2,201)])],[],[(231,[(0,3),(1,9),(2,101)]),(232,[(0,3),(1,9),(2,101)])],[(245,[(0,2),(1,9)]),(246,[(0,2),(1,9)]),(250,[(0,17)]),(251,[(0,17)])],[],[(283,[(0,4),(1,3),(2,3),(3,3)]),(284,[(0,4),(1,3),(2,3),(3,3)]),(285,[(0,284),(4,3),(5,3),(6,34),(7,3)]),(286,[(0,284),(4,3),(5,3),(6,34),(7,3)])],[],[(312,[(0,5),(1,5)]),(313,[(0,5),(1,5)])],[(332,[(0,3),(1,3)]),(333,[(0,3),(1,3)])],[],[(365,[(0,9),(1,9),(2,27)]),(366,[(0,9),(1,9),(2,27)])],[(374,[(0,372),(1,373),(2,3)]),(375,[(0,372),(1,373),(2,3)]),(376,[(0,160),(1,160),(2,160)]),(377,[(0,160),(1,160),(2,160)]),(379,[(0,49),(1,49),(2,49)]),(380,[(0,49),(1,49),(2,49)])],[(385,[(0,384),(1,22)]),(386,[(0,384),(1,22)])],[(401,[(0,9)]),(402,[(0,9)]),(411,[(0,4),(1,9),(2,3)]),(412,[(0,4),(1,9),(2,3)])],[],[(444,[(0,17),(1,17),(2,17),(3,9)]),(445,[(0,17),(1,17),(2,17),(3,9)]),(447,[(0,446)])],[(448,[(0,446)]),(454,[(0,12),(1,12),(2,49),(3,450),(4,5),(5,5),(6,208),(7,451),(8,399),(9,452),(10,453)]),(455,[(0,12),(1,12),(2,49),(3,450),(4,5),(5,5),(6,208),(7,451),(8,399),(9,452),(10,453)]),(460,[(0,9),(1,208)]),(461,[(0,9),(1,208)])],[(464,[(0,452),(1,160),(2,160),(3,49),(4,49)]),(465,[(0,452),(1,160),(2,160),(3,49),(4,49)]),(468,[(0,452),(1,453),(2,467),(3,467)]),(469,[(0,452),(1,453),(2,467),(3,467)])]]
noncomputable def Mt(t:Nat):List (Nat × Nat):=match prog.underlying t with|some (.struct a8)=>a8.toList.map λfd=>(fd.offset,fd.type)|_=>[]
theorem aeL:(Mu.map λq=>q.map λp=>Mt p.1)=Mu.map λq=>q.map λp=>p.2:=bh
def Ts(t f:Nat):Option (Nat × Nat):=(yT Mu t).bind (·[f]?)
theorem hz(t f off uL:Nat)(h:Ts t f=some (off,uL)):La prog t f off uL:=by
 unfold Ts at h;obtain⟨l,aN,bC⟩:=axs.1 h;have av:=Gq (f:=Mt) (g:=id) aeL aN;simp only [id]at av;rw [<-av]at bC;unfold Mt at bC;cases e:prog.underlying t with
 |none=>rw [e]at bC;cases bC
 |some d=>
  rw [e]at bC;cases d with
  |struct a8=>
   simp only [List.getElem?_map,at7,awS,azh]at bC;obtain⟨fd,U,ae,aM⟩:=bC;exact⟨a8,fd,e,U,ae,aM⟩
  |_=>cases bC
theorem LF:dc prog 7:=⟨⟨_,func7,bh,bh⟩⟩
theorem abV:dc prog 13:=⟨⟨_,func13,bh,bh⟩⟩
theorem abY:dc prog 14:=⟨⟨_,func14,bh,bh⟩⟩
theorem ab5:dc prog 18:=⟨⟨_,func18,bh,bh⟩⟩
theorem ab8:dc prog 19:=⟨⟨_,func19,bh,bh⟩⟩
theorem Sa:dc prog 27:=⟨⟨_,func27,bh,bh⟩⟩
theorem Sc:dc prog 29:=⟨⟨_,func29,bh,bh⟩⟩
theorem Sd:dc prog 30:=⟨⟨_,func30,bh,bh⟩⟩
theorem acn:dc prog 33:=⟨⟨_,func33,bh,bh⟩⟩
theorem aco:dc prog 34:=⟨⟨_,func34,bh,bh⟩⟩
theorem acp:dc prog 44:=⟨⟨_,func44,bh,bh⟩⟩
theorem acq:dc prog 45:=⟨⟨_,func45,bh,bh⟩⟩
theorem acr:dc prog 47:=⟨⟨_,func47,bh,bh⟩⟩
theorem Se:dc prog 48:=⟨⟨_,func48,bh,bh⟩⟩
theorem HJ:dc prog 49:=⟨⟨_,func49,bh,bh⟩⟩
theorem Sf:dc prog 50:=⟨⟨_,func50,bh,bh⟩⟩
theorem HK:dc prog 51:=⟨⟨_,func51,bh,bh⟩⟩
theorem acs:dc prog 52:=⟨⟨_,func52,bh,bh⟩⟩
theorem acu:dc prog 53:=⟨⟨_,func53,bh,bh⟩⟩
theorem Sg:dc prog 54:=⟨⟨_,func54,bh,bh⟩⟩
theorem acv:dc prog 55:=⟨⟨_,func55,bh,bh⟩⟩
theorem acw:dc prog 56:=⟨⟨_,func56,bh,bh⟩⟩
theorem acx:dc prog 57:=⟨⟨_,func57,bh,bh⟩⟩
theorem acy:dc prog 64:=⟨⟨_,func64,bh,bh⟩⟩
theorem acz:dc prog 65:=⟨⟨_,func65,bh,bh⟩⟩
theorem acA:dc prog 66:=⟨⟨_,func66,bh,bh⟩⟩
theorem acB:dc prog 67:=⟨⟨_,func67,bh,bh⟩⟩
theorem acC:dc prog 71:=⟨⟨_,func71,bh,bh⟩⟩
theorem acD:dc prog 86:=⟨⟨_,func86,bh,bh⟩⟩
theorem acE:dc prog 87:=⟨⟨_,func87,bh,bh⟩⟩
theorem acF:dc prog 88:=⟨⟨_,func88,bh,bh⟩⟩
theorem acG:dc prog 90:=⟨⟨_,func90,bh,bh⟩⟩
theorem acH:dc prog 91:=⟨⟨_,func91,bh,bh⟩⟩
theorem Sh:dc prog 93:=⟨⟨_,func93,bh,bh⟩⟩
theorem acI:dc prog 95:=⟨⟨_,func95,bh,bh⟩⟩
theorem Si:dc prog 96:=⟨⟨_,func96,bh,bh⟩⟩
theorem Sj:dc prog 98:=⟨⟨_,func98,bh,bh⟩⟩
theorem abK:dc prog 100:=⟨⟨_,func100,bh,bh⟩⟩
theorem abL:dc prog 101:=⟨⟨_,azf,bh,bh⟩⟩
theorem LA:dc prog 103:=⟨⟨_,func103,bh,bh⟩⟩
theorem abM:dc prog 104:=⟨⟨_,func104,bh,bh⟩⟩
theorem abN:dc prog 109:=⟨⟨_,func109,bh,bh⟩⟩
theorem abO:dc prog 110:=⟨⟨_,func110,bh,bh⟩⟩
theorem abP:dc prog 111:=⟨⟨_,func111,bh,bh⟩⟩
theorem abQ:dc prog 112:=⟨⟨_,func112,bh,bh⟩⟩
theorem abR:dc prog 113:=⟨⟨_,func113,bh,bh⟩⟩
theorem abS:dc prog 114:=⟨⟨_,func114,bh,bh⟩⟩
theorem abT:dc prog 115:=⟨⟨_,func115,bh,bh⟩⟩
theorem abU:dc prog 116:=⟨⟨_,func116,bh,bh⟩⟩
theorem abW:dc prog 134:=⟨⟨_,func134,bh,bh⟩⟩
theorem R5:dc prog 137:=⟨⟨_,func137,bh,bh⟩⟩
theorem abX:dc prog 138:=⟨⟨_,func138,bh,bh⟩⟩
theorem LB:dc prog 141:=⟨⟨_,func141,bh,bh⟩⟩
theorem R6:dc prog 148:=⟨⟨_,func148,bh,bh⟩⟩
theorem LC:dc prog 154:=⟨⟨_,axR,bh,bh⟩⟩
theorem abZ:dc prog 157:=⟨⟨_,func157,bh,bh⟩⟩
theorem ab0:dc prog 158:=⟨⟨_,func158,bh,bh⟩⟩
theorem ab1:dc prog 159:=⟨⟨_,func159,bh,bh⟩⟩
theorem ab2:dc prog 161:=⟨⟨_,func161,bh,bh⟩⟩
theorem ab3:dc prog 162:=⟨⟨_,func162,bh,bh⟩⟩
theorem ab4:dc prog 178:=⟨⟨_,func178,bh,bh⟩⟩
theorem R7:dc prog 180:=⟨⟨_,func180,bh,bh⟩⟩
theorem ab6:dc prog 181:=⟨⟨_,func181,bh,bh⟩⟩
theorem ab7:dc prog 182:=⟨⟨_,func182,bh,bh⟩⟩
theorem LD:dc prog 183:=⟨⟨_,func183,bh,bh⟩⟩
theorem ab9:dc prog 191:=⟨⟨_,func191,bh,bh⟩⟩
theorem ab':dc prog 199:=⟨⟨_,func199,bh,bh⟩⟩
theorem aca:dc prog 210:=⟨⟨_,ayj,bh,bh⟩⟩
theorem acb:dc prog 211:=⟨⟨_,ayk,bh,bh⟩⟩
theorem acd:dc prog 212:=⟨⟨_,ayl,bh,bh⟩⟩
theorem ace:dc prog 223:=⟨⟨_,func223,bh,bh⟩⟩
theorem acf:dc prog 225:=⟨⟨_,func225,bh,bh⟩⟩
theorem R8:dc prog 262:=⟨⟨_,func262,bh,bh⟩⟩
theorem acg:dc prog 264:=⟨⟨_,func264,bh,bh⟩⟩
theorem R9:dc prog 268:=⟨⟨_,func268,bh,bh⟩⟩
theorem ach:dc prog 274:=⟨⟨_,func274,bh,bh⟩⟩
theorem aci:dc prog 277:=⟨⟨_,func277,bh,bh⟩⟩
theorem acj:dc prog 278:=⟨⟨_,func278,bh,bh⟩⟩
theorem Sb:dc prog 279:=⟨⟨_,azg,bh,bh⟩⟩
theorem ack:dc prog 282:=⟨⟨_,func282,bh,bh⟩⟩
theorem acm:dc prog 286:=⟨⟨_,func286,bh,bh⟩⟩
section
variable {P:Program} {ops:Array Oper} {md:Region.Mode} {S:World->Prop} {Q Q':Exit->Act->World->Prop}
theorem Gy{o:Oper}{a:Act}{K:Act->World->Prop}(aZ:∀e a w,e≠.normal->Q' e a w->Q e a w)(fa:o.wp P a w K Q'):o.wp P a w K Q:=by
 unfold Oper.wp at*;generalize (execOp a.eval o).run P w=r at*;cases r with
 |ok n w'=>
  cases n<;>simp only [Oper.upon]at fa ⊢ <;>
   first
    |exact fa
    |exact auC fa (λe w'' he=>by
     cases e with
     |returned v=>exact he
     |panicked c=>exact aZ _ _ _ bl he
     |outgrown=>obtain⟨x,y,h⟩:=he;exact⟨x,y,aZ _ _ _ bl h⟩)
 |halt x w'=>
  cases x<;>simp only [Oper.upon]at fa ⊢ <;>first|exact fa|exact aZ _ _ _ bl fa
theorem akh(aZ:∀e a w,Q' e a w->Q e a w)(h:LetsOut Q'):LetsOut Q:=by
 obtain⟨x,y,h⟩:=h;exact⟨x,y,aZ _ _ _ h⟩
theorem ap9{i:Nat}{a:Act}{K:Act->World->Prop}(aZ:∀e a w,Q' e a w->Q e a w)(fa:wpOp P ops Q' i K a w):wpOp P ops Q i K a w:=by
 unfold wpOp at*;split
 · simpa [*]using fa
 · rename_i o bp;simp only [bp]at fa;split
   · rename_i hw;simp only [hw,ayw]at fa;exact fa.imp (Gy (λe a w _=>aZ e a w)) (λ⟨U,ae⟩=>⟨U,akh aZ ae⟩)
   · rename_i hw;simp only [hw]at fa;exact fa
theorem Hi(aZ:∀e a w,Q' e a w->Q e a w):∀(fuel:Nat) (listed:Array Bool) (a:Act) (w:World),wpAny P md ops Q' fuel listed a w->wpAny P md ops Q fuel listed a w
 | 0,_,_,_,h=>⟨h.1,aZ _ _ _ h.2⟩
 |fuel+1,_,_,_,h=>⟨λaJ=>aZ _ _ _ (h.1 aJ),λi ai=>azD (λaU w' e9=>Hi aZ fuel _ aU w' e9) (ap9 aZ (h.2 i ai))⟩
theorem AW{listed:Array Bool}(h:j∈Region.ready md ops listed):∃o,ops[j]? =some o:=by
 obtain⟨_,o,bp,_⟩:=mem_ready.1 h;exact⟨o,bp⟩
variable {a:Act} {w w':World} {rest:List Oper} {N:Nat} {l:List (Nat × Value)} {K:Act->Prop}
def l3(P:Program)(ops:Array Oper)(Q:Exit->Act->World->Prop)(S:World->Prop):List (Oper × Bool)->Act->World->Prop
 | [],a,w=>Q .normal a w
 |(o,true)::rest,a,w=>∃v,YieldsIf P ops S o v a/\l3 P ops Q S rest (a.put o.dst v) w
 |(o,false)::rest,a,w=>wpList P ops (λe aU w'=>e=.normal/\S w'/\l3 P ops Q S rest aU w') [o] a w
def AX(md:Region.Mode)(ops:Array Oper):List (Nat × Bool)->Array Bool->Bool
 | [],listed=>(Region.ready md ops listed).isEmpty
 |(i,true)::is,listed=>(Region.ready md ops listed).contains i&&Region.free md ops listed i&&AX md ops is (listed.setIfInBounds i true)
 |(t,false)::is,listed=>decide (Region.ready md ops listed=[t])&&AX md ops is (listed.setIfInBounds t true)
def PC(md:Region.Mode)(ops:Array Oper)(is:List (Nat × Bool)):Bool:=
 Region.noSelect ops&&decide (is.length=ops.size)&&AX md ops is (Array.replicate ops.size false)
def fF(l:List Oper)(is:List (Nat × Bool)):List (Oper × Bool):=is.filterMap λi=>(l[i.1]?).map (·,i.2)
theorem Yy{l:List Oper}{i:Nat}{b:Bool}{is:List (Nat × Bool)}{o:Oper}(h:l[i]? =some o):fF l ((i,b)::is)=(o,b)::fF l is:=by simp [fF,h]
theorem K6{l:List Oper}(Q:Exit->Act->World->Prop)(aG:Region.noSelect l.toArray=true):∀(is:List (Nat × Bool)) (listed:Array Bool) (a:Act) (w:World),AX md l.toArray is listed=true->S w->
  l3 P l.toArray Q S (fF l is) a w->wpAnyH P md l.toArray (λe a w=>e=.normal/\Q .normal a w) S is.length listed a w
 | [],listed,a,w,aH,_,h=>⟨by simpa [AX]using aH,rfl,by simpa [fF,l3]using h⟩
 |(i,true)::is,listed,a,w,aH,bS,h=>by
  simp only [AX,atP]at aH;obtain⟨⟨aj,bC⟩,EU⟩:=aH;obtain⟨o,bp⟩:=AW (by simpa using aj:i∈Region.ready md l.toArray listed);rw [Yy (by simpa using bp)]at h;obtain⟨v,aO,au⟩:=h;exact wpAnyH_take bp aG bC aj (λc a w h=>by cases h.1) aO bS (K6 Q aG is _ _ w EU bS au)
 |(t,false)::is,listed,a,w,aH,bS,h=>by
  simp only [AX,atP,atQ]at aH;refine⟨λU=>(by rw [aH.1]at U;cases U),λi ai=>?_⟩;obtain⟨o,bp⟩:=AW ai;rw [aH.1]at ai;have Vg:i=t:=by simpa using ai
  subst Vg;rw [Yy (by simpa using bp)]at h;simp only [l3,wpList]at h;unfold wpOp;simp only [bp];split
  · rename_i hw;rw [atM hw]at h;rcases h with h|⟨_,x,y,h,_⟩
    · refine .inl (Gy (Q':=λe aU w'=>e=.normal/\S w'/\l3 P l.toArray Q S (fF l is) aU w') (λe aU w' ba e9=>absurd e9.1 ba) (azd ?_ h));rintro aU w' ⟨_,U,ae⟩;exact⟨U,K6 Q aG is _ aU w' aH.2 U ae⟩
    · cases h
  · rename_i hw;rw [atK hw]at h;exact⟨h.2.1,K6 Q aG is _ _ _ aH.2 h.2.1 h.2.2⟩
theorem gJ(S:World->Prop)(is:List (Nat × Bool))(id:Nat){a:Act}(hm:P.follows .mixedOrders=true)(aH:PC .any l'.toArray is=true)(bS:S (w.drewN 1))(h:l3 P l'.toArray Q S (fF l' is) a (w.drewN 1)):(Code.region id l'.toArray true).wp P Q a w:=by
 simp only [PC,atP,atQ]at aH;obtain⟨⟨U,ae⟩,aM⟩:=aH;have:=K6 (md:=.any) (S:=S) Q U is _ a _ aM bS h;rw [ae]at this;refine ayQ hm (Hi ?_ _ _ _ _ (ayR _ _ _ _ this));rintro e a w ⟨rfl,h⟩;exact h
section
variable {a:Act} {w:World} {rJ:List (Oper × Bool)} {N:Nat} {l:List (Nat × Value)}
theorem fj(h:Q .normal a w):l3 P ops Q S [] a w:=h
theorem aaA(h:Fr N l a){op:Op}{pos:String}{bx:Array Edge}(aj:∀w,S w->bL P l w op ty v w)(aI:Nat.blt d N=true:=by exact rfl)(k:∀aU,Fr N ((d,v)::l) aU->l3 P ops Q S rJ aU w):l3 P ops Q S ((⟨some d,op,ty,pos,bx,none⟩,true)::rJ) a w:=
 ⟨v,.inl ⟨by simp [Region.wanted],λw hw=>aj w hw a.eval h.eval _ _ _ _⟩,k _ (h.put aI v)⟩
theorem aaB(h:Fr N l a){d:Nat}{op:Op}{ty:TypeId}{pos:String}{bx:Array Edge}{v:Value}{e:Nat}{b:Bool}(ah:(ops[j]?).bind (·.dst)=some e:=by exact rfl)(hb:look l e=some (.bool b):=by exact rfl)(aj:∀w,S w->bL P l w op ty v w)(aI:Nat.blt d N=true:=by exact rfl)(k:∀aU,Fr N ((d,v)::l) aU->l3 P ops Q S rJ aU w):l3 P ops Q S ((⟨some d,op,ty,pos,bx,some (j,b)⟩,true)::rJ) a w:=
 ⟨v,.inl ⟨by simp [Region.wanted,xR (ops:=ops) h ah hb],λw hw=>aj w hw a.eval h.eval _ _ _ _⟩,k _ (h.put aI v)⟩
theorem aqh(h:Fr N l a){op:Op}{ty:TypeId}{pos:String}{bx:Array Edge}{e:Nat}{b c:Bool}(ah:(ops[j]?).bind (·.dst)=some e:=by exact rfl)(hb:look l e=some (.bool c):=by exact rfl)(b5:c= !b:=by exact rfl)(aI:Nat.blt d N=true:=by exact rfl)(k:∀aU,Fr N ((d,undef)::l) aU->l3 P ops Q S rJ aU w):l3 P ops Q S ((⟨some d,op,ty,pos,bx,some (j,b)⟩,true)::rJ) a w:=
 ⟨undef,.inr ⟨by subst b5;simp [Region.wanted,xR (ops:=ops) h ah hb],rfl⟩,k _ (h.put aI _)⟩
theorem aqi(h:Fr N l a){op:Op}{ty:TypeId}{pos:String}{bx:Array Edge}{e:Nat}{b:Bool}(ah:(ops[j]?).bind (·.dst)=some e:=by exact rfl)(hb:look l e=some undef:=by exact rfl)(aI:Nat.blt d N=true:=by exact rfl)(k:∀aU,Fr N ((d,undef)::l) aU->l3 P ops Q S rJ aU w):l3 P ops Q S ((⟨some d,op,ty,pos,bx,some (j,b)⟩,true)::rJ) a w:=
 ⟨undef,.inr ⟨by simp [Region.wanted,Rd (ops:=ops) h ah hb],rfl⟩,k _ (h.put aI _)⟩
theorem c7{o:Oper}(h:wpList P ops (λe aU w'=>e=.normal/\S w'/\l3 P ops Q S rJ aU w') [o] a w):l3 P ops Q S ((o,false)::rJ) a w:=h
end
end
inductive qi where
 |done
 |read (i:Nat) (k:qi)
 |cJ (t:Nat) (k:qi)
 |two (t u:Nat) (vq vr:qi)
section
variable {P:Program} {md:Region.Mode} {Q:Exit->Act->World->Prop} {S:World->Prop}
def sT(md:Region.Mode)(ops:Array Oper):Nat->qi->Array Bool->Bool
 | 0,.done,listed=>(Region.ready md ops listed).isEmpty
 |n+1,.read i k,listed=>(Region.ready md ops listed).contains i&&Region.free md ops listed i&&sT md ops n k (listed.setIfInBounds i true)
 |n+1,.cJ t k,listed=>decide (Region.ready md ops listed=[t])&&sT md ops n k (listed.setIfInBounds t true)
 |n+1,.two t u vq vr,listed=>(decide (Region.ready md ops listed=[t,u])||decide (Region.ready md ops listed=[u,t]))&&sT md ops n vq (listed.setIfInBounds t true)&&sT md ops n vr (listed.setIfInBounds u true)
 |_,_,_=>false
def KR(md:Region.Mode)(ops:Array Oper)(t:qi):Bool:=Region.noSelect ops&&sT md ops ops.size t (Array.replicate ops.size false)
def k1(P:Program)(ops:Array Oper)(Q:Exit->Act->World->Prop)(S:World->Prop)(l:List Oper):qi->Act->World->Prop
 | .done,a,w=>Q .normal a w
 | .read i k,a,w=>∀o,l[i]? =some o->∃v,YieldsIf P ops S o v a/\k1 P ops Q S l k (a.put o.dst v) w
 | .cJ t k,a,w=>∀o,l[t]? =some o->wpList P ops (λe aU w'=>e=.normal/\S w'/\k1 P ops Q S l k aU w') [o] a w
 | .two t u vq vr,a,w=>(∀o,l[t]? =some o->wpList P ops (λe aU w'=>e=.normal/\S w'/\k1 P ops Q S l vq aU w') [o] a w)/\(∀o,l[u]? =some o->wpList P ops (λe aU w'=>e=.normal/\S w'/\k1 P ops Q S l vr aU w') [o] a w)
theorem J5{l:List Oper}{i:Nat}{o:Oper}{R:Act->World->Prop}{a:Act}(bp:l.toArray[i]? =some o)(h:wpList P l.toArray (λe aU w'=>e=.normal/\S w'/\R aU w') [o] a w):
   wpOp P l.toArray (λe a w=>e=.normal/\Q .normal a w) i (λaU w'=>S w'/\R aU w') a w:=by
 simp only [wpList]at h;unfold wpOp;simp only [bp];split
 · rename_i hw;rw [atM hw]at h;rcases h with h|⟨_,x,y,h,_⟩
   · refine .inl (Gy (Q':=λe aU w'=>e=.normal/\S w'/\R aU w') (λe aU w' ba e9=>absurd e9.1 ba) (azd ?_ h));rintro aU w' ⟨_,U,ae⟩;exact⟨U,ae⟩
   · cases h
 · rename_i hw;rw [atK hw]at h;exact h.2
theorem Bw{l:List Oper}(Q:Exit->Act->World->Prop)(aG:Region.noSelect l.toArray=true):∀(n:Nat) (t:qi) (listed:Array Bool) (a:Act) (w:World),sT md l.toArray n t listed=true->S w->
  k1 P l.toArray Q S l t a w->wpAnyH P md l.toArray (λe a w=>e=.normal/\Q .normal a w) S n listed a w
 | 0,.done,listed,a,w,aH,bS,h=>⟨by simpa [sT]using aH,rfl,by simpa [k1]using h⟩
 |n+1,.read i k,listed,a,w,aH,bS,h=>by
  simp only [sT,atP]at aH;obtain⟨⟨aj,bC⟩,EU⟩:=aH;obtain⟨o,bp⟩:=AW (by simpa using aj:i∈Region.ready md l.toArray listed);obtain⟨v,aO,au⟩:=h o (by simpa using bp);exact wpAnyH_take bp aG bC aj (λc a w h=>by cases h.1) aO bS (Bw Q aG n k _ _ w EU bS au)
 |n+1,.cJ t k,listed,a,w,aH,bS,h=>by
  simp only [sT,atP,atQ]at aH;refine⟨λU=>(by rw [aH.1]at U;cases U),λi ai=>?_⟩;obtain⟨o,bp⟩:=AW ai;rw [aH.1]at ai;obtain rfl:i=t:=by simpa using ai
  refine azD ?_ (J5 (R:=λaU w'=>k1 P l.toArray Q S l k aU w') bp (h o (by simpa using bp)));rintro aU w' ⟨aM,cc⟩;exact⟨aM,Bw Q aG n k _ aU w' aH.2 aM cc⟩
 |n+1,.two t u vq vr,listed,a,w,aH,bS,h=>by
  simp only [sT,atP,au9,atQ]at aH;obtain⟨⟨aj,mM⟩,ey⟩:=aH;have ahq:∀i,i∈Region.ready md l.toArray listed->i=t\/i=u:=λi ai=>by
    rcases aj with e|e<;>rw [e]at ai<;>simp at ai<;>omega
  refine⟨λU=>(by rcases aj with e|e<;>(rw [e]at U;cases U)),λi ai=>?_⟩;obtain⟨o,bp⟩:=AW ai;rcases ahq i ai with rfl|rfl
  · refine azD ?_ (J5 (R:=λaU w'=>k1 P l.toArray Q S l vq aU w') bp (h.1 o (by simpa using bp)));rintro aU w' ⟨aM,cc⟩;exact⟨aM,Bw Q aG n vq _ aU w' mM aM cc⟩
  · refine azD ?_ (J5 (R:=λaU w'=>k1 P l.toArray Q S l vr aU w') bp (h.2 o (by simpa using bp)));rintro aU w' ⟨aM,cc⟩;exact⟨aM,Bw Q aG n vr _ aU w' ey aM cc⟩
 | 0,.read _ _,_,_,_,aH,_,_=>by cases aH
 | 0,.cJ _ _,_,_,_,aH,_,_=>by cases aH
 | 0,.two _ _ _ _,_,_,_,aH,_,_=>by cases aH
 |_+1,.done,_,_,_,aH,_,_=>by cases aH
theorem Eu(S:World->Prop)(t:qi)(id:Nat){a:Act}(hm:P.follows .mixedOrders=true)(aH:KR .any l'.toArray t=true)(bS:S (w.drewN 1))(h:k1 P l'.toArray Q S l' t a (w.drewN 1)):(Code.region id l'.toArray true).wp P Q a w:=by
 simp only [KR,atP]at aH;have:=Bw (md:=.any) (S:=S) Q aH.1 _ t _ a _ aH.2 bS h;refine ayQ hm (Hi ?_ _ _ _ _ (ayR _ _ _ _ this));rintro e a w ⟨rfl,h⟩;exact h
variable {ops:Array Oper} {a:Act} {w:World} {N:Nat} {l:List (Nat × Value)} {L:List Oper} {i:Nat} {k:qi}
theorem iw(h:Q .normal a w):k1 P ops Q S L .done a w:=h
theorem dU(h:Fr N l a){op:Op}{pos:String}(bp:L[i]? =some ⟨some d,op,ty,pos,bx,none⟩)(aj:∀w,S w->bL P l w op ty v w)(aI:Nat.blt d N=true:=by exact rfl)(cS:∀aU,Fr N ((d,v)::l) aU->k1 P ops Q S L k aU w):k1 P ops Q S L (.read i k) a w:=by
 intro o nD;rw [bp]at nD;cases nD
 exact⟨v,.inl ⟨by simp [Region.wanted],λw hw=>aj w hw a.eval h.eval _ _ _ _⟩,cS _ (h.put aI v)⟩
theorem dV{o:Oper}(bp:L[i]? =some o)(h:wpList P ops (λe aU w'=>e=.normal/\S w'/\k1 P ops Q S L k aU w') [o] a w):k1 P ops Q S L (.cJ i k) a w:=by
 intro my nD;rw [bp]at nD;cases nD
 exact h
theorem ln{t u:Nat}{vq vr:qi}{o kb:Oper}(bp:L[t]? =some o)(e0:L[u]? =some kb)(h:wpList P ops (λe aU w'=>e=.normal/\S w'/\k1 P ops Q S L vq aU w') [o] a w)(ae:wpList P ops (λe aU w'=>e=.normal/\S w'/\k1 P ops Q S L vr aU w') [kb] a w):k1 P ops Q S L (.two t u vq vr) a w:=by
 refine⟨λmy nD=>?_,λmy nD=>?_⟩
 · rw [bp]at nD;cases nD;exact h
 · rw [e0]at nD;cases nD;exact ae
end
theorem J'{base:Nat}{e':TypeId}{s eP:Nat}{iy:Value}{n sJ:Nat}{aqj:List Value}(h:w.ownsRow base e s v n xs)(e9:w.ownsRow jG e' eP iy sJ aqj)(b5:e≠e')(an:w.grownBy w' iy.ownBlock):w'.ownsRow base e s v n xs:=by
 refine h.kept an ?_;rcases h.2 with ⟨rfl,_⟩|⟨g,cap,cur,rfl,_,az,_⟩
 · exact Or.inl rfl
 · right;rcases e9.2 with ⟨rfl,_⟩|⟨g2,fr,aqG,rfl,_,aP,_⟩
   · simp [Value.ownBlock]
   · intro x;simp only [Value.ownBlock,auW]at x;subst x;rw [az]at aP;cases aP
     exact b5 rfl
theorem PY{base:Nat}{s:Nat}{n:Nat}(h:w.ownsRow base e s v n xs)(hb:∀k,v.ownBlock=some k->jG<=k):w.ownsRow jG e s v n xs:=by
 refine⟨h.1,?_⟩;rcases h.2 with aJ|⟨g,cap,cur,rfl,_,r⟩
 · exact .inl aJ
 · exact .inr ⟨g,cap,cur,rfl,hb g rfl,r⟩
theorem PX{base:Nat}{s:Nat}{n:Nat}(h:w.ownsRow base e s v n xs){r:Option Nat}(an:w.grownBy w' r)(b5:∀k,v.ownBlock=some k->r≠some k):w'.ownsRow base e s v n xs:=by
 refine h.kept an ?_;cases ao:v.ownBlock with
 |none=>exact Or.inl rfl
 |some k=>right;intro x;exact b5 k ao x.symm
theorem tV{base:Nat}{g c:Nat}(h:w.ownsRow base e 1 (.slice (some ⟨g,0,none⟩) N c) N xs){i:Nat}(ai:i<xs.length):w.cell? ⟨g,0+i,none⟩=some xs[i]:=by
 have aN:=h.1;rw [axE]at aN;rcases h.2 with ⟨aJ,_⟩|⟨jx,ev,cur,aJ,hb,az,hle,hm,bT,gZ⟩
 · cases aJ
 · cases aJ
   rw [aub];refine aF az ?_;have:(cur.toList.take (N*1))[i]? =some xs[i]:=by rw [gZ];simp [ai]
   rw [axg bj]at this;simpa using this
section
variable {P:Program} {ops:Array Oper} {Q:Exit->Act->World->Prop} {a:Act} {w w':World} {rest:List Oper} {N:Nat} {l:List (Nat × Value)}
theorem np{sz:Nat}{t:TypeId}{fQ:Nat}(b0:P.underlying t=some (.slice e))(ai:(P.info? e).map (λi=>(i.zero,i.size,i.bytes))=some (some z,sz,fQ))(aJ:0<sz)(U:sz<=16777216)(yG:us.size=sz)(hx:a7 l x (.agg us):=by exact rfl):bL P l w (.buildSlice t 1 [(0,x)].toArray) ty (.slice (some ⟨w.heap.size,0,none⟩) 1 1) (w.alloc (.cells us e)):=by
 intro cC aY d pos bx g;obtain⟨i,g1,g2,g3,g4⟩:=avH ai;subst g3;have bC:=Great.fill_whole (s:=i.size) aJ [.agg us] ((Array.range (1*i.size)).map (z.cells[· %z.cells.size]!)) (by intro v ao;simp at ao;subst ao;exact yG) bl;have bw:([Value.agg us].flatMap λv=>v.cells.toList).toArray=us:=by simp [Value.cells]
 rw [bw]at bC;have aj:=run_buildSlice (P:=P) w t e 1 #[(0,.agg us)] us i z b0 g1 g2 bj bj (by simpa using bC);simp [execOp,aY _ _ hx,aj]
theorem zk(h:Fr N l a){q4:Nat}{s:Operand}{sz:Nat}{t ty DY:TypeId}{pos pos':String}{bx BL:Array Edge}{bytes n base cap:Nat}(b0:P.underlying t=some (.slice e))(ai:(P.info? e).map (λi=>(i.zero,i.size,i.bytes))=some (some z,sz,bytes))(bA:z.cells.size=sz)(aJ:0<sz)(U:sz<=16777216)(yG:us.size=sz)(hu:∀v∈us,v.oneCell'=true)(aX:w.ownsRow base e sz (.slice ay n cap) n xs)(lM:(n+1)*bytes<=140737488355328)(hm:n+1<=maxLen)(mm:base<=w.heap.size)(hx:a7 l x (.agg us):=by exact rfl)(aG:a7 ((d,.slice (some ⟨w.heap.size,0,none⟩) 1 1)::l) s (.slice ay n cap):=by exact rfl)(aI:Nat.blt d N=true:=by exact rfl)(pG:Nat.blt q4 N=true:=by exact rfl)(k:∀aU ej ev w',w'.ownsRow base e sz (.slice ej (n+1) ev) (n+1) (xs++us.toList)->w.grownBy w' (Value.slice ay n cap).ownBlock->((Value.slice ej (n+1) ev).ownBlock=(Value.slice ay n cap).ownBlock\/(Value.slice ej (n+1) ev).ownBlock=some (w.heap.size+1))->Fr N ((q4,.slice ej (n+1) ev)::(d,.slice (some ⟨w.heap.size,0,none⟩) 1 1)::l) aU->wpList P ops Q rest aU w'):
   wpList P ops Q (⟨some d,.buildSlice t 1 [(0,x)].toArray,ty,pos,bx,none⟩::⟨some q4,.call { callee:=.builtin .append,args:=[s,.tmp d].toArray,argTypes:=[t,t].toArray },DY,pos',BL,none⟩::rest) a w:=by
 refine st h (np b0 ai aJ U yG hx) aI λe6 jI=>?_;obtain⟨i,g1,g2,g3,g4⟩:=avH ai;have tz:e6.eval (.tmp d)=.slice (some ⟨w.heap.size,0,none⟩) 1 1:=jI.eval _ _ (by simp [a7,Da]);refine awX _ rfl s (.tmp d) t rfl base e i z sz bytes b0 g1 g2 g3 g4 bA aJ (.slice ay n cap) n xs (jI.eval _ _ aG) (aX.alloc _)
   ⟨w.heap.size,0,none⟩ 1 1 us.toList tz (by simp [yG]) ?_ ?_ hm lM bm ?_
 · intro j v ah;rw [addr_add,aub];exact aF (auE w _) (by simpa using ah)
 · intro v ao;exact hu v (by simpa using ao)
 · intro iy w' mr an CM lL;obtain⟨ej,ev,rfl,_,_⟩:=tW mr;refine k _ ej ev w' mr ?_ (by simpa using lL) (jI.put pG _);exact⟨an.os,an.tape,an.output,by have:=an.size;simp at this;omega,λk au b5=>by rw [an.block k bm b5];exact axV _ _ _ au⟩
def dA{α:Type}(w:World)(a:Option Addr)(sz:Nat)(enc:α->List Value)(xs:List α):Prop:=
 ∀i (h:i<xs.length),∃b o,a=some ⟨b,o,none⟩/\∀q v,(enc xs[i])[q]? =some v->w.cell? ⟨b,o+i*sz+q,none⟩=some v
theorem dA.below{α:Type}{a:Option Addr}{sz:Nat}{enc:α->List Value}{xs:List α}(h:dA w a sz enc xs)(hb:Below w.heap.size w w'):dA w' a sz enc xs:=by
 intro i ai;obtain⟨b,o,ha,av⟩:=h i ai;exact⟨b,o,ha,λq v aZ=>(hb.cell (p:=⟨b,o+i*sz+q,none⟩) (aui w _ (av q v aZ))).trans (av q v aZ)⟩
theorem flat_get{α:Type}{enc:α->List Value}{sz:Nat}(he:∀x,(enc x).length=sz):∀(xs:List α) (i:Nat) (h:i<xs.length) (q:Nat),q<sz->(xs.flatMap enc)[i*sz+q]? =(enc xs[i])[q]?
 |x::xs,0,_,q,aZ=>by
  rw [awU,Nat.zero_mul,aub,auK (by rw [he];exact aZ)];rfl
 |x::xs,i+1,h,q,aZ=>by
  have e9:i<xs.length:=by simpa using h
  rw [awU,avg (by rw [he,av7];omega)];rw [he,show(i+1)*sz+q - sz=i*sz+q by rw [av7];omega];simpa using flat_get he xs i e9 q aZ
theorem A8{α:Type}{base:Nat}{g cap n sz:Nat}{enc:α->List Value}{xs:List α}(he:∀x,(enc x).length=sz)(h:w.ownsRow base e sz (.slice (some ⟨g,0,none⟩) n cap) n (xs.flatMap enc))(ba:xs.length=n):dA w (some ⟨g,0,none⟩) sz enc xs:=by
 subst ba;intro i ai;refine⟨g,0,rfl,λq v aZ=>?_⟩;have pL:q<sz:=by
   have:=(atY.1 aZ).1;rw [he]at this;exact this
 rcases h.2 with ⟨aJ,_⟩|⟨jx,ev,cur,aJ,hb,az,hle,hm,bT,gZ⟩
 · cases aJ
 · cases aJ
   rw [aub];refine aF az ?_;have U:=flat_get he xs i ai q pL;rw [aZ,<-gZ]at U;have bu:i*sz+q<xs.length*sz:=by
    have:(i+1)*sz<=xs.length*sz:=avy _ bj;rw [av7,Nat.one_mul]at this;omega
   rw [axg bu]at U;simpa using U
theorem tU{base:Nat}{s:Nat}{cap n:Nat}(h:w.ownsRow base e s (.slice ay n cap) n xs):n<=cap/\cap<=maxLen:=by
 obtain⟨_,_,U,ae,aM⟩:=tW h;cases U;exact⟨ae,aM⟩
theorem adB{i:Operand}{b o n c:Nat}{k:IntKind}{q:Int}{t ty:TypeId}{s:Nat}(b0:P.underlying t=some (.slice e))(aG:(P.info? e).map (·.size)=some s)(hx:a7 l x (.slice (some ⟨b,o,none⟩) n c):=by exact rfl)(ai:a7 l i (.int k q):=by exact rfl)(aZ:q=(j:Int):=by exact rfl)(ah:j<n:=by omega):
 bL P l w (.indexAddr t x i) ty (.pointer (some ⟨b,o+j*s,none⟩)) w:=H0 b0 aG hx ai aZ ah
end
section
structure Hid(p:Prop):Prop where
 go:p
def JT{β:Type}:List (Nat × β)->Nat->Option β
 | [],_=>none
 |p::l,t=>bif Nat.beq p.1 t then some p.2 else JT l t
theorem Xu{β:Type}:∀{l:List (Nat × β)} {t:Nat} {v:β},JT l t=some v->(t,v)∈l
 | [],_,_,h=>by cases h
 |p::l,t,v,h=>by
  unfold JT at h;cases e:Nat.beq p.1 t with
  |true=>rw [e]at h;cases h;rw [<-axN e];exact auy
  |false=>rw [e]at h;exact at0 _ (Xu h)
def Xt{β:Type}(l:List (List (Nat × β)))(t:Nat):Option β:=(l[t/16]?).bind (JT · t)
theorem akp{β Ho:Type}{l:List (List (Nat × β))}{f:Nat->Ho}{g:β->Ho}(h:(l.map λq=>q.map λp=>f p.1)=l.map λq=>q.map λp=>g p.2){t:Nat}{v:β}(e:Xt l t=some v):f t=g v:=by
 obtain⟨q,U,ae⟩:=axs.1 e;exact awT.1 (awT.1 h q (auF U)) _ (Xu ae)
section
variable {P:Program} {ops:Array Oper} {Q:Exit->Act->World->Prop} {w w':World} {rest:List Oper} {N:Nat} {l:List (Nat × Value)} {d:Nat} {op:Op} {ty:TypeId} {pos:String} {bx:Array Edge} {v:Value} {g:Option (Nat × Bool)}
def Ip(ops:Array Oper)(l:List (Nat × Value))(g:Option (Nat × Bool)):Prop:=match g with|none=>True|some (j,b)=>∃e,(ops[j]?).bind (·.dst)=some e/\look l e=some (.bool b)
theorem J(aj:bL P l w op ty v w')(k:∀aU,Fr N ((d,v)::l) aU->wpList P ops Q rest aU w')(az:Ip ops l g:=by first|exact trivial|exact⟨_,rfl,rfl⟩)(aI:Nat.blt d N=true:=by exact rfl):∀a,Fr N l a->wpList P ops Q (⟨some d,op,ty,pos,bx,g⟩::rest) a w:=λa h=>by
 match g,az with
 |none,_=>exact st h aj aI k
 |some (j,b),⟨e,U,ae⟩=>exact p4 h U ae aj aI k
theorem ck{C:World->Prop}{Q':Act->Prop}(aj:∀w,C w->bL P l w op ty v w)(k:∀aU,Fr N ((d,v)::l) aU->wpQuiet P ops C Q' rest aU)(az:Ip ops l g:=by first|exact trivial|exact⟨_,rfl,rfl⟩)(aI:Nat.blt d N=true:=by exact rfl):∀a,Fr N l a->wpQuiet P ops C Q' (⟨some d,op,ty,pos,bx,g⟩::rest) a:=λa h=>by
 match g,az with
 |none,_=>exact GG h aj aI k
 |some (j,b),⟨e,U,ae⟩=>exact GH h U ae aj aI k
theorem b4{Q':Act->Prop}(aj:bL P l w op ty v w)(k:∀aU,Fr N ((d,v)::l) aU->wpStill P ops w Q' rest aU)(az:Ip ops l g:=by first|exact trivial|exact⟨_,rfl,rfl⟩)(aI:Nat.blt d N=true:=by exact rfl):∀a,Fr N l a->wpStill P ops w Q' (⟨some d,op,ty,pos,bx,g⟩::rest) a:=λa h=>by
 match g,az with
 |none,_=>exact Kx h aj aI k
 |some (j,b),⟨e,U,ae⟩=>exact Ky h U ae aj aI k
theorem cB{S:World->Prop}{rJ:List (Oper × Bool)}(aj:∀w,S w->bL P l w op ty v w)(k:∀aU,Fr N ((d,v)::l) aU->l3 P ops Q S rJ aU w)(az:Ip ops l g:=by first|exact trivial|exact⟨_,rfl,rfl⟩)(aI:Nat.blt d N=true:=by exact rfl):∀a,Fr N l a->l3 P ops Q S ((⟨some d,op,ty,pos,bx,g⟩,true)::rJ) a w:=λa h=>by
 match g,az with
 |none,_=>exact aaA h aj aI k
 |some (j,b),⟨e,U,ae⟩=>exact aaB h U ae aj aI k
theorem vF{S:World->Prop}{L:List Oper}{i:Nat}{cS:qi}(bp:L[i]? =some ⟨some d,op,ty,pos,bx,none⟩)(aj:∀w,S w->bL P l w op ty v w)(k:∀aU,Fr N ((d,v)::l) aU->k1 P ops Q S L cS aU w)(aI:Nat.blt d N=true:=by exact rfl):∀a,Fr N l a->k1 P ops Q S L (.read i cS) a w:=λa h=>dU h bp aj aI k
theorem af{t:TypeId}(av:w.cell? jF=some v)(b0:prog.underlying t=some h2:=by exact aA _ _ rfl)(U:pV h2=true:=by exact rfl)(hx:a7 l x (.pointer (some jF)):=by exact rfl):bL prog l w (.load t x) ty v w:=im b0 av U hx
theorem ea{t:TypeId}(hw:∃n,w'=w.drewN n)(av:w.cell? jF=some v)(b0:prog.underlying t=some h2:=by exact aA _ _ rfl)(U:pV h2=true:=by exact rfl)(hx:a7 l x (.pointer (some jF)):=by exact rfl):bL prog l w' (.load t x) ty v w':=ams b0 hw av U hx
theorem bJ{b o n:Nat}{cs:Array Value}{t:TypeId}(av:∀j v,cs[j]? =some v->w.cell? ⟨b,o+j,none⟩=some v)(b0:(prog.underlying t).map n0=some true:=by exact agg _ rfl)(aG:(prog.info? t).map (·.size)=some n:=by exact aw _ _ rfl)(ba:cs.size=n:=by exact rfl)(hx:a7 l x (.pointer (some ⟨b,o,none⟩)):=by exact rfl):bL prog l w (.load t x) ty (.agg cs) w:=fR b0 aG ba av hx
theorem gT{i:Operand}{b o n c:Nat}{k:IntKind}{q:Int}{t:TypeId}(hx:a7 l x (.slice (some ⟨b,o,none⟩) n c):=by exact rfl)(ai:a7 l i (.int k q):=by exact rfl)(aZ:q=(j:Int):=by exact rfl)(ah:j<n:=by omega)(b0:prog.underlying t=some (.slice e):=by exact aA _ _ rfl)(aG:(prog.info? e).map (·.size)=some 1:=by exact aw _ _ rfl):bL prog l w (.indexAddr t x i) ty (.pointer (some ⟨b,o+j,none⟩)) w:=uA b0 aG hx ai aZ ah
theorem dq{i:Operand}{b o n c:Nat}{k:IntKind}{q:Int}{t:TypeId}{s:Nat}(hx:a7 l x (.slice (some ⟨b,o,none⟩) n c):=by exact rfl)(ai:a7 l i (.int k q):=by exact rfl)(aZ:q=(j:Int):=by exact rfl)(ah:j<n:=by omega)(b0:prog.underlying t=some (.slice e):=by exact aA _ _ rfl)(aG:(prog.info? e).map (·.size)=some s:=by exact aw _ _ rfl):bL prog l w (.indexAddr t x i) ty (.pointer (some ⟨b,o+j*s,none⟩)) w:=adB b0 aG hx ai aZ ah
theorem aK{B:Nat}{a:World}{row:Option Nat}(h:Below B a w)(az:w.grownBy w' row)(aH:B<=w.heap.size)(aj:∀k,row=some k->B<=k:=by intro k au;cases au<;>first|exact atI _|assumption|omega):Below B a w':=h.grown az aH aj
theorem Fr.bb{l l':List (Nat × Value)}{a:Act}(h:Fr N l a)(aN:zw l l':=by repeat (first|exact trivial|refine⟨rfl,?_⟩)):Fr N l' a:=h.xp aN
def LG:List (List (Nat × Unit)):=[[3,4,5,6,7,8,9,10,11,12,13,14,15],[16,17,18,19,20,21,22,23,24,25,26,27,28,29,30,31],[32,33,34,35,36,37,38,39,40,41,42,43,44,45,46,47],[48,49,50,51,52,53,54,55,56,57,58,59,60,61,62,63],[64,65,66,67,68,69,70,71,72,73,74,75,76,77,78,79],[83,84,85,86,87,88,89,90,91,92,93,94,95],[96,97,98,99,100,101,102,103,104,105,106,107,108,109,110,111],[112,113,114,115,116,117,118,119,120,121,122,123,124,125,126,127],[128,129,130,131,132,133,134,135,136,137,138,139,140,141],[145,146,147,148,149,150,151,152,153,154,155,156,157,158,159],[160,161,162,163,164,165,166,167,168,169,170,171,172,173,174,175],[176,177,178,179,180,181,182,183,184,185,186,187,188,189,190,191],[192,193,194,195,196,197,198,199,200,201,202,203,204,205,206,207],[208,209,210,211,212,213,214,215,216,217,218,219,220,221,222,223],[224,225,226,227,228,229,230,231,232,233,234,235,236,237,238,239],[240,241,242,243,244,245,246,247,248,250,251,252,253,254,255],[256,257,259,260,261,262,263,264,265,266,267,268,269,270,271],[272,273,274,275,276,277,278,279,282,283,284,285,286,287],[288,289,290,291,292,293,294,295,296,297,298,299,300,301,302,303],[],[327],[346]].map λq=>q.map λt=>(t,())
noncomputable def HL(f:Nat):Bool:=match prog.funcs[f]? with|some fn=>!(fn.name== "runtime.NumGoroutine")&& !fn.body.isNone|none=>false
theorem acK:(LG.map λq=>q.map λp=>HL p.1)=LG.map λq=>q.map λ_=>true:=bh
theorem acJ(f:Nat)(h:(Xt LG f).isSome=true):dc prog f:=by
 obtain⟨u,hu⟩:=awt.1 h;have e:HL f=true:=akp (f:=HL) (g:=λ_=>true) acK hu;unfold HL at e;split at e
 · rename_i fn sn;simp only [atP,auI]at e;exact⟨⟨fn,sn,e.1,e.2⟩⟩
 · cases e
variable {a:Act}
theorem aQ(h:Fr N l a){f:FuncId}{xs:List Operand}{vs:List Value}{ats:Array TypeId}{ty:TypeId}{pos:String}{bx:Array Edge}{R:Value->World->Prop}(av:bd prog f vs.toArray w R)(k:∀aU v w',R v w'->Fr N ((d,v)::l) aU->wpList prog ops Q rest aU w')(bC:dc prog f:=by exact acJ _ rfl)(hx:jW l xs vs:=by repeat (first|exact trivial|refine⟨rfl,?_⟩))(aI:Nat.blt d N=true:=by exact rfl):
 wpList prog ops Q (⟨some d,.call { callee:=.value (.func f),args:=xs.toArray,argTypes:=ats },ty,pos,bx,none⟩::rest) a w:=mY h av bC hx aI k
theorem b6(h:Fr N l a){pos:String}{s fQ:Nat}(ai:fL e=some (some z,s,fQ))(k:∀aU w',w'.heap[w.heap.size]? =some (.cells z.cells e (0,0))->w.grownBy w' none->w'.heap.size=w.heap.size+1->Fr N ((d,.pointer (some ⟨w.heap.size,0,none⟩))::l) aU->wpList prog ops Q rest aU w')(aI:Nat.blt d N=true:=by exact rfl):wpList prog ops Q (⟨some d,.alloc e,ty,pos,bx,none⟩::rest) a w:=DP h ai aI k
theorem cE(h:Fr N l a){g:Nat}{cs c:Array Value}{t:TypeId}{pos:String}{n:Nat}(az:w.heap[g]? =some (.cells c e (0,0)))(ao:∀v∈cs,v.oneCell'=true)(k:∀aU w',w'.heap[g]? =some (.cells cs e (0,0))->w.grownBy w' (some g)->w'.heap.size=w.heap.size->Fr N l aU->wpList prog ops Q rest aU w')(hx:a7 l x (.pointer (some ⟨g,0,none⟩)):=by exact rfl)(aO:a7 l y (.agg cs):=by exact rfl)(aG:(prog.info? t).map (·.size)=some n:=by exact aw _ _ rfl)(ba:cs.size=n:=by exact rfl)(av:c.size=n:=by exact rfl):wpList prog ops Q (⟨none,.store t x y,ty,pos,bx,none⟩::rest) a w:=dX h aG ba av az ao hx aO k
theorem zK(S:World->Prop)(is:List (Nat × Bool)){id:Nat}{a:Act}{l2:List (Oper × Bool)}(bS:S (w.drewN 1))(h:l3 prog l'.toArray Q S l2 a (w.drewN 1))(aH:PC .any l'.toArray is=true:=by kernel_rfl)(aW:fF l' is=l2:=by simp only [fF,atZ,atS,atO,at1,aug];exact rfl):(Code.region id l'.toArray true).wp prog Q a w:=gJ S is id mixed aH bS (aW▸h)
end
attribute [local irreducible] wpList wpQuiet wpStill Code.wp Exit.then Exit.inBlock bodyPost Calls bL eT
theorem ag{G hr:Prop}(k:hr)(h:Hid hr->G:=by intro jO;(repeat refine λ(yY:Nat)=>?_);intro a I;((first|refine fC ?_|refine R3 ?_|refine fB _ ?_|refine atJ ?_|refine mb ?_|refine Lz ?_|refine BS ?_|refine HI ?_|refine Et ?_|refine Lx ?_|refine wp_skip ?_|refine wp_exit ?_|refine azB ?_|refine Ly rfl ?_|(refine tX ?_;rintro _ ⟨yY,rfl⟩)|refine abH _ mixed bh ?_|((first|apply st I|apply p4 I|apply Kx I|apply Ky I);(first|exact hv|exact k5|exact uC|exact oV|exact oU|exact wb|exact te|exact wq|exact wu|exact ql|exact ta|exact ps|exact wi (aA _ _ rfl)|exact wh (aA _ _ rfl)|exact tc (aA _ _ rfl)|exact wg|exact we|exact tb|exact q6 (aA _ _ rfl)|exact wk (aA _ _ rfl)|exact kL|exact uA (aA _ _ rfl) (aw _ _ rfl)|exact km (hz _ _ _ _ rfl) (aw _ _ rfl)|exact wx (aA _ _ rfl) (aw _ _ rfl)|exact wy (aA _ _ rfl) (aw _ _ rfl)|exact wz (aA _ _ rfl) (aw _ _ rfl)|exact r7 (aA _ _ rfl) (aw _ _ rfl)|exact wc (lU _ rfl)|exact wo (lU _ rfl)|exact uB (uy _ rfl)|exact wj);clear I;clear a;intro a I)|((first|apply GG I|apply GH I);intro ak ar;(first|exact hv|exact k5|exact uC|exact oV|exact oU|exact wb|exact te|exact wq|exact wu|exact ql|exact ta|exact ps|exact wi (aA _ _ rfl)|exact wh (aA _ _ rfl)|exact tc (aA _ _ rfl)|exact wg|exact we|exact tb|exact q6 (aA _ _ rfl)|exact wk (aA _ _ rfl)|exact kL|exact uA (aA _ _ rfl) (aw _ _ rfl)|exact km (hz _ _ _ _ rfl) (aw _ _ rfl)|exact wx (aA _ _ rfl) (aw _ _ rfl)|exact wy (aA _ _ rfl) (aw _ _ rfl)|exact wz (aA _ _ rfl) (aw _ _ rfl)|exact r7 (aA _ _ rfl) (aw _ _ rfl)|exact wc (lU _ rfl)|exact wo (lU _ rfl)|exact uB (uy _ rfl)|exact wj);clear I;clear a;intro a I)|((first|apply rL I|apply DT I|apply Kk I|apply Kl I);clear I;clear a;intro a I)|(apply HH I;exact rfl;first|exact rfl|assumption)|(apply R4 I;exact rfl;first|exact rfl|assumption)|refine Qt ?_));revert a;(repeat revert yY);exact jO.1):G:=h ⟨k⟩
theorem ad{G hr:Prop}(k:hr)(h:Hid hr->G:=by intro jO;(repeat refine ag ?_);exact jO.1):G:=h ⟨k⟩
theorem e3{G hr:Prop}(k:hr)(h:Hid hr->G:=by intro jO;intro a I;((first|((first|apply aaA I|apply aaB I);intro ak ar;(first|exact hv|exact k5|exact uC|exact oV|exact oU|exact wb|exact te|exact wq|exact wu|exact ql|exact ta|exact ps|exact wi (aA _ _ rfl)|exact wh (aA _ _ rfl)|exact tc (aA _ _ rfl)|exact wg|exact we|exact tb|exact q6 (aA _ _ rfl)|exact wk (aA _ _ rfl)|exact kL|exact uA (aA _ _ rfl) (aw _ _ rfl)|exact km (hz _ _ _ _ rfl) (aw _ _ rfl)|exact wx (aA _ _ rfl) (aw _ _ rfl)|exact wy (aA _ _ rfl) (aw _ _ rfl)|exact wz (aA _ _ rfl) (aw _ _ rfl)|exact r7 (aA _ _ rfl) (aw _ _ rfl)|exact wc (lU _ rfl)|exact wo (lU _ rfl)|exact uB (uy _ rfl)|exact wj);clear I;clear a;intro a I)|((first|apply aqh I|apply aqi I);clear I;clear a;intro a I)));revert a;exact jO.1):G:=h ⟨k⟩
theorem hH{G hr:Prop}(k:hr)(h:Hid hr->G:=by intro jO;(repeat refine e3 ?_);exact jO.1):G:=h ⟨k⟩
theorem Bu{G hr:Prop}(k:hr)(h:Hid hr->G:=by intro jO;intro a I;((first|((apply dU I rfl);intro ak ar;(first|exact hv|exact k5|exact uC|exact oV|exact oU|exact wb|exact te|exact wq|exact wu|exact ql|exact ta|exact ps|exact wi (aA _ _ rfl)|exact wh (aA _ _ rfl)|exact tc (aA _ _ rfl)|exact wg|exact we|exact tb|exact q6 (aA _ _ rfl)|exact wk (aA _ _ rfl)|exact kL|exact uA (aA _ _ rfl) (aw _ _ rfl)|exact km (hz _ _ _ _ rfl) (aw _ _ rfl)|exact wx (aA _ _ rfl) (aw _ _ rfl)|exact wy (aA _ _ rfl) (aw _ _ rfl)|exact wz (aA _ _ rfl) (aw _ _ rfl)|exact r7 (aA _ _ rfl) (aw _ _ rfl)|exact wc (lU _ rfl)|exact wo (lU _ rfl)|exact uB (uy _ rfl)|exact wj);clear I;clear a;intro a I)));revert a;exact jO.1):G:=h ⟨k⟩
theorem jq{G hr:Prop}(k:hr)(h:Hid hr->G:=by intro jO;(repeat refine Bu ?_);exact jO.1):G:=h ⟨k⟩
theorem rQ{G hr:Prop}(k:hr)(h:Hid hr->G:=by intro jO;intro a I;((first|((first|apply GG I|apply GH I);intro ak ar;(first|exact hv|exact k5|exact uC|exact oV|exact oU|exact wb|exact te|exact wq|exact wu|exact ql|exact ta|exact ps|exact wi (aA _ _ rfl)|exact wh (aA _ _ rfl)|exact tc (aA _ _ rfl)|exact wg|exact we|exact tb|exact q6 (aA _ _ rfl)|exact wk (aA _ _ rfl)|exact kL|exact uA (aA _ _ rfl) (aw _ _ rfl)|exact km (hz _ _ _ _ rfl) (aw _ _ rfl)|exact wx (aA _ _ rfl) (aw _ _ rfl)|exact wy (aA _ _ rfl) (aw _ _ rfl)|exact wz (aA _ _ rfl) (aw _ _ rfl)|exact r7 (aA _ _ rfl) (aw _ _ rfl)|exact wc (lU _ rfl)|exact wo (lU _ rfl)|exact uB (uy _ rfl)|exact wj);clear I;clear a;intro a I)|((first|apply Kk I|apply Kl I);clear I;clear a;intro a I)));revert a;exact jO.1):G:=h ⟨k⟩
theorem apX{G hr:Prop}(k:hr)(h:Hid hr->G:=by intro jO;(repeat refine rQ ?_);exact jO.1):G:=h ⟨k⟩
end
section
open Go.Maps (Keyed IsMap)
section
variable {P:Program} {ops:Array Oper} {Q:Exit->Act->World->Prop} {rest:List Oper} {a:Act} {w w':World} {N:Nat} {l:List (Nat × Value)}
theorem qm{t k:TypeId}(b0:P.underlying t=some (.map k e)):bL P l w (.makeMap t none) ty (.map (some w.heap.size)) (w.alloc (.map #[] 0)):=by
 intro cC aY d pos bx g;simp [execOp,run_makeMap]
theorem adE{t k:TypeId}{q:IntKind}{n:Int}(b0:P.underlying t=some (.map k e))(hx:a7 l x (.int q n):=by exact rfl):bL P l w (.makeMap t (some x)) ty (.map (some w.heap.size)) (w.alloc (.map #[] 0)):=by
 intro cC aY d pos bx g;have bw:(Instr.makeMap t (some (.int q n))).run P w=(Instr.makeMap t none).run P w:=by simp [Instr.makeMap,auf b0,asInt,asIntOf]
 simp [execOp,aY _ _ hx,bw,run_makeMap]
theorem h1{t:TypeId}{m:Operand}{c:Bool}(aj:(Instr.lookup t hU key c).run P w=.ok v w)(hm:a7 l m hU:=by exact rfl)(hx:a7 l x key:=by exact rfl):bL P l w (.lookup t m x c) ty v w:=by
 intro cC aY d pos bx g;simp [execOp,aY _ _ hm,aY _ _ hx,aj]
theorem r6{t:TypeId}{m:Operand}(aj:(Instr.mapUpdate t hU key v).run P w=.ok () w')(hm:a7 l m hU:=by exact rfl)(hx:a7 l x key:=by exact rfl)(aO:a7 l y v:=by exact rfl):eT P l w (.mapUpdate t m x y) ty w':=by
 intro cC aY d pos bx g;simp [execOp,aY _ _ hm,aY _ _ hx,aY _ _ aO,aj]
def iV(s:ByteArray):Lit:=.string s.data.toList
theorem AQ{s t:ByteArray}(h:iV s=iV t):s=t:=by
 unfold iV at h;injection h with h
 apply ayO;exact ayX.1 h
def C8:List ByteArray->DataW Unit
 | []=>.map []
 |k::r=>(C8 r).put (iV k) (.lit (.bool true))
theorem Xa:∀dF,IsMap (C8 dF)
 | []=>⟨_,rfl⟩
 |k::r=>by
  obtain⟨es,h⟩:=Xa r;unfold C8;rw [h];exact⟨_,rfl⟩
theorem W'(t:ByteArray):∀dF,(C8 dF).atKey (iV t) (.lit (.bool false))=.lit (.bool (dF.any λk=>decide (t=k)))
 | []=>rfl
 |k::r=>by
  unfold C8;by_cases e:t=k
  · subst e;rw [axb (Xa r) (by trivial)];simp
  · rw [aw0 (λh=>e (AQ h)),W' t r];simp [e]
def nf(P:Program)(k e:TypeId)(w:World)(b:Nat)(dF:List ByteArray):Prop:=w.ownsMap P k (plainElem P e) b dF.length (C8 dF)
theorem nf.new{k:TypeId}(w:World):nf P k e (w.alloc (.map #[] 0)) w.heap.size []:=axt w P k _
theorem nf.lt{k:TypeId}{b:Nat}{dF:List ByteArray}(h:nf P k e w b dF):b<w.heap.size:=ay0 h
theorem nf.below{k:TypeId}{b:Nat}{dF:List ByteArray}(h:nf P k e w b dF)(hb:Below w.heap.size w w'):nf P k e w' b dF:=by
 have bu:=h.lt;obtain⟨es,clock,U,ae⟩:=h;exact⟨es,clock,(hb.block b bu).trans U,ae⟩
theorem vo{k:TypeId}(au:P.underlying k=some .string)(s:ByteArray)(aG:s.size<=maxLen):keyOf P k (.string s)=some (iV s):=by
 simp [keyOf,au,aG,iV,mapKey]
theorem nf.look{t k:TypeId}{b:Nat}{dF:List ByteArray}(h:nf P k e w b dF)(bW:P.underlying t=some (.map k e))(au:P.underlying k=some .string)(he:P.underlying e=some .bool)(bA:(zeroValue e).run P w=.ok (.bool false) w)(s:ByteArray)(aG:s.size<=maxLen):
  (Instr.lookup t (.map (some b)) (.string s) false).run P w=.ok (.bool (dF.any λk=>decide (s=k))) w:=by
 obtain⟨v,aR,aj,ao⟩:=ax1 h (avQ au) bW bA (plainElem_bool he false) (vo au s aG);rw [W']at ao;unfold plainElem at ao;rw [he]at ao;cases v<;>simp at ao
 rw [aj,ao.1]
theorem nf.put{t k:TypeId}{b:Nat}{dF:List ByteArray}(h:nf P k e w b dF)(bW:P.underlying t=some (.map k e))(au:P.underlying k=some .string)(he:P.underlying e=some .bool)(s:ByteArray)(aG:s.size<=maxLen)(ba:dF.length<maxLen):
  ∃w',(Instr.mapUpdate t (.map (some b)) (.string s) (.bool true)).run P w=.ok () w'/\nf P k e w' b (s::dF)/\w.grownBy w' (some b)/\w'.heap.size=w.heap.size:=by
 obtain⟨w',aj,bp,lf⟩:=ax9 (P:=P) (w:=w) (b:=b) (k:=k) (R:=plainElem P e) h (avQ au) bW ba (vo au s aG) (plainElem_bool he true);refine⟨w',aj,bp,lf.grown,?_⟩;obtain⟨_,_,_,_,_,rfl⟩:=lf;simp [Go.ChangeMaps.setBlock]
end
end
section
open Go.Maps (Keyed IsMap)
open Go.WideMaps (KeyLaw)
open Go.MapKept Go.ChangeMaps
section
variable {P:Program} {w w':World} {l:List (Nat × Value)}
def Cw(v:Value):Option (DataW Value × List MemPlace):=some (.held v,[])
def AS:List (Lit × Value)->DataW Value
 | []=>.map []
 |p::r=>(AS r).put p.1 (.held p.2)
open Classical in
noncomputable def eD(k:Lit):List (Lit × Value)->Option Value
 | []=>none
 |p::r=>if k=p.1 then some p.2 else eD k r
theorem Xe:∀dF,IsMap (AS dF)
 | []=>⟨_,rfl⟩
 |p::r=>by
  obtain⟨es,h⟩:=Xe r;unfold AS;rw [h];exact⟨_,rfl⟩
theorem AT(k:Lit)(z:DataW Value):∀dF,(∀p∈dF,WideAt.IsKeyLit p.1)->(AS dF).atKey k z=match eD k dF with|some v=>.held v|none=>z
 | [],_=>rfl
 |p::r,h=>by
  unfold AS eD;by_cases e:k=p.1
  · rw [atM e,e,axb (Xe r) (h p auy)]
  · rw [atK e,aw0 e,AT k z r (λq aZ=>h q (at0 _ aZ))]
def eO(P:Program)(k:TypeId)(w:World)(b:Nat)(dF:List (Lit × Value)):Prop:=w.ownsMap P k Cw b dF.length (AS dF)/\∀p∈dF,WideAt.IsKeyLit p.1
theorem eO.new{k:TypeId}(w:World):eO P k (w.alloc (.map #[] 0)) w.heap.size []:=⟨axt w P k _,bl⟩
theorem eO.kept{k:TypeId}{b:Nat}{row:Option Nat}(h:eO P k w b dF)(az:w.grownBy w' row)(b5:some b≠row):eO P k w' b dF:=⟨World.ownsMap.kept h.1 az b5,h.2⟩
theorem eO.lt{k:TypeId}{b:Nat}(h:eO P k w b dF):b<w.heap.size:=ay0 h.1
theorem eO.below{k:TypeId}{b:Nat}(h:eO P k w b dF)(hb:Below w.heap.size w w'):eO P k w' b dF:=by
 have bu:=h.lt;obtain⟨⟨es,clock,U,ae⟩,aM⟩:=h;exact⟨⟨es,clock,(hb.block b bu).trans U,ae⟩,aM⟩
theorem eO.look{t k:TypeId}{b:Nat}(h:eO P k w b dF)(K:Keyed P k)(bW:P.underlying t=some (.map k e))(bA:(zeroValue e).run P w=.ok z w){kl:Lit}(mQ:keyOf P k key=some kl):
  (Instr.lookup t (.map (some b)) key false).run P w=.ok ((eD kl dF).getD z) w:=by
 obtain⟨v,aR,aj,ao⟩:=ax1 h.1 K bW bA (zd:=.held z) (zp:=[]) rfl mQ;rw [AT _ _ _ h.2]at ao;rw [aj];cases au:eD kl dF with
 |none=>rw [au]at ao;simp [Cw]at ao;rw [ao.1];rfl
 |some u=>rw [au]at ao;simp [Cw]at ao;rw [ao.1];rfl
theorem agp(k:Lit)(dF:List (Lit × Value))(h:∀p∈dF,WideAt.IsKeyLit p.1):Maps.has (AS dF) k=(eD k dF).isSome:=by
 have U:=AT k (.held (.bool true)) dF h;have ae:=AT k (.held (.bool false)) dF h;cases au:eD k dF with
 |none=>
  rw [au]at U ae;refine ayS (λz=>?_);rw [AT k z dF h,au]
 |some u=>
  rw [au]at U ae;refine ay5 (y:=.held u) (λz=>?_);rw [AT k z dF h,au]
theorem eO.look_ok{t k:TypeId}{b:Nat}(h:eO P k w b dF)(K:Keyed P k)(bW:P.underlying t=some (.map k e))(bA:(zeroValue e).run P w=.ok z w){kl:Lit}(mQ:keyOf P k key=some kl):
  (Instr.lookup t (.map (some b)) key true).run P w=.ok (.tuple #[(eD kl dF).getD z,.bool (eD kl dF).isSome]) w:=by
 obtain⟨v,aR,aj,ao⟩:=World.ownsMap.look_ok h.1 K bW bA (zd:=.held z) (zp:=[]) rfl mQ;rw [AT _ _ _ h.2]at ao;rw [aj,agp _ _ h.2];cases au:eD kl dF with
 |none=>rw [au]at ao;simp [Cw]at ao;rw [ao.1];rfl
 |some u=>rw [au]at ao;simp [Cw]at ao;rw [ao.1];rfl
theorem eO.put{t k:TypeId}{b:Nat}(h:eO P k w b dF)(K:Keyed P k)(bW:P.underlying t=some (.map k e)){kl:Lit}(mQ:keyOf P k key=some kl)(v:Value)(ba:dF.length<maxLen):
   ∃w',(Instr.mapUpdate t (.map (some b)) key v).run P w=.ok () w'/\eO P k w' b ((kl,v)::dF)/\w.grownBy w' (some b)/\w'.heap.size=w.heap.size:=by
 obtain⟨w',aj,bp,lf⟩:=ax9 (P:=P) (w:=w) (b:=b) (k:=k) (R:=Cw) h.1 K bW ba mQ rfl;refine⟨w',aj,⟨bp,λp aW=>?_⟩,lf.grown,?_⟩
 · rcases au1.1 aW with rfl|aW
   · exact K.key mQ
   · exact h.2 p aW
 · obtain⟨_,_,_,_,_,rfl⟩:=lf;simp [Go.ChangeMaps.setBlock]
theorem eO.Ki{t k:TypeId}{b:Nat}(h:eO P k w b dF)(Rj:KeyLaw P k)(bW:P.underlying t=some (.map k e))(bA:∀u:World,(zeroValue e).run P u=.ok z u){kl:Lit}(mQ:keyOf P k key=some kl)(v:Value)(ba:dF.length<maxLen):
  ∃(v0:Value) (st:Nat) (aq:World),(Instr.mapEntry t (.map (some b)) key).run P w=.ok (.tuple #[v0,goInt st]) aq/\w.grownBy aq (some b)/\aq.heap.size=w.heap.size/\
   ∀ax:World,ax.heap[b]? =aq.heap[b]? ->∃a6,(Instr.entryStore t (.map (some b)) (goInt st) v).run P ax=.ok () a6/\eO P k a6 b ((kl,v)::dF)/\ax.grownBy a6 (some b)/\a6.heap.size=ax.heap.size:=by
 have K:=Keyed.of_law Rj;obtain⟨⟨es,clock,hb,F,aG,mj⟩,aM⟩:=h;obtain⟨v0,st,aqO,aqD,pM,_,gX⟩:=WideElems.entry_then_store Rj bW bA hb F mQ;obtain⟨w',hu,bp,_⟩:=eO.put (h:=⟨⟨es,clock,hb,F,aG,mj⟩,aM⟩) K bW mQ v ba;have dQ:∀(u:World) (o:Obj) (Tg:Array MapEntry) (c0:Nat),u.heap[b]? =some (.map Tg c0)->u.grownBy (Go.ChangeMaps.setBlock u b o) (some b)/\(Go.ChangeMaps.setBlock u b o).heap.size=u.heap.size:=λu o Tg c0 hu=>
  ⟨⟨rfl,rfl,rfl,by simp [Go.ChangeMaps.setBlock],λi _ ai=>heap_setBlock_other hu _ (λe=>ai (by rw [e]))⟩,by simp [Go.ChangeMaps.setBlock]⟩
 refine⟨v0,st,_,pM,(dQ _ _ _ _ hb).1,(dQ _ _ _ _ hb).2,λax Jw=>?_⟩;have Jx:=Jw.trans (heap_setBlock_same hb _);obtain⟨aex,acW,mu,mv⟩:=gX ax v Jx;rw [hu]at mv;obtain⟨⟨aqN,aqC,IY,aaN,ah',afF⟩,afj⟩:=bp;have nF:w'=Go.ChangeMaps.setBlock w b (.map aex acW):=by injection mv
 rw [nF,heap_setBlock_same hb _]at IY;injection IY with IY
 injection IY with bw bf
 subst bw;subst bf;exact⟨_,mu,⟨⟨_,_,heap_setBlock_same Jx _,aaN,ah',afF⟩,afj⟩,(dQ _ _ _ _ Jx).1,(dQ _ _ _ _ Jx).2⟩
theorem hN{t:TypeId}{m:Operand}{c:Bool}(aj:(Instr.lookup t hU key c).run P w=.ok v w)(hm:a7 l m hU:=by exact rfl)(hx:a7 l x key:=by exact rfl):bL P l w (.lookup t m x c) ty v w:=h1 aj hm hx
theorem lF{t:TypeId}{m:Operand}(aj:(Instr.mapUpdate t hU key v).run P w=.ok () w')(hm:a7 l m hU:=by exact rfl)(hx:a7 l x key:=by exact rfl)(aO:a7 l y v:=by exact rfl):eT P l w (.insert t m x y) ty w':=by
 intro cC aY d pos bx g;simp [execOp,aY _ _ hm,aY _ _ hx,aY _ _ aO,aj]
theorem H2{t:TypeId}{m:Operand}(aj:(Instr.mapEntry t hU key).run P w=.ok v w')(hm:a7 l m hU:=by exact rfl)(hx:a7 l x key:=by exact rfl):bL P l w (.mapEntry t m x) ty v w':=by
 intro cC aY d pos bx g;simp [execOp,aY _ _ hm,aY _ _ hx,aj]
theorem HX{t:TypeId}{m:Operand}{s:Value}(aj:(Instr.entryStore t hU s v).run P w=.ok () w')(hm:a7 l m hU:=by exact rfl)(hx:a7 l x s:=by exact rfl)(aO:a7 l y v:=by exact rfl):eT P l w (.entryStore t m x y) ty w':=by
 intro cC aY d pos bx g;simp [execOp,aY _ _ hm,aY _ _ hx,aY _ _ aO,aj]
end
end
end Go.Proofs.YtnkjmbbddmgjiaaGreatDoor