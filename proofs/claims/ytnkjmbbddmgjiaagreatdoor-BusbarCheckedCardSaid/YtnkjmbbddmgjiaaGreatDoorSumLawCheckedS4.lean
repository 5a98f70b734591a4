import Derived.Test.YtnkjmbbddmgjiaaGreatDoorSumLawCheckedS3
set_option linter.unusedSimpArgs false
set_option linter.unusedVariables false
set_option maxRecDepth 1000000
set_option maxHeartbeats 400000000
namespace Go.Proofs
open Go.RowKit
section
open Go.Shelf
def Tryz.Xk:Go.Shelf.Ren:=⟨λ| 169=>253 |n=>n,λ| 70=>384 | 9=>9 | 0=>0 | 72=>386 | 37=>22 | 127=>399 | 3=>3 | 5=>5 |n=>n,λ|n=>n⟩
theorem Tryz.ajU:Go.Proofs.Lays.n169 Tryz.prog Tryz.Xk:={
 mixed:=bh
 f169:=Tryz.func253.trans (atW some bh)
 t0:=avk
 a0:=av8
 z0:=avY
 v0:=avu
 t3:=atX
 a3:=avz
 z3:=avr
 v3:=auZ
 t9:=auh
 a9:=avG
 z9:=avv
 v9:=au'
 t37:=avm
 a37:=axT
 z37:=axv
 v37:=awE
 t70:=Tryz.underlying384
 a70:=Tryz.isAgg384
 z70:=Tryz.sizeOf384
 v70:=Tryz.zeroValue384
 t72:=Tryz.underlying386
 a72:=Tryz.isAgg386
 z72:=Tryz.sizeOf386
 v72:=Tryz.zeroValue386
 t127:=axw
 a127:=ayU
 z127:=ayA
 v127:=axJ }
theorem Tryz.aaM:Builder.Extra Tryz.prog Tryz.Xk:={
 sizeBuilder:=bh
 liesBuilder:=bh
 t5:=au5
 a5:=av1
 z5:=avO
 v5:=avl
 infoByte:=bh
 cellsByte:=bh
 sizeByte:=bh
 neB5:=bk }
def Tryz.ajW:Go.Shelf.Ren:=⟨λ| 231=>282 |n=>n,λ| 9=>9 | 5=>5 | 3=>3 | 4=>4 |n=>n,λ|n=>n⟩
theorem Tryz.ajV:Go.Proofs.Lays.n231 Tryz.prog Tryz.ajW:={
 mixed:=bh
 f231:=Tryz.func282.trans (atW some bh)
 t3:=atX
 a3:=avz
 z3:=avr
 v3:=auZ
 t4:=aut
 a4:=avi
 z4:=ave
 v4:=auz
 t5:=au5
 a5:=av1
 z5:=avO
 v5:=avl
 t9:=auh
 a9:=avG
 z9:=avv
 v9:=au' }
theorem Tryz.strings_trimLeftByte(s:ByteArray)(c:UInt8)(w:World):
 Calls Tryz.prog 282 #[.string s,.int .u8 c.toNat] w λe w'=>e=.returned (.string ⟨(Lib.trimLeftB s.data.toList c).toArray⟩)/\w'=w:=Any.strings_trimLeftByte Tryz.ajV s c w
def Tryz.ajY:Go.Shelf.Ren:=⟨λ| 232=>286 |n=>n,λ| 9=>9 | 5=>5 | 3=>3 | 4=>4 |n=>n,λ|n=>n⟩
theorem Tryz.ajX:Go.Proofs.Lays.n232 Tryz.prog Tryz.ajY:={
 mixed:=bh
 f232:=Tryz.func286.trans (atW some bh)
 t3:=atX
 a3:=avz
 z3:=avr
 v3:=auZ
 t4:=aut
 a4:=avi
 z4:=ave
 v4:=auz
 t5:=au5
 a5:=av1
 z5:=avO
 v5:=avl
 t9:=auh
 a9:=avG
 z9:=avv
 v9:=au' }
theorem Tryz.strings_trimRightByte(s:ByteArray)(c:UInt8)(w:World)(aG:s.size<=9223372036854775807):
 Calls Tryz.prog 286 #[.string s,.int .u8 c.toNat] w λe w'=>e=.returned (.string ⟨(Lib.trimRightB s.data.toList c).toArray⟩)/\w'=w:=Any.strings_trimRightByte Tryz.ajX s c w aG
def Tryz.ajL:Go.Shelf.Ren:=⟨λ| 103=>93 | 210=>151 | 206=>204 |n=>n,λ| 9=>9 | 4=>4 | 24=>219 | 3=>3 |n=>n,λ|n=>n⟩
theorem Tryz.ajK:Go.Proofs.Lays.n103 Tryz.prog Tryz.ajL:={
 mixed:=bh
 f103:=Tryz.func93.trans (atW some bh)
 f206:=Tryz.func204.trans (atW some bh)
 f210:=Tryz.func151.trans (atW some bh)
 t3:=atX
 a3:=avz
 z3:=avr
 v3:=auZ
 t4:=aut
 a4:=avi
 z4:=ave
 v4:=auz
 t9:=auh
 a9:=avG
 z9:=avv
 v9:=au'
 t24:=Tryz.underlying219
 a24:=Tryz.isAgg219
 z24:=Tryz.sizeOf219
 v24:=Tryz.zeroValue219 }
theorem Tryz.strings_CutPrefix(s p:ByteArray)(w:World):
 Calls Tryz.prog 93 #[.string s,.string p] w λe w'=>e=.returned (.tuple #[.string ⟨(Lib.trimPrefix s.data.toList p.data.toList).toArray⟩,.bool (Lib.hasPrefix s.data.toList p.data.toList)])/\w'=w:=Any.strings_CutPrefix Tryz.ajK s p w
theorem Tryz.Builder_String_any_f(B b:Nat)(l:List UInt8)(w:World)(h:Lib.IsBuilderF 386 5 B b (Lib.byteCells l) w)(uQ:B<=w.heap.size):
 Calls Tryz.prog 253 #[.pointer (some ⟨b,0,none⟩)] w λe w'=>e=.returned (.string ⟨l.toArray⟩)/\(Lib.IsBuilderF 386 5 B b (Lib.byteCells l) w'/\Below B w w'):=Any.Builder_String_any_f Tryz.ajU Tryz.aaM B b l w h uQ
def Tryz.ajP:Go.Shelf.Ren:=⟨λ| 129=>154 |n=>n,λ| 53=>34 | 3=>3 | 4=>4 | 46=>166 | 5=>5 | 9=>9 |n=>n,λ|n=>n⟩
theorem Tryz.ajO:Go.Proofs.Lays.n129 Tryz.prog Tryz.ajP:={
 mixed:=bh
 f129:=axR.trans (atW some bh)
 t3:=atX
 a3:=avz
 z3:=avr
 v3:=auZ
 t4:=aut
 a4:=avi
 z4:=ave
 v4:=auz
 t5:=au5
 a5:=av1
 z5:=avO
 v5:=avl
 t9:=auh
 a9:=avG
 z9:=avv
 v9:=au'
 t46:=avs
 a46:=av2
 z46:=avV
 v46:=avx
 t53:=auM
 a53:=awh
 z53:=av3
 v53:=avw }
theorem Tryz.bits_Len64(x:Int)(w:World)(aJ:0<=x)(U:x<=18446744073709551615):
 Calls Tryz.prog 154 #[.int .u64 x] w λe w'=>e=.returned (.int .i64 (Lib.bitLen x.toNat))/\w'=w:=Any.bits_Len64 Tryz.ajO x w aJ U
open Go.Lib in
def Tryz.aj2:Go.Shelf.Ren:=⟨λ| 283=>210 |n=>n,λ| 3=>3 | 9=>9 | 4=>4 |n=>n,λ|n=>n⟩
theorem Tryz.aj1:Go.Proofs.Lays.n283 Tryz.prog Tryz.aj2:={
 mixed:=bh
 f283:=ayj.trans (atW some bh)
 t3:=atX
 a3:=avz
 z3:=avr
 v3:=auZ
 t4:=aut
 a4:=avi
 z4:=ave
 v4:=auz
 t9:=auh
 a9:=avG
 z9:=avv
 v9:=au' }
open Go.Lib in
theorem Tryz.internal_strconv_small(i:Nat)(h:i<100)(w:World):
 Calls Tryz.prog 210 #[.int .i64 i] w λe w'=>e=.returned (.string ⟨(Lib.decDigits i).toArray⟩)/\w'=w:=Any.internal_strconv_small Tryz.aj1 i h w
def Tryz.aj':Go.Shelf.Ren:=⟨λ| 284=>211 | 129=>154 | 317=>243 | 318=>244 |n=>n,λ| 53=>34 | 3=>3 | 212=>369 | 0=>0 | 4=>4 | 46=>166 | 5=>5 | 9=>9 |n=>n,λ| 17=>7 |n=>n⟩
theorem Tryz.aj9:Go.Proofs.LaysM.n284 Tryz.prog Tryz.aj':={
 mixed:=bh
 f129:=axR.trans (atW some bh)
 f284:=ayk.trans (atW some bh)
 f317:=azj.trans (atW some bh)
 f318:=azk.trans (atW some bh)
 t0:=avk
 a0:=av8
 z0:=avY
 v0:=avu
 t3:=atX
 a3:=avz
 z3:=avr
 v3:=auZ
 t4:=aut
 a4:=avi
 z4:=ave
 v4:=auz
 t5:=au5
 a5:=av1
 z5:=avO
 v5:=avl
 t9:=auh
 a9:=avG
 z9:=avv
 v9:=au'
 t46:=avs
 a46:=av2
 z46:=avV
 v46:=avx
 t53:=auM
 a53:=awh
 z53:=av3
 v53:=avw
 t212:=axx
 a212:=ayV
 z212:=ayB
 v212:=axK
 g17:=bh
 i0:=bh
 i3:=bh
 i4:=bh
 i5:=bh
 i9:=bh
 i46:=bh
 i53:=bh
 i212:=bh
 m17:=bh }
open Go.Lib in
theorem Tryz.internal_strconv_numDigits(u:Nat)(U:1<=u)(ae:u<18446744073709551616)(w:World)(Ga:Lib.TabIs Tryz.prog w "internal/strconv.uint64pow10" .u64 Lib.pow10Tab):
 Calls Tryz.prog 211 #[.int .u64 u] w λe w'=>e=.returned (.int .i64 (Lib.nDigits u))/\w'=w:=Any.internal_strconv_numDigits Tryz.aj9 u U ae w Ga
def Tryz.aj4:Go.Shelf.Ren:=⟨λ| 285=>212 |n=>n,λ| 37=>22 | 53=>34 | 3=>3 | 4=>4 | 51=>49 | 9=>9 | 5=>5 | 0=>0 |n=>n,λ|n=>n⟩
theorem Tryz.aj3:Go.Proofs.Lays.n285 Tryz.prog Tryz.aj4:={
 mixed:=bh
 f285:=ayl.trans (atW some bh)
 t0:=avk
 a0:=av8
 z0:=avY
 v0:=avu
 t3:=atX
 a3:=avz
 z3:=avr
 v3:=auZ
 t4:=aut
 a4:=avi
 z4:=ave
 v4:=auz
 t5:=au5
 a5:=av1
 z5:=avO
 v5:=avl
 t9:=auh
 a9:=avG
 z9:=avv
 v9:=au'
 t37:=avm
 a37:=axT
 z37:=axv
 v37:=awE
 t51:=avU
 a51:=axU
 z51:=axy
 v51:=awF
 t53:=auM
 a53:=awh
 z53:=av3
 v53:=avw }
open Go.Sort Go.Lib in
theorem Tryz.internal_strconv_formatBase10(fV off cap:Nat)(u:Nat)(d:Array UInt8)(w:World)(nt:Holds (λ(b:UInt8)=>Value.int .u8 (b.toNat:Int)) w fV off d)(hu:u<10^d.size)(aim:u<18446744073709551616)(bT:d.size<4611686018427387904):
 Calls Tryz.prog 212 #[.slice (some ⟨fV,off,none⟩) d.size cap,.int .u64 u] w λe w'=>
  e=.returned (.tuple #[])/\∃(n iy:Nat) (EE:Array UInt8),w'=(putRow (λ(b:UInt8)=>Value.int .u8 (b.toNat:Int)) w fV off EE).drewN n/\FmtInv d.size u 0 iy EE:=Any.internal_strconv_formatBase10 Tryz.aj3 fV off cap u d w nt hu aim bT
open Go.Sort Go.Lib in
def Tryz.aj8:Go.Shelf.Ren:=⟨λ| 171=>91 | 243=>150 | 246=>203 | 283=>210 | 284=>211 | 285=>212 | 286=>213 | 129=>154 | 317=>243 | 318=>244 | 319=>245 | 320=>246 | 337=>265 | 338=>266 |n=>n,λ| 3=>3 | 9=>9 | 2=>2 | 4=>4 | 171=>326 | 0=>0 | 53=>34 | 37=>22 | 5=>5 | 173=>328 | 212=>369 | 51=>49 | 20=>20 | 213=>370 | 46=>166 | 232=>424 | 233=>425 |n=>n,λ| 17=>7 | 18=>9 | 19=>10 |n=>n⟩
theorem Tryz.aj7:Go.Proofs.LaysM.n171 Tryz.prog Tryz.aj8:={
 mixed:=bh
 f129:=axR.trans (atW some bh)
 f171:=Tryz.func91.trans (atW some bh)
 f243:=Tryz.func150.trans (atW some bh)
 f246:=Tryz.func203.trans (atW some bh)
 f283:=ayj.trans (atW some bh)
 f284:=ayk.trans (atW some bh)
 f285:=ayl.trans (atW some bh)
 f286:=azl.trans (atW some bh)
 f317:=azj.trans (atW some bh)
 f318:=azk.trans (atW some bh)
 f319:=azm.trans (atW some bh)
 f320:=azn.trans (atW some bh)
 f337:=Tryz.func265.trans (atW some bh)
 f338:=azo.trans (atW some bh)
 t0:=avk
 a0:=av8
 z0:=avY
 v0:=avu
 t2:=awD
 a2:=Tryz.isAgg2
 z2:=Tryz.sizeOf2
 v2:=Tryz.zeroValue2
 t3:=atX
 a3:=avz
 z3:=avr
 v3:=auZ
 t4:=aut
 a4:=avi
 z4:=ave
 v4:=auz
 t5:=au5
 a5:=av1
 z5:=avO
 v5:=avl
 t9:=auh
 a9:=avG
 z9:=avv
 v9:=au'
 t20:=awV
 a20:=ayq
 z20:=ax3
 v20:=aw9
 t37:=avm
 a37:=axT
 z37:=axv
 v37:=awE
 t46:=avs
 a46:=av2
 z46:=avV
 v46:=avx
 t51:=avU
 a51:=axU
 z51:=axy
 v51:=awF
 t53:=auM
 a53:=awh
 z53:=av3
 v53:=avw
 t171:=awM
 a171:=Tryz.isAgg326
 z171:=Tryz.sizeOf326
 v171:=ayH
 t173:=ays
 a173:=Tryz.isAgg328
 z173:=Tryz.sizeOf328
 v173:=ayI
 t212:=axx
 a212:=ayV
 z212:=ayB
 v212:=axK
 t213:=awl
 a213:=Tryz.isAgg370
 z213:=Tryz.sizeOf370
 t232:=ayt
 a232:=Tryz.isAgg424
 z232:=Tryz.sizeOf424
 v232:=ayJ
 t233:=axz
 a233:=Tryz.isAgg425
 z233:=Tryz.sizeOf425
 v233:=ayK
 g17:=bh
 g18:=bh
 g19:=bh
 i0:=bh
 i2:=bh
 i3:=bh
 i4:=bh
 i5:=bh
 i9:=bh
 i20:=bh
 i37:=bh
 i46:=bh
 i51:=bh
 i53:=bh
 i171:=bh
 i173:=bh
 i212:=bh
 i232:=bh
 i233:=bh
 m17:=bh
 m18:=bh
 m19:=bh }
open Go.Sort Go.Lib in
theorem Tryz.strconv_Itoa(n:Int)(aJ: -9223372036854775808<=n)(U:n<=9223372036854775807)(w:World)(Ga:Lib.TabIs Tryz.prog w "internal/strconv.uint64pow10" .u64 Lib.pow10Tab):
 Calls Tryz.prog 91 #[.int .i64 n] w λe w'=>e=.returned (.string ⟨(Lib.itoa n).toArray⟩)/\∃k os,w'=grow (w.drewN k) os:=Any.strconv_Itoa Tryz.aj7 n aJ U w Ga
def Tryz.aj6:Go.Shelf.Ren:=⟨λ| 174=>191 | 247=>205 | 245=>153 | 287=>156 | 279=>206 | 280=>207 | 281=>208 | 282=>209 | 321=>214 | 322=>215 | 316=>241 | 171=>91 | 205=>242 | 243=>150 | 246=>203 | 283=>210 | 284=>211 | 285=>212 | 286=>213 | 129=>154 | 317=>243 | 318=>244 | 319=>245 | 320=>246 | 337=>265 | 338=>266 |n=>n,λ| 9=>9 | 3=>3 | 2=>2 | 75=>27 | 85=>308 | 4=>4 | 167=>322 | 5=>5 | 53=>34 | 175=>226 | 46=>166 | 168=>323 | 37=>22 | 0=>0 | 210=>366 | 21=>21 | 127=>399 | 145=>402 | 143=>400 | 171=>326 | 173=>328 | 212=>369 | 51=>49 | 20=>20 | 213=>370 | 232=>424 | 233=>425 | 80=>237 |n=>n,λ| 15=>5 | 16=>6 | 17=>7 | 18=>9 | 19=>10 |n=>n⟩
theorem Tryz.aj5:Go.Proofs.LaysC.n174 Tryz.prog Tryz.aj6:={
 mixed:=bh
 f129:=axR.trans (atW some bh)
 f171:=Tryz.func91.trans (atW some bh)
 f174:=Tryz.func191.trans (atW some bh)
 f205:=Tryz.func242.trans (atW some bh)
 f243:=Tryz.func150.trans (atW some bh)
 f245:=Tryz.func153.trans (atW some bh)
 f246:=Tryz.func203.trans (atW some bh)
 f247:=Tryz.func205.trans (atW some bh)
 f279:=Tryz.func206.trans (atW some bh)
 f280:=Tryz.func207.trans (atW some bh)
 f281:=Tryz.func208.trans (atW some bh)
 f282:=Tryz.func209.trans (atW some bh)
 f283:=ayj.trans (atW some bh)
 f284:=ayk.trans (atW some bh)
 f285:=ayl.trans (atW some bh)
 f286:=azl.trans (atW some bh)
 f287:=Tryz.func156.trans (atW some bh)
 f316:=Tryz.func241.trans (atW some bh)
 f317:=azj.trans (atW some bh)
 f318:=azk.trans (atW some bh)
 f319:=azm.trans (atW some bh)
 f320:=azn.trans (atW some bh)
 f321:=Tryz.func214.trans (atW some bh)
 f322:=Tryz.func215.trans (atW some bh)
 f337:=Tryz.func265.trans (atW some bh)
 f338:=azo.trans (atW some bh)
 t0:=avk
 a0:=av8
 z0:=avY
 v0:=avu
 t2:=awD
 a2:=Tryz.isAgg2
 z2:=Tryz.sizeOf2
 v2:=Tryz.zeroValue2
 t3:=atX
 a3:=avz
 z3:=avr
 v3:=auZ
 t4:=aut
 a4:=avi
 z4:=ave
 v4:=auz
 t5:=au5
 a5:=av1
 z5:=avO
 v5:=avl
 t9:=auh
 a9:=avG
 z9:=avv
 v9:=au'
 t20:=awV
 a20:=ayq
 z20:=ax3
 v20:=aw9
 t21:=axL
 a21:=azp
 z21:=ayW
 v21:=axY
 t37:=avm
 a37:=axT
 z37:=axv
 v37:=awE
 t46:=avs
 a46:=av2
 z46:=avV
 v46:=avx
 t51:=avU
 a51:=axU
 z51:=axy
 v51:=awF
 t53:=auM
 a53:=awh
 z53:=av3
 v53:=avw
 t75:=au4
 a75:=Tryz.isAgg27
 z75:=Tryz.sizeOf27
 v75:=ay1
 t85:=Tryz.underlying308
 a85:=Tryz.isAgg308
 z85:=Tryz.sizeOf308
 v85:=Tryz.zeroValue308
 t127:=axw
 a127:=ayU
 z127:=ayA
 v127:=axJ
 t143:=Tryz.underlying400
 a143:=Tryz.isAgg400
 z143:=Tryz.sizeOf400
 v143:=Tryz.zeroValue400
 t145:=Tryz.underlying402
 a145:=Tryz.isAgg402
 z145:=Tryz.sizeOf402
 v145:=Tryz.zeroValue402
 t167:=Tryz.underlying322
 a167:=Tryz.isAgg322
 z167:=Tryz.sizeOf322
 v167:=Tryz.zeroValue322
 t168:=Tryz.underlying323
 a168:=Tryz.isAgg323
 z168:=Tryz.sizeOf323
 v168:=Tryz.zeroValue323
 t171:=awM
 a171:=Tryz.isAgg326
 z171:=Tryz.sizeOf326
 v171:=ayH
 t173:=ays
 a173:=Tryz.isAgg328
 z173:=Tryz.sizeOf328
 v173:=ayI
 t175:=Tryz.underlying226
 a175:=Tryz.isAgg226
 z175:=Tryz.sizeOf226
 v175:=Tryz.zeroValue226
 t210:=Tryz.underlying366
 a210:=Tryz.isAgg366
 z210:=Tryz.sizeOf366
 v210:=Tryz.zeroValue366
 t212:=axx
 a212:=ayV
 z212:=ayB
 v212:=axK
 t213:=awl
 a213:=Tryz.isAgg370
 z213:=Tryz.sizeOf370
 t232:=ayt
 a232:=Tryz.isAgg424
 z232:=Tryz.sizeOf424
 v232:=ayJ
 t233:=axz
 a233:=Tryz.isAgg425
 z233:=Tryz.sizeOf425
 v233:=ayK
 g15:=bh
 g16:=bh
 g17:=bh
 g18:=bh
 g19:=bh
 t80:=Tryz.underlying237
 a80:=Tryz.isAgg237
 z80:=Tryz.sizeOf237
 v80:=Tryz.zeroValue237
 i0:=bh
 i2:=bh
 i3:=bh
 i4:=bh
 i5:=bh
 i9:=bh
 i20:=bh
 i21:=bh
 i37:=bh
 i46:=bh
 i51:=bh
 i53:=bh
 i75:=bh
 i80:=bh
 i85:=bh
 i127:=bh
 i143:=bh
 i145:=bh
 i167:=bh
 i168:=bh
 i171:=bh
 i173:=bh
 i175:=bh
 i210:=bh
 i212:=bh
 i232:=bh
 i233:=bh
 m15:=bh
 m16:=bh
 m17:=bh
 m18:=bh
 m19:=bh
 c0:=bh
 c2:=bh
 c3:=bh
 c4:=bh
 c5:=bh
 c9:=bh
 c20:=bh
 c21:=bh
 c37:=bh
 c46:=bh
 c51:=bh
 c53:=bh
 c75:=bh
 c80:=bh
 c85:=bh
 c127:=bh
 c143:=bh
 c145:=bh
 c167:=bh
 c168:=bh
 c171:=bh
 c173:=bh
 c175:=bh
 c210:=bh
 c212:=bh
 c213:=bh
 c232:=bh
 c233:=bh }
theorem Tryz.strconv_ParseInt_10_at64_ok(s:ByteArray)(u':s.size<=9223372036854775806)(v:Int)(h:Lib.parseIntB 64 s.data.toList=.ok v)(w:World):
 Calls Tryz.prog 191 #[.string s,.int .i64 10,.int .i64 64] w λe w'=>e=.returned (.tuple #[.int .i64 v,.nilIface])/\(w'=w\/∃t,w'=Lib.bytesWorld w 5 t):=Any.strconv_ParseInt_10_at64_ok Tryz.aj5 s u' v h w
def Tryz.akc:Go.Shelf.Ren:=⟨λ| 14=>103 | 16=>156 | 17=>153 | 19=>214 | 20=>215 | 21=>206 | 22=>207 | 23=>208 | 24=>209 | 25=>241 | 27=>91 | 26=>242 | 28=>150 | 29=>203 | 30=>210 | 31=>211 | 32=>212 | 33=>213 | 35=>154 | 34=>243 | 36=>244 | 37=>245 | 38=>246 | 39=>265 | 40=>266 |n=>n,λ| 9=>9 | 3=>3 | 22=>34 | 24=>27 | 25=>226 | 4=>4 | 34=>322 | 5=>5 | 36=>166 | 37=>22 | 0=>0 | 39=>323 | 21=>21 | 44=>366 | 47=>399 | 50=>402 | 48=>400 | 2=>2 | 52=>326 | 55=>328 | 59=>369 | 60=>49 | 20=>20 | 61=>370 | 65=>424 | 66=>425 | 67=>237 |n=>n,λ| 0=>5 | 1=>6 | 2=>7 | 3=>9 | 4=>10 |n=>n⟩
theorem Tryz.Xm:Go.Proofs.LaysPu.n14 Tryz.prog Tryz.akc:={
 mixed:=bh
 f14:=Tryz.func103.trans (atW some bh)
 f16:=Tryz.func156.trans (atW some bh)
 f17:=Tryz.func153.trans (atW some bh)
 f19:=Tryz.func214.trans (atW some bh)
 f20:=Tryz.func215.trans (atW some bh)
 f21:=Tryz.func206.trans (atW some bh)
 f22:=Tryz.func207.trans (atW some bh)
 f23:=Tryz.func208.trans (atW some bh)
 f24:=Tryz.func209.trans (atW some bh)
 f25:=Tryz.func241.trans (atW some bh)
 f26:=Tryz.func242.trans (atW some bh)
 f27:=Tryz.func91.trans (atW some bh)
 f28:=Tryz.func150.trans (atW some bh)
 f29:=Tryz.func203.trans (atW some bh)
 f30:=ayj.trans (atW some bh)
 f31:=ayk.trans (atW some bh)
 f32:=ayl.trans (atW some bh)
 f33:=azl.trans (atW some bh)
 f34:=azj.trans (atW some bh)
 f35:=axR.trans (atW some bh)
 f36:=azk.trans (atW some bh)
 f37:=azm.trans (atW some bh)
 f38:=azn.trans (atW some bh)
 f39:=Tryz.func265.trans (atW some bh)
 f40:=azo.trans (atW some bh)
 t0:=avk
 a0:=av8
 z0:=avY
 v0:=avu
 i0:=bh
 t2:=awD
 a2:=Tryz.isAgg2
 z2:=Tryz.sizeOf2
 v2:=Tryz.zeroValue2
 i2:=bh
 t3:=atX
 a3:=avz
 z3:=avr
 v3:=auZ
 i3:=bh
 t4:=aut
 a4:=avi
 z4:=ave
 v4:=auz
 i4:=bh
 t5:=au5
 a5:=av1
 z5:=avO
 v5:=avl
 i5:=bh
 t9:=auh
 a9:=avG
 z9:=avv
 v9:=au'
 i9:=bh
 t20:=awV
 a20:=ayq
 z20:=ax3
 v20:=aw9
 i20:=bh
 t21:=axL
 a21:=azp
 z21:=ayW
 v21:=axY
 i21:=bh
 t22:=auM
 a22:=awh
 z22:=av3
 v22:=avw
 i22:=bh
 t24:=au4
 a24:=Tryz.isAgg27
 z24:=Tryz.sizeOf27
 v24:=ay1
 i24:=bh
 t25:=Tryz.underlying226
 a25:=Tryz.isAgg226
 z25:=Tryz.sizeOf226
 v25:=Tryz.zeroValue226
 i25:=bh
 t34:=Tryz.underlying322
 a34:=Tryz.isAgg322
 z34:=Tryz.sizeOf322
 v34:=Tryz.zeroValue322
 i34:=bh
 c34:=bh
 t36:=avs
 a36:=av2
 z36:=avV
 v36:=avx
 i36:=bh
 t37:=avm
 a37:=axT
 z37:=axv
 v37:=awE
 i37:=bh
 t39:=Tryz.underlying323
 a39:=Tryz.isAgg323
 z39:=Tryz.sizeOf323
 v39:=Tryz.zeroValue323
 i39:=bh
 t44:=Tryz.underlying366
 a44:=Tryz.isAgg366
 z44:=Tryz.sizeOf366
 v44:=Tryz.zeroValue366
 i44:=bh
 t47:=axw
 a47:=ayU
 z47:=ayA
 v47:=axJ
 i47:=bh
 t48:=Tryz.underlying400
 a48:=Tryz.isAgg400
 z48:=Tryz.sizeOf400
 v48:=Tryz.zeroValue400
 i48:=bh
 t50:=Tryz.underlying402
 a50:=Tryz.isAgg402
 z50:=Tryz.sizeOf402
 v50:=Tryz.zeroValue402
 i50:=bh
 t52:=awM
 a52:=Tryz.isAgg326
 z52:=Tryz.sizeOf326
 v52:=ayH
 i52:=bh
 t55:=ays
 a55:=Tryz.isAgg328
 z55:=Tryz.sizeOf328
 v55:=ayI
 i55:=bh
 t59:=axx
 a59:=ayV
 z59:=ayB
 v59:=axK
 i59:=bh
 t60:=avU
 a60:=axU
 z60:=axy
 v60:=awF
 i60:=bh
 t61:=awl
 a61:=Tryz.isAgg370
 z61:=Tryz.sizeOf370
 t65:=ayt
 a65:=Tryz.isAgg424
 z65:=Tryz.sizeOf424
 v65:=ayJ
 i65:=bh
 t66:=axz
 a66:=Tryz.isAgg425
 z66:=Tryz.sizeOf425
 v66:=ayK
 i66:=bh
 t67:=Tryz.underlying237
 a67:=Tryz.isAgg237
 z67:=Tryz.sizeOf237
 v67:=Tryz.zeroValue237
 i67:=bh
 g0:=bh
 m0:=bh
 g1:=bh
 m1:=bh
 g2:=bh
 m2:=bh
 g3:=bh
 m3:=bh
 g4:=bh
 m4:=bh }
theorem Tryz.strconv_ParseUint_10_at64_ok(s:ByteArray)(u':s.size<=9223372036854775806)(u:Nat)(h:Lib.parseUintB 64 s.data.toList=.ok u)(w:World):
 Calls Tryz.prog 103 #[.string s,.int .i64 10,.int .i64 64] w λe w'=>e=.returned (.tuple #[.int .u64 u,.nilIface])/\(w'=w\/w'=Lib.bytesWorld w 5 s):=Any.strconv_ParseUint_10_at64_ok Tryz.Xm s u' u h w
theorem Tryz.strconv_ParseUint_10_at64_syntax(s:ByteArray)(ahj:s.size<=281474976710656)(h:Lib.parseUintB 64 s.data.toList=Lib.parseUintB 64 [])(n':Value)(w:World)(ao:w.cell? ⟨5,0,none⟩=some n')(tz:n'=.nilIface\/∃lu xD,n'=.iface lu xD):
 Calls Tryz.prog 103 #[.string s,.int .i64 10,.int .i64 64] w λe w'=>∃N,e=.returned (.tuple #[.int .u64 0,.iface 323 (.pointer (some ⟨N,0,none⟩))])/\w.heap.size<=N/\w'.heap[N]? =some (.cells #[.string ⟨#[80,97,114,115,101,85,105,110,116]⟩,.string s,n'] 366 (0,0))/\Below w.heap.size w w':=Any.strconv_ParseUint_10_at64_syntax Tryz.Xm s ahj h n' w ao tz
open Go.Lib in
def Tryz.ajT:Go.Shelf.Ren:=⟨λ| 157=>108 | 229=>163 | 199=>164 | 261=>216 | 311=>247 | 312=>248 |n=>n,λ| 9=>9 | 31=>104 | 3=>3 | 5=>5 | 4=>4 | 119=>272 | 0=>0 | 40=>248 | 152=>331 | 21=>21 | 154=>333 | 51=>49 | 141=>335 | 196=>375 | 193=>372 | 198=>377 | 49=>160 | 194=>373 | 201=>380 | 226=>404 | 46=>166 | 227=>405 |n=>n,λ| 0=>1 | 6=>4 |n=>n⟩
theorem Tryz.ajS:Go.Proofs.Lays.n157 Tryz.prog Tryz.ajT:={
 mixed:=bh
 f157:=Tryz.func108.trans (atW some bh)
 f199:=Tryz.func164.trans (atW some bh)
 f229:=Tryz.func163.trans (atW some bh)
 f261:=Tryz.func216.trans (atW some bh)
 f311:=Tryz.func247.trans (atW some bh)
 f312:=Tryz.func248.trans (atW some bh)
 t0:=avk
 a0:=av8
 z0:=avY
 v0:=avu
 t3:=atX
 a3:=avz
 z3:=avr
 v3:=auZ
 t4:=aut
 a4:=avi
 z4:=ave
 v4:=auz
 t5:=au5
 a5:=av1
 z5:=avO
 v5:=avl
 t9:=auh
 a9:=avG
 z9:=avv
 v9:=au'
 t21:=axL
 a21:=azp
 z21:=ayW
 v21:=axY
 t31:=Tryz.underlying104
 a31:=Tryz.isAgg104
 z31:=Tryz.sizeOf104
 v31:=Tryz.zeroValue104
 t40:=Tryz.underlying248
 a40:=Tryz.isAgg248
 z40:=Tryz.sizeOf248
 v40:=Tryz.zeroValue248
 t46:=avs
 a46:=av2
 z46:=avV
 v46:=avx
 t49:=Tryz.underlying160
 a49:=Tryz.isAgg160
 z49:=Tryz.sizeOf160
 v49:=Tryz.zeroValue160
 t51:=avU
 a51:=axU
 z51:=axy
 v51:=awF
 t119:=Tryz.underlying272
 a119:=Tryz.isAgg272
 z119:=Tryz.sizeOf272
 t141:=Tryz.underlying335
 a141:=Tryz.isAgg335
 z141:=Tryz.sizeOf335
 v141:=Tryz.zeroValue335
 t152:=Tryz.underlying331
 a152:=Tryz.isAgg331
 z152:=Tryz.sizeOf331
 v152:=Tryz.zeroValue331
 t154:=Tryz.underlying333
 a154:=Tryz.isAgg333
 z154:=Tryz.sizeOf333
 v154:=Tryz.zeroValue333
 t193:=Tryz.underlying372
 a193:=Tryz.isAgg372
 z193:=Tryz.sizeOf372
 v193:=Tryz.zeroValue372
 t194:=Tryz.underlying373
 a194:=Tryz.isAgg373
 z194:=Tryz.sizeOf373
 v194:=Tryz.zeroValue373
 t196:=Tryz.underlying375
 a196:=Tryz.isAgg375
 z196:=Tryz.sizeOf375
 v196:=Tryz.zeroValue375
 t198:=Tryz.underlying377
 a198:=Tryz.isAgg377
 z198:=Tryz.sizeOf377
 v198:=Tryz.zeroValue377
 t201:=Tryz.underlying380
 a201:=Tryz.isAgg380
 z201:=Tryz.sizeOf380
 v201:=Tryz.zeroValue380
 t226:=Tryz.underlying404
 a226:=Tryz.isAgg404
 z226:=Tryz.sizeOf404
 v226:=Tryz.zeroValue404
 t227:=Tryz.underlying405
 a227:=Tryz.isAgg405
 z227:=Tryz.sizeOf405
 v227:=Tryz.zeroValue405
 g0:=bh
 g6:=bh }
open Go.Lib in
theorem Tryz.strings_Fields(s:ByteArray)(w:World)(aG:s.size<4294967281)(agq:∀(j:Nat) b,s.data.toList[j]? =some b->b.toNat<128)(Ga:Lib.TabIs Tryz.prog w "strings.asciiSpace" .u8 Lib.asciiSpaceTab):
 Calls Tryz.prog 108 #[.string s] w λe w'=>
  e=.returned (.slice (some ⟨w.heap.size,0,none⟩) (Lib.fields s.data.toList).length (Lib.fields s.data.toList).length)/\w'=w.alloc (.cells ((Lib.fields s.data.toList).map λl=>Value.string ⟨l.toArray⟩).toArray 9):=Any.strings_Fields Tryz.ajS bh bh s w aG agq Ga
open Go.Lib in
def Tryz.ajR:Go.Shelf.Ren:=⟨λ| 151=>186 | 152=>230 | 137=>255 | 119=>256 | 224=>257 | 225=>258 | 217=>270 | 266=>281 |n=>n,λ| 9=>9 | 21=>21 | 4=>4 | 3=>3 | 5=>5 | 0=>0 | 46=>166 |n=>n,λ|n=>n⟩
theorem Tryz.ajQ:Go.Proofs.Lays.n151 Tryz.prog Tryz.ajR:={
 mixed:=bh
 f119:=Tryz.func256.trans (atW some bh)
 f137:=Tryz.func255.trans (atW some bh)
 f151:=Tryz.func186.trans (atW some bh)
 f152:=Tryz.func230.trans (atW some bh)
 f217:=Tryz.func270.trans (atW some bh)
 f224:=Tryz.func257.trans (atW some bh)
 f225:=Tryz.func258.trans (atW some bh)
 f266:=Tryz.func281.trans (atW some bh)
 t0:=avk
 a0:=av8
 z0:=avY
 v0:=avu
 t3:=atX
 a3:=avz
 z3:=avr
 v3:=auZ
 t4:=aut
 a4:=avi
 z4:=ave
 v4:=auz
 t5:=au5
 a5:=av1
 z5:=avO
 v5:=avl
 t9:=auh
 a9:=avG
 z9:=avv
 v9:=au'
 t21:=axL
 a21:=azp
 z21:=ayW
 v21:=axY
 t46:=avs
 a46:=av2
 z46:=avV
 v46:=avx }
open Go.Lib in
theorem Tryz.strings_ContainsRune_ascii(s:ByteArray)(r:Int)(w:World)(aJ:0<=r)(U:r<128):
 Calls Tryz.prog 186 #[.string s,.int .i32 r] w λe w'=>e=.returned (.bool (decide (0<=Lib.indexByte s.data.toList r.toNat.toUInt8)))/\w'=w:=Any.strings_ContainsRune_ascii Tryz.ajQ s r w aJ U
open Go.Lib in
def Tryz.aj0:Go.Shelf.Ren:=⟨λ| 264=>279 |n=>n,λ| 53=>34 | 46=>166 |n=>n,λ|n=>n⟩
theorem Tryz.ajZ:Go.Proofs.Lays.n264 Tryz.prog Tryz.aj0:={
 mixed:=bh
 f264:=azg.trans (atW some bh)
 t46:=avs
 a46:=av2
 z46:=avV
 v46:=avx
 t53:=auM
 a53:=awh
 z53:=av3
 v53:=avw }
open Go.Lib in
theorem Tryz.bits_Mul64(x y:Nat)(hx:x<18446744073709551616)(aO:y<18446744073709551616)(w:World):
 Calls Tryz.prog 279 #[.int .u64 x,.int .u64 y] w λe w'=>e=.returned (.tuple #[.int .u64 ((x*y/18446744073709551616:Nat):Int),.int .u64 ((x*y%18446744073709551616:Nat):Int)])/\w'=w:=Any.bits_Mul64 Tryz.ajZ x y hx aO w
open Go.Lib in
def Tryz.ajN:Go.Shelf.Ren:=⟨λ| 105=>274 | 212=>289 | 99=>178 | 165=>290 | 166=>291 | 170=>292 | 169=>253 | 263=>298 | 264=>279 | 206=>204 | 240=>269 | 241=>299 | 276=>280 | 277=>304 |n=>n,λ| 9=>9 | 3=>3 | 4=>4 | 20=>20 | 0=>0 | 46=>166 | 109=>434 | 5=>5 | 72=>386 | 76=>221 | 51=>49 | 146=>441 | 53=>34 | 148=>422 | 70=>384 | 37=>22 | 75=>27 | 127=>399 | 164=>200 | 80=>237 |n=>n,λ|n=>n⟩
theorem Tryz.ajM:Go.Proofs.Lays.n105 Tryz.prog Tryz.ajN:={
 mixed:=bh
 f99:=Tryz.func178.trans (atW some bh)
 f105:=Tryz.func274.trans (atW some bh)
 f165:=Tryz.func290.trans (atW some bh)
 f166:=Tryz.func291.trans (atW some bh)
 f169:=Tryz.func253.trans (atW some bh)
 f170:=Tryz.func292.trans (atW some bh)
 f206:=Tryz.func204.trans (atW some bh)
 f212:=Tryz.func289.trans (atW some bh)
 f240:=Tryz.func269.trans (atW some bh)
 f241:=Tryz.func299.trans (atW some bh)
 f263:=Tryz.func298.trans (atW some bh)
 f264:=azg.trans (atW some bh)
 f276:=Tryz.func280.trans (atW some bh)
 f277:=Tryz.func304.trans (atW some bh)
 t0:=avk
 a0:=av8
 z0:=avY
 v0:=avu
 t3:=atX
 a3:=avz
 z3:=avr
 v3:=auZ
 t4:=aut
 a4:=avi
 z4:=ave
 v4:=auz
 t5:=au5
 a5:=av1
 z5:=avO
 v5:=avl
 t9:=auh
 a9:=avG
 z9:=avv
 v9:=au'
 t20:=awV
 a20:=ayq
 z20:=ax3
 v20:=aw9
 t37:=avm
 a37:=axT
 z37:=axv
 v37:=awE
 t46:=avs
 a46:=av2
 z46:=avV
 v46:=avx
 t51:=avU
 a51:=axU
 z51:=axy
 v51:=awF
 t53:=auM
 a53:=awh
 z53:=av3
 v53:=avw
 t70:=Tryz.underlying384
 a70:=Tryz.isAgg384
 z70:=Tryz.sizeOf384
 v70:=Tryz.zeroValue384
 t72:=Tryz.underlying386
 a72:=Tryz.isAgg386
 z72:=Tryz.sizeOf386
 v72:=Tryz.zeroValue386
 t75:=au4
 a75:=Tryz.isAgg27
 z75:=Tryz.sizeOf27
 v75:=ay1
 t76:=Tryz.underlying221
 a76:=Tryz.isAgg221
 z76:=Tryz.sizeOf221
 v76:=Tryz.zeroValue221
 t109:=Tryz.underlying434
 a109:=Tryz.isAgg434
 z109:=Tryz.sizeOf434
 v109:=Tryz.zeroValue434
 t127:=axw
 a127:=ayU
 z127:=ayA
 v127:=axJ
 t146:=Tryz.underlying441
 a146:=Tryz.isAgg441
 z146:=Tryz.sizeOf441
 v146:=Tryz.zeroValue441
 t148:=Tryz.underlying422
 a148:=Tryz.isAgg422
 z148:=Tryz.sizeOf422
 v148:=Tryz.zeroValue422
 t164:=Tryz.underlying200
 a164:=Tryz.isAgg200
 z164:=Tryz.sizeOf200
 v164:=Tryz.zeroValue200 }
open Go.Lib in
theorem Tryz.strings_Repeat_zero(s:ByteArray)(w:World):
 Calls Tryz.prog 274 #[.string s,.int .i64 0] w λe w'=>e=.returned (.string ⟨#[]⟩)/\w'=w:=Any.strings_Repeat_zero Tryz.ajM s w
open Go.Lib Go.Sort in
def Tryz.akb:Go.Shelf.Ren:=⟨λ| 16=>133 |n=>n,λ| 24=>104 | 9=>9 | 4=>4 |n=>n,λ|n=>n⟩
theorem Tryz.aka:Go.Proofs.Lays2.n16 Tryz.prog Tryz.akb:={
 mixed:=bh
 f16:=Tryz.func133.trans (atW some bh)
 t4:=aut
 a4:=avi
 z4:=ave
 v4:=auz
 t9:=auh
 a9:=avG
 z9:=avv
 v9:=au'
 t24:=Tryz.underlying104
 a24:=Tryz.isAgg104
 z24:=Tryz.sizeOf104
 v24:=Tryz.zeroValue104
 i9:=bh }
open Go.Lib in
theorem Tryz.slices_Clone_string(b off n c:Nat)(cg:List ByteArray)(w:World)(bA:n<=cg.length)(qu:n*16<=140737488355328)(av:∀j,j<cg.length->w.cell? ⟨b,off+j,none⟩=some (.string (cg.getD j ByteArray.empty))):
 Calls Tryz.prog 133 #[.slice (some ⟨b,off,none⟩) n c] w λe w'=>∃iy,e=.returned iy/\w'.ownsRow w.heap.size 9 1 iy n ((cg.take n).map (Value.string))/\iy≠.slice none 0 0/\Below w.heap.size w w':=Any.slices_Clone_string Tryz.aka b off n c cg w bA qu av
end
end Go.Proofs
namespace Go.Proofs.YtnkjmbbddmgjiaaGreatDoor
open Go.RowKit Go.Proofs.Tryz
variable {x:Ins}{R d j cN:Nat}{ay:Option Addr}{aR:List (Nat × Operand)}{e ty t':TypeId}{z:Value}{bx:Array Edge}{w w':World}{xs:List Bool}{y:Operand}{pw:Nat × Nat}
section
attribute [local irreducible] wpList wpQuiet wpStill Code.wp Exit.then Exit.inBlock bodyPost Calls bL eT
theorem Hl{b:Nat}(h:b<256):IntKind.u64.wrap (b:Nat)=(b:Int):=by
 have e:IntKind.u64.wrap (b:Nat)=(b:Int)%18446744073709551616:=rfl;rw [e];omega
theorem akt{x:Nat}(h:2<=x):Nat.log2 x=Nat.log2 (x/2)+1:=by
 rw [Nat.log2_def,atM h]
theorem RW:∀(f x:Nat),x<2^f->Lib.bitLenAux f x=qk x
 | 0,x,h=>by
  have:x=0:=by simpa using h
  subst this;rfl
 |f+1,x,h=>by
  unfold Lib.bitLenAux;by_cases aJ:x=0
  · rw [atM aJ,aJ];rfl
  · rw [atK aJ,RW f (x/2) (by rw [ayu]at h;omega)];unfold qk;rw [atK aJ];by_cases U:x/2=0
    · obtain rfl:x=1:=bj
      rfl
    · rw [atK U,akt (x:=x) bj];omega
theorem abh{x:Nat}(h:x<2^64):Lib.bitLen x=qk x:=RW 64 x h
theorem abg{c:Nat}:qk (c%128)<=7:=by
 have:=(Ep (c:=c%128) (s:=57) bj).2 bj;omega
theorem Pv(w:World)(x:Nat)(h:x<2^64):bd prog 154 [.int .u64 (x:Nat)].toArray w (λv w'=>v=.int .i64 (qk x:Nat)/\w'=w):=
 auC (Tryz.bits_Len64 (x:Nat) w bj bj) λe w' e9=>⟨_,e9.1,by rw [avJ,abh h],e9.2⟩
theorem aa8(c:Nat):c &&& 127=c%128:=avW c 7
theorem alT{t c s:Nat}(h:t<2^s):t ||| c*2^s=t+c*2^s:=by
 rw [Nat.or_comm,avq,<-ax' h,axi]
theorem aoc(c:Nat)(r:List Nat)(s:Nat):jm (c::r) s=if vH c s then none else if c<128 then some (c,r)else(jm r (s+7)).map λp=>(c%128+128*p.1,p.2):=rfl
def Qz(t s:Nat)(p:Nat × List Nat):Nat × List Nat:=(t+2^s*p.1,p.2)
theorem Y2(w:World){n c at_:Nat}{aa:List Nat}(h:iA w R ay n c at_ x .nilIface aa)(ha:at_<=n):
   bd prog 99 [.pointer (some ⟨R,0,none⟩)].toArray w (λv w'=>w.grownBy w' (some R)/\
     ((∃u r at2,jm (aa.drop at_) 0=some (u,r)/\v=.int .u64 (u:Nat)/\iA w' R ay n c at2 x .nilIface aa/\aa.drop at2=r/\at2<=n)\/
      (jm (aa.drop at_) 0=none/\∃at2 k y,v=.int .u64 0/\iA w' R ay n c at2 x (mg k 0 y) aa/\at2<=n))):=by
 have u':=h.max;have bM:w.cell? ⟨R,0+1,none⟩=some (.int .i64 (at_:Nat)):=aF h.cells rfl;refine cF func99 rfl 60 rfl 61 rfl (λa I=>?_);revert a;(repeat first|refine ag ?_|refine J (af bM) ?_);intro a I;refine eg (λq a wr=>∃(s t at2:Nat),s<=70/\q=70- s/\Fr 61 [(0,.pointer (some ⟨R,0,none⟩)),(3,.int .i64 (at_:Nat)),(4,.int .u64 (t:Nat)),(5,.int .i64 (s:Nat))] a/\t<2^s/\at2<=n/\iA wr R ay n c at2 x .nilIface aa/\w.grownBy wr (some R)/\jm (aa.drop at_) 0=(jm (aa.drop at2) s).map (Qz t s)) 70
   ⟨0,0,at_,bj,rfl,I.bb,bk,ha,h,TM _ _,by cases aI:jm (aa.drop at_) 0<;>simp [Qz]⟩ ?_
 clear I a;rintro q a wr ⟨s,t,at2,aG,rfl,I,bW,qq,bY,an,heq⟩;have ar8:=bY.max;revert a;refine ad λa I=>?_;refine aQ I (Y0 wr bY bj) λa v aq ab I=>?_;obtain⟨aT,⟨b,hb,rfl,tI⟩|⟨hle,rfl,tI⟩⟩:=ab
 · have bu:=(atY.1 hb).1;have c':=bY.byte b (auF hb);have Nv:aa.drop at2=b::aa.drop (at2+1):=by
     rw [aua bu];rw [atT bu]at hb;rw [aud hb]
   have ba:=tI.len;have d7:aq.cell? ⟨R,0+7,none⟩=some .nilIface:=aF tI.cells rfl;rw [Nv,aoc]at heq;have EG:=aa8 b;have I5:qk (b &&& 127)<=7:=by rw [EG];exact abg
   have pD:b &&& 127<2^64:=by rw [EG];omega
   by_cases hA:vH b s
   · rw [atM hA]at heq;unfold vH at hA;rw [<-EG]at hA;have av:63<s\/(¬63<s/\64<qk (b &&& 127)+s)\/(¬63<s/\¬64<qk (b &&& 127)+s/\s=63/\127<b)\/(¬63<s/\¬64<qk (b &&& 127)+s/\s=63/\¬127<b/\b=0/\0<s)\/(¬63<s/\¬64<qk (b &&& 127)+s/\¬s=63/\b=0/\0<s):=bj
     clear hA;rcases av with bM|⟨bM,c2⟩|⟨bM,c2,c3,c4⟩|⟨bM,c2,c3,c4,c5,kj⟩|⟨bM,c2,c3,c4,c5⟩<;>
     ( (revert a;(repeat first|refine ag ?_|refine J (e8 (aA _ _ rfl) (aA _ _ rfl) rfl (Hl c')) ?_|refine J (im au4 d7) ?_|refine J (fi (a:=b) (b:=127) rfl rfl rfl rfl rfl (by show b<2^64;omega) bk) ?_);intro a I)
       try (
         refine ig I (Pv aq (b &&& 127) pD) LC ⟨rfl,trivial⟩ (k:=λa v ax ab I=>?_);obtain⟨rfl,rfl⟩:=ab;(revert a;refine ad ?_;intro a I))
       refine aQ I (B8 _ 4 (at_:Nat)) λa v a6 ab I=>?_;obtain⟨rfl,rfl⟩:=ab;revert a;refine ad λa I=>?_;refine cr I (aw _ _ rfl) tI.cells (i:=0+7) (by show 0+7<8;decide) rfl rfl rfl (k:=λa bZ bX bD eY I=>?_);have aie:=tI.set (at2:=at2+1) (y:=x) (e':=mg 4 0 (at_:Nat)) bX bD;revert a;refine ad λa I=>?_;exact bc I rfl rfl ⟨gL an (gL aT bD),.inr ⟨heq,at2+1,4,at_,rfl,aie,bj⟩⟩)
   · rw [atK hA]at heq;unfold vH at hA;rw [<-EG]at hA;have bM:¬63<s:=λh=>hA (.inl h);have c2:¬64<qk (b &&& 127)+s:=λh=>hA (.inr (.inl h));have hm:=(Ep bj).1 c2;have eB:(2:Nat)^s<=2^63:=aum bj bj;have VE:t ||| (b &&& 127)*2^s=t+(b%128)*2^s:=by rw [EG];exact alT bW
     by_cases xe:b<128
     · rw [atM xe]at heq;have av:(¬63<s/\s=63/\¬127<b/\¬b=0)\/(¬63<s/\¬s=63/\¬b=0)\/(¬63<s/\¬s=63/\b=0/\¬0<s):=bj
       rcases av with ⟨c4,c5,kj,l9⟩|⟨c4,c5,kj⟩|⟨c4,c5,kj,l9⟩<;>
       ( (revert a;(repeat first|refine ag ?_|refine J (e8 (aA _ _ rfl) (aA _ _ rfl) rfl (Hl c')) ?_|refine J (im au4 d7) ?_|refine J (fi (a:=b) (b:=127) rfl rfl rfl rfl rfl (by show b<2^64;omega) bk) ?_);intro a I)
         refine ig I (Pv aq (b &&& 127) pD) LC ⟨rfl,trivial⟩ (k:=λa v ax ab I=>?_);obtain⟨rfl,rfl⟩:=ab;revert a;(repeat first|refine ag ?_|refine J (fi (a:=b) (b:=127) rfl rfl rfl rfl rfl (by show b<2^64;omega) bk) ?_|refine J (wv (a:=b &&& 127) (b:=s) rfl rfl rfl rfl rfl (by show s<=64;omega) hm) ?_|refine J (fi (a:=t) (b:=(b &&& 127)*2^s) rfl rfl rfl rfl rfl (auj bW (atN eB bk)) hm) ?_);intro a I;rw [VE]at I;exact bc I rfl rfl ⟨gL an aT,.inl ⟨_,_,at2+1,heq,by show Value.int _ _=_;rw [auU xe,avq],tI,rfl,bj⟩⟩)
     · rw [atK xe]at heq;have c5:¬s=63:=bj
       have kj:¬b=0:=bj
       revert a;(repeat first|refine ag ?_|refine J (e8 (aA _ _ rfl) (aA _ _ rfl) rfl (Hl c')) ?_|refine J (im au4 d7) ?_|refine J (fi (a:=b) (b:=127) rfl rfl rfl rfl rfl (by show b<2^64;omega) bk) ?_);intro a I;refine ig I (Pv aq (b &&& 127) pD) LC ⟨rfl,trivial⟩ (k:=λa v ax ab I=>?_);obtain⟨rfl,rfl⟩:=ab;revert a;(repeat first|refine ag ?_|refine J (fi (a:=b) (b:=127) rfl rfl rfl rfl rfl (by show b<2^64;omega) bk) ?_|refine J (wv (a:=b &&& 127) (b:=s) rfl rfl rfl rfl rfl (by show s<=64;omega) hm) ?_|refine J (fi (a:=t) (b:=(b &&& 127)*2^s) rfl rfl rfl rfl rfl (auj bW (atN eB bk)) hm) ?_);intro a I;rw [VE]at I;have pt:(2:Nat)^(s+7)=2^s*128:=avZ 2 s 7;have Vs:t+(b%128)*2^s<2^(s+7):=by
         have:(b%128+1)*2^s<=128*2^s:=avy _ bj;rw [av7,Nat.one_mul]at this;rw [pt,avq (2^s)];omega
       refine⟨70- (s+7),bj,s+7,t+(b%128)*2^s,at2+1,bj,rfl,I.bb,Vs,bj,tI,gL an aT,?_⟩;rw [heq];cases jm (aa.drop (at2+1)) (s+7)with
       |none=>rfl
       |some p=>
         simp only [aug,Qz,auW,awS,and_true];rw [pt,azJ,avq (2^s) (b%128),awb,azF]
 · have d7:aq.cell? ⟨R,0+7,none⟩=some (mg 2 0 (n:Nat)):=aF tI.cells rfl;have Nv:=ava (by rw [bY.len];exact hle);rw [Nv]at heq;revert a;(repeat first|refine ag ?_|refine J (ads (aA _ _ rfl) (aA _ _ rfl) rfl rfl rfl) ?_|refine J (im au4 d7) ?_);intro a I;exact bc I rfl rfl ⟨gL an aT,.inr ⟨heq,at2,2,n,rfl,tI,qq⟩⟩
theorem Zm:∀(k v:Nat),v<128^(k+1)->(jn v).length<=k+1
 | 0,v,h=>by rw [DH (by simpa using h)];simp
 |k+1,v,h=>by
  by_cases av:v<128
  · rw [DH av];simp
  · rw [GY av];have:=Zm k (v/128) (by rw [ayu]at h;exact aw3 (by rw [avq];exact h));simp;omega
theorem KC{v:Nat}(h:v<2^64):(jn v).length<=10:=Zm 9 v (auj h bk)
theorem alR{c:Nat}(h:c<256):c ||| 128=c%128+128:=by
 have:∀c:Fin 256,c.val ||| 128=c.val%128+128:=bo
 exact this ⟨c,h⟩
theorem D7(u:Nat):IntKind.u8.wrap (u:Nat)=((u%256:Nat):Int):=by
 have e:IntKind.u8.wrap (u:Nat)=(u:Int)%256:=rfl;rw [e];omega
theorem aaz(w:World){base B:Nat}{aa:List Nat}(v:Nat)(ao:v<2^64)(h:iO w base B x aa)(aN:aa.length<=1000000)(dk:base<=w.heap.size):
   bd prog 97 [.pointer (some ⟨B,0,none⟩),.int .u64 (v:Nat)].toArray w (λ_ w'=>iO w' base B x (aa++jn v)/\ju base B w w'):=by
 have hlen:=KC ao;have cU:=h.base;refine dP func97 rfl 29 rfl 31 rfl (λa I=>?_);revert a;refine ad λa I=>?_;refine eg (λq a wr=>∃(u:Nat) (done:List Nat),q=u/\Fr 31 [(0,.pointer (some ⟨B,0,none⟩)),(1,.int .u64 (u:Nat))] a/\u<2^64/\iO wr base B x (aa++done)/\jn v=done++jn u/\ju base B w wr) v
   ⟨v,[],rfl,I.bb,ao,by simpa using h,rfl,ju.refl _ _ _⟩ ?_
 clear I a h;rintro u a wr ⟨_,done,rfl,I,hu,bY,heq,cH⟩;obtain⟨⟨ay,cap,az,aX⟩,_⟩:=bY;have tv:done.length<=10:=by
   have:=atW List.length heq;simp at this;omega
 have Of:(aa++done).length<=1000010:=bm
 have bT:=atN dk cH.below.size;have c0:wr.cell? ⟨B,0+0,none⟩=some (.slice ay (aa++done).length cap):=aF az rfl;by_cases av:127<u
 · revert a;(repeat first|refine ag ?_|refine J (e8 (aA _ _ rfl) (aA _ _ rfl) rfl (D7 u)) ?_|refine J (fi (a:=u%256) (b:=128) rfl rfl rfl rfl rfl (by show u%256<2^8;omega) bk) ?_|refine J (af c0) ?_);intro a I;refine vJ I (aA _ _ rfl) mT rfl aX bj bn bT (k:=λa eM fr ax eR aS I=>?_);have aP:=aD az aS (jk aX az bk);revert a;refine ad λa I=>?_;refine cr I (aw _ _ rfl) aP (i:=0+0) (by show 0+0<6;decide) rfl rfl rfl (k:=λa a6 bR bz eE I=>?_);have jz:=pW eR aP bk bz;rw [alR bj,show u%256%128=u%128 by omega]at jz;have OK:=iO.push bR jz cU;have a1:=(cH.own aX aS bT).fV bz cU (by have:=aS.size;omega);revert a;(repeat first|refine ag ?_|refine J (lG (a:=u) (b:=7) rfl rfl rfl rfl bk) ?_);intro a I;refine⟨u/2^7,bj,u/2^7,done++ [u%128+128],rfl,I.bb,bj,by rw [<-auJ];exact OK,?_,a1⟩;rw [heq,GY bj];simp
 · revert a;(repeat first|refine ag ?_|refine J (e8 (aA _ _ rfl) (aA _ _ rfl) rfl (D7 u)) ?_|refine J (af c0) ?_);intro a I;refine vJ I (aA _ _ rfl) mT rfl aX bj bn bT (k:=λa eM fr ax eR aS I=>?_);have aP:=aD az aS (jk aX az bk);revert a;refine ad λa I=>?_;refine cr I (aw _ _ rfl) aP (i:=0+0) (by show 0+0<6;decide) rfl rfl rfl (k:=λa a6 bR bz eE I=>?_);have jz:=pW eR aP bk bz;rw [show u%256=u by omega]at jz;have OK:=iO.push bR jz cU;have a1:=(cH.own aX aS bT).fV bz cU (by have:=aS.size;omega);revert a;refine ad λa I=>?_;refine lo I rfl ⟨?_,a1⟩;rw [heq,DH bj,<-auJ];exact OK
end
section
variable {P:Program} {ops:Array Oper} {Q:Exit->Act->World->Prop} {rest:List Oper} {a:Act} {w:World} {N:Nat} {l:List (Nat × Value)}
theorem e7(w:World)(o:Obj):Below w.heap.size w (w.alloc o):=(atL _ w).grown (auw w o none) (atI _) (λk au=>by cases au)
theorem YN{α:Type}(w:World)(enc:α->Value)(xs:List α)(e:TypeId):ee (w.alloc (.cells (xs.map enc).toArray e)) (some ⟨w.heap.size,0,none⟩) enc xs:=by
 intro i ai;refine⟨_,_,rfl,aF (auE w _) ?_⟩;simp [ai]
theorem G9(h:Fr N l a){α:Type}(enc:α->Value)(xs:List α)(vs:List (Nat × Value)){n:Nat}{t ty:TypeId}{fQ:Nat}{pos:String}{bx:Array Edge}(b0:P.underlying t=some (.slice e))(ai:(P.info? e).map (λi=>(i.zero,i.size,i.bytes))=some (some z,1,fQ))(bA:z.cells=#[z])(hb:filled n z vs=some (xs.map enc).toArray)(ao:rV l aR vs)(iS:0<n:=by decide)(ba:n<=16777216:=by decide)(aI:Nat.blt d N=true:=by exact rfl)(k:∀aU w',w.grownBy w' none->Below w.heap.size w w'->ee w' (some ⟨w.heap.size,0,none⟩) enc xs->Fr N ((d,.slice (some ⟨w.heap.size,0,none⟩) n n)::l) aU->wpList P ops Q rest aU w'):
  wpList P ops Q (⟨some d,.buildSlice t n aR.toArray,ty,pos,bx,none⟩::rest) a w:=
 st h (L2 b0 ai bA iS ba hb ao) aI λaU I=>k aU _ (auw _ _ _) (e7 w _) (YN w enc xs e) I
theorem aoO(h:Fr N l a){α:Type}(enc:α->Value)(xs:List α)(vs:List (Nat × Value)){n:Nat}{t ty:TypeId}{fQ:Nat}{pos:String}{bx:Array Edge}{q:Nat}{b:Bool}(b0:P.underlying t=some (.slice e))(ai:(P.info? e).map (λi=>(i.zero,i.size,i.bytes))=some (some z,1,fQ))(bA:z.cells=#[z])(hb:filled n z vs=some (xs.map enc).toArray)(ao:rV l aR vs)(iS:0<n:=by decide)(ba:n<=16777216:=by decide)(ah:(ops[j]?).bind (·.dst)=some q:=by exact rfl)(aZ:look l q=some (.bool b):=by exact rfl)(aI:Nat.blt d N=true:=by exact rfl)(k:∀aU w',w.grownBy w' none->Below w.heap.size w w'->ee w' (some ⟨w.heap.size,0,none⟩) enc xs->Fr N ((d,.slice (some ⟨w.heap.size,0,none⟩) n n)::l) aU->wpList P ops Q rest aU w'):
  wpList P ops Q (⟨some d,.buildSlice t n aR.toArray,ty,pos,bx,some (j,b)⟩::rest) a w:=
 p4 h ah aZ (L2 b0 ai bA iS ba hb ao) aI λaU I=>k aU _ (auw _ _ _) (e7 w _) (YN w enc xs e) I
end
section
attribute [local irreducible] wpList wpQuiet wpStill Code.wp Exit.then Exit.inBlock bodyPost Calls bL eT
def oG:Rg->Nat
 | .a=>44
 | .b=>45
 | .n=>104
def sL:Rg->Nat
 | .a=>1
 | .b=>2
 | .n=>3
def cu(f:Nat):Value:=.func (.func f) #[] #[]
theorem GM(r:Rg)(w:World)(b o:Nat):kD prog (cu (oG r)) [.pointer (some ⟨b,o,none⟩)] w (λv w'=>v=.pointer (some ⟨b,o+sL r,none⟩)/\w'=w):=by
 cases r with
 |a=>
  refine⟨_,#[],#[],rfl,acp,?_⟩;refine cF func44 rfl 5 rfl 6 rfl (λa I=>?_);revert a;refine ad λa I=>?_;exact bc I rfl rfl ⟨rfl,rfl⟩
 |b=>
  refine⟨_,#[],#[],rfl,acq,?_⟩;refine cF func45 rfl 5 rfl 6 rfl (λa I=>?_);revert a;refine ad λa I=>?_;exact bc I rfl rfl ⟨rfl,rfl⟩
 |n=>
  refine⟨_,#[],#[],rfl,abM,?_⟩;refine cF func104 rfl 5 rfl 6 rfl (λa I=>?_);revert a;refine ad λa I=>?_;exact bc I rfl rfl ⟨rfl,rfl⟩
theorem TE(x:Ins)(r:Rg):x.cells[sL r]? =some (.int .i64 (x.get r:Nat)):=by cases r<;>rfl
theorem aop(w:World)(r:Rg)(bq ai:Nat)(x:Ins){gl gu:Nat}(U:hY cN (cu (oG r)) 214 w)(ae:hY gl (.int .i64 (bq:Nat)) 3 w)(aM:hY gu (.int .i64 (ai:Nat)) 3 w):
   bd prog 86 [.agg x.cells.toArray,.pointer (some ⟨cN,0,none⟩),.pointer (some ⟨gl,0,none⟩),.pointer (some ⟨gu,0,none⟩)].toArray w (λv w'=>v=.bool (okF x (.sm r bq ai))/\Below w.heap.size w w'):=by
 refine wE func86 rfl 16 rfl 20 rfl (λa I=>?_);revert a;refine ad λa I=>?_;refine di I (cs:=x.cells.toArray) rfl (k:=λa aq aE aT b8 I=>?_);have aB:=aK (atL _ w) aT (atI _);have h':=(U.below aB).cell;have lW:=(ae.below aB).cell;have pO:=(aM.below aB).cell;have hx:aq.cell? ⟨w.heap.size,0+sL r,none⟩=some (.int .i64 (x.get r:Nat)):=aF aE (by rw [aub];simpa using TE x r);have hQ:∀ak,Below aq.heap.size aq ak->kD prog (cu (oG r)) [.pointer (some ⟨w.heap.size,0,none⟩)] ak (λu w'=>u=.pointer (some ⟨w.heap.size,0+sL r,none⟩)/\Below aq.heap.size aq w'):=λak ar=>(GM r ak _ _).mono λv w' ao=>⟨ao.1,by rw [ao.2];exact ar⟩;by_cases bM:bq<=x.get r
 · by_cases c2:x.get r<=ai<;>
   ( (revert a;(repeat first|(intro a I;(refine BR (λak=>Below aq.heap.size aq ak) 1 mixed bh (eU (atL _ _) 1) ?_);revert a)|refine ag ?_);intro a I)
     revert a;(repeat first|refine rQ ?_|refine ck (λak ar=>im awm (eG h' ar)) ?_);intro a I;refine P4 I hQ ⟨rfl,trivial⟩ (k:=λa I=>?_);revert a;(repeat first|refine rQ ?_|refine ck (λak ar=>im awm (eG h' ar)) ?_|refine ck (λak ar=>af (eG lW ar)) ?_|refine ck (λak ar=>af (eG hx ar)) ?_);intro a I;refine YJ I hQ ⟨rfl,trivial⟩ (k:=λa I=>?_);revert a;(repeat first|refine rQ ?_|refine ck (λak ar=>af (eG pO ar)) ?_|refine ck (λak ar=>af (eG hx ar)) ?_);intro a I;refine tX ?_;intro ax aC;revert a;refine ad λa I=>?_;exact bc I rfl rfl ⟨by show Value.bool _=_;simp [okF,bM,c2],aB.trans (aC.mono aB.size)⟩)
 · revert a;(repeat first|(intro a I;(refine BR (λak=>Below aq.heap.size aq ak) 1 mixed bh (eU (atL _ _) 1) ?_);revert a)|refine ag ?_);intro a I;revert a;(repeat first|refine rQ ?_|refine ck (λak ar=>im awm (eG h' ar)) ?_);intro a I;refine P4 I hQ ⟨rfl,trivial⟩ (k:=λa I=>?_);revert a;(repeat first|refine rQ ?_|refine ck (λak ar=>af (eG lW ar)) ?_|refine ck (λak ar=>af (eG hx ar)) ?_);intro a I;refine tX ?_;intro ax aC;revert a;refine ad λa I=>?_;exact bc I rfl rfl ⟨by show Value.bool _=_;simp [okF,bM],aB.trans (aC.mono aB.size)⟩
def x2(r:Rg)(x:Ins)(cN B:Nat)(w:World):Prop:=w.cell? ⟨B,0+1+sL r,none⟩=some (.int .i64 (x.get r:Nat))/\hY cN (cu (oG r)) 214 w
theorem x2.below{r:Rg}{B:Nat}(h:x2 r x cN B w)(hb:Below w.heap.size w w'):x2 r x cN B w':=⟨eG h.1 hb,h.2.below hb⟩
theorem zu{B n cap:Nat}(r:Rg)(h:w.heap[B]? =some (.cells (Bx ay n cap x).toArray 83 (0,0))):w.cell? ⟨B,0+1+sL r,none⟩=some (.int .i64 (x.get r:Nat)):=aF h (by cases r<;>rfl)
theorem aoq(w:World)(r:Rg){base B:Nat}{aa:List Nat}(U:hY cN (cu (oG r)) 214 w)(h:iO w base B x aa)(aN:aa.length<=1000000)(dk:base<=w.heap.size):
   bd prog 87 [.pointer (some ⟨B,0,none⟩),.pointer (some ⟨cN,0,none⟩)].toArray w (λ_ w'=>iO w' base B x (aa++ [x.get r%256])/\ju base B w w'):=by
 obtain⟨⟨ay,cap,az,aX⟩,cU⟩:=h;refine dP func87 rfl 18 rfl 20 rfl (λa I=>?_);refine Eu (x2 r x cN B) (.read 0 (.read 1 (.read 2 (.read 3 (.read 5 (.read 6 (.read 7 (.read 8 (.two 4 9 (.cJ 9 (.read 10 (.read 11 (.read 12 (.cJ 13 (.cJ 14 (.read 15 (.read 16 (.cJ 17 .done))))))))) (.read 10 (.read 11 (.read 12 (.two 4 13 (.cJ 13 (.cJ 14 (.read 15 (.read 16 (.cJ 17 .done))))) (.cJ 4 (.cJ 14 (.read 15 (.read 16 (.cJ 17 .done)))))))))))))))))) 0 mixed bh ⟨zu (w:=w) r az,U⟩ ?_;have bS:x2 r x cN B (w.drewN 1):=⟨zu (w:=w) r az,U⟩;have lJ:ju base B w (w.drewN 1):=(ju.refl _ _ _).v7 (eU (atL _ _) 1) dk;replace az:(w.drewN 1).heap[B]? =_:=az;replace aX:=cW aX (eU (atL _ _) 1);generalize w.drewN 1=v0 at*;refine dU I rfl (λak ar=>hv) rfl (λa I=>?_);refine dU I rfl (λak ar=>hv) rfl (λa I=>?_);refine dU I rfl (λak ar=>kL) rfl (λa I=>?_);refine dU I rfl (λak ar=>km (hz _ _ _ _ rfl) (aw _ _ rfl)) rfl (λa I=>?_);refine dU I rfl (λak ar=>im awm ar.2.cell) rfl (λa I=>?_);refine dU I rfl (λak ar=>hv) rfl (λa I=>?_);refine dU I rfl (λak ar=>kL) rfl (λa I=>?_);refine dU I rfl (λak ar=>km (hz _ _ _ _ rfl) (aw _ _ rfl)) rfl (λa I=>?_);refine ln rfl rfl ?_ ?_
 · refine st I (af (aF az (i:=0+0) rfl)) rfl (λa I=>atJ ⟨rfl,bS,?_⟩);refine dV rfl ?_;refine iZ I (GM r _ _ _) ⟨rfl,trivial⟩ (k:=λa v v0 ab I=>atJ ?_);obtain⟨rfl,rfl⟩:=ab;refine⟨rfl,bS,?_⟩;refine dU I rfl (λak ar=>kL) rfl (λa I=>?_);refine dU I rfl (λak ar=>af ar.1) rfl (λa I=>?_);refine dU I rfl (λak ar=>e8 (aA _ _ rfl) (aA _ _ rfl) rfl (D7 (x.get r))) rfl (λa I=>?_);refine dV rfl ?_;have aB:=e7 v0 (.cells #[ek (x.get r%256)] 5);have hu:(v0.alloc (.cells #[ek (x.get r%256)] 5)).cell? ⟨v0.heap.size,0,none⟩=some (ek (x.get r%256)):=aF (auE v0 _) rfl;replace bS:=bS.below aB;refine st I (q5 (aA _ _ rfl) mT rfl) rfl (λa I=>atJ ⟨rfl,bS,?_⟩);replace az:=(aB.block _ (bO az)).trans az;replace aX:=cW aX aB;replace lJ:=lJ.v7 aB (atN dk lJ.below.size);generalize v0.alloc _=v1 at*;refine dV rfl ?_;refine xL I (aA _ _ rfl) mT rfl aX hu bj bn (atN dk lJ.below.size) (k:=λa eM fr ax eR aS I=>?_);have aP:=aD az aS (jk aX az bk);have aC:=lJ.own aX aS (atN dk lJ.below.size);have pA:x2 r x cN B ax:=⟨zu r aP,aD bS.2 aS (jk aX bS.2 bk)⟩;refine atJ ⟨rfl,pA,?_⟩;refine dU I rfl (λak ar=>kL) rfl (λa I=>?_);refine dU I rfl (λak ar=>km (hz _ _ _ _ rfl) (aw _ _ rfl)) rfl (λa I=>?_);refine dV rfl ?_;refine cr I (aw _ _ rfl) aP (i:=0+0) (by show 0+0<6;decide) rfl rfl rfl (k:=λa a6 bR bz eE I=>?_);have jz:=pW eR aP bk bz;exact atJ ⟨rfl,⟨zu r bR,aD pA.2 bz (by have:=c1 pA.2 aP bk;simpa using this)⟩,iw (lo I rfl ⟨iO.push bR jz cU,aC.fV bz cU (atN dk aC.below.size)⟩)⟩
 · refine iZ I (GM r _ _ _) ⟨rfl,trivial⟩ (k:=λa v v0 ab I=>atJ ?_);obtain⟨rfl,rfl⟩:=ab;refine⟨rfl,bS,?_⟩;refine dU I rfl (λak ar=>kL) rfl (λa I=>?_);refine dU I rfl (λak ar=>af ar.1) rfl (λa I=>?_);refine dU I rfl (λak ar=>e8 (aA _ _ rfl) (aA _ _ rfl) rfl (D7 (x.get r))) rfl (λa I=>?_);refine ln rfl rfl ?_ ?_
   · refine st I (af (aF az (i:=0+0) rfl)) rfl (λa I=>atJ ⟨rfl,bS,?_⟩);refine dV rfl ?_;have aB:=e7 v0 (.cells #[ek (x.get r%256)] 5);have hu:(v0.alloc (.cells #[ek (x.get r%256)] 5)).cell? ⟨v0.heap.size,0,none⟩=some (ek (x.get r%256)):=aF (auE v0 _) rfl;replace bS:=bS.below aB;refine st I (q5 (aA _ _ rfl) mT rfl) rfl (λa I=>atJ ⟨rfl,bS,?_⟩);replace az:=(aB.block _ (bO az)).trans az;replace aX:=cW aX aB;replace lJ:=lJ.v7 aB (atN dk lJ.below.size);generalize v0.alloc _=v1 at*;refine dV rfl ?_;refine xL I (aA _ _ rfl) mT rfl aX hu bj bn (atN dk lJ.below.size) (k:=λa eM fr ax eR aS I=>?_);have aP:=aD az aS (jk aX az bk);have aC:=lJ.own aX aS (atN dk lJ.below.size);have pA:x2 r x cN B ax:=⟨zu r aP,aD bS.2 aS (jk aX bS.2 bk)⟩;refine atJ ⟨rfl,pA,?_⟩;refine dU I rfl (λak ar=>kL) rfl (λa I=>?_);refine dU I rfl (λak ar=>km (hz _ _ _ _ rfl) (aw _ _ rfl)) rfl (λa I=>?_);refine dV rfl ?_;refine cr I (aw _ _ rfl) aP (i:=0+0) (by show 0+0<6;decide) rfl rfl rfl (k:=λa a6 bR bz eE I=>?_);have jz:=pW eR aP bk bz;exact atJ ⟨rfl,⟨zu r bR,aD pA.2 bz (by have:=c1 pA.2 aP bk;simpa using this)⟩,iw (lo I rfl ⟨iO.push bR jz cU,aC.fV bz cU (atN dk aC.below.size)⟩)⟩
   · have aB:=e7 v0 (.cells #[ek (x.get r%256)] 5);have hu:(v0.alloc (.cells #[ek (x.get r%256)] 5)).cell? ⟨v0.heap.size,0,none⟩=some (ek (x.get r%256)):=aF (auE v0 _) rfl;replace bS:=bS.below aB;refine st I (q5 (aA _ _ rfl) mT rfl) rfl (λa I=>atJ ⟨rfl,bS,?_⟩);replace az:=(aB.block _ (bO az)).trans az;replace aX:=cW aX aB;replace lJ:=lJ.v7 aB (atN dk lJ.below.size);generalize v0.alloc _=v1 at*;refine dV rfl ?_;refine st I (af (aF az (i:=0+0) rfl)) rfl (λa I=>atJ ⟨rfl,bS,?_⟩);refine dV rfl ?_;refine xL I (aA _ _ rfl) mT rfl aX hu bj bn (atN dk lJ.below.size) (k:=λa eM fr ax eR aS I=>?_);have aP:=aD az aS (jk aX az bk);have aC:=lJ.own aX aS (atN dk lJ.below.size);have pA:x2 r x cN B ax:=⟨zu r aP,aD bS.2 aS (jk aX bS.2 bk)⟩;refine atJ ⟨rfl,pA,?_⟩;refine dU I rfl (λak ar=>kL) rfl (λa I=>?_);refine dU I rfl (λak ar=>km (hz _ _ _ _ rfl) (aw _ _ rfl)) rfl (λa I=>?_);refine dV rfl ?_;refine cr I (aw _ _ rfl) aP (i:=0+0) (by show 0+0<6;decide) rfl rfl rfl (k:=λa a6 bR bz eE I=>?_);have jz:=pW eR aP bk bz;exact atJ ⟨rfl,⟨zu r bR,aD pA.2 bz (by have:=c1 pA.2 aP bk;simpa using this)⟩,iw (lo I rfl ⟨iO.push bR jz cU,aC.fV bz cU (atN dk aC.below.size)⟩)⟩
theorem YO{n c at_:Nat}{e:Value}(r:Rg)(h:w.heap[R]? =some (.cells (xH ay n c at_ x e).toArray 68 (0,0)))(v:Nat):(xH ay n c at_ x e).toArray.setIfInBounds (0+2+sL r) (.int .i64 (v:Nat))=(xH ay n c at_ (x.put v r) e).toArray:=by cases r<;>rfl
theorem aor(w:World)(r:Rg){n c at_:Nat}{aa:List Nat}(U:hY cN (cu (oG r)) 214 w)(h:iA w R ay n c at_ x .nilIface aa)(ha:at_<=n):
   bd prog 88 [.pointer (some ⟨R,0,none⟩),.pointer (some ⟨cN,0,none⟩)].toArray w (λ_ w'=>w.grownBy w' (some R)/\
    ((∃b,aa[at_]? =some b/\iA w' R ay n c (at_+1) (x.put b r) .nilIface aa)\/(n<=at_/\iA w' R ay n c at_ (x.put 0 r) (mg 2 0 n) aa))):=by
 have u':=h.max;refine dP func88 rfl 9 rfl 11 rfl (λa I=>?_);refine Eu (hY cN (cu (oG r)) 214) (.read 0 (.read 1 (.read 2 (.read 3 (.read 5 (.cJ 4 (.cJ 6 (.read 7 (.cJ 8 .done))))))))) 0 mixed bh U ?_;replace h:=h.below (eU (atL _ _) 1);replace U:hY cN (cu (oG r)) 214 (w.drewN 1):=U;have Jb:w.grownBy (w.drewN 1) (some R):=TL (TM _ _);generalize w.drewN 1=v0 at*;refine dU I rfl (λak ar=>im awm ar.cell) rfl (λa I=>?_);refine dU I rfl (λak ar=>hv) rfl (λa I=>?_);refine dU I rfl (λak ar=>kL) rfl (λa I=>?_);refine dU I rfl (λak ar=>km (hz _ _ _ _ rfl) (aw _ _ rfl)) rfl (λa I=>?_);refine dU I rfl (λak ar=>hv) rfl (λa I=>?_);refine dV rfl ?_;refine iZ I (GM r _ _ _) ⟨rfl,trivial⟩ (k:=λa v v0 ab I=>atJ ?_);obtain⟨rfl,rfl⟩:=ab;refine⟨rfl,U,?_⟩;refine dV rfl ?_;refine aQ I (Y0 v0 h bj) (k:=λa v aq ab I=>atJ ?_);obtain⟨aT,ab⟩:=ab;have b5:=c1 U h.cells bk;have jI:hY cN (cu (oG r)) 214 aq:=aD U aT (by simpa using b5);refine⟨rfl,jI,?_⟩;refine dU I rfl (λak ar=>kL) rfl (λa I=>?_);refine dV rfl ?_;obtain⟨b,hb,rfl,bY⟩|⟨hle,rfl,bY⟩:=ab
 · refine cr I (aw _ _ rfl) bY.cells (i:=0+2+sL r) (by show 0+2+sL r<8;cases r<;>decide) rfl rfl rfl (k:=λa a6 bR bz eE I=>?_);rw [YO r bY.cells]at bR;exact atJ ⟨rfl,aD jI bz (by simpa using b5),iw (lo I rfl ⟨gL Jb (gL aT bz),.inl ⟨b,hb,bY.set bR bz⟩⟩)⟩
 · refine cr I (aw _ _ rfl) bY.cells (i:=0+2+sL r) (by show 0+2+sL r<8;cases r<;>decide) rfl rfl rfl (k:=λa a6 bR bz eE I=>?_);rw [show(Value.int .i64 0)=.int .i64 ((0:Nat):Int)from rfl,YO r bY.cells]at bR;exact atJ ⟨rfl,aD jI bz (by simpa using b5),iw (lo I rfl ⟨gL Jb (gL aT bz),.inr ⟨hle,bY.set bR bz⟩⟩)⟩
theorem QK{name:String}{k:IntKind}{cg:List Int}(h:Lib.TabIs prog w name k cg)(hb:Below w.heap.size w w'):Lib.TabIs prog w' name k cg:=by
 unfold Lib.TabIs World.var? at h ⊢;cases az:(prog).globalNamed name with
 |none=>rw [az]at h;exact h
 |some g=>
  rw [az]at h;simp only [Option.bind_some]at h ⊢;cases fa:w.heap[g]? with
  |none=>rw [fa]at h;cases h
  |some o=>rw [hb.block g (bO fa)];exact h
def H8:List Int:=[0,1,56,2,57,49,28,3,61,58,42,50,38,29,17,4,62,47,59,36,45,43,51,22,53,39,33,30,24,18,12,5,63,55,48,27,60,41,37,16,46,35,44,21,52,32,23,11,54,26,40,15,34,20,31,10,25,14,19,9,13,8,7,6]
structure Env(w:World):Prop where
 pow:Lib.TabIs prog w "internal/strconv.uint64pow10" .u64 Lib.pow10Tab
 ZI:Lib.TabIs prog w "strings.asciiSpace" .u8 Lib.asciiSpaceTab
 SP:Lib.TabIs prog w "math/bits.deBruijn64tab" .u8 H8
theorem Env.below(h:Env w)(hb:Below w.heap.size w w'):Env w':=⟨QK h.pow hb,QK h.ZI hb,QK h.SP hb⟩
theorem Env.adT(h:Env w)(i:Nat)(ai:i<64):w.cell? ⟨10,0+i,none⟩=some (.int .u8 (H8.getD i 0)):=by
 rw [aub];exact Lib.TabIs.cell h.SP bh i ai
end
def dR(xs:List Bool):Array Value:=(xs.map Value.bool).toArray
theorem gm(xs:List Bool):(dR xs).size=xs.length:=by simp [dR]
theorem DD(h:j<xs.length):(dR xs)[j]? =some (.bool xs[j]):=by simp [dR,h]
theorem GW(xs:List Bool)(j:Nat)(b:Bool):(dR xs).setIfInBounds (0+j) (.bool b)=dR (xs.set j b):=by
 rw [aub];apply ayX.1;simp [dR,aww]
theorem p2(xs:List Bool):∀v∈dR xs,v.oneCell'=true:=by
 intro v ao;simp [dR]at ao;rcases ao with ⟨_,rfl⟩|⟨_,rfl⟩<;>rfl
section
variable {P:Program} {ops:Array Oper} {Q:Exit->Act->World->Prop} {a:Act} {w w':World} {rest:List Oper} {N:Nat} {l:List (Nat × Value)}
theorem Y6(d:Nat)(he:P.underlying e=some .bool)(xs ys:List Bool)(aN:xs.length=ys.length):∀is:List Nat,(∀i∈is,i<xs.length)->
  (Op.eqItems (d+1) e 1 (dR xs) (dR ys) is).run P w=.ok (is.all λi=>xs.getD i false==ys.getD i false) w
 | [],_=>by simp [Op.eqItems]
 |i::is,h=>by
  have ai:=h i bl;have y5:(part e (dR xs) (i*1)).run P w=.ok (.bool (xs.getD i false)) w:=by
   simp [part,isAgg,auf he,dR,List.getD,ai]
  have y7:(part e (dR ys) (i*1)).run P w=.ok (.bool (ys.getD i false)) w:=by
   simp [part,isAgg,auf he,dR,List.getD,show i<ys.length by omega]
  have xD:(Op.equalIn (d+1) e (.bool (xs.getD i false)) (.bool (ys.getD i false))).run P w=.ok (xs.getD i false==ys.getD i false) w:=run_equalIn_bool d he _ _;simp only [Op.eqItems,auu,y5,y7,xD,aun,ayP];cases aZ:(xs.getD i false==ys.getD i false)with
  |false=>simp
  |true=>simpa using Y6 d he xs ys aN is (λj ah=>h j (by simp [ah]))
theorem aa3(xs ys:List Bool)(h:xs.length=ys.length):((List.range xs.length).all λi=>xs.getD i false==ys.getD i false)=decide (xs=ys):=by
 rw [axm];simp only [au7,azq,av',atQ];constructor
 · intro fa;apply awA h;intro i U ae;have:=fa i U;simpa [List.getD,U,ae]using this
 · rintro rfl i _;rfl
theorem anJ(d:Nat){t:TypeId}{n:Nat}{i:TypeInfo}(hu:P.underlying t=some (.array n e))(he:P.underlying e=some .bool)(ai:P.info? e=some i)(av:P.cellsOf e=1)(xs ys:List Bool)(hx:xs.length=n)(aO:ys.length=n):
  (Op.equalIn (d+2) t (.agg (dR xs)) (.agg (dR ys))).run P w=.ok (decide (xs=ys)) w:=by
 rw [run_equalIn_array (P:=P) w (d+1) (dR xs) (dR ys) hu ai,av,Y6 d he xs ys bj _ (by intro j ah;simp at ah;omega),<-hx,aa3 xs ys bj]
theorem adv{op:BinOp}{x:Operand}{ys:List Bool}{r:Bool}{t:TypeId}{n:Nat}(hu:P.underlying t=some (.array n e))(he:P.underlying e=some .bool)(ai:(P.info? e).map (·.size)=some 1)(av:P.cellsOf e=1)(hm:P.eqGuardType P.depth t=false)(qD:xs.length=n)(sD:ys.length=n)(hx:a7 l x (.agg (dR xs)):=by exact rfl)(aO:a7 l y (.agg (dR ys)):=by exact rfl)(aj:(match op with| .eql=>some (decide (xs=ys))| .neq=>some (!decide (xs=ys))|_=>none)=some r:=by exact rfl):bL P l w (.binOp op t x y t') ty (.bool r) w:=by
 obtain⟨i,U,ae⟩:=at7.1 ai;intro cC aY d pos bx g;have key:=anJ (P:=P) (w:=w) 9998 hu he U av xs ys qD sD;cases op<;>simp only [auW,reduceCtorEq]at aj<;>subst aj
 · simp only [execOp,aY _ _ hx,aY _ _ aO,auu,aya w _ t x y _ _ hm,aun,run_eql_struct,key];rfl
 · simp only [execOp,aY _ _ hx,aY _ _ aO,auu,aya w _ t x y _ _ hm,aun,run_neq_struct,key];rfl
theorem dY{x i:Operand}{b o n:Nat}{k:IntKind}{q:Int}{t ty:TypeId}(b0:P.underlying t=some (.array n e))(aG:(P.info? e).map (·.size)=some 1)(hx:a7 l x (.pointer (some ⟨b,o,none⟩)):=by exact rfl)(ai:a7 l i (.int k q):=by exact rfl)(aZ:q=(j:Int):=by exact rfl)(ah:j<n:=by omega):
  bL P l w (.indexAddr t x i) ty (.pointer (some ⟨b,o+j,none⟩)) w:=by
 intro cC aY d pos bx g;subst aZ;obtain⟨pb,U,ae⟩:=at7.1 aG;have aM:(0:Int)<=(j:Int)/\(j:Int) <(n:Int):=bj
 simp [execOp,Instr.indexAt,Instr.sureAddr,asIntOf,aY _ _ hx,aY _ _ ai,auf b0,sizeOf,typeInfo,U,ae,ah,addr_add]
theorem B1{x i:Operand}{cs:Array Value}{n:Nat}{v:Value}{k:IntKind}{q:Int}{t ty:TypeId}{h2:TypeDesc}(b0:P.underlying t=some (.array n e))(bF:P.underlying e=some h2)(jI:pV h2=true)(aG:(P.info? e).map (·.size)=some 1)(ao:cs[j]? =some v)(hx:a7 l x (.agg cs):=by exact rfl)(ai:a7 l i (.int k q):=by exact rfl)(aZ:q=(j:Int):=by exact rfl)(ah:j<n:=by omega):
  bL P l w (.index t x i) ty v w:=by
 intro cC aY d pos bx g;subst aZ;obtain⟨pb,U,ae⟩:=at7.1 aG;have aM:(0:Int)<=(j:Int)/\(j:Int) <(n:Int):=bj
 cases h2<;>simp [pV]at jI<;>simp [execOp,Instr.index,asIntOf,aY _ _ hx,aY _ _ ai,auf b0,sizeOf,typeInfo,U,ae,ah,part,isAgg,auf bF,ao]
theorem Qm{t:TypeId}{g:Nat}{cs:Array Value}(b0:(P.underlying t).map n0=some true)(aG:(P.info? t).map (·.size)=some cs.size)(az:w.heap[g]? =some (.cells cs e pw)):(loadVar t ⟨g,0,none⟩).run P w=.ok (.agg cs) w:=by
 obtain⟨pb,U,ae⟩:=at7.1 aG;obtain⟨h2,aM,cc⟩:=at7.1 b0;have aj:(loadCells ⟨g,0,none⟩ cs.size).run P w=.ok cs w:=by
  have:=run_loadCells_list (P:=P) (w:=w) ⟨g,0,none⟩ cs.toList (λj v ah=>by rw [addr_add];exact dy az j v (by simpa using ah));simpa using this
 cases h2<;>simp [n0]at cc<;>simp [loadVar,isAgg,auf aM,sizeOf,typeInfo,U,ae,aj]
theorem h7{fn:Func}{R:Value->World->Prop}(h:Fr N l a){p u:Nat}(fI:fn.results=#[.cell p ty,.tmp u]){g:Nat}{cs:Array Value}{y:Value}(b0:(P.underlying ty).map n0=some true)(aG:(P.info? ty).map (·.size)=some cs.size)(az:w.heap[g]? =some (.cells cs e pw))(ao:look l p=some (.pointer (some ⟨g,0,none⟩)))(hx:look l u=some y)(ab:R (.tuple #[.agg cs,y]) w):
  bodyPost P fn (λe w'=>∃v,e=.returned v/\R v w') .ret a w:=by
 refine axe (v:=.tuple #[.agg cs,y]) ?_ h.defers ⟨_,rfl,ab⟩;rw [results_cell_tmp fI,getD_at h ao,getD_at h hx];simp [asAddr,Qm b0 aG az]
theorem ff{fn:Func}{R:Value->World->Prop}(h:Fr N l a){p:Nat}(fI:fn.results=#[.cell p ty]){g:Nat}{cs:Array Value}(b0:(P.underlying ty).map n0=some true)(aG:(P.info? ty).map (·.size)=some cs.size)(az:w.heap[g]? =some (.cells cs e pw))(ao:look l p=some (.pointer (some ⟨g,0,none⟩)))(ab:R (.agg cs) w):
  bodyPost P fn (λe w'=>∃v,e=.returned v/\R v w') .ret a w:=by
 refine axe (v:=.agg cs) ?_ h.defers ⟨_,rfl,ab⟩;have bw:=h.at_ _ _ ao;simp [results,fI,bw,asAddr,Qm b0 aG az]
end
section
variable {P:Program} {ops:Array Oper} {Q:Exit->Act->World->Prop} {rest:List Oper} {a:Act} {w:World} {N:Nat} {l:List (Nat × Value)}
theorem Lw{x y:Code}(gQ:Act->World->Prop)(U:x.wp P (Exit.then (λaU w'=>gQ aU w') Q) a w)(ae:∀aU w',gQ aU w'->y.wp P Q aU w'):(Code.seq x y).wp P Q a w:=
 ay9 (wp_mono U λe aU w' h=>by cases e<;>first|exact ae _ _ h|exact h)
structure Lb(p:Prop):Prop where
 out:p
theorem abF(id:Nat){ops:Array Oper}{b:Bool}{y:Code}(gQ:Act->World->Prop)(U:Lb ((Code.region id ops b).wp P (Exit.then (λaU w'=>gQ aU w') Q) a w))(ae:∀aU w',gQ aU w'->y.wp P Q aU w'):(Code.seq (Code.region id ops b) y).wp P Q a w:=Lw gQ U.out ae
theorem BZ{x:Operand}{s u:ByteArray}{t:TypeId}(hx:a7 l x (.string s):=by exact rfl)(aO:a7 l y (.string u):=by exact rfl)(h:s.size+u.size<=9223372036854775807):bL P l w (.binOp .add t x y t') ty (.string (s++u)) w:=by
 intro cC aY d pos bx g;have bf:(eqGuard .add t x y (.string s) (.string u)).run P w=.ok () w:=rfl;have dj:(binOp .add t (.string s) (.string u)).run P w=.ok (.string (s++u)) w:=run_string_add_sum w s u h;simp only [execOp,aY _ _ hx,aY _ _ aO,auu,bf,aun,dj];rfl
end
end Go.Proofs.YtnkjmbbddmgjiaaGreatDoor