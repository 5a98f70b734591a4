import Derived.Carry
import Derived.ChangeArms
import Derived.ChangeKeysEq
import Derived.ChangeOld
import Derived.Deep.Grids
import Derived.Deep.LoopGhost
import Derived.Deep.Quiet
import Derived.Deep.Slices
import Derived.Deep.Upon
import Derived.DeepKeys4
import Derived.Defers
import Derived.Great.BuildSlice
import Derived.Great.FillDense
import Derived.Ground.MpProg
import Derived.Ground.Names2Prog
import Derived.Ground.NamesProg
import Derived.Ground.SlgnProg
import Derived.Handed
import Derived.KernelRfl
import Derived.LaidEql
import Derived.LaidHandle
import Derived.LaidLaws
import Derived.Laws.BitsLemmas
import Derived.Laws.BytesArg
import Derived.Laws.Concat
import Derived.Laws.CopyOwn
import Derived.Laws.Cover3
import Derived.Laws.IdiomStrings
import Derived.Laws.MakeOwn
import Derived.Laws.Pointers
import Derived.Laws.RangeAny
import Derived.Laws.ResultCell
import Derived.Laws.Small
import Derived.Laws.StructEq
import Derived.Lib.Hide
import Derived.Lib.IfaceEq
import Derived.Lib.LaidIn
import Derived.Lib.LaidTab
import Derived.Lib.LaidU8T
import Derived.Lib.SlMapFilter
import Derived.Lib.TrimUEq
import Derived.Lib.UnsafeStr
import Derived.Lib.ValidLaws
import Derived.Maps.AppendAt
import Derived.Maps.OwnSet
import Derived.Maps.Views
import Derived.OpenShut
import Derived.OrdersHeld
import Derived.OrdersIn
import Derived.PinnedBridge
import Derived.ProofKit
import Derived.RangeFuncIn
import Derived.RangeFuncLeaves
import Derived.RangeFuncRecord
import Derived.Recover
import Derived.RowKitTokens
import Derived.SevenTiedAt
import Derived.Shelf.Bits.Mul64
import Derived.Shelf.GgClosure.StringsIndexFunc
import Derived.Shelf.Lay
import Derived.Shelf.LaysC
import Derived.Shelf.LaysM
import Derived.Shelf.Pu.ErrVarParseUint
import Derived.Shelf.Pu.ParseUintPublic10
import Derived.Shelf.SlMaps.Clone
import Derived.Shelf.SlMaps.DeleteFunc
import Derived.Shelf.Slices.Cells
import Derived.Shelf.Slices.Clone
import Derived.Shelf.Slices.Reverse
import Derived.Shelf.SlicesE.Clone
import Derived.Shelf.Small.Strs
import Derived.Shelf.Small.Utf8
import Derived.Shelf.Small.Wraps
import Derived.Shelf.Strconv.Clone
import Derived.Shelf.Strconv.Itoa0
import Derived.Shelf.Strconv.Itoa1
import Derived.Shelf.Strconv.Itoa2
import Derived.Shelf.Strconv.Itoa3
import Derived.Shelf.Strconv.Itoa4
import Derived.Shelf.Strconv.Lower
import Derived.Shelf.Strconv.ParseInt10
import Derived.Shelf.Strconv.ParseInt10All
import Derived.Shelf.Strconv.ParseInt10At16
import Derived.Shelf.Strconv.ParseInt10At32
import Derived.Shelf.Strconv.ParseInt10At64
import Derived.Shelf.Strconv.ParseInt10At8
import Derived.Shelf.Strconv.ParseIntEmpty
import Derived.Shelf.Strconv.ParseIntPublic10
import Derived.Shelf.Strconv.ParseUint10
import Derived.Shelf.Strconv.ParseUint10Any
import Derived.Shelf.Strconv.ParseUint10At
import Derived.Shelf.Strconv.ParseUint10Empty
import Derived.Shelf.Strconv.ParseUint10b16
import Derived.Shelf.Strconv.ParseUint10b32
import Derived.Shelf.Strconv.ParseUint10b64
import Derived.Shelf.Strconv.ParseUint10b8
import Derived.Shelf.Strconv.ParseUintEmpty
import Derived.Shelf.Strconv.RangeError
import Derived.Shelf.Strconv.SyntaxError
import Derived.Shelf.Strconv.ToError
import Derived.Shelf.Strconv.ToErrorRange
import Derived.Shelf.Strings.AsciiSet
import Derived.Shelf.Strings.Builder1
import Derived.Shelf.Strings.Builder2
import Derived.Shelf.Strings.BuilderF
import Derived.Shelf.Strings.Fields
import Derived.Shelf.Strings.FieldsAny
import Derived.Shelf.Strings.FieldsFuncAny
import Derived.Shelf.Strings.Prefix
import Derived.Shelf.Strings.Repeat
import Derived.Shelf.Strings.Runes
import Derived.Shelf.Strings.Search1
import Derived.Shelf.Strings.SplitShaped
import Derived.Shelf.Strings.Trim
import Derived.Shelf.Unicode.Decode
import Derived.Shelf.Unicode.DecodeAny
import Derived.Shelf.Unicode.DecodeLast
import Derived.Shelf.Unicode.DecodeSlow
import Derived.Shelf.Unicode.ExclAny
import Derived.Shelf.Unicode.Is16Any
import Derived.Shelf.Unicode.Is16White
import Derived.Shelf.Unicode.Is16WhiteD
import Derived.Shelf.Unicode.Is32Any
import Derived.Shelf.Unicode.IsSpaceAny
import Derived.Shelf.Unicode.IsSpaceAnyD
import Derived.Shelf.Unicode.Latin
import Derived.Shelf.Unicode.ValidAny
import Derived.ShutString
import Derived.SizedLaws
import Derived.Sort.OwnSortedInts
import Derived.StillTail
import Derived.Stop.Asserts
import Derived.TacticsIn
import Derived.Test.YtnkjmbbddmgjiaaGreatDoorCards
import Derived.Test.YtnkjmbbddmgjiaaGreatDoorChecked
import Derived.Test.YtnkjmbbddmgjiaaGreatDoorProg
import Derived.Test.YtnkjmbbddmgjiaaGreatDoorRows
import Derived.Test.YtnkjmbbddmgjiaaGreatDoorTie
import Derived.WalkKit
import Derived.WideKeyEntry
set_option linter.unusedSimpArgs false
set_option linter.unusedVariables false
set_option maxRecDepth 1000000
set_option maxHeartbeats 400000000
namespace Go
abbrev atI:=@_root_.Nat.le_refl
abbrev atJ:=@_root_.Go.wpList_nil
abbrev atK:=@_root_.if_neg
abbrev atL:=@_root_.Go.RowKit.Below.refl
abbrev atM:=@_root_.if_pos
abbrev atN:=@_root_.Nat.le_trans
abbrev atP:=@_root_.Bool.and_eq_true
abbrev atO:=@_root_.List.getElem?_cons_succ
abbrev atQ:=@_root_.decide_eq_true_eq
abbrev atS:=@_root_.List.getElem?_cons_zero
abbrev atT:=@_root_.List.getElem?_eq_getElem
abbrev atU:=@_root_.List.length_drop
abbrev atV:=@_root_.List.length_append
abbrev atW:=@_root_.congrArg
abbrev atX:=@_root_.Go.Proofs.Tryz.underlying3
abbrev atY:=@_root_.List.getElem?_eq_some_iff
abbrev atZ:=@_root_.List.filterMap_cons
abbrev at0:=@_root_.List.mem_cons_of_mem
abbrev at1:=@_root_.List.filterMap_nil
abbrev at5:=@_root_.List.drop_succ_cons
abbrev at6:=@_root_.List.getElem_mem
abbrev at7:=@_root_.Option.map_eq_some_iff
abbrev aua:=@_root_.List.drop_eq_getElem_cons
abbrev aub:=@_root_.Nat.zero_add
abbrev auc:=@_root_.Nat.zero_le
abbrev aud:=@_root_.Option.some.inj
abbrev aue:=@_root_.List.length_cons
abbrev auf:=@_root_.Go.run_underlying
abbrev aug:=@_root_.Option.map_some
abbrev auh:=@_root_.Go.Proofs.Tryz.underlying9
abbrev aui:=@_root_.Go.World.block_lt_of_cell?
abbrev auj:=@_root_.Nat.lt_of_lt_of_le
abbrev auk:=@_root_.decide_eq_false
abbrev aul:=@_root_.List.take_succ_cons
abbrev aum:=@_root_.Nat.pow_le_pow_right
abbrev aun:=@_root_.Go.Result.andThen_ok
abbrev auo:=@_root_.of_decide_eq_true
abbrev aup:=@_root_.decide_eq_false_iff_not
abbrev auq:=@_root_.Go.Maps.int_keyed
abbrev aur:=@_root_.decide_eq_true
abbrev aus:=@_root_.List.drop_zero
abbrev aut:=@_root_.Go.Proofs.Tryz.underlying4
abbrev auu:=@_root_.Go.Sem.run_bind
abbrev auv:=@_root_.Nat.not_lt_zero
abbrev auw:=@_root_.Go.World.grownBy_alloc
abbrev auy:=@_root_.List.mem_cons_self
abbrev auz:=@_root_.Go.Proofs.Tryz.zeroValue4
abbrev auA:=@_root_.List.take_zero
abbrev auB:=@_root_.Go.Proofs.Tryz.underlying62
abbrev auC:=@_root_.Go.Calls.mono
abbrev auD:=@_root_.List.drop_length
abbrev auE:=@_root_.Go.heap_alloc_new
abbrev auF:=@_root_.List.mem_of_getElem?
abbrev auG:=@_root_.List.mem_of_mem_drop
abbrev auH:=@_root_.Go.World.ownsRow_nil
abbrev auI:=@_root_.Bool.not_eq_true'
abbrev auJ:=@_root_.List.append_assoc
abbrev auK:=@_root_.List.getElem?_append_left
abbrev auL:=@_root_.List.getElem?_drop
abbrev auY:=@_root_.Array.getElem?_eq_some_iff
abbrev auM:=@_root_.Go.Proofs.Tryz.underlying34
abbrev auN:=@_root_.Bool.true_and
abbrev auO:=@_root_.List.getElem?_set_ne
abbrev auP:=@_root_.List.take_succ_eq_append_getElem
abbrev auQ:=@_root_.List.drop_drop
abbrev auR:=@_root_.List.setIfInBounds_toArray
abbrev auS:=@_root_.List.getElem?_set_self
abbrev auT:=@_root_.Go.Proofs.Tryz.underlying188
abbrev auU:=@_root_.Nat.mod_eq_of_lt
abbrev auV:=@_root_.Classical.byContradiction
abbrev auW:=@_root_.Option.some.injEq
abbrev auX:=@_root_.Go.wp_loop_rounds
abbrev auZ:=@_root_.Go.Proofs.Tryz.zeroValue3
abbrev au0:=@_root_.List.getElem?_replicate
abbrev au1:=@_root_.List.mem_cons
abbrev au2:=@_root_.Nat.add_sub_cancel_left
abbrev au3:=@_root_.Go.World.putObj_heap_other
abbrev au4:=@_root_.Go.Proofs.Tryz.underlying27
abbrev au5:=@_root_.Go.Proofs.Tryz.underlying5
abbrev au6:=@_root_.Nat.and_lt_two_pow
abbrev au7:=@_root_.List.all_eq_true
abbrev au8:=@_root_.beq_eq_false_iff_ne
abbrev au9:=@_root_.Bool.or_eq_true
abbrev au':=@_root_.Go.Proofs.Tryz.zeroValue9
abbrev ava:=@_root_.List.drop_eq_nil_of_le
abbrev avb:=@_root_.List.cons_append
abbrev avc:=@_root_.Go.World.ownsRow.lt
abbrev avd:=@_root_.List.length_nil
abbrev ave:=@_root_.Go.Proofs.Tryz.sizeOf4
abbrev avf:=@_root_.List.getElem?_eq_none
abbrev avg:=@_root_.List.getElem?_append_right
abbrev avh:=@_root_.List.getElem_of_mem
abbrev avi:=@_root_.Go.Proofs.Tryz.isAgg4
abbrev avj:=@_root_.Go.Proofs.Tryz.func60
abbrev avk:=@_root_.Go.Proofs.Tryz.underlying0
abbrev avl:=@_root_.Go.Proofs.Tryz.zeroValue5
abbrev avm:=@_root_.Go.Proofs.Tryz.underlying22
abbrev avn:=@_root_.Nat.or_lt_two_pow
abbrev avo:=@_root_.Nat.add_zero
abbrev avp:=@_root_.Bool.or_eq_false_iff
abbrev avq:=@_root_.Nat.mul_comm
abbrev avr:=@_root_.Go.Proofs.Tryz.sizeOf3
abbrev avs:=@_root_.Go.Proofs.Tryz.underlying166
abbrev avt:=@_root_.List.mem_append_right
abbrev avu:=@_root_.Go.Proofs.Tryz.zeroValue0
abbrev avv:=@_root_.Go.Proofs.Tryz.sizeOf9
abbrev avw:=@_root_.Go.Proofs.Tryz.zeroValue34
abbrev avx:=@_root_.Go.Proofs.Tryz.zeroValue166
abbrev avy:=@_root_.Nat.mul_le_mul_right
abbrev avz:=@_root_.Go.Proofs.Tryz.isAgg3
abbrev avA:=@_root_.List.mem_singleton
abbrev avB:=@_root_.Nat.lt_of_le_of_lt
abbrev avC:=@_root_.List.append_nil
abbrev avD:=@_root_.List.eq_nil_of_length_eq_zero
abbrev avE:=@_root_.List.not_mem_nil
abbrev avF:=@_root_.bne_eq_false_iff_eq
abbrev avG:=@_root_.Go.Proofs.Tryz.isAgg9
abbrev avH:=@_root_.Go.info_parts
abbrev avI:=@_root_.Nat.mod_lt
abbrev avJ:=@_root_.Int.toNat_natCast
abbrev avK:=@_root_.List.drop_left
abbrev avL:=@_root_.Nat.two_pow_pos
abbrev avM:=@_root_.Nat.mul_lt_mul_of_pos_right
abbrev avN:=@_root_.Go.Maps.keyOf_int_mk
abbrev avO:=@_root_.Go.Proofs.Tryz.sizeOf5
abbrev avP:=@_root_.List.getD_eq_getElem?_getD
abbrev avQ:=@_root_.Go.Maps.string_keyed
abbrev avR:=@_root_.List.replicate_succ
abbrev avS:=@_root_.Bool.eq_false_iff
abbrev avT:=@_root_.List.flatMap_append
abbrev avU:=@_root_.Go.Proofs.Tryz.underlying49
abbrev avV:=@_root_.Go.Proofs.Tryz.sizeOf166
abbrev avW:=@_root_.Nat.and_two_pow_sub_one_eq_mod
abbrev avX:=@_root_.Nat.le_of_ble_eq_true
abbrev avY:=@_root_.Go.Proofs.Tryz.sizeOf0
abbrev avZ:=@_root_.Nat.pow_add
abbrev av0:=@_root_.List.take_length
abbrev av1:=@_root_.Go.Proofs.Tryz.isAgg5
abbrev av2:=@_root_.Go.Proofs.Tryz.isAgg166
abbrev av3:=@_root_.Go.Proofs.Tryz.sizeOf34
abbrev av4:=@_root_.List.size_toArray
abbrev av5:=@_root_.List.length_set
abbrev av6:=@_root_.Nat.zero_lt_one
abbrev av7:=@_root_.Nat.add_mul
abbrev av8:=@_root_.Go.Proofs.Tryz.isAgg0
abbrev av9:=@_root_.List.length_map
abbrev av':=@_root_.beq_iff_eq
abbrev awa:=@_root_.List.mem_flatMap
abbrev awb:=@_root_.Nat.add_assoc
abbrev awc:=@_root_.List.map_replicate
abbrev awd:=@_root_.List.take_append_drop
abbrev awe:=@_root_.Bool.false_eq_true
abbrev awf:=@_root_.List.singleton_append
abbrev awg:=@_root_.List.getElem?_toArray
abbrev awh:=@_root_.Go.Proofs.Tryz.isAgg34
abbrev awi:=@_root_.of_decide_eq_false
abbrev awj:=@_root_.Go.Proofs.Tryz.underlying189
abbrev awk:=@_root_.Go.Proofs.Tryz.underlying276
abbrev awl:=@_root_.Go.Proofs.Tryz.underlying370
abbrev awm:=@_root_.Go.Proofs.Tryz.underlying214
abbrev awn:=@_root_.List.mem_or_eq_of_mem_set
abbrev awo:=@_root_.List.getElem?_mapIdx
abbrev awp:=@_root_.List.nil_append
abbrev awq:=@_root_.List.eq_of_mem_replicate
abbrev awr:=@_root_.List.getElem?_set
abbrev aws:=@_root_.List.mem_append
abbrev awt:=@_root_.Option.isSome_iff_exists
abbrev awu:=@_root_.Go.Lib.laidMet.reads
abbrev awv:=@_root_.Nat.min_eq_left
abbrev aww:=@_root_.List.map_set
abbrev awx:=@_root_.decide_true
abbrev awy:=@_root_.List.map_toArray
abbrev awz:=@_root_.Nat.lt_succ_self
abbrev awA:=@_root_.List.ext_getElem
abbrev awB:=@_root_.List.take_append_of_le_length
abbrev awC:=@_root_.List.drop_append_of_le_length
abbrev awD:=@_root_.Go.Proofs.Tryz.underlying2
abbrev awE:=@_root_.Go.Proofs.Tryz.zeroValue22
abbrev awF:=@_root_.Go.Proofs.Tryz.zeroValue49
abbrev awG:=@_root_.Bool.false_and
abbrev awH:=@_root_.Nat.testBit_lt_two_pow
abbrev awI:=@_root_.List.take_of_length_le
abbrev awJ:=@_root_.ByteArray.size_extract
abbrev awK:=@_root_.Go.World.grownBy.refl
abbrev awL:=@_root_.Nat.xor_lt_two_pow
abbrev awM:=@_root_.Go.Proofs.Tryz.underlying326
abbrev awN:=@_root_.Bool.and_eq_false_iff
abbrev awO:=@_root_.Nat.le_of_lt
abbrev awP:=@_root_.List.map_append
abbrev awQ:=@_root_.UInt8.toNat.inj
abbrev awR:=@_root_.ByteArray.size_append
abbrev awS:=@_root_.Prod.mk.injEq
abbrev awT:=@_root_.List.map_inj_left
abbrev awU:=@_root_.List.flatMap_cons
abbrev awV:=@_root_.Go.Proofs.Tryz.underlying20
abbrev awW:=@_root_.List.mem_of_mem_take
abbrev awX:=@_root_.Go.wpList_append_own_at
abbrev awY:=@_root_.Nat.eq_of_testBit_eq
abbrev awZ:=@_root_.List.mem_erase_of_ne
abbrev aw0:=@_root_.Go.Maps.atKey_put_other
abbrev aw1:=@_root_.Nat.pow_lt_pow_right
abbrev aw2:=@_root_.BitVec.ofInt_natCast
abbrev aw3:=@_root_.Nat.div_lt_of_lt_mul
abbrev aw4:=@_root_.Go.IntWalk.i64_in
abbrev aw5:=@_root_.Nat.testBit_or
abbrev aw6:=@_root_.Option.getD_some
abbrev aw7:=@_root_.Nat.le_of_not_lt
abbrev aw8:=@_root_.List.length_take
abbrev aw9:=@_root_.Go.Proofs.Tryz.zeroValue20
abbrev aw':=@_root_.Prod.mk.inj
abbrev axa:=@_root_.Nat.add_sub_cancel'
abbrev axb:=@_root_.Go.Maps.atKey_put_same
abbrev axc:=@_root_.Go.wpList_plain
abbrev axd:=@_root_.Go.wpQuiet_step
abbrev axe:=@_root_.Go.bodyPost_ret
abbrev axf:=@_root_.bne_iff_ne
abbrev axg:=@_root_.List.getElem?_take_of_lt
abbrev axh:=@_root_.List.mem_map
abbrev axi:=@_root_.Nat.add_comm
abbrev axj:=@_root_.Go.wp_loop_once
abbrev axk:=@_root_.Go.trodAll_cons_mk
abbrev axl:=@_root_.List.map_cons
abbrev axm:=@_root_.Bool.eq_iff_iff
abbrev axn:=@_root_.Nat.testBit_mod_two_pow
abbrev axo:=@_root_.Nat.testBit_and
abbrev axp:=@_root_.if_false
abbrev axq:=@_root_.List.set_eq_take_append_cons_drop
abbrev axr:=@_root_.Int.emod_lt_of_pos
abbrev axs:=@_root_.Option.bind_eq_some_iff
abbrev axt:=@_root_.Go.World.ownsMap_made
abbrev axu:=@_root_.Go.Proofs.Tryz.underlying360
abbrev axv:=@_root_.Go.Proofs.Tryz.sizeOf22
abbrev axw:=@_root_.Go.Proofs.Tryz.underlying399
abbrev axx:=@_root_.Go.Proofs.Tryz.underlying369
abbrev axy:=@_root_.Go.Proofs.Tryz.sizeOf49
abbrev axz:=@_root_.Go.Proofs.Tryz.underlying425
abbrev axA:=@_root_.List.getElem_cons_zero
abbrev axB:=@_root_.List.getElem_cons_succ
abbrev axC:=@_root_.Go.Proofs.Tryz.underlying23
abbrev axD:=@_root_.Array.getElem?_setIfInBounds_ne
abbrev axE:=@_root_.Nat.mul_one
abbrev axF:=@_root_.List.ext_getElem?
abbrev axG:=@_root_.List.foldl_append
abbrev axH:=@_root_.Nat.lt_trichotomy
abbrev axI:=@_root_.Go.Proofs.Tryz.zeroValue125
abbrev axJ:=@_root_.Go.Proofs.Tryz.zeroValue399
abbrev axK:=@_root_.Go.Proofs.Tryz.zeroValue369
abbrev axL:=@_root_.Go.Proofs.Tryz.underlying21
abbrev axM:=@_root_.or_false
abbrev axN:=@_root_.Nat.eq_of_beq_eq_true
abbrev axO:=@_root_.Go.Sem.run_pure
abbrev axP:=@_root_.Array.getElem?_modify
abbrev axQ:=@_root_.Go.run_typeAssert_lacksB
abbrev axR:=@_root_.Go.Proofs.Tryz.func154
abbrev axS:=@_root_.Classical.choose_spec
abbrev axT:=@_root_.Go.Proofs.Tryz.isAgg22
abbrev axU:=@_root_.Go.Proofs.Tryz.isAgg49
abbrev axV:=@_root_.Go.RowKit.Below.heap_alloc
abbrev axW:=@_root_.Nat.min_le_right
abbrev axX:=@_root_.Go.WideAt.atKey_mem
abbrev axY:=@_root_.Go.Proofs.Tryz.zeroValue21
abbrev axZ:=@_root_.List.mem_append_left
abbrev ax0:=@_root_.Go.Lib.bytesWorld_below
abbrev ax1:=@_root_.Go.World.ownsMap.lookup
abbrev ax2:=@_root_.Nat.lt_irrefl
abbrev ax3:=@_root_.Go.Proofs.Tryz.sizeOf20
abbrev ax4:=@_root_.List.append_toArray
abbrev ax5:=@_root_.Nat.div_le_self
abbrev ax6:=@_root_.Int.emod_nonneg
abbrev ax7:=@_root_.List.nodup_cons
abbrev ax8:=@_root_.Array.length_toList
abbrev ax9:=@_root_.Go.World.ownsMap.store
abbrev ax':=@_root_.Nat.two_pow_add_eq_or_of_lt
abbrev aya:=@_root_.Go.run_eqGuard_agg
abbrev ayb:=@_root_.Int.tmod_eq_emod_of_nonneg
abbrev ayc:=@_root_.Nat.lt_of_mul_lt_mul_right
abbrev ayd:=@_root_.Int.fdiv_eq_ediv_of_nonneg
abbrev aye:=@_root_.Nat.mul_lt_mul_of_pos_left
abbrev ayf:=@_root_.Classical.em
abbrev ayg:=@_root_.Nat.sub_self
abbrev ayh:=@_root_.List.getElem?_take
abbrev ayi:=@_root_.List.mem_replicate
abbrev azd:=@_root_.Go.Oper.wp_mono
abbrev ayj:=@_root_.Go.Proofs.Tryz.func210
abbrev ayk:=@_root_.Go.Proofs.Tryz.func211
abbrev ayl:=@_root_.Go.Proofs.Tryz.func212
abbrev aym:=@_root_.Go.Proofs.Tryz.underlying249
abbrev ayn:=@_root_.Go.Proofs.Tryz.underlying190
abbrev ayo:=@_root_.Nat.succ_pos
abbrev ayp:=@_root_.Go.Proofs.Tryz.underlying126
abbrev ayq:=@_root_.Go.Proofs.Tryz.isAgg20
abbrev ayr:=@_root_.BitVec.toNat_ofNat
abbrev ays:=@_root_.Go.Proofs.Tryz.underlying328
abbrev ayt:=@_root_.Go.Proofs.Tryz.underlying424
abbrev ayu:=@_root_.Nat.pow_succ
abbrev ayv:=@_root_.Array.getElem?_eq_getElem
abbrev ayw:=@_root_.if_true
abbrev ayx:=@_root_.List.drop_tail
abbrev ayy:=@_root_.List.getElem?_eq_none_iff
abbrev ayz:=@_root_.Nat.mul_le_mul
abbrev ayA:=@_root_.Go.Proofs.Tryz.sizeOf399
abbrev ayB:=@_root_.Go.Proofs.Tryz.sizeOf369
abbrev ayC:=@_root_.Go.wpList_append_own
abbrev ayD:=@_root_.List.take_add_one
abbrev ayE:=@_root_.Go.wp_scope_straight
abbrev ayF:=@_root_.Go.plainElem_int_inv
abbrev ayG:=@_root_.Go.WideAt.atKey_none
abbrev ayH:=@_root_.Go.Proofs.Tryz.zeroValue326
abbrev ayI:=@_root_.Go.Proofs.Tryz.zeroValue328
abbrev ayJ:=@_root_.Go.Proofs.Tryz.zeroValue424
abbrev ayK:=@_root_.Go.Proofs.Tryz.zeroValue425
abbrev ayL:=@_root_.Go.run_program
abbrev ayM:=@_root_.List.drop_set
abbrev ayN:=@_root_.Nat.testBit_div_two_pow
abbrev ayO:=@_root_.ByteArray.ext
abbrev ayP:=@_root_.List.all_cons
abbrev ayQ:=@_root_.Go.wp_region_any
abbrev ayR:=@_root_.Go.wpAny_of_held
abbrev ayS:=@_root_.Go.Maps.has_false_of_atKey
abbrev ayT:=@_root_.Go.Input.okWide_of_okWideB
abbrev ayU:=@_root_.Go.Proofs.Tryz.isAgg399
abbrev ayV:=@_root_.Go.Proofs.Tryz.isAgg369
abbrev ayW:=@_root_.Go.Proofs.Tryz.sizeOf21
abbrev ayX:=@_root_.Array.toList_inj
abbrev ayY:=@_root_.Nat.shiftLeft_eq
abbrev ayZ:=@_root_.Bool.not_eq_true
abbrev ay0:=@_root_.Go.World.ownsMap.lt
abbrev ay1:=@_root_.Go.Proofs.Tryz.zeroValue27
abbrev ay2:=@_root_.Go.ByteArray.toList_eq
abbrev ay3:=@_root_.List.getElem_replicate
abbrev ay4:=@_root_.Go.World.putObj_heap_same
abbrev ay5:=@_root_.Go.Maps.has_true_of_atKey
abbrev ay6:=@_root_.Go.WideMaps.string_law
abbrev ay7:=@_root_.Nat.sub_zero
abbrev ay8:=@_root_.Array.getElem?_append
abbrev ay9:=@_root_.Go.wp_seq
abbrev ay':=@_root_.List.set_append_right
abbrev aza:=@_root_.Nat.min_le_left
abbrev azb:=@_root_.Nat.testBit_shiftLeft
abbrev azc:=@_root_.List.mem_of_mem_erase
abbrev aze:=@_root_.Int.natCast_add
abbrev azf:=@_root_.Go.Proofs.Tryz.func101
abbrev azg:=@_root_.Go.Proofs.Tryz.func279
abbrev azh:=@_root_.Array.getElem?_toList
abbrev azi:=@_root_.List.mem_filter
abbrev azj:=@_root_.Go.Proofs.Tryz.func243
abbrev azk:=@_root_.Go.Proofs.Tryz.func244
abbrev azl:=@_root_.Go.Proofs.Tryz.func213
abbrev azm:=@_root_.Go.Proofs.Tryz.func245
abbrev azn:=@_root_.Go.Proofs.Tryz.func246
abbrev azo:=@_root_.Go.Proofs.Tryz.func266
abbrev azp:=@_root_.Go.Proofs.Tryz.isAgg21
abbrev azq:=@_root_.List.mem_range
abbrev azr:=@_root_.Go.wpList_step
abbrev azs:=@_root_.List.take_set_of_le
abbrev azt:=@_root_.Int.le_refl
abbrev azu:=@_root_.List.length_reverse
abbrev azv:=@_root_.List.map_congr_left
abbrev azw:=@_root_.List.reverse_append
abbrev azx:=@_root_.Go.DataW.trod_lt
abbrev azy:=@_root_.Go.wp_region_lit
abbrev azz:=@_root_.Bool.and_self
abbrev azA:=@_root_.Bool.and_true
abbrev azB:=@_root_.Go.wp_ret
abbrev azC:=@_root_.Bool.false_or
abbrev azD:=@_root_.Go.wpOp_mono
abbrev azE:=@_root_.Go.plainElem_int
abbrev azF:=@_root_.Nat.mul_assoc
abbrev azG:=@_root_.Nat.ne_of_lt
abbrev azH:=@_root_.Nat.le_of_eq
abbrev azI:=@_root_.Iff.rfl
abbrev azJ:=@_root_.Nat.mul_add
abbrev azK:=@_root_.dif_pos
theorem bh{p:Prop}(h:p:=by kernel_rfl):p:=h
theorem bj{p:Prop}(h:p:=by omega):p:=h
theorem bk{p:Prop}(h:p:=by decide):p:=h
theorem bl{p:Prop}(h:p:=by simp):p:=h
theorem bm{p:Prop}(h:p:=by simp;omega):p:=h
theorem bn{p:Prop}(h:p:=by unfold maxLen;omega):p:=h
theorem bo{p:Prop}(h:p:=by decide+kernel):p:=h
end Go
namespace Go.Proofs.YtnkjmbbddmgjiaaGreatDoor
open Go.RowKit Go.Proofs.Tryz
variable {w w':World}{N d j q4:Nat}{l:List (Nat × Value)}{v cz fq kC qY z:Value}{l':List Oper}{ty e t' DY:TypeId}{bx BL:Array Edge}{f:FuncId}{cC:Operand->Value}{xs vs:List Value}{ats:Array TypeId}{x y iW:Operand}{jF:Addr}{h2:TypeDesc}{ay:Option Addr}{pw:Nat × Nat}{pos':String}{AU ky cS xn:IntKind}{aR:List (Nat × Operand)}{eL pY:Int}
def cP(w w':World):Prop:=∃n,w'=w.drewN n
theorem cP.refl(w:World):cP w w:=⟨0,rfl⟩
theorem cP.trans{a b c:World}(h:cP a b)(k:cP b c):cP a c:=by
 obtain⟨n,rfl⟩:=h;obtain⟨m,rfl⟩:=k;exact⟨n+m,by simp [World.drewN,awb]⟩
theorem cP.more{a b:World}(h:cP a b)(n:Nat):cP a (b.drewN n):=h.trans ⟨n,rfl⟩
theorem cP.below(h:cP w w')(B:Nat):Below B w w':=by
 obtain⟨n,rfl⟩:=h;exact⟨rfl,rfl,rfl,atI _,λ_ _=>rfl⟩
theorem eU{B:Nat}{a b:World}(h:Below B a b)(n:Nat):Below B a (b.drewN n):=h.trans (cP.below ⟨n,rfl⟩ B)
def look:List (Nat × Value)->Nat->Option Value
 | [],_=>none
 |(s,v)::l,t=>bif Nat.beq s t then some v else look l t
structure Fr(N:Nat)(l:List (Nat × Value))(a:Act):Prop where
 defers:a.defers=[]
 size:a.tmps.size=N
 at_:∀t v,look l t=some v->a.tmps[t]? =some v
def a7(l:List (Nat × Value)):Operand->Value->Prop
 | .tmp t,v=>look l t=some v
 | .const c,v=>c=v
 | .global g,v=>Value.pointer (some ⟨g,0,none⟩)=v
 | .func f,v=>Value.func (.func f) #[] #[]=v
def x0(cC:Operand->Value)(l:List (Nat × Value)):Prop:=∀x v,a7 l x v->cC x=v
theorem Fr.eval{a:Act}(h:Fr N l a):x0 a.eval l:=by
 intro x v hx;cases x with
 |tmp t=>simp [Act.eval,h.at_ t v hx]
 |const c=>exact hx
 |global g=>exact hx
 |func f=>exact hx
theorem Da(s:Nat)(v:Value)(l:List (Nat × Value))(t:Nat):look ((s,v)::l) t=if s=t then some v else look l t:=by
 simp only [look];by_cases h:s=t
 · subst h;simp
 · have:Nat.beq s t=false:=by
    cases e:Nat.beq s t with
    |false=>rfl
    |true=>exact(h (axN e)).elim
   simp [this,h]
theorem Fr.put{a:Act}(h:Fr N l a)(aI:Nat.blt d N=true)(v:Value):Fr N ((d,v)::l) (a.put (some d) v):=by
 have pG:d<N:=by simpa [Nat.blt_eq]using aI
 refine⟨h.defers,by simp [Act.put,h.size],λt u hu=>?_⟩;rw [Da]at hu;simp only [Act.put];by_cases e:d=t
 · subst e;rw [atM rfl]at hu;rw [Array.getElem?_setIfInBounds_self_of_lt (by rw [h.size];exact pG)];exact hu
 · rw [atK e]at hu;rw [axD e];exact h.at_ t u hu
theorem Fr.YI{a:Act}(h:Fr N l a)(v:Value):Fr N l (a.put none v):=h
theorem Fr.base{a:Act}(h:Fr N l a):Fr N [] a:=⟨h.defers,h.size,λt v ao=>by simp [look]at ao⟩
theorem Fr.add{a:Act}(h:Fr N l a){t:Nat}(ao:a.tmps[t]? =some v):Fr N ((t,v)::l) a:=by
 refine⟨h.defers,h.size,λs u hu=>?_⟩;rw [Da]at hu;by_cases e:t=s
 · subst e;rw [atM rfl]at hu;cases hu;exact ao
 · rw [atK e]at hu;exact h.at_ s u hu
theorem Fr.keep{l':List (Nat × Value)}{a:Act}(h:Fr N l a)(aN:∀p∈l',look l p.1=some p.2):Fr N l' a:=by
 induction l' with
 |nil=>exact h.base
 |cons p l' df=>exact(df (λq aZ=>aN q (at0 _ aZ))).add (h.at_ _ _ (aN p auy))
def zw(l:List (Nat × Value)):List (Nat × Value)->Prop
 | []=>True
 |p::r=>look l p.1=some p.2/\zw l r
theorem Fr.xp{l':List (Nat × Value)}{a:Act}(h:Fr N l a)(aN:zw l l'):Fr N l' a:=by
 refine h.keep ?_;induction l' with
 |nil=>intro p aW;cases aW
 |cons q r df=>
  intro p aW;cases aW with
  |head=>exact aN.1
  |tail _ hm=>exact df aN.2 p hm
theorem Fr.enter(args:List Value)(N k:Nat)(au:args.length+k=N):Fr N (args.zipIdx.map λp=>(p.2,p.1)) { tmps:=args.toArray++Array.replicate k undef,defers:=[] }:=by
 refine⟨rfl,by simp [au],?_⟩;have key:∀(l:List Value) (n t:Nat) (v:Value),look ((l.zipIdx n).map λp=>(p.2,p.1)) t=some v->n<=t/\l[t - n]? =some v:=by
  intro l;induction l with
  |nil=>intro n t v h;simp [look]at h
  |cons x l df=>
   intro n t v h;simp only [List.zipIdx_cons,axl]at h;rw [Da]at h;by_cases e:n=t
   · subst e;rw [atM rfl]at h;exact⟨atI _,by simpa using h⟩
   · rw [atK e]at h;obtain⟨U,ae⟩:=df _ _ _ h;refine⟨bj,?_⟩;rw [show t - n=(t - (n+1))+1 by omega];simpa using ae
 intro t v h;obtain⟨_,ae⟩:=key args 0 t v h;simp only [ay7]at ae;have bu:=(atY.1 ae).1;rw [<-ae];simp [ay8,bu]
section
variable {P:Program} {ops:Array Oper} {Q:Exit->Act->World->Prop} {a:Act} {w w':World} {rest:List Oper} {N:Nat} {l:List (Nat × Value)}
def bL(P:Program)(l:List (Nat × Value))(w:World)(op:Op)(ty:TypeId)(v:Value)(w':World):Prop:=
 ∀(cC:Operand->Value),x0 cC l->∀d pos bx g,(execOp cC ⟨d,op,ty,pos,bx,g⟩).run P w=.ok (.value v) w'
def eT(P:Program)(l:List (Nat × Value))(w:World)(op:Op)(ty:TypeId)(w':World):Prop:=
 ∀(cC:Operand->Value),x0 cC l->∀d pos bx g,(execOp cC ⟨d,op,ty,pos,bx,g⟩).run P w=.ok .skip w'
theorem st(h:Fr N l a){op:Op}{pos:String}{bx:Array Edge}(aj:bL P l w op ty v w')(aI:Nat.blt d N=true:=by exact rfl)(k:∀aU,Fr N ((d,v)::l) aU->wpList P ops Q rest aU w'):wpList P ops Q (⟨some d,op,ty,pos,bx,none⟩::rest) a w:=
 axc rfl λK cv=>by
  unfold Oper.wp;rw [aj a.eval h.eval];exact cv _ _ (k _ (h.put aI v))
theorem gv(h:Fr N l a){op:Op}{pos:String}{d:Option Tmp}(aj:eT P l w op ty w')(aI:d=none)(k:∀aU,Fr N l aU->wpList P ops Q rest aU w'):wpList P ops Q (⟨d,op,ty,pos,bx,none⟩::rest) a w:=
 axc rfl λK cv=>by
  subst aI;unfold Oper.wp;rw [aj a.eval h.eval];exact cv _ _ (k _ (h.YI _))
theorem xR(h:Fr N l a){b:Bool}(ah:(ops[j]?).bind (·.dst)=some d)(hb:look l d=some (.bool b)):yielded ops a.tmps j=some b:=by
 unfold yielded;rw [ah];simp [h.at_ d _ hb]
theorem Rd(h:Fr N l a)(ah:(ops[j]?).bind (·.dst)=some d)(hb:look l d=some undef):yielded ops a.tmps j=none:=by
 unfold yielded;rw [ah];simp [h.at_ d _ hb,undef]
theorem p4(h:Fr N l a){d:Nat}{op:Op}{ty:TypeId}{pos:String}{bx:Array Edge}{v:Value}{e:Nat}{b:Bool}(ah:(ops[j]?).bind (·.dst)=some e:=by exact rfl)(hb:look l e=some (.bool b):=by exact rfl)(aj:bL P l w op ty v w')(aI:Nat.blt d N=true:=by exact rfl)(k:∀aU,Fr N ((d,v)::l) aU->wpList P ops Q rest aU w'):wpList P ops Q (⟨some d,op,ty,pos,bx,some (j,b)⟩::rest) a w:=
 azr λK cv=>by
  have aO:=xR (ops:=ops) h ah hb;rw [atM (by simp [Region.wanted,aO])];unfold Oper.wp;rw [aj a.eval h.eval];exact cv _ _ (k _ (h.put aI v))
theorem rL(h:Fr N l a){d:Nat}{op:Op}{ty:TypeId}{pos:String}{bx:Array Edge}{e:Nat}{b c:Bool}(ah:(ops[j]?).bind (·.dst)=some e:=by exact rfl)(hb:look l e=some (.bool c):=by exact rfl)(b5:c= !b:=by exact rfl)(aI:Nat.blt d N=true:=by exact rfl)(k:∀aU,Fr N ((d,undef)::l) aU->wpList P ops Q rest aU w):wpList P ops Q (⟨some d,op,ty,pos,bx,some (j,b)⟩::rest) a w:=
 azr λK cv=>by
  have aO:=xR (ops:=ops) h ah hb;rw [atK (by subst b5;simp [Region.wanted,aO])];exact cv _ _ (k _ (h.put aI _))
theorem DT(h:Fr N l a){d:Nat}{op:Op}{ty:TypeId}{pos:String}{bx:Array Edge}{e:Nat}{b:Bool}(ah:(ops[j]?).bind (·.dst)=some e:=by exact rfl)(hb:look l e=some undef:=by exact rfl)(aI:Nat.blt d N=true:=by exact rfl)(k:∀aU,Fr N ((d,undef)::l) aU->wpList P ops Q rest aU w):wpList P ops Q (⟨some d,op,ty,pos,bx,some (j,b)⟩::rest) a w:=
 azr λK cv=>by
  have aO:=Rd (ops:=ops) h ah hb;rw [atK (by simp [Region.wanted,aO])];exact cv _ _ (k _ (h.put aI _))
def bd(P:Program)(f:FuncId)(args:Array Value)(w:World)(R:Value->World->Prop):Prop:=
 Calls P f args w λe w'=>∃v,e=.returned v/\R v w'
theorem bd.mono{args:Array Value}{R R':Value->World->Prop}(h:bd P f args w R)(aj:∀v w',R v w'->R' v w'):bd P f args w R':=
 auC h λ_ _ ⟨v,e,r⟩=>⟨v,e,aj _ _ r⟩
structure dc(P:Program)(f:FuncId):Prop where
 out:∃fn,P.funcs[f]? =some fn/\(fn.name== "runtime.NumGoroutine")=false/\fn.body.isNone=false
def jW(l:List (Nat × Value)):List Operand->List Value->Prop
 | [],[]=>True
 |x::xs,v::vs=>a7 l x v/\jW l xs vs
 |_,_=>False
theorem jW.map(aY:x0 cC l):∀{xs:List Operand} {vs:List Value},jW l xs vs->xs.map cC=vs
 | [],[],_=>rfl
 |x::xs,v::vs,h=>by rw [axl,aY x v h.1,jW.map aY h.2]
 | [],_::_,h=>h.elim
 |_::_,[],h=>h.elim
theorem Ie(aY:x0 cC l){xs:List Operand}(av:dc P f)(hx:jW l xs vs)(d:Option Tmp)(ty:TypeId)(pos:String)(bx:Array Edge)(g:Option (Nat × Bool)):
  (execOp cC ⟨d,.call { callee:=.value (.func f),args:=xs.toArray,argTypes:=ats },ty,pos,bx,g⟩).run P w=.ok (.enter f vs.toArray) w:=by
 obtain⟨fn,U,ae,aM⟩:=av.out;have bw:cC (.func f)=.func (.func f) #[] #[]:=aY _ _ rfl;have bf:=jW.map aY hx;simp only [execOp,resolve,Deferred.ofValue,invoke,callFunc,bw,bf,auu,axO,aun,ayL,U,ae,aM,awy,Array.append_empty,ax4,awp];simp
theorem mY(h:Fr N l a){xs:List Operand}{ats:Array TypeId}{ty:TypeId}{pos:String}{bx:Array Edge}{R:Value->World->Prop}(av:bd P f vs.toArray w R)(bC:dc P f)(hx:jW l xs vs)(aI:Nat.blt d N=true:=by exact rfl)(k:∀aU v w',R v w'->Fr N ((d,v)::l) aU->wpList P ops Q rest aU w'):
  wpList P ops Q (⟨some d,.call { callee:=.value (.func f),args:=xs.toArray,argTypes:=ats },ty,pos,bx,none⟩::rest) a w:=
 axc rfl λK cv=>by
  unfold Oper.wp;rw [Ie h.eval bC hx];refine auC av ?_;rintro e w' ⟨v,rfl,ab⟩;exact cv _ _ (k _ _ _ ab (h.put aI v))
theorem ig(h:Fr N l a){xs:List Operand}{ats:Array TypeId}{ty:TypeId}{pos:String}{bx:Array Edge}{R:Value->World->Prop}{j e:Nat}{b:Bool}(av:bd P f vs.toArray w R)(bC:dc P f)(hx:jW l xs vs)(ah:(ops[j]?).bind (·.dst)=some e:=by exact rfl)(hb:look l e=some (.bool b):=by exact rfl)(aI:Nat.blt d N=true:=by exact rfl)(k:∀aU v w',R v w'->Fr N ((d,v)::l) aU->wpList P ops Q rest aU w'):
  wpList P ops Q (⟨some d,.call { callee:=.value (.func f),args:=xs.toArray,argTypes:=ats },ty,pos,bx,some (j,b)⟩::rest) a w:=
 azr λK cv=>by
  have aO:=xR (ops:=ops) h ah hb;rw [atM (by simp [Region.wanted,aO])];unfold Oper.wp;rw [Ie h.eval bC hx];refine auC av ?_;rintro e w' ⟨v,rfl,ab⟩;exact cv _ _ (k _ _ _ ab (h.put aI v))
theorem fC{x y:Code}(h:x.wp P (Exit.then (y.wp P Q) Q) a w):(Code.seq x y).wp P Q a w:=ay9 h
theorem HH(h:Fr N l a){c:Operand}{x y:Code}{t:Bool}(av:a7 l c (.bool t))(bW:t=true)(hx:x.wp P Q a w):(Code.cond c x y).wp P Q a w:=
 wp_cond_true (by rw [h.eval _ _ av,bW]) hx
theorem R4(h:Fr N l a){c:Operand}{x y:Code}{t:Bool}(av:a7 l c (.bool t))(bW:t=false)(aO:y.wp P Q a w):(Code.cond c x y).wp P Q a w:=
 wp_cond_false (by rw [h.eval _ _ av,bW]) aO
theorem abH(id:Nat)(hm:P.follows .mixedOrders=true)(aH:Region.lexB .any l'.toArray=true)(h:wpQuiet P l'.toArray (λw'=>∃n,w'=w.drewN n) (λaU=>∀w',(∃n,w'=w.drewN n)->Q .normal aU w') l' a):(Code.region id l'.toArray true).wp P Q a w:=
 wp_region_quiet_lit hm aH h
theorem tX{C:World->Prop}{Q':Act->Prop}(h:Q' a):wpQuiet P ops C Q' [] a:=h
theorem GG{C:World->Prop}{Q':Act->Prop}(h:Fr N l a){op:Op}{pos:String}{bx:Array Edge}(aj:∀w,C w->bL P l w op ty v w)(aI:Nat.blt d N=true:=by exact rfl)(k:∀aU,Fr N ((d,v)::l) aU->wpQuiet P ops C Q' rest aU):wpQuiet P ops C Q' (⟨some d,op,ty,pos,bx,none⟩::rest) a:=
 axd λK cv=>by
  rw [atM (by simp [Region.wanted])];refine⟨v,λw hw=>?_,cv _ (k _ (h.put aI v))⟩;unfold Oper.quietAt;rw [aj w hw a.eval h.eval];exact⟨rfl,rfl⟩
theorem GH{C:World->Prop}{Q':Act->Prop}(h:Fr N l a){d:Nat}{op:Op}{ty:TypeId}{pos:String}{bx:Array Edge}{v:Value}{e:Nat}{b:Bool}(ah:(ops[j]?).bind (·.dst)=some e:=by exact rfl)(hb:look l e=some (.bool b):=by exact rfl)(aj:∀w,C w->bL P l w op ty v w)(aI:Nat.blt d N=true:=by exact rfl)(k:∀aU,Fr N ((d,v)::l) aU->wpQuiet P ops C Q' rest aU):wpQuiet P ops C Q' (⟨some d,op,ty,pos,bx,some (j,b)⟩::rest) a:=
 axd λK cv=>by
  have aO:=xR (ops:=ops) h ah hb;rw [atM (by simp [Region.wanted,aO])];refine⟨v,λw hw=>?_,cv _ (k _ (h.put aI v))⟩;unfold Oper.quietAt;rw [aj w hw a.eval h.eval];exact⟨rfl,rfl⟩
theorem Kk{C:World->Prop}{Q':Act->Prop}(h:Fr N l a){d:Nat}{op:Op}{ty:TypeId}{pos:String}{bx:Array Edge}{e:Nat}{b c:Bool}(ah:(ops[j]?).bind (·.dst)=some e:=by exact rfl)(hb:look l e=some (.bool c):=by exact rfl)(b5:c= !b:=by exact rfl)(aI:Nat.blt d N=true:=by exact rfl)(k:∀aU,Fr N ((d,undef)::l) aU->wpQuiet P ops C Q' rest aU):wpQuiet P ops C Q' (⟨some d,op,ty,pos,bx,some (j,b)⟩::rest) a:=
 axd λK cv=>by
  have aO:=xR (ops:=ops) h ah hb;rw [atK (by subst b5;simp [Region.wanted,aO])];exact cv _ (k _ (h.put aI _))
theorem Kl{C:World->Prop}{Q':Act->Prop}(h:Fr N l a){d:Nat}{op:Op}{ty:TypeId}{pos:String}{bx:Array Edge}{e:Nat}{b:Bool}(ah:(ops[j]?).bind (·.dst)=some e:=by exact rfl)(hb:look l e=some undef:=by exact rfl)(aI:Nat.blt d N=true:=by exact rfl)(k:∀aU,Fr N ((d,undef)::l) aU->wpQuiet P ops C Q' rest aU):wpQuiet P ops C Q' (⟨some d,op,ty,pos,bx,some (j,b)⟩::rest) a:=
 axd λK cv=>by
  have aO:=Rd (ops:=ops) h ah hb;rw [atK (by simp [Region.wanted,aO])];exact cv _ (k _ (h.put aI _))
theorem fB(id:Nat)(h:wpList P l'.toArray Q l' a w):(Code.region id l'.toArray false).wp P Q a w:=azy h
theorem mb{K:Act->World->Prop}(h:K a w):Exit.then K Q .normal a w:=h
theorem Lz{K:Act->World->Prop}{id:Nat}(h:Q (.exit id) a w):Exit.then K Q (.exit id) a w:=h
theorem BS{K:Act->World->Prop}(h:Q .ret a w):Exit.then K Q .ret a w:=h
theorem R3{id:Nat}{c:Code}(h:c.wp P (Exit.inBlock id Q) a w):(Code.block id c).wp P Q a w:=wp_block h
theorem HI{id:Nat}(h:Q .normal a w):Exit.inBlock id Q .normal a w:=h
theorem Et{id:Nat}(h:Q .ret a w):Exit.inBlock id Q .ret a w:=h
theorem Lx{id:Nat}(h:Q .normal a w):Exit.inBlock id Q (.exit id) a w:=by simp [Exit.inBlock,h]
theorem Ly{id:Nat}(b5:Nat.beq j id=false)(h:Q (.exit j) a w):Exit.inBlock id Q (.exit j) a w:=by
 have:¬j=id:=by intro e;subst e;simp at b5
 simp [Exit.inBlock,this,h]
theorem eg{c:Code}(gQ:Nat->Act->World->Prop)(Gw:Nat)(O9:gQ Gw a w)(round:∀n a w,gQ n a w->c.wp P (Exit.then (λaU w'=>∃sJ,sJ<n/\gQ sJ aU w') Q) a w):(Code.loop c).wp P Q a w:=wp_loop_ghost gQ Gw O9 round
theorem enter{fn:Func}{c:Code}{args:List Value}{R:Value->World->Prop}(bC:P.funcs[f]? =some fn)(hb:fn.body=some c)(k:Nat)(au:fn.ntmps - args.length=k)(N:Nat)(hO:args.length+k=N)(h:∀a,Fr N (args.zipIdx.map λp=>(p.2,p.1)) a->c.wp P (bodyPost P fn (λe w'=>∃v,e=.returned v/\R v w')) a w):bd P f args.toArray w R:=by
 refine calls_of_wp bC hb ?_;refine h _ ?_;have:=Fr.enter args N k hO;simpa [au]using this
theorem yd{fn:Func}{c:Code}{R:Value->World->Prop}(bC:P.funcs[f]? =some fn)(hb:fn.body=some c)(k:Nat)(au:fn.ntmps - 0=k)(N:Nat)(hO:0+k=N)(h:∀a,Fr N [] a->c.wp P (bodyPost P fn (λe w'=>∃v,e=.returned v/\R v w')) a w):bd P f #[] w R:=enter (args:=[]) bC hb k au N hO h
theorem cF{fn:Func}{c:Code}{R:Value->World->Prop}(bC:P.funcs[f]? =some fn)(hb:fn.body=some c)(k:Nat)(au:fn.ntmps - 1=k)(N:Nat)(hO:1+k=N)(h:∀a,Fr N [(0,cz)] a->c.wp P (bodyPost P fn (λe w'=>∃v,e=.returned v/\R v w')) a w):bd P f #[cz] w R:=enter (args:=[cz]) bC hb k au N hO h
theorem dP{fn:Func}{c:Code}{R:Value->World->Prop}(bC:P.funcs[f]? =some fn)(hb:fn.body=some c)(k:Nat)(au:fn.ntmps - 2=k)(N:Nat)(hO:2+k=N)(h:∀a,Fr N [(0,cz),(1,fq)] a->c.wp P (bodyPost P fn (λe w'=>∃v,e=.returned v/\R v w')) a w):bd P f #[cz,fq] w R:=enter (args:=[cz,fq]) bC hb k au N hO h
theorem mf{fn:Func}{c:Code}{R:Value->World->Prop}(bC:P.funcs[f]? =some fn)(hb:fn.body=some c)(k:Nat)(au:fn.ntmps - 3=k)(N:Nat)(hO:3+k=N)(h:∀a,Fr N [(0,cz),(1,fq),(2,kC)] a->c.wp P (bodyPost P fn (λe w'=>∃v,e=.returned v/\R v w')) a w):bd P f #[cz,fq,kC] w R:=enter (args:=[cz,fq,kC]) bC hb k au N hO h
theorem wE{fn:Func}{c:Code}{R:Value->World->Prop}(bC:P.funcs[f]? =some fn)(hb:fn.body=some c)(k:Nat)(au:fn.ntmps - 4=k)(N:Nat)(hO:4+k=N)(h:∀a,Fr N [(0,cz),(1,fq),(2,kC),(3,qY)] a->c.wp P (bodyPost P fn (λe w'=>∃v,e=.returned v/\R v w')) a w):bd P f #[cz,fq,kC,qY] w R:=enter (args:=[cz,fq,kC,qY]) bC hb k au N hO h
theorem Ib{fn:Func}{c:Code}{Rc:Value}{R:Value->World->Prop}(bC:P.funcs[f]? =some fn)(hb:fn.body=some c)(k:Nat)(au:fn.ntmps - 5=k)(N:Nat)(hO:5+k=N)(h:∀a,Fr N [(0,cz),(1,fq),(2,kC),(3,qY),(4,Rc)] a->c.wp P (bodyPost P fn (λe w'=>∃v,e=.returned v/\R v w')) a w):bd P f #[cz,fq,kC,qY,Rc] w R:=enter (args:=[cz,fq,kC,qY,Rc]) bC hb k au N hO h
theorem amW{fn:Func}{R:Value->World->Prop}(h:Fr N l a)(fI:fn.results=#[])(ab:R (.tuple #[]) w):bodyPost P fn (λe w'=>∃v,e=.returned v/\R v w') .ret a w:=
 axe (results_none fI _ _ _) h.defers ⟨_,rfl,ab⟩
theorem lo{fn:Func}{R:Value->World->Prop}(h:Fr N l a)(fI:fn.results=#[])(ab:R (.tuple #[]) w):bodyPost P fn (λe w'=>∃v,e=.returned v/\R v w') .normal a w:=
 bodyPost_end (results_none fI _ _ _) h.defers ⟨_,rfl,ab⟩
theorem getD_at(h:Fr N l a){t:Nat}(ao:look l t=some v):a.tmps.getD t undef=v:=by simp [h.at_ t v ao]
theorem bc{fn:Func}{R:Value->World->Prop}(h:Fr N l a){t:Nat}(fI:fn.results=#[.tmp t])(ao:look l t=some v)(ab:R v w):bodyPost P fn (λe w'=>∃v,e=.returned v/\R v w') .ret a w:=
 axe (results_tmp fI _ _ _) h.defers ⟨_,rfl,by rw [getD_at h ao];exact ab⟩
theorem eI{fn:Func}{R:Value->World->Prop}(h:Fr N l a){t u:Nat}(fI:fn.results=#[.tmp t,.tmp u]){x:Value}(ao:look l t=some v)(hx:look l u=some x)(ab:R (.tuple #[v,x]) w):
  bodyPost P fn (λe w'=>∃v,e=.returned v/\R v w') .ret a w:=
 axe (results_tmp2 fI _ _ _) h.defers ⟨_,rfl,by rw [getD_at h ao,getD_at h hx];exact ab⟩
theorem YW{fn:Func}{R:Value->World->Prop}(h:Fr N l a){t u s:Nat}(fI:fn.results=#[.tmp t,.tmp u,.tmp s]){x y:Value}(ao:look l t=some v)(hx:look l u=some x)(aO:look l s=some y)(ab:R (.tuple #[v,x,y]) w):
  bodyPost P fn (λe w'=>∃v,e=.returned v/\R v w') .ret a w:=
 axe (results_tmp3 fI _ _ _) h.defers ⟨_,rfl,by rw [getD_at h ao,getD_at h hx,getD_at h aO];exact ab⟩
end
section
variable {P:Program} {w:World} {l:List (Nat × Value)}
theorem hv(hx:a7 l x v:=by exact rfl):bL P l w (.move x) ty v w:=by
 intro cC aY d pos bx g;simp [execOp,aY _ _ hx]
theorem k5(hx:a7 l x v:=by exact rfl):bL P l w (.assign x) ty v w:=by
 intro cC aY d pos bx g;simp [execOp,aY _ _ hx]
theorem oV{c:Operand}{u:Value}(av:a7 l c (.bool true):=by exact rfl)(hx:a7 l x u:=by exact rfl):bL P l w (.pick c x y) ty u w:=by
 intro cC aY d pos bx g;simp [execOp,aY _ _ hx,aY _ _ av,asBool]
theorem oU{c:Operand}{u:Value}(av:a7 l c (.bool false):=by exact rfl)(aO:a7 l y u:=by exact rfl):bL P l w (.pick c x y) ty u w:=by
 intro cC aY d pos bx g;simp [execOp,aY _ _ aO,aY _ _ av,asBool]
theorem qn{op:Op}{b c:Bool}(h:bL P l w op ty (.bool c) w')(av:c=b):bL P l w op ty (.bool b) w':=by rw [<-av];exact h
theorem uC{b:Bool}{t:TypeId}(hx:a7 l x (.bool b):=by exact rfl):bL P l w (.unOp .not t x) ty (.bool (!b)) w:=by
 intro cC aY d pos bx g;simp [execOp,aY _ _ hx,Op.unary]
theorem wb{m n:Int}{t t' ty:TypeId}(hx:a7 l x (.int .i64 m):=by exact rfl)(aO:a7 l y (.int .i64 n):=by exact rfl)(h: -9223372036854775808<=m+n/\m+n<=9223372036854775807:=by omega):
  bL P l w (.binOp .add t x y t') ty (.int .i64 (m+n)) w:=by
 intro cC aY d pos bx g;simp [execOp,eqGuard,binOp,Op.intArith,aY _ _ hx,aY _ _ aO,aw4 _ h]
theorem te{m n:Int}{t t' ty:TypeId}(hx:a7 l x (.int .i64 m):=by exact rfl)(aO:a7 l y (.int .i64 n):=by exact rfl)(h: -9223372036854775808<=m - n/\m - n<=9223372036854775807:=by omega):
  bL P l w (.binOp .sub t x y t') ty (.int .i64 (m - n)) w:=by
 intro cC aY d pos bx g;simp [execOp,eqGuard,binOp,Op.intArith,aY _ _ hx,aY _ _ aO,aw4 _ h]
theorem n9{m n:Int}{t t' ty:TypeId}(hx:a7 l x (.int .i64 m):=by exact rfl)(aO:a7 l y (.int .i64 n):=by exact rfl)(h: -9223372036854775808<=m*n/\m*n<=9223372036854775807):
  bL P l w (.binOp .mul t x y t') ty (.int .i64 (m*n)) w:=by
 intro cC aY d pos bx g;simp [execOp,eqGuard,binOp,Op.intArith,aY _ _ hx,aY _ _ aO,aw4 _ h]
theorem adp{k:IntKind}{m n:Int}{t:TypeId}(hx:a7 l x (.int k m):=by exact rfl)(aO:a7 l y (.int k n):=by exact rfl):bL P l w (.binOp .add t x y t') ty (.int k (k.wrap (m+n))) w:=by
 intro cC aY d pos bx g;simp [execOp,eqGuard,binOp,Op.intArith,aY _ _ hx,aY _ _ aO]
theorem SN{k:IntKind}{m n:Int}{t:TypeId}(hx:a7 l x (.int k m):=by exact rfl)(aO:a7 l y (.int k n):=by exact rfl):bL P l w (.binOp .sub t x y t') ty (.int k (k.wrap (m - n))) w:=by
 intro cC aY d pos bx g;simp [execOp,eqGuard,binOp,Op.intArith,aY _ _ hx,aY _ _ aO]
theorem L5{k:IntKind}{m n:Int}{t:TypeId}(hx:a7 l x (.int k m):=by exact rfl)(aO:a7 l y (.int k n):=by exact rfl):bL P l w (.binOp .mul t x y t') ty (.int k (k.wrap (m*n))) w:=by
 intro cC aY d pos bx g;simp [execOp,eqGuard,binOp,Op.intArith,aY _ _ hx,aY _ _ aO]
theorem wq{m n:Int}{t t' ty:TypeId}(hx:a7 l x (.int .i64 m):=by exact rfl)(aO:a7 l y (.int .i64 n):=by exact rfl)(h:0<=m/\m<=9223372036854775807/\1<=n:=by omega):
  bL P l w (.binOp .quo t x y t') ty (.int .i64 (m/n)) w:=by
 intro cC aY d pos bx g;have ba:¬n=0:=bj
 simp [execOp,eqGuard,binOp,Op.intDiv,aY _ _ hx,aY _ _ aO,ba,IntWalk.i64_quo _ _ h]
theorem wu{m n:Int}{t t' ty:TypeId}(hx:a7 l x (.int .i64 m):=by exact rfl)(aO:a7 l y (.int .i64 n):=by exact rfl)(h:0<=m/\1<=n:=by omega):
  bL P l w (.binOp .rem t x y t') ty (.int .i64 (m%n)) w:=by
 intro cC aY d pos bx g;have ba:¬n=0:=bj
 simp [execOp,eqGuard,binOp,Op.intDiv,aY _ _ hx,aY _ _ aO,ba,IntWalk.rem_in _ _ h.1]
theorem SJ{m n:Int}{t t' ty:TypeId}(hx:a7 l x (.int .i64 m):=by exact rfl)(aO:a7 l y (.int .i64 n):=by exact rfl)(h:n≠0):
  bL P l w (.binOp .rem t x y t') ty (.int .i64 (m.tmod n)) w:=by
 intro cC aY d pos bx g;simp [execOp,eqGuard,binOp,Op.intDiv,aY _ _ hx,aY _ _ aO,h]
theorem L6{m:Int}{t:TypeId}(hx:a7 l x (.int .i64 m):=by exact rfl)(h: -9223372036854775808<=0- m/\0- m<=9223372036854775807):bL P l w (.unOp .neg t x) ty (.int .i64 (0- m)) w:=by
 intro cC aY d pos bx g;have:=aw4 _ h;simp only [execOp,aY _ _ hx,Op.unary,Op.intArith,this];simp
theorem adw{k:IntKind}{m n:Int}{t:TypeId}(hx:a7 l x (.int k m):=by exact rfl)(aO:a7 l y (.int k n):=by exact rfl):bL P l w (.binOp .eql t x y t') ty (.bool (m==n)) w:=by
 intro cC aY d pos bx g;simp [execOp,eqGuard,binOp,Op.intCmp,aY _ _ hx,aY _ _ aO]
theorem adH{k:IntKind}{m n:Int}{t:TypeId}(hx:a7 l x (.int k m):=by exact rfl)(aO:a7 l y (.int k n):=by exact rfl):bL P l w (.binOp .neq t x y t') ty (.bool (m != n)) w:=by
 intro cC aY d pos bx g;simp [execOp,eqGuard,binOp,Op.intCmp,aY _ _ hx,aY _ _ aO]
theorem adD{k:IntKind}{m n:Int}{t:TypeId}(hx:a7 l x (.int k m):=by exact rfl)(aO:a7 l y (.int k n):=by exact rfl):bL P l w (.binOp .lss t x y t') ty (.bool (decide (m<n))) w:=by
 intro cC aY d pos bx g;simp [execOp,eqGuard,binOp,Op.intCmp,aY _ _ hx,aY _ _ aO]
theorem adC{k:IntKind}{m n:Int}{t:TypeId}(hx:a7 l x (.int k m):=by exact rfl)(aO:a7 l y (.int k n):=by exact rfl):bL P l w (.binOp .leq t x y t') ty (.bool (decide (m<=n))) w:=by
 intro cC aY d pos bx g;simp [execOp,eqGuard,binOp,Op.intCmp,aY _ _ hx,aY _ _ aO]
theorem adz{k:IntKind}{m n:Int}{t:TypeId}(hx:a7 l x (.int k m):=by exact rfl)(aO:a7 l y (.int k n):=by exact rfl):bL P l w (.binOp .gtr t x y t') ty (.bool (decide (n<m))) w:=by
 intro cC aY d pos bx g;simp [execOp,eqGuard,binOp,Op.intCmp,aY _ _ hx,aY _ _ aO]
theorem ady{k:IntKind}{m n:Int}{t:TypeId}(hx:a7 l x (.int k m):=by exact rfl)(aO:a7 l y (.int k n):=by exact rfl):bL P l w (.binOp .geq t x y t') ty (.bool (decide (n<=m))) w:=by
 intro cC aY d pos bx g;simp [execOp,eqGuard,binOp,Op.intCmp,aY _ _ hx,aY _ _ aO]
def BU(op:BinOp)(m n:Int):Option Bool:=
 match op with
 | .eql=>some (m==n)| .neq=>some (m != n)| .lss=>some (decide (m<n))| .leq=>some (decide (m<=n))| .gtr=>some (decide (n<m))| .geq=>some (decide (n<=m))|_=>none
theorem ps{op:BinOp}{k:IntKind}{m n:Int}{c:Bool}{t:TypeId}(hx:a7 l x (.int k m):=by exact rfl)(aO:a7 l y (.int k n):=by exact rfl)(av:BU op m n=some c:=by exact rfl):bL P l w (.binOp op t x y t') ty (.bool c) w:=by
 cases op<;>simp only [BU,auW,reduceCtorEq]at av<;>subst av
 · exact adw hx aO
 · exact adH hx aO
 · exact adD hx aO
 · exact adC hx aO
 · exact adz hx aO
 · exact ady hx aO
theorem ql{op:BinOp}{k:IntKind}{m n:Int}{c:Bool}{t t' ty:TypeId}(hx:a7 l x (.int k m):=by exact rfl)(aO:a7 l y (.int k n):=by exact rfl)(av:BU op m n=some c:=by exact rfl)(h:c=true:=by first|exact rfl|exact aur bj|exact av'.2 bj|exact axf.2 bj|assumption):bL P l w (.binOp op t x y t') ty (.bool true) w:=qn (ps hx aO av) h
theorem ta{op:BinOp}{k:IntKind}{m n:Int}{c:Bool}{t t' ty:TypeId}(hx:a7 l x (.int k m):=by exact rfl)(aO:a7 l y (.int k n):=by exact rfl)(av:BU op m n=some c:=by exact rfl)(h:c=false:=by first|exact rfl|exact auk bj|exact au8.2 bj|exact avF.2 bj|assumption):bL P l w (.binOp op t x y t') ty (.bool false) w:=qn (ps hx aO av) h
theorem run_equalIn_bool(d:Nat){t:TypeId}(b0:P.underlying t=some .bool)(b c:Bool):(Op.equalIn (d+1) t (.bool b) (.bool c)).run P w=.ok (b==c) w:=by
 simp [Op.equalIn,auf b0]
theorem run_eql_bool{t:TypeId}(b0:P.underlying t=some .bool)(b c:Bool):(binOp .eql t (.bool b) (.bool c)).run P w=.ok (.bool (b==c)) w:=by
 have h:(Op.equal t (.bool b) (.bool c)).run P w=.ok (b==c) w:=run_equalIn_bool 9999 b0 b c;show(do pure (Value.bool (<-Op.equal t (.bool b) (.bool c))):Sem Value).run P w=_;rw [auu,h];rfl
theorem run_neq_bool{t:TypeId}(b0:P.underlying t=some .bool)(b c:Bool):(binOp .neq t (.bool b) (.bool c)).run P w=.ok (.bool (b != c)) w:=by
 have h:(Op.equal t (.bool b) (.bool c)).run P w=.ok (b==c) w:=run_equalIn_bool 9999 b0 b c;show(do pure (Value.bool (!(<-Op.equal t (.bool b) (.bool c)))):Sem Value).run P w=_;rw [auu,h];rfl
theorem adx{b c:Bool}{t:TypeId}(b0:P.underlying t=some .bool)(hx:a7 l x (.bool b):=by exact rfl)(aO:a7 l y (.bool c):=by exact rfl):bL P l w (.binOp .eql t x y t') ty (.bool (b==c)) w:=by
 intro cC aY d pos bx g;simp only [execOp,aY _ _ hx,aY _ _ aO,auu];have e:(eqGuard .eql t x y (.bool b) (.bool c)).run P w=.ok () w:=rfl;rw [e,aun,run_eql_bool b0];rfl
theorem adI{b c:Bool}{t:TypeId}(b0:P.underlying t=some .bool)(hx:a7 l x (.bool b):=by exact rfl)(aO:a7 l y (.bool c):=by exact rfl):bL P l w (.binOp .neq t x y t') ty (.bool (b != c)) w:=by
 intro cC aY d pos bx g;simp only [execOp,aY _ _ hx,aY _ _ aO,auu];have e:(eqGuard .neq t x y (.bool b) (.bool c)).run P w=.ok () w:=rfl;rw [e,aun,run_neq_bool b0];rfl
theorem tc{op:BinOp}{b c r:Bool}{t t' ty:TypeId}(b0:P.underlying t=some .bool)(hx:a7 l x (.bool b):=by exact rfl)(aO:a7 l y (.bool c):=by exact rfl)(aj:(match op with| .eql=>some (b==c)| .neq=>some (b != c)|_=>none)=some r:=by exact rfl):bL P l w (.binOp op t x y t') ty (.bool r) w:=by
 cases op<;>simp only [auW,reduceCtorEq]at aj<;>subst aj
 · exact adx b0 hx aO
 · exact adI b0 hx aO
theorem wi{op:BinOp}{b c r:Bool}{t t' ty:TypeId}(b0:P.underlying t=some .bool)(hx:a7 l x (.bool b):=by exact rfl)(aO:a7 l y (.bool c):=by exact rfl)(aj:(match op with| .eql=>some (b==c)| .neq=>some (b != c)|_=>none)=some r:=by exact rfl)(h:r=true:=by first|exact rfl|exact beq_self_eq_true _|assumption):bL P l w (.binOp op t x y t') ty (.bool true) w:=qn (tc b0 hx aO aj) h
theorem wh{op:BinOp}{b c r:Bool}{t t' ty:TypeId}(b0:P.underlying t=some .bool)(hx:a7 l x (.bool b):=by exact rfl)(aO:a7 l y (.bool c):=by exact rfl)(aj:(match op with| .eql=>some (b==c)| .neq=>some (b != c)|_=>none)=some r:=by exact rfl)(h:r=false:=by first|exact rfl|exact bne_self_eq_false _|assumption):bL P l w (.binOp op t x y t') ty (.bool false) w:=qn (tc b0 hx aO aj) h
theorem q6{a:Option Addr}{n c:Nat}{t ty:TypeId}(b0:P.underlying t=some (.slice e))(hx:a7 l x (.slice a n c):=by exact rfl):
  bL P l w (.call { callee:=.builtin .len,args:=[x].toArray,argTypes:=[t].toArray }) ty (.int .i64 n) w:=by
 intro cC aY d pos bx g;simp [execOp,resolve,invoke,builtin,Builtin.len_,aY _ _ hx,auf b0,goInt]
theorem wk{s:ByteArray}{t ty:TypeId}(b0:P.underlying t=some .string)(hx:a7 l x (.string s):=by exact rfl):
  bL P l w (.call { callee:=.builtin .len,args:=[x].toArray,argTypes:=[t].toArray }) ty (.int .i64 s.size) w:=by
 intro cC aY d pos bx g;simp [execOp,resolve,invoke,builtin,Builtin.len_,aY _ _ hx,auf b0,goInt]
theorem addr_add(b o n:Nat):(⟨b,o,none⟩:Addr).add n=⟨b,o+n,none⟩:=by
 unfold Addr.add;split<;>simp_all
theorem H0{i:Operand}{b o n c:Nat}{k:IntKind}{q:Int}{t ty:TypeId}{s:Nat}(b0:P.underlying t=some (.slice e))(aG:(P.info? e).map (·.size)=some s)(hx:a7 l x (.slice (some ⟨b,o,none⟩) n c):=by exact rfl)(ai:a7 l i (.int k q):=by exact rfl)(aZ:q=(j:Int):=by exact rfl)(ah:j<n:=by omega):
  bL P l w (.indexAddr t x i) ty (.pointer (some ⟨b,o+j*s,none⟩)) w:=by
 intro cC aY d pos bx g;subst aZ;obtain⟨pb,U,ae⟩:=at7.1 aG;have aM:(0:Int)<=(j:Int)/\(j:Int) <(n:Int):=bj
 simp [execOp,Instr.indexAt,asIntOf,aY _ _ hx,aY _ _ ai,auf b0,sizeOf,typeInfo,U,ae,aM,ah,addr_add]
theorem uA{i:Operand}{b o n c:Nat}{k:IntKind}{q:Int}{t ty:TypeId}(b0:P.underlying t=some (.slice e))(aG:(P.info? e).map (·.size)=some 1)(hx:a7 l x (.slice (some ⟨b,o,none⟩) n c):=by exact rfl)(ai:a7 l i (.int k q):=by exact rfl)(aZ:q=(j:Int):=by exact rfl)(ah:j<n:=by omega):
  bL P l w (.indexAddr t x i) ty (.pointer (some ⟨b,o+j,none⟩)) w:=by
 have:=H0 (w:=w) (ty:=ty) b0 aG hx ai aZ ah
 rwa [axE]at this
def pV(d:TypeDesc):Bool:=match d with| .struct _| .array _ _=>false|_=>true
theorem im{t ty:TypeId}(b0:P.underlying t=some h2)(av:w.cell? jF=some v)(U:pV h2=true:=by exact rfl)(hx:a7 l x (.pointer (some jF)):=by exact rfl):
  bL P l w (.load t x) ty v w:=by
 intro cC aY d pos bx g;cases h2<;>simp [pV]at U<;>simp [execOp,Instr.loadAt,Instr.sureAddr,loadVar,isAgg,aY _ _ hx,auf b0,av]
theorem kL(hx:a7 l x (.pointer (some jF)):=by exact rfl):bL P l w (.nilCheck x) ty (.pointer (some jF)) w:=by
 intro cC aY d pos bx g;simp [execOp,aY _ _ hx]
theorem adN{u:Value}{t ty:TypeId}(aG:(P.info? t).map (·.size)=some 1)(ao:v.oneCell'=true)(hx:a7 l x (.pointer (some jF)):=by exact rfl)(aO:a7 l y v:=by exact rfl)(av:w.cell? jF=some u)(bC:w.frozen? jF=false):
  eT P l w (.store t x y) ty (w.setCell jF v):=by
 intro cC aY d pos bx g;obtain⟨pb,U,ae⟩:=at7.1 aG;have la:v.cells=#[v]:=by cases v<;>simp [Value.oneCell']at ao<;>rfl
 have fD:jF.add 0=jF:=by simp [Addr.add]
 simp [execOp,Instr.storeAt,Instr.sureAddr,storeVar,aY _ _ hx,aY _ _ aO,sizeOf,typeInfo,U,ae,la,storeCells,fD,run_store _ _ _ _ _ ao,av,bC]
theorem adr(hx:a7 l x v:=by exact rfl):bL P l w (.box e x) ty (.pointer (some ⟨w.heap.size,0,none⟩)) (w.alloc (.cells v.cells e)):=by
 intro cC aY d pos bx g;simp [execOp,Instr.box,newVar,newRow,aY _ _ hx]
theorem wx{ai:Operand}{n c:Nat}{k:IntKind}{q:Int}{t ty:TypeId}{s:Nat}(b0:P.underlying t=some (.slice e))(aG:(P.info? e).map (·.size)=some s)(hx:a7 l x (.slice ay n c):=by exact rfl)(fa:a7 l ai (.int k q):=by exact rfl)(aZ:q=(j:Int):=by exact rfl)(ah:j<=c:=by omega):
  bL P l w (.slice t x none (some ai) none) ty (.slice ay j c) w:=by
 intro cC aY d pos bx g;subst aZ;obtain⟨pb,U,ae⟩:=at7.1 aG;have aM:(0:Int)<=(j:Int)/\(j:Int)<=(c:Int):=bj
 have bw:(ay.map λx=>x.add 0)=ay:=by cases ay<;>simp [Addr.add]
 simp [execOp,Instr.sliceAt,Instr.slice,Instr.sliceBounds,Instr.sliceBound,asIntOf,aY _ _ hx,aY _ _ fa,auf b0,sizeOf,typeInfo,U,aM,ah,bw]
theorem L3{i:Operand}{s:ByteArray}{k:IntKind}{q:Int}{t ty:TypeId}{b:UInt8}(b0:P.underlying t=some .string)(hb:s[j]? =some b)(hx:a7 l x (.string s):=by exact rfl)(ai:a7 l i (.int k q):=by exact rfl)(aZ:q=(j:Int):=by exact rfl):
  bL P l w (.index t x i) ty (.int .u8 b.toNat) w:=by
 intro cC aY d pos bx g;subst aZ;simp [execOp,Instr.index,asIntOf,aY _ _ hx,aY _ _ ai,auf b0,hb]
theorem ams{t ty:TypeId}(b0:P.underlying t=some h2)(hw:∃n,w'=w.drewN n)(av:w.cell? jF=some v)(U:pV h2=true:=by exact rfl)(hx:a7 l x (.pointer (some jF)):=by exact rfl):
  bL P l w' (.load t x) ty v w':=by
 obtain⟨n,rfl⟩:=hw;exact im b0 av U hx
def ee{α:Type}(w:World)(a:Option Addr)(enc:α->Value)(xs:List α):Prop:=
 ∀i (h:i<xs.length),∃b o,a=some ⟨b,o,none⟩/\w.cell? ⟨b,o+i,none⟩=some (enc xs[i])
theorem ee.below{α:Type}{a:Option Addr}{enc:α->Value}{xs:List α}(h:ee w a enc xs)(hb:Below w.heap.size w w'):ee w' a enc xs:=by
 intro i ai;obtain⟨b,o,ha,av⟩:=h i ai;exact⟨b,o,ha,(hb.cell (p:=⟨b,o+i,none⟩) (aui w _ av)).trans av⟩
end
theorem aF{g i:Nat}{c:Array Value}(h:w.heap[g]? =some (.cells c e pw))(av:c[i]? =some v):w.cell? ⟨g,i,none⟩=some v:=by
 simp [World.cell?,h,av]
theorem Tz{g i:Nat}{c:Array Value}(h:w.heap[g]? =some (.cells c e (0,0))):w.frozen? ⟨g,i,none⟩=false:=by
 simp [World.frozen?,h]
theorem bO{g:Nat}{o:Obj}(h:w.heap[g]? =some o):g<w.heap.size:=(auY.1 h).1
theorem Below.at{B:Nat}(h:Below B w w'){g:Nat}{o:Obj}(az:w.heap[g]? =some o)(aH:g<B):w'.heap[g]? =some o:=(h.block g aH).trans az
theorem cW{base:Nat}{s:Nat}{n:Nat}(h:w.ownsRow base e s v n xs)(hb:Below w.heap.size w w'):w'.ownsRow base e s v n xs:=
 h.kept (row:=none) ⟨hb.os,hb.tape,hb.output,hb.size,λk au _=>hb.block k au⟩ (ayf _)
theorem TN{w'':World}{r:Option Nat}(h:w.grownBy w' r)(k:w'.grownBy w'' r):w.grownBy w'' r:=
 ⟨k.os.trans h.os,k.tape.trans h.tape,k.output.trans h.output,atN h.size k.size,λi ai b5=>(k.block i (auj ai h.size) b5).trans (h.block i ai b5)⟩
theorem gH{base:Nat}{s:Nat}{n:Nat}(h:w.ownsRow base e s v n xs){r:Option Nat}(an:w.grownBy w' r)(b5:v.ownBlock≠r):w'.ownsRow base e s v n xs:=h.kept an (Or.inr b5)
theorem A7{base:Nat}{s:Nat}{n:Nat}(h:w.ownsRow base e s v n xs)(an:w.grownBy w' none):w'.ownsRow base e s v n xs:=h.kept an (ayf _)
theorem aD{g:Nat}{o:Obj}{r:Option Nat}(h:w.heap[g]? =some o)(an:w.grownBy w' r)(b5:some g≠r):w'.heap[g]? =some o:=(an.block g (bO h) b5).trans h
theorem tW{base:Nat}{s:Nat}{n:Nat}(h:w.ownsRow base e s v n xs):∃ay cap,v=.slice ay n cap/\n<=cap/\cap<=maxLen:=by
 rcases h.2 with ⟨rfl,rfl⟩|⟨g,cap,cur,rfl,_,_,U,ae,_⟩
 · exact⟨none,0,rfl,atI _,auc _⟩
 · exact⟨_,cap,rfl,U,ae⟩
theorem nL{α:Type}{base:Nat}{cap n:Nat}{enc:α->Value}{xs:List α}(h:w.ownsRow base e 1 (.slice ay n cap) n (xs.map enc)):xs.length=n/\ee w ay enc xs:=by
 have aN:xs.length=n:=by simpa using h.1
 refine⟨aN,λi ai=>?_⟩;rcases h.2 with ⟨U,ae⟩|⟨g,ev,cur,U,_,aM,cc,gA,gM,jc⟩
 · omega
 · cases U
   refine⟨g,0,rfl,aF aM ?_⟩;have bw:(cur.toList.take (n*1))[i]? =some (enc xs[i]):=by rw [jc];simp [ai]
   rw [axg bj]at bw;simpa using bw
theorem nM{base:Nat}{s:Nat}{cap n:Nat}(h:w.ownsRow base e s (.slice ay n cap) n xs)(ba:0<n):∃g,ay=some ⟨g,0,none⟩/\base<=g:=by
 rcases h.2 with ⟨_,ae⟩|⟨g,ev,cur,U,ae,_⟩
 · omega
 · cases U;exact⟨g,rfl,ae⟩
theorem alX{base:Nat}{s:Nat}{cap n:Nat}(h:w.ownsRow base e s (.slice ay n cap) n xs):n<=cap/\cap<=maxLen:=by
 obtain⟨_,_,U,ae,aM⟩:=tW h;cases U;exact⟨ae,aM⟩
theorem j0{B:Nat}{cy:World}{s:Nat}{n:Nat}(hb:Below B cy w)(aH:B<=w.heap.size)(aX:w.ownsRow B e s v n xs)(an:w.grownBy w' v.ownBlock):Below B cy w':=
 hb.grown an aH λk au=>(aX.lt k au).1
theorem S9{k n x q:Int}(aJ:0<=x)(U:x<n)(aI:k=x+n*q):k%n=x:=by
 subst aI;rw [Int.add_mul_emod_self_left,Int.emod_eq_of_lt aJ U]
theorem jk{base:Nat}{e':TypeId}{s:Nat}{n:Nat}(h:w.ownsRow base e s v n xs){g:Nat}{c:Array Value}(az:w.heap[g]? =some (.cells c e' pw))(b5:e≠e'):some g≠v.ownBlock:=by
 rcases h.2 with ⟨rfl,_⟩|⟨jx,cap,cur,rfl,_,U,_⟩
 · simp [Value.ownBlock]
 · intro x;simp only [Value.ownBlock,auW]at x;subst x;rw [az]at U;cases U
   exact b5 rfl
section
variable {P:Program} {ops:Array Oper} {Q:Exit->Act->World->Prop} {a:Act} {w w':World} {rest:List Oper} {N:Nat} {l:List (Nat × Value)}
theorem q5{t:TypeId}{fQ:Nat}(b0:P.underlying t=some (.slice e))(ai:(P.info? e).map (λi=>(i.zero,i.size,i.bytes))=some (some z,1,fQ))(ao:v.cells=#[v])(hx:a7 l x v:=by exact rfl):bL P l w (.buildSlice t 1 [(0,x)].toArray) ty (.slice (some ⟨w.heap.size,0,none⟩) 1 1) (w.alloc (.cells #[v] e)):=by
 intro cC aY d pos bx g;obtain⟨i,U,ae,aM,cc⟩:=avH ai;have bw:(Array.map (λx=>z.cells[x%z.cells.size]!) (Array.range 1)).size=1:=bl
 obtain⟨u,hu⟩:∃u,(Array.map (λx=>z.cells[x%z.cells.size]!) (Array.range 1))=#[u]:=by
  generalize (Array.map (λx=>z.cells[x%z.cells.size]!) (Array.range 1))=A at bw
  match A,bw with
  |⟨[u]⟩,_=>exact⟨u,rfl⟩
 simp [execOp,Instr.buildSlice,aY _ _ hx,auf b0,sizeOf,typeInfo,zeroValue,U,ae,aM,Instr.fill,ao,newRow,hu]
theorem vJ(h:Fr N l a){s:Operand}{u:Value}{t ty DY:TypeId}{pos pos':String}{bx BL:Array Edge}{bytes n base cap:Nat}(b0:P.underlying t=some (.slice e))(ai:(P.info? e).map (λi=>(i.zero,i.size,i.bytes))=some (some z,1,bytes))(bA:z.cells.size=1)(aX:w.ownsRow base e 1 (.slice ay n cap) n xs)(lM:(n+1)*bytes<=140737488355328)(hm:n+1<=maxLen)(mm:base<=w.heap.size)(hx:a7 l x u:=by exact rfl)(aG:a7 ((d,.slice (some ⟨w.heap.size,0,none⟩) 1 1)::l) s (.slice ay n cap):=by exact rfl)(aI:Nat.blt d N=true:=by exact rfl)(pG:Nat.blt q4 N=true:=by exact rfl)(hu:u.oneCell'=true:=by exact rfl)(k:∀aU ej ev w',w'.ownsRow base e 1 (.slice ej (n+1) ev) (n+1) (xs++ [u])->w.grownBy w' (Value.slice ay n cap).ownBlock->Fr N ((q4,.slice ej (n+1) ev)::(d,.slice (some ⟨w.heap.size,0,none⟩) 1 1)::l) aU->wpList P ops Q rest aU w'):
   wpList P ops Q (⟨some d,.buildSlice t 1 [(0,x)].toArray,ty,pos,bx,none⟩::⟨some q4,.call { callee:=.builtin .append,args:=[s,.tmp d].toArray,argTypes:=[t,t].toArray },DY,pos',BL,none⟩::rest) a w:=by
 have ao:u.cells=#[u]:=by cases u<;>simp [Value.oneCell']at hu<;>rfl
 refine st h (q5 b0 ai ao hx) aI λe6 U=>?_;obtain⟨i,g1,g2,g3,g4⟩:=avH ai;have tz:e6.eval (.tmp d)=.slice (some ⟨w.heap.size,0,none⟩) 1 1:=U.eval _ _ (by simp [a7,Da]);refine ayC _ rfl s (.tmp d) t rfl base e i z 1 bytes b0 g1 g2 g3 g4 bA bk (.slice ay n cap) n xs (U.eval _ _ aG) (aX.alloc _)
   ⟨w.heap.size,0,none⟩ 1 1 [u] tz rfl ?_ ?_ hm lM bm ?_
 · intro j v ah
   match j,ah with
   | 0,ah=>
    simp at ah;subst ah;simp [Addr.add]
 · intro v ao;simp at ao;subst ao;exact hu
 · intro iy w' mr an CM;obtain⟨ej,ev,rfl,_,_⟩:=tW mr;refine k _ ej ev w' mr ?_ (U.put pG _);exact⟨an.os,an.tape,an.output,by have:=an.size;simp at this;omega,λk au b5=>by rw [an.block k bm b5];exact axV _ _ _ au⟩
theorem aoF(h:Fr N l a){t ty:TypeId}{pos:String}{bx:Array Edge}{bytes c base:Nat}{q:Int}(b0:P.underlying t=some (.slice e))(ai:(P.info? e).map (λi=>(i.zero,i.size,i.bytes))=some (some z,1,bytes))(lM:bytes*c<=281474976710656)(hm:c<=maxLen)(mm:base<=w.heap.size)(aZ:q=(c:Int))(hx:a7 l x (.int AU 0):=by exact rfl)(aO:a7 l y (.int ky q):=by exact rfl)(aI:Nat.blt d N=true:=by exact rfl)(k:∀aU w',w'.ownsRow base e 1 (.slice (some ⟨w.heap.size,0,none⟩) 0 c) 0 []->w.grownBy w' none->Fr N ((d,.slice (some ⟨w.heap.size,0,none⟩) 0 c)::l) aU->wpList P ops Q rest aU w'):
  wpList P ops Q (⟨some d,.makeSlice t x y,ty,pos,bx,none⟩::rest) a w:=by
 obtain⟨i,g1,g2,g3,g4⟩:=avH ai;subst aZ;obtain⟨w',aj,U,ae⟩:=run_make_own (P:=P) w base t e i z 1 b0 g1 g2 g3 AU ky c (by rw [g4];exact lM) hm mm;refine st h (v:=.slice (some ⟨w.heap.size,0,none⟩) 0 c) (w':=w') ?_ aI λaU I=>k aU w' U ae I;intro cC aY d pos bx g;simp [execOp,aY _ _ hx,aY _ _ aO,aj]
theorem oJ(h:Fr N l a){t ty:TypeId}{pos:String}{bx:Array Edge}{bytes c base:Nat}{q:Int}(b0:P.underlying t=some (.slice e))(ai:(P.info? e).map (λi=>(i.zero,i.size,i.bytes))=some (some z,1,bytes))(bA:z.cells=#[z])(lM:bytes*c<=281474976710656)(hm:c<=maxLen)(mm:base<=w.heap.size)(aZ:q=(c:Int))(hx:a7 l x (.int AU q):=by exact rfl)(aO:a7 l y (.int ky q):=by exact rfl)(aI:Nat.blt d N=true:=by exact rfl)(k:∀aU w',w'.ownsRow base e 1 (.slice (some ⟨w.heap.size,0,none⟩) c c) c (List.replicate c z)->w.grownBy w' none->Fr N ((d,.slice (some ⟨w.heap.size,0,none⟩) c c)::l) aU->wpList P ops Q rest aU w'):
  wpList P ops Q (⟨some d,.makeSlice t x y,ty,pos,bx,none⟩::rest) a w:=by
 obtain⟨i,g1,g2,g3,g4⟩:=avH ai;subst aZ;obtain⟨w',aj,U,ae⟩:=run_make_full (P:=P) w base t e i z 1 b0 g1 g2 g3 AU ky c (by rw [g4];exact lM) hm mm;rw [bA,axE,toList_madeCells_one]at U;refine st h (v:=.slice (some ⟨w.heap.size,0,none⟩) c c) (w':=w') ?_ aI λaU I=>k aU w' U ae I;intro cC aY d pos bx g;simp [execOp,aY _ _ hx,aY _ _ aO,aj]
theorem adq{s fQ:Nat}(ai:(P.info? e).map (λi=>(i.zero,i.size,i.bytes))=some (some z,s,fQ)):bL P l w (.alloc e) ty (.pointer (some ⟨w.heap.size,0,none⟩)) (w.alloc (.cells z.cells e)):=by
 intro cC aY d pos bx g;obtain⟨i,U,ae,aM,cc⟩:=avH ai;simp [execOp,Instr.alloc,zeroValue,typeInfo,U,ae,newVar,newRow]
theorem DP(h:Fr N l a){ty:TypeId}{pos:String}{bx:Array Edge}{s fQ:Nat}(ai:(P.info? e).map (λi=>(i.zero,i.size,i.bytes))=some (some z,s,fQ))(aI:Nat.blt d N=true:=by exact rfl)(k:∀aU w',w'.heap[w.heap.size]? =some (.cells z.cells e (0,0))->w.grownBy w' none->w'.heap.size=w.heap.size+1->Fr N ((d,.pointer (some ⟨w.heap.size,0,none⟩))::l) aU->wpList P ops Q rest aU w'):
  wpList P ops Q (⟨some d,.alloc e,ty,pos,bx,none⟩::rest) a w:=
 st h (adq ai) aI λaU I=>k aU _ (auE w _) (auw _ _ _) bl I
def rV(l:List (Nat × Value)):List (Nat × Operand)->List (Nat × Value)->Prop
 | [],[]=>True
 |x::xs,v::vs=>x.1=v.1/\a7 l x.2 v.2/\rV l xs vs
 |_,_=>False
theorem rV.map(aY:x0 cC l):∀{xs:List (Nat × Operand)} {vs:List (Nat × Value)},rV l xs vs->xs.map (λp=>(p.1,cC p.2))=vs
 | [],[],_=>rfl
 |x::xs,v::vs,h=>by rw [axl,aY _ _ h.2.1,rV.map aY h.2.2,h.1]
 | [],_::_,h=>h.elim
 |_::_,[],h=>h.elim
theorem cA{t:TypeId}{vs:List (Nat × Value)}{cells:Array Value}(hb:P.built t vs=some cells)(ao:rV l aR vs):bL P l w (.build t aR.toArray) ty (.agg cells) w:=by
 intro cC aY d pos bx g;have bw:=rV.map aY ao;have aj:=run_build (P:=P) w t vs.toArray cells (by simpa using hb);simp only [execOp,awy,auu];rw [bw,aj];rfl
theorem dX(h:Fr N l a){g:Nat}{cs c:Array Value}{t ty:TypeId}{pos:String}{bx:Array Edge}{n:Nat}(aG:(P.info? t).map (·.size)=some n)(ba:cs.size=n)(av:c.size=n)(az:w.heap[g]? =some (.cells c e (0,0)))(ao:∀v∈cs,v.oneCell'=true)(hx:a7 l x (.pointer (some ⟨g,0,none⟩)):=by exact rfl)(aO:a7 l y (.agg cs):=by exact rfl)(k:∀aU w',w'.heap[g]? =some (.cells cs e (0,0))->w.grownBy w' (some g)->w'.heap.size=w.heap.size->Fr N l aU->wpList P ops Q rest aU w'):
   wpList P ops Q (⟨none,.store t x y,ty,pos,bx,none⟩::rest) a w:=by
 subst ba;have aj:=run_storeCells_at (P:=P) g 0 e cs.toList 0 c w az bm (by simpa using ao);refine gv h (w':=w.setRow g (c.toList.take (0+0)++cs.toList++c.toList.drop (0+0+cs.toList.length)).toArray) ?_ rfl λaU I=>k aU _ ?_ ?_ (by simp [World.setRow]) I
 · intro cC aY d pos bx ae6;obtain⟨pb,U,ae⟩:=at7.1 aG;have la:(Value.agg cs).cells=cs:=rfl;simp [execOp,Instr.storeAt,Instr.sureAddr,storeVar,aY _ _ hx,aY _ _ aO,sizeOf,typeInfo,U,ae,la,aj]
 · rw [setRow_heap w g c _ e _ az];have:List.drop cs.size c.toList=[]:=ava (by simp [av]);simp [this]
 · exact⟨rfl,rfl,rfl,by simp [World.setRow],λk au b5=>setRow_other w g k _ (by intro e;exact b5 (by rw [e]))⟩
def La(P:Program)(s f off uL:Nat):Prop:=∃fields fd,P.underlying s=some (.struct fields)/\fields[f]? =some fd/\fd.offset=off/\fd.type=uL
theorem km{b o s f off uL z:Nat}{ty:TypeId}(bC:La P s f off uL)(aG:(P.info? uL).map (·.size)=some z)(bA:z≠0:=by decide)(hx:a7 l x (.pointer (some ⟨b,o,none⟩)):=by exact rfl):
  bL P l w (.fieldAddr s x f) ty (.pointer (some ⟨b,o+off,none⟩)) w:=by
 intro cC aY d pos bx g;obtain⟨fields,fd,U,ae,rfl,rfl⟩:=bC;obtain⟨pb,aM,cc⟩:=at7.1 aG;simp [execOp,Instr.fieldAt,Instr.sureAddr,fieldPlace,aY _ _ hx,auf U,ae,sizeOf,typeInfo,aM,cc,bA,addr_add]
theorem cr(h:Fr N l a){g i:Nat}{c:Array Value}{t ty:TypeId}{pos:String}{bx:Array Edge}(aG:(P.info? t).map (·.size)=some 1)(az:w.heap[g]? =some (.cells c e (0,0)))(ai:i<c.size)(ao:v.oneCell'=true)(hx:a7 l x (.pointer (some ⟨g,i,none⟩)):=by exact rfl)(aO:a7 l y v:=by exact rfl)(k:∀aU w',w'.heap[g]? =some (.cells (c.setIfInBounds i v) e (0,0))->w.grownBy w' (some g)->w'.heap.size=w.heap.size->Fr N l aU->wpList P ops Q rest aU w'):
   wpList P ops Q (⟨none,.store t x y,ty,pos,bx,none⟩::rest) a w:=by
 refine gv h (adN aG ao hx aO (aF az (ayv ai)) (Tz az)) rfl λaU I=>k aU _ ?_ ?_ bl I
 · simp [World.setCell,axP,az]
 · exact⟨rfl,rfl,rfl,bl,λk au b5=>by
    simp only [World.setCell,axP];rw [atK (λe=>b5 (by rw [e]))]⟩
end
section
open Go.ChangeShapes Go.WideShapes Go.ChangeAt Go.Deep
section
variable {H:Type} {enc:TypeId × Value->H} {P:Program} {w:World} {base:Nat} {held:Bool}
theorem aov{a:Addr}(h:w.cell? a=some v):a=⟨a.block,a.off,none⟩:=by
 cases a with
 |mk b o s=>
  cases s with
  |none=>rfl
  |some s=>
   simp only [World.cell?]at h;cases hb:w.heap[b]? with
   |none=>simp [hb]at h
   |some vz=>cases vz<;>simp [hb]at h
theorem PU{t:TypeId}{k:IntKind}{a:Option Addr}{len cap:Nat}{d:DataW H}{aR:List MemPlace}(bW:P.underlying t=some (.slice e))(he:P.underlying e=some (.int k))(av:P.cellsOf e=1)(h:DataW.Trod enc P w base (λ_=>true) held t (.slice a len cap) d aR):∃xs:List Int,xs.length=len/\len<=cap/\cap<=maxLen/\ee w a (.int k) xs/\∀x∈xs,(Lit.int k x).wf=true:=by
 obtain⟨fuel,bC⟩:=h;rcases open_ints bW he av bC with ⟨la,_⟩|⟨x,l,c,cg,la,_,aN,hm,bA,_,Cs,o3⟩
 · simp [Value.cells]at la;obtain⟨rfl,rfl,rfl⟩:=la;exact⟨[],rfl,atI _,auc _,λi ai=>absurd ai (auv _),bl⟩
 · simp [Value.cells]at la;obtain⟨rfl,rfl,rfl⟩:=la;simp at bA;refine⟨cg.take len,bm,aN,hm,λi ai=>?_,λy aO=>o3 y (awW aO)⟩;have h4:i<len:=by simp at ai;omega
   have aJ:=Cs 0 bj;have aG:=aov aJ;have fD:x.add 0=x:=by simp [Addr.add]
   rw [fD]at aG;refine⟨x.block,x.off,by rw [<-aG],?_⟩;have U:=Cs i bj;rw [aG,addr_add]at U;rw [U];have:i<cg.length:=bj
   simp [List.getElem_take,List.getD,this]
end
end
section
variable {P:Program} {ops:Array Oper} {Q:Exit->Act->World->Prop} {a:Act} {w w':World} {rest:List Oper} {N:Nat} {l:List (Nat × Value)}
def yP:Value->Option Bool
 | .nilIface=>some true
 | .iface _ _=>some false
 |_=>none
theorem Y7(d:Nat){t:TypeId}{b:Bool}(b0:∃ms,P.underlying t=some (.interface ms))(ao:yP v=some b):(Op.equalIn (d+1) t v .nilIface).run P w=.ok b w:=by
 obtain⟨ms,b0⟩:=b0;cases v<;>simp [yP]at ao<;>subst ao<;>simp [Op.equalIn,auf b0]
theorem anH{t:TypeId}{b:Bool}(b0:∃ms,P.underlying t=some (.interface ms))(ao:yP v=some b):(binOp .eql t v .nilIface).run P w=.ok (.bool b) w:=by
 have h:(Op.equal t v .nilIface).run P w=.ok b w:=Y7 9999 b0 ao;cases v<;>simp [yP]at ao
 all_goals
  show(do pure (Value.bool (<-Op.equal t _ .nilIface)):Sem Value).run P w=_;rw [auu,h];rfl
theorem anK{t:TypeId}{b:Bool}(b0:∃ms,P.underlying t=some (.interface ms))(ao:yP v=some b):(binOp .neq t v .nilIface).run P w=.ok (.bool (!b)) w:=by
 have h:(Op.equal t v .nilIface).run P w=.ok b w:=Y7 9999 b0 ao;cases v<;>simp [yP]at ao
 all_goals
  show(do pure (Value.bool (!(<-Op.equal t _ .nilIface))):Sem Value).run P w=_;rw [auu,h];rfl
theorem Y5{op:BinOp}{t:TypeId}:(eqGuard op t x (.const .nilIface) v .nilIface).run P w=.ok () w:=by
 unfold eqGuard;cases op<;>cases v<;>first|rfl|simp
theorem wc{b:Bool}{t:TypeId}(b0:∃ms,P.underlying t=some (.interface ms))(hx:a7 l x v:=by exact rfl)(ao:yP v=some b:=by exact rfl):bL P l w (.binOp .eql t x (.const .nilIface) t') ty (.bool b) w:=by
 intro cC aY d pos bx g;have bw:cC (.const .nilIface)=.nilIface:=aY _ _ rfl;simp only [execOp,aY _ _ hx,bw,auu,Y5,aun,anH b0 ao];rfl
theorem wo{b c:Bool}{t:TypeId}(b0:∃ms,P.underlying t=some (.interface ms))(hx:a7 l x v:=by exact rfl)(ao:yP v=some b:=by exact rfl)(av:(!b)=c:=by exact rfl):bL P l w (.binOp .neq t x (.const .nilIface) t') ty (.bool c) w:=by
 intro cC aY d pos bx g;subst av;have bw:cC (.const .nilIface)=.nilIface:=aY _ _ rfl;simp only [execOp,aY _ _ hx,bw,auu,Y5,aun,anK b0 ao];rfl
def Ex(d:TypeDesc):Bool:=match d with| .interface _=>false|_=>true
theorem uB{t:TypeId}(b0:(P.underlying t).map Ex=some true)(hx:a7 l x v:=by exact rfl):bL P l w (.makeInterface t x) ty (.iface t v) w:=by
 intro cC aY d pos bx g;obtain⟨h2,U,ae⟩:=at7.1 b0;cases h2<;>simp [Ex]at ae<;>simp [execOp,Instr.makeInterface,aY _ _ hx,auf U]
theorem wj{vs:Array Value}{k:Nat}(hx:a7 l x (.tuple vs):=by exact rfl)(ao:vs[k]? =some v:=by exact rfl):bL P l w (.extract x k) ty v w:=by
 intro cC aY d pos bx g;simp [execOp,Instr.extract,aY _ _ hx,ao]
theorem run_sliceBound{k:IntKind}{y:Nat}{c:BoundsCode}(h:j<=y):(Instr.sliceBound (.int k (j:Int)) y c).run P w=.ok j w:=by
 have aM:(0:Int)<=(j:Int)/\(j:Int)<=(y:Int):=bj
 simp [Instr.sliceBound,asIntOf,aM,h]
theorem wy{ai:Operand}{n c m:Nat}{k:IntKind}{q:Int}{t ty:TypeId}{s:Nat}(b0:P.underlying t=some (.slice e))(aG:(P.info? e).map (·.size)=some s)(hx:a7 l x (.slice ay n c):=by exact rfl)(fa:a7 l ai (.int k q):=by exact rfl)(hm:a7 l iW (.int cS eL):=by exact rfl)(aZ:q=(j:Int):=by exact rfl)(pL:eL=(m:Int):=by exact rfl)(ah:j<=m:=by omega)(tE:m<=c:=by omega):
  bL P l w (.slice t x none (some ai) (some iW)) ty (.slice ay j m) w:=by
 intro cC aY d pos bx g;subst aZ;subst pL;obtain⟨pb,U,ae⟩:=at7.1 aG;have bw:(ay.map λx=>x.add 0)=ay:=by cases ay<;>simp [Addr.add]
 simp [execOp,Instr.sliceAt,Instr.slice,Instr.sliceBounds,run_sliceBound ah,run_sliceBound tE,aY _ _ hx,aY _ _ fa,aY _ _ hm,auf b0,sizeOf,typeInfo,U,bw]
theorem wz{bq ai:Operand}{n c i m:Nat}{k:IntKind}{q:Int}{t ty:TypeId}{s:Nat}(b0:P.underlying t=some (.slice e))(aG:(P.info? e).map (·.size)=some s)(hx:a7 l x (.slice ay n c):=by exact rfl)(aN:a7 l bq (.int xn pY):=by exact rfl)(fa:a7 l ai (.int k q):=by exact rfl)(hm:a7 l iW (.int cS eL):=by exact rfl)(aZ:q=(j:Int):=by exact rfl)(pL:eL=(m:Int):=by exact rfl)(tF:pY=(i:Int):=by exact rfl)(h4:i<=j:=by omega)(ah:j<=m:=by omega)(tE:m<=c:=by omega):
  bL P l w (.slice t x (some bq) (some ai) (some iW)) ty (.slice (if m=i then ay else ay.map (·.add (i*s))) (j - i) (m - i)) w:=by
 intro cC aY d pos bx g;subst aZ;subst pL;subst tF;obtain⟨pb,U,ae⟩:=at7.1 aG;simp [execOp,Instr.sliceAt,Instr.slice,Instr.sliceBounds,run_sliceBound ah,run_sliceBound tE,run_sliceBound h4,aY _ _ hx,aY _ _ aN,aY _ _ fa,aY _ _ hm,auf b0,sizeOf,typeInfo,U,ae]
theorem r7{bq:Operand}{n c i:Nat}{t ty:TypeId}{s:Nat}(b0:P.underlying t=some (.slice e))(aG:(P.info? e).map (·.size)=some s)(hx:a7 l x (.slice ay n c):=by exact rfl)(aN:a7 l bq (.int xn pY):=by exact rfl)(tF:pY=(i:Int):=by exact rfl)(h4:i<=n:=by omega):
  bL P l w (.slice t x (some bq) none none) ty (.slice (if c=i then ay else ay.map (·.add (i*s))) (n - i) (c - i)) w:=by
 intro cC aY d pos bx g;subst tF;obtain⟨pb,U,ae⟩:=at7.1 aG;simp [execOp,Instr.sliceAt,Instr.slice,Instr.sliceBounds,run_sliceBound h4,aY _ _ hx,aY _ _ aN,auf b0,sizeOf,typeInfo,U,ae]
theorem SM{bq:Operand}{s:ByteArray}{i:Nat}{t ty:TypeId}(b0:P.underlying t=some .string)(hx:a7 l x (.string s):=by exact rfl)(aN:a7 l bq (.int xn pY):=by exact rfl)(tF:pY=(i:Int):=by exact rfl)(h4:i<=s.size:=by omega):
  bL P l w (.slice t x (some bq) none none) ty (.string (s.extract i s.size)) w:=by
 intro cC aY d pos bx g;subst tF;simp [execOp,Instr.sliceAt,Instr.slice,Instr.sliceBounds,run_sliceBound h4,aY _ _ hx,aY _ _ aN,auf b0]
end
def kh(w:World)(r:Nat)(s:ByteArray)(pos:Nat):Prop:=w.heap[r]? =some (.stringIter s pos)
theorem WY{r:Nat}{s:ByteArray}{pos:Nat}{q:Option Nat}(h:kh w r s pos)(an:w.grownBy w' q)(b5:some r≠q):kh w' r s pos:=aD h an b5
theorem width_pos(s:ByteArray)(pos:Nat)(h:pos<s.size):1<=(Utf8.decode s pos).2:=by
 by_cases ha:(s[pos]'h).toNat<128
 · rw [decode_ascii s pos h ha];exact atI _
 · exact(decode_high s pos h bj).2
section
variable {P:Program} {ops:Array Oper} {Q:Exit->Act->World->Prop} {a:Act} {w w':World} {rest:List Oper} {N:Nat} {l:List (Nat × Value)}
theorem zl(h:Fr N l a){t ty:TypeId}{pos:String}{bx:Array Edge}{s:ByteArray}(b0:P.underlying t=some .string)(hx:a7 l x (.string s):=by exact rfl)(aI:Nat.blt d N=true:=by exact rfl)(k:∀aU w',kh w' w.heap.size s 0->w.grownBy w' none->w'.heap.size=w.heap.size+1->Fr N ((d,.pointer (some ⟨w.heap.size,0,none⟩))::l) aU->wpList P ops Q rest aU w'):
  wpList P ops Q (⟨some d,.range t x,ty,pos,bx,none⟩::rest) a w:=
 st h (v:=.pointer (some ⟨w.heap.size,0,none⟩)) (w':=w.iter s 0) (by intro cC aY d pos bx g;simp [execOp,aY _ _ hx,run_range_string w t s b0]) aI
  λaU I=>k aU _ (World.iter_heap w s 0) (auw _ _ _) (by simp [World.iter]) I
theorem an9(w:World)(r:Nat)(o my:Obj)(h:w.heap[r]? =some my):({ w with heap:=w.heap.setIfInBounds r o }:World).heap[r]? =some o:=by
 have:=bO h;simp [this]
theorem zj(h:Fr N l a){r:Nat}{ty:TypeId}{pos:String}{bx:Array Edge}{s:ByteArray}{p:Nat}(az:kh w r s p)(aW:p<s.size)(hx:a7 l x (.pointer (some ⟨r,0,none⟩)):=by exact rfl)(aI:Nat.blt d N=true:=by exact rfl)(k:∀aU w',kh w' r s (p+(Utf8.decode s p).2)->w.grownBy w' (some r)->w'.heap.size=w.heap.size->Fr N ((d,.tuple #[.bool true,.int .i64 p,.int .i32 (Utf8.decode s p).1])::l) aU->wpList P ops Q rest aU w'):
  wpList P ops Q (⟨some d,.next x true,ty,pos,bx,none⟩::rest) a w:=by
 have o1:w.heap[r]? =some (.stringIter s p):=az;refine st h (v:=.tuple #[.bool true,.int .i64 p,.int .i32 (Utf8.decode s p).1]) (w':={ w with heap:=w.heap.setIfInBounds r (.stringIter s (p+(Utf8.decode s p).2)) }) ?_ aI
  λaU I=>k aU _ (an9 w r _ _ o1) ⟨rfl,rfl,rfl,bl,λk _ b5=>by
   show(w.heap.setIfInBounds r _)[k]? =_;rw [axD (λe=>b5 (by rw [e]))]⟩ bl I
 intro cC aY d pos bx g;simp only [execOp,aY _ _ hx,Instr.next,getObj,setObj,auu,Sem.run,o1,Result.andThen,aW,ayw];simp [goInt]
theorem Bm(h:Fr N l a){r:Nat}{ty:TypeId}{pos:String}{bx:Array Edge}{s:ByteArray}{p:Nat}(az:kh w r s p)(aW:¬p<s.size)(hx:a7 l x (.pointer (some ⟨r,0,none⟩)):=by exact rfl)(aI:Nat.blt d N=true:=by exact rfl)(k:∀aU,Fr N ((d,.tuple #[.bool false])::l) aU->wpList P ops Q rest aU w):
  wpList P ops Q (⟨some d,.next x true,ty,pos,bx,none⟩::rest) a w:=by
 have o1:w.heap[r]? =some (.stringIter s p):=az;refine st h (v:=.tuple #[.bool false]) (w':=w) ?_ aI λaU I=>k aU I;intro cC aY d pos bx g;simp [execOp,aY _ _ hx,Instr.next,getObj,Sem.run,o1,aW]
theorem Tf(s u:ByteArray):(s.toList==u.toList)=decide (s=u):=by
 rw [ay2,ay2,axm];simp [ByteArray.ext_iff,ayX]
theorem anI(t:TypeId)(s u:ByteArray):(binOp .eql t (.string s) (.string u)).run P w=.ok (.bool (decide (s=u))) w:=by rw [binOp_string_eql,Tf];rfl
theorem anL(t:TypeId)(s u:ByteArray):(binOp .neq t (.string s) (.string u)).run P w=.ok (.bool (!decide (s=u))) w:=by rw [binOp_string_neq,Tf];rfl
theorem tb{op:BinOp}{s u:ByteArray}{b:Bool}{t:TypeId}(hx:a7 l x (.string s):=by exact rfl)(aO:a7 l y (.string u):=by exact rfl)(hb:(match op with| .eql=>some (decide (s=u))| .neq=>some (!decide (s=u))|_=>none)=some b:=by exact rfl):bL P l w (.binOp op t x y t') ty (.bool b) w:=by
 intro cC aY d pos bx g;cases op<;>simp only [auW,reduceCtorEq]at hb<;>subst hb
 · simp only [execOp,aY _ _ hx,aY _ _ aO,auu];have e:(eqGuard .eql t x y (.string s) (.string u)).run P w=.ok () w:=rfl;rw [e,aun,anI];rfl
 · simp only [execOp,aY _ _ hx,aY _ _ aO,auu];have e:(eqGuard .neq t x y (.string s) (.string u)).run P w=.ok () w:=rfl;rw [e,aun,anL];rfl
theorem wg{op:BinOp}{s u:ByteArray}{b:Bool}{t t' ty:TypeId}(hx:a7 l x (.string s):=by exact rfl)(aO:a7 l y (.string u):=by exact rfl)(hb:(match op with| .eql=>some (decide (s=u))| .neq=>some (!decide (s=u))|_=>none)=some b:=by exact rfl)(h:b=true:=by first|exact rfl|exact aur rfl|assumption):bL P l w (.binOp op t x y t') ty (.bool true) w:=qn (tb hx aO hb) h
theorem we{op:BinOp}{s u:ByteArray}{b:Bool}{t t' ty:TypeId}(hx:a7 l x (.string s):=by exact rfl)(aO:a7 l y (.string u):=by exact rfl)(hb:(match op with| .eql=>some (decide (s=u))| .neq=>some (!decide (s=u))|_=>none)=some b:=by exact rfl)(h:b=false:=by first|exact rfl|assumption):bL P l w (.binOp op t x y t') ty (.bool false) w:=qn (tb hx aO hb) h
theorem DR(h:Fr N l a){op:BinOp}{t t' ty:TypeId}{pos:String}{bx:Array Edge}{k:IntKind}{m n:Int}{c:Bool}(hx:a7 l x (.int k m):=by exact rfl)(aO:a7 l y (.int k n):=by exact rfl)(av:BU op m n=some c:=by exact rfl)(aI:Nat.blt d N=true:=by exact rfl)(o5:c=true->∀aU,Fr N ((d,.bool true)::l) aU->wpList P ops Q rest aU w)(mx:c=false->∀aU,Fr N ((d,.bool false)::l) aU->wpList P ops Q rest aU w):
  wpList P ops Q (⟨some d,.binOp op t x y t',ty,pos,bx,none⟩::rest) a w:=by
 cases e:c with
 |true=>exact st h (qn (ps hx aO av) e) aI (o5 e)
 |false=>exact st h (qn (ps hx aO av) e) aI (mx e)
theorem Bn(h:Fr N l a){op:BinOp}{t t' ty:TypeId}{pos:String}{bx:Array Edge}{k:IntKind}{m n:Int}{c:Bool}{e:Nat}{b:Bool}(ah:(ops[j]?).bind (·.dst)=some e:=by exact rfl)(hb:look l e=some (.bool b):=by exact rfl)(hx:a7 l x (.int k m):=by exact rfl)(aO:a7 l y (.int k n):=by exact rfl)(av:BU op m n=some c:=by exact rfl)(aI:Nat.blt d N=true:=by exact rfl)(o5:c=true->∀aU,Fr N ((d,.bool true)::l) aU->wpList P ops Q rest aU w)(mx:c=false->∀aU,Fr N ((d,.bool false)::l) aU->wpList P ops Q rest aU w):
  wpList P ops Q (⟨some d,.binOp op t x y t',ty,pos,bx,some (j,b)⟩::rest) a w:=by
 cases e:c with
 |true=>exact p4 h ah hb (qn (ps hx aO av) e) aI (o5 e)
 |false=>exact p4 h ah hb (qn (ps hx aO av) e) aI (mx e)
end
section
variable {P:Program} {ops:Array Oper} {Q:Exit->Act->World->Prop} {a:Act} {w w':World} {rest:List Oper} {N:Nat} {l:List (Nat × Value)}
theorem BR(C:World->Prop)(id:Nat)(hm:P.follows .mixedOrders=true)(aH:Region.lexB .any l'.toArray=true)(jd:C (w.drewN 1))(h:wpQuiet P l'.toArray C (λaU=>∀w',C w'->Q .normal aU w') l' a):(Code.region id l'.toArray true).wp P Q a w:=
 wp_region_quiet (C:=C) hm aH jd (by simpa using h)
theorem amt{C:World->Prop}{Q':Act->Prop}(h:Fr N l a){xs:List Operand}{ats:Array TypeId}{ty:TypeId}{pos:String}{bx:Array Edge}(av:∀w,C w->bd P f vs.toArray w (λu w'=>u=v/\C w'))(bC:dc P f)(hx:jW l xs vs)(aI:Nat.blt d N=true:=by exact rfl)(k:∀aU,Fr N ((d,v)::l) aU->wpQuiet P ops C Q' rest aU):wpQuiet P ops C Q' (⟨some d,.call { callee:=.value (.func f),args:=xs.toArray,argTypes:=ats },ty,pos,bx,none⟩::rest) a:=
 axd λK cv=>by
  rw [atM (by simp [Region.wanted])];refine⟨v,λw hw=>?_,cv _ (k _ (h.put aI v))⟩;unfold Oper.quietAt;rw [Ie h.eval bC hx];refine⟨rfl,auC (av w hw) ?_⟩;rintro e w' ⟨u,rfl,rfl,nF⟩;exact⟨rfl,nF⟩
theorem kI(id n:Nat)(hm:P.follows .mixedOrders=true)(aH:Region.lexTailB .any l'.toArray n=true)(h:wpStill P l'.toArray (w.drewN 1) (λaU=>wpList P l'.toArray Q (l'.drop n) aU (w.drewN 1)) (l'.take n) a):(Code.region id l'.toArray true).wp P Q a w:=
 wp_region_still_tail n hm aH h
theorem Qt{Q':Act->Prop}(h:Q' a):wpStill P ops w Q' [] a:=h
theorem Kx{Q':Act->Prop}(h:Fr N l a){op:Op}{pos:String}{bx:Array Edge}(aj:bL P l w op ty v w)(aI:Nat.blt d N=true:=by exact rfl)(k:∀aU,Fr N ((d,v)::l) aU->wpStill P ops w Q' rest aU):wpStill P ops w Q' (⟨some d,op,ty,pos,bx,none⟩::rest) a:=
 wpStill_step λK cv=>by
  rw [atM (by simp [Region.wanted])];unfold Oper.still;rw [aj a.eval h.eval,Oper.stillUpon_value];exact cv _ (k _ (h.put aI v))
theorem Ky{Q':Act->Prop}(h:Fr N l a){d:Nat}{op:Op}{ty:TypeId}{pos:String}{bx:Array Edge}{v:Value}{e:Nat}{b:Bool}(ah:(ops[j]?).bind (·.dst)=some e:=by exact rfl)(hb:look l e=some (.bool b):=by exact rfl)(aj:bL P l w op ty v w)(aI:Nat.blt d N=true:=by exact rfl)(k:∀aU,Fr N ((d,v)::l) aU->wpStill P ops w Q' rest aU):wpStill P ops w Q' (⟨some d,op,ty,pos,bx,some (j,b)⟩::rest) a:=
 wpStill_step λK cv=>by
  have aO:=xR (ops:=ops) h ah hb;rw [atM (by simp [Region.wanted,aO])];unfold Oper.still;rw [aj a.eval h.eval,Oper.stillUpon_value];exact cv _ (k _ (h.put aI v))
theorem DB{Q':Act->Prop}(h:Fr N l a){xs:List Operand}{ats:Array TypeId}{ty:TypeId}{pos:String}{bx:Array Edge}(av:bd P f vs.toArray w (λu w'=>u=v/\w'=w))(bC:dc P f)(hx:jW l xs vs)(aI:Nat.blt d N=true:=by exact rfl)(k:∀aU,Fr N ((d,v)::l) aU->wpStill P ops w Q' rest aU):wpStill P ops w Q' (⟨some d,.call { callee:=.value (.func f),args:=xs.toArray,argTypes:=ats },ty,pos,bx,none⟩::rest) a:=
 wpStill_step λK cv=>by
  rw [atM (by simp [Region.wanted])];unfold Oper.still;rw [Ie h.eval bC hx];simp only [Oper.stillUpon];refine⟨trivial,v,auC av ?_,cv _ (k _ (h.put aI v))⟩;rintro e w' ⟨u,rfl,rfl,rfl⟩;exact⟨rfl,rfl⟩
theorem di(h:Fr N l a){e ty:TypeId}{pos:String}{bx:Array Edge}{cs:Array Value}(la:v.cells=cs)(hx:a7 l x v:=by exact rfl)(aI:Nat.blt d N=true:=by exact rfl)(k:∀aU w',w'.heap[w.heap.size]? =some (.cells cs e (0,0))->w.grownBy w' none->w'.heap.size=w.heap.size+1->Fr N ((d,.pointer (some ⟨w.heap.size,0,none⟩))::l) aU->wpList P ops Q rest aU w'):
  wpList P ops Q (⟨some d,.box e x,ty,pos,bx,none⟩::rest) a w:=by
 subst la;exact st h (adr hx) aI λaU I=>k aU _ (auE w _) (auw _ _ _) bl I
def n0(d:TypeDesc):Bool:=match d with| .struct _| .array _ _=>true|_=>false
theorem fR{b o n:Nat}{cs:Array Value}{t ty:TypeId}(b0:(P.underlying t).map n0=some true)(aG:(P.info? t).map (·.size)=some n)(ba:cs.size=n)(av:∀j v,cs[j]? =some v->w.cell? ⟨b,o+j,none⟩=some v)(hx:a7 l x (.pointer (some ⟨b,o,none⟩)):=by exact rfl):
  bL P l w (.load t x) ty (.agg cs) w:=by
 intro cC aY d pos bx g;subst ba;obtain⟨pb,U,ae⟩:=at7.1 aG;obtain⟨h2,aM,cc⟩:=at7.1 b0;have aj:(loadCells ⟨b,o,none⟩ cs.size).run P w=.ok cs w:=by
  have:=run_loadCells_list (P:=P) (w:=w) ⟨b,o,none⟩ cs.toList (λj v ah=>by rw [addr_add];exact av j v (by simpa using ah));simpa using this
 cases h2<;>simp [n0]at cc<;>simp [execOp,Instr.loadAt,Instr.sureAddr,loadVar,isAgg,aY _ _ hx,auf aM,sizeOf,typeInfo,U,ae,aj]
theorem dy{g:Nat}{cs:Array Value}(h:w.heap[g]? =some (.cells cs e pw)):∀j v,cs[j]? =some v->w.cell? ⟨g,0+j,none⟩=some v:=by
 intro j v ah;rw [aub];exact aF h ah
theorem wm{f:Fn}{xs:List Operand}(hx:jW l xs vs):bL P l w (.makeFunc f #[] xs.toArray) ty (.func f #[] vs.toArray) w:=by
 intro cC aY d pos bx g;have:=jW.map aY hx;simp [execOp,Instr.makeFunc,this]
theorem aez(aY:x0 cC l){cs:List Value}{xs:List Operand}(av:dc P f)(aO:a7 l y (.func (.func f) #[] cs.toArray))(hx:jW l xs vs)(d:Option Tmp)(ty:TypeId)(pos:String)(bx:Array Edge)(g:Option (Nat × Bool)):
  (execOp cC ⟨d,.call { callee:=.value y,args:=xs.toArray,argTypes:=ats },ty,pos,bx,g⟩).run P w=.ok (.enter f (vs++cs).toArray) w:=by
 obtain⟨fn,U,ae,aM⟩:=av.out;have bw:=aY _ _ aO;have bf:=jW.map aY hx;simp only [execOp,resolve,Deferred.ofValue,invoke,callFunc,bw,bf,auu,axO,aun,ayL,U,ae,aM,awy,ax4,awp];simp
theorem ZN(h:Fr N l a){cs:List Value}{xs:List Operand}{ats:Array TypeId}{ty:TypeId}{pos:String}{bx:Array Edge}{R:Value->World->Prop}(av:bd P f (vs++cs).toArray w R)(bC:dc P f)(hx:jW l xs vs)(aO:a7 l y (.func (.func f) #[] cs.toArray):=by exact rfl)(aI:Nat.blt d N=true:=by exact rfl)(k:∀aU v w',R v w'->Fr N ((d,v)::l) aU->wpList P ops Q rest aU w'):
  wpList P ops Q (⟨some d,.call { callee:=.value y,args:=xs.toArray,argTypes:=ats },ty,pos,bx,none⟩::rest) a w:=
 axc rfl λK cv=>by
  unfold Oper.wp;rw [aez h.eval bC aO hx];refine auC av ?_;rintro e w' ⟨v,rfl,ab⟩;exact cv _ _ (k _ _ _ ab (h.put aI v))
theorem KG(h:Fr N l a){g base:Nat}{t ty:TypeId}{n c:Nat}{pos:String}{bx:Array Edge}(aG:(P.info? t).map (·.size)=some 1)(aX:w.ownsRow base e 1 (.slice (some ⟨g,0,none⟩) n c) n xs)(ah:j<n)(ao:v.oneCell'=true)(hx:a7 l x (.pointer (some ⟨g,0+j,none⟩)):=by exact rfl)(aO:a7 l y v:=by exact rfl)(k:∀aU w',w'.ownsRow base e 1 (.slice (some ⟨g,0,none⟩) n c) n (xs.set j v)->w.grownBy w' (some g)->w'.heap.size=w.heap.size->Fr N l aU->wpList P ops Q rest aU w'):
   wpList P ops Q (⟨none,.store t x y,ty,pos,bx,none⟩::rest) a w:=by
 have aN:=aX.1;rcases aX.2 with ⟨aJ,_⟩|⟨jx,ev,cur,aJ,hb,az,hle,hm,bT,gZ⟩
 · cases aJ
 · obtain⟨rfl,rfl⟩:jx=g/\ev=c:=by cases aJ;exact⟨rfl,rfl⟩
   rw [aub]at hx;refine cr h aG az (i:=j) bj ao hx aO λaU w' o1 an gk I=>k aU w' ⟨by simpa using aN,.inr ⟨jx,ev,_,rfl,hb,o1,hle,hm,by simpa using bT,?_⟩⟩ an gk I;rw [Array.toList_setIfInBounds,List.take_set,gZ]
theorem aoG(h:Fr N l a){s:Operand}{u:Value}{t ty DY:TypeId}{pos pos':String}{bx BL:Array Edge}{bytes n base cap:Nat}(b0:P.underlying t=some (.slice e))(ai:(P.info? e).map (λi=>(i.zero,i.size,i.bytes))=some (some z,1,bytes))(bA:z.cells.size=1)(aX:w.ownsRow base e 1 (.slice ay n cap) n xs)(lM:(n+1)*bytes<=140737488355328)(hm:n+1<=maxLen)(mm:base<=w.heap.size)(hx:a7 l x u:=by exact rfl)(aG:a7 ((d,.slice (some ⟨w.heap.size,0,none⟩) 1 1)::l) s (.slice ay n cap):=by exact rfl)(aI:Nat.blt d N=true:=by exact rfl)(pG:Nat.blt q4 N=true:=by exact rfl)(hu:u.oneCell'=true:=by exact rfl)(k:∀aU ej ev w',w'.ownsRow base e 1 (.slice ej (n+1) ev) (n+1) (xs++ [u])->w.grownBy w' (Value.slice ay n cap).ownBlock->((Value.slice ej (n+1) ev).ownBlock=(Value.slice ay n cap).ownBlock\/(Value.slice ej (n+1) ev).ownBlock=some (w.heap.size+1))->Fr N ((q4,.slice ej (n+1) ev)::(d,.slice (some ⟨w.heap.size,0,none⟩) 1 1)::l) aU->wpList P ops Q rest aU w'):
   wpList P ops Q (⟨some d,.buildSlice t 1 [(0,x)].toArray,ty,pos,bx,none⟩::⟨some q4,.call { callee:=.builtin .append,args:=[s,.tmp d].toArray,argTypes:=[t,t].toArray },DY,pos',BL,none⟩::rest) a w:=by
 have ao:u.cells=#[u]:=by cases u<;>simp [Value.oneCell']at hu<;>rfl
 refine st h (q5 b0 ai ao hx) aI λe6 U=>?_;obtain⟨i,g1,g2,g3,g4⟩:=avH ai;have tz:e6.eval (.tmp d)=.slice (some ⟨w.heap.size,0,none⟩) 1 1:=U.eval _ _ (by simp [a7,Da]);refine awX _ rfl s (.tmp d) t rfl base e i z 1 bytes b0 g1 g2 g3 g4 bA bk (.slice ay n cap) n xs (U.eval _ _ aG) (aX.alloc _)
   ⟨w.heap.size,0,none⟩ 1 1 [u] tz rfl ?_ ?_ hm lM bm ?_
 · intro j v ah
   match j,ah with
   | 0,ah=>
    simp at ah;subst ah;simp [Addr.add]
 · intro v ao;simp at ao;subst ao;exact hu
 · intro iy w' mr an CM lL;obtain⟨ej,ev,rfl,_,_⟩:=tW mr;refine k _ ej ev w' mr ?_ (by simpa using lL) (U.put pG _);exact⟨an.os,an.tape,an.output,by have:=an.size;simp at this;omega,λk au b5=>by rw [an.block k bm b5];exact axV _ _ _ au⟩
theorem aoE(h:Fr N l a){α:Type}{enc:α->Value}{ys:List α}{s7:Option Addr}{m eS:Nat}{s:Operand}{t ty:TypeId}{pos:String}{bx:Array Edge}{bytes n base cap:Nat}(b0:P.underlying t=some (.slice e))(ai:(P.info? e).map (λi=>(i.zero,i.size,i.bytes))=some (some z,1,bytes))(bA:z.cells.size=1)(aX:w.ownsRow base e 1 (.slice ay n cap) n xs)(vk:ys.length=m)(ab:ee w s7 enc ys)(U:∀y,(enc y).oneCell'=true)(lM:(n+m)*bytes<=140737488355328)(hm:n+m<=maxLen)(mm:base<=w.heap.size)(aG:a7 l s (.slice ay n cap):=by exact rfl)(hx:a7 l x (.slice s7 m eS):=by exact rfl)(aI:Nat.blt d N=true:=by exact rfl)(k:∀aU ej ev w',w'.ownsRow base e 1 (.slice ej (n+m) ev) (n+m) (xs++ys.map enc)->w.grownBy w' (Value.slice ay n cap).ownBlock->Fr N ((d,.slice ej (n+m) ev)::l) aU->wpList P ops Q rest aU w'):
   wpList P ops Q (⟨some d,.call { callee:=.builtin .append,args:=[s,x].toArray,argTypes:=[t,t].toArray },ty,pos,bx,none⟩::rest) a w:=by
 obtain⟨i,g1,g2,g3,g4⟩:=avH ai;by_cases aJ:ys=[]
 · subst aJ;obtain rfl:m=0:=by simpa using vk.symm
   obtain⟨hle,_⟩:=alX aX;have OJ:Src P i.size t (.slice s7 0 eS) 0 [] w:=by
     cases s7 with
     |none=>exact Src.ofNil w b0 eS
     |some jF=>exact Src.ofSlice w b0 jF 0 eS [] bl bl bl
   have aj:=run_append_nothing (P:=P) w t t ty e i b0 g1 ay n cap hle _ OJ;refine st h (v:=.slice ay n cap) (w':=w) ?_ aI λaU I=>k aU ay cap w (by simpa using aX) (awK w _) I;intro cC aY d pos bx g;simp [execOp,resolve,invoke,builtin,aY _ _ aG,aY _ _ hx,aj]
 · obtain⟨b,o,rfl,_⟩:=ab 0 (by cases ys with|nil=>exact absurd rfl aJ|cons _ _=>simp);refine awX _ rfl s x t rfl base e i z 1 bytes b0 g1 g2 g3 g4 bA bk (.slice ay n cap) n xs (h.eval _ _ aG) aX
     ⟨b,o,none⟩ m eS (ys.map enc) (h.eval _ _ hx) (by simp [vk]) ?_ ?_ hm lM mm ?_
   · intro j v ah;rw [List.getElem?_map]at ah;obtain⟨y,aO,rfl⟩:=at7.1 ah;obtain⟨tC,rfl⟩:=atY.1 aO;obtain⟨hM,kb,bf,av⟩:=ab j tC;cases bf
     rw [addr_add];exact av
   · intro v ao;obtain⟨y,_,rfl⟩:=axh.1 ao;exact U y
   · intro iy w' mr an CM lL;obtain⟨ej,ev,rfl,_,_⟩:=tW mr;exact k _ ej ev w' mr an (h.put aI _)
theorem SG{k:IntKind}{m n:Int}{t t' ty:TypeId}(hx:a7 l x (.int k m):=by exact rfl)(aO:a7 l y (.int cS n):=by exact rfl):
  bL P l w (.call { callee:=.builtin .max,args:=[x,y].toArray,argTypes:=[t,t'].toArray }) ty (.int k (if m<n then n else m)) w:=by
 intro cC aY d pos bx g;simp [execOp,resolve,invoke,builtin,Builtin.max_,Builtin.max2,aY _ _ hx,aY _ _ aO]
theorem H3{k:IntKind}{m n:Int}{t t' ty:TypeId}(hx:a7 l x (.int k m):=by exact rfl)(aO:a7 l y (.int cS n):=by exact rfl):
  bL P l w (.call { callee:=.builtin .min,args:=[x,y].toArray,argTypes:=[t,t'].toArray }) ty (.int k (if n<m then n else m)) w:=by
 intro cC aY d pos bx g;simp [execOp,resolve,invoke,builtin,Builtin.min_,Builtin.min2,aY _ _ hx,aY _ _ aO]
def filled(n:Nat)(z:Value)(vs:List (Nat × Value)):Option (Array Value):=
 Instr.fill (λi=>some (i*1,1)) (Array.replicate n z) vs
theorem L2{t:TypeId}{n:Nat}{vs:List (Nat × Value)}{cells:Array Value}{fQ:Nat}(b0:P.underlying t=some (.slice e))(ai:(P.info? e).map (λi=>(i.zero,i.size,i.bytes))=some (some z,1,fQ))(bA:z.cells=#[z])(iS:0<n)(ba:n<=16777216)(hb:filled n z vs=some cells)(ao:rV l aR vs):bL P l w (.buildSlice t n aR.toArray) ty (.slice (some ⟨w.heap.size,0,none⟩) n n) (w.alloc (.cells cells e)):=by
 intro cC aY d pos bx g;have bw:=rV.map aY ao;obtain⟨i,U,ae,aM,cc⟩:=avH ai;have bf:(Array.range n).map (λx=>z.cells[x%z.cells.size]!)=Array.replicate n z:=by
  apply Array.ext
  · simp
  · intro j Fx j8;simp [bA,Nat.mod_one]
 unfold filled at hb;have gA:¬n*1>2^24:=bj
 have gM:¬n*1=0:=bj
 simp only [axE]at hb;have jc:¬n=0:=bj
 have ko:¬2^24<n:=bj
 simp [execOp,Instr.buildSlice,auf b0,sizeOf,typeInfo,zeroValue,U,ae,aM,jc,ko,bf,bw,hb,newRow]
end
end Go.Proofs.YtnkjmbbddmgjiaaGreatDoor