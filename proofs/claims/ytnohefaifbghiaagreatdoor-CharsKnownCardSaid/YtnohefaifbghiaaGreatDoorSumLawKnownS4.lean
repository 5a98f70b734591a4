/- Laid together by a program of mine: Facts. -/
import Derived.Test.YtnohefaifbghiaaGreatDoorProg
import Derived.Test.YtnohefaifbghiaaGreatDoorSumLawKnownS3
import Derived.KernelRfl
set_option linter.unusedSimpArgs false
set_option linter.unusedVariables false
section
/- Facts of the seat's tables: each type's size and zero, each function's call. Written by my own gen.py off the translation's rows. -/
namespace Go.Proofs.YtnohefaifbghiaaGreatDoor
theorem mixed : Tryz.prog.follows .mixedOrders = true := by kernel_rfl
theorem isz0 : (Tryz.prog.info? 0).map (·.size) = some 1 := by kernel_rfl
theorem inf0 : (Tryz.prog.info? 0).map (fun i => (i.zero, i.size, i.bytes)) = some (some (.tuple #[]), 1, 0) := by kernel_rfl
theorem isz1 : (Tryz.prog.info? 1).map (·.size) = some 1 := by kernel_rfl
theorem inf1 : (Tryz.prog.info? 1).map (fun i => (i.zero, i.size, i.bytes)) = some (some (.nilFunc), 1, 8) := by kernel_rfl
theorem isz2 : (Tryz.prog.info? 2).map (·.size) = some 1 := by kernel_rfl
theorem inf2 : (Tryz.prog.info? 2).map (fun i => (i.zero, i.size, i.bytes)) = some (some (.int .i64 0), 1, 8) := by kernel_rfl
theorem isz3 : (Tryz.prog.info? 3).map (·.size) = some 1 := by kernel_rfl
theorem inf3 : (Tryz.prog.info? 3).map (fun i => (i.zero, i.size, i.bytes)) = some (some (.int .i64 0), 1, 8) := by kernel_rfl
theorem isz4 : (Tryz.prog.info? 4).map (·.size) = some 1 := by kernel_rfl
theorem inf4 : (Tryz.prog.info? 4).map (fun i => (i.zero, i.size, i.bytes)) = some (some (.bool false), 1, 1) := by kernel_rfl
theorem isz5 : (Tryz.prog.info? 5).map (·.size) = some 1 := by kernel_rfl
theorem inf5 : (Tryz.prog.info? 5).map (fun i => (i.zero, i.size, i.bytes)) = some (some (.int .u8 0), 1, 1) := by kernel_rfl
theorem isz6 : (Tryz.prog.info? 6).map (·.size) = some 1 := by kernel_rfl
theorem inf6 : (Tryz.prog.info? 6).map (fun i => (i.zero, i.size, i.bytes)) = some (some (.int .u8 0), 1, 1) := by kernel_rfl
theorem isz7 : (Tryz.prog.info? 7).map (·.size) = some 4 := by kernel_rfl
theorem inf7 : (Tryz.prog.info? 7).map (fun i => (i.zero, i.size, i.bytes)) = some (some (.agg #[.int .i64 0, .int .i64 0, .bool false, .int .u8 0]), 4, 24) := by kernel_rfl
theorem isz8 : (Tryz.prog.info? 8).map (·.size) = some 4 := by kernel_rfl
theorem inf8 : (Tryz.prog.info? 8).map (fun i => (i.zero, i.size, i.bytes)) = some (some (.agg #[.int .i64 0, .int .i64 0, .bool false, .int .u8 0]), 4, 24) := by kernel_rfl
theorem isz9 : (Tryz.prog.info? 9).map (·.size) = some 1 := by kernel_rfl
theorem inf9 : (Tryz.prog.info? 9).map (fun i => (i.zero, i.size, i.bytes)) = some (some (.string ⟨#[]⟩), 1, 16) := by kernel_rfl
theorem isz10 : (Tryz.prog.info? 10).map (·.size) = some 1 := by kernel_rfl
theorem inf10 : (Tryz.prog.info? 10).map (fun i => (i.zero, i.size, i.bytes)) = some (some (.string ⟨#[]⟩), 1, 16) := by kernel_rfl
theorem isz11 : (Tryz.prog.info? 11).map (·.size) = some 1 := by kernel_rfl
theorem inf11 : (Tryz.prog.info? 11).map (fun i => (i.zero, i.size, i.bytes)) = some (some (.string ⟨#[]⟩), 1, 16) := by kernel_rfl
theorem isz12 : (Tryz.prog.info? 12).map (·.size) = some 1 := by kernel_rfl
theorem inf12 : (Tryz.prog.info? 12).map (fun i => (i.zero, i.size, i.bytes)) = some (some (.int .u64 0), 1, 8) := by kernel_rfl
theorem isz13 : (Tryz.prog.info? 13).map (·.size) = some 2 := by kernel_rfl
theorem inf13 : (Tryz.prog.info? 13).map (fun i => (i.zero, i.size, i.bytes)) = some (some (.agg #[.string ⟨#[]⟩, .int .u64 0]), 2, 24) := by kernel_rfl
theorem isz14 : (Tryz.prog.info? 14).map (·.size) = some 2 := by kernel_rfl
theorem inf14 : (Tryz.prog.info? 14).map (fun i => (i.zero, i.size, i.bytes)) = some (some (.agg #[.string ⟨#[]⟩, .int .u64 0]), 2, 24) := by kernel_rfl
theorem isz15 : (Tryz.prog.info? 15).map (·.size) = some 1 := by kernel_rfl
theorem inf15 : (Tryz.prog.info? 15).map (fun i => (i.zero, i.size, i.bytes)) = some (some (.pointer none), 1, 8) := by kernel_rfl
theorem isz16 : (Tryz.prog.info? 16).map (·.size) = some 1 := by kernel_rfl
theorem inf16 : (Tryz.prog.info? 16).map (fun i => (i.zero, i.size, i.bytes)) = some (some (.pointer none), 1, 8) := by kernel_rfl
theorem isz17 : (Tryz.prog.info? 17).map (·.size) = some 1 := by kernel_rfl
theorem inf17 : (Tryz.prog.info? 17).map (fun i => (i.zero, i.size, i.bytes)) = some (some (.pointer none), 1, 8) := by kernel_rfl
theorem isz18 : (Tryz.prog.info? 18).map (·.size) = some 1 := by kernel_rfl
theorem inf18 : (Tryz.prog.info? 18).map (fun i => (i.zero, i.size, i.bytes)) = some (some (.agg #[.pointer none]), 1, 8) := by kernel_rfl
theorem isz19 : (Tryz.prog.info? 19).map (·.size) = some 1 := by kernel_rfl
theorem inf19 : (Tryz.prog.info? 19).map (fun i => (i.zero, i.size, i.bytes)) = some (some (.agg #[.pointer none]), 1, 8) := by kernel_rfl
theorem isz20 : (Tryz.prog.info? 20).map (·.size) = some 1 := by kernel_rfl
theorem inf20 : (Tryz.prog.info? 20).map (fun i => (i.zero, i.size, i.bytes)) = some (some (.nilIface), 1, 16) := by kernel_rfl
theorem isz21 : (Tryz.prog.info? 21).map (·.size) = some 1 := by kernel_rfl
theorem inf21 : (Tryz.prog.info? 21).map (fun i => (i.zero, i.size, i.bytes)) = some (some (.int .i32 0), 1, 4) := by kernel_rfl
theorem isz22 : (Tryz.prog.info? 22).map (·.size) = some 1 := by kernel_rfl
theorem inf22 : (Tryz.prog.info? 22).map (fun i => (i.zero, i.size, i.bytes)) = some (some (.nilFunc), 1, 8) := by kernel_rfl
theorem isz23 : (Tryz.prog.info? 23).map (·.size) = some 1 := by kernel_rfl
theorem inf23 : (Tryz.prog.info? 23).map (fun i => (i.zero, i.size, i.bytes)) = some (some (.nilIface), 1, 16) := by kernel_rfl
theorem isz24 : (Tryz.prog.info? 24).map (·.size) = some 1 := by kernel_rfl
theorem inf24 : (Tryz.prog.info? 24).map (fun i => (i.zero, i.size, i.bytes)) = some (some (.nilIface), 1, 16) := by kernel_rfl
theorem isz25 : (Tryz.prog.info? 25).map (·.size) = some 1 := by kernel_rfl
theorem inf25 : (Tryz.prog.info? 25).map (fun i => (i.zero, i.size, i.bytes)) = some (some (.nilFunc), 1, 8) := by kernel_rfl
theorem isz26 : (Tryz.prog.info? 26).map (·.size) = some 1 := by kernel_rfl
theorem inf26 : (Tryz.prog.info? 26).map (fun i => (i.zero, i.size, i.bytes)) = some (some (.tuple #[.int .i64 0, .int .i64 0, .bool false]), 1, 0) := by kernel_rfl
theorem isz27 : (Tryz.prog.info? 27).map (·.size) = some 1 := by kernel_rfl
theorem inf27 : (Tryz.prog.info? 27).map (fun i => (i.zero, i.size, i.bytes)) = some (some (.nilFunc), 1, 8) := by kernel_rfl
theorem isz28 : (Tryz.prog.info? 28).map (·.size) = some 1 := by kernel_rfl
theorem inf28 : (Tryz.prog.info? 28).map (fun i => (i.zero, i.size, i.bytes)) = some (some (.nilFunc), 1, 8) := by kernel_rfl
theorem isz29 : (Tryz.prog.info? 29).map (·.size) = some 1 := by kernel_rfl
theorem inf29 : (Tryz.prog.info? 29).map (fun i => (i.zero, i.size, i.bytes)) = some (some (.nilFunc), 1, 8) := by kernel_rfl
theorem isz30 : (Tryz.prog.info? 30).map (·.size) = some 1 := by kernel_rfl
theorem inf30 : (Tryz.prog.info? 30).map (fun i => (i.zero, i.size, i.bytes)) = some (some (.nilFunc), 1, 8) := by kernel_rfl
theorem isz31 : (Tryz.prog.info? 31).map (·.size) = some 1 := by kernel_rfl
theorem inf31 : (Tryz.prog.info? 31).map (fun i => (i.zero, i.size, i.bytes)) = some (some (.nilFunc), 1, 8) := by kernel_rfl
theorem isz32 : (Tryz.prog.info? 32).map (·.size) = some 1 := by kernel_rfl
theorem inf32 : (Tryz.prog.info? 32).map (fun i => (i.zero, i.size, i.bytes)) = some (some (.nilFunc), 1, 8) := by kernel_rfl
theorem isz33 : (Tryz.prog.info? 33).map (·.size) = some 1 := by kernel_rfl
theorem inf33 : (Tryz.prog.info? 33).map (fun i => (i.zero, i.size, i.bytes)) = some (some (.slice none 0 0), 1, 24) := by kernel_rfl
theorem isz34 : (Tryz.prog.info? 34).map (·.size) = some 1 := by kernel_rfl
theorem inf34 : (Tryz.prog.info? 34).map (fun i => (i.zero, i.size, i.bytes)) = some (some (.slice none 0 0), 1, 24) := by kernel_rfl
theorem isz35 : (Tryz.prog.info? 35).map (·.size) = some 1 := by kernel_rfl
theorem inf35 : (Tryz.prog.info? 35).map (fun i => (i.zero, i.size, i.bytes)) = some (some (.tuple #[.string ⟨#[]⟩, .nilIface]), 1, 0) := by kernel_rfl
theorem isz36 : (Tryz.prog.info? 36).map (·.size) = some 1 := by kernel_rfl
theorem inf36 : (Tryz.prog.info? 36).map (fun i => (i.zero, i.size, i.bytes)) = some (some (.nilFunc), 1, 8) := by kernel_rfl
theorem isz37 : (Tryz.prog.info? 37).map (·.size) = some 1 := by kernel_rfl
theorem inf37 : (Tryz.prog.info? 37).map (fun i => (i.zero, i.size, i.bytes)) = some (some (.nilFunc), 1, 8) := by kernel_rfl
theorem isz38 : (Tryz.prog.info? 38).map (·.size) = some 1 := by kernel_rfl
theorem inf38 : (Tryz.prog.info? 38).map (fun i => (i.zero, i.size, i.bytes)) = some (some (.int .i64 0), 1, 8) := by kernel_rfl
theorem isz39 : (Tryz.prog.info? 39).map (·.size) = some 1 := by kernel_rfl
theorem inf39 : (Tryz.prog.info? 39).map (fun i => (i.zero, i.size, i.bytes)) = some (some (.nilFunc), 1, 8) := by kernel_rfl
theorem isz40 : (Tryz.prog.info? 40).map (·.size) = some 1 := by kernel_rfl
theorem inf40 : (Tryz.prog.info? 40).map (fun i => (i.zero, i.size, i.bytes)) = some (some (.nilFunc), 1, 8) := by kernel_rfl
theorem isz41 : (Tryz.prog.info? 41).map (·.size) = some 1 := by kernel_rfl
theorem inf41 : (Tryz.prog.info? 41).map (fun i => (i.zero, i.size, i.bytes)) = some (some (.nilFunc), 1, 8) := by kernel_rfl
theorem isz42 : (Tryz.prog.info? 42).map (·.size) = some 2 := by kernel_rfl
theorem inf42 : (Tryz.prog.info? 42).map (fun i => (i.zero, i.size, i.bytes)) = some (some (.agg #[.int .i64 0, .int .i64 0]), 2, 16) := by kernel_rfl
theorem isz43 : (Tryz.prog.info? 43).map (·.size) = some 2 := by kernel_rfl
theorem inf43 : (Tryz.prog.info? 43).map (fun i => (i.zero, i.size, i.bytes)) = some (some (.agg #[.int .i64 0, .int .i64 0]), 2, 16) := by kernel_rfl
theorem isz44 : (Tryz.prog.info? 44).map (·.size) = some 1 := by kernel_rfl
theorem inf44 : (Tryz.prog.info? 44).map (fun i => (i.zero, i.size, i.bytes)) = some (some (.nilFunc), 1, 8) := by kernel_rfl
theorem isz45 : (Tryz.prog.info? 45).map (·.size) = some 1 := by kernel_rfl
theorem inf45 : (Tryz.prog.info? 45).map (fun i => (i.zero, i.size, i.bytes)) = some (some (.nilFunc), 1, 8) := by kernel_rfl
theorem isz46 : (Tryz.prog.info? 46).map (·.size) = some 3 := by kernel_rfl
theorem inf46 : (Tryz.prog.info? 46).map (fun i => (i.zero, i.size, i.bytes)) = some (some (.agg #[.int .i64 0, .int .i64 0, .int .i64 0]), 3, 24) := by kernel_rfl
theorem isz47 : (Tryz.prog.info? 47).map (·.size) = some 3 := by kernel_rfl
theorem inf47 : (Tryz.prog.info? 47).map (fun i => (i.zero, i.size, i.bytes)) = some (some (.agg #[.int .i64 0, .int .i64 0, .int .i64 0]), 3, 24) := by kernel_rfl
theorem isz48 : (Tryz.prog.info? 48).map (·.size) = some 1 := by kernel_rfl
theorem inf48 : (Tryz.prog.info? 48).map (fun i => (i.zero, i.size, i.bytes)) = some (some (.nilFunc), 1, 8) := by kernel_rfl
theorem isz49 : (Tryz.prog.info? 49).map (·.size) = some 1 := by kernel_rfl
theorem inf49 : (Tryz.prog.info? 49).map (fun i => (i.zero, i.size, i.bytes)) = some (some (.pointer none), 1, 8) := by kernel_rfl
theorem isz50 : (Tryz.prog.info? 50).map (·.size) = some 1 := by kernel_rfl
theorem inf50 : (Tryz.prog.info? 50).map (fun i => (i.zero, i.size, i.bytes)) = some (some (.nilFunc), 1, 8) := by kernel_rfl
theorem isz51 : (Tryz.prog.info? 51).map (·.size) = some 1 := by kernel_rfl
theorem inf51 : (Tryz.prog.info? 51).map (fun i => (i.zero, i.size, i.bytes)) = some (some (.pointer none), 1, 8) := by kernel_rfl
theorem isz52 : (Tryz.prog.info? 52).map (·.size) = some 1 := by kernel_rfl
theorem inf52 : (Tryz.prog.info? 52).map (fun i => (i.zero, i.size, i.bytes)) = some (some (.slice none 0 0), 1, 24) := by kernel_rfl
theorem isz53 : (Tryz.prog.info? 53).map (·.size) = some 2 := by kernel_rfl
theorem inf53 : (Tryz.prog.info? 53).map (fun i => (i.zero, i.size, i.bytes)) = some (some (.agg #[.pointer none, .slice none 0 0]), 2, 32) := by kernel_rfl
theorem isz54 : (Tryz.prog.info? 54).map (·.size) = some 2 := by kernel_rfl
theorem inf54 : (Tryz.prog.info? 54).map (fun i => (i.zero, i.size, i.bytes)) = some (some (.agg #[.pointer none, .slice none 0 0]), 2, 32) := by kernel_rfl
theorem isz55 : (Tryz.prog.info? 55).map (·.size) = some 1 := by kernel_rfl
theorem inf55 : (Tryz.prog.info? 55).map (fun i => (i.zero, i.size, i.bytes)) = some (some (.nilFunc), 1, 8) := by kernel_rfl
theorem isz56 : (Tryz.prog.info? 56).map (·.size) = some 1 := by kernel_rfl
theorem inf56 : (Tryz.prog.info? 56).map (fun i => (i.zero, i.size, i.bytes)) = some (some (.nilFunc), 1, 8) := by kernel_rfl
theorem isz57 : (Tryz.prog.info? 57).map (·.size) = some 1 := by kernel_rfl
theorem inf57 : (Tryz.prog.info? 57).map (fun i => (i.zero, i.size, i.bytes)) = some (some (.pointer none), 1, 8) := by kernel_rfl
theorem isz58 : (Tryz.prog.info? 58).map (·.size) = some 1 := by kernel_rfl
theorem inf58 : (Tryz.prog.info? 58).map (fun i => (i.zero, i.size, i.bytes)) = some (some (.nilFunc), 1, 8) := by kernel_rfl
theorem isz59 : (Tryz.prog.info? 59).map (·.size) = some 1 := by kernel_rfl
theorem inf59 : (Tryz.prog.info? 59).map (fun i => (i.zero, i.size, i.bytes)) = some (some (.nilFunc), 1, 8) := by kernel_rfl
theorem isz60 : (Tryz.prog.info? 60).map (·.size) = some 1 := by kernel_rfl
theorem inf60 : (Tryz.prog.info? 60).map (fun i => (i.zero, i.size, i.bytes)) = some (some (.pointer none), 1, 8) := by kernel_rfl
theorem isz61 : (Tryz.prog.info? 61).map (·.size) = some 1 := by kernel_rfl
theorem inf61 : (Tryz.prog.info? 61).map (fun i => (i.zero, i.size, i.bytes)) = some (some (.int .u64 0), 1, 8) := by kernel_rfl
theorem isz62 : (Tryz.prog.info? 62).map (·.size) = some 3 := by kernel_rfl
theorem inf62 : (Tryz.prog.info? 62).map (fun i => (i.zero, i.size, i.bytes)) = some (some (.agg #[.pointer none, .pointer none, .int .u64 0]), 3, 24) := by kernel_rfl
theorem isz63 : (Tryz.prog.info? 63).map (·.size) = some 3 := by kernel_rfl
theorem inf63 : (Tryz.prog.info? 63).map (fun i => (i.zero, i.size, i.bytes)) = some (some (.agg #[.pointer none, .pointer none, .int .u64 0]), 3, 24) := by kernel_rfl
theorem isz64 : (Tryz.prog.info? 64).map (·.size) = some 1 := by kernel_rfl
theorem inf64 : (Tryz.prog.info? 64).map (fun i => (i.zero, i.size, i.bytes)) = some (some (.nilFunc), 1, 8) := by kernel_rfl
theorem isz65 : (Tryz.prog.info? 65).map (·.size) = some 1 := by kernel_rfl
theorem inf65 : (Tryz.prog.info? 65).map (fun i => (i.zero, i.size, i.bytes)) = some (some (.nilIface), 1, 16) := by kernel_rfl
theorem isz66 : (Tryz.prog.info? 66).map (·.size) = some 1 := by kernel_rfl
theorem inf66 : (Tryz.prog.info? 66).map (fun i => (i.zero, i.size, i.bytes)) = some (some (.nilIface), 1, 16) := by kernel_rfl
theorem isz67 : (Tryz.prog.info? 67).map (·.size) = some 1 := by kernel_rfl
theorem inf67 : (Tryz.prog.info? 67).map (fun i => (i.zero, i.size, i.bytes)) = some (some (.nilFunc), 1, 8) := by kernel_rfl
theorem isz68 : (Tryz.prog.info? 68).map (·.size) = some 1 := by kernel_rfl
theorem inf68 : (Tryz.prog.info? 68).map (fun i => (i.zero, i.size, i.bytes)) = some (some (.int .u8 0), 1, 1) := by kernel_rfl
theorem isz69 : (Tryz.prog.info? 69).map (·.size) = some 1 := by kernel_rfl
theorem inf69 : (Tryz.prog.info? 69).map (fun i => (i.zero, i.size, i.bytes)) = some (some (.nilFunc), 1, 8) := by kernel_rfl
theorem isz70 : (Tryz.prog.info? 70).map (·.size) = some 1 := by kernel_rfl
theorem inf70 : (Tryz.prog.info? 70).map (fun i => (i.zero, i.size, i.bytes)) = some (some (.nilFunc), 1, 8) := by kernel_rfl
theorem isz71 : (Tryz.prog.info? 71).map (·.size) = some 1 := by kernel_rfl
theorem inf71 : (Tryz.prog.info? 71).map (fun i => (i.zero, i.size, i.bytes)) = some (some (.nilFunc), 1, 8) := by kernel_rfl
theorem isz72 : (Tryz.prog.info? 72).map (·.size) = some 1 := by kernel_rfl
theorem inf72 : (Tryz.prog.info? 72).map (fun i => (i.zero, i.size, i.bytes)) = some (some (.nilFunc), 1, 8) := by kernel_rfl
theorem isz73 : (Tryz.prog.info? 73).map (·.size) = some 1 := by kernel_rfl
theorem inf73 : (Tryz.prog.info? 73).map (fun i => (i.zero, i.size, i.bytes)) = some (some (.nilFunc), 1, 8) := by kernel_rfl
theorem isz74 : (Tryz.prog.info? 74).map (·.size) = some 1 := by kernel_rfl
theorem inf74 : (Tryz.prog.info? 74).map (fun i => (i.zero, i.size, i.bytes)) = some (some (.nilFunc), 1, 8) := by kernel_rfl
theorem isz75 : (Tryz.prog.info? 75).map (·.size) = some 1 := by kernel_rfl
theorem inf75 : (Tryz.prog.info? 75).map (fun i => (i.zero, i.size, i.bytes)) = some (some (.pointer none), 1, 8) := by kernel_rfl
theorem isz76 : (Tryz.prog.info? 76).map (·.size) = some 0 := by kernel_rfl
theorem inf76 : (Tryz.prog.info? 76).map (fun i => (i.zero, i.size, i.bytes)) = some (some (.agg #[]), 0, 0) := by kernel_rfl
theorem isz77 : (Tryz.prog.info? 77).map (·.size) = some 0 := by kernel_rfl
theorem inf77 : (Tryz.prog.info? 77).map (fun i => (i.zero, i.size, i.bytes)) = some (some (.agg #[]), 0, 0) := by kernel_rfl
theorem isz78 : (Tryz.prog.info? 78).map (·.size) = some 0 := by kernel_rfl
theorem inf78 : (Tryz.prog.info? 78).map (fun i => (i.zero, i.size, i.bytes)) = some (some (.agg #[]), 0, 0) := by kernel_rfl
theorem isz79 : (Tryz.prog.info? 79).map (·.size) = some 1 := by kernel_rfl
theorem inf79 : (Tryz.prog.info? 79).map (fun i => (i.zero, i.size, i.bytes)) = some (some (.int .u32 0), 1, 4) := by kernel_rfl
theorem isz80 : (Tryz.prog.info? 80).map (·.size) = some 1 := by kernel_rfl
theorem inf80 : (Tryz.prog.info? 80).map (fun i => (i.zero, i.size, i.bytes)) = some (some (.agg #[.int .u32 0]), 1, 4) := by kernel_rfl
theorem isz81 : (Tryz.prog.info? 81).map (·.size) = some 1 := by kernel_rfl
theorem inf81 : (Tryz.prog.info? 81).map (fun i => (i.zero, i.size, i.bytes)) = some (some (.agg #[.int .u32 0]), 1, 4) := by kernel_rfl
theorem isz82 : (Tryz.prog.info? 82).map (·.size) = some 2 := by kernel_rfl
theorem inf82 : (Tryz.prog.info? 82).map (fun i => (i.zero, i.size, i.bytes)) = some (some (.agg #[.int .i32 0, .int .u32 0]), 2, 8) := by kernel_rfl
theorem isz83 : (Tryz.prog.info? 83).map (·.size) = some 2 := by kernel_rfl
theorem inf83 : (Tryz.prog.info? 83).map (fun i => (i.zero, i.size, i.bytes)) = some (some (.agg #[.int .i32 0, .int .u32 0]), 2, 8) := by kernel_rfl
theorem isz84 : (Tryz.prog.info? 84).map (·.size) = some 2 := by kernel_rfl
theorem inf84 : (Tryz.prog.info? 84).map (fun i => (i.zero, i.size, i.bytes)) = some (some (.agg #[.int .i32 0, .int .u32 0]), 2, 8) := by kernel_rfl
theorem isz85 : (Tryz.prog.info? 85).map (·.size) = some 2 := by kernel_rfl
theorem inf85 : (Tryz.prog.info? 85).map (fun i => (i.zero, i.size, i.bytes)) = some (some (.agg #[.int .i32 0, .int .u32 0]), 2, 8) := by kernel_rfl
theorem isz86 : (Tryz.prog.info? 86).map (·.size) = some 3 := by kernel_rfl
theorem inf86 : (Tryz.prog.info? 86).map (fun i => (i.zero, i.size, i.bytes)) = some (some (.agg #[.int .u32 0, .int .i32 0, .int .u32 0]), 3, 12) := by kernel_rfl
theorem isz87 : (Tryz.prog.info? 87).map (·.size) = some 3 := by kernel_rfl
theorem inf87 : (Tryz.prog.info? 87).map (fun i => (i.zero, i.size, i.bytes)) = some (some (.agg #[.int .u32 0, .int .i32 0, .int .u32 0]), 3, 12) := by kernel_rfl
theorem isz88 : (Tryz.prog.info? 88).map (·.size) = some 1 := by kernel_rfl
theorem inf88 : (Tryz.prog.info? 88).map (fun i => (i.zero, i.size, i.bytes)) = some (some (.nilIface), 1, 16) := by kernel_rfl
theorem isz89 : (Tryz.prog.info? 89).map (·.size) = some 1 := by kernel_rfl
theorem inf89 : (Tryz.prog.info? 89).map (fun i => (i.zero, i.size, i.bytes)) = some (some (.nilIface), 1, 16) := by kernel_rfl
theorem isz90 : (Tryz.prog.info? 90).map (·.size) = some 5 := by kernel_rfl
theorem inf90 : (Tryz.prog.info? 90).map (fun i => (i.zero, i.size, i.bytes)) = some (some (.agg #[.int .u32 0, .int .i32 0, .int .u32 0, .nilIface, .slice none 0 0]), 5, 56) := by kernel_rfl
theorem isz91 : (Tryz.prog.info? 91).map (·.size) = some 5 := by kernel_rfl
theorem inf91 : (Tryz.prog.info? 91).map (fun i => (i.zero, i.size, i.bytes)) = some (some (.agg #[.int .u32 0, .int .i32 0, .int .u32 0, .nilIface, .slice none 0 0]), 5, 56) := by kernel_rfl
theorem isz92 : (Tryz.prog.info? 92).map (·.size) = some 1 := by kernel_rfl
theorem inf92 : (Tryz.prog.info? 92).map (fun i => (i.zero, i.size, i.bytes)) = some (some (.nilFunc), 1, 8) := by kernel_rfl
theorem isz93 : (Tryz.prog.info? 93).map (·.size) = some 1 := by kernel_rfl
theorem inf93 : (Tryz.prog.info? 93).map (fun i => (i.zero, i.size, i.bytes)) = some (some (.agg #[.pointer none]), 1, 8) := by kernel_rfl
theorem isz94 : (Tryz.prog.info? 94).map (·.size) = some 1 := by kernel_rfl
theorem inf94 : (Tryz.prog.info? 94).map (fun i => (i.zero, i.size, i.bytes)) = some (some (.agg #[.pointer none]), 1, 8) := by kernel_rfl
theorem isz95 : (Tryz.prog.info? 95).map (·.size) = some 1 := by kernel_rfl
theorem inf95 : (Tryz.prog.info? 95).map (fun i => (i.zero, i.size, i.bytes)) = some (some (.pointer none), 1, 8) := by kernel_rfl
theorem isz96 : (Tryz.prog.info? 96).map (·.size) = some 1 := by kernel_rfl
theorem inf96 : (Tryz.prog.info? 96).map (fun i => (i.zero, i.size, i.bytes)) = some (some (.nilFunc), 1, 8) := by kernel_rfl
theorem isz97 : (Tryz.prog.info? 97).map (·.size) = some 1 := by kernel_rfl
theorem inf97 : (Tryz.prog.info? 97).map (fun i => (i.zero, i.size, i.bytes)) = some (some (.nilFunc), 1, 8) := by kernel_rfl
theorem isz98 : (Tryz.prog.info? 98).map (·.size) = some 1 := by kernel_rfl
theorem inf98 : (Tryz.prog.info? 98).map (fun i => (i.zero, i.size, i.bytes)) = some (some (.nilIface), 1, 16) := by kernel_rfl
theorem isz99 : (Tryz.prog.info? 99).map (·.size) = some 1 := by kernel_rfl
theorem inf99 : (Tryz.prog.info? 99).map (fun i => (i.zero, i.size, i.bytes)) = some (some (.tuple #[.nilIface, .bool false]), 1, 0) := by kernel_rfl
theorem isz100 : (Tryz.prog.info? 100).map (·.size) = some 1 := by kernel_rfl
theorem inf100 : (Tryz.prog.info? 100).map (fun i => (i.zero, i.size, i.bytes)) = some (some (.nilFunc), 1, 8) := by kernel_rfl
theorem isz101 : (Tryz.prog.info? 101).map (·.size) = some 1 := by kernel_rfl
theorem inf101 : (Tryz.prog.info? 101).map (fun i => (i.zero, i.size, i.bytes)) = some (some (.nilIface), 1, 16) := by kernel_rfl
theorem isz102 : (Tryz.prog.info? 102).map (·.size) = some 1 := by kernel_rfl
theorem inf102 : (Tryz.prog.info? 102).map (fun i => (i.zero, i.size, i.bytes)) = some (some (.nilFunc), 1, 8) := by kernel_rfl
theorem isz103 : (Tryz.prog.info? 103).map (·.size) = some 1 := by kernel_rfl
theorem inf103 : (Tryz.prog.info? 103).map (fun i => (i.zero, i.size, i.bytes)) = some (some (.nilIface), 1, 16) := by kernel_rfl
theorem isz104 : (Tryz.prog.info? 104).map (·.size) = some 1 := by kernel_rfl
theorem inf104 : (Tryz.prog.info? 104).map (fun i => (i.zero, i.size, i.bytes)) = some (some (.slice none 0 0), 1, 24) := by kernel_rfl
theorem isz105 : (Tryz.prog.info? 105).map (·.size) = some 1 := by kernel_rfl
theorem inf105 : (Tryz.prog.info? 105).map (fun i => (i.zero, i.size, i.bytes)) = some (some (.nilFunc), 1, 8) := by kernel_rfl
theorem isz106 : (Tryz.prog.info? 106).map (·.size) = some 1 := by kernel_rfl
theorem inf106 : (Tryz.prog.info? 106).map (fun i => (i.zero, i.size, i.bytes)) = some (some (.nilIface), 1, 16) := by kernel_rfl
theorem isz107 : (Tryz.prog.info? 107).map (·.size) = some 1 := by kernel_rfl
theorem inf107 : (Tryz.prog.info? 107).map (fun i => (i.zero, i.size, i.bytes)) = some (some (.tuple #[.nilIface, .bool false]), 1, 0) := by kernel_rfl
theorem isz108 : (Tryz.prog.info? 108).map (·.size) = some 1 := by kernel_rfl
theorem inf108 : (Tryz.prog.info? 108).map (fun i => (i.zero, i.size, i.bytes)) = some (some (.nilFunc), 1, 8) := by kernel_rfl
theorem isz109 : (Tryz.prog.info? 109).map (·.size) = some 1 := by kernel_rfl
theorem inf109 : (Tryz.prog.info? 109).map (fun i => (i.zero, i.size, i.bytes)) = some (some (.nilFunc), 1, 8) := by kernel_rfl
theorem isz110 : (Tryz.prog.info? 110).map (·.size) = some 1 := by kernel_rfl
theorem inf110 : (Tryz.prog.info? 110).map (fun i => (i.zero, i.size, i.bytes)) = some (some (.nilFunc), 1, 8) := by kernel_rfl
theorem isz112 : (Tryz.prog.info? 112).map (·.size) = some 2 := by kernel_rfl
theorem inf112 : (Tryz.prog.info? 112).map (fun i => (i.zero, i.size, i.bytes)) = some (some (.agg #[.int .u8 0, .int .u8 0]), 2, 2) := by kernel_rfl
theorem isz113 : (Tryz.prog.info? 113).map (·.size) = some 2 := by kernel_rfl
theorem inf113 : (Tryz.prog.info? 113).map (fun i => (i.zero, i.size, i.bytes)) = some (some (.agg #[.int .u8 0, .int .u8 0]), 2, 2) := by kernel_rfl
theorem isz114 : (Tryz.prog.info? 114).map (·.size) = some 32 := by kernel_rfl
theorem inf114 : (Tryz.prog.info? 114).map (fun i => (i.zero, i.size, i.bytes)) = some (some (.agg #[.int .u8 0, .int .u8 0, .int .u8 0, .int .u8 0, .int .u8 0, .int .u8 0, .int .u8 0, .int .u8 0, .int .u8 0, .int .u8 0, .int .u8 0, .int .u8 0, .int .u8 0, .int .u8 0, .int .u8 0, .int .u8 0, .int .u8 0, .int .u8 0, .int .u8 0, .int .u8 0, .int .u8 0, .int .u8 0, .int .u8 0, .int .u8 0, .int .u8 0, .int .u8 0, .int .u8 0, .int .u8 0, .int .u8 0, .int .u8 0, .int .u8 0, .int .u8 0]), 32, 32) := by kernel_rfl
theorem isz115 : (Tryz.prog.info? 115).map (·.size) = some 1 := by kernel_rfl
theorem inf115 : (Tryz.prog.info? 115).map (fun i => (i.zero, i.size, i.bytes)) = some (some (.int .u64 0), 1, 8) := by kernel_rfl
theorem isz116 : (Tryz.prog.info? 116).map (·.size) = some 1 := by kernel_rfl
theorem inf116 : (Tryz.prog.info? 116).map (fun i => (i.zero, i.size, i.bytes)) = some (some (.nilFunc), 1, 8) := by kernel_rfl
theorem isz117 : (Tryz.prog.info? 117).map (·.size) = some 1 := by kernel_rfl
theorem inf117 : (Tryz.prog.info? 117).map (fun i => (i.zero, i.size, i.bytes)) = some (some (.pointer none), 1, 8) := by kernel_rfl
theorem isz118 : (Tryz.prog.info? 118).map (·.size) = some 1 := by kernel_rfl
theorem inf118 : (Tryz.prog.info? 118).map (fun i => (i.zero, i.size, i.bytes)) = some (some (.nilFunc), 1, 8) := by kernel_rfl
theorem isz119 : (Tryz.prog.info? 119).map (·.size) = some 1 := by kernel_rfl
theorem inf119 : (Tryz.prog.info? 119).map (fun i => (i.zero, i.size, i.bytes)) = some (some (.int .u64 0), 1, 8) := by kernel_rfl
theorem isz120 : (Tryz.prog.info? 120).map (·.size) = some 1 := by kernel_rfl
theorem inf120 : (Tryz.prog.info? 120).map (fun i => (i.zero, i.size, i.bytes)) = some (some (.nilFunc), 1, 8) := by kernel_rfl
theorem isz121 : (Tryz.prog.info? 121).map (·.size) = some 1 := by kernel_rfl
theorem inf121 : (Tryz.prog.info? 121).map (fun i => (i.zero, i.size, i.bytes)) = some (some (.pointer none), 1, 8) := by kernel_rfl
theorem isz122 : (Tryz.prog.info? 122).map (·.size) = some 1 := by kernel_rfl
theorem inf122 : (Tryz.prog.info? 122).map (fun i => (i.zero, i.size, i.bytes)) = some (some (.nilFunc), 1, 8) := by kernel_rfl
theorem isz123 : (Tryz.prog.info? 123).map (·.size) = some 1 := by kernel_rfl
theorem inf123 : (Tryz.prog.info? 123).map (fun i => (i.zero, i.size, i.bytes)) = some (some (.pointer none), 1, 8) := by kernel_rfl
theorem isz124 : (Tryz.prog.info? 124).map (·.size) = some 1 := by kernel_rfl
theorem inf124 : (Tryz.prog.info? 124).map (fun i => (i.zero, i.size, i.bytes)) = some (some (.nilFunc), 1, 8) := by kernel_rfl
theorem isz125 : (Tryz.prog.info? 125).map (·.size) = some 1 := by kernel_rfl
theorem inf125 : (Tryz.prog.info? 125).map (fun i => (i.zero, i.size, i.bytes)) = some (some (.pointer none), 1, 8) := by kernel_rfl
theorem isz126 : (Tryz.prog.info? 126).map (·.size) = some 1 := by kernel_rfl
theorem inf126 : (Tryz.prog.info? 126).map (fun i => (i.zero, i.size, i.bytes)) = some (some (.nilFunc), 1, 8) := by kernel_rfl
theorem isz127 : (Tryz.prog.info? 127).map (·.size) = some 1 := by kernel_rfl
theorem inf127 : (Tryz.prog.info? 127).map (fun i => (i.zero, i.size, i.bytes)) = some (some (.pointer none), 1, 8) := by kernel_rfl
theorem isz128 : (Tryz.prog.info? 128).map (·.size) = some 1 := by kernel_rfl
theorem inf128 : (Tryz.prog.info? 128).map (fun i => (i.zero, i.size, i.bytes)) = some (some (.nilFunc), 1, 8) := by kernel_rfl
theorem isz130 : (Tryz.prog.info? 130).map (·.size) = some 1 := by kernel_rfl
theorem inf130 : (Tryz.prog.info? 130).map (fun i => (i.zero, i.size, i.bytes)) = some (some (.pointer none), 1, 8) := by kernel_rfl
theorem isz134 : (Tryz.prog.info? 134).map (·.size) = some 1 := by kernel_rfl
theorem inf134 : (Tryz.prog.info? 134).map (fun i => (i.zero, i.size, i.bytes)) = some (some (.pointer none), 1, 8) := by kernel_rfl
theorem isz135 : (Tryz.prog.info? 135).map (·.size) = some 1 := by kernel_rfl
theorem inf135 : (Tryz.prog.info? 135).map (fun i => (i.zero, i.size, i.bytes)) = some (some (.pointer none), 1, 8) := by kernel_rfl
theorem isz136 : (Tryz.prog.info? 136).map (·.size) = some 1 := by kernel_rfl
theorem inf136 : (Tryz.prog.info? 136).map (fun i => (i.zero, i.size, i.bytes)) = some (some (.nilFunc), 1, 8) := by kernel_rfl
theorem isz137 : (Tryz.prog.info? 137).map (·.size) = some 1 := by kernel_rfl
theorem inf137 : (Tryz.prog.info? 137).map (fun i => (i.zero, i.size, i.bytes)) = some (some (.nilFunc), 1, 8) := by kernel_rfl
theorem isz138 : (Tryz.prog.info? 138).map (·.size) = some 1 := by kernel_rfl
theorem inf138 : (Tryz.prog.info? 138).map (fun i => (i.zero, i.size, i.bytes)) = some (some (.pointer none), 1, 8) := by kernel_rfl
theorem isz139 : (Tryz.prog.info? 139).map (·.size) = some 1 := by kernel_rfl
theorem inf139 : (Tryz.prog.info? 139).map (fun i => (i.zero, i.size, i.bytes)) = some (some (.nilFunc), 1, 8) := by kernel_rfl
theorem isz140 : (Tryz.prog.info? 140).map (·.size) = some 2 := by kernel_rfl
theorem inf140 : (Tryz.prog.info? 140).map (fun i => (i.zero, i.size, i.bytes)) = some (some (.agg #[.pointer none, .string ⟨#[]⟩]), 2, 24) := by kernel_rfl
theorem isz141 : (Tryz.prog.info? 141).map (·.size) = some 2 := by kernel_rfl
theorem inf141 : (Tryz.prog.info? 141).map (fun i => (i.zero, i.size, i.bytes)) = some (some (.agg #[.pointer none, .string ⟨#[]⟩]), 2, 24) := by kernel_rfl
theorem isz142 : (Tryz.prog.info? 142).map (·.size) = some 1 := by kernel_rfl
theorem inf142 : (Tryz.prog.info? 142).map (fun i => (i.zero, i.size, i.bytes)) = some (some (.pointer none), 1, 8) := by kernel_rfl
theorem isz143 : (Tryz.prog.info? 143).map (·.size) = some 1 := by kernel_rfl
theorem inf143 : (Tryz.prog.info? 143).map (fun i => (i.zero, i.size, i.bytes)) = some (some (.slice none 0 0), 1, 24) := by kernel_rfl
theorem isz144 : (Tryz.prog.info? 144).map (·.size) = some 5 := by kernel_rfl
theorem inf144 : (Tryz.prog.info? 144).map (fun i => (i.zero, i.size, i.bytes)) = some (some (.agg #[.string ⟨#[]⟩, .int .i64 0, .string ⟨#[]⟩, .pointer none, .slice none 0 0]), 5, 72) := by kernel_rfl
theorem isz145 : (Tryz.prog.info? 145).map (·.size) = some 5 := by kernel_rfl
theorem inf145 : (Tryz.prog.info? 145).map (fun i => (i.zero, i.size, i.bytes)) = some (some (.agg #[.string ⟨#[]⟩, .int .i64 0, .string ⟨#[]⟩, .pointer none, .slice none 0 0]), 5, 72) := by kernel_rfl
theorem isz148 : (Tryz.prog.info? 148).map (·.size) = some 1 := by kernel_rfl
theorem inf148 : (Tryz.prog.info? 148).map (fun i => (i.zero, i.size, i.bytes)) = some (some (.nilFunc), 1, 8) := by kernel_rfl
theorem isz149 : (Tryz.prog.info? 149).map (·.size) = some 1 := by kernel_rfl
theorem inf149 : (Tryz.prog.info? 149).map (fun i => (i.zero, i.size, i.bytes)) = some (some (.pointer none), 1, 8) := by kernel_rfl
theorem isz150 : (Tryz.prog.info? 150).map (·.size) = some 1 := by kernel_rfl
theorem inf150 : (Tryz.prog.info? 150).map (fun i => (i.zero, i.size, i.bytes)) = some (some (.nilFunc), 1, 8) := by kernel_rfl
theorem isz151 : (Tryz.prog.info? 151).map (·.size) = some 1 := by kernel_rfl
theorem inf151 : (Tryz.prog.info? 151).map (fun i => (i.zero, i.size, i.bytes)) = some (some (.pointer none), 1, 8) := by kernel_rfl
theorem isz152 : (Tryz.prog.info? 152).map (·.size) = some 1 := by kernel_rfl
theorem inf152 : (Tryz.prog.info? 152).map (fun i => (i.zero, i.size, i.bytes)) = some (some (.nilFunc), 1, 8) := by kernel_rfl
theorem isz153 : (Tryz.prog.info? 153).map (·.size) = some 1 := by kernel_rfl
theorem inf153 : (Tryz.prog.info? 153).map (fun i => (i.zero, i.size, i.bytes)) = some (some (.nilFunc), 1, 8) := by kernel_rfl
theorem isz154 : (Tryz.prog.info? 154).map (·.size) = some 1 := by kernel_rfl
theorem inf154 : (Tryz.prog.info? 154).map (fun i => (i.zero, i.size, i.bytes)) = some (some (.nilFunc), 1, 8) := by kernel_rfl
theorem isz158 : (Tryz.prog.info? 158).map (·.size) = some 1 := by kernel_rfl
theorem inf158 : (Tryz.prog.info? 158).map (fun i => (i.zero, i.size, i.bytes)) = some (some (.nilFunc), 1, 8) := by kernel_rfl
theorem isz159 : (Tryz.prog.info? 159).map (·.size) = some 1 := by kernel_rfl
theorem inf159 : (Tryz.prog.info? 159).map (fun i => (i.zero, i.size, i.bytes)) = some (some (.nilFunc), 1, 8) := by kernel_rfl
theorem isz160 : (Tryz.prog.info? 160).map (·.size) = some 1 := by kernel_rfl
theorem inf160 : (Tryz.prog.info? 160).map (fun i => (i.zero, i.size, i.bytes)) = some (some (.nilFunc), 1, 8) := by kernel_rfl
theorem isz161 : (Tryz.prog.info? 161).map (·.size) = some 1 := by kernel_rfl
theorem inf161 : (Tryz.prog.info? 161).map (fun i => (i.zero, i.size, i.bytes)) = some (some (.nilFunc), 1, 8) := by kernel_rfl
theorem isz162 : (Tryz.prog.info? 162).map (·.size) = some 1 := by kernel_rfl
theorem inf162 : (Tryz.prog.info? 162).map (fun i => (i.zero, i.size, i.bytes)) = some (some (.nilFunc), 1, 8) := by kernel_rfl
theorem isz163 : (Tryz.prog.info? 163).map (·.size) = some 4 := by kernel_rfl
theorem inf163 : (Tryz.prog.info? 163).map (fun i => (i.zero, i.size, i.bytes)) = some (some (.agg #[.pointer none, .pointer none, .pointer none, .string ⟨#[]⟩]), 4, 40) := by kernel_rfl
theorem isz164 : (Tryz.prog.info? 164).map (·.size) = some 4 := by kernel_rfl
theorem inf164 : (Tryz.prog.info? 164).map (fun i => (i.zero, i.size, i.bytes)) = some (some (.agg #[.pointer none, .pointer none, .pointer none, .string ⟨#[]⟩]), 4, 40) := by kernel_rfl
theorem isz165 : (Tryz.prog.info? 165).map (·.size) = some 0 := by kernel_rfl
theorem inf165 : (Tryz.prog.info? 165).map (fun i => (i.zero, i.size, i.bytes)) = some (some (.agg #[]), 0, 0) := by kernel_rfl
theorem isz166 : (Tryz.prog.info? 166).map (·.size) = some 0 := by kernel_rfl
theorem inf166 : (Tryz.prog.info? 166).map (fun i => (i.zero, i.size, i.bytes)) = some (some (.agg #[]), 0, 0) := by kernel_rfl
theorem isz167 : (Tryz.prog.info? 167).map (·.size) = some 0 := by kernel_rfl
theorem inf167 : (Tryz.prog.info? 167).map (fun i => (i.zero, i.size, i.bytes)) = some (some (.agg #[]), 0, 0) := by kernel_rfl
theorem isz168 : (Tryz.prog.info? 168).map (·.size) = some 1 := by kernel_rfl
theorem inf168 : (Tryz.prog.info? 168).map (fun i => (i.zero, i.size, i.bytes)) = some (some (.nilFunc), 1, 8) := by kernel_rfl
theorem isz169 : (Tryz.prog.info? 169).map (·.size) = some 1 := by kernel_rfl
theorem inf169 : (Tryz.prog.info? 169).map (fun i => (i.zero, i.size, i.bytes)) = some (some (.nilFunc), 1, 8) := by kernel_rfl
theorem isz170 : (Tryz.prog.info? 170).map (·.size) = some 1 := by kernel_rfl
theorem inf170 : (Tryz.prog.info? 170).map (fun i => (i.zero, i.size, i.bytes)) = some (some (.int .u8 0), 1, 1) := by kernel_rfl
theorem isz171 : (Tryz.prog.info? 171).map (·.size) = some 1 := by kernel_rfl
theorem inf171 : (Tryz.prog.info? 171).map (fun i => (i.zero, i.size, i.bytes)) = some (some (.nilFunc), 1, 8) := by kernel_rfl
theorem isz172 : (Tryz.prog.info? 172).map (·.size) = some 1 := by kernel_rfl
theorem inf172 : (Tryz.prog.info? 172).map (fun i => (i.zero, i.size, i.bytes)) = some (some (.int .i32 0), 1, 4) := by kernel_rfl
theorem isz173 : (Tryz.prog.info? 173).map (·.size) = some 1 := by kernel_rfl
theorem inf173 : (Tryz.prog.info? 173).map (fun i => (i.zero, i.size, i.bytes)) = some (some (.int .i32 0), 1, 4) := by kernel_rfl
theorem isz174 : (Tryz.prog.info? 174).map (·.size) = some 11 := by kernel_rfl
theorem inf174 : (Tryz.prog.info? 174).map (fun i => (i.zero, i.size, i.bytes)) = some (some (.agg #[.int .u64 0, .int .u64 0, .int .u32 0, .int .u8 0, .int .u8 0, .int .u8 0, .int .u8 0, .nilFunc, .pointer none, .int .i32 0, .int .i32 0]), 11, 48) := by kernel_rfl
theorem isz175 : (Tryz.prog.info? 175).map (·.size) = some 11 := by kernel_rfl
theorem inf175 : (Tryz.prog.info? 175).map (fun i => (i.zero, i.size, i.bytes)) = some (some (.agg #[.int .u64 0, .int .u64 0, .int .u32 0, .int .u8 0, .int .u8 0, .int .u8 0, .int .u8 0, .nilFunc, .pointer none, .int .i32 0, .int .i32 0]), 11, 48) := by kernel_rfl
theorem isz176 : (Tryz.prog.info? 176).map (·.size) = some 1 := by kernel_rfl
theorem inf176 : (Tryz.prog.info? 176).map (fun i => (i.zero, i.size, i.bytes)) = some (some (.nilFunc), 1, 8) := by kernel_rfl
theorem isz177 : (Tryz.prog.info? 177).map (·.size) = some 1 := by kernel_rfl
theorem inf177 : (Tryz.prog.info? 177).map (fun i => (i.zero, i.size, i.bytes)) = some (some (.nilFunc), 1, 8) := by kernel_rfl
theorem isz178 : (Tryz.prog.info? 178).map (·.size) = some 1 := by kernel_rfl
theorem inf178 : (Tryz.prog.info? 178).map (fun i => (i.zero, i.size, i.bytes)) = some (some (.nilFunc), 1, 8) := by kernel_rfl
theorem isz179 : (Tryz.prog.info? 179).map (·.size) = some 2 := by kernel_rfl
theorem inf179 : (Tryz.prog.info? 179).map (fun i => (i.zero, i.size, i.bytes)) = some (some (.agg #[.string ⟨#[]⟩, .int .u8 0]), 2, 24) := by kernel_rfl
theorem isz180 : (Tryz.prog.info? 180).map (·.size) = some 2 := by kernel_rfl
theorem inf180 : (Tryz.prog.info? 180).map (fun i => (i.zero, i.size, i.bytes)) = some (some (.agg #[.string ⟨#[]⟩, .int .u8 0]), 2, 24) := by kernel_rfl
theorem isz181 : (Tryz.prog.info? 181).map (·.size) = some 1 := by kernel_rfl
theorem inf181 : (Tryz.prog.info? 181).map (fun i => (i.zero, i.size, i.bytes)) = some (some (.nilFunc), 1, 8) := by kernel_rfl
theorem isz182 : (Tryz.prog.info? 182).map (·.size) = some 1 := by kernel_rfl
theorem inf182 : (Tryz.prog.info? 182).map (fun i => (i.zero, i.size, i.bytes)) = some (some (.nilFunc), 1, 8) := by kernel_rfl
theorem isz183 : (Tryz.prog.info? 183).map (·.size) = some 1 := by kernel_rfl
theorem inf183 : (Tryz.prog.info? 183).map (fun i => (i.zero, i.size, i.bytes)) = some (some (.tuple #[.int .i64 0, .nilIface]), 1, 0) := by kernel_rfl
theorem isz184 : (Tryz.prog.info? 184).map (·.size) = some 1 := by kernel_rfl
theorem inf184 : (Tryz.prog.info? 184).map (fun i => (i.zero, i.size, i.bytes)) = some (some (.nilFunc), 1, 8) := by kernel_rfl
theorem isz185 : (Tryz.prog.info? 185).map (·.size) = some 1 := by kernel_rfl
theorem inf185 : (Tryz.prog.info? 185).map (fun i => (i.zero, i.size, i.bytes)) = some (some (.nilFunc), 1, 8) := by kernel_rfl
theorem isz186 : (Tryz.prog.info? 186).map (·.size) = some 1 := by kernel_rfl
theorem inf186 : (Tryz.prog.info? 186).map (fun i => (i.zero, i.size, i.bytes)) = some (some (.slice none 0 0), 1, 24) := by kernel_rfl
theorem isz187 : (Tryz.prog.info? 187).map (·.size) = some 1 := by kernel_rfl
theorem inf187 : (Tryz.prog.info? 187).map (fun i => (i.zero, i.size, i.bytes)) = some (some (.pointer none), 1, 8) := by kernel_rfl
theorem isz188 : (Tryz.prog.info? 188).map (·.size) = some 1 := by kernel_rfl
theorem inf188 : (Tryz.prog.info? 188).map (fun i => (i.zero, i.size, i.bytes)) = some (some (.nilIface), 1, 16) := by kernel_rfl
theorem isz189 : (Tryz.prog.info? 189).map (·.size) = some 1 := by kernel_rfl
theorem inf189 : (Tryz.prog.info? 189).map (fun i => (i.zero, i.size, i.bytes)) = some (some (.nilIface), 1, 16) := by kernel_rfl
theorem isz190 : (Tryz.prog.info? 190).map (·.size) = some 1 := by kernel_rfl
theorem inf190 : (Tryz.prog.info? 190).map (fun i => (i.zero, i.size, i.bytes)) = some (some (.nilIface), 1, 16) := by kernel_rfl
theorem isz191 : (Tryz.prog.info? 191).map (·.size) = some 1 := by kernel_rfl
theorem inf191 : (Tryz.prog.info? 191).map (fun i => (i.zero, i.size, i.bytes)) = some (some (.nilIface), 1, 16) := by kernel_rfl
theorem isz192 : (Tryz.prog.info? 192).map (·.size) = some 1 := by kernel_rfl
theorem inf192 : (Tryz.prog.info? 192).map (fun i => (i.zero, i.size, i.bytes)) = some (some (.nilFunc), 1, 8) := by kernel_rfl
theorem isz193 : (Tryz.prog.info? 193).map (·.size) = some 1 := by kernel_rfl
theorem inf193 : (Tryz.prog.info? 193).map (fun i => (i.zero, i.size, i.bytes)) = some (some (.tuple #[.string ⟨#[]⟩, .int .i64 0, .bool false]), 1, 0) := by kernel_rfl
theorem isz194 : (Tryz.prog.info? 194).map (·.size) = some 1 := by kernel_rfl
theorem inf194 : (Tryz.prog.info? 194).map (fun i => (i.zero, i.size, i.bytes)) = some (some (.nilFunc), 1, 8) := by kernel_rfl
theorem isz195 : (Tryz.prog.info? 195).map (·.size) = some 1 := by kernel_rfl
theorem inf195 : (Tryz.prog.info? 195).map (fun i => (i.zero, i.size, i.bytes)) = some (some (.tuple #[.nilIface, .bool false]), 1, 0) := by kernel_rfl
theorem isz196 : (Tryz.prog.info? 196).map (·.size) = some 1 := by kernel_rfl
theorem inf196 : (Tryz.prog.info? 196).map (fun i => (i.zero, i.size, i.bytes)) = some (some (.agg #[.nilIface]), 1, 16) := by kernel_rfl
theorem isz197 : (Tryz.prog.info? 197).map (·.size) = some 1 := by kernel_rfl
theorem inf197 : (Tryz.prog.info? 197).map (fun i => (i.zero, i.size, i.bytes)) = some (some (.agg #[.nilIface]), 1, 16) := by kernel_rfl
theorem isz198 : (Tryz.prog.info? 198).map (·.size) = some 1 := by kernel_rfl
theorem inf198 : (Tryz.prog.info? 198).map (fun i => (i.zero, i.size, i.bytes)) = some (some (.nilFunc), 1, 8) := by kernel_rfl
theorem isz199 : (Tryz.prog.info? 199).map (·.size) = some 1 := by kernel_rfl
theorem inf199 : (Tryz.prog.info? 199).map (fun i => (i.zero, i.size, i.bytes)) = some (some (.nilFunc), 1, 8) := by kernel_rfl
theorem isz200 : (Tryz.prog.info? 200).map (·.size) = some 1 := by kernel_rfl
theorem inf200 : (Tryz.prog.info? 200).map (fun i => (i.zero, i.size, i.bytes)) = some (some (.nilFunc), 1, 8) := by kernel_rfl
theorem isz201 : (Tryz.prog.info? 201).map (·.size) = some 1 := by kernel_rfl
theorem inf201 : (Tryz.prog.info? 201).map (fun i => (i.zero, i.size, i.bytes)) = some (some (.tuple #[.int .u32 0, .int .u32 0]), 1, 0) := by kernel_rfl
theorem isz202 : (Tryz.prog.info? 202).map (·.size) = some 1 := by kernel_rfl
theorem inf202 : (Tryz.prog.info? 202).map (fun i => (i.zero, i.size, i.bytes)) = some (some (.nilFunc), 1, 8) := by kernel_rfl
theorem isz203 : (Tryz.prog.info? 203).map (·.size) = some 1 := by kernel_rfl
theorem inf203 : (Tryz.prog.info? 203).map (fun i => (i.zero, i.size, i.bytes)) = some (some (.pointer none), 1, 8) := by kernel_rfl
theorem isz204 : (Tryz.prog.info? 204).map (·.size) = some 1 := by kernel_rfl
theorem inf204 : (Tryz.prog.info? 204).map (fun i => (i.zero, i.size, i.bytes)) = some (some (.nilFunc), 1, 8) := by kernel_rfl
theorem isz205 : (Tryz.prog.info? 205).map (·.size) = some 1 := by kernel_rfl
theorem inf205 : (Tryz.prog.info? 205).map (fun i => (i.zero, i.size, i.bytes)) = some (some (.int .u16 0), 1, 2) := by kernel_rfl
theorem isz206 : (Tryz.prog.info? 206).map (·.size) = some 5 := by kernel_rfl
theorem inf206 : (Tryz.prog.info? 206).map (fun i => (i.zero, i.size, i.bytes)) = some (some (.agg #[.int .i32 0, .int .u16 0, .int .u16 0, .int .u32 0, .int .u32 0]), 5, 16) := by kernel_rfl
theorem isz207 : (Tryz.prog.info? 207).map (·.size) = some 5 := by kernel_rfl
theorem inf207 : (Tryz.prog.info? 207).map (fun i => (i.zero, i.size, i.bytes)) = some (some (.agg #[.int .i32 0, .int .u16 0, .int .u16 0, .int .u32 0, .int .u32 0]), 5, 16) := by kernel_rfl
theorem isz208 : (Tryz.prog.info? 208).map (·.size) = some 1 := by kernel_rfl
theorem inf208 : (Tryz.prog.info? 208).map (fun i => (i.zero, i.size, i.bytes)) = some (some (.slice none 0 0), 1, 24) := by kernel_rfl
theorem isz209 : (Tryz.prog.info? 209).map (·.size) = some 1 := by kernel_rfl
theorem inf209 : (Tryz.prog.info? 209).map (fun i => (i.zero, i.size, i.bytes)) = some (some (.int .i32 0), 1, 4) := by kernel_rfl
theorem isz210 : (Tryz.prog.info? 210).map (·.size) = some 4 := by kernel_rfl
theorem inf210 : (Tryz.prog.info? 210).map (fun i => (i.zero, i.size, i.bytes)) = some (some (.agg #[.int .i32 0, .int .i32 0, .int .i32 0, .int .i32 0]), 4, 16) := by kernel_rfl
theorem isz211 : (Tryz.prog.info? 211).map (·.size) = some 4 := by kernel_rfl
theorem inf211 : (Tryz.prog.info? 211).map (fun i => (i.zero, i.size, i.bytes)) = some (some (.agg #[.int .i32 0, .int .i32 0, .int .i32 0, .int .i32 0]), 4, 16) := by kernel_rfl
theorem isz212 : (Tryz.prog.info? 212).map (·.size) = some 1 := by kernel_rfl
theorem inf212 : (Tryz.prog.info? 212).map (fun i => (i.zero, i.size, i.bytes)) = some (some (.pointer none), 1, 8) := by kernel_rfl
def tyOf_0 : Nat → Option TypeDesc
  | 2 => some (.int .i64)
  | 3 => some (.int .i64)
  | 4 => some (.bool)
  | 5 => some (.int .u8)
  | 6 => some (.int .u8)
  | 9 => some (.string)
  | 10 => some (.string)
  | 11 => some (.string)
  | 12 => some (.int .u64)
  | 15 => some (.pointer 164)
  | 16 => some (.pointer 167)
  | 17 => some (.pointer 175)
  | 21 => some (.int .i32)
  | 33 => some (.slice 9)
  | 34 => some (.slice 3)
  | 38 => some (.int .i64)
  | 49 => some (.pointer 47)
  | 51 => some (.pointer 54)
  | 52 => some (.slice 5)
  | 57 => some (.pointer 91)
  | 61 => some (.int .u64)
  | 68 => some (.int .u8)
  | 75 => some (.pointer 5)
  | 79 => some (.int .u32)
  | 95 => some (.pointer 180)
  | 104 => some (.slice 24)
  | 111 => some (.array 256 5)
  | 114 => some (.array 16 113)
  | 115 => some (.int .u64)
  | 117 => some (.pointer 87)
  | 119 => some (.int .u64)
  | 121 => some (.pointer 81)
  | 123 => some (.pointer 79)
  | 125 => some (.pointer 141)
  | 127 => some (.pointer 147)
  | 129 => some (.array 256 5)
  | 130 => some (.pointer 129)
  | 131 => some (.array 256 52)
  | 134 => some (.pointer 133)
  | 135 => some (.pointer 85)
  | 138 => some (.pointer 157)
  | 142 => some (.pointer 145)
  | 143 => some (.slice 142)
  | 149 => some (.pointer 83)
  | 151 => some (.pointer 21)
  | 155 => some (.array 256 3)
  | 165 => some (.array 0 16)
  | 170 => some (.int .u8)
  | 172 => some (.int .i32)
  | 173 => some (.int .i32)
  | _ => none
set_option maxHeartbeats 8000000 in
theorem und_0 (t : Nat) (d : TypeDesc) (h : tyOf_0 t = some d) : Tryz.prog.underlying t = some d := by
  unfold tyOf_0 at h
  split at h
  · cases h; exact Tryz.underlying2
  · cases h; exact Tryz.underlying3
  · cases h; exact Tryz.underlying4
  · cases h; exact Tryz.underlying5
  · cases h; exact Tryz.underlying6
  · cases h; exact Tryz.underlying9
  · cases h; exact Tryz.underlying10
  · cases h; exact Tryz.underlying11
  · cases h; exact Tryz.underlying12
  · cases h; exact Tryz.underlying15
  · cases h; exact Tryz.underlying16
  · cases h; exact Tryz.underlying17
  · cases h; exact Tryz.underlying21
  · cases h; exact Tryz.underlying33
  · cases h; exact Tryz.underlying34
  · cases h; exact Tryz.underlying38
  · cases h; exact Tryz.underlying49
  · cases h; exact Tryz.underlying51
  · cases h; exact Tryz.underlying52
  · cases h; exact Tryz.underlying57
  · cases h; exact Tryz.underlying61
  · cases h; exact Tryz.underlying68
  · cases h; exact Tryz.underlying75
  · cases h; exact Tryz.underlying79
  · cases h; exact Tryz.underlying95
  · cases h; exact Tryz.underlying104
  · cases h; exact Tryz.underlying111
  · cases h; exact Tryz.underlying114
  · cases h; exact Tryz.underlying115
  · cases h; exact Tryz.underlying117
  · cases h; exact Tryz.underlying119
  · cases h; exact Tryz.underlying121
  · cases h; exact Tryz.underlying123
  · cases h; exact Tryz.underlying125
  · cases h; exact Tryz.underlying127
  · cases h; exact Tryz.underlying129
  · cases h; exact Tryz.underlying130
  · cases h; exact Tryz.underlying131
  · cases h; exact Tryz.underlying134
  · cases h; exact Tryz.underlying135
  · cases h; exact Tryz.underlying138
  · cases h; exact Tryz.underlying142
  · cases h; exact Tryz.underlying143
  · cases h; exact Tryz.underlying149
  · cases h; exact Tryz.underlying151
  · cases h; exact Tryz.underlying155
  · cases h; exact Tryz.underlying165
  · cases h; exact Tryz.underlying170
  · cases h; exact Tryz.underlying172
  · cases h; exact Tryz.underlying173
  · cases h
def tyOf_1 : Nat → Option TypeDesc
  | 186 => some (.slice 5)
  | 187 => some (.pointer 186)
  | 203 => some (.pointer 207)
  | 205 => some (.int .u16)
  | 208 => some (.slice 211)
  | 209 => some (.int .i32)
  | 212 => some (.pointer 24)
  | _ => none
set_option maxHeartbeats 8000000 in
theorem und_1 (t : Nat) (d : TypeDesc) (h : tyOf_1 t = some d) : Tryz.prog.underlying t = some d := by
  unfold tyOf_1 at h
  split at h
  · cases h; exact Tryz.underlying186
  · cases h; exact Tryz.underlying187
  · cases h; exact Tryz.underlying203
  · cases h; exact Tryz.underlying205
  · cases h; exact Tryz.underlying208
  · cases h; exact Tryz.underlying209
  · cases h; exact Tryz.underlying212
  · cases h
def tyOf (t : Nat) : Option TypeDesc := (match tyOf_0 t with | some x => some x | none => (match tyOf_1 t with | some x => some x | none => none))
theorem und (t : Nat) (d : TypeDesc) (h : tyOf t = some d) : Tryz.prog.underlying t = some d := by
  unfold tyOf at h
  cases e0 : tyOf_0 t with
  | some x => rw [e0] at h; exact und_0 t _ (e0.trans h)
  | none =>
  rw [e0] at h
  dsimp only at h
  cases e1 : tyOf_1 t with
  | some x => rw [e1] at h; exact und_1 t _ (e1.trans h)
  | none =>
  rw [e1] at h
  dsimp only at h
  cases h
def szOf_0 : Nat → Option Nat
  | 0 => some (1)
  | 1 => some (1)
  | 2 => some (1)
  | 3 => some (1)
  | 4 => some (1)
  | 5 => some (1)
  | 6 => some (1)
  | 7 => some (4)
  | 8 => some (4)
  | 9 => some (1)
  | 10 => some (1)
  | 11 => some (1)
  | 12 => some (1)
  | 13 => some (2)
  | 14 => some (2)
  | 15 => some (1)
  | 16 => some (1)
  | 17 => some (1)
  | 18 => some (1)
  | 19 => some (1)
  | 20 => some (1)
  | 21 => some (1)
  | 22 => some (1)
  | 23 => some (1)
  | 24 => some (1)
  | 25 => some (1)
  | 26 => some (1)
  | 27 => some (1)
  | 28 => some (1)
  | 29 => some (1)
  | 30 => some (1)
  | 31 => some (1)
  | 32 => some (1)
  | 33 => some (1)
  | 34 => some (1)
  | 35 => some (1)
  | 36 => some (1)
  | 37 => some (1)
  | 38 => some (1)
  | 39 => some (1)
  | 40 => some (1)
  | 41 => some (1)
  | 42 => some (2)
  | 43 => some (2)
  | 44 => some (1)
  | 45 => some (1)
  | 46 => some (3)
  | 47 => some (3)
  | 48 => some (1)
  | 49 => some (1)
  | _ => none
set_option maxHeartbeats 8000000 in
theorem isz_0 (t : Nat) (n : Nat) (h : szOf_0 t = some n) : (Tryz.prog.info? t).map (·.size) = some n := by
  unfold szOf_0 at h
  split at h
  · cases h; exact isz0
  · cases h; exact isz1
  · cases h; exact isz2
  · cases h; exact isz3
  · cases h; exact isz4
  · cases h; exact isz5
  · cases h; exact isz6
  · cases h; exact isz7
  · cases h; exact isz8
  · cases h; exact isz9
  · cases h; exact isz10
  · cases h; exact isz11
  · cases h; exact isz12
  · cases h; exact isz13
  · cases h; exact isz14
  · cases h; exact isz15
  · cases h; exact isz16
  · cases h; exact isz17
  · cases h; exact isz18
  · cases h; exact isz19
  · cases h; exact isz20
  · cases h; exact isz21
  · cases h; exact isz22
  · cases h; exact isz23
  · cases h; exact isz24
  · cases h; exact isz25
  · cases h; exact isz26
  · cases h; exact isz27
  · cases h; exact isz28
  · cases h; exact isz29
  · cases h; exact isz30
  · cases h; exact isz31
  · cases h; exact isz32
  · cases h; exact isz33
  · cases h; exact isz34
  · cases h; exact isz35
  · cases h; exact isz36
  · cases h; exact isz37
  · cases h; exact isz38
  · cases h; exact isz39
  · cases h; exact isz40
  · cases h; exact isz41
  · cases h; exact isz42
  · cases h; exact isz43
  · cases h; exact isz44
  · cases h; exact isz45
  · cases h; exact isz46
  · cases h; exact isz47
  · cases h; exact isz48
  · cases h; exact isz49
  · cases h
def szOf_1 : Nat → Option Nat
  | 50 => some (1)
  | 51 => some (1)
  | 52 => some (1)
  | 53 => some (2)
  | 54 => some (2)
  | 55 => some (1)
  | 56 => some (1)
  | 57 => some (1)
  | 58 => some (1)
  | 59 => some (1)
  | 60 => some (1)
  | 61 => some (1)
  | 62 => some (3)
  | 63 => some (3)
  | 64 => some (1)
  | 65 => some (1)
  | 66 => some (1)
  | 67 => some (1)
  | 68 => some (1)
  | 69 => some (1)
  | 70 => some (1)
  | 71 => some (1)
  | 72 => some (1)
  | 73 => some (1)
  | 74 => some (1)
  | 75 => some (1)
  | 76 => some (0)
  | 77 => some (0)
  | 78 => some (0)
  | 79 => some (1)
  | 80 => some (1)
  | 81 => some (1)
  | 82 => some (2)
  | 83 => some (2)
  | 84 => some (2)
  | 85 => some (2)
  | 86 => some (3)
  | 87 => some (3)
  | 88 => some (1)
  | 89 => some (1)
  | 90 => some (5)
  | 91 => some (5)
  | 92 => some (1)
  | 93 => some (1)
  | 94 => some (1)
  | 95 => some (1)
  | 96 => some (1)
  | 97 => some (1)
  | 98 => some (1)
  | 99 => some (1)
  | _ => none
set_option maxHeartbeats 8000000 in
theorem isz_1 (t : Nat) (n : Nat) (h : szOf_1 t = some n) : (Tryz.prog.info? t).map (·.size) = some n := by
  unfold szOf_1 at h
  split at h
  · cases h; exact isz50
  · cases h; exact isz51
  · cases h; exact isz52
  · cases h; exact isz53
  · cases h; exact isz54
  · cases h; exact isz55
  · cases h; exact isz56
  · cases h; exact isz57
  · cases h; exact isz58
  · cases h; exact isz59
  · cases h; exact isz60
  · cases h; exact isz61
  · cases h; exact isz62
  · cases h; exact isz63
  · cases h; exact isz64
  · cases h; exact isz65
  · cases h; exact isz66
  · cases h; exact isz67
  · cases h; exact isz68
  · cases h; exact isz69
  · cases h; exact isz70
  · cases h; exact isz71
  · cases h; exact isz72
  · cases h; exact isz73
  · cases h; exact isz74
  · cases h; exact isz75
  · cases h; exact isz76
  · cases h; exact isz77
  · cases h; exact isz78
  · cases h; exact isz79
  · cases h; exact isz80
  · cases h; exact isz81
  · cases h; exact isz82
  · cases h; exact isz83
  · cases h; exact isz84
  · cases h; exact isz85
  · cases h; exact isz86
  · cases h; exact isz87
  · cases h; exact isz88
  · cases h; exact isz89
  · cases h; exact isz90
  · cases h; exact isz91
  · cases h; exact isz92
  · cases h; exact isz93
  · cases h; exact isz94
  · cases h; exact isz95
  · cases h; exact isz96
  · cases h; exact isz97
  · cases h; exact isz98
  · cases h; exact isz99
  · cases h
def szOf_2 : Nat → Option Nat
  | 100 => some (1)
  | 101 => some (1)
  | 102 => some (1)
  | 103 => some (1)
  | 104 => some (1)
  | 105 => some (1)
  | 106 => some (1)
  | 107 => some (1)
  | 108 => some (1)
  | 109 => some (1)
  | 110 => some (1)
  | 112 => some (2)
  | 113 => some (2)
  | 114 => some (32)
  | 115 => some (1)
  | 116 => some (1)
  | 117 => some (1)
  | 118 => some (1)
  | 119 => some (1)
  | 120 => some (1)
  | 121 => some (1)
  | 122 => some (1)
  | 123 => some (1)
  | 124 => some (1)
  | 125 => some (1)
  | 126 => some (1)
  | 127 => some (1)
  | 128 => some (1)
  | 130 => some (1)
  | 134 => some (1)
  | 135 => some (1)
  | 136 => some (1)
  | 137 => some (1)
  | 138 => some (1)
  | 139 => some (1)
  | 140 => some (2)
  | 141 => some (2)
  | 142 => some (1)
  | 143 => some (1)
  | 144 => some (5)
  | 145 => some (5)
  | 148 => some (1)
  | 149 => some (1)
  | 150 => some (1)
  | 151 => some (1)
  | 152 => some (1)
  | 153 => some (1)
  | 154 => some (1)
  | 158 => some (1)
  | 159 => some (1)
  | _ => none
set_option maxHeartbeats 8000000 in
theorem isz_2 (t : Nat) (n : Nat) (h : szOf_2 t = some n) : (Tryz.prog.info? t).map (·.size) = some n := by
  unfold szOf_2 at h
  split at h
  · cases h; exact isz100
  · cases h; exact isz101
  · cases h; exact isz102
  · cases h; exact isz103
  · cases h; exact isz104
  · cases h; exact isz105
  · cases h; exact isz106
  · cases h; exact isz107
  · cases h; exact isz108
  · cases h; exact isz109
  · cases h; exact isz110
  · cases h; exact isz112
  · cases h; exact isz113
  · cases h; exact isz114
  · cases h; exact isz115
  · cases h; exact isz116
  · cases h; exact isz117
  · cases h; exact isz118
  · cases h; exact isz119
  · cases h; exact isz120
  · cases h; exact isz121
  · cases h; exact isz122
  · cases h; exact isz123
  · cases h; exact isz124
  · cases h; exact isz125
  · cases h; exact isz126
  · cases h; exact isz127
  · cases h; exact isz128
  · cases h; exact isz130
  · cases h; exact isz134
  · cases h; exact isz135
  · cases h; exact isz136
  · cases h; exact isz137
  · cases h; exact isz138
  · cases h; exact isz139
  · cases h; exact isz140
  · cases h; exact isz141
  · cases h; exact isz142
  · cases h; exact isz143
  · cases h; exact isz144
  · cases h; exact isz145
  · cases h; exact isz148
  · cases h; exact isz149
  · cases h; exact isz150
  · cases h; exact isz151
  · cases h; exact isz152
  · cases h; exact isz153
  · cases h; exact isz154
  · cases h; exact isz158
  · cases h; exact isz159
  · cases h
def szOf_3 : Nat → Option Nat
  | 160 => some (1)
  | 161 => some (1)
  | 162 => some (1)
  | 163 => some (4)
  | 164 => some (4)
  | 165 => some (0)
  | 166 => some (0)
  | 167 => some (0)
  | 168 => some (1)
  | 169 => some (1)
  | 170 => some (1)
  | 171 => some (1)
  | 172 => some (1)
  | 173 => some (1)
  | 174 => some (11)
  | 175 => some (11)
  | 176 => some (1)
  | 177 => some (1)
  | 178 => some (1)
  | 179 => some (2)
  | 180 => some (2)
  | 181 => some (1)
  | 182 => some (1)
  | 183 => some (1)
  | 184 => some (1)
  | 185 => some (1)
  | 186 => some (1)
  | 187 => some (1)
  | 188 => some (1)
  | 189 => some (1)
  | 190 => some (1)
  | 191 => some (1)
  | 192 => some (1)
  | 193 => some (1)
  | 194 => some (1)
  | 195 => some (1)
  | 196 => some (1)
  | 197 => some (1)
  | 198 => some (1)
  | 199 => some (1)
  | 200 => some (1)
  | 201 => some (1)
  | 202 => some (1)
  | 203 => some (1)
  | 204 => some (1)
  | 205 => some (1)
  | 206 => some (5)
  | 207 => some (5)
  | 208 => some (1)
  | 209 => some (1)
  | _ => none
set_option maxHeartbeats 8000000 in
theorem isz_3 (t : Nat) (n : Nat) (h : szOf_3 t = some n) : (Tryz.prog.info? t).map (·.size) = some n := by
  unfold szOf_3 at h
  split at h
  · cases h; exact isz160
  · cases h; exact isz161
  · cases h; exact isz162
  · cases h; exact isz163
  · cases h; exact isz164
  · cases h; exact isz165
  · cases h; exact isz166
  · cases h; exact isz167
  · cases h; exact isz168
  · cases h; exact isz169
  · cases h; exact isz170
  · cases h; exact isz171
  · cases h; exact isz172
  · cases h; exact isz173
  · cases h; exact isz174
  · cases h; exact isz175
  · cases h; exact isz176
  · cases h; exact isz177
  · cases h; exact isz178
  · cases h; exact isz179
  · cases h; exact isz180
  · cases h; exact isz181
  · cases h; exact isz182
  · cases h; exact isz183
  · cases h; exact isz184
  · cases h; exact isz185
  · cases h; exact isz186
  · cases h; exact isz187
  · cases h; exact isz188
  · cases h; exact isz189
  · cases h; exact isz190
  · cases h; exact isz191
  · cases h; exact isz192
  · cases h; exact isz193
  · cases h; exact isz194
  · cases h; exact isz195
  · cases h; exact isz196
  · cases h; exact isz197
  · cases h; exact isz198
  · cases h; exact isz199
  · cases h; exact isz200
  · cases h; exact isz201
  · cases h; exact isz202
  · cases h; exact isz203
  · cases h; exact isz204
  · cases h; exact isz205
  · cases h; exact isz206
  · cases h; exact isz207
  · cases h; exact isz208
  · cases h; exact isz209
  · cases h
def szOf_4 : Nat → Option Nat
  | 210 => some (4)
  | 211 => some (4)
  | 212 => some (1)
  | _ => none
set_option maxHeartbeats 8000000 in
theorem isz_4 (t : Nat) (n : Nat) (h : szOf_4 t = some n) : (Tryz.prog.info? t).map (·.size) = some n := by
  unfold szOf_4 at h
  split at h
  · cases h; exact isz210
  · cases h; exact isz211
  · cases h; exact isz212
  · cases h
def szOf (t : Nat) : Option Nat := (match szOf_0 t with | some x => some x | none => (match szOf_1 t with | some x => some x | none => (match szOf_2 t with | some x => some x | none => (match szOf_3 t with | some x => some x | none => (match szOf_4 t with | some x => some x | none => none)))))
theorem isz (t : Nat) (n : Nat) (h : szOf t = some n) : (Tryz.prog.info? t).map (·.size) = some n := by
  unfold szOf at h
  cases e0 : szOf_0 t with
  | some x => rw [e0] at h; exact isz_0 t _ (e0.trans h)
  | none =>
  rw [e0] at h
  dsimp only at h
  cases e1 : szOf_1 t with
  | some x => rw [e1] at h; exact isz_1 t _ (e1.trans h)
  | none =>
  rw [e1] at h
  dsimp only at h
  cases e2 : szOf_2 t with
  | some x => rw [e2] at h; exact isz_2 t _ (e2.trans h)
  | none =>
  rw [e2] at h
  dsimp only at h
  cases e3 : szOf_3 t with
  | some x => rw [e3] at h; exact isz_3 t _ (e3.trans h)
  | none =>
  rw [e3] at h
  dsimp only at h
  cases e4 : szOf_4 t with
  | some x => rw [e4] at h; exact isz_4 t _ (e4.trans h)
  | none =>
  rw [e4] at h
  dsimp only at h
  cases h
def ifcOf : Nat → Bool
  | 20 => true
  | 23 => true
  | 24 => true
  | 65 => true
  | 66 => true
  | 88 => true
  | 89 => true
  | 98 => true
  | 101 => true
  | 103 => true
  | 106 => true
  | 188 => true
  | 189 => true
  | 190 => true
  | 191 => true
  | _ => false
set_option maxHeartbeats 8000000 in
theorem ifc (t : Nat) (h : ifcOf t = true) : ∃ ms, Tryz.prog.underlying t = some (.interface ms) := by
  unfold ifcOf at h
  split at h
  · exact ⟨_, Tryz.underlying20⟩
  · exact ⟨_, Tryz.underlying23⟩
  · exact ⟨_, Tryz.underlying24⟩
  · exact ⟨_, Tryz.underlying65⟩
  · exact ⟨_, Tryz.underlying66⟩
  · exact ⟨_, Tryz.underlying88⟩
  · exact ⟨_, Tryz.underlying89⟩
  · exact ⟨_, Tryz.underlying98⟩
  · exact ⟨_, Tryz.underlying101⟩
  · exact ⟨_, Tryz.underlying103⟩
  · exact ⟨_, Tryz.underlying106⟩
  · exact ⟨_, Tryz.underlying188⟩
  · exact ⟨_, Tryz.underlying189⟩
  · exact ⟨_, Tryz.underlying190⟩
  · exact ⟨_, Tryz.underlying191⟩
  · cases h
def aggOf_0 : Nat → Bool
  | 7 => true
  | 8 => true
  | 13 => true
  | 14 => true
  | 18 => true
  | 19 => true
  | 42 => true
  | 43 => true
  | 46 => true
  | 47 => true
  | 53 => true
  | 54 => true
  | 62 => true
  | 63 => true
  | 76 => true
  | 77 => true
  | 78 => true
  | 80 => true
  | 81 => true
  | 82 => true
  | 83 => true
  | 84 => true
  | 85 => true
  | 86 => true
  | 87 => true
  | 90 => true
  | 91 => true
  | 93 => true
  | 94 => true
  | 111 => true
  | 112 => true
  | 113 => true
  | 114 => true
  | 129 => true
  | 131 => true
  | 132 => true
  | 133 => true
  | 140 => true
  | 141 => true
  | 144 => true
  | 145 => true
  | 146 => true
  | 147 => true
  | 155 => true
  | 156 => true
  | 157 => true
  | 163 => true
  | 164 => true
  | 165 => true
  | 166 => true
  | _ => false
set_option maxHeartbeats 8000000 in
theorem agg_0 (t : Nat) (h : aggOf_0 t = true) : (Tryz.prog.underlying t).map aggB = some true := by
  unfold aggOf_0 at h
  split at h
  · rw [Tryz.underlying7]; rfl
  · rw [Tryz.underlying8]; rfl
  · rw [Tryz.underlying13]; rfl
  · rw [Tryz.underlying14]; rfl
  · rw [Tryz.underlying18]; rfl
  · rw [Tryz.underlying19]; rfl
  · rw [Tryz.underlying42]; rfl
  · rw [Tryz.underlying43]; rfl
  · rw [Tryz.underlying46]; rfl
  · rw [Tryz.underlying47]; rfl
  · rw [Tryz.underlying53]; rfl
  · rw [Tryz.underlying54]; rfl
  · rw [Tryz.underlying62]; rfl
  · rw [Tryz.underlying63]; rfl
  · rw [Tryz.underlying76]; rfl
  · rw [Tryz.underlying77]; rfl
  · rw [Tryz.underlying78]; rfl
  · rw [Tryz.underlying80]; rfl
  · rw [Tryz.underlying81]; rfl
  · rw [Tryz.underlying82]; rfl
  · rw [Tryz.underlying83]; rfl
  · rw [Tryz.underlying84]; rfl
  · rw [Tryz.underlying85]; rfl
  · rw [Tryz.underlying86]; rfl
  · rw [Tryz.underlying87]; rfl
  · rw [Tryz.underlying90]; rfl
  · rw [Tryz.underlying91]; rfl
  · rw [Tryz.underlying93]; rfl
  · rw [Tryz.underlying94]; rfl
  · rw [Tryz.underlying111]; rfl
  · rw [Tryz.underlying112]; rfl
  · rw [Tryz.underlying113]; rfl
  · rw [Tryz.underlying114]; rfl
  · rw [Tryz.underlying129]; rfl
  · rw [Tryz.underlying131]; rfl
  · rw [Tryz.underlying132]; rfl
  · rw [Tryz.underlying133]; rfl
  · rw [Tryz.underlying140]; rfl
  · rw [Tryz.underlying141]; rfl
  · rw [Tryz.underlying144]; rfl
  · rw [Tryz.underlying145]; rfl
  · rw [Tryz.underlying146]; rfl
  · rw [Tryz.underlying147]; rfl
  · rw [Tryz.underlying155]; rfl
  · rw [Tryz.underlying156]; rfl
  · rw [Tryz.underlying157]; rfl
  · rw [Tryz.underlying163]; rfl
  · rw [Tryz.underlying164]; rfl
  · rw [Tryz.underlying165]; rfl
  · rw [Tryz.underlying166]; rfl
  · cases h
def aggOf_1 : Nat → Bool
  | 167 => true
  | 174 => true
  | 175 => true
  | 179 => true
  | 180 => true
  | 196 => true
  | 197 => true
  | 206 => true
  | 207 => true
  | 210 => true
  | 211 => true
  | _ => false
set_option maxHeartbeats 8000000 in
theorem agg_1 (t : Nat) (h : aggOf_1 t = true) : (Tryz.prog.underlying t).map aggB = some true := by
  unfold aggOf_1 at h
  split at h
  · rw [Tryz.underlying167]; rfl
  · rw [Tryz.underlying174]; rfl
  · rw [Tryz.underlying175]; rfl
  · rw [Tryz.underlying179]; rfl
  · rw [Tryz.underlying180]; rfl
  · rw [Tryz.underlying196]; rfl
  · rw [Tryz.underlying197]; rfl
  · rw [Tryz.underlying206]; rfl
  · rw [Tryz.underlying207]; rfl
  · rw [Tryz.underlying210]; rfl
  · rw [Tryz.underlying211]; rfl
  · cases h
def aggOf (t : Nat) : Bool := (bif aggOf_0 t then true else (bif aggOf_1 t then true else false))
theorem agg (t : Nat) (h : aggOf t = true) : (Tryz.prog.underlying t).map aggB = some true := by
  unfold aggOf at h
  cases e0 : aggOf_0 t with
  | true => exact agg_0 t e0
  | false =>
  rw [e0] at h
  simp only [cond_false] at h
  cases e1 : aggOf_1 t with
  | true => exact agg_1 t e1
  | false =>
  rw [e1] at h
  simp only [cond_false] at h
  cases h
def conOf_0 : Nat → Bool
  | 2 => true
  | 3 => true
  | 4 => true
  | 5 => true
  | 6 => true
  | 7 => true
  | 8 => true
  | 9 => true
  | 10 => true
  | 11 => true
  | 12 => true
  | 13 => true
  | 14 => true
  | 15 => true
  | 16 => true
  | 17 => true
  | 18 => true
  | 19 => true
  | 21 => true
  | 33 => true
  | 34 => true
  | 38 => true
  | 42 => true
  | 43 => true
  | 46 => true
  | 47 => true
  | 49 => true
  | 51 => true
  | 52 => true
  | 53 => true
  | 54 => true
  | 57 => true
  | 61 => true
  | 62 => true
  | 63 => true
  | 68 => true
  | 75 => true
  | 76 => true
  | 77 => true
  | 78 => true
  | 79 => true
  | 80 => true
  | 81 => true
  | 82 => true
  | 83 => true
  | 84 => true
  | 85 => true
  | 86 => true
  | 87 => true
  | 90 => true
  | _ => false
set_option maxHeartbeats 8000000 in
theorem con_0 (t : Nat) (h : conOf_0 t = true) : (Tryz.prog.underlying t).map concB = some true := by
  unfold conOf_0 at h
  split at h
  · rw [Tryz.underlying2]; rfl
  · rw [Tryz.underlying3]; rfl
  · rw [Tryz.underlying4]; rfl
  · rw [Tryz.underlying5]; rfl
  · rw [Tryz.underlying6]; rfl
  · rw [Tryz.underlying7]; rfl
  · rw [Tryz.underlying8]; rfl
  · rw [Tryz.underlying9]; rfl
  · rw [Tryz.underlying10]; rfl
  · rw [Tryz.underlying11]; rfl
  · rw [Tryz.underlying12]; rfl
  · rw [Tryz.underlying13]; rfl
  · rw [Tryz.underlying14]; rfl
  · rw [Tryz.underlying15]; rfl
  · rw [Tryz.underlying16]; rfl
  · rw [Tryz.underlying17]; rfl
  · rw [Tryz.underlying18]; rfl
  · rw [Tryz.underlying19]; rfl
  · rw [Tryz.underlying21]; rfl
  · rw [Tryz.underlying33]; rfl
  · rw [Tryz.underlying34]; rfl
  · rw [Tryz.underlying38]; rfl
  · rw [Tryz.underlying42]; rfl
  · rw [Tryz.underlying43]; rfl
  · rw [Tryz.underlying46]; rfl
  · rw [Tryz.underlying47]; rfl
  · rw [Tryz.underlying49]; rfl
  · rw [Tryz.underlying51]; rfl
  · rw [Tryz.underlying52]; rfl
  · rw [Tryz.underlying53]; rfl
  · rw [Tryz.underlying54]; rfl
  · rw [Tryz.underlying57]; rfl
  · rw [Tryz.underlying61]; rfl
  · rw [Tryz.underlying62]; rfl
  · rw [Tryz.underlying63]; rfl
  · rw [Tryz.underlying68]; rfl
  · rw [Tryz.underlying75]; rfl
  · rw [Tryz.underlying76]; rfl
  · rw [Tryz.underlying77]; rfl
  · rw [Tryz.underlying78]; rfl
  · rw [Tryz.underlying79]; rfl
  · rw [Tryz.underlying80]; rfl
  · rw [Tryz.underlying81]; rfl
  · rw [Tryz.underlying82]; rfl
  · rw [Tryz.underlying83]; rfl
  · rw [Tryz.underlying84]; rfl
  · rw [Tryz.underlying85]; rfl
  · rw [Tryz.underlying86]; rfl
  · rw [Tryz.underlying87]; rfl
  · rw [Tryz.underlying90]; rfl
  · cases h
def conOf_1 : Nat → Bool
  | 91 => true
  | 93 => true
  | 94 => true
  | 95 => true
  | 104 => true
  | 112 => true
  | 113 => true
  | 115 => true
  | 117 => true
  | 119 => true
  | 121 => true
  | 123 => true
  | 125 => true
  | 127 => true
  | 130 => true
  | 132 => true
  | 133 => true
  | 134 => true
  | 135 => true
  | 138 => true
  | 140 => true
  | 141 => true
  | 142 => true
  | 143 => true
  | 144 => true
  | 145 => true
  | 146 => true
  | 147 => true
  | 149 => true
  | 151 => true
  | 156 => true
  | 157 => true
  | 163 => true
  | 164 => true
  | 166 => true
  | 167 => true
  | 170 => true
  | 172 => true
  | 173 => true
  | 174 => true
  | 175 => true
  | 179 => true
  | 180 => true
  | 186 => true
  | 187 => true
  | 196 => true
  | 197 => true
  | 203 => true
  | 205 => true
  | 206 => true
  | _ => false
set_option maxHeartbeats 8000000 in
theorem con_1 (t : Nat) (h : conOf_1 t = true) : (Tryz.prog.underlying t).map concB = some true := by
  unfold conOf_1 at h
  split at h
  · rw [Tryz.underlying91]; rfl
  · rw [Tryz.underlying93]; rfl
  · rw [Tryz.underlying94]; rfl
  · rw [Tryz.underlying95]; rfl
  · rw [Tryz.underlying104]; rfl
  · rw [Tryz.underlying112]; rfl
  · rw [Tryz.underlying113]; rfl
  · rw [Tryz.underlying115]; rfl
  · rw [Tryz.underlying117]; rfl
  · rw [Tryz.underlying119]; rfl
  · rw [Tryz.underlying121]; rfl
  · rw [Tryz.underlying123]; rfl
  · rw [Tryz.underlying125]; rfl
  · rw [Tryz.underlying127]; rfl
  · rw [Tryz.underlying130]; rfl
  · rw [Tryz.underlying132]; rfl
  · rw [Tryz.underlying133]; rfl
  · rw [Tryz.underlying134]; rfl
  · rw [Tryz.underlying135]; rfl
  · rw [Tryz.underlying138]; rfl
  · rw [Tryz.underlying140]; rfl
  · rw [Tryz.underlying141]; rfl
  · rw [Tryz.underlying142]; rfl
  · rw [Tryz.underlying143]; rfl
  · rw [Tryz.underlying144]; rfl
  · rw [Tryz.underlying145]; rfl
  · rw [Tryz.underlying146]; rfl
  · rw [Tryz.underlying147]; rfl
  · rw [Tryz.underlying149]; rfl
  · rw [Tryz.underlying151]; rfl
  · rw [Tryz.underlying156]; rfl
  · rw [Tryz.underlying157]; rfl
  · rw [Tryz.underlying163]; rfl
  · rw [Tryz.underlying164]; rfl
  · rw [Tryz.underlying166]; rfl
  · rw [Tryz.underlying167]; rfl
  · rw [Tryz.underlying170]; rfl
  · rw [Tryz.underlying172]; rfl
  · rw [Tryz.underlying173]; rfl
  · rw [Tryz.underlying174]; rfl
  · rw [Tryz.underlying175]; rfl
  · rw [Tryz.underlying179]; rfl
  · rw [Tryz.underlying180]; rfl
  · rw [Tryz.underlying186]; rfl
  · rw [Tryz.underlying187]; rfl
  · rw [Tryz.underlying196]; rfl
  · rw [Tryz.underlying197]; rfl
  · rw [Tryz.underlying203]; rfl
  · rw [Tryz.underlying205]; rfl
  · rw [Tryz.underlying206]; rfl
  · cases h
def conOf_2 : Nat → Bool
  | 207 => true
  | 208 => true
  | 209 => true
  | 210 => true
  | 211 => true
  | 212 => true
  | _ => false
set_option maxHeartbeats 8000000 in
theorem con_2 (t : Nat) (h : conOf_2 t = true) : (Tryz.prog.underlying t).map concB = some true := by
  unfold conOf_2 at h
  split at h
  · rw [Tryz.underlying207]; rfl
  · rw [Tryz.underlying208]; rfl
  · rw [Tryz.underlying209]; rfl
  · rw [Tryz.underlying210]; rfl
  · rw [Tryz.underlying211]; rfl
  · rw [Tryz.underlying212]; rfl
  · cases h
def conOf (t : Nat) : Bool := (bif conOf_0 t then true else (bif conOf_1 t then true else (bif conOf_2 t then true else false)))
theorem con (t : Nat) (h : conOf t = true) : (Tryz.prog.underlying t).map concB = some true := by
  unfold conOf at h
  cases e0 : conOf_0 t with
  | true => exact con_0 t e0
  | false =>
  rw [e0] at h
  simp only [cond_false] at h
  cases e1 : conOf_1 t with
  | true => exact con_1 t e1
  | false =>
  rw [e1] at h
  simp only [cond_false] at h
  cases e2 : conOf_2 t with
  | true => exact con_2 t e2
  | false =>
  rw [e2] at h
  simp only [cond_false] at h
  cases h
def fldOf7 : Nat → Option (Nat × Nat)
  | 0 => some (0, 2)
  | 1 => some (1, 3)
  | 2 => some (2, 4)
  | 3 => some (3, 6)
  | _ => none
theorem fld7 (f off ft : Nat) (h : fldOf7 f = some (off, ft)) : Fld Tryz.prog 7 f off ft := by
  unfold fldOf7 at h
  split at h
  · cases h; exact ⟨_, _, Tryz.underlying7, rfl, rfl, rfl⟩
  · cases h; exact ⟨_, _, Tryz.underlying7, rfl, rfl, rfl⟩
  · cases h; exact ⟨_, _, Tryz.underlying7, rfl, rfl, rfl⟩
  · cases h; exact ⟨_, _, Tryz.underlying7, rfl, rfl, rfl⟩
  · cases h
def fldOf8 : Nat → Option (Nat × Nat)
  | 0 => some (0, 2)
  | 1 => some (1, 3)
  | 2 => some (2, 4)
  | 3 => some (3, 6)
  | _ => none
theorem fld8 (f off ft : Nat) (h : fldOf8 f = some (off, ft)) : Fld Tryz.prog 8 f off ft := by
  unfold fldOf8 at h
  split at h
  · cases h; exact ⟨_, _, Tryz.underlying8, rfl, rfl, rfl⟩
  · cases h; exact ⟨_, _, Tryz.underlying8, rfl, rfl, rfl⟩
  · cases h; exact ⟨_, _, Tryz.underlying8, rfl, rfl, rfl⟩
  · cases h; exact ⟨_, _, Tryz.underlying8, rfl, rfl, rfl⟩
  · cases h
def fldOf13 : Nat → Option (Nat × Nat)
  | 0 => some (0, 9)
  | 1 => some (1, 12)
  | _ => none
theorem fld13 (f off ft : Nat) (h : fldOf13 f = some (off, ft)) : Fld Tryz.prog 13 f off ft := by
  unfold fldOf13 at h
  split at h
  · cases h; exact ⟨_, _, Tryz.underlying13, rfl, rfl, rfl⟩
  · cases h; exact ⟨_, _, Tryz.underlying13, rfl, rfl, rfl⟩
  · cases h
def fldOf14 : Nat → Option (Nat × Nat)
  | 0 => some (0, 9)
  | 1 => some (1, 12)
  | _ => none
theorem fld14 (f off ft : Nat) (h : fldOf14 f = some (off, ft)) : Fld Tryz.prog 14 f off ft := by
  unfold fldOf14 at h
  split at h
  · cases h; exact ⟨_, _, Tryz.underlying14, rfl, rfl, rfl⟩
  · cases h; exact ⟨_, _, Tryz.underlying14, rfl, rfl, rfl⟩
  · cases h
def fldOf18 : Nat → Option (Nat × Nat)
  | 0 => some (0, 17)
  | _ => none
theorem fld18 (f off ft : Nat) (h : fldOf18 f = some (off, ft)) : Fld Tryz.prog 18 f off ft := by
  unfold fldOf18 at h
  split at h
  · cases h; exact ⟨_, _, Tryz.underlying18, rfl, rfl, rfl⟩
  · cases h
def fldOf19 : Nat → Option (Nat × Nat)
  | 0 => some (0, 17)
  | _ => none
theorem fld19 (f off ft : Nat) (h : fldOf19 f = some (off, ft)) : Fld Tryz.prog 19 f off ft := by
  unfold fldOf19 at h
  split at h
  · cases h; exact ⟨_, _, Tryz.underlying19, rfl, rfl, rfl⟩
  · cases h
def fldOf42 : Nat → Option (Nat × Nat)
  | 0 => some (0, 3)
  | 1 => some (1, 3)
  | _ => none
theorem fld42 (f off ft : Nat) (h : fldOf42 f = some (off, ft)) : Fld Tryz.prog 42 f off ft := by
  unfold fldOf42 at h
  split at h
  · cases h; exact ⟨_, _, Tryz.underlying42, rfl, rfl, rfl⟩
  · cases h; exact ⟨_, _, Tryz.underlying42, rfl, rfl, rfl⟩
  · cases h
def fldOf43 : Nat → Option (Nat × Nat)
  | 0 => some (0, 3)
  | 1 => some (1, 3)
  | _ => none
theorem fld43 (f off ft : Nat) (h : fldOf43 f = some (off, ft)) : Fld Tryz.prog 43 f off ft := by
  unfold fldOf43 at h
  split at h
  · cases h; exact ⟨_, _, Tryz.underlying43, rfl, rfl, rfl⟩
  · cases h; exact ⟨_, _, Tryz.underlying43, rfl, rfl, rfl⟩
  · cases h
def fldOf46 : Nat → Option (Nat × Nat)
  | 0 => some (0, 38)
  | 1 => some (1, 3)
  | 2 => some (2, 3)
  | _ => none
theorem fld46 (f off ft : Nat) (h : fldOf46 f = some (off, ft)) : Fld Tryz.prog 46 f off ft := by
  unfold fldOf46 at h
  split at h
  · cases h; exact ⟨_, _, Tryz.underlying46, rfl, rfl, rfl⟩
  · cases h; exact ⟨_, _, Tryz.underlying46, rfl, rfl, rfl⟩
  · cases h; exact ⟨_, _, Tryz.underlying46, rfl, rfl, rfl⟩
  · cases h
def fldOf47 : Nat → Option (Nat × Nat)
  | 0 => some (0, 38)
  | 1 => some (1, 3)
  | 2 => some (2, 3)
  | _ => none
theorem fld47 (f off ft : Nat) (h : fldOf47 f = some (off, ft)) : Fld Tryz.prog 47 f off ft := by
  unfold fldOf47 at h
  split at h
  · cases h; exact ⟨_, _, Tryz.underlying47, rfl, rfl, rfl⟩
  · cases h; exact ⟨_, _, Tryz.underlying47, rfl, rfl, rfl⟩
  · cases h; exact ⟨_, _, Tryz.underlying47, rfl, rfl, rfl⟩
  · cases h
def fldOf53 : Nat → Option (Nat × Nat)
  | 0 => some (0, 51)
  | 1 => some (1, 52)
  | _ => none
theorem fld53 (f off ft : Nat) (h : fldOf53 f = some (off, ft)) : Fld Tryz.prog 53 f off ft := by
  unfold fldOf53 at h
  split at h
  · cases h; exact ⟨_, _, Tryz.underlying53, rfl, rfl, rfl⟩
  · cases h; exact ⟨_, _, Tryz.underlying53, rfl, rfl, rfl⟩
  · cases h
def fldOf54 : Nat → Option (Nat × Nat)
  | 0 => some (0, 51)
  | 1 => some (1, 52)
  | _ => none
theorem fld54 (f off ft : Nat) (h : fldOf54 f = some (off, ft)) : Fld Tryz.prog 54 f off ft := by
  unfold fldOf54 at h
  split at h
  · cases h; exact ⟨_, _, Tryz.underlying54, rfl, rfl, rfl⟩
  · cases h; exact ⟨_, _, Tryz.underlying54, rfl, rfl, rfl⟩
  · cases h
def fldOf62 : Nat → Option (Nat × Nat)
  | 0 => some (0, 17)
  | 1 => some (1, 60)
  | 2 => some (2, 61)
  | _ => none
theorem fld62 (f off ft : Nat) (h : fldOf62 f = some (off, ft)) : Fld Tryz.prog 62 f off ft := by
  unfold fldOf62 at h
  split at h
  · cases h; exact ⟨_, _, Tryz.underlying62, rfl, rfl, rfl⟩
  · cases h; exact ⟨_, _, Tryz.underlying62, rfl, rfl, rfl⟩
  · cases h; exact ⟨_, _, Tryz.underlying62, rfl, rfl, rfl⟩
  · cases h
def fldOf63 : Nat → Option (Nat × Nat)
  | 0 => some (0, 17)
  | 1 => some (1, 60)
  | 2 => some (2, 61)
  | _ => none
theorem fld63 (f off ft : Nat) (h : fldOf63 f = some (off, ft)) : Fld Tryz.prog 63 f off ft := by
  unfold fldOf63 at h
  split at h
  · cases h; exact ⟨_, _, Tryz.underlying63, rfl, rfl, rfl⟩
  · cases h; exact ⟨_, _, Tryz.underlying63, rfl, rfl, rfl⟩
  · cases h; exact ⟨_, _, Tryz.underlying63, rfl, rfl, rfl⟩
  · cases h
def fldOf80 : Nat → Option (Nat × Nat)
  | 0 => some (0, 78)
  | 1 => some (0, 79)
  | _ => none
theorem fld80 (f off ft : Nat) (h : fldOf80 f = some (off, ft)) : Fld Tryz.prog 80 f off ft := by
  unfold fldOf80 at h
  split at h
  · cases h; exact ⟨_, _, Tryz.underlying80, rfl, rfl, rfl⟩
  · cases h; exact ⟨_, _, Tryz.underlying80, rfl, rfl, rfl⟩
  · cases h
def fldOf81 : Nat → Option (Nat × Nat)
  | 0 => some (0, 78)
  | 1 => some (0, 79)
  | _ => none
theorem fld81 (f off ft : Nat) (h : fldOf81 f = some (off, ft)) : Fld Tryz.prog 81 f off ft := by
  unfold fldOf81 at h
  split at h
  · cases h; exact ⟨_, _, Tryz.underlying81, rfl, rfl, rfl⟩
  · cases h; exact ⟨_, _, Tryz.underlying81, rfl, rfl, rfl⟩
  · cases h
def fldOf82 : Nat → Option (Nat × Nat)
  | 0 => some (0, 21)
  | 1 => some (1, 79)
  | _ => none
theorem fld82 (f off ft : Nat) (h : fldOf82 f = some (off, ft)) : Fld Tryz.prog 82 f off ft := by
  unfold fldOf82 at h
  split at h
  · cases h; exact ⟨_, _, Tryz.underlying82, rfl, rfl, rfl⟩
  · cases h; exact ⟨_, _, Tryz.underlying82, rfl, rfl, rfl⟩
  · cases h
def fldOf83 : Nat → Option (Nat × Nat)
  | 0 => some (0, 21)
  | 1 => some (1, 79)
  | _ => none
theorem fld83 (f off ft : Nat) (h : fldOf83 f = some (off, ft)) : Fld Tryz.prog 83 f off ft := by
  unfold fldOf83 at h
  split at h
  · cases h; exact ⟨_, _, Tryz.underlying83, rfl, rfl, rfl⟩
  · cases h; exact ⟨_, _, Tryz.underlying83, rfl, rfl, rfl⟩
  · cases h
def fldOf84 : Nat → Option (Nat × Nat)
  | 0 => some (0, 77)
  | 1 => some (0, 83)
  | _ => none
theorem fld84 (f off ft : Nat) (h : fldOf84 f = some (off, ft)) : Fld Tryz.prog 84 f off ft := by
  unfold fldOf84 at h
  split at h
  · cases h; exact ⟨_, _, Tryz.underlying84, rfl, rfl, rfl⟩
  · cases h; exact ⟨_, _, Tryz.underlying84, rfl, rfl, rfl⟩
  · cases h
def fldOf85 : Nat → Option (Nat × Nat)
  | 0 => some (0, 77)
  | 1 => some (0, 83)
  | _ => none
theorem fld85 (f off ft : Nat) (h : fldOf85 f = some (off, ft)) : Fld Tryz.prog 85 f off ft := by
  unfold fldOf85 at h
  split at h
  · cases h; exact ⟨_, _, Tryz.underlying85, rfl, rfl, rfl⟩
  · cases h; exact ⟨_, _, Tryz.underlying85, rfl, rfl, rfl⟩
  · cases h
def fldOf86 : Nat → Option (Nat × Nat)
  | 0 => some (0, 77)
  | 1 => some (0, 81)
  | 2 => some (1, 85)
  | _ => none
theorem fld86 (f off ft : Nat) (h : fldOf86 f = some (off, ft)) : Fld Tryz.prog 86 f off ft := by
  unfold fldOf86 at h
  split at h
  · cases h; exact ⟨_, _, Tryz.underlying86, rfl, rfl, rfl⟩
  · cases h; exact ⟨_, _, Tryz.underlying86, rfl, rfl, rfl⟩
  · cases h; exact ⟨_, _, Tryz.underlying86, rfl, rfl, rfl⟩
  · cases h
def fldOf87 : Nat → Option (Nat × Nat)
  | 0 => some (0, 77)
  | 1 => some (0, 81)
  | 2 => some (1, 85)
  | _ => none
theorem fld87 (f off ft : Nat) (h : fldOf87 f = some (off, ft)) : Fld Tryz.prog 87 f off ft := by
  unfold fldOf87 at h
  split at h
  · cases h; exact ⟨_, _, Tryz.underlying87, rfl, rfl, rfl⟩
  · cases h; exact ⟨_, _, Tryz.underlying87, rfl, rfl, rfl⟩
  · cases h; exact ⟨_, _, Tryz.underlying87, rfl, rfl, rfl⟩
  · cases h
def fldOf90 : Nat → Option (Nat × Nat)
  | 0 => some (0, 87)
  | 1 => some (3, 89)
  | 2 => some (4, 33)
  | _ => none
theorem fld90 (f off ft : Nat) (h : fldOf90 f = some (off, ft)) : Fld Tryz.prog 90 f off ft := by
  unfold fldOf90 at h
  split at h
  · cases h; exact ⟨_, _, Tryz.underlying90, rfl, rfl, rfl⟩
  · cases h; exact ⟨_, _, Tryz.underlying90, rfl, rfl, rfl⟩
  · cases h; exact ⟨_, _, Tryz.underlying90, rfl, rfl, rfl⟩
  · cases h
def fldOf91 : Nat → Option (Nat × Nat)
  | 0 => some (0, 87)
  | 1 => some (3, 89)
  | 2 => some (4, 33)
  | _ => none
theorem fld91 (f off ft : Nat) (h : fldOf91 f = some (off, ft)) : Fld Tryz.prog 91 f off ft := by
  unfold fldOf91 at h
  split at h
  · cases h; exact ⟨_, _, Tryz.underlying91, rfl, rfl, rfl⟩
  · cases h; exact ⟨_, _, Tryz.underlying91, rfl, rfl, rfl⟩
  · cases h; exact ⟨_, _, Tryz.underlying91, rfl, rfl, rfl⟩
  · cases h
def fldOf93 : Nat → Option (Nat × Nat)
  | 0 => some (0, 17)
  | _ => none
theorem fld93 (f off ft : Nat) (h : fldOf93 f = some (off, ft)) : Fld Tryz.prog 93 f off ft := by
  unfold fldOf93 at h
  split at h
  · cases h; exact ⟨_, _, Tryz.underlying93, rfl, rfl, rfl⟩
  · cases h
def fldOf94 : Nat → Option (Nat × Nat)
  | 0 => some (0, 17)
  | _ => none
theorem fld94 (f off ft : Nat) (h : fldOf94 f = some (off, ft)) : Fld Tryz.prog 94 f off ft := by
  unfold fldOf94 at h
  split at h
  · cases h; exact ⟨_, _, Tryz.underlying94, rfl, rfl, rfl⟩
  · cases h
def fldOf112 : Nat → Option (Nat × Nat)
  | 0 => some (0, 5)
  | 1 => some (1, 5)
  | _ => none
theorem fld112 (f off ft : Nat) (h : fldOf112 f = some (off, ft)) : Fld Tryz.prog 112 f off ft := by
  unfold fldOf112 at h
  split at h
  · cases h; exact ⟨_, _, Tryz.underlying112, rfl, rfl, rfl⟩
  · cases h; exact ⟨_, _, Tryz.underlying112, rfl, rfl, rfl⟩
  · cases h
def fldOf113 : Nat → Option (Nat × Nat)
  | 0 => some (0, 5)
  | 1 => some (1, 5)
  | _ => none
theorem fld113 (f off ft : Nat) (h : fldOf113 f = some (off, ft)) : Fld Tryz.prog 113 f off ft := by
  unfold fldOf113 at h
  split at h
  · cases h; exact ⟨_, _, Tryz.underlying113, rfl, rfl, rfl⟩
  · cases h; exact ⟨_, _, Tryz.underlying113, rfl, rfl, rfl⟩
  · cases h
def fldOf140 : Nat → Option (Nat × Nat)
  | 0 => some (0, 138)
  | 1 => some (1, 9)
  | _ => none
theorem fld140 (f off ft : Nat) (h : fldOf140 f = some (off, ft)) : Fld Tryz.prog 140 f off ft := by
  unfold fldOf140 at h
  split at h
  · cases h; exact ⟨_, _, Tryz.underlying140, rfl, rfl, rfl⟩
  · cases h; exact ⟨_, _, Tryz.underlying140, rfl, rfl, rfl⟩
  · cases h
def fldOf141 : Nat → Option (Nat × Nat)
  | 0 => some (0, 138)
  | 1 => some (1, 9)
  | _ => none
theorem fld141 (f off ft : Nat) (h : fldOf141 f = some (off, ft)) : Fld Tryz.prog 141 f off ft := by
  unfold fldOf141 at h
  split at h
  · cases h; exact ⟨_, _, Tryz.underlying141, rfl, rfl, rfl⟩
  · cases h; exact ⟨_, _, Tryz.underlying141, rfl, rfl, rfl⟩
  · cases h
def fldOf144 : Nat → Option (Nat × Nat)
  | 0 => some (0, 9)
  | 1 => some (1, 3)
  | 2 => some (2, 9)
  | 3 => some (3, 142)
  | 4 => some (4, 143)
  | _ => none
theorem fld144 (f off ft : Nat) (h : fldOf144 f = some (off, ft)) : Fld Tryz.prog 144 f off ft := by
  unfold fldOf144 at h
  split at h
  · cases h; exact ⟨_, _, Tryz.underlying144, rfl, rfl, rfl⟩
  · cases h; exact ⟨_, _, Tryz.underlying144, rfl, rfl, rfl⟩
  · cases h; exact ⟨_, _, Tryz.underlying144, rfl, rfl, rfl⟩
  · cases h; exact ⟨_, _, Tryz.underlying144, rfl, rfl, rfl⟩
  · cases h; exact ⟨_, _, Tryz.underlying144, rfl, rfl, rfl⟩
  · cases h
def fldOf145 : Nat → Option (Nat × Nat)
  | 0 => some (0, 9)
  | 1 => some (1, 3)
  | 2 => some (2, 9)
  | 3 => some (3, 142)
  | 4 => some (4, 143)
  | _ => none
theorem fld145 (f off ft : Nat) (h : fldOf145 f = some (off, ft)) : Fld Tryz.prog 145 f off ft := by
  unfold fldOf145 at h
  split at h
  · cases h; exact ⟨_, _, Tryz.underlying145, rfl, rfl, rfl⟩
  · cases h; exact ⟨_, _, Tryz.underlying145, rfl, rfl, rfl⟩
  · cases h; exact ⟨_, _, Tryz.underlying145, rfl, rfl, rfl⟩
  · cases h; exact ⟨_, _, Tryz.underlying145, rfl, rfl, rfl⟩
  · cases h; exact ⟨_, _, Tryz.underlying145, rfl, rfl, rfl⟩
  · cases h
def fldOf163 : Nat → Option (Nat × Nat)
  | 0 => some (0, 17)
  | 1 => some (1, 17)
  | 2 => some (2, 17)
  | 3 => some (3, 9)
  | _ => none
theorem fld163 (f off ft : Nat) (h : fldOf163 f = some (off, ft)) : Fld Tryz.prog 163 f off ft := by
  unfold fldOf163 at h
  split at h
  · cases h; exact ⟨_, _, Tryz.underlying163, rfl, rfl, rfl⟩
  · cases h; exact ⟨_, _, Tryz.underlying163, rfl, rfl, rfl⟩
  · cases h; exact ⟨_, _, Tryz.underlying163, rfl, rfl, rfl⟩
  · cases h; exact ⟨_, _, Tryz.underlying163, rfl, rfl, rfl⟩
  · cases h
def fldOf164 : Nat → Option (Nat × Nat)
  | 0 => some (0, 17)
  | 1 => some (1, 17)
  | 2 => some (2, 17)
  | 3 => some (3, 9)
  | _ => none
theorem fld164 (f off ft : Nat) (h : fldOf164 f = some (off, ft)) : Fld Tryz.prog 164 f off ft := by
  unfold fldOf164 at h
  split at h
  · cases h; exact ⟨_, _, Tryz.underlying164, rfl, rfl, rfl⟩
  · cases h; exact ⟨_, _, Tryz.underlying164, rfl, rfl, rfl⟩
  · cases h; exact ⟨_, _, Tryz.underlying164, rfl, rfl, rfl⟩
  · cases h; exact ⟨_, _, Tryz.underlying164, rfl, rfl, rfl⟩
  · cases h
def fldOf166 : Nat → Option (Nat × Nat)
  | 0 => some (0, 165)
  | _ => none
theorem fld166 (f off ft : Nat) (h : fldOf166 f = some (off, ft)) : Fld Tryz.prog 166 f off ft := by
  unfold fldOf166 at h
  split at h
  · cases h; exact ⟨_, _, Tryz.underlying166, rfl, rfl, rfl⟩
  · cases h
def fldOf167 : Nat → Option (Nat × Nat)
  | 0 => some (0, 165)
  | _ => none
theorem fld167 (f off ft : Nat) (h : fldOf167 f = some (off, ft)) : Fld Tryz.prog 167 f off ft := by
  unfold fldOf167 at h
  split at h
  · cases h; exact ⟨_, _, Tryz.underlying167, rfl, rfl, rfl⟩
  · cases h
def fldOf174 : Nat → Option (Nat × Nat)
  | 0 => some (0, 12)
  | 1 => some (1, 12)
  | 2 => some (2, 79)
  | 3 => some (3, 170)
  | 4 => some (4, 5)
  | 5 => some (5, 5)
  | 6 => some (6, 68)
  | 7 => some (7, 171)
  | 8 => some (8, 75)
  | 9 => some (9, 172)
  | 10 => some (10, 173)
  | _ => none
theorem fld174 (f off ft : Nat) (h : fldOf174 f = some (off, ft)) : Fld Tryz.prog 174 f off ft := by
  unfold fldOf174 at h
  split at h
  · cases h; exact ⟨_, _, Tryz.underlying174, rfl, rfl, rfl⟩
  · cases h; exact ⟨_, _, Tryz.underlying174, rfl, rfl, rfl⟩
  · cases h; exact ⟨_, _, Tryz.underlying174, rfl, rfl, rfl⟩
  · cases h; exact ⟨_, _, Tryz.underlying174, rfl, rfl, rfl⟩
  · cases h; exact ⟨_, _, Tryz.underlying174, rfl, rfl, rfl⟩
  · cases h; exact ⟨_, _, Tryz.underlying174, rfl, rfl, rfl⟩
  · cases h; exact ⟨_, _, Tryz.underlying174, rfl, rfl, rfl⟩
  · cases h; exact ⟨_, _, Tryz.underlying174, rfl, rfl, rfl⟩
  · cases h; exact ⟨_, _, Tryz.underlying174, rfl, rfl, rfl⟩
  · cases h; exact ⟨_, _, Tryz.underlying174, rfl, rfl, rfl⟩
  · cases h; exact ⟨_, _, Tryz.underlying174, rfl, rfl, rfl⟩
  · cases h
def fldOf175 : Nat → Option (Nat × Nat)
  | 0 => some (0, 12)
  | 1 => some (1, 12)
  | 2 => some (2, 79)
  | 3 => some (3, 170)
  | 4 => some (4, 5)
  | 5 => some (5, 5)
  | 6 => some (6, 68)
  | 7 => some (7, 171)
  | 8 => some (8, 75)
  | 9 => some (9, 172)
  | 10 => some (10, 173)
  | _ => none
theorem fld175 (f off ft : Nat) (h : fldOf175 f = some (off, ft)) : Fld Tryz.prog 175 f off ft := by
  unfold fldOf175 at h
  split at h
  · cases h; exact ⟨_, _, Tryz.underlying175, rfl, rfl, rfl⟩
  · cases h; exact ⟨_, _, Tryz.underlying175, rfl, rfl, rfl⟩
  · cases h; exact ⟨_, _, Tryz.underlying175, rfl, rfl, rfl⟩
  · cases h; exact ⟨_, _, Tryz.underlying175, rfl, rfl, rfl⟩
  · cases h; exact ⟨_, _, Tryz.underlying175, rfl, rfl, rfl⟩
  · cases h; exact ⟨_, _, Tryz.underlying175, rfl, rfl, rfl⟩
  · cases h; exact ⟨_, _, Tryz.underlying175, rfl, rfl, rfl⟩
  · cases h; exact ⟨_, _, Tryz.underlying175, rfl, rfl, rfl⟩
  · cases h; exact ⟨_, _, Tryz.underlying175, rfl, rfl, rfl⟩
  · cases h; exact ⟨_, _, Tryz.underlying175, rfl, rfl, rfl⟩
  · cases h; exact ⟨_, _, Tryz.underlying175, rfl, rfl, rfl⟩
  · cases h
def fldOf179 : Nat → Option (Nat × Nat)
  | 0 => some (0, 9)
  | 1 => some (1, 68)
  | _ => none
theorem fld179 (f off ft : Nat) (h : fldOf179 f = some (off, ft)) : Fld Tryz.prog 179 f off ft := by
  unfold fldOf179 at h
  split at h
  · cases h; exact ⟨_, _, Tryz.underlying179, rfl, rfl, rfl⟩
  · cases h; exact ⟨_, _, Tryz.underlying179, rfl, rfl, rfl⟩
  · cases h
def fldOf180 : Nat → Option (Nat × Nat)
  | 0 => some (0, 9)
  | 1 => some (1, 68)
  | _ => none
theorem fld180 (f off ft : Nat) (h : fldOf180 f = some (off, ft)) : Fld Tryz.prog 180 f off ft := by
  unfold fldOf180 at h
  split at h
  · cases h; exact ⟨_, _, Tryz.underlying180, rfl, rfl, rfl⟩
  · cases h; exact ⟨_, _, Tryz.underlying180, rfl, rfl, rfl⟩
  · cases h
def fldOf196 : Nat → Option (Nat × Nat)
  | 0 => some (0, 189)
  | _ => none
theorem fld196 (f off ft : Nat) (h : fldOf196 f = some (off, ft)) : Fld Tryz.prog 196 f off ft := by
  unfold fldOf196 at h
  split at h
  · cases h; exact ⟨_, _, Tryz.underlying196, rfl, rfl, rfl⟩
  · cases h
def fldOf197 : Nat → Option (Nat × Nat)
  | 0 => some (0, 189)
  | _ => none
theorem fld197 (f off ft : Nat) (h : fldOf197 f = some (off, ft)) : Fld Tryz.prog 197 f off ft := by
  unfold fldOf197 at h
  split at h
  · cases h; exact ⟨_, _, Tryz.underlying197, rfl, rfl, rfl⟩
  · cases h
def fldOf206 : Nat → Option (Nat × Nat)
  | 0 => some (0, 172)
  | 1 => some (1, 205)
  | 2 => some (2, 205)
  | 3 => some (3, 79)
  | 4 => some (4, 79)
  | _ => none
theorem fld206 (f off ft : Nat) (h : fldOf206 f = some (off, ft)) : Fld Tryz.prog 206 f off ft := by
  unfold fldOf206 at h
  split at h
  · cases h; exact ⟨_, _, Tryz.underlying206, rfl, rfl, rfl⟩
  · cases h; exact ⟨_, _, Tryz.underlying206, rfl, rfl, rfl⟩
  · cases h; exact ⟨_, _, Tryz.underlying206, rfl, rfl, rfl⟩
  · cases h; exact ⟨_, _, Tryz.underlying206, rfl, rfl, rfl⟩
  · cases h; exact ⟨_, _, Tryz.underlying206, rfl, rfl, rfl⟩
  · cases h
def fldOf207 : Nat → Option (Nat × Nat)
  | 0 => some (0, 172)
  | 1 => some (1, 205)
  | 2 => some (2, 205)
  | 3 => some (3, 79)
  | 4 => some (4, 79)
  | _ => none
theorem fld207 (f off ft : Nat) (h : fldOf207 f = some (off, ft)) : Fld Tryz.prog 207 f off ft := by
  unfold fldOf207 at h
  split at h
  · cases h; exact ⟨_, _, Tryz.underlying207, rfl, rfl, rfl⟩
  · cases h; exact ⟨_, _, Tryz.underlying207, rfl, rfl, rfl⟩
  · cases h; exact ⟨_, _, Tryz.underlying207, rfl, rfl, rfl⟩
  · cases h; exact ⟨_, _, Tryz.underlying207, rfl, rfl, rfl⟩
  · cases h; exact ⟨_, _, Tryz.underlying207, rfl, rfl, rfl⟩
  · cases h
def fldOf210 : Nat → Option (Nat × Nat)
  | 0 => some (0, 172)
  | 1 => some (1, 173)
  | 2 => some (2, 209)
  | 3 => some (3, 209)
  | _ => none
theorem fld210 (f off ft : Nat) (h : fldOf210 f = some (off, ft)) : Fld Tryz.prog 210 f off ft := by
  unfold fldOf210 at h
  split at h
  · cases h; exact ⟨_, _, Tryz.underlying210, rfl, rfl, rfl⟩
  · cases h; exact ⟨_, _, Tryz.underlying210, rfl, rfl, rfl⟩
  · cases h; exact ⟨_, _, Tryz.underlying210, rfl, rfl, rfl⟩
  · cases h; exact ⟨_, _, Tryz.underlying210, rfl, rfl, rfl⟩
  · cases h
def fldOf211 : Nat → Option (Nat × Nat)
  | 0 => some (0, 172)
  | 1 => some (1, 173)
  | 2 => some (2, 209)
  | 3 => some (3, 209)
  | _ => none
theorem fld211 (f off ft : Nat) (h : fldOf211 f = some (off, ft)) : Fld Tryz.prog 211 f off ft := by
  unfold fldOf211 at h
  split at h
  · cases h; exact ⟨_, _, Tryz.underlying211, rfl, rfl, rfl⟩
  · cases h; exact ⟨_, _, Tryz.underlying211, rfl, rfl, rfl⟩
  · cases h; exact ⟨_, _, Tryz.underlying211, rfl, rfl, rfl⟩
  · cases h; exact ⟨_, _, Tryz.underlying211, rfl, rfl, rfl⟩
  · cases h
def fldOf (t f : Nat) : Option (Nat × Nat) :=
  match t with
  | 7 => fldOf7 f
  | 8 => fldOf8 f
  | 13 => fldOf13 f
  | 14 => fldOf14 f
  | 18 => fldOf18 f
  | 19 => fldOf19 f
  | 42 => fldOf42 f
  | 43 => fldOf43 f
  | 46 => fldOf46 f
  | 47 => fldOf47 f
  | 53 => fldOf53 f
  | 54 => fldOf54 f
  | 62 => fldOf62 f
  | 63 => fldOf63 f
  | 80 => fldOf80 f
  | 81 => fldOf81 f
  | 82 => fldOf82 f
  | 83 => fldOf83 f
  | 84 => fldOf84 f
  | 85 => fldOf85 f
  | 86 => fldOf86 f
  | 87 => fldOf87 f
  | 90 => fldOf90 f
  | 91 => fldOf91 f
  | 93 => fldOf93 f
  | 94 => fldOf94 f
  | 112 => fldOf112 f
  | 113 => fldOf113 f
  | 140 => fldOf140 f
  | 141 => fldOf141 f
  | 144 => fldOf144 f
  | 145 => fldOf145 f
  | 163 => fldOf163 f
  | 164 => fldOf164 f
  | 166 => fldOf166 f
  | 167 => fldOf167 f
  | 174 => fldOf174 f
  | 175 => fldOf175 f
  | 179 => fldOf179 f
  | 180 => fldOf180 f
  | 196 => fldOf196 f
  | 197 => fldOf197 f
  | 206 => fldOf206 f
  | 207 => fldOf207 f
  | 210 => fldOf210 f
  | 211 => fldOf211 f
  | _ => none
set_option maxHeartbeats 8000000 in
theorem fld (t f off ft : Nat) (h : fldOf t f = some (off, ft)) : Fld Tryz.prog t f off ft := by
  unfold fldOf at h
  split at h
  · exact fld7 _ _ _ h
  · exact fld8 _ _ _ h
  · exact fld13 _ _ _ h
  · exact fld14 _ _ _ h
  · exact fld18 _ _ _ h
  · exact fld19 _ _ _ h
  · exact fld42 _ _ _ h
  · exact fld43 _ _ _ h
  · exact fld46 _ _ _ h
  · exact fld47 _ _ _ h
  · exact fld53 _ _ _ h
  · exact fld54 _ _ _ h
  · exact fld62 _ _ _ h
  · exact fld63 _ _ _ h
  · exact fld80 _ _ _ h
  · exact fld81 _ _ _ h
  · exact fld82 _ _ _ h
  · exact fld83 _ _ _ h
  · exact fld84 _ _ _ h
  · exact fld85 _ _ _ h
  · exact fld86 _ _ _ h
  · exact fld87 _ _ _ h
  · exact fld90 _ _ _ h
  · exact fld91 _ _ _ h
  · exact fld93 _ _ _ h
  · exact fld94 _ _ _ h
  · exact fld112 _ _ _ h
  · exact fld113 _ _ _ h
  · exact fld140 _ _ _ h
  · exact fld141 _ _ _ h
  · exact fld144 _ _ _ h
  · exact fld145 _ _ _ h
  · exact fld163 _ _ _ h
  · exact fld164 _ _ _ h
  · exact fld166 _ _ _ h
  · exact fld167 _ _ _ h
  · exact fld174 _ _ _ h
  · exact fld175 _ _ _ h
  · exact fld179 _ _ _ h
  · exact fld180 _ _ _ h
  · exact fld196 _ _ _ h
  · exact fld197 _ _ _ h
  · exact fld206 _ _ _ h
  · exact fld207 _ _ _ h
  · exact fld210 _ _ _ h
  · exact fld211 _ _ _ h
  · cases h
/-- busbar/busbarlaw03.CharsJoined -/
theorem cal3 : Callable Tryz.prog 3 := ⟨⟨_, Tryz.func3, by kernel_rfl, by kernel_rfl⟩⟩
/-- busbar/busbarlaw03.CharsKnown -/
theorem cal4 : Callable Tryz.prog 4 := ⟨⟨_, Tryz.func4, by kernel_rfl, by kernel_rfl⟩⟩
/-- busbar/busbarlaw03.works -/
theorem cal5 : Callable Tryz.prog 5 := ⟨⟨_, Tryz.func5, by kernel_rfl, by kernel_rfl⟩⟩
/-- busbar/chars.Check -/
theorem cal6 : Callable Tryz.prog 6 := ⟨⟨_, Tryz.func6, by kernel_rfl, by kernel_rfl⟩⟩
/-- busbar/busbarkit.Place -/
theorem cal7 : Callable Tryz.prog 7 := ⟨⟨_, Tryz.func7, by kernel_rfl, by kernel_rfl⟩⟩
/-- busbar/busbarkit.Plain -/
theorem cal8 : Callable Tryz.prog 8 := ⟨⟨_, Tryz.func8, by kernel_rfl, by kernel_rfl⟩⟩
/-- busbar/busbarkit.Num -/
theorem cal9 : Callable Tryz.prog 9 := ⟨⟨_, Tryz.func9, by kernel_rfl, by kernel_rfl⟩⟩
/-- busbar/busbarkit.At -/
theorem cal10 : Callable Tryz.prog 10 := ⟨⟨_, Tryz.func10, by kernel_rfl, by kernel_rfl⟩⟩
/-- busbar/chars.Name -/
theorem cal11 : Callable Tryz.prog 11 := ⟨⟨_, Tryz.func11, by kernel_rfl, by kernel_rfl⟩⟩
/-- busbar/busbarlaw03.CharsBack -/
theorem cal12 : Callable Tryz.prog 12 := ⟨⟨_, Tryz.func12, by kernel_rfl, by kernel_rfl⟩⟩
/-- busbar/chars.Unquote -/
theorem cal13 : Callable Tryz.prog 13 := ⟨⟨_, Tryz.func13, by kernel_rfl, by kernel_rfl⟩⟩
/-- busbar/busbarlaw03.ends -/
theorem cal14 : Callable Tryz.prog 14 := ⟨⟨_, Tryz.func14, by kernel_rfl, by kernel_rfl⟩⟩
/-- busbar/chars.Quote -/
theorem cal15 : Callable Tryz.prog 15 := ⟨⟨_, Tryz.func15, by kernel_rfl, by kernel_rfl⟩⟩
/-- busbar/chars.All -/
theorem cal16 : Callable Tryz.prog 16 := ⟨⟨_, Tryz.func16, by kernel_rfl, by kernel_rfl⟩⟩
/-- strings.HasPrefix -/
theorem cal17 : Callable Tryz.prog 17 := ⟨⟨_, Tryz.func17, by kernel_rfl, by kernel_rfl⟩⟩
/-- unicode/utf8.RuneLen -/
theorem cal18 : Callable Tryz.prog 18 := ⟨⟨_, Tryz.func18, by kernel_rfl, by kernel_rfl⟩⟩
/-- busbar/chars.control -/
theorem cal19 : Callable Tryz.prog 19 := ⟨⟨_, Tryz.func19, by kernel_rfl, by kernel_rfl⟩⟩
/-- busbar/chars.blank -/
theorem cal20 : Callable Tryz.prog 20 := ⟨⟨_, Tryz.func20, by kernel_rfl, by kernel_rfl⟩⟩
/-- errors.As -/
theorem cal21 : Callable Tryz.prog 21 := ⟨⟨_, Tryz.func21, by kernel_rfl, by kernel_rfl⟩⟩
/-- errors.Is -/
theorem cal22 : Callable Tryz.prog 22 := ⟨⟨_, Tryz.func22, by kernel_rfl, by kernel_rfl⟩⟩
/-- busbar/chars.letter -/
theorem cal23 : Callable Tryz.prog 23 := ⟨⟨_, Tryz.func23, by kernel_rfl, by kernel_rfl⟩⟩
/-- busbar/busbarlaw03.long -/
theorem cal24 : Callable Tryz.prog 24 := ⟨⟨_, Tryz.func24, by kernel_rfl, by kernel_rfl⟩⟩
/-- (*strings.Builder).WriteByte -/
theorem cal25 : Callable Tryz.prog 25 := ⟨⟨_, Tryz.func25, by kernel_rfl, by kernel_rfl⟩⟩
/-- busbar/chars.may -/
theorem cal26 : Callable Tryz.prog 26 := ⟨⟨_, Tryz.func26, by kernel_rfl, by kernel_rfl⟩⟩
/-- (*strings.Builder).String -/
theorem cal27 : Callable Tryz.prog 27 := ⟨⟨_, Tryz.func27, by kernel_rfl, by kernel_rfl⟩⟩
/-- strings.NewReplacer -/
theorem cal28 : Callable Tryz.prog 28 := ⟨⟨_, Tryz.func28, by kernel_rfl, by kernel_rfl⟩⟩
/-- (*strings.Replacer).Replace -/
theorem cal29 : Callable Tryz.prog 29 := ⟨⟨_, Tryz.func29, by kernel_rfl, by kernel_rfl⟩⟩
/-- busbar/chars.All$1 -/
theorem cal30 : Callable Tryz.prog 30 := ⟨⟨_, Tryz.func30, by kernel_rfl, by kernel_rfl⟩⟩
/-- internal/stringslite.HasPrefix -/
theorem cal31 : Callable Tryz.prog 31 := ⟨⟨_, Tryz.func31, by kernel_rfl, by kernel_rfl⟩⟩
/-- errors.as -/
theorem cal35 : Callable Tryz.prog 35 := ⟨⟨_, Tryz.func35, by kernel_rfl, by kernel_rfl⟩⟩
/-- errors.is -/
theorem cal37 : Callable Tryz.prog 37 := ⟨⟨_, Tryz.func37, by kernel_rfl, by kernel_rfl⟩⟩
/-- (*strings.Builder).copyCheck -/
theorem cal38 : Callable Tryz.prog 38 := ⟨⟨_, Tryz.func38, by kernel_rfl, by kernel_rfl⟩⟩
/-- unicode/utf8.ValidString -/
theorem cal39 : Callable Tryz.prog 39 := ⟨⟨_, Tryz.func39, by kernel_rfl, by kernel_rfl⟩⟩
/-- strings.ContainsFunc -/
theorem cal40 : Callable Tryz.prog 40 := ⟨⟨_, Tryz.func40, by kernel_rfl, by kernel_rfl⟩⟩
/-- (*sync.Once).Do -/
theorem cal41 : Callable Tryz.prog 41 := ⟨⟨_, Tryz.func41, by kernel_rfl, by kernel_rfl⟩⟩
/-- (*strings.Replacer).buildOnce -/
theorem cal42 : Callable Tryz.prog 42 := ⟨⟨_, Tryz.func42, by kernel_rfl, by kernel_rfl⟩⟩
/-- unicode/utf8.word[string] -/
theorem cal46 : Callable Tryz.prog 46 := ⟨⟨_, Tryz.func46, by kernel_rfl, by kernel_rfl⟩⟩
/-- strings.IndexFunc -/
theorem cal47 : Callable Tryz.prog 47 := ⟨⟨_, Tryz.func47, by kernel_rfl, by kernel_rfl⟩⟩
/-- (*sync/atomic.Bool).Load -/
theorem cal48 : Callable Tryz.prog 48 := ⟨⟨_, Tryz.func48, by kernel_rfl, by kernel_rfl⟩⟩
/-- (*sync.Once).doSlow -/
theorem cal49 : Callable Tryz.prog 49 := ⟨⟨_, Tryz.func49, by kernel_rfl, by kernel_rfl⟩⟩
/-- (*strings.Replacer).build -/
theorem cal50 : Callable Tryz.prog 50 := ⟨⟨_, Tryz.func50, by kernel_rfl, by kernel_rfl⟩⟩
/-- strings.indexFunc -/
theorem cal51 : Callable Tryz.prog 51 := ⟨⟨_, Tryz.func51, by kernel_rfl, by kernel_rfl⟩⟩
/-- (*sync.Mutex).Lock -/
theorem cal53 : Callable Tryz.prog 53 := ⟨⟨_, Tryz.func53, by kernel_rfl, by kernel_rfl⟩⟩
/-- (*sync.Mutex).Unlock -/
theorem cal54 : Callable Tryz.prog 54 := ⟨⟨_, Tryz.func54, by kernel_rfl, by kernel_rfl⟩⟩
/-- (*sync/atomic.Bool).Store -/
theorem cal55 : Callable Tryz.prog 55 := ⟨⟨_, Tryz.func55, by kernel_rfl, by kernel_rfl⟩⟩
/-- strings.makeSingleStringReplacer -/
theorem cal56 : Callable Tryz.prog 56 := ⟨⟨_, Tryz.func56, by kernel_rfl, by kernel_rfl⟩⟩
/-- strings.makeGenericReplacer -/
theorem cal57 : Callable Tryz.prog 57 := ⟨⟨_, Tryz.func57, by kernel_rfl, by kernel_rfl⟩⟩
/-- (*internal/sync.Mutex).Lock -/
theorem cal58 : Callable Tryz.prog 58 := ⟨⟨_, Tryz.func58, by kernel_rfl, by kernel_rfl⟩⟩
/-- (*internal/sync.Mutex).Unlock -/
theorem cal59 : Callable Tryz.prog 59 := ⟨⟨_, Tryz.func59, by kernel_rfl, by kernel_rfl⟩⟩
/-- sync/atomic.b32 -/
theorem cal61 : Callable Tryz.prog 61 := ⟨⟨_, Tryz.func61, by kernel_rfl, by kernel_rfl⟩⟩
/-- strings.makeStringFinder -/
theorem cal62 : Callable Tryz.prog 62 := ⟨⟨_, Tryz.func62, by kernel_rfl, by kernel_rfl⟩⟩
/-- (*strings.trieNode).add -/
theorem cal63 : Callable Tryz.prog 63 := ⟨⟨_, Tryz.func63, by kernel_rfl, by kernel_rfl⟩⟩
/-- (*internal/sync.Mutex).lockSlow -/
theorem cal68 : Callable Tryz.prog 68 := ⟨⟨_, Tryz.func68, by kernel_rfl, by kernel_rfl⟩⟩
/-- (*internal/sync.Mutex).unlockSlow -/
theorem cal71 : Callable Tryz.prog 71 := ⟨⟨_, Tryz.func71, by kernel_rfl, by kernel_rfl⟩⟩
/-- strings.longestCommonSuffix -/
theorem cal72 : Callable Tryz.prog 72 := ⟨⟨_, Tryz.func72, by kernel_rfl, by kernel_rfl⟩⟩
/-- (busbar/api.Fault).Unwrap -/
theorem cal99 : Callable Tryz.prog 99 := ⟨⟨_, Tryz.func99, by kernel_rfl, by kernel_rfl⟩⟩
/-- (*strings.singleStringReplacer).Replace -/
theorem cal115 : Callable Tryz.prog 115 := ⟨⟨_, Tryz.func115, by kernel_rfl, by kernel_rfl⟩⟩
/-- (*strings.singleStringReplacer).WriteString -/
theorem cal116 : Callable Tryz.prog 116 := ⟨⟨_, Tryz.func116, by kernel_rfl, by kernel_rfl⟩⟩
/-- (*strings.stringFinder).next -/
theorem cal117 : Callable Tryz.prog 117 := ⟨⟨_, Tryz.func117, by kernel_rfl, by kernel_rfl⟩⟩
/-- (*strings.Builder).Grow -/
theorem cal118 : Callable Tryz.prog 118 := ⟨⟨_, Tryz.func118, by kernel_rfl, by kernel_rfl⟩⟩
/-- (*strings.Builder).WriteString -/
theorem cal119 : Callable Tryz.prog 119 := ⟨⟨_, Tryz.func119, by kernel_rfl, by kernel_rfl⟩⟩
/-- (*strings.Builder).grow -/
theorem cal120 : Callable Tryz.prog 120 := ⟨⟨_, Tryz.func120, by kernel_rfl, by kernel_rfl⟩⟩
/-- (*strings.genericReplacer).Replace -/
theorem cal122 : Callable Tryz.prog 122 := ⟨⟨_, Tryz.func122, by kernel_rfl, by kernel_rfl⟩⟩
/-- (*strings.genericReplacer).WriteString -/
theorem cal123 : Callable Tryz.prog 123 := ⟨⟨_, Tryz.func123, by kernel_rfl, by kernel_rfl⟩⟩
/-- strings.getStringWriter -/
theorem cal124 : Callable Tryz.prog 124 := ⟨⟨_, Tryz.func124, by kernel_rfl, by kernel_rfl⟩⟩
/-- (*strings.genericReplacer).lookup -/
theorem cal125 : Callable Tryz.prog 125 := ⟨⟨_, Tryz.func125, by kernel_rfl, by kernel_rfl⟩⟩
/-- (*strings.byteReplacer).Replace -/
theorem cal126 : Callable Tryz.prog 126 := ⟨⟨_, Tryz.func126, by kernel_rfl, by kernel_rfl⟩⟩
/-- (*strings.byteReplacer).WriteString -/
theorem cal127 : Callable Tryz.prog 127 := ⟨⟨_, Tryz.func127, by kernel_rfl, by kernel_rfl⟩⟩
/-- (*strings.byteStringReplacer).Replace -/
theorem cal128 : Callable Tryz.prog 128 := ⟨⟨_, Tryz.func128, by kernel_rfl, by kernel_rfl⟩⟩
/-- (*strings.byteStringReplacer).WriteString -/
theorem cal129 : Callable Tryz.prog 129 := ⟨⟨_, Tryz.func129, by kernel_rfl, by kernel_rfl⟩⟩
/-- strings.Count -/
theorem cal130 : Callable Tryz.prog 130 := ⟨⟨_, Tryz.func130, by kernel_rfl, by kernel_rfl⟩⟩
/-- unicode/utf8.RuneCountInString -/
theorem cal131 : Callable Tryz.prog 131 := ⟨⟨_, Tryz.func131, by kernel_rfl, by kernel_rfl⟩⟩
/-- strings.Index -/
theorem cal133 : Callable Tryz.prog 133 := ⟨⟨_, Tryz.func133, by kernel_rfl, by kernel_rfl⟩⟩
/-- internal/stringslite.Index -/
theorem cal134 : Callable Tryz.prog 134 := ⟨⟨_, Tryz.func134, by kernel_rfl, by kernel_rfl⟩⟩
/-- internal/stringslite.IndexByte -/
theorem cal135 : Callable Tryz.prog 135 := ⟨⟨_, Tryz.func135, by kernel_rfl, by kernel_rfl⟩⟩
/-- internal/bytealg.Cutover -/
theorem cal137 : Callable Tryz.prog 137 := ⟨⟨_, Tryz.func137, by kernel_rfl, by kernel_rfl⟩⟩
/-- internal/bytealg.IndexRabinKarp[string] -/
theorem cal138 : Callable Tryz.prog 138 := ⟨⟨_, Tryz.func138, by kernel_rfl, by kernel_rfl⟩⟩
/-- internal/bytealg.hashStr[string] -/
theorem cal140 : Callable Tryz.prog 140 := ⟨⟨_, Tryz.func140, by kernel_rfl, by kernel_rfl⟩⟩
/-- (*strings.appendSliceWriter).Write -/
theorem cal141 : Callable Tryz.prog 141 := ⟨⟨_, Tryz.func141, by kernel_rfl, by kernel_rfl⟩⟩
/-- (*strings.appendSliceWriter).WriteString -/
theorem cal142 : Callable Tryz.prog 142 := ⟨⟨_, Tryz.func142, by kernel_rfl, by kernel_rfl⟩⟩
/-- (strings.stringWriter).WriteString -/
theorem cal143 : Callable Tryz.prog 143 := ⟨⟨_, Tryz.func143, by kernel_rfl, by kernel_rfl⟩⟩
/-- (*strings.Builder).Write -/
theorem cal145 : Callable Tryz.prog 145 := ⟨⟨_, Tryz.func145, by kernel_rfl, by kernel_rfl⟩⟩
/-- (*strings.Replacer).WriteString -/
theorem cal146 : Callable Tryz.prog 146 := ⟨⟨_, Tryz.func146, by kernel_rfl, by kernel_rfl⟩⟩
end Go.Proofs.YtnohefaifbghiaaGreatDoor
end
