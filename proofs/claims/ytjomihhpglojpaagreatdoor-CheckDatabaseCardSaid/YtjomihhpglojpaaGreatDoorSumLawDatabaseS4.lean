/- Laid together by a program of mine: Facts. -/
import Derived.Test.YtjomihhpglojpaaGreatDoorProg
import Derived.Test.YtjomihhpglojpaaGreatDoorSumLawDatabaseS3
import Derived.KernelRfl
set_option linter.unusedSimpArgs false
set_option linter.unusedVariables false
section
/- Facts of the seat's tables: each type's size and zero, each function's call. Written by my own gen.py off the translation's rows. -/
namespace Go.Proofs.YtjomihhpglojpaaGreatDoor
theorem mixed : Tryz.prog.follows .mixedOrders = true := by kernel_rfl
theorem isz0 : (Tryz.prog.info? 0).map (·.size) = some 1 := by kernel_rfl
theorem inf0 : (Tryz.prog.info? 0).map (fun i => (i.zero, i.size, i.bytes)) = some (some (.tuple #[]), 1, 0) := by kernel_rfl
theorem isz1 : (Tryz.prog.info? 1).map (·.size) = some 1 := by kernel_rfl
theorem inf1 : (Tryz.prog.info? 1).map (fun i => (i.zero, i.size, i.bytes)) = some (some (.nilFunc), 1, 8) := by kernel_rfl
theorem isz2 : (Tryz.prog.info? 2).map (·.size) = some 1 := by kernel_rfl
theorem inf2 : (Tryz.prog.info? 2).map (fun i => (i.zero, i.size, i.bytes)) = some (some (.int .i64 0), 1, 8) := by kernel_rfl
theorem isz3 : (Tryz.prog.info? 3).map (·.size) = some 1 := by kernel_rfl
theorem inf3 : (Tryz.prog.info? 3).map (fun i => (i.zero, i.size, i.bytes)) = some (some (.int .i64 0), 1, 8) := by kernel_rfl
theorem isz4 : (Tryz.prog.info? 4).map (·.size) = some 1 := by kernel_rfl
theorem inf4 : (Tryz.prog.info? 4).map (fun i => (i.zero, i.size, i.bytes)) = some (some (.bool false), 1, 1) := by kernel_rfl
theorem isz5 : (Tryz.prog.info? 5).map (·.size) = some 1 := by kernel_rfl
theorem inf5 : (Tryz.prog.info? 5).map (fun i => (i.zero, i.size, i.bytes)) = some (some (.int .u8 0), 1, 1) := by kernel_rfl
theorem isz6 : (Tryz.prog.info? 6).map (·.size) = some 1 := by kernel_rfl
theorem inf6 : (Tryz.prog.info? 6).map (fun i => (i.zero, i.size, i.bytes)) = some (some (.int .u8 0), 1, 1) := by kernel_rfl
theorem isz7 : (Tryz.prog.info? 7).map (·.size) = some 4 := by kernel_rfl
theorem inf7 : (Tryz.prog.info? 7).map (fun i => (i.zero, i.size, i.bytes)) = some (some (.agg #[.int .i64 0, .int .i64 0, .bool false, .int .u8 0]), 4, 24) := by kernel_rfl
theorem isz8 : (Tryz.prog.info? 8).map (·.size) = some 4 := by kernel_rfl
theorem inf8 : (Tryz.prog.info? 8).map (fun i => (i.zero, i.size, i.bytes)) = some (some (.agg #[.int .i64 0, .int .i64 0, .bool false, .int .u8 0]), 4, 24) := by kernel_rfl
theorem isz9 : (Tryz.prog.info? 9).map (·.size) = some 1 := by kernel_rfl
theorem inf9 : (Tryz.prog.info? 9).map (fun i => (i.zero, i.size, i.bytes)) = some (some (.string ⟨#[]⟩), 1, 16) := by kernel_rfl
theorem isz10 : (Tryz.prog.info? 10).map (·.size) = some 1 := by kernel_rfl
theorem inf10 : (Tryz.prog.info? 10).map (fun i => (i.zero, i.size, i.bytes)) = some (some (.string ⟨#[]⟩), 1, 16) := by kernel_rfl
theorem isz11 : (Tryz.prog.info? 11).map (·.size) = some 1 := by kernel_rfl
theorem inf11 : (Tryz.prog.info? 11).map (fun i => (i.zero, i.size, i.bytes)) = some (some (.string ⟨#[]⟩), 1, 16) := by kernel_rfl
theorem isz12 : (Tryz.prog.info? 12).map (·.size) = some 1 := by kernel_rfl
theorem inf12 : (Tryz.prog.info? 12).map (fun i => (i.zero, i.size, i.bytes)) = some (some (.int .u64 0), 1, 8) := by kernel_rfl
theorem isz13 : (Tryz.prog.info? 13).map (·.size) = some 2 := by kernel_rfl
theorem inf13 : (Tryz.prog.info? 13).map (fun i => (i.zero, i.size, i.bytes)) = some (some (.agg #[.string ⟨#[]⟩, .int .u64 0]), 2, 24) := by kernel_rfl
theorem isz14 : (Tryz.prog.info? 14).map (·.size) = some 2 := by kernel_rfl
theorem inf14 : (Tryz.prog.info? 14).map (fun i => (i.zero, i.size, i.bytes)) = some (some (.agg #[.string ⟨#[]⟩, .int .u64 0]), 2, 24) := by kernel_rfl
theorem isz15 : (Tryz.prog.info? 15).map (·.size) = some 1 := by kernel_rfl
theorem inf15 : (Tryz.prog.info? 15).map (fun i => (i.zero, i.size, i.bytes)) = some (some (.pointer none), 1, 8) := by kernel_rfl
theorem isz16 : (Tryz.prog.info? 16).map (·.size) = some 1 := by kernel_rfl
theorem inf16 : (Tryz.prog.info? 16).map (fun i => (i.zero, i.size, i.bytes)) = some (some (.pointer none), 1, 8) := by kernel_rfl
theorem isz17 : (Tryz.prog.info? 17).map (·.size) = some 1 := by kernel_rfl
theorem inf17 : (Tryz.prog.info? 17).map (fun i => (i.zero, i.size, i.bytes)) = some (some (.pointer none), 1, 8) := by kernel_rfl
theorem isz18 : (Tryz.prog.info? 18).map (·.size) = some 1 := by kernel_rfl
theorem inf18 : (Tryz.prog.info? 18).map (fun i => (i.zero, i.size, i.bytes)) = some (some (.agg #[.pointer none]), 1, 8) := by kernel_rfl
theorem isz19 : (Tryz.prog.info? 19).map (·.size) = some 1 := by kernel_rfl
theorem inf19 : (Tryz.prog.info? 19).map (fun i => (i.zero, i.size, i.bytes)) = some (some (.agg #[.pointer none]), 1, 8) := by kernel_rfl
theorem isz20 : (Tryz.prog.info? 20).map (·.size) = some 1 := by kernel_rfl
theorem inf20 : (Tryz.prog.info? 20).map (fun i => (i.zero, i.size, i.bytes)) = some (some (.nilIface), 1, 16) := by kernel_rfl
theorem isz21 : (Tryz.prog.info? 21).map (·.size) = some 1 := by kernel_rfl
theorem inf21 : (Tryz.prog.info? 21).map (fun i => (i.zero, i.size, i.bytes)) = some (some (.int .i32 0), 1, 4) := by kernel_rfl
theorem isz22 : (Tryz.prog.info? 22).map (·.size) = some 2 := by kernel_rfl
theorem inf22 : (Tryz.prog.info? 22).map (fun i => (i.zero, i.size, i.bytes)) = some (some (.agg #[.int .i64 0, .int .i64 0]), 2, 16) := by kernel_rfl
theorem isz23 : (Tryz.prog.info? 23).map (·.size) = some 2 := by kernel_rfl
theorem inf23 : (Tryz.prog.info? 23).map (fun i => (i.zero, i.size, i.bytes)) = some (some (.agg #[.int .i64 0, .int .i64 0]), 2, 16) := by kernel_rfl
theorem isz24 : (Tryz.prog.info? 24).map (·.size) = some 1 := by kernel_rfl
theorem inf24 : (Tryz.prog.info? 24).map (fun i => (i.zero, i.size, i.bytes)) = some (some (.int .u32 0), 1, 4) := by kernel_rfl
theorem isz25 : (Tryz.prog.info? 25).map (·.size) = some 1 := by kernel_rfl
theorem inf25 : (Tryz.prog.info? 25).map (fun i => (i.zero, i.size, i.bytes)) = some (some (.slice none 0 0), 1, 24) := by kernel_rfl
theorem isz26 : (Tryz.prog.info? 26).map (·.size) = some 8 := by kernel_rfl
theorem inf26 : (Tryz.prog.info? 26).map (fun i => (i.zero, i.size, i.bytes)) = some (some (.agg #[.int .i64 0, .int .i64 0, .int .u32 0, .bool false, .string ⟨#[]⟩, .int .i64 0, .string ⟨#[]⟩, .slice none 0 0]), 8, 88) := by kernel_rfl
theorem isz27 : (Tryz.prog.info? 27).map (·.size) = some 8 := by kernel_rfl
theorem inf27 : (Tryz.prog.info? 27).map (fun i => (i.zero, i.size, i.bytes)) = some (some (.agg #[.int .i64 0, .int .i64 0, .int .u32 0, .bool false, .string ⟨#[]⟩, .int .i64 0, .string ⟨#[]⟩, .slice none 0 0]), 8, 88) := by kernel_rfl
theorem isz28 : (Tryz.prog.info? 28).map (·.size) = some 1 := by kernel_rfl
theorem inf28 : (Tryz.prog.info? 28).map (fun i => (i.zero, i.size, i.bytes)) = some (some (.nilFunc), 1, 8) := by kernel_rfl
theorem isz29 : (Tryz.prog.info? 29).map (·.size) = some 1 := by kernel_rfl
theorem inf29 : (Tryz.prog.info? 29).map (fun i => (i.zero, i.size, i.bytes)) = some (some (.nilFunc), 1, 8) := by kernel_rfl
theorem isz30 : (Tryz.prog.info? 30).map (·.size) = some 1 := by kernel_rfl
theorem inf30 : (Tryz.prog.info? 30).map (fun i => (i.zero, i.size, i.bytes)) = some (some (.nilIface), 1, 16) := by kernel_rfl
theorem isz31 : (Tryz.prog.info? 31).map (·.size) = some 1 := by kernel_rfl
theorem inf31 : (Tryz.prog.info? 31).map (fun i => (i.zero, i.size, i.bytes)) = some (some (.nilIface), 1, 16) := by kernel_rfl
theorem isz32 : (Tryz.prog.info? 32).map (·.size) = some 1 := by kernel_rfl
theorem inf32 : (Tryz.prog.info? 32).map (fun i => (i.zero, i.size, i.bytes)) = some (some (.nilFunc), 1, 8) := by kernel_rfl
theorem isz33 : (Tryz.prog.info? 33).map (·.size) = some 3 := by kernel_rfl
theorem inf33 : (Tryz.prog.info? 33).map (fun i => (i.zero, i.size, i.bytes)) = some (some (.agg #[.int .i64 0, .int .i64 0, .int .i64 0]), 3, 24) := by kernel_rfl
theorem isz34 : (Tryz.prog.info? 34).map (·.size) = some 3 := by kernel_rfl
theorem inf34 : (Tryz.prog.info? 34).map (fun i => (i.zero, i.size, i.bytes)) = some (some (.agg #[.int .i64 0, .int .i64 0, .int .i64 0]), 3, 24) := by kernel_rfl
theorem isz35 : (Tryz.prog.info? 35).map (·.size) = some 1 := by kernel_rfl
theorem inf35 : (Tryz.prog.info? 35).map (fun i => (i.zero, i.size, i.bytes)) = some (some (.nilFunc), 1, 8) := by kernel_rfl
theorem isz36 : (Tryz.prog.info? 36).map (·.size) = some 1 := by kernel_rfl
theorem inf36 : (Tryz.prog.info? 36).map (fun i => (i.zero, i.size, i.bytes)) = some (some (.nilFunc), 1, 8) := by kernel_rfl
theorem isz37 : (Tryz.prog.info? 37).map (·.size) = some 1 := by kernel_rfl
theorem inf37 : (Tryz.prog.info? 37).map (fun i => (i.zero, i.size, i.bytes)) = some (some (.nilFunc), 1, 8) := by kernel_rfl
theorem isz38 : (Tryz.prog.info? 38).map (·.size) = some 3 := by kernel_rfl
theorem inf38 : (Tryz.prog.info? 38).map (fun i => (i.zero, i.size, i.bytes)) = some (some (.agg #[.int .i64 0, .int .i64 0, .string ⟨#[]⟩]), 3, 32) := by kernel_rfl
theorem isz39 : (Tryz.prog.info? 39).map (·.size) = some 3 := by kernel_rfl
theorem inf39 : (Tryz.prog.info? 39).map (fun i => (i.zero, i.size, i.bytes)) = some (some (.agg #[.int .i64 0, .int .i64 0, .string ⟨#[]⟩]), 3, 32) := by kernel_rfl
theorem isz40 : (Tryz.prog.info? 40).map (·.size) = some 1 := by kernel_rfl
theorem inf40 : (Tryz.prog.info? 40).map (fun i => (i.zero, i.size, i.bytes)) = some (some (.slice none 0 0), 1, 24) := by kernel_rfl
theorem isz41 : (Tryz.prog.info? 41).map (·.size) = some 3 := by kernel_rfl
theorem inf41 : (Tryz.prog.info? 41).map (fun i => (i.zero, i.size, i.bytes)) = some (some (.agg #[.int .i64 0, .int .i64 0, .slice none 0 0]), 3, 40) := by kernel_rfl
theorem isz42 : (Tryz.prog.info? 42).map (·.size) = some 3 := by kernel_rfl
theorem inf42 : (Tryz.prog.info? 42).map (fun i => (i.zero, i.size, i.bytes)) = some (some (.agg #[.int .i64 0, .int .i64 0, .slice none 0 0]), 3, 40) := by kernel_rfl
theorem isz43 : (Tryz.prog.info? 43).map (·.size) = some 1 := by kernel_rfl
theorem inf43 : (Tryz.prog.info? 43).map (fun i => (i.zero, i.size, i.bytes)) = some (some (.slice none 0 0), 1, 24) := by kernel_rfl
theorem isz44 : (Tryz.prog.info? 44).map (·.size) = some 1 := by kernel_rfl
theorem inf44 : (Tryz.prog.info? 44).map (fun i => (i.zero, i.size, i.bytes)) = some (some (.slice none 0 0), 1, 24) := by kernel_rfl
theorem isz45 : (Tryz.prog.info? 45).map (·.size) = some 9 := by kernel_rfl
theorem inf45 : (Tryz.prog.info? 45).map (fun i => (i.zero, i.size, i.bytes)) = some (some (.agg #[.bool false, .int .i64 0, .int .i64 0, .string ⟨#[]⟩, .int .i64 0, .int .i64 0, .slice none 0 0, .slice none 0 0, .slice none 0 0]), 9, 128) := by kernel_rfl
theorem isz46 : (Tryz.prog.info? 46).map (·.size) = some 9 := by kernel_rfl
theorem inf46 : (Tryz.prog.info? 46).map (fun i => (i.zero, i.size, i.bytes)) = some (some (.agg #[.bool false, .int .i64 0, .int .i64 0, .string ⟨#[]⟩, .int .i64 0, .int .i64 0, .slice none 0 0, .slice none 0 0, .slice none 0 0]), 9, 128) := by kernel_rfl
theorem isz47 : (Tryz.prog.info? 47).map (·.size) = some 1 := by kernel_rfl
theorem inf47 : (Tryz.prog.info? 47).map (fun i => (i.zero, i.size, i.bytes)) = some (some (.nilFunc), 1, 8) := by kernel_rfl
theorem isz48 : (Tryz.prog.info? 48).map (·.size) = some 1 := by kernel_rfl
theorem inf48 : (Tryz.prog.info? 48).map (fun i => (i.zero, i.size, i.bytes)) = some (some (.nilFunc), 1, 8) := by kernel_rfl
theorem isz49 : (Tryz.prog.info? 49).map (·.size) = some 1 := by kernel_rfl
theorem inf49 : (Tryz.prog.info? 49).map (fun i => (i.zero, i.size, i.bytes)) = some (some (.nilFunc), 1, 8) := by kernel_rfl
theorem isz50 : (Tryz.prog.info? 50).map (·.size) = some 1 := by kernel_rfl
theorem inf50 : (Tryz.prog.info? 50).map (fun i => (i.zero, i.size, i.bytes)) = some (some (.nilFunc), 1, 8) := by kernel_rfl
theorem isz51 : (Tryz.prog.info? 51).map (·.size) = some 1 := by kernel_rfl
theorem inf51 : (Tryz.prog.info? 51).map (fun i => (i.zero, i.size, i.bytes)) = some (some (.nilFunc), 1, 8) := by kernel_rfl
theorem isz52 : (Tryz.prog.info? 52).map (·.size) = some 1 := by kernel_rfl
theorem inf52 : (Tryz.prog.info? 52).map (fun i => (i.zero, i.size, i.bytes)) = some (some (.nilFunc), 1, 8) := by kernel_rfl
theorem isz53 : (Tryz.prog.info? 53).map (·.size) = some 1 := by kernel_rfl
theorem inf53 : (Tryz.prog.info? 53).map (fun i => (i.zero, i.size, i.bytes)) = some (some (.nilFunc), 1, 8) := by kernel_rfl
theorem isz54 : (Tryz.prog.info? 54).map (·.size) = some 1 := by kernel_rfl
theorem inf54 : (Tryz.prog.info? 54).map (fun i => (i.zero, i.size, i.bytes)) = some (some (.int .i64 0), 1, 8) := by kernel_rfl
theorem isz55 : (Tryz.prog.info? 55).map (·.size) = some 1 := by kernel_rfl
theorem inf55 : (Tryz.prog.info? 55).map (fun i => (i.zero, i.size, i.bytes)) = some (some (.nilFunc), 1, 8) := by kernel_rfl
theorem isz56 : (Tryz.prog.info? 56).map (·.size) = some 1 := by kernel_rfl
theorem inf56 : (Tryz.prog.info? 56).map (fun i => (i.zero, i.size, i.bytes)) = some (some (.nilFunc), 1, 8) := by kernel_rfl
theorem isz57 : (Tryz.prog.info? 57).map (·.size) = some 1 := by kernel_rfl
theorem inf57 : (Tryz.prog.info? 57).map (fun i => (i.zero, i.size, i.bytes)) = some (some (.map none), 1, 8) := by kernel_rfl
theorem isz58 : (Tryz.prog.info? 58).map (·.size) = some 1 := by kernel_rfl
theorem inf58 : (Tryz.prog.info? 58).map (fun i => (i.zero, i.size, i.bytes)) = some (some (.int .u64 0), 1, 8) := by kernel_rfl
theorem isz59 : (Tryz.prog.info? 59).map (·.size) = some 2 := by kernel_rfl
theorem inf59 : (Tryz.prog.info? 59).map (fun i => (i.zero, i.size, i.bytes)) = some (some (.agg #[.int .i64 0, .int .i64 0]), 2, 16) := by kernel_rfl
theorem isz60 : (Tryz.prog.info? 60).map (·.size) = some 2 := by kernel_rfl
theorem inf60 : (Tryz.prog.info? 60).map (fun i => (i.zero, i.size, i.bytes)) = some (some (.agg #[.int .i64 0, .int .i64 0]), 2, 16) := by kernel_rfl
theorem isz61 : (Tryz.prog.info? 61).map (·.size) = some 19 := by kernel_rfl
theorem inf61 : (Tryz.prog.info? 61).map (fun i => (i.zero, i.size, i.bytes)) = some (some (.agg #[.int .i64 0, .int .i64 0, .string ⟨#[]⟩, .int .i64 0, .int .u64 0, .int .i64 0, .int .i64 0, .bool false, .bool false, .int .i64 0, .int .i64 0, .int .i64 0, .int .i64 0, .int .i64 0, .int .i64 0, .int .i64 0, .int .i64 0, .string ⟨#[]⟩, .slice none 0 0]), 19, 176) := by kernel_rfl
theorem isz62 : (Tryz.prog.info? 62).map (·.size) = some 19 := by kernel_rfl
theorem inf62 : (Tryz.prog.info? 62).map (fun i => (i.zero, i.size, i.bytes)) = some (some (.agg #[.int .i64 0, .int .i64 0, .string ⟨#[]⟩, .int .i64 0, .int .u64 0, .int .i64 0, .int .i64 0, .bool false, .bool false, .int .i64 0, .int .i64 0, .int .i64 0, .int .i64 0, .int .i64 0, .int .i64 0, .int .i64 0, .int .i64 0, .string ⟨#[]⟩, .slice none 0 0]), 19, 176) := by kernel_rfl
theorem isz63 : (Tryz.prog.info? 63).map (·.size) = some 1 := by kernel_rfl
theorem inf63 : (Tryz.prog.info? 63).map (fun i => (i.zero, i.size, i.bytes)) = some (some (.nilFunc), 1, 8) := by kernel_rfl
theorem isz64 : (Tryz.prog.info? 64).map (·.size) = some 1 := by kernel_rfl
theorem inf64 : (Tryz.prog.info? 64).map (fun i => (i.zero, i.size, i.bytes)) = some (some (.nilFunc), 1, 8) := by kernel_rfl
theorem isz65 : (Tryz.prog.info? 65).map (·.size) = some 1 := by kernel_rfl
theorem inf65 : (Tryz.prog.info? 65).map (fun i => (i.zero, i.size, i.bytes)) = some (some (.nilFunc), 1, 8) := by kernel_rfl
theorem isz66 : (Tryz.prog.info? 66).map (·.size) = some 1 := by kernel_rfl
theorem inf66 : (Tryz.prog.info? 66).map (fun i => (i.zero, i.size, i.bytes)) = some (some (.nilFunc), 1, 8) := by kernel_rfl
theorem isz67 : (Tryz.prog.info? 67).map (·.size) = some 1 := by kernel_rfl
theorem inf67 : (Tryz.prog.info? 67).map (fun i => (i.zero, i.size, i.bytes)) = some (some (.nilFunc), 1, 8) := by kernel_rfl
theorem isz68 : (Tryz.prog.info? 68).map (·.size) = some 1 := by kernel_rfl
theorem inf68 : (Tryz.prog.info? 68).map (fun i => (i.zero, i.size, i.bytes)) = some (some (.nilFunc), 1, 8) := by kernel_rfl
theorem isz69 : (Tryz.prog.info? 69).map (·.size) = some 1 := by kernel_rfl
theorem inf69 : (Tryz.prog.info? 69).map (fun i => (i.zero, i.size, i.bytes)) = some (some (.nilFunc), 1, 8) := by kernel_rfl
theorem isz70 : (Tryz.prog.info? 70).map (·.size) = some 1 := by kernel_rfl
theorem inf70 : (Tryz.prog.info? 70).map (fun i => (i.zero, i.size, i.bytes)) = some (some (.nilFunc), 1, 8) := by kernel_rfl
theorem isz71 : (Tryz.prog.info? 71).map (·.size) = some 1 := by kernel_rfl
theorem inf71 : (Tryz.prog.info? 71).map (fun i => (i.zero, i.size, i.bytes)) = some (some (.nilFunc), 1, 8) := by kernel_rfl
theorem isz72 : (Tryz.prog.info? 72).map (·.size) = some 1 := by kernel_rfl
theorem inf72 : (Tryz.prog.info? 72).map (fun i => (i.zero, i.size, i.bytes)) = some (some (.nilFunc), 1, 8) := by kernel_rfl
theorem isz73 : (Tryz.prog.info? 73).map (·.size) = some 1 := by kernel_rfl
theorem inf73 : (Tryz.prog.info? 73).map (fun i => (i.zero, i.size, i.bytes)) = some (some (.nilFunc), 1, 8) := by kernel_rfl
theorem isz74 : (Tryz.prog.info? 74).map (·.size) = some 1 := by kernel_rfl
theorem inf74 : (Tryz.prog.info? 74).map (fun i => (i.zero, i.size, i.bytes)) = some (some (.nilFunc), 1, 8) := by kernel_rfl
theorem isz75 : (Tryz.prog.info? 75).map (·.size) = some 1 := by kernel_rfl
theorem inf75 : (Tryz.prog.info? 75).map (fun i => (i.zero, i.size, i.bytes)) = some (some (.pointer none), 1, 8) := by kernel_rfl
theorem isz76 : (Tryz.prog.info? 76).map (·.size) = some 1 := by kernel_rfl
theorem inf76 : (Tryz.prog.info? 76).map (fun i => (i.zero, i.size, i.bytes)) = some (some (.map none), 1, 8) := by kernel_rfl
theorem isz77 : (Tryz.prog.info? 77).map (·.size) = some 1 := by kernel_rfl
theorem inf77 : (Tryz.prog.info? 77).map (fun i => (i.zero, i.size, i.bytes)) = some (some (.map none), 1, 8) := by kernel_rfl
theorem isz78 : (Tryz.prog.info? 78).map (·.size) = some 4 := by kernel_rfl
theorem inf78 : (Tryz.prog.info? 78).map (fun i => (i.zero, i.size, i.bytes)) = some (some (.agg #[.map none, .map none, .map none, .map none]), 4, 32) := by kernel_rfl
theorem isz79 : (Tryz.prog.info? 79).map (·.size) = some 4 := by kernel_rfl
theorem inf79 : (Tryz.prog.info? 79).map (fun i => (i.zero, i.size, i.bytes)) = some (some (.agg #[.map none, .map none, .map none, .map none]), 4, 32) := by kernel_rfl
theorem isz80 : (Tryz.prog.info? 80).map (·.size) = some 1 := by kernel_rfl
theorem inf80 : (Tryz.prog.info? 80).map (fun i => (i.zero, i.size, i.bytes)) = some (some (.nilFunc), 1, 8) := by kernel_rfl
theorem isz81 : (Tryz.prog.info? 81).map (·.size) = some 1 := by kernel_rfl
theorem inf81 : (Tryz.prog.info? 81).map (fun i => (i.zero, i.size, i.bytes)) = some (some (.nilFunc), 1, 8) := by kernel_rfl
theorem isz82 : (Tryz.prog.info? 82).map (·.size) = some 1 := by kernel_rfl
theorem inf82 : (Tryz.prog.info? 82).map (fun i => (i.zero, i.size, i.bytes)) = some (some (.slice none 0 0), 1, 24) := by kernel_rfl
theorem isz83 : (Tryz.prog.info? 83).map (·.size) = some 6 := by kernel_rfl
theorem inf83 : (Tryz.prog.info? 83).map (fun i => (i.zero, i.size, i.bytes)) = some (some (.agg #[.int .i64 0, .int .i64 0, .int .u32 0, .bool false, .string ⟨#[]⟩, .slice none 0 0]), 6, 64) := by kernel_rfl
theorem isz84 : (Tryz.prog.info? 84).map (·.size) = some 6 := by kernel_rfl
theorem inf84 : (Tryz.prog.info? 84).map (fun i => (i.zero, i.size, i.bytes)) = some (some (.agg #[.int .i64 0, .int .i64 0, .int .u32 0, .bool false, .string ⟨#[]⟩, .slice none 0 0]), 6, 64) := by kernel_rfl
theorem isz85 : (Tryz.prog.info? 85).map (·.size) = some 3 := by kernel_rfl
theorem inf85 : (Tryz.prog.info? 85).map (fun i => (i.zero, i.size, i.bytes)) = some (some (.agg #[.int .u32 0, .bool false, .string ⟨#[]⟩]), 3, 24) := by kernel_rfl
theorem isz86 : (Tryz.prog.info? 86).map (·.size) = some 3 := by kernel_rfl
theorem inf86 : (Tryz.prog.info? 86).map (fun i => (i.zero, i.size, i.bytes)) = some (some (.agg #[.int .u32 0, .bool false, .string ⟨#[]⟩]), 3, 24) := by kernel_rfl
theorem isz87 : (Tryz.prog.info? 87).map (·.size) = some 1 := by kernel_rfl
theorem inf87 : (Tryz.prog.info? 87).map (fun i => (i.zero, i.size, i.bytes)) = some (some (.tuple #[.agg #[.int .i64 0, .int .i64 0, .string ⟨#[]⟩, .int .i64 0, .int .u64 0, .int .i64 0, .int .i64 0, .bool false, .bool false, .int .i64 0, .int .i64 0, .int .i64 0, .int .i64 0, .int .i64 0, .int .i64 0, .int .i64 0, .int .i64 0, .string ⟨#[]⟩, .slice none 0 0], .bool false]), 1, 0) := by kernel_rfl
theorem isz88 : (Tryz.prog.info? 88).map (·.size) = some 1 := by kernel_rfl
theorem inf88 : (Tryz.prog.info? 88).map (fun i => (i.zero, i.size, i.bytes)) = some (some (.nilFunc), 1, 8) := by kernel_rfl
theorem isz89 : (Tryz.prog.info? 89).map (·.size) = some 1 := by kernel_rfl
theorem inf89 : (Tryz.prog.info? 89).map (fun i => (i.zero, i.size, i.bytes)) = some (some (.nilFunc), 1, 8) := by kernel_rfl
theorem isz90 : (Tryz.prog.info? 90).map (·.size) = some 1 := by kernel_rfl
theorem inf90 : (Tryz.prog.info? 90).map (fun i => (i.zero, i.size, i.bytes)) = some (some (.nilFunc), 1, 8) := by kernel_rfl
theorem isz91 : (Tryz.prog.info? 91).map (·.size) = some 1 := by kernel_rfl
theorem inf91 : (Tryz.prog.info? 91).map (fun i => (i.zero, i.size, i.bytes)) = some (some (.nilFunc), 1, 8) := by kernel_rfl
theorem isz92 : (Tryz.prog.info? 92).map (·.size) = some 1 := by kernel_rfl
theorem inf92 : (Tryz.prog.info? 92).map (fun i => (i.zero, i.size, i.bytes)) = some (some (.nilFunc), 1, 8) := by kernel_rfl
theorem isz93 : (Tryz.prog.info? 93).map (·.size) = some 1 := by kernel_rfl
theorem inf93 : (Tryz.prog.info? 93).map (fun i => (i.zero, i.size, i.bytes)) = some (some (.nilFunc), 1, 8) := by kernel_rfl
theorem isz94 : (Tryz.prog.info? 94).map (·.size) = some 1 := by kernel_rfl
theorem inf94 : (Tryz.prog.info? 94).map (fun i => (i.zero, i.size, i.bytes)) = some (some (.nilFunc), 1, 8) := by kernel_rfl
theorem isz95 : (Tryz.prog.info? 95).map (·.size) = some 1 := by kernel_rfl
theorem inf95 : (Tryz.prog.info? 95).map (fun i => (i.zero, i.size, i.bytes)) = some (some (.nilFunc), 1, 8) := by kernel_rfl
theorem isz96 : (Tryz.prog.info? 96).map (·.size) = some 1 := by kernel_rfl
theorem inf96 : (Tryz.prog.info? 96).map (fun i => (i.zero, i.size, i.bytes)) = some (some (.tuple #[.int .i64 0, .int .i64 0, .bool false]), 1, 0) := by kernel_rfl
theorem isz97 : (Tryz.prog.info? 97).map (·.size) = some 1 := by kernel_rfl
theorem inf97 : (Tryz.prog.info? 97).map (fun i => (i.zero, i.size, i.bytes)) = some (some (.nilFunc), 1, 8) := by kernel_rfl
theorem isz98 : (Tryz.prog.info? 98).map (·.size) = some 1 := by kernel_rfl
theorem inf98 : (Tryz.prog.info? 98).map (fun i => (i.zero, i.size, i.bytes)) = some (some (.nilFunc), 1, 8) := by kernel_rfl
theorem isz99 : (Tryz.prog.info? 99).map (·.size) = some 3 := by kernel_rfl
theorem inf99 : (Tryz.prog.info? 99).map (fun i => (i.zero, i.size, i.bytes)) = some (some (.agg #[.int .i64 0, .int .i64 0, .int .i64 0]), 3, 24) := by kernel_rfl
theorem isz100 : (Tryz.prog.info? 100).map (·.size) = some 3 := by kernel_rfl
theorem inf100 : (Tryz.prog.info? 100).map (fun i => (i.zero, i.size, i.bytes)) = some (some (.agg #[.int .i64 0, .int .i64 0, .int .i64 0]), 3, 24) := by kernel_rfl
theorem isz101 : (Tryz.prog.info? 101).map (·.size) = some 64 := by kernel_rfl
theorem inf101 : (Tryz.prog.info? 101).map (fun i => (i.zero, i.size, i.bytes)) = some (some (.agg #[.bool false, .bool false, .bool false, .bool false, .bool false, .bool false, .bool false, .bool false, .bool false, .bool false, .bool false, .bool false, .bool false, .bool false, .bool false, .bool false, .bool false, .bool false, .bool false, .bool false, .bool false, .bool false, .bool false, .bool false, .bool false, .bool false, .bool false, .bool false, .bool false, .bool false, .bool false, .bool false, .bool false, .bool false, .bool false, .bool false, .bool false, .bool false, .bool false, .bool false, .bool false, .bool false, .bool false, .bool false, .bool false, .bool false, .bool false, .bool false, .bool false, .bool false, .bool false, .bool false, .bool false, .bool false, .bool false, .bool false, .bool false, .bool false, .bool false, .bool false, .bool false, .bool false, .bool false, .bool false]), 64, 64) := by kernel_rfl
theorem isz102 : (Tryz.prog.info? 102).map (·.size) = some 64 := by kernel_rfl
theorem inf102 : (Tryz.prog.info? 102).map (fun i => (i.zero, i.size, i.bytes)) = some (some (.agg #[.bool false, .bool false, .bool false, .bool false, .bool false, .bool false, .bool false, .bool false, .bool false, .bool false, .bool false, .bool false, .bool false, .bool false, .bool false, .bool false, .bool false, .bool false, .bool false, .bool false, .bool false, .bool false, .bool false, .bool false, .bool false, .bool false, .bool false, .bool false, .bool false, .bool false, .bool false, .bool false, .bool false, .bool false, .bool false, .bool false, .bool false, .bool false, .bool false, .bool false, .bool false, .bool false, .bool false, .bool false, .bool false, .bool false, .bool false, .bool false, .bool false, .bool false, .bool false, .bool false, .bool false, .bool false, .bool false, .bool false, .bool false, .bool false, .bool false, .bool false, .bool false, .bool false, .bool false, .bool false]), 64, 64) := by kernel_rfl
theorem isz103 : (Tryz.prog.info? 103).map (·.size) = some 1 := by kernel_rfl
theorem inf103 : (Tryz.prog.info? 103).map (fun i => (i.zero, i.size, i.bytes)) = some (some (.tuple #[.agg #[.bool false, .bool false, .bool false, .bool false, .bool false, .bool false, .bool false, .bool false, .bool false, .bool false, .bool false, .bool false, .bool false, .bool false, .bool false, .bool false, .bool false, .bool false, .bool false, .bool false, .bool false, .bool false, .bool false, .bool false, .bool false, .bool false, .bool false, .bool false, .bool false, .bool false, .bool false, .bool false, .bool false, .bool false, .bool false, .bool false, .bool false, .bool false, .bool false, .bool false, .bool false, .bool false, .bool false, .bool false, .bool false, .bool false, .bool false, .bool false, .bool false, .bool false, .bool false, .bool false, .bool false, .bool false, .bool false, .bool false, .bool false, .bool false, .bool false, .bool false, .bool false, .bool false, .bool false, .bool false], .int .i64 0]), 1, 0) := by kernel_rfl
theorem isz104 : (Tryz.prog.info? 104).map (·.size) = some 1 := by kernel_rfl
theorem inf104 : (Tryz.prog.info? 104).map (fun i => (i.zero, i.size, i.bytes)) = some (some (.nilFunc), 1, 8) := by kernel_rfl
theorem isz105 : (Tryz.prog.info? 105).map (·.size) = some 1 := by kernel_rfl
theorem inf105 : (Tryz.prog.info? 105).map (fun i => (i.zero, i.size, i.bytes)) = some (some (.nilFunc), 1, 8) := by kernel_rfl
theorem isz106 : (Tryz.prog.info? 106).map (·.size) = some 1 := by kernel_rfl
theorem inf106 : (Tryz.prog.info? 106).map (fun i => (i.zero, i.size, i.bytes)) = some (some (.map none), 1, 8) := by kernel_rfl
theorem isz107 : (Tryz.prog.info? 107).map (·.size) = some 1 := by kernel_rfl
theorem inf107 : (Tryz.prog.info? 107).map (fun i => (i.zero, i.size, i.bytes)) = some (some (.nilFunc), 1, 8) := by kernel_rfl
theorem isz108 : (Tryz.prog.info? 108).map (·.size) = some 1 := by kernel_rfl
theorem inf108 : (Tryz.prog.info? 108).map (fun i => (i.zero, i.size, i.bytes)) = some (some (.nilFunc), 1, 8) := by kernel_rfl
theorem isz109 : (Tryz.prog.info? 109).map (·.size) = some 1 := by kernel_rfl
theorem inf109 : (Tryz.prog.info? 109).map (fun i => (i.zero, i.size, i.bytes)) = some (some (.nilFunc), 1, 8) := by kernel_rfl
theorem isz110 : (Tryz.prog.info? 110).map (·.size) = some 1 := by kernel_rfl
theorem inf110 : (Tryz.prog.info? 110).map (fun i => (i.zero, i.size, i.bytes)) = some (some (.nilFunc), 1, 8) := by kernel_rfl
theorem isz111 : (Tryz.prog.info? 111).map (·.size) = some 1 := by kernel_rfl
theorem inf111 : (Tryz.prog.info? 111).map (fun i => (i.zero, i.size, i.bytes)) = some (some (.int .u64 0), 1, 8) := by kernel_rfl
theorem isz112 : (Tryz.prog.info? 112).map (·.size) = some 1 := by kernel_rfl
theorem inf112 : (Tryz.prog.info? 112).map (fun i => (i.zero, i.size, i.bytes)) = some (some (.slice none 0 0), 1, 24) := by kernel_rfl
theorem isz113 : (Tryz.prog.info? 113).map (·.size) = some 1 := by kernel_rfl
theorem inf113 : (Tryz.prog.info? 113).map (fun i => (i.zero, i.size, i.bytes)) = some (some (.tuple #[.slice none 0 0, .int .i64 0]), 1, 0) := by kernel_rfl
theorem isz114 : (Tryz.prog.info? 114).map (·.size) = some 1 := by kernel_rfl
theorem inf114 : (Tryz.prog.info? 114).map (fun i => (i.zero, i.size, i.bytes)) = some (some (.nilFunc), 1, 8) := by kernel_rfl
theorem isz115 : (Tryz.prog.info? 115).map (·.size) = some 1 := by kernel_rfl
theorem inf115 : (Tryz.prog.info? 115).map (fun i => (i.zero, i.size, i.bytes)) = some (some (.nilFunc), 1, 8) := by kernel_rfl
theorem isz116 : (Tryz.prog.info? 116).map (·.size) = some 1 := by kernel_rfl
theorem inf116 : (Tryz.prog.info? 116).map (fun i => (i.zero, i.size, i.bytes)) = some (some (.nilFunc), 1, 8) := by kernel_rfl
theorem isz117 : (Tryz.prog.info? 117).map (·.size) = some 1 := by kernel_rfl
theorem inf117 : (Tryz.prog.info? 117).map (fun i => (i.zero, i.size, i.bytes)) = some (some (.nilFunc), 1, 8) := by kernel_rfl
theorem isz118 : (Tryz.prog.info? 118).map (·.size) = some 1 := by kernel_rfl
theorem inf118 : (Tryz.prog.info? 118).map (fun i => (i.zero, i.size, i.bytes)) = some (some (.nilFunc), 1, 8) := by kernel_rfl
theorem isz119 : (Tryz.prog.info? 119).map (·.size) = some 1 := by kernel_rfl
theorem inf119 : (Tryz.prog.info? 119).map (fun i => (i.zero, i.size, i.bytes)) = some (some (.map none), 1, 8) := by kernel_rfl
theorem isz120 : (Tryz.prog.info? 120).map (·.size) = some 2 := by kernel_rfl
theorem inf120 : (Tryz.prog.info? 120).map (fun i => (i.zero, i.size, i.bytes)) = some (some (.agg #[.int .i64 0, .string ⟨#[]⟩]), 2, 24) := by kernel_rfl
theorem isz121 : (Tryz.prog.info? 121).map (·.size) = some 2 := by kernel_rfl
theorem inf121 : (Tryz.prog.info? 121).map (fun i => (i.zero, i.size, i.bytes)) = some (some (.agg #[.int .i64 0, .string ⟨#[]⟩]), 2, 24) := by kernel_rfl
theorem isz122 : (Tryz.prog.info? 122).map (·.size) = some 1 := by kernel_rfl
theorem inf122 : (Tryz.prog.info? 122).map (fun i => (i.zero, i.size, i.bytes)) = some (some (.slice none 0 0), 1, 24) := by kernel_rfl
theorem isz123 : (Tryz.prog.info? 123).map (·.size) = some 1 := by kernel_rfl
theorem inf123 : (Tryz.prog.info? 123).map (fun i => (i.zero, i.size, i.bytes)) = some (some (.nilFunc), 1, 8) := by kernel_rfl
theorem isz124 : (Tryz.prog.info? 124).map (·.size) = some 5 := by kernel_rfl
theorem inf124 : (Tryz.prog.info? 124).map (fun i => (i.zero, i.size, i.bytes)) = some (some (.agg #[.int .i64 0, .int .i64 0, .int .i32 0, .int .i64 0, .bool false]), 5, 40) := by kernel_rfl
theorem isz125 : (Tryz.prog.info? 125).map (·.size) = some 5 := by kernel_rfl
theorem inf125 : (Tryz.prog.info? 125).map (fun i => (i.zero, i.size, i.bytes)) = some (some (.agg #[.int .i64 0, .int .i64 0, .int .i32 0, .int .i64 0, .bool false]), 5, 40) := by kernel_rfl
theorem isz126 : (Tryz.prog.info? 126).map (·.size) = some 1 := by kernel_rfl
theorem inf126 : (Tryz.prog.info? 126).map (fun i => (i.zero, i.size, i.bytes)) = some (some (.nilFunc), 1, 8) := by kernel_rfl
theorem isz127 : (Tryz.prog.info? 127).map (·.size) = some 1 := by kernel_rfl
theorem inf127 : (Tryz.prog.info? 127).map (fun i => (i.zero, i.size, i.bytes)) = some (some (.nilFunc), 1, 8) := by kernel_rfl
theorem isz128 : (Tryz.prog.info? 128).map (·.size) = some 1 := by kernel_rfl
theorem inf128 : (Tryz.prog.info? 128).map (fun i => (i.zero, i.size, i.bytes)) = some (some (.nilFunc), 1, 8) := by kernel_rfl
theorem isz129 : (Tryz.prog.info? 129).map (·.size) = some 1 := by kernel_rfl
theorem inf129 : (Tryz.prog.info? 129).map (fun i => (i.zero, i.size, i.bytes)) = some (some (.nilFunc), 1, 8) := by kernel_rfl
theorem isz130 : (Tryz.prog.info? 130).map (·.size) = some 1 := by kernel_rfl
theorem inf130 : (Tryz.prog.info? 130).map (fun i => (i.zero, i.size, i.bytes)) = some (some (.nilFunc), 1, 8) := by kernel_rfl
theorem isz131 : (Tryz.prog.info? 131).map (·.size) = some 1 := by kernel_rfl
theorem inf131 : (Tryz.prog.info? 131).map (fun i => (i.zero, i.size, i.bytes)) = some (some (.nilFunc), 1, 8) := by kernel_rfl
theorem isz132 : (Tryz.prog.info? 132).map (·.size) = some 1 := by kernel_rfl
theorem inf132 : (Tryz.prog.info? 132).map (fun i => (i.zero, i.size, i.bytes)) = some (some (.pointer none), 1, 8) := by kernel_rfl
theorem isz133 : (Tryz.prog.info? 133).map (·.size) = some 1 := by kernel_rfl
theorem inf133 : (Tryz.prog.info? 133).map (fun i => (i.zero, i.size, i.bytes)) = some (some (.nilFunc), 1, 8) := by kernel_rfl
theorem isz134 : (Tryz.prog.info? 134).map (·.size) = some 1 := by kernel_rfl
theorem inf134 : (Tryz.prog.info? 134).map (fun i => (i.zero, i.size, i.bytes)) = some (some (.tuple #[.slice none 0 0, .nilIface]), 1, 0) := by kernel_rfl
theorem isz135 : (Tryz.prog.info? 135).map (·.size) = some 1 := by kernel_rfl
theorem inf135 : (Tryz.prog.info? 135).map (fun i => (i.zero, i.size, i.bytes)) = some (some (.nilFunc), 1, 8) := by kernel_rfl
theorem isz136 : (Tryz.prog.info? 136).map (·.size) = some 1 := by kernel_rfl
theorem inf136 : (Tryz.prog.info? 136).map (fun i => (i.zero, i.size, i.bytes)) = some (some (.nilFunc), 1, 8) := by kernel_rfl
theorem isz137 : (Tryz.prog.info? 137).map (·.size) = some 1 := by kernel_rfl
theorem inf137 : (Tryz.prog.info? 137).map (fun i => (i.zero, i.size, i.bytes)) = some (some (.tuple #[.agg #[.bool false, .bool false, .bool false, .bool false, .bool false, .bool false, .bool false, .bool false, .bool false, .bool false, .bool false, .bool false, .bool false, .bool false, .bool false, .bool false, .bool false, .bool false, .bool false, .bool false, .bool false, .bool false, .bool false, .bool false, .bool false, .bool false, .bool false, .bool false, .bool false, .bool false, .bool false, .bool false, .bool false, .bool false, .bool false, .bool false, .bool false, .bool false, .bool false, .bool false, .bool false, .bool false, .bool false, .bool false, .bool false, .bool false, .bool false, .bool false, .bool false, .bool false, .bool false, .bool false, .bool false, .bool false, .bool false, .bool false, .bool false, .bool false, .bool false, .bool false, .bool false, .bool false, .bool false, .bool false], .nilIface]), 1, 0) := by kernel_rfl
theorem isz138 : (Tryz.prog.info? 138).map (·.size) = some 1 := by kernel_rfl
theorem inf138 : (Tryz.prog.info? 138).map (fun i => (i.zero, i.size, i.bytes)) = some (some (.nilFunc), 1, 8) := by kernel_rfl
theorem isz139 : (Tryz.prog.info? 139).map (·.size) = some 8 := by kernel_rfl
theorem inf139 : (Tryz.prog.info? 139).map (fun i => (i.zero, i.size, i.bytes)) = some (some (.agg #[.int .i64 0, .int .i64 0, .int .i64 0, .int .i64 0, .int .i64 0, .int .i64 0, .int .i64 0, .int .i64 0]), 8, 64) := by kernel_rfl
theorem isz140 : (Tryz.prog.info? 140).map (·.size) = some 1 := by kernel_rfl
theorem inf140 : (Tryz.prog.info? 140).map (fun i => (i.zero, i.size, i.bytes)) = some (some (.tuple #[.int .i64 0, .nilIface]), 1, 0) := by kernel_rfl
theorem isz141 : (Tryz.prog.info? 141).map (·.size) = some 1 := by kernel_rfl
theorem inf141 : (Tryz.prog.info? 141).map (fun i => (i.zero, i.size, i.bytes)) = some (some (.nilFunc), 1, 8) := by kernel_rfl
theorem isz142 : (Tryz.prog.info? 142).map (·.size) = some 1 := by kernel_rfl
theorem inf142 : (Tryz.prog.info? 142).map (fun i => (i.zero, i.size, i.bytes)) = some (some (.slice none 0 0), 1, 24) := by kernel_rfl
theorem isz143 : (Tryz.prog.info? 143).map (·.size) = some 1 := by kernel_rfl
theorem inf143 : (Tryz.prog.info? 143).map (fun i => (i.zero, i.size, i.bytes)) = some (some (.slice none 0 0), 1, 24) := by kernel_rfl
theorem isz144 : (Tryz.prog.info? 144).map (·.size) = some 1 := by kernel_rfl
theorem inf144 : (Tryz.prog.info? 144).map (fun i => (i.zero, i.size, i.bytes)) = some (some (.nilFunc), 1, 8) := by kernel_rfl
theorem isz145 : (Tryz.prog.info? 145).map (·.size) = some 1 := by kernel_rfl
theorem inf145 : (Tryz.prog.info? 145).map (fun i => (i.zero, i.size, i.bytes)) = some (some (.nilFunc), 1, 8) := by kernel_rfl
theorem isz146 : (Tryz.prog.info? 146).map (·.size) = some 1 := by kernel_rfl
theorem inf146 : (Tryz.prog.info? 146).map (fun i => (i.zero, i.size, i.bytes)) = some (some (.nilFunc), 1, 8) := by kernel_rfl
theorem isz147 : (Tryz.prog.info? 147).map (·.size) = some 1 := by kernel_rfl
theorem inf147 : (Tryz.prog.info? 147).map (fun i => (i.zero, i.size, i.bytes)) = some (some (.tuple #[.int .u64 0, .bool false]), 1, 0) := by kernel_rfl
theorem isz148 : (Tryz.prog.info? 148).map (·.size) = some 1 := by kernel_rfl
theorem inf148 : (Tryz.prog.info? 148).map (fun i => (i.zero, i.size, i.bytes)) = some (some (.nilFunc), 1, 8) := by kernel_rfl
theorem isz149 : (Tryz.prog.info? 149).map (·.size) = some 1 := by kernel_rfl
theorem inf149 : (Tryz.prog.info? 149).map (fun i => (i.zero, i.size, i.bytes)) = some (some (.tuple #[.int .i64 0, .int .i64 0]), 1, 0) := by kernel_rfl
theorem isz150 : (Tryz.prog.info? 150).map (·.size) = some 1 := by kernel_rfl
theorem inf150 : (Tryz.prog.info? 150).map (fun i => (i.zero, i.size, i.bytes)) = some (some (.nilFunc), 1, 8) := by kernel_rfl
theorem isz151 : (Tryz.prog.info? 151).map (·.size) = some 1 := by kernel_rfl
theorem inf151 : (Tryz.prog.info? 151).map (fun i => (i.zero, i.size, i.bytes)) = some (some (.nilFunc), 1, 8) := by kernel_rfl
theorem isz152 : (Tryz.prog.info? 152).map (·.size) = some 1 := by kernel_rfl
theorem inf152 : (Tryz.prog.info? 152).map (fun i => (i.zero, i.size, i.bytes)) = some (some (.nilFunc), 1, 8) := by kernel_rfl
theorem isz153 : (Tryz.prog.info? 153).map (·.size) = some 1 := by kernel_rfl
theorem inf153 : (Tryz.prog.info? 153).map (fun i => (i.zero, i.size, i.bytes)) = some (some (.nilFunc), 1, 8) := by kernel_rfl
theorem isz155 : (Tryz.prog.info? 155).map (·.size) = some 2 := by kernel_rfl
theorem inf155 : (Tryz.prog.info? 155).map (fun i => (i.zero, i.size, i.bytes)) = some (some (.agg #[.int .u8 0, .int .u8 0]), 2, 2) := by kernel_rfl
theorem isz156 : (Tryz.prog.info? 156).map (·.size) = some 2 := by kernel_rfl
theorem inf156 : (Tryz.prog.info? 156).map (fun i => (i.zero, i.size, i.bytes)) = some (some (.agg #[.int .u8 0, .int .u8 0]), 2, 2) := by kernel_rfl
theorem isz157 : (Tryz.prog.info? 157).map (·.size) = some 32 := by kernel_rfl
theorem inf157 : (Tryz.prog.info? 157).map (fun i => (i.zero, i.size, i.bytes)) = some (some (.agg #[.int .u8 0, .int .u8 0, .int .u8 0, .int .u8 0, .int .u8 0, .int .u8 0, .int .u8 0, .int .u8 0, .int .u8 0, .int .u8 0, .int .u8 0, .int .u8 0, .int .u8 0, .int .u8 0, .int .u8 0, .int .u8 0, .int .u8 0, .int .u8 0, .int .u8 0, .int .u8 0, .int .u8 0, .int .u8 0, .int .u8 0, .int .u8 0, .int .u8 0, .int .u8 0, .int .u8 0, .int .u8 0, .int .u8 0, .int .u8 0, .int .u8 0, .int .u8 0]), 32, 32) := by kernel_rfl
theorem isz158 : (Tryz.prog.info? 158).map (·.size) = some 1 := by kernel_rfl
theorem inf158 : (Tryz.prog.info? 158).map (fun i => (i.zero, i.size, i.bytes)) = some (some (.nilFunc), 1, 8) := by kernel_rfl
theorem isz159 : (Tryz.prog.info? 159).map (·.size) = some 1 := by kernel_rfl
theorem inf159 : (Tryz.prog.info? 159).map (fun i => (i.zero, i.size, i.bytes)) = some (some (.nilFunc), 1, 8) := by kernel_rfl
theorem isz160 : (Tryz.prog.info? 160).map (·.size) = some 1 := by kernel_rfl
theorem inf160 : (Tryz.prog.info? 160).map (fun i => (i.zero, i.size, i.bytes)) = some (some (.nilFunc), 1, 8) := by kernel_rfl
theorem isz161 : (Tryz.prog.info? 161).map (·.size) = some 1 := by kernel_rfl
theorem inf161 : (Tryz.prog.info? 161).map (fun i => (i.zero, i.size, i.bytes)) = some (some (.pointer none), 1, 8) := by kernel_rfl
theorem isz162 : (Tryz.prog.info? 162).map (·.size) = some 1 := by kernel_rfl
theorem inf162 : (Tryz.prog.info? 162).map (fun i => (i.zero, i.size, i.bytes)) = some (some (.int .u64 0), 1, 8) := by kernel_rfl
theorem isz163 : (Tryz.prog.info? 163).map (·.size) = some 3 := by kernel_rfl
theorem inf163 : (Tryz.prog.info? 163).map (fun i => (i.zero, i.size, i.bytes)) = some (some (.agg #[.pointer none, .pointer none, .int .u64 0]), 3, 24) := by kernel_rfl
theorem isz164 : (Tryz.prog.info? 164).map (·.size) = some 3 := by kernel_rfl
theorem inf164 : (Tryz.prog.info? 164).map (fun i => (i.zero, i.size, i.bytes)) = some (some (.agg #[.pointer none, .pointer none, .int .u64 0]), 3, 24) := by kernel_rfl
theorem isz165 : (Tryz.prog.info? 165).map (·.size) = some 1 := by kernel_rfl
theorem inf165 : (Tryz.prog.info? 165).map (fun i => (i.zero, i.size, i.bytes)) = some (some (.nilFunc), 1, 8) := by kernel_rfl
theorem isz166 : (Tryz.prog.info? 166).map (·.size) = some 1 := by kernel_rfl
theorem inf166 : (Tryz.prog.info? 166).map (fun i => (i.zero, i.size, i.bytes)) = some (some (.nilIface), 1, 16) := by kernel_rfl
theorem isz167 : (Tryz.prog.info? 167).map (·.size) = some 1 := by kernel_rfl
theorem inf167 : (Tryz.prog.info? 167).map (fun i => (i.zero, i.size, i.bytes)) = some (some (.nilIface), 1, 16) := by kernel_rfl
theorem isz168 : (Tryz.prog.info? 168).map (·.size) = some 1 := by kernel_rfl
theorem inf168 : (Tryz.prog.info? 168).map (fun i => (i.zero, i.size, i.bytes)) = some (some (.nilFunc), 1, 8) := by kernel_rfl
theorem isz169 : (Tryz.prog.info? 169).map (·.size) = some 1 := by kernel_rfl
theorem inf169 : (Tryz.prog.info? 169).map (fun i => (i.zero, i.size, i.bytes)) = some (some (.int .u8 0), 1, 1) := by kernel_rfl
theorem isz170 : (Tryz.prog.info? 170).map (·.size) = some 1 := by kernel_rfl
theorem inf170 : (Tryz.prog.info? 170).map (fun i => (i.zero, i.size, i.bytes)) = some (some (.nilFunc), 1, 8) := by kernel_rfl
theorem isz171 : (Tryz.prog.info? 171).map (·.size) = some 1 := by kernel_rfl
theorem inf171 : (Tryz.prog.info? 171).map (fun i => (i.zero, i.size, i.bytes)) = some (some (.nilFunc), 1, 8) := by kernel_rfl
theorem isz172 : (Tryz.prog.info? 172).map (·.size) = some 1 := by kernel_rfl
theorem inf172 : (Tryz.prog.info? 172).map (fun i => (i.zero, i.size, i.bytes)) = some (some (.nilFunc), 1, 8) := by kernel_rfl
theorem isz173 : (Tryz.prog.info? 173).map (·.size) = some 1 := by kernel_rfl
theorem inf173 : (Tryz.prog.info? 173).map (fun i => (i.zero, i.size, i.bytes)) = some (some (.nilFunc), 1, 8) := by kernel_rfl
theorem isz174 : (Tryz.prog.info? 174).map (·.size) = some 1 := by kernel_rfl
theorem inf174 : (Tryz.prog.info? 174).map (fun i => (i.zero, i.size, i.bytes)) = some (some (.nilFunc), 1, 8) := by kernel_rfl
theorem isz175 : (Tryz.prog.info? 175).map (·.size) = some 1 := by kernel_rfl
theorem inf175 : (Tryz.prog.info? 175).map (fun i => (i.zero, i.size, i.bytes)) = some (some (.nilFunc), 1, 8) := by kernel_rfl
theorem isz176 : (Tryz.prog.info? 176).map (·.size) = some 1 := by kernel_rfl
theorem inf176 : (Tryz.prog.info? 176).map (fun i => (i.zero, i.size, i.bytes)) = some (some (.nilFunc), 1, 8) := by kernel_rfl
theorem isz177 : (Tryz.prog.info? 177).map (·.size) = some 1 := by kernel_rfl
theorem inf177 : (Tryz.prog.info? 177).map (fun i => (i.zero, i.size, i.bytes)) = some (some (.nilFunc), 1, 8) := by kernel_rfl
theorem isz178 : (Tryz.prog.info? 178).map (·.size) = some 1 := by kernel_rfl
theorem inf178 : (Tryz.prog.info? 178).map (fun i => (i.zero, i.size, i.bytes)) = some (some (.nilFunc), 1, 8) := by kernel_rfl
theorem isz179 : (Tryz.prog.info? 179).map (·.size) = some 1 := by kernel_rfl
theorem inf179 : (Tryz.prog.info? 179).map (fun i => (i.zero, i.size, i.bytes)) = some (some (.slice none 0 0), 1, 24) := by kernel_rfl
theorem isz180 : (Tryz.prog.info? 180).map (·.size) = some 1 := by kernel_rfl
theorem inf180 : (Tryz.prog.info? 180).map (fun i => (i.zero, i.size, i.bytes)) = some (some (.nilFunc), 1, 8) := by kernel_rfl
theorem isz181 : (Tryz.prog.info? 181).map (·.size) = some 1 := by kernel_rfl
theorem inf181 : (Tryz.prog.info? 181).map (fun i => (i.zero, i.size, i.bytes)) = some (some (.tuple #[.int .u64 0, .int .u64 0]), 1, 0) := by kernel_rfl
theorem isz182 : (Tryz.prog.info? 182).map (·.size) = some 1 := by kernel_rfl
theorem inf182 : (Tryz.prog.info? 182).map (fun i => (i.zero, i.size, i.bytes)) = some (some (.nilFunc), 1, 8) := by kernel_rfl
theorem isz183 : (Tryz.prog.info? 183).map (·.size) = some 1 := by kernel_rfl
theorem inf183 : (Tryz.prog.info? 183).map (fun i => (i.zero, i.size, i.bytes)) = some (some (.tuple #[.slice none 0 0, .slice none 0 0]), 1, 0) := by kernel_rfl
theorem isz184 : (Tryz.prog.info? 184).map (·.size) = some 1 := by kernel_rfl
theorem inf184 : (Tryz.prog.info? 184).map (fun i => (i.zero, i.size, i.bytes)) = some (some (.nilFunc), 1, 8) := by kernel_rfl
theorem isz185 : (Tryz.prog.info? 185).map (·.size) = some 1 := by kernel_rfl
theorem inf185 : (Tryz.prog.info? 185).map (fun i => (i.zero, i.size, i.bytes)) = some (some (.nilFunc), 1, 8) := by kernel_rfl
theorem isz186 : (Tryz.prog.info? 186).map (·.size) = some 3 := by kernel_rfl
theorem inf186 : (Tryz.prog.info? 186).map (fun i => (i.zero, i.size, i.bytes)) = some (some (.agg #[.bool false, .slice none 0 0, .slice none 0 0]), 3, 56) := by kernel_rfl
theorem isz187 : (Tryz.prog.info? 187).map (·.size) = some 3 := by kernel_rfl
theorem inf187 : (Tryz.prog.info? 187).map (fun i => (i.zero, i.size, i.bytes)) = some (some (.agg #[.bool false, .slice none 0 0, .slice none 0 0]), 3, 56) := by kernel_rfl
theorem isz188 : (Tryz.prog.info? 188).map (·.size) = some 1 := by kernel_rfl
theorem inf188 : (Tryz.prog.info? 188).map (fun i => (i.zero, i.size, i.bytes)) = some (some (.nilFunc), 1, 8) := by kernel_rfl
theorem isz189 : (Tryz.prog.info? 189).map (·.size) = some 1 := by kernel_rfl
theorem inf189 : (Tryz.prog.info? 189).map (fun i => (i.zero, i.size, i.bytes)) = some (some (.nilFunc), 1, 8) := by kernel_rfl
theorem isz190 : (Tryz.prog.info? 190).map (·.size) = some 1 := by kernel_rfl
theorem inf190 : (Tryz.prog.info? 190).map (fun i => (i.zero, i.size, i.bytes)) = some (some (.nilFunc), 1, 8) := by kernel_rfl
theorem isz191 : (Tryz.prog.info? 191).map (·.size) = some 1 := by kernel_rfl
theorem inf191 : (Tryz.prog.info? 191).map (fun i => (i.zero, i.size, i.bytes)) = some (some (.nilFunc), 1, 8) := by kernel_rfl
theorem isz192 : (Tryz.prog.info? 192).map (·.size) = some 1 := by kernel_rfl
theorem inf192 : (Tryz.prog.info? 192).map (fun i => (i.zero, i.size, i.bytes)) = some (some (.nilFunc), 1, 8) := by kernel_rfl
theorem isz193 : (Tryz.prog.info? 193).map (·.size) = some 1 := by kernel_rfl
theorem inf193 : (Tryz.prog.info? 193).map (fun i => (i.zero, i.size, i.bytes)) = some (some (.agg #[.pointer none]), 1, 8) := by kernel_rfl
theorem isz194 : (Tryz.prog.info? 194).map (·.size) = some 1 := by kernel_rfl
theorem inf194 : (Tryz.prog.info? 194).map (fun i => (i.zero, i.size, i.bytes)) = some (some (.agg #[.pointer none]), 1, 8) := by kernel_rfl
theorem isz195 : (Tryz.prog.info? 195).map (·.size) = some 1 := by kernel_rfl
theorem inf195 : (Tryz.prog.info? 195).map (fun i => (i.zero, i.size, i.bytes)) = some (some (.pointer none), 1, 8) := by kernel_rfl
theorem isz196 : (Tryz.prog.info? 196).map (·.size) = some 1 := by kernel_rfl
theorem inf196 : (Tryz.prog.info? 196).map (fun i => (i.zero, i.size, i.bytes)) = some (some (.nilFunc), 1, 8) := by kernel_rfl
theorem isz197 : (Tryz.prog.info? 197).map (·.size) = some 1 := by kernel_rfl
theorem inf197 : (Tryz.prog.info? 197).map (fun i => (i.zero, i.size, i.bytes)) = some (some (.nilFunc), 1, 8) := by kernel_rfl
theorem isz198 : (Tryz.prog.info? 198).map (·.size) = some 1 := by kernel_rfl
theorem inf198 : (Tryz.prog.info? 198).map (fun i => (i.zero, i.size, i.bytes)) = some (some (.nilIface), 1, 16) := by kernel_rfl
theorem isz199 : (Tryz.prog.info? 199).map (·.size) = some 1 := by kernel_rfl
theorem inf199 : (Tryz.prog.info? 199).map (fun i => (i.zero, i.size, i.bytes)) = some (some (.tuple #[.nilIface, .bool false]), 1, 0) := by kernel_rfl
theorem isz200 : (Tryz.prog.info? 200).map (·.size) = some 1 := by kernel_rfl
theorem inf200 : (Tryz.prog.info? 200).map (fun i => (i.zero, i.size, i.bytes)) = some (some (.nilFunc), 1, 8) := by kernel_rfl
theorem isz201 : (Tryz.prog.info? 201).map (·.size) = some 1 := by kernel_rfl
theorem inf201 : (Tryz.prog.info? 201).map (fun i => (i.zero, i.size, i.bytes)) = some (some (.nilIface), 1, 16) := by kernel_rfl
theorem isz202 : (Tryz.prog.info? 202).map (·.size) = some 1 := by kernel_rfl
theorem inf202 : (Tryz.prog.info? 202).map (fun i => (i.zero, i.size, i.bytes)) = some (some (.nilFunc), 1, 8) := by kernel_rfl
theorem isz203 : (Tryz.prog.info? 203).map (·.size) = some 1 := by kernel_rfl
theorem inf203 : (Tryz.prog.info? 203).map (fun i => (i.zero, i.size, i.bytes)) = some (some (.nilIface), 1, 16) := by kernel_rfl
theorem isz204 : (Tryz.prog.info? 204).map (·.size) = some 1 := by kernel_rfl
theorem inf204 : (Tryz.prog.info? 204).map (fun i => (i.zero, i.size, i.bytes)) = some (some (.slice none 0 0), 1, 24) := by kernel_rfl
theorem isz205 : (Tryz.prog.info? 205).map (·.size) = some 1 := by kernel_rfl
theorem inf205 : (Tryz.prog.info? 205).map (fun i => (i.zero, i.size, i.bytes)) = some (some (.nilFunc), 1, 8) := by kernel_rfl
theorem isz206 : (Tryz.prog.info? 206).map (·.size) = some 1 := by kernel_rfl
theorem inf206 : (Tryz.prog.info? 206).map (fun i => (i.zero, i.size, i.bytes)) = some (some (.nilIface), 1, 16) := by kernel_rfl
theorem isz207 : (Tryz.prog.info? 207).map (·.size) = some 1 := by kernel_rfl
theorem inf207 : (Tryz.prog.info? 207).map (fun i => (i.zero, i.size, i.bytes)) = some (some (.tuple #[.nilIface, .bool false]), 1, 0) := by kernel_rfl
theorem isz208 : (Tryz.prog.info? 208).map (·.size) = some 1 := by kernel_rfl
theorem inf208 : (Tryz.prog.info? 208).map (fun i => (i.zero, i.size, i.bytes)) = some (some (.nilFunc), 1, 8) := by kernel_rfl
theorem isz209 : (Tryz.prog.info? 209).map (·.size) = some 1 := by kernel_rfl
theorem inf209 : (Tryz.prog.info? 209).map (fun i => (i.zero, i.size, i.bytes)) = some (some (.nilFunc), 1, 8) := by kernel_rfl
theorem isz210 : (Tryz.prog.info? 210).map (·.size) = some 1 := by kernel_rfl
theorem inf210 : (Tryz.prog.info? 210).map (fun i => (i.zero, i.size, i.bytes)) = some (some (.nilFunc), 1, 8) := by kernel_rfl
theorem isz211 : (Tryz.prog.info? 211).map (·.size) = some 1 := by kernel_rfl
theorem inf211 : (Tryz.prog.info? 211).map (fun i => (i.zero, i.size, i.bytes)) = some (some (.nilFunc), 1, 8) := by kernel_rfl
theorem isz212 : (Tryz.prog.info? 212).map (·.size) = some 1 := by kernel_rfl
theorem inf212 : (Tryz.prog.info? 212).map (fun i => (i.zero, i.size, i.bytes)) = some (some (.slice none 0 0), 1, 24) := by kernel_rfl
theorem isz213 : (Tryz.prog.info? 213).map (·.size) = some 1 := by kernel_rfl
theorem inf213 : (Tryz.prog.info? 213).map (fun i => (i.zero, i.size, i.bytes)) = some (some (.nilFunc), 1, 8) := by kernel_rfl
theorem isz214 : (Tryz.prog.info? 214).map (·.size) = some 4 := by kernel_rfl
theorem inf214 : (Tryz.prog.info? 214).map (fun i => (i.zero, i.size, i.bytes)) = some (some (.agg #[.pointer none, .pointer none, .pointer none, .string ⟨#[]⟩]), 4, 40) := by kernel_rfl
theorem isz215 : (Tryz.prog.info? 215).map (·.size) = some 4 := by kernel_rfl
theorem inf215 : (Tryz.prog.info? 215).map (fun i => (i.zero, i.size, i.bytes)) = some (some (.agg #[.pointer none, .pointer none, .pointer none, .string ⟨#[]⟩]), 4, 40) := by kernel_rfl
theorem isz216 : (Tryz.prog.info? 216).map (·.size) = some 0 := by kernel_rfl
theorem inf216 : (Tryz.prog.info? 216).map (fun i => (i.zero, i.size, i.bytes)) = some (some (.agg #[]), 0, 0) := by kernel_rfl
theorem isz217 : (Tryz.prog.info? 217).map (·.size) = some 0 := by kernel_rfl
theorem inf217 : (Tryz.prog.info? 217).map (fun i => (i.zero, i.size, i.bytes)) = some (some (.agg #[]), 0, 0) := by kernel_rfl
theorem isz218 : (Tryz.prog.info? 218).map (·.size) = some 0 := by kernel_rfl
theorem inf218 : (Tryz.prog.info? 218).map (fun i => (i.zero, i.size, i.bytes)) = some (some (.agg #[]), 0, 0) := by kernel_rfl
theorem isz219 : (Tryz.prog.info? 219).map (·.size) = some 1 := by kernel_rfl
theorem inf219 : (Tryz.prog.info? 219).map (fun i => (i.zero, i.size, i.bytes)) = some (some (.nilFunc), 1, 8) := by kernel_rfl
theorem isz220 : (Tryz.prog.info? 220).map (·.size) = some 1 := by kernel_rfl
theorem inf220 : (Tryz.prog.info? 220).map (fun i => (i.zero, i.size, i.bytes)) = some (some (.int .u8 0), 1, 1) := by kernel_rfl
theorem isz221 : (Tryz.prog.info? 221).map (·.size) = some 1 := by kernel_rfl
theorem inf221 : (Tryz.prog.info? 221).map (fun i => (i.zero, i.size, i.bytes)) = some (some (.nilFunc), 1, 8) := by kernel_rfl
theorem isz222 : (Tryz.prog.info? 222).map (·.size) = some 1 := by kernel_rfl
theorem inf222 : (Tryz.prog.info? 222).map (fun i => (i.zero, i.size, i.bytes)) = some (some (.pointer none), 1, 8) := by kernel_rfl
theorem isz223 : (Tryz.prog.info? 223).map (·.size) = some 1 := by kernel_rfl
theorem inf223 : (Tryz.prog.info? 223).map (fun i => (i.zero, i.size, i.bytes)) = some (some (.int .i32 0), 1, 4) := by kernel_rfl
theorem isz224 : (Tryz.prog.info? 224).map (·.size) = some 1 := by kernel_rfl
theorem inf224 : (Tryz.prog.info? 224).map (fun i => (i.zero, i.size, i.bytes)) = some (some (.int .i32 0), 1, 4) := by kernel_rfl
theorem isz225 : (Tryz.prog.info? 225).map (·.size) = some 11 := by kernel_rfl
theorem inf225 : (Tryz.prog.info? 225).map (fun i => (i.zero, i.size, i.bytes)) = some (some (.agg #[.int .u64 0, .int .u64 0, .int .u32 0, .int .u8 0, .int .u8 0, .int .u8 0, .int .u8 0, .nilFunc, .pointer none, .int .i32 0, .int .i32 0]), 11, 48) := by kernel_rfl
theorem isz226 : (Tryz.prog.info? 226).map (·.size) = some 11 := by kernel_rfl
theorem inf226 : (Tryz.prog.info? 226).map (fun i => (i.zero, i.size, i.bytes)) = some (some (.agg #[.int .u64 0, .int .u64 0, .int .u32 0, .int .u8 0, .int .u8 0, .int .u8 0, .int .u8 0, .nilFunc, .pointer none, .int .i32 0, .int .i32 0]), 11, 48) := by kernel_rfl
theorem isz227 : (Tryz.prog.info? 227).map (·.size) = some 1 := by kernel_rfl
theorem inf227 : (Tryz.prog.info? 227).map (fun i => (i.zero, i.size, i.bytes)) = some (some (.nilFunc), 1, 8) := by kernel_rfl
theorem isz228 : (Tryz.prog.info? 228).map (·.size) = some 1 := by kernel_rfl
theorem inf228 : (Tryz.prog.info? 228).map (fun i => (i.zero, i.size, i.bytes)) = some (some (.nilFunc), 1, 8) := by kernel_rfl
theorem isz229 : (Tryz.prog.info? 229).map (·.size) = some 1 := by kernel_rfl
theorem inf229 : (Tryz.prog.info? 229).map (fun i => (i.zero, i.size, i.bytes)) = some (some (.nilFunc), 1, 8) := by kernel_rfl
theorem isz230 : (Tryz.prog.info? 230).map (·.size) = some 2 := by kernel_rfl
theorem inf230 : (Tryz.prog.info? 230).map (fun i => (i.zero, i.size, i.bytes)) = some (some (.agg #[.string ⟨#[]⟩, .int .u8 0]), 2, 24) := by kernel_rfl
theorem isz231 : (Tryz.prog.info? 231).map (·.size) = some 2 := by kernel_rfl
theorem inf231 : (Tryz.prog.info? 231).map (fun i => (i.zero, i.size, i.bytes)) = some (some (.agg #[.string ⟨#[]⟩, .int .u8 0]), 2, 24) := by kernel_rfl
theorem isz232 : (Tryz.prog.info? 232).map (·.size) = some 1 := by kernel_rfl
theorem inf232 : (Tryz.prog.info? 232).map (fun i => (i.zero, i.size, i.bytes)) = some (some (.pointer none), 1, 8) := by kernel_rfl
theorem isz233 : (Tryz.prog.info? 233).map (·.size) = some 1 := by kernel_rfl
theorem inf233 : (Tryz.prog.info? 233).map (fun i => (i.zero, i.size, i.bytes)) = some (some (.nilFunc), 1, 8) := by kernel_rfl
theorem isz234 : (Tryz.prog.info? 234).map (·.size) = some 1 := by kernel_rfl
theorem inf234 : (Tryz.prog.info? 234).map (fun i => (i.zero, i.size, i.bytes)) = some (some (.int .u16 0), 1, 2) := by kernel_rfl
theorem isz235 : (Tryz.prog.info? 235).map (·.size) = some 5 := by kernel_rfl
theorem inf235 : (Tryz.prog.info? 235).map (fun i => (i.zero, i.size, i.bytes)) = some (some (.agg #[.int .i32 0, .int .u16 0, .int .u16 0, .int .u32 0, .int .u32 0]), 5, 16) := by kernel_rfl
theorem isz236 : (Tryz.prog.info? 236).map (·.size) = some 5 := by kernel_rfl
theorem inf236 : (Tryz.prog.info? 236).map (fun i => (i.zero, i.size, i.bytes)) = some (some (.agg #[.int .i32 0, .int .u16 0, .int .u16 0, .int .u32 0, .int .u32 0]), 5, 16) := by kernel_rfl
theorem isz237 : (Tryz.prog.info? 237).map (·.size) = some 1 := by kernel_rfl
theorem inf237 : (Tryz.prog.info? 237).map (fun i => (i.zero, i.size, i.bytes)) = some (some (.slice none 0 0), 1, 24) := by kernel_rfl
theorem isz238 : (Tryz.prog.info? 238).map (·.size) = some 1 := by kernel_rfl
theorem inf238 : (Tryz.prog.info? 238).map (fun i => (i.zero, i.size, i.bytes)) = some (some (.int .i32 0), 1, 4) := by kernel_rfl
theorem isz239 : (Tryz.prog.info? 239).map (·.size) = some 4 := by kernel_rfl
theorem inf239 : (Tryz.prog.info? 239).map (fun i => (i.zero, i.size, i.bytes)) = some (some (.agg #[.int .i32 0, .int .i32 0, .int .i32 0, .int .i32 0]), 4, 16) := by kernel_rfl
theorem isz240 : (Tryz.prog.info? 240).map (·.size) = some 4 := by kernel_rfl
theorem inf240 : (Tryz.prog.info? 240).map (fun i => (i.zero, i.size, i.bytes)) = some (some (.agg #[.int .i32 0, .int .i32 0, .int .i32 0, .int .i32 0]), 4, 16) := by kernel_rfl
theorem isz241 : (Tryz.prog.info? 241).map (·.size) = some 1 := by kernel_rfl
theorem inf241 : (Tryz.prog.info? 241).map (fun i => (i.zero, i.size, i.bytes)) = some (some (.pointer none), 1, 8) := by kernel_rfl
def tyOf_0 : Nat → Option TypeDesc
  | 2 => some (.int .i64)
  | 3 => some (.int .i64)
  | 4 => some (.bool)
  | 5 => some (.int .u8)
  | 6 => some (.int .u8)
  | 9 => some (.string)
  | 10 => some (.string)
  | 11 => some (.string)
  | 12 => some (.int .u64)
  | 15 => some (.pointer 215)
  | 16 => some (.pointer 218)
  | 17 => some (.pointer 226)
  | 21 => some (.int .i32)
  | 24 => some (.int .u32)
  | 25 => some (.slice 62)
  | 40 => some (.slice 9)
  | 43 => some (.slice 27)
  | 44 => some (.slice 84)
  | 54 => some (.int .i64)
  | 57 => some (.map 9 4)
  | 58 => some (.int .u64)
  | 75 => some (.pointer 79)
  | 76 => some (.map 86 4)
  | 77 => some (.map 86 62)
  | 82 => some (.slice 121)
  | 101 => some (.array 64 4)
  | 102 => some (.array 64 4)
  | 106 => some (.map 58 102)
  | 111 => some (.int .u64)
  | 112 => some (.slice 3)
  | 119 => some (.map 2 4)
  | 122 => some (.slice 125)
  | 132 => some (.pointer 100)
  | 139 => some (.array 4 60)
  | 142 => some (.slice 24)
  | 143 => some (.slice 24)
  | 154 => some (.array 256 5)
  | 157 => some (.array 16 156)
  | 162 => some (.int .u64)
  | 169 => some (.int .u8)
  | 179 => some (.slice 54)
  | 195 => some (.pointer 231)
  | 204 => some (.slice 31)
  | 212 => some (.slice 5)
  | 216 => some (.array 0 16)
  | 220 => some (.int .u8)
  | 222 => some (.pointer 5)
  | 223 => some (.int .i32)
  | 224 => some (.int .i32)
  | 232 => some (.pointer 236)
  | _ => none
set_option maxHeartbeats 8000000 in
theorem und_0 (t : Nat) (d : TypeDesc) (h : tyOf_0 t = some d) : Tryz.prog.underlying t = some d := by
  unfold tyOf_0 at h
  split at h
  · cases h; exact Tryz.underlying2
  · cases h; exact Tryz.underlying3
  · cases h; exact Tryz.underlying4
  · cases h; exact Tryz.underlying5
  · cases h; exact Tryz.underlying6
  · cases h; exact Tryz.underlying9
  · cases h; exact Tryz.underlying10
  · cases h; exact Tryz.underlying11
  · cases h; exact Tryz.underlying12
  · cases h; exact Tryz.underlying15
  · cases h; exact Tryz.underlying16
  · cases h; exact Tryz.underlying17
  · cases h; exact Tryz.underlying21
  · cases h; exact Tryz.underlying24
  · cases h; exact Tryz.underlying25
  · cases h; exact Tryz.underlying40
  · cases h; exact Tryz.underlying43
  · cases h; exact Tryz.underlying44
  · cases h; exact Tryz.underlying54
  · cases h; exact Tryz.underlying57
  · cases h; exact Tryz.underlying58
  · cases h; exact Tryz.underlying75
  · cases h; exact Tryz.underlying76
  · cases h; exact Tryz.underlying77
  · cases h; exact Tryz.underlying82
  · cases h; exact Tryz.underlying101
  · cases h; exact Tryz.underlying102
  · cases h; exact Tryz.underlying106
  · cases h; exact Tryz.underlying111
  · cases h; exact Tryz.underlying112
  · cases h; exact Tryz.underlying119
  · cases h; exact Tryz.underlying122
  · cases h; exact Tryz.underlying132
  · cases h; exact Tryz.underlying139
  · cases h; exact Tryz.underlying142
  · cases h; exact Tryz.underlying143
  · cases h; exact Tryz.underlying154
  · cases h; exact Tryz.underlying157
  · cases h; exact Tryz.underlying162
  · cases h; exact Tryz.underlying169
  · cases h; exact Tryz.underlying179
  · cases h; exact Tryz.underlying195
  · cases h; exact Tryz.underlying204
  · cases h; exact Tryz.underlying212
  · cases h; exact Tryz.underlying216
  · cases h; exact Tryz.underlying220
  · cases h; exact Tryz.underlying222
  · cases h; exact Tryz.underlying223
  · cases h; exact Tryz.underlying224
  · cases h; exact Tryz.underlying232
  · cases h
def tyOf_1 : Nat → Option TypeDesc
  | 234 => some (.int .u16)
  | 237 => some (.slice 240)
  | 238 => some (.int .i32)
  | 241 => some (.pointer 31)
  | _ => none
set_option maxHeartbeats 8000000 in
theorem und_1 (t : Nat) (d : TypeDesc) (h : tyOf_1 t = some d) : Tryz.prog.underlying t = some d := by
  unfold tyOf_1 at h
  split at h
  · cases h; exact Tryz.underlying234
  · cases h; exact Tryz.underlying237
  · cases h; exact Tryz.underlying238
  · cases h; exact Tryz.underlying241
  · cases h
def tyOf (t : Nat) : Option TypeDesc := (match tyOf_0 t with | some x => some x | none => (match tyOf_1 t with | some x => some x | none => none))
theorem und (t : Nat) (d : TypeDesc) (h : tyOf t = some d) : Tryz.prog.underlying t = some d := by
  unfold tyOf at h
  cases e0 : tyOf_0 t with
  | some x => rw [e0] at h; exact und_0 t _ (e0.trans h)
  | none =>
  rw [e0] at h
  dsimp only at h
  cases e1 : tyOf_1 t with
  | some x => rw [e1] at h; exact und_1 t _ (e1.trans h)
  | none =>
  rw [e1] at h
  dsimp only at h
  cases h
def szOf_0 : Nat → Option Nat
  | 0 => some (1)
  | 1 => some (1)
  | 2 => some (1)
  | 3 => some (1)
  | 4 => some (1)
  | 5 => some (1)
  | 6 => some (1)
  | 7 => some (4)
  | 8 => some (4)
  | 9 => some (1)
  | 10 => some (1)
  | 11 => some (1)
  | 12 => some (1)
  | 13 => some (2)
  | 14 => some (2)
  | 15 => some (1)
  | 16 => some (1)
  | 17 => some (1)
  | 18 => some (1)
  | 19 => some (1)
  | 20 => some (1)
  | 21 => some (1)
  | 22 => some (2)
  | 23 => some (2)
  | 24 => some (1)
  | 25 => some (1)
  | 26 => some (8)
  | 27 => some (8)
  | 28 => some (1)
  | 29 => some (1)
  | 30 => some (1)
  | 31 => some (1)
  | 32 => some (1)
  | 33 => some (3)
  | 34 => some (3)
  | 35 => some (1)
  | 36 => some (1)
  | 37 => some (1)
  | 38 => some (3)
  | 39 => some (3)
  | 40 => some (1)
  | 41 => some (3)
  | 42 => some (3)
  | 43 => some (1)
  | 44 => some (1)
  | 45 => some (9)
  | 46 => some (9)
  | 47 => some (1)
  | 48 => some (1)
  | 49 => some (1)
  | _ => none
set_option maxHeartbeats 8000000 in
theorem isz_0 (t : Nat) (n : Nat) (h : szOf_0 t = some n) : (Tryz.prog.info? t).map (·.size) = some n := by
  unfold szOf_0 at h
  split at h
  · cases h; exact isz0
  · cases h; exact isz1
  · cases h; exact isz2
  · cases h; exact isz3
  · cases h; exact isz4
  · cases h; exact isz5
  · cases h; exact isz6
  · cases h; exact isz7
  · cases h; exact isz8
  · cases h; exact isz9
  · cases h; exact isz10
  · cases h; exact isz11
  · cases h; exact isz12
  · cases h; exact isz13
  · cases h; exact isz14
  · cases h; exact isz15
  · cases h; exact isz16
  · cases h; exact isz17
  · cases h; exact isz18
  · cases h; exact isz19
  · cases h; exact isz20
  · cases h; exact isz21
  · cases h; exact isz22
  · cases h; exact isz23
  · cases h; exact isz24
  · cases h; exact isz25
  · cases h; exact isz26
  · cases h; exact isz27
  · cases h; exact isz28
  · cases h; exact isz29
  · cases h; exact isz30
  · cases h; exact isz31
  · cases h; exact isz32
  · cases h; exact isz33
  · cases h; exact isz34
  · cases h; exact isz35
  · cases h; exact isz36
  · cases h; exact isz37
  · cases h; exact isz38
  · cases h; exact isz39
  · cases h; exact isz40
  · cases h; exact isz41
  · cases h; exact isz42
  · cases h; exact isz43
  · cases h; exact isz44
  · cases h; exact isz45
  · cases h; exact isz46
  · cases h; exact isz47
  · cases h; exact isz48
  · cases h; exact isz49
  · cases h
def szOf_1 : Nat → Option Nat
  | 50 => some (1)
  | 51 => some (1)
  | 52 => some (1)
  | 53 => some (1)
  | 54 => some (1)
  | 55 => some (1)
  | 56 => some (1)
  | 57 => some (1)
  | 58 => some (1)
  | 59 => some (2)
  | 60 => some (2)
  | 61 => some (19)
  | 62 => some (19)
  | 63 => some (1)
  | 64 => some (1)
  | 65 => some (1)
  | 66 => some (1)
  | 67 => some (1)
  | 68 => some (1)
  | 69 => some (1)
  | 70 => some (1)
  | 71 => some (1)
  | 72 => some (1)
  | 73 => some (1)
  | 74 => some (1)
  | 75 => some (1)
  | 76 => some (1)
  | 77 => some (1)
  | 78 => some (4)
  | 79 => some (4)
  | 80 => some (1)
  | 81 => some (1)
  | 82 => some (1)
  | 83 => some (6)
  | 84 => some (6)
  | 85 => some (3)
  | 86 => some (3)
  | 87 => some (1)
  | 88 => some (1)
  | 89 => some (1)
  | 90 => some (1)
  | 91 => some (1)
  | 92 => some (1)
  | 93 => some (1)
  | 94 => some (1)
  | 95 => some (1)
  | 96 => some (1)
  | 97 => some (1)
  | 98 => some (1)
  | 99 => some (3)
  | _ => none
set_option maxHeartbeats 8000000 in
theorem isz_1 (t : Nat) (n : Nat) (h : szOf_1 t = some n) : (Tryz.prog.info? t).map (·.size) = some n := by
  unfold szOf_1 at h
  split at h
  · cases h; exact isz50
  · cases h; exact isz51
  · cases h; exact isz52
  · cases h; exact isz53
  · cases h; exact isz54
  · cases h; exact isz55
  · cases h; exact isz56
  · cases h; exact isz57
  · cases h; exact isz58
  · cases h; exact isz59
  · cases h; exact isz60
  · cases h; exact isz61
  · cases h; exact isz62
  · cases h; exact isz63
  · cases h; exact isz64
  · cases h; exact isz65
  · cases h; exact isz66
  · cases h; exact isz67
  · cases h; exact isz68
  · cases h; exact isz69
  · cases h; exact isz70
  · cases h; exact isz71
  · cases h; exact isz72
  · cases h; exact isz73
  · cases h; exact isz74
  · cases h; exact isz75
  · cases h; exact isz76
  · cases h; exact isz77
  · cases h; exact isz78
  · cases h; exact isz79
  · cases h; exact isz80
  · cases h; exact isz81
  · cases h; exact isz82
  · cases h; exact isz83
  · cases h; exact isz84
  · cases h; exact isz85
  · cases h; exact isz86
  · cases h; exact isz87
  · cases h; exact isz88
  · cases h; exact isz89
  · cases h; exact isz90
  · cases h; exact isz91
  · cases h; exact isz92
  · cases h; exact isz93
  · cases h; exact isz94
  · cases h; exact isz95
  · cases h; exact isz96
  · cases h; exact isz97
  · cases h; exact isz98
  · cases h; exact isz99
  · cases h
def szOf_2 : Nat → Option Nat
  | 100 => some (3)
  | 101 => some (64)
  | 102 => some (64)
  | 103 => some (1)
  | 104 => some (1)
  | 105 => some (1)
  | 106 => some (1)
  | 107 => some (1)
  | 108 => some (1)
  | 109 => some (1)
  | 110 => some (1)
  | 111 => some (1)
  | 112 => some (1)
  | 113 => some (1)
  | 114 => some (1)
  | 115 => some (1)
  | 116 => some (1)
  | 117 => some (1)
  | 118 => some (1)
  | 119 => some (1)
  | 120 => some (2)
  | 121 => some (2)
  | 122 => some (1)
  | 123 => some (1)
  | 124 => some (5)
  | 125 => some (5)
  | 126 => some (1)
  | 127 => some (1)
  | 128 => some (1)
  | 129 => some (1)
  | 130 => some (1)
  | 131 => some (1)
  | 132 => some (1)
  | 133 => some (1)
  | 134 => some (1)
  | 135 => some (1)
  | 136 => some (1)
  | 137 => some (1)
  | 138 => some (1)
  | 139 => some (8)
  | 140 => some (1)
  | 141 => some (1)
  | 142 => some (1)
  | 143 => some (1)
  | 144 => some (1)
  | 145 => some (1)
  | 146 => some (1)
  | 147 => some (1)
  | 148 => some (1)
  | 149 => some (1)
  | _ => none
set_option maxHeartbeats 8000000 in
theorem isz_2 (t : Nat) (n : Nat) (h : szOf_2 t = some n) : (Tryz.prog.info? t).map (·.size) = some n := by
  unfold szOf_2 at h
  split at h
  · cases h; exact isz100
  · cases h; exact isz101
  · cases h; exact isz102
  · cases h; exact isz103
  · cases h; exact isz104
  · cases h; exact isz105
  · cases h; exact isz106
  · cases h; exact isz107
  · cases h; exact isz108
  · cases h; exact isz109
  · cases h; exact isz110
  · cases h; exact isz111
  · cases h; exact isz112
  · cases h; exact isz113
  · cases h; exact isz114
  · cases h; exact isz115
  · cases h; exact isz116
  · cases h; exact isz117
  · cases h; exact isz118
  · cases h; exact isz119
  · cases h; exact isz120
  · cases h; exact isz121
  · cases h; exact isz122
  · cases h; exact isz123
  · cases h; exact isz124
  · cases h; exact isz125
  · cases h; exact isz126
  · cases h; exact isz127
  · cases h; exact isz128
  · cases h; exact isz129
  · cases h; exact isz130
  · cases h; exact isz131
  · cases h; exact isz132
  · cases h; exact isz133
  · cases h; exact isz134
  · cases h; exact isz135
  · cases h; exact isz136
  · cases h; exact isz137
  · cases h; exact isz138
  · cases h; exact isz139
  · cases h; exact isz140
  · cases h; exact isz141
  · cases h; exact isz142
  · cases h; exact isz143
  · cases h; exact isz144
  · cases h; exact isz145
  · cases h; exact isz146
  · cases h; exact isz147
  · cases h; exact isz148
  · cases h; exact isz149
  · cases h
def szOf_3 : Nat → Option Nat
  | 150 => some (1)
  | 151 => some (1)
  | 152 => some (1)
  | 153 => some (1)
  | 155 => some (2)
  | 156 => some (2)
  | 157 => some (32)
  | 158 => some (1)
  | 159 => some (1)
  | 160 => some (1)
  | 161 => some (1)
  | 162 => some (1)
  | 163 => some (3)
  | 164 => some (3)
  | 165 => some (1)
  | 166 => some (1)
  | 167 => some (1)
  | 168 => some (1)
  | 169 => some (1)
  | 170 => some (1)
  | 171 => some (1)
  | 172 => some (1)
  | 173 => some (1)
  | 174 => some (1)
  | 175 => some (1)
  | 176 => some (1)
  | 177 => some (1)
  | 178 => some (1)
  | 179 => some (1)
  | 180 => some (1)
  | 181 => some (1)
  | 182 => some (1)
  | 183 => some (1)
  | 184 => some (1)
  | 185 => some (1)
  | 186 => some (3)
  | 187 => some (3)
  | 188 => some (1)
  | 189 => some (1)
  | 190 => some (1)
  | 191 => some (1)
  | 192 => some (1)
  | 193 => some (1)
  | 194 => some (1)
  | 195 => some (1)
  | 196 => some (1)
  | 197 => some (1)
  | 198 => some (1)
  | 199 => some (1)
  | 200 => some (1)
  | _ => none
set_option maxHeartbeats 8000000 in
theorem isz_3 (t : Nat) (n : Nat) (h : szOf_3 t = some n) : (Tryz.prog.info? t).map (·.size) = some n := by
  unfold szOf_3 at h
  split at h
  · cases h; exact isz150
  · cases h; exact isz151
  · cases h; exact isz152
  · cases h; exact isz153
  · cases h; exact isz155
  · cases h; exact isz156
  · cases h; exact isz157
  · cases h; exact isz158
  · cases h; exact isz159
  · cases h; exact isz160
  · cases h; exact isz161
  · cases h; exact isz162
  · cases h; exact isz163
  · cases h; exact isz164
  · cases h; exact isz165
  · cases h; exact isz166
  · cases h; exact isz167
  · cases h; exact isz168
  · cases h; exact isz169
  · cases h; exact isz170
  · cases h; exact isz171
  · cases h; exact isz172
  · cases h; exact isz173
  · cases h; exact isz174
  · cases h; exact isz175
  · cases h; exact isz176
  · cases h; exact isz177
  · cases h; exact isz178
  · cases h; exact isz179
  · cases h; exact isz180
  · cases h; exact isz181
  · cases h; exact isz182
  · cases h; exact isz183
  · cases h; exact isz184
  · cases h; exact isz185
  · cases h; exact isz186
  · cases h; exact isz187
  · cases h; exact isz188
  · cases h; exact isz189
  · cases h; exact isz190
  · cases h; exact isz191
  · cases h; exact isz192
  · cases h; exact isz193
  · cases h; exact isz194
  · cases h; exact isz195
  · cases h; exact isz196
  · cases h; exact isz197
  · cases h; exact isz198
  · cases h; exact isz199
  · cases h; exact isz200
  · cases h
def szOf_4 : Nat → Option Nat
  | 201 => some (1)
  | 202 => some (1)
  | 203 => some (1)
  | 204 => some (1)
  | 205 => some (1)
  | 206 => some (1)
  | 207 => some (1)
  | 208 => some (1)
  | 209 => some (1)
  | 210 => some (1)
  | 211 => some (1)
  | 212 => some (1)
  | 213 => some (1)
  | 214 => some (4)
  | 215 => some (4)
  | 216 => some (0)
  | 217 => some (0)
  | 218 => some (0)
  | 219 => some (1)
  | 220 => some (1)
  | 221 => some (1)
  | 222 => some (1)
  | 223 => some (1)
  | 224 => some (1)
  | 225 => some (11)
  | 226 => some (11)
  | 227 => some (1)
  | 228 => some (1)
  | 229 => some (1)
  | 230 => some (2)
  | 231 => some (2)
  | 232 => some (1)
  | 233 => some (1)
  | 234 => some (1)
  | 235 => some (5)
  | 236 => some (5)
  | 237 => some (1)
  | 238 => some (1)
  | 239 => some (4)
  | 240 => some (4)
  | 241 => some (1)
  | _ => none
set_option maxHeartbeats 8000000 in
theorem isz_4 (t : Nat) (n : Nat) (h : szOf_4 t = some n) : (Tryz.prog.info? t).map (·.size) = some n := by
  unfold szOf_4 at h
  split at h
  · cases h; exact isz201
  · cases h; exact isz202
  · cases h; exact isz203
  · cases h; exact isz204
  · cases h; exact isz205
  · cases h; exact isz206
  · cases h; exact isz207
  · cases h; exact isz208
  · cases h; exact isz209
  · cases h; exact isz210
  · cases h; exact isz211
  · cases h; exact isz212
  · cases h; exact isz213
  · cases h; exact isz214
  · cases h; exact isz215
  · cases h; exact isz216
  · cases h; exact isz217
  · cases h; exact isz218
  · cases h; exact isz219
  · cases h; exact isz220
  · cases h; exact isz221
  · cases h; exact isz222
  · cases h; exact isz223
  · cases h; exact isz224
  · cases h; exact isz225
  · cases h; exact isz226
  · cases h; exact isz227
  · cases h; exact isz228
  · cases h; exact isz229
  · cases h; exact isz230
  · cases h; exact isz231
  · cases h; exact isz232
  · cases h; exact isz233
  · cases h; exact isz234
  · cases h; exact isz235
  · cases h; exact isz236
  · cases h; exact isz237
  · cases h; exact isz238
  · cases h; exact isz239
  · cases h; exact isz240
  · cases h; exact isz241
  · cases h
def szOf (t : Nat) : Option Nat := (match szOf_0 t with | some x => some x | none => (match szOf_1 t with | some x => some x | none => (match szOf_2 t with | some x => some x | none => (match szOf_3 t with | some x => some x | none => (match szOf_4 t with | some x => some x | none => none)))))
theorem isz (t : Nat) (n : Nat) (h : szOf t = some n) : (Tryz.prog.info? t).map (·.size) = some n := by
  unfold szOf at h
  cases e0 : szOf_0 t with
  | some x => rw [e0] at h; exact isz_0 t _ (e0.trans h)
  | none =>
  rw [e0] at h
  dsimp only at h
  cases e1 : szOf_1 t with
  | some x => rw [e1] at h; exact isz_1 t _ (e1.trans h)
  | none =>
  rw [e1] at h
  dsimp only at h
  cases e2 : szOf_2 t with
  | some x => rw [e2] at h; exact isz_2 t _ (e2.trans h)
  | none =>
  rw [e2] at h
  dsimp only at h
  cases e3 : szOf_3 t with
  | some x => rw [e3] at h; exact isz_3 t _ (e3.trans h)
  | none =>
  rw [e3] at h
  dsimp only at h
  cases e4 : szOf_4 t with
  | some x => rw [e4] at h; exact isz_4 t _ (e4.trans h)
  | none =>
  rw [e4] at h
  dsimp only at h
  cases h
def ifcOf : Nat → Bool
  | 20 => true
  | 30 => true
  | 31 => true
  | 166 => true
  | 167 => true
  | 198 => true
  | 201 => true
  | 203 => true
  | 206 => true
  | _ => false
set_option maxHeartbeats 8000000 in
theorem ifc (t : Nat) (h : ifcOf t = true) : ∃ ms, Tryz.prog.underlying t = some (.interface ms) := by
  unfold ifcOf at h
  split at h
  · exact ⟨_, Tryz.underlying20⟩
  · exact ⟨_, Tryz.underlying30⟩
  · exact ⟨_, Tryz.underlying31⟩
  · exact ⟨_, Tryz.underlying166⟩
  · exact ⟨_, Tryz.underlying167⟩
  · exact ⟨_, Tryz.underlying198⟩
  · exact ⟨_, Tryz.underlying201⟩
  · exact ⟨_, Tryz.underlying203⟩
  · exact ⟨_, Tryz.underlying206⟩
  · cases h
def aggOf_0 : Nat → Bool
  | 7 => true
  | 8 => true
  | 13 => true
  | 14 => true
  | 18 => true
  | 19 => true
  | 22 => true
  | 23 => true
  | 26 => true
  | 27 => true
  | 33 => true
  | 34 => true
  | 38 => true
  | 39 => true
  | 41 => true
  | 42 => true
  | 45 => true
  | 46 => true
  | 59 => true
  | 60 => true
  | 61 => true
  | 62 => true
  | 78 => true
  | 79 => true
  | 83 => true
  | 84 => true
  | 85 => true
  | 86 => true
  | 99 => true
  | 100 => true
  | 101 => true
  | 102 => true
  | 120 => true
  | 121 => true
  | 124 => true
  | 125 => true
  | 139 => true
  | 154 => true
  | 155 => true
  | 156 => true
  | 157 => true
  | 163 => true
  | 164 => true
  | 186 => true
  | 187 => true
  | 193 => true
  | 194 => true
  | 214 => true
  | 215 => true
  | 216 => true
  | _ => false
set_option maxHeartbeats 8000000 in
theorem agg_0 (t : Nat) (h : aggOf_0 t = true) : (Tryz.prog.underlying t).map aggB = some true := by
  unfold aggOf_0 at h
  split at h
  · rw [Tryz.underlying7]; rfl
  · rw [Tryz.underlying8]; rfl
  · rw [Tryz.underlying13]; rfl
  · rw [Tryz.underlying14]; rfl
  · rw [Tryz.underlying18]; rfl
  · rw [Tryz.underlying19]; rfl
  · rw [Tryz.underlying22]; rfl
  · rw [Tryz.underlying23]; rfl
  · rw [Tryz.underlying26]; rfl
  · rw [Tryz.underlying27]; rfl
  · rw [Tryz.underlying33]; rfl
  · rw [Tryz.underlying34]; rfl
  · rw [Tryz.underlying38]; rfl
  · rw [Tryz.underlying39]; rfl
  · rw [Tryz.underlying41]; rfl
  · rw [Tryz.underlying42]; rfl
  · rw [Tryz.underlying45]; rfl
  · rw [Tryz.underlying46]; rfl
  · rw [Tryz.underlying59]; rfl
  · rw [Tryz.underlying60]; rfl
  · rw [Tryz.underlying61]; rfl
  · rw [Tryz.underlying62]; rfl
  · rw [Tryz.underlying78]; rfl
  · rw [Tryz.underlying79]; rfl
  · rw [Tryz.underlying83]; rfl
  · rw [Tryz.underlying84]; rfl
  · rw [Tryz.underlying85]; rfl
  · rw [Tryz.underlying86]; rfl
  · rw [Tryz.underlying99]; rfl
  · rw [Tryz.underlying100]; rfl
  · rw [Tryz.underlying101]; rfl
  · rw [Tryz.underlying102]; rfl
  · rw [Tryz.underlying120]; rfl
  · rw [Tryz.underlying121]; rfl
  · rw [Tryz.underlying124]; rfl
  · rw [Tryz.underlying125]; rfl
  · rw [Tryz.underlying139]; rfl
  · rw [Tryz.underlying154]; rfl
  · rw [Tryz.underlying155]; rfl
  · rw [Tryz.underlying156]; rfl
  · rw [Tryz.underlying157]; rfl
  · rw [Tryz.underlying163]; rfl
  · rw [Tryz.underlying164]; rfl
  · rw [Tryz.underlying186]; rfl
  · rw [Tryz.underlying187]; rfl
  · rw [Tryz.underlying193]; rfl
  · rw [Tryz.underlying194]; rfl
  · rw [Tryz.underlying214]; rfl
  · rw [Tryz.underlying215]; rfl
  · rw [Tryz.underlying216]; rfl
  · cases h
def aggOf_1 : Nat → Bool
  | 217 => true
  | 218 => true
  | 225 => true
  | 226 => true
  | 230 => true
  | 231 => true
  | 235 => true
  | 236 => true
  | 239 => true
  | 240 => true
  | _ => false
set_option maxHeartbeats 8000000 in
theorem agg_1 (t : Nat) (h : aggOf_1 t = true) : (Tryz.prog.underlying t).map aggB = some true := by
  unfold aggOf_1 at h
  split at h
  · rw [Tryz.underlying217]; rfl
  · rw [Tryz.underlying218]; rfl
  · rw [Tryz.underlying225]; rfl
  · rw [Tryz.underlying226]; rfl
  · rw [Tryz.underlying230]; rfl
  · rw [Tryz.underlying231]; rfl
  · rw [Tryz.underlying235]; rfl
  · rw [Tryz.underlying236]; rfl
  · rw [Tryz.underlying239]; rfl
  · rw [Tryz.underlying240]; rfl
  · cases h
def aggOf (t : Nat) : Bool := (bif aggOf_0 t then true else (bif aggOf_1 t then true else false))
theorem agg (t : Nat) (h : aggOf t = true) : (Tryz.prog.underlying t).map aggB = some true := by
  unfold aggOf at h
  cases e0 : aggOf_0 t with
  | true => exact agg_0 t e0
  | false =>
  rw [e0] at h
  simp only [cond_false] at h
  cases e1 : aggOf_1 t with
  | true => exact agg_1 t e1
  | false =>
  rw [e1] at h
  simp only [cond_false] at h
  cases h
def conOf_0 : Nat → Bool
  | 2 => true
  | 3 => true
  | 4 => true
  | 5 => true
  | 6 => true
  | 7 => true
  | 8 => true
  | 9 => true
  | 10 => true
  | 11 => true
  | 12 => true
  | 13 => true
  | 14 => true
  | 15 => true
  | 16 => true
  | 17 => true
  | 18 => true
  | 19 => true
  | 21 => true
  | 22 => true
  | 23 => true
  | 24 => true
  | 25 => true
  | 26 => true
  | 27 => true
  | 33 => true
  | 34 => true
  | 38 => true
  | 39 => true
  | 40 => true
  | 41 => true
  | 42 => true
  | 43 => true
  | 44 => true
  | 45 => true
  | 46 => true
  | 54 => true
  | 58 => true
  | 59 => true
  | 60 => true
  | 61 => true
  | 62 => true
  | 75 => true
  | 78 => true
  | 79 => true
  | 82 => true
  | 83 => true
  | 84 => true
  | 85 => true
  | 86 => true
  | _ => false
set_option maxHeartbeats 8000000 in
theorem con_0 (t : Nat) (h : conOf_0 t = true) : (Tryz.prog.underlying t).map concB = some true := by
  unfold conOf_0 at h
  split at h
  · rw [Tryz.underlying2]; rfl
  · rw [Tryz.underlying3]; rfl
  · rw [Tryz.underlying4]; rfl
  · rw [Tryz.underlying5]; rfl
  · rw [Tryz.underlying6]; rfl
  · rw [Tryz.underlying7]; rfl
  · rw [Tryz.underlying8]; rfl
  · rw [Tryz.underlying9]; rfl
  · rw [Tryz.underlying10]; rfl
  · rw [Tryz.underlying11]; rfl
  · rw [Tryz.underlying12]; rfl
  · rw [Tryz.underlying13]; rfl
  · rw [Tryz.underlying14]; rfl
  · rw [Tryz.underlying15]; rfl
  · rw [Tryz.underlying16]; rfl
  · rw [Tryz.underlying17]; rfl
  · rw [Tryz.underlying18]; rfl
  · rw [Tryz.underlying19]; rfl
  · rw [Tryz.underlying21]; rfl
  · rw [Tryz.underlying22]; rfl
  · rw [Tryz.underlying23]; rfl
  · rw [Tryz.underlying24]; rfl
  · rw [Tryz.underlying25]; rfl
  · rw [Tryz.underlying26]; rfl
  · rw [Tryz.underlying27]; rfl
  · rw [Tryz.underlying33]; rfl
  · rw [Tryz.underlying34]; rfl
  · rw [Tryz.underlying38]; rfl
  · rw [Tryz.underlying39]; rfl
  · rw [Tryz.underlying40]; rfl
  · rw [Tryz.underlying41]; rfl
  · rw [Tryz.underlying42]; rfl
  · rw [Tryz.underlying43]; rfl
  · rw [Tryz.underlying44]; rfl
  · rw [Tryz.underlying45]; rfl
  · rw [Tryz.underlying46]; rfl
  · rw [Tryz.underlying54]; rfl
  · rw [Tryz.underlying58]; rfl
  · rw [Tryz.underlying59]; rfl
  · rw [Tryz.underlying60]; rfl
  · rw [Tryz.underlying61]; rfl
  · rw [Tryz.underlying62]; rfl
  · rw [Tryz.underlying75]; rfl
  · rw [Tryz.underlying78]; rfl
  · rw [Tryz.underlying79]; rfl
  · rw [Tryz.underlying82]; rfl
  · rw [Tryz.underlying83]; rfl
  · rw [Tryz.underlying84]; rfl
  · rw [Tryz.underlying85]; rfl
  · rw [Tryz.underlying86]; rfl
  · cases h
def conOf_1 : Nat → Bool
  | 99 => true
  | 100 => true
  | 111 => true
  | 112 => true
  | 120 => true
  | 121 => true
  | 122 => true
  | 124 => true
  | 125 => true
  | 132 => true
  | 142 => true
  | 143 => true
  | 155 => true
  | 156 => true
  | 162 => true
  | 163 => true
  | 164 => true
  | 169 => true
  | 179 => true
  | 186 => true
  | 187 => true
  | 193 => true
  | 194 => true
  | 195 => true
  | 204 => true
  | 212 => true
  | 214 => true
  | 215 => true
  | 217 => true
  | 218 => true
  | 220 => true
  | 222 => true
  | 223 => true
  | 224 => true
  | 225 => true
  | 226 => true
  | 230 => true
  | 231 => true
  | 232 => true
  | 234 => true
  | 235 => true
  | 236 => true
  | 237 => true
  | 238 => true
  | 239 => true
  | 240 => true
  | 241 => true
  | _ => false
set_option maxHeartbeats 8000000 in
theorem con_1 (t : Nat) (h : conOf_1 t = true) : (Tryz.prog.underlying t).map concB = some true := by
  unfold conOf_1 at h
  split at h
  · rw [Tryz.underlying99]; rfl
  · rw [Tryz.underlying100]; rfl
  · rw [Tryz.underlying111]; rfl
  · rw [Tryz.underlying112]; rfl
  · rw [Tryz.underlying120]; rfl
  · rw [Tryz.underlying121]; rfl
  · rw [Tryz.underlying122]; rfl
  · rw [Tryz.underlying124]; rfl
  · rw [Tryz.underlying125]; rfl
  · rw [Tryz.underlying132]; rfl
  · rw [Tryz.underlying142]; rfl
  · rw [Tryz.underlying143]; rfl
  · rw [Tryz.underlying155]; rfl
  · rw [Tryz.underlying156]; rfl
  · rw [Tryz.underlying162]; rfl
  · rw [Tryz.underlying163]; rfl
  · rw [Tryz.underlying164]; rfl
  · rw [Tryz.underlying169]; rfl
  · rw [Tryz.underlying179]; rfl
  · rw [Tryz.underlying186]; rfl
  · rw [Tryz.underlying187]; rfl
  · rw [Tryz.underlying193]; rfl
  · rw [Tryz.underlying194]; rfl
  · rw [Tryz.underlying195]; rfl
  · rw [Tryz.underlying204]; rfl
  · rw [Tryz.underlying212]; rfl
  · rw [Tryz.underlying214]; rfl
  · rw [Tryz.underlying215]; rfl
  · rw [Tryz.underlying217]; rfl
  · rw [Tryz.underlying218]; rfl
  · rw [Tryz.underlying220]; rfl
  · rw [Tryz.underlying222]; rfl
  · rw [Tryz.underlying223]; rfl
  · rw [Tryz.underlying224]; rfl
  · rw [Tryz.underlying225]; rfl
  · rw [Tryz.underlying226]; rfl
  · rw [Tryz.underlying230]; rfl
  · rw [Tryz.underlying231]; rfl
  · rw [Tryz.underlying232]; rfl
  · rw [Tryz.underlying234]; rfl
  · rw [Tryz.underlying235]; rfl
  · rw [Tryz.underlying236]; rfl
  · rw [Tryz.underlying237]; rfl
  · rw [Tryz.underlying238]; rfl
  · rw [Tryz.underlying239]; rfl
  · rw [Tryz.underlying240]; rfl
  · rw [Tryz.underlying241]; rfl
  · cases h
def conOf (t : Nat) : Bool := (bif conOf_0 t then true else (bif conOf_1 t then true else false))
theorem con (t : Nat) (h : conOf t = true) : (Tryz.prog.underlying t).map concB = some true := by
  unfold conOf at h
  cases e0 : conOf_0 t with
  | true => exact con_0 t e0
  | false =>
  rw [e0] at h
  simp only [cond_false] at h
  cases e1 : conOf_1 t with
  | true => exact con_1 t e1
  | false =>
  rw [e1] at h
  simp only [cond_false] at h
  cases h
def fldOf7 : Nat → Option (Nat × Nat)
  | 0 => some (0, 2)
  | 1 => some (1, 3)
  | 2 => some (2, 4)
  | 3 => some (3, 6)
  | _ => none
theorem fld7 (f off ft : Nat) (h : fldOf7 f = some (off, ft)) : Fld Tryz.prog 7 f off ft := by
  unfold fldOf7 at h
  split at h
  · cases h; exact ⟨_, _, Tryz.underlying7, rfl, rfl, rfl⟩
  · cases h; exact ⟨_, _, Tryz.underlying7, rfl, rfl, rfl⟩
  · cases h; exact ⟨_, _, Tryz.underlying7, rfl, rfl, rfl⟩
  · cases h; exact ⟨_, _, Tryz.underlying7, rfl, rfl, rfl⟩
  · cases h
def fldOf8 : Nat → Option (Nat × Nat)
  | 0 => some (0, 2)
  | 1 => some (1, 3)
  | 2 => some (2, 4)
  | 3 => some (3, 6)
  | _ => none
theorem fld8 (f off ft : Nat) (h : fldOf8 f = some (off, ft)) : Fld Tryz.prog 8 f off ft := by
  unfold fldOf8 at h
  split at h
  · cases h; exact ⟨_, _, Tryz.underlying8, rfl, rfl, rfl⟩
  · cases h; exact ⟨_, _, Tryz.underlying8, rfl, rfl, rfl⟩
  · cases h; exact ⟨_, _, Tryz.underlying8, rfl, rfl, rfl⟩
  · cases h; exact ⟨_, _, Tryz.underlying8, rfl, rfl, rfl⟩
  · cases h
def fldOf13 : Nat → Option (Nat × Nat)
  | 0 => some (0, 9)
  | 1 => some (1, 12)
  | _ => none
theorem fld13 (f off ft : Nat) (h : fldOf13 f = some (off, ft)) : Fld Tryz.prog 13 f off ft := by
  unfold fldOf13 at h
  split at h
  · cases h; exact ⟨_, _, Tryz.underlying13, rfl, rfl, rfl⟩
  · cases h; exact ⟨_, _, Tryz.underlying13, rfl, rfl, rfl⟩
  · cases h
def fldOf14 : Nat → Option (Nat × Nat)
  | 0 => some (0, 9)
  | 1 => some (1, 12)
  | _ => none
theorem fld14 (f off ft : Nat) (h : fldOf14 f = some (off, ft)) : Fld Tryz.prog 14 f off ft := by
  unfold fldOf14 at h
  split at h
  · cases h; exact ⟨_, _, Tryz.underlying14, rfl, rfl, rfl⟩
  · cases h; exact ⟨_, _, Tryz.underlying14, rfl, rfl, rfl⟩
  · cases h
def fldOf18 : Nat → Option (Nat × Nat)
  | 0 => some (0, 17)
  | _ => none
theorem fld18 (f off ft : Nat) (h : fldOf18 f = some (off, ft)) : Fld Tryz.prog 18 f off ft := by
  unfold fldOf18 at h
  split at h
  · cases h; exact ⟨_, _, Tryz.underlying18, rfl, rfl, rfl⟩
  · cases h
def fldOf19 : Nat → Option (Nat × Nat)
  | 0 => some (0, 17)
  | _ => none
theorem fld19 (f off ft : Nat) (h : fldOf19 f = some (off, ft)) : Fld Tryz.prog 19 f off ft := by
  unfold fldOf19 at h
  split at h
  · cases h; exact ⟨_, _, Tryz.underlying19, rfl, rfl, rfl⟩
  · cases h
def fldOf22 : Nat → Option (Nat × Nat)
  | 0 => some (0, 3)
  | 1 => some (1, 3)
  | _ => none
theorem fld22 (f off ft : Nat) (h : fldOf22 f = some (off, ft)) : Fld Tryz.prog 22 f off ft := by
  unfold fldOf22 at h
  split at h
  · cases h; exact ⟨_, _, Tryz.underlying22, rfl, rfl, rfl⟩
  · cases h; exact ⟨_, _, Tryz.underlying22, rfl, rfl, rfl⟩
  · cases h
def fldOf23 : Nat → Option (Nat × Nat)
  | 0 => some (0, 3)
  | 1 => some (1, 3)
  | _ => none
theorem fld23 (f off ft : Nat) (h : fldOf23 f = some (off, ft)) : Fld Tryz.prog 23 f off ft := by
  unfold fldOf23 at h
  split at h
  · cases h; exact ⟨_, _, Tryz.underlying23, rfl, rfl, rfl⟩
  · cases h; exact ⟨_, _, Tryz.underlying23, rfl, rfl, rfl⟩
  · cases h
def fldOf26 : Nat → Option (Nat × Nat)
  | 0 => some (0, 23)
  | 1 => some (2, 24)
  | 2 => some (3, 4)
  | 3 => some (4, 9)
  | 4 => some (5, 3)
  | 5 => some (6, 9)
  | 6 => some (7, 25)
  | _ => none
theorem fld26 (f off ft : Nat) (h : fldOf26 f = some (off, ft)) : Fld Tryz.prog 26 f off ft := by
  unfold fldOf26 at h
  split at h
  · cases h; exact ⟨_, _, Tryz.underlying26, rfl, rfl, rfl⟩
  · cases h; exact ⟨_, _, Tryz.underlying26, rfl, rfl, rfl⟩
  · cases h; exact ⟨_, _, Tryz.underlying26, rfl, rfl, rfl⟩
  · cases h; exact ⟨_, _, Tryz.underlying26, rfl, rfl, rfl⟩
  · cases h; exact ⟨_, _, Tryz.underlying26, rfl, rfl, rfl⟩
  · cases h; exact ⟨_, _, Tryz.underlying26, rfl, rfl, rfl⟩
  · cases h; exact ⟨_, _, Tryz.underlying26, rfl, rfl, rfl⟩
  · cases h
def fldOf27 : Nat → Option (Nat × Nat)
  | 0 => some (0, 23)
  | 1 => some (2, 24)
  | 2 => some (3, 4)
  | 3 => some (4, 9)
  | 4 => some (5, 3)
  | 5 => some (6, 9)
  | 6 => some (7, 25)
  | _ => none
theorem fld27 (f off ft : Nat) (h : fldOf27 f = some (off, ft)) : Fld Tryz.prog 27 f off ft := by
  unfold fldOf27 at h
  split at h
  · cases h; exact ⟨_, _, Tryz.underlying27, rfl, rfl, rfl⟩
  · cases h; exact ⟨_, _, Tryz.underlying27, rfl, rfl, rfl⟩
  · cases h; exact ⟨_, _, Tryz.underlying27, rfl, rfl, rfl⟩
  · cases h; exact ⟨_, _, Tryz.underlying27, rfl, rfl, rfl⟩
  · cases h; exact ⟨_, _, Tryz.underlying27, rfl, rfl, rfl⟩
  · cases h; exact ⟨_, _, Tryz.underlying27, rfl, rfl, rfl⟩
  · cases h; exact ⟨_, _, Tryz.underlying27, rfl, rfl, rfl⟩
  · cases h
def fldOf33 : Nat → Option (Nat × Nat)
  | 0 => some (0, 3)
  | 1 => some (1, 23)
  | _ => none
theorem fld33 (f off ft : Nat) (h : fldOf33 f = some (off, ft)) : Fld Tryz.prog 33 f off ft := by
  unfold fldOf33 at h
  split at h
  · cases h; exact ⟨_, _, Tryz.underlying33, rfl, rfl, rfl⟩
  · cases h; exact ⟨_, _, Tryz.underlying33, rfl, rfl, rfl⟩
  · cases h
def fldOf34 : Nat → Option (Nat × Nat)
  | 0 => some (0, 3)
  | 1 => some (1, 23)
  | _ => none
theorem fld34 (f off ft : Nat) (h : fldOf34 f = some (off, ft)) : Fld Tryz.prog 34 f off ft := by
  unfold fldOf34 at h
  split at h
  · cases h; exact ⟨_, _, Tryz.underlying34, rfl, rfl, rfl⟩
  · cases h; exact ⟨_, _, Tryz.underlying34, rfl, rfl, rfl⟩
  · cases h
def fldOf38 : Nat → Option (Nat × Nat)
  | 0 => some (0, 23)
  | 1 => some (2, 9)
  | _ => none
theorem fld38 (f off ft : Nat) (h : fldOf38 f = some (off, ft)) : Fld Tryz.prog 38 f off ft := by
  unfold fldOf38 at h
  split at h
  · cases h; exact ⟨_, _, Tryz.underlying38, rfl, rfl, rfl⟩
  · cases h; exact ⟨_, _, Tryz.underlying38, rfl, rfl, rfl⟩
  · cases h
def fldOf39 : Nat → Option (Nat × Nat)
  | 0 => some (0, 23)
  | 1 => some (2, 9)
  | _ => none
theorem fld39 (f off ft : Nat) (h : fldOf39 f = some (off, ft)) : Fld Tryz.prog 39 f off ft := by
  unfold fldOf39 at h
  split at h
  · cases h; exact ⟨_, _, Tryz.underlying39, rfl, rfl, rfl⟩
  · cases h; exact ⟨_, _, Tryz.underlying39, rfl, rfl, rfl⟩
  · cases h
def fldOf41 : Nat → Option (Nat × Nat)
  | 0 => some (0, 23)
  | 1 => some (2, 40)
  | _ => none
theorem fld41 (f off ft : Nat) (h : fldOf41 f = some (off, ft)) : Fld Tryz.prog 41 f off ft := by
  unfold fldOf41 at h
  split at h
  · cases h; exact ⟨_, _, Tryz.underlying41, rfl, rfl, rfl⟩
  · cases h; exact ⟨_, _, Tryz.underlying41, rfl, rfl, rfl⟩
  · cases h
def fldOf42 : Nat → Option (Nat × Nat)
  | 0 => some (0, 23)
  | 1 => some (2, 40)
  | _ => none
theorem fld42 (f off ft : Nat) (h : fldOf42 f = some (off, ft)) : Fld Tryz.prog 42 f off ft := by
  unfold fldOf42 at h
  split at h
  · cases h; exact ⟨_, _, Tryz.underlying42, rfl, rfl, rfl⟩
  · cases h; exact ⟨_, _, Tryz.underlying42, rfl, rfl, rfl⟩
  · cases h
def fldOf45 : Nat → Option (Nat × Nat)
  | 0 => some (0, 4)
  | 1 => some (1, 39)
  | 2 => some (4, 42)
  | 3 => some (7, 43)
  | 4 => some (8, 44)
  | _ => none
theorem fld45 (f off ft : Nat) (h : fldOf45 f = some (off, ft)) : Fld Tryz.prog 45 f off ft := by
  unfold fldOf45 at h
  split at h
  · cases h; exact ⟨_, _, Tryz.underlying45, rfl, rfl, rfl⟩
  · cases h; exact ⟨_, _, Tryz.underlying45, rfl, rfl, rfl⟩
  · cases h; exact ⟨_, _, Tryz.underlying45, rfl, rfl, rfl⟩
  · cases h; exact ⟨_, _, Tryz.underlying45, rfl, rfl, rfl⟩
  · cases h; exact ⟨_, _, Tryz.underlying45, rfl, rfl, rfl⟩
  · cases h
def fldOf46 : Nat → Option (Nat × Nat)
  | 0 => some (0, 4)
  | 1 => some (1, 39)
  | 2 => some (4, 42)
  | 3 => some (7, 43)
  | 4 => some (8, 44)
  | _ => none
theorem fld46 (f off ft : Nat) (h : fldOf46 f = some (off, ft)) : Fld Tryz.prog 46 f off ft := by
  unfold fldOf46 at h
  split at h
  · cases h; exact ⟨_, _, Tryz.underlying46, rfl, rfl, rfl⟩
  · cases h; exact ⟨_, _, Tryz.underlying46, rfl, rfl, rfl⟩
  · cases h; exact ⟨_, _, Tryz.underlying46, rfl, rfl, rfl⟩
  · cases h; exact ⟨_, _, Tryz.underlying46, rfl, rfl, rfl⟩
  · cases h; exact ⟨_, _, Tryz.underlying46, rfl, rfl, rfl⟩
  · cases h
def fldOf59 : Nat → Option (Nat × Nat)
  | 0 => some (0, 2)
  | 1 => some (1, 2)
  | _ => none
theorem fld59 (f off ft : Nat) (h : fldOf59 f = some (off, ft)) : Fld Tryz.prog 59 f off ft := by
  unfold fldOf59 at h
  split at h
  · cases h; exact ⟨_, _, Tryz.underlying59, rfl, rfl, rfl⟩
  · cases h; exact ⟨_, _, Tryz.underlying59, rfl, rfl, rfl⟩
  · cases h
def fldOf60 : Nat → Option (Nat × Nat)
  | 0 => some (0, 2)
  | 1 => some (1, 2)
  | _ => none
theorem fld60 (f off ft : Nat) (h : fldOf60 f = some (off, ft)) : Fld Tryz.prog 60 f off ft := by
  unfold fldOf60 at h
  split at h
  · cases h; exact ⟨_, _, Tryz.underlying60, rfl, rfl, rfl⟩
  · cases h; exact ⟨_, _, Tryz.underlying60, rfl, rfl, rfl⟩
  · cases h
def fldOf61 : Nat → Option (Nat × Nat)
  | 0 => some (0, 23)
  | 1 => some (2, 9)
  | 2 => some (3, 3)
  | 3 => some (4, 58)
  | 4 => some (5, 3)
  | 5 => some (6, 3)
  | 6 => some (7, 4)
  | 7 => some (8, 4)
  | 8 => some (9, 60)
  | 9 => some (11, 60)
  | 10 => some (13, 60)
  | 11 => some (15, 60)
  | 12 => some (17, 9)
  | 13 => some (18, 40)
  | _ => none
theorem fld61 (f off ft : Nat) (h : fldOf61 f = some (off, ft)) : Fld Tryz.prog 61 f off ft := by
  unfold fldOf61 at h
  split at h
  · cases h; exact ⟨_, _, Tryz.underlying61, rfl, rfl, rfl⟩
  · cases h; exact ⟨_, _, Tryz.underlying61, rfl, rfl, rfl⟩
  · cases h; exact ⟨_, _, Tryz.underlying61, rfl, rfl, rfl⟩
  · cases h; exact ⟨_, _, Tryz.underlying61, rfl, rfl, rfl⟩
  · cases h; exact ⟨_, _, Tryz.underlying61, rfl, rfl, rfl⟩
  · cases h; exact ⟨_, _, Tryz.underlying61, rfl, rfl, rfl⟩
  · cases h; exact ⟨_, _, Tryz.underlying61, rfl, rfl, rfl⟩
  · cases h; exact ⟨_, _, Tryz.underlying61, rfl, rfl, rfl⟩
  · cases h; exact ⟨_, _, Tryz.underlying61, rfl, rfl, rfl⟩
  · cases h; exact ⟨_, _, Tryz.underlying61, rfl, rfl, rfl⟩
  · cases h; exact ⟨_, _, Tryz.underlying61, rfl, rfl, rfl⟩
  · cases h; exact ⟨_, _, Tryz.underlying61, rfl, rfl, rfl⟩
  · cases h; exact ⟨_, _, Tryz.underlying61, rfl, rfl, rfl⟩
  · cases h; exact ⟨_, _, Tryz.underlying61, rfl, rfl, rfl⟩
  · cases h
def fldOf62 : Nat → Option (Nat × Nat)
  | 0 => some (0, 23)
  | 1 => some (2, 9)
  | 2 => some (3, 3)
  | 3 => some (4, 58)
  | 4 => some (5, 3)
  | 5 => some (6, 3)
  | 6 => some (7, 4)
  | 7 => some (8, 4)
  | 8 => some (9, 60)
  | 9 => some (11, 60)
  | 10 => some (13, 60)
  | 11 => some (15, 60)
  | 12 => some (17, 9)
  | 13 => some (18, 40)
  | _ => none
theorem fld62 (f off ft : Nat) (h : fldOf62 f = some (off, ft)) : Fld Tryz.prog 62 f off ft := by
  unfold fldOf62 at h
  split at h
  · cases h; exact ⟨_, _, Tryz.underlying62, rfl, rfl, rfl⟩
  · cases h; exact ⟨_, _, Tryz.underlying62, rfl, rfl, rfl⟩
  · cases h; exact ⟨_, _, Tryz.underlying62, rfl, rfl, rfl⟩
  · cases h; exact ⟨_, _, Tryz.underlying62, rfl, rfl, rfl⟩
  · cases h; exact ⟨_, _, Tryz.underlying62, rfl, rfl, rfl⟩
  · cases h; exact ⟨_, _, Tryz.underlying62, rfl, rfl, rfl⟩
  · cases h; exact ⟨_, _, Tryz.underlying62, rfl, rfl, rfl⟩
  · cases h; exact ⟨_, _, Tryz.underlying62, rfl, rfl, rfl⟩
  · cases h; exact ⟨_, _, Tryz.underlying62, rfl, rfl, rfl⟩
  · cases h; exact ⟨_, _, Tryz.underlying62, rfl, rfl, rfl⟩
  · cases h; exact ⟨_, _, Tryz.underlying62, rfl, rfl, rfl⟩
  · cases h; exact ⟨_, _, Tryz.underlying62, rfl, rfl, rfl⟩
  · cases h; exact ⟨_, _, Tryz.underlying62, rfl, rfl, rfl⟩
  · cases h; exact ⟨_, _, Tryz.underlying62, rfl, rfl, rfl⟩
  · cases h
def fldOf78 : Nat → Option (Nat × Nat)
  | 0 => some (0, 57)
  | 1 => some (1, 57)
  | 2 => some (2, 76)
  | 3 => some (3, 77)
  | _ => none
theorem fld78 (f off ft : Nat) (h : fldOf78 f = some (off, ft)) : Fld Tryz.prog 78 f off ft := by
  unfold fldOf78 at h
  split at h
  · cases h; exact ⟨_, _, Tryz.underlying78, rfl, rfl, rfl⟩
  · cases h; exact ⟨_, _, Tryz.underlying78, rfl, rfl, rfl⟩
  · cases h; exact ⟨_, _, Tryz.underlying78, rfl, rfl, rfl⟩
  · cases h; exact ⟨_, _, Tryz.underlying78, rfl, rfl, rfl⟩
  · cases h
def fldOf79 : Nat → Option (Nat × Nat)
  | 0 => some (0, 57)
  | 1 => some (1, 57)
  | 2 => some (2, 76)
  | 3 => some (3, 77)
  | _ => none
theorem fld79 (f off ft : Nat) (h : fldOf79 f = some (off, ft)) : Fld Tryz.prog 79 f off ft := by
  unfold fldOf79 at h
  split at h
  · cases h; exact ⟨_, _, Tryz.underlying79, rfl, rfl, rfl⟩
  · cases h; exact ⟨_, _, Tryz.underlying79, rfl, rfl, rfl⟩
  · cases h; exact ⟨_, _, Tryz.underlying79, rfl, rfl, rfl⟩
  · cases h; exact ⟨_, _, Tryz.underlying79, rfl, rfl, rfl⟩
  · cases h
def fldOf83 : Nat → Option (Nat × Nat)
  | 0 => some (0, 23)
  | 1 => some (2, 24)
  | 2 => some (3, 4)
  | 3 => some (4, 9)
  | 4 => some (5, 82)
  | _ => none
theorem fld83 (f off ft : Nat) (h : fldOf83 f = some (off, ft)) : Fld Tryz.prog 83 f off ft := by
  unfold fldOf83 at h
  split at h
  · cases h; exact ⟨_, _, Tryz.underlying83, rfl, rfl, rfl⟩
  · cases h; exact ⟨_, _, Tryz.underlying83, rfl, rfl, rfl⟩
  · cases h; exact ⟨_, _, Tryz.underlying83, rfl, rfl, rfl⟩
  · cases h; exact ⟨_, _, Tryz.underlying83, rfl, rfl, rfl⟩
  · cases h; exact ⟨_, _, Tryz.underlying83, rfl, rfl, rfl⟩
  · cases h
def fldOf84 : Nat → Option (Nat × Nat)
  | 0 => some (0, 23)
  | 1 => some (2, 24)
  | 2 => some (3, 4)
  | 3 => some (4, 9)
  | 4 => some (5, 82)
  | _ => none
theorem fld84 (f off ft : Nat) (h : fldOf84 f = some (off, ft)) : Fld Tryz.prog 84 f off ft := by
  unfold fldOf84 at h
  split at h
  · cases h; exact ⟨_, _, Tryz.underlying84, rfl, rfl, rfl⟩
  · cases h; exact ⟨_, _, Tryz.underlying84, rfl, rfl, rfl⟩
  · cases h; exact ⟨_, _, Tryz.underlying84, rfl, rfl, rfl⟩
  · cases h; exact ⟨_, _, Tryz.underlying84, rfl, rfl, rfl⟩
  · cases h; exact ⟨_, _, Tryz.underlying84, rfl, rfl, rfl⟩
  · cases h
def fldOf85 : Nat → Option (Nat × Nat)
  | 0 => some (0, 24)
  | 1 => some (1, 4)
  | 2 => some (2, 9)
  | _ => none
theorem fld85 (f off ft : Nat) (h : fldOf85 f = some (off, ft)) : Fld Tryz.prog 85 f off ft := by
  unfold fldOf85 at h
  split at h
  · cases h; exact ⟨_, _, Tryz.underlying85, rfl, rfl, rfl⟩
  · cases h; exact ⟨_, _, Tryz.underlying85, rfl, rfl, rfl⟩
  · cases h; exact ⟨_, _, Tryz.underlying85, rfl, rfl, rfl⟩
  · cases h
def fldOf86 : Nat → Option (Nat × Nat)
  | 0 => some (0, 24)
  | 1 => some (1, 4)
  | 2 => some (2, 9)
  | _ => none
theorem fld86 (f off ft : Nat) (h : fldOf86 f = some (off, ft)) : Fld Tryz.prog 86 f off ft := by
  unfold fldOf86 at h
  split at h
  · cases h; exact ⟨_, _, Tryz.underlying86, rfl, rfl, rfl⟩
  · cases h; exact ⟨_, _, Tryz.underlying86, rfl, rfl, rfl⟩
  · cases h; exact ⟨_, _, Tryz.underlying86, rfl, rfl, rfl⟩
  · cases h
def fldOf99 : Nat → Option (Nat × Nat)
  | 0 => some (0, 54)
  | 1 => some (1, 3)
  | 2 => some (2, 3)
  | _ => none
theorem fld99 (f off ft : Nat) (h : fldOf99 f = some (off, ft)) : Fld Tryz.prog 99 f off ft := by
  unfold fldOf99 at h
  split at h
  · cases h; exact ⟨_, _, Tryz.underlying99, rfl, rfl, rfl⟩
  · cases h; exact ⟨_, _, Tryz.underlying99, rfl, rfl, rfl⟩
  · cases h; exact ⟨_, _, Tryz.underlying99, rfl, rfl, rfl⟩
  · cases h
def fldOf100 : Nat → Option (Nat × Nat)
  | 0 => some (0, 54)
  | 1 => some (1, 3)
  | 2 => some (2, 3)
  | _ => none
theorem fld100 (f off ft : Nat) (h : fldOf100 f = some (off, ft)) : Fld Tryz.prog 100 f off ft := by
  unfold fldOf100 at h
  split at h
  · cases h; exact ⟨_, _, Tryz.underlying100, rfl, rfl, rfl⟩
  · cases h; exact ⟨_, _, Tryz.underlying100, rfl, rfl, rfl⟩
  · cases h; exact ⟨_, _, Tryz.underlying100, rfl, rfl, rfl⟩
  · cases h
def fldOf120 : Nat → Option (Nat × Nat)
  | 0 => some (0, 2)
  | 1 => some (1, 9)
  | _ => none
theorem fld120 (f off ft : Nat) (h : fldOf120 f = some (off, ft)) : Fld Tryz.prog 120 f off ft := by
  unfold fldOf120 at h
  split at h
  · cases h; exact ⟨_, _, Tryz.underlying120, rfl, rfl, rfl⟩
  · cases h; exact ⟨_, _, Tryz.underlying120, rfl, rfl, rfl⟩
  · cases h
def fldOf121 : Nat → Option (Nat × Nat)
  | 0 => some (0, 2)
  | 1 => some (1, 9)
  | _ => none
theorem fld121 (f off ft : Nat) (h : fldOf121 f = some (off, ft)) : Fld Tryz.prog 121 f off ft := by
  unfold fldOf121 at h
  split at h
  · cases h; exact ⟨_, _, Tryz.underlying121, rfl, rfl, rfl⟩
  · cases h; exact ⟨_, _, Tryz.underlying121, rfl, rfl, rfl⟩
  · cases h
def fldOf124 : Nat → Option (Nat × Nat)
  | 0 => some (0, 23)
  | 1 => some (2, 21)
  | 2 => some (3, 3)
  | 3 => some (4, 4)
  | _ => none
theorem fld124 (f off ft : Nat) (h : fldOf124 f = some (off, ft)) : Fld Tryz.prog 124 f off ft := by
  unfold fldOf124 at h
  split at h
  · cases h; exact ⟨_, _, Tryz.underlying124, rfl, rfl, rfl⟩
  · cases h; exact ⟨_, _, Tryz.underlying124, rfl, rfl, rfl⟩
  · cases h; exact ⟨_, _, Tryz.underlying124, rfl, rfl, rfl⟩
  · cases h; exact ⟨_, _, Tryz.underlying124, rfl, rfl, rfl⟩
  · cases h
def fldOf125 : Nat → Option (Nat × Nat)
  | 0 => some (0, 23)
  | 1 => some (2, 21)
  | 2 => some (3, 3)
  | 3 => some (4, 4)
  | _ => none
theorem fld125 (f off ft : Nat) (h : fldOf125 f = some (off, ft)) : Fld Tryz.prog 125 f off ft := by
  unfold fldOf125 at h
  split at h
  · cases h; exact ⟨_, _, Tryz.underlying125, rfl, rfl, rfl⟩
  · cases h; exact ⟨_, _, Tryz.underlying125, rfl, rfl, rfl⟩
  · cases h; exact ⟨_, _, Tryz.underlying125, rfl, rfl, rfl⟩
  · cases h; exact ⟨_, _, Tryz.underlying125, rfl, rfl, rfl⟩
  · cases h
def fldOf155 : Nat → Option (Nat × Nat)
  | 0 => some (0, 5)
  | 1 => some (1, 5)
  | _ => none
theorem fld155 (f off ft : Nat) (h : fldOf155 f = some (off, ft)) : Fld Tryz.prog 155 f off ft := by
  unfold fldOf155 at h
  split at h
  · cases h; exact ⟨_, _, Tryz.underlying155, rfl, rfl, rfl⟩
  · cases h; exact ⟨_, _, Tryz.underlying155, rfl, rfl, rfl⟩
  · cases h
def fldOf156 : Nat → Option (Nat × Nat)
  | 0 => some (0, 5)
  | 1 => some (1, 5)
  | _ => none
theorem fld156 (f off ft : Nat) (h : fldOf156 f = some (off, ft)) : Fld Tryz.prog 156 f off ft := by
  unfold fldOf156 at h
  split at h
  · cases h; exact ⟨_, _, Tryz.underlying156, rfl, rfl, rfl⟩
  · cases h; exact ⟨_, _, Tryz.underlying156, rfl, rfl, rfl⟩
  · cases h
def fldOf163 : Nat → Option (Nat × Nat)
  | 0 => some (0, 17)
  | 1 => some (1, 161)
  | 2 => some (2, 162)
  | _ => none
theorem fld163 (f off ft : Nat) (h : fldOf163 f = some (off, ft)) : Fld Tryz.prog 163 f off ft := by
  unfold fldOf163 at h
  split at h
  · cases h; exact ⟨_, _, Tryz.underlying163, rfl, rfl, rfl⟩
  · cases h; exact ⟨_, _, Tryz.underlying163, rfl, rfl, rfl⟩
  · cases h; exact ⟨_, _, Tryz.underlying163, rfl, rfl, rfl⟩
  · cases h
def fldOf164 : Nat → Option (Nat × Nat)
  | 0 => some (0, 17)
  | 1 => some (1, 161)
  | 2 => some (2, 162)
  | _ => none
theorem fld164 (f off ft : Nat) (h : fldOf164 f = some (off, ft)) : Fld Tryz.prog 164 f off ft := by
  unfold fldOf164 at h
  split at h
  · cases h; exact ⟨_, _, Tryz.underlying164, rfl, rfl, rfl⟩
  · cases h; exact ⟨_, _, Tryz.underlying164, rfl, rfl, rfl⟩
  · cases h; exact ⟨_, _, Tryz.underlying164, rfl, rfl, rfl⟩
  · cases h
def fldOf186 : Nat → Option (Nat × Nat)
  | 0 => some (0, 4)
  | 1 => some (1, 143)
  | 2 => some (2, 143)
  | _ => none
theorem fld186 (f off ft : Nat) (h : fldOf186 f = some (off, ft)) : Fld Tryz.prog 186 f off ft := by
  unfold fldOf186 at h
  split at h
  · cases h; exact ⟨_, _, Tryz.underlying186, rfl, rfl, rfl⟩
  · cases h; exact ⟨_, _, Tryz.underlying186, rfl, rfl, rfl⟩
  · cases h; exact ⟨_, _, Tryz.underlying186, rfl, rfl, rfl⟩
  · cases h
def fldOf187 : Nat → Option (Nat × Nat)
  | 0 => some (0, 4)
  | 1 => some (1, 143)
  | 2 => some (2, 143)
  | _ => none
theorem fld187 (f off ft : Nat) (h : fldOf187 f = some (off, ft)) : Fld Tryz.prog 187 f off ft := by
  unfold fldOf187 at h
  split at h
  · cases h; exact ⟨_, _, Tryz.underlying187, rfl, rfl, rfl⟩
  · cases h; exact ⟨_, _, Tryz.underlying187, rfl, rfl, rfl⟩
  · cases h; exact ⟨_, _, Tryz.underlying187, rfl, rfl, rfl⟩
  · cases h
def fldOf193 : Nat → Option (Nat × Nat)
  | 0 => some (0, 17)
  | _ => none
theorem fld193 (f off ft : Nat) (h : fldOf193 f = some (off, ft)) : Fld Tryz.prog 193 f off ft := by
  unfold fldOf193 at h
  split at h
  · cases h; exact ⟨_, _, Tryz.underlying193, rfl, rfl, rfl⟩
  · cases h
def fldOf194 : Nat → Option (Nat × Nat)
  | 0 => some (0, 17)
  | _ => none
theorem fld194 (f off ft : Nat) (h : fldOf194 f = some (off, ft)) : Fld Tryz.prog 194 f off ft := by
  unfold fldOf194 at h
  split at h
  · cases h; exact ⟨_, _, Tryz.underlying194, rfl, rfl, rfl⟩
  · cases h
def fldOf214 : Nat → Option (Nat × Nat)
  | 0 => some (0, 17)
  | 1 => some (1, 17)
  | 2 => some (2, 17)
  | 3 => some (3, 9)
  | _ => none
theorem fld214 (f off ft : Nat) (h : fldOf214 f = some (off, ft)) : Fld Tryz.prog 214 f off ft := by
  unfold fldOf214 at h
  split at h
  · cases h; exact ⟨_, _, Tryz.underlying214, rfl, rfl, rfl⟩
  · cases h; exact ⟨_, _, Tryz.underlying214, rfl, rfl, rfl⟩
  · cases h; exact ⟨_, _, Tryz.underlying214, rfl, rfl, rfl⟩
  · cases h; exact ⟨_, _, Tryz.underlying214, rfl, rfl, rfl⟩
  · cases h
def fldOf215 : Nat → Option (Nat × Nat)
  | 0 => some (0, 17)
  | 1 => some (1, 17)
  | 2 => some (2, 17)
  | 3 => some (3, 9)
  | _ => none
theorem fld215 (f off ft : Nat) (h : fldOf215 f = some (off, ft)) : Fld Tryz.prog 215 f off ft := by
  unfold fldOf215 at h
  split at h
  · cases h; exact ⟨_, _, Tryz.underlying215, rfl, rfl, rfl⟩
  · cases h; exact ⟨_, _, Tryz.underlying215, rfl, rfl, rfl⟩
  · cases h; exact ⟨_, _, Tryz.underlying215, rfl, rfl, rfl⟩
  · cases h; exact ⟨_, _, Tryz.underlying215, rfl, rfl, rfl⟩
  · cases h
def fldOf217 : Nat → Option (Nat × Nat)
  | 0 => some (0, 216)
  | _ => none
theorem fld217 (f off ft : Nat) (h : fldOf217 f = some (off, ft)) : Fld Tryz.prog 217 f off ft := by
  unfold fldOf217 at h
  split at h
  · cases h; exact ⟨_, _, Tryz.underlying217, rfl, rfl, rfl⟩
  · cases h
def fldOf218 : Nat → Option (Nat × Nat)
  | 0 => some (0, 216)
  | _ => none
theorem fld218 (f off ft : Nat) (h : fldOf218 f = some (off, ft)) : Fld Tryz.prog 218 f off ft := by
  unfold fldOf218 at h
  split at h
  · cases h; exact ⟨_, _, Tryz.underlying218, rfl, rfl, rfl⟩
  · cases h
def fldOf225 : Nat → Option (Nat × Nat)
  | 0 => some (0, 12)
  | 1 => some (1, 12)
  | 2 => some (2, 24)
  | 3 => some (3, 220)
  | 4 => some (4, 5)
  | 5 => some (5, 5)
  | 6 => some (6, 169)
  | 7 => some (7, 221)
  | 8 => some (8, 222)
  | 9 => some (9, 223)
  | 10 => some (10, 224)
  | _ => none
theorem fld225 (f off ft : Nat) (h : fldOf225 f = some (off, ft)) : Fld Tryz.prog 225 f off ft := by
  unfold fldOf225 at h
  split at h
  · cases h; exact ⟨_, _, Tryz.underlying225, rfl, rfl, rfl⟩
  · cases h; exact ⟨_, _, Tryz.underlying225, rfl, rfl, rfl⟩
  · cases h; exact ⟨_, _, Tryz.underlying225, rfl, rfl, rfl⟩
  · cases h; exact ⟨_, _, Tryz.underlying225, rfl, rfl, rfl⟩
  · cases h; exact ⟨_, _, Tryz.underlying225, rfl, rfl, rfl⟩
  · cases h; exact ⟨_, _, Tryz.underlying225, rfl, rfl, rfl⟩
  · cases h; exact ⟨_, _, Tryz.underlying225, rfl, rfl, rfl⟩
  · cases h; exact ⟨_, _, Tryz.underlying225, rfl, rfl, rfl⟩
  · cases h; exact ⟨_, _, Tryz.underlying225, rfl, rfl, rfl⟩
  · cases h; exact ⟨_, _, Tryz.underlying225, rfl, rfl, rfl⟩
  · cases h; exact ⟨_, _, Tryz.underlying225, rfl, rfl, rfl⟩
  · cases h
def fldOf226 : Nat → Option (Nat × Nat)
  | 0 => some (0, 12)
  | 1 => some (1, 12)
  | 2 => some (2, 24)
  | 3 => some (3, 220)
  | 4 => some (4, 5)
  | 5 => some (5, 5)
  | 6 => some (6, 169)
  | 7 => some (7, 221)
  | 8 => some (8, 222)
  | 9 => some (9, 223)
  | 10 => some (10, 224)
  | _ => none
theorem fld226 (f off ft : Nat) (h : fldOf226 f = some (off, ft)) : Fld Tryz.prog 226 f off ft := by
  unfold fldOf226 at h
  split at h
  · cases h; exact ⟨_, _, Tryz.underlying226, rfl, rfl, rfl⟩
  · cases h; exact ⟨_, _, Tryz.underlying226, rfl, rfl, rfl⟩
  · cases h; exact ⟨_, _, Tryz.underlying226, rfl, rfl, rfl⟩
  · cases h; exact ⟨_, _, Tryz.underlying226, rfl, rfl, rfl⟩
  · cases h; exact ⟨_, _, Tryz.underlying226, rfl, rfl, rfl⟩
  · cases h; exact ⟨_, _, Tryz.underlying226, rfl, rfl, rfl⟩
  · cases h; exact ⟨_, _, Tryz.underlying226, rfl, rfl, rfl⟩
  · cases h; exact ⟨_, _, Tryz.underlying226, rfl, rfl, rfl⟩
  · cases h; exact ⟨_, _, Tryz.underlying226, rfl, rfl, rfl⟩
  · cases h; exact ⟨_, _, Tryz.underlying226, rfl, rfl, rfl⟩
  · cases h; exact ⟨_, _, Tryz.underlying226, rfl, rfl, rfl⟩
  · cases h
def fldOf230 : Nat → Option (Nat × Nat)
  | 0 => some (0, 9)
  | 1 => some (1, 169)
  | _ => none
theorem fld230 (f off ft : Nat) (h : fldOf230 f = some (off, ft)) : Fld Tryz.prog 230 f off ft := by
  unfold fldOf230 at h
  split at h
  · cases h; exact ⟨_, _, Tryz.underlying230, rfl, rfl, rfl⟩
  · cases h; exact ⟨_, _, Tryz.underlying230, rfl, rfl, rfl⟩
  · cases h
def fldOf231 : Nat → Option (Nat × Nat)
  | 0 => some (0, 9)
  | 1 => some (1, 169)
  | _ => none
theorem fld231 (f off ft : Nat) (h : fldOf231 f = some (off, ft)) : Fld Tryz.prog 231 f off ft := by
  unfold fldOf231 at h
  split at h
  · cases h; exact ⟨_, _, Tryz.underlying231, rfl, rfl, rfl⟩
  · cases h; exact ⟨_, _, Tryz.underlying231, rfl, rfl, rfl⟩
  · cases h
def fldOf235 : Nat → Option (Nat × Nat)
  | 0 => some (0, 223)
  | 1 => some (1, 234)
  | 2 => some (2, 234)
  | 3 => some (3, 24)
  | 4 => some (4, 24)
  | _ => none
theorem fld235 (f off ft : Nat) (h : fldOf235 f = some (off, ft)) : Fld Tryz.prog 235 f off ft := by
  unfold fldOf235 at h
  split at h
  · cases h; exact ⟨_, _, Tryz.underlying235, rfl, rfl, rfl⟩
  · cases h; exact ⟨_, _, Tryz.underlying235, rfl, rfl, rfl⟩
  · cases h; exact ⟨_, _, Tryz.underlying235, rfl, rfl, rfl⟩
  · cases h; exact ⟨_, _, Tryz.underlying235, rfl, rfl, rfl⟩
  · cases h; exact ⟨_, _, Tryz.underlying235, rfl, rfl, rfl⟩
  · cases h
def fldOf236 : Nat → Option (Nat × Nat)
  | 0 => some (0, 223)
  | 1 => some (1, 234)
  | 2 => some (2, 234)
  | 3 => some (3, 24)
  | 4 => some (4, 24)
  | _ => none
theorem fld236 (f off ft : Nat) (h : fldOf236 f = some (off, ft)) : Fld Tryz.prog 236 f off ft := by
  unfold fldOf236 at h
  split at h
  · cases h; exact ⟨_, _, Tryz.underlying236, rfl, rfl, rfl⟩
  · cases h; exact ⟨_, _, Tryz.underlying236, rfl, rfl, rfl⟩
  · cases h; exact ⟨_, _, Tryz.underlying236, rfl, rfl, rfl⟩
  · cases h; exact ⟨_, _, Tryz.underlying236, rfl, rfl, rfl⟩
  · cases h; exact ⟨_, _, Tryz.underlying236, rfl, rfl, rfl⟩
  · cases h
def fldOf239 : Nat → Option (Nat × Nat)
  | 0 => some (0, 223)
  | 1 => some (1, 224)
  | 2 => some (2, 238)
  | 3 => some (3, 238)
  | _ => none
theorem fld239 (f off ft : Nat) (h : fldOf239 f = some (off, ft)) : Fld Tryz.prog 239 f off ft := by
  unfold fldOf239 at h
  split at h
  · cases h; exact ⟨_, _, Tryz.underlying239, rfl, rfl, rfl⟩
  · cases h; exact ⟨_, _, Tryz.underlying239, rfl, rfl, rfl⟩
  · cases h; exact ⟨_, _, Tryz.underlying239, rfl, rfl, rfl⟩
  · cases h; exact ⟨_, _, Tryz.underlying239, rfl, rfl, rfl⟩
  · cases h
def fldOf240 : Nat → Option (Nat × Nat)
  | 0 => some (0, 223)
  | 1 => some (1, 224)
  | 2 => some (2, 238)
  | 3 => some (3, 238)
  | _ => none
theorem fld240 (f off ft : Nat) (h : fldOf240 f = some (off, ft)) : Fld Tryz.prog 240 f off ft := by
  unfold fldOf240 at h
  split at h
  · cases h; exact ⟨_, _, Tryz.underlying240, rfl, rfl, rfl⟩
  · cases h; exact ⟨_, _, Tryz.underlying240, rfl, rfl, rfl⟩
  · cases h; exact ⟨_, _, Tryz.underlying240, rfl, rfl, rfl⟩
  · cases h; exact ⟨_, _, Tryz.underlying240, rfl, rfl, rfl⟩
  · cases h
def fldOf (t f : Nat) : Option (Nat × Nat) :=
  match t with
  | 7 => fldOf7 f
  | 8 => fldOf8 f
  | 13 => fldOf13 f
  | 14 => fldOf14 f
  | 18 => fldOf18 f
  | 19 => fldOf19 f
  | 22 => fldOf22 f
  | 23 => fldOf23 f
  | 26 => fldOf26 f
  | 27 => fldOf27 f
  | 33 => fldOf33 f
  | 34 => fldOf34 f
  | 38 => fldOf38 f
  | 39 => fldOf39 f
  | 41 => fldOf41 f
  | 42 => fldOf42 f
  | 45 => fldOf45 f
  | 46 => fldOf46 f
  | 59 => fldOf59 f
  | 60 => fldOf60 f
  | 61 => fldOf61 f
  | 62 => fldOf62 f
  | 78 => fldOf78 f
  | 79 => fldOf79 f
  | 83 => fldOf83 f
  | 84 => fldOf84 f
  | 85 => fldOf85 f
  | 86 => fldOf86 f
  | 99 => fldOf99 f
  | 100 => fldOf100 f
  | 120 => fldOf120 f
  | 121 => fldOf121 f
  | 124 => fldOf124 f
  | 125 => fldOf125 f
  | 155 => fldOf155 f
  | 156 => fldOf156 f
  | 163 => fldOf163 f
  | 164 => fldOf164 f
  | 186 => fldOf186 f
  | 187 => fldOf187 f
  | 193 => fldOf193 f
  | 194 => fldOf194 f
  | 214 => fldOf214 f
  | 215 => fldOf215 f
  | 217 => fldOf217 f
  | 218 => fldOf218 f
  | 225 => fldOf225 f
  | 226 => fldOf226 f
  | 230 => fldOf230 f
  | 231 => fldOf231 f
  | 235 => fldOf235 f
  | 236 => fldOf236 f
  | 239 => fldOf239 f
  | 240 => fldOf240 f
  | _ => none
set_option maxHeartbeats 8000000 in
theorem fld (t f off ft : Nat) (h : fldOf t f = some (off, ft)) : Fld Tryz.prog t f off ft := by
  unfold fldOf at h
  split at h
  · exact fld7 _ _ _ h
  · exact fld8 _ _ _ h
  · exact fld13 _ _ _ h
  · exact fld14 _ _ _ h
  · exact fld18 _ _ _ h
  · exact fld19 _ _ _ h
  · exact fld22 _ _ _ h
  · exact fld23 _ _ _ h
  · exact fld26 _ _ _ h
  · exact fld27 _ _ _ h
  · exact fld33 _ _ _ h
  · exact fld34 _ _ _ h
  · exact fld38 _ _ _ h
  · exact fld39 _ _ _ h
  · exact fld41 _ _ _ h
  · exact fld42 _ _ _ h
  · exact fld45 _ _ _ h
  · exact fld46 _ _ _ h
  · exact fld59 _ _ _ h
  · exact fld60 _ _ _ h
  · exact fld61 _ _ _ h
  · exact fld62 _ _ _ h
  · exact fld78 _ _ _ h
  · exact fld79 _ _ _ h
  · exact fld83 _ _ _ h
  · exact fld84 _ _ _ h
  · exact fld85 _ _ _ h
  · exact fld86 _ _ _ h
  · exact fld99 _ _ _ h
  · exact fld100 _ _ _ h
  · exact fld120 _ _ _ h
  · exact fld121 _ _ _ h
  · exact fld124 _ _ _ h
  · exact fld125 _ _ _ h
  · exact fld155 _ _ _ h
  · exact fld156 _ _ _ h
  · exact fld163 _ _ _ h
  · exact fld164 _ _ _ h
  · exact fld186 _ _ _ h
  · exact fld187 _ _ _ h
  · exact fld193 _ _ _ h
  · exact fld194 _ _ _ h
  · exact fld214 _ _ _ h
  · exact fld215 _ _ _ h
  · exact fld217 _ _ _ h
  · exact fld218 _ _ _ h
  · exact fld225 _ _ _ h
  · exact fld226 _ _ _ h
  · exact fld230 _ _ _ h
  · exact fld231 _ _ _ h
  · exact fld235 _ _ _ h
  · exact fld236 _ _ _ h
  · exact fld239 _ _ _ h
  · exact fld240 _ _ _ h
  · cases h
/-- busbar/busbarlaw09.CheckMessage -/
theorem cal3 : Callable Tryz.prog 3 := ⟨⟨_, Tryz.func3, by kernel_rfl, by kernel_rfl⟩⟩
/-- busbar/busbarlaw09.CheckDatabase -/
theorem cal4 : Callable Tryz.prog 4 := ⟨⟨_, Tryz.func4, by kernel_rfl, by kernel_rfl⟩⟩
/-- busbar/busbarkit.LentMessage -/
theorem cal5 : Callable Tryz.prog 5 := ⟨⟨_, Tryz.func5, by kernel_rfl, by kernel_rfl⟩⟩
/-- busbar/busbarlaw09.told -/
theorem cal6 : Callable Tryz.prog 6 := ⟨⟨_, Tryz.func6, by kernel_rfl, by kernel_rfl⟩⟩
/-- busbar/check.Message -/
theorem cal7 : Callable Tryz.prog 7 := ⟨⟨_, Tryz.func7, by kernel_rfl, by kernel_rfl⟩⟩
/-- busbar/busbarref09.Message -/
theorem cal8 : Callable Tryz.prog 8 := ⟨⟨_, Tryz.func8, by kernel_rfl, by kernel_rfl⟩⟩
/-- busbar/busbarkit.KeptMessage -/
theorem cal9 : Callable Tryz.prog 9 := ⟨⟨_, Tryz.func9, by kernel_rfl, by kernel_rfl⟩⟩
/-- busbar/busbarkit.LentDatabase -/
theorem cal10 : Callable Tryz.prog 10 := ⟨⟨_, Tryz.func10, by kernel_rfl, by kernel_rfl⟩⟩
/-- busbar/check.Database -/
theorem cal11 : Callable Tryz.prog 11 := ⟨⟨_, Tryz.func11, by kernel_rfl, by kernel_rfl⟩⟩
/-- busbar/busbarref09.Database -/
theorem cal12 : Callable Tryz.prog 12 := ⟨⟨_, Tryz.func12, by kernel_rfl, by kernel_rfl⟩⟩
/-- busbar/busbarkit.KeptDatabase -/
theorem cal13 : Callable Tryz.prog 13 := ⟨⟨_, Tryz.func13, by kernel_rfl, by kernel_rfl⟩⟩
/-- busbar/busbarkit.LentSignals -/
theorem cal14 : Callable Tryz.prog 14 := ⟨⟨_, Tryz.func14, by kernel_rfl, by kernel_rfl⟩⟩
/-- busbar/busbarkit.At -/
theorem cal15 : Callable Tryz.prog 15 := ⟨⟨_, Tryz.func15, by kernel_rfl, by kernel_rfl⟩⟩
/-- busbar/check.head -/
theorem cal16 : Callable Tryz.prog 16 := ⟨⟨_, Tryz.func16, by kernel_rfl, by kernel_rfl⟩⟩
/-- busbar/check.at -/
theorem cal17 : Callable Tryz.prog 17 := ⟨⟨_, Tryz.func17, by kernel_rfl, by kernel_rfl⟩⟩
/-- busbar/check.alone -/
theorem cal18 : Callable Tryz.prog 18 := ⟨⟨_, Tryz.func18, by kernel_rfl, by kernel_rfl⟩⟩
/-- busbar/check.fits -/
theorem cal19 : Callable Tryz.prog 19 := ⟨⟨_, Tryz.func19, by kernel_rfl, by kernel_rfl⟩⟩
/-- busbar/check.apart -/
theorem cal20 : Callable Tryz.prog 20 := ⟨⟨_, Tryz.func20, by kernel_rfl, by kernel_rfl⟩⟩
/-- busbar/busbarref09.head -/
theorem cal21 : Callable Tryz.prog 21 := ⟨⟨_, Tryz.func21, by kernel_rfl, by kernel_rfl⟩⟩
/-- busbar/busbarref09.at -/
theorem cal22 : Callable Tryz.prog 22 := ⟨⟨_, Tryz.func22, by kernel_rfl, by kernel_rfl⟩⟩
/-- busbar/busbarref09.alone -/
theorem cal23 : Callable Tryz.prog 23 := ⟨⟨_, Tryz.func23, by kernel_rfl, by kernel_rfl⟩⟩
/-- busbar/busbarref09.Mux -/
theorem cal24 : Callable Tryz.prog 24 := ⟨⟨_, Tryz.func24, by kernel_rfl, by kernel_rfl⟩⟩
/-- busbar/busbarref09.Fits -/
theorem cal25 : Callable Tryz.prog 25 := ⟨⟨_, Tryz.func25, by kernel_rfl, by kernel_rfl⟩⟩
/-- busbar/busbarref09.Together -/
theorem cal26 : Callable Tryz.prog 26 := ⟨⟨_, Tryz.func26, by kernel_rfl, by kernel_rfl⟩⟩
/-- busbar/busbarref09.Share -/
theorem cal27 : Callable Tryz.prog 27 := ⟨⟨_, Tryz.func27, by kernel_rfl, by kernel_rfl⟩⟩
/-- busbar/busbarkit.KeptSignals -/
theorem cal28 : Callable Tryz.prog 28 := ⟨⟨_, Tryz.func28, by kernel_rfl, by kernel_rfl⟩⟩
/-- busbar/busbarkit.LentMessages -/
theorem cal29 : Callable Tryz.prog 29 := ⟨⟨_, Tryz.func29, by kernel_rfl, by kernel_rfl⟩⟩
/-- busbar/busbarkit.LentTables -/
theorem cal30 : Callable Tryz.prog 30 := ⟨⟨_, Tryz.func30, by kernel_rfl, by kernel_rfl⟩⟩
/-- busbar/busbarkit.LentStations -/
theorem cal31 : Callable Tryz.prog 31 := ⟨⟨_, Tryz.func31, by kernel_rfl, by kernel_rfl⟩⟩
/-- busbar/check.text -/
theorem cal32 : Callable Tryz.prog 32 := ⟨⟨_, Tryz.func32, by kernel_rfl, by kernel_rfl⟩⟩
/-- busbar/check.list -/
theorem cal33 : Callable Tryz.prog 33 := ⟨⟨_, Tryz.func33, by kernel_rfl, by kernel_rfl⟩⟩
/-- busbar/check.word -/
theorem cal34 : Callable Tryz.prog 34 := ⟨⟨_, Tryz.func34, by kernel_rfl, by kernel_rfl⟩⟩
/-- (*busbar/check.book).message -/
theorem cal35 : Callable Tryz.prog 35 := ⟨⟨_, Tryz.func35, by kernel_rfl, by kernel_rfl⟩⟩
/-- busbar/check.rows -/
theorem cal36 : Callable Tryz.prog 36 := ⟨⟨_, Tryz.func36, by kernel_rfl, by kernel_rfl⟩⟩
/-- busbar/busbarref03.May -/
theorem cal37 : Callable Tryz.prog 37 := ⟨⟨_, Tryz.func37, by kernel_rfl, by kernel_rfl⟩⟩
/-- busbar/busbarref09.stations -/
theorem cal38 : Callable Tryz.prog 38 := ⟨⟨_, Tryz.func38, by kernel_rfl, by kernel_rfl⟩⟩
/-- busbar/busbarref09.message -/
theorem cal39 : Callable Tryz.prog 39 := ⟨⟨_, Tryz.func39, by kernel_rfl, by kernel_rfl⟩⟩
/-- busbar/busbarref09.table -/
theorem cal40 : Callable Tryz.prog 40 := ⟨⟨_, Tryz.func40, by kernel_rfl, by kernel_rfl⟩⟩
/-- busbar/busbarkit.KeptMessages -/
theorem cal41 : Callable Tryz.prog 41 := ⟨⟨_, Tryz.func41, by kernel_rfl, by kernel_rfl⟩⟩
/-- busbar/busbarkit.KeptTables -/
theorem cal42 : Callable Tryz.prog 42 := ⟨⟨_, Tryz.func42, by kernel_rfl, by kernel_rfl⟩⟩
/-- busbar/busbarkit.KeptStations -/
theorem cal43 : Callable Tryz.prog 43 := ⟨⟨_, Tryz.func43, by kernel_rfl, by kernel_rfl⟩⟩
/-- busbar/busbarkit.LentSignal -/
theorem cal44 : Callable Tryz.prog 44 := ⟨⟨_, Tryz.func44, by kernel_rfl, by kernel_rfl⟩⟩
/-- busbar/busbarkit.Place -/
theorem cal45 : Callable Tryz.prog 45 := ⟨⟨_, Tryz.func45, by kernel_rfl, by kernel_rfl⟩⟩
/-- busbar/busbarkit.Num -/
theorem cal46 : Callable Tryz.prog 46 := ⟨⟨_, Tryz.func46, by kernel_rfl, by kernel_rfl⟩⟩
/-- busbar/check.where -/
theorem cal47 : Callable Tryz.prog 47 := ⟨⟨_, Tryz.func47, by kernel_rfl, by kernel_rfl⟩⟩
/-- busbar/check.ranged -/
theorem cal48 : Callable Tryz.prog 48 := ⟨⟨_, Tryz.func48, by kernel_rfl, by kernel_rfl⟩⟩
/-- busbar/bits.Union -/
theorem cal49 : Callable Tryz.prog 49 := ⟨⟨_, Tryz.func49, by kernel_rfl, by kernel_rfl⟩⟩
/-- busbar/bits.Meet -/
theorem cal50 : Callable Tryz.prog 50 := ⟨⟨_, Tryz.func50, by kernel_rfl, by kernel_rfl⟩⟩
/-- busbar/busbarref09.Word -/
theorem cal51 : Callable Tryz.prog 51 := ⟨⟨_, Tryz.func51, by kernel_rfl, by kernel_rfl⟩⟩
/-- busbar/busbarref09.bits -/
theorem cal52 : Callable Tryz.prog 52 := ⟨⟨_, Tryz.func52, by kernel_rfl, by kernel_rfl⟩⟩
/-- busbar/busbarref02.Right -/
theorem cal53 : Callable Tryz.prog 53 := ⟨⟨_, Tryz.func53, by kernel_rfl, by kernel_rfl⟩⟩
/-- busbar/busbarref02.Above -/
theorem cal54 : Callable Tryz.prog 54 := ⟨⟨_, Tryz.func54, by kernel_rfl, by kernel_rfl⟩⟩
/-- busbar/busbarref09.names -/
theorem cal55 : Callable Tryz.prog 55 := ⟨⟨_, Tryz.func55, by kernel_rfl, by kernel_rfl⟩⟩
/-- busbar/busbarref08.Bits -/
theorem cal56 : Callable Tryz.prog 56 := ⟨⟨_, Tryz.func56, by kernel_rfl, by kernel_rfl⟩⟩
/-- busbar/busbarkit.KeptSignal -/
theorem cal57 : Callable Tryz.prog 57 := ⟨⟨_, Tryz.func57, by kernel_rfl, by kernel_rfl⟩⟩
/-- busbar/busbarkit.LentTable -/
theorem cal58 : Callable Tryz.prog 58 := ⟨⟨_, Tryz.func58, by kernel_rfl, by kernel_rfl⟩⟩
/-- busbar/busbarkit.LentTexts -/
theorem cal59 : Callable Tryz.prog 59 := ⟨⟨_, Tryz.func59, by kernel_rfl, by kernel_rfl⟩⟩
/-- unicode/utf8.ValidString -/
theorem cal60 : Callable Tryz.prog 60 := ⟨⟨_, Tryz.func60, by kernel_rfl, by kernel_rfl⟩⟩
/-- strings.ContainsFunc -/
theorem cal61 : Callable Tryz.prog 61 := ⟨⟨_, Tryz.func61, by kernel_rfl, by kernel_rfl⟩⟩
/-- busbar/check.text$1 -/
theorem cal62 : Callable Tryz.prog 62 := ⟨⟨_, Tryz.func62, by kernel_rfl, by kernel_rfl⟩⟩
/-- busbar/chars.Name -/
theorem cal63 : Callable Tryz.prog 63 := ⟨⟨_, Tryz.func63, by kernel_rfl, by kernel_rfl⟩⟩
/-- busbar/busbarref03.Units -/
theorem cal64 : Callable Tryz.prog 64 := ⟨⟨_, Tryz.func64, by kernel_rfl, by kernel_rfl⟩⟩
/-- busbar/busbarref03.Control -/
theorem cal65 : Callable Tryz.prog 65 := ⟨⟨_, Tryz.func65, by kernel_rfl, by kernel_rfl⟩⟩
/-- busbar/busbarref09.known -/
theorem cal66 : Callable Tryz.prog 66 := ⟨⟨_, Tryz.func66, by kernel_rfl, by kernel_rfl⟩⟩
/-- busbar/busbarref09.Of -/
theorem cal67 : Callable Tryz.prog 67 := ⟨⟨_, Tryz.func67, by kernel_rfl, by kernel_rfl⟩⟩
/-- busbar/busbarref09.rows -/
theorem cal68 : Callable Tryz.prog 68 := ⟨⟨_, Tryz.func68, by kernel_rfl, by kernel_rfl⟩⟩
/-- busbar/busbarkit.KeptTable -/
theorem cal69 : Callable Tryz.prog 69 := ⟨⟨_, Tryz.func69, by kernel_rfl, by kernel_rfl⟩⟩
/-- busbar/busbarkit.KeptTexts -/
theorem cal70 : Callable Tryz.prog 70 := ⟨⟨_, Tryz.func70, by kernel_rfl, by kernel_rfl⟩⟩
/-- errors.As -/
theorem cal71 : Callable Tryz.prog 71 := ⟨⟨_, Tryz.func71, by kernel_rfl, by kernel_rfl⟩⟩
/-- errors.Is -/
theorem cal72 : Callable Tryz.prog 72 := ⟨⟨_, Tryz.func72, by kernel_rfl, by kernel_rfl⟩⟩
/-- busbar/place.Bits -/
theorem cal73 : Callable Tryz.prog 73 := ⟨⟨_, Tryz.func73, by kernel_rfl, by kernel_rfl⟩⟩
/-- busbar/check.number -/
theorem cal74 : Callable Tryz.prog 74 := ⟨⟨_, Tryz.func74, by kernel_rfl, by kernel_rfl⟩⟩
/-- busbar/bits.SetOf -/
theorem cal75 : Callable Tryz.prog 75 := ⟨⟨_, Tryz.func75, by kernel_rfl, by kernel_rfl⟩⟩
/-- busbar/rat.Right -/
theorem cal76 : Callable Tryz.prog 76 := ⟨⟨_, Tryz.func76, by kernel_rfl, by kernel_rfl⟩⟩
/-- busbar/rat.Cmp -/
theorem cal77 : Callable Tryz.prog 77 := ⟨⟨_, Tryz.func77, by kernel_rfl, by kernel_rfl⟩⟩
/-- busbar/busbarref03.Name -/
theorem cal78 : Callable Tryz.prog 78 := ⟨⟨_, Tryz.func78, by kernel_rfl, by kernel_rfl⟩⟩
/-- busbar/busbarref02.common -/
theorem cal79 : Callable Tryz.prog 79 := ⟨⟨_, Tryz.func79, by kernel_rfl, by kernel_rfl⟩⟩
/-- busbar/busbarref02.from -/
theorem cal80 : Callable Tryz.prog 80 := ⟨⟨_, Tryz.func80, by kernel_rfl, by kernel_rfl⟩⟩
/-- busbar/busbarref02.size -/
theorem cal81 : Callable Tryz.prog 81 := ⟨⟨_, Tryz.func81, by kernel_rfl, by kernel_rfl⟩⟩
/-- busbar/busbarref02.word -/
theorem cal82 : Callable Tryz.prog 82 := ⟨⟨_, Tryz.func82, by kernel_rfl, by kernel_rfl⟩⟩
/-- busbar/busbarref02.Cmp -/
theorem cal83 : Callable Tryz.prog 83 := ⟨⟨_, Tryz.func83, by kernel_rfl, by kernel_rfl⟩⟩
/-- busbar/busbarref08.Next -/
theorem cal84 : Callable Tryz.prog 84 := ⟨⟨_, Tryz.func84, by kernel_rfl, by kernel_rfl⟩⟩
/-- busbar/busbarkit.LentRows -/
theorem cal85 : Callable Tryz.prog 85 := ⟨⟨_, Tryz.func85, by kernel_rfl, by kernel_rfl⟩⟩
/-- busbar/busbarkit.FullTexts -/
theorem cal86 : Callable Tryz.prog 86 := ⟨⟨_, Tryz.func86, by kernel_rfl, by kernel_rfl⟩⟩
/-- unicode/utf8.word[string] -/
theorem cal87 : Callable Tryz.prog 87 := ⟨⟨_, Tryz.func87, by kernel_rfl, by kernel_rfl⟩⟩
/-- strings.IndexFunc -/
theorem cal88 : Callable Tryz.prog 88 := ⟨⟨_, Tryz.func88, by kernel_rfl, by kernel_rfl⟩⟩
/-- busbar/chars.letter -/
theorem cal89 : Callable Tryz.prog 89 := ⟨⟨_, Tryz.func89, by kernel_rfl, by kernel_rfl⟩⟩
/-- busbar/busbarref09.Has -/
theorem cal90 : Callable Tryz.prog 90 := ⟨⟨_, Tryz.func90, by kernel_rfl, by kernel_rfl⟩⟩
/-- busbar/busbarkit.KeptRows -/
theorem cal91 : Callable Tryz.prog 91 := ⟨⟨_, Tryz.func91, by kernel_rfl, by kernel_rfl⟩⟩
/-- busbar/busbarkit.KeptFullTexts -/
theorem cal92 : Callable Tryz.prog 92 := ⟨⟨_, Tryz.func92, by kernel_rfl, by kernel_rfl⟩⟩
/-- errors.as -/
theorem cal96 : Callable Tryz.prog 96 := ⟨⟨_, Tryz.func96, by kernel_rfl, by kernel_rfl⟩⟩
/-- errors.is -/
theorem cal98 : Callable Tryz.prog 98 := ⟨⟨_, Tryz.func98, by kernel_rfl, by kernel_rfl⟩⟩
/-- busbar/place.counter -/
theorem cal99 : Callable Tryz.prog 99 := ⟨⟨_, Tryz.func99, by kernel_rfl, by kernel_rfl⟩⟩
/-- slices.Reverse[[]int,int] -/
theorem cal100 : Callable Tryz.prog 100 := ⟨⟨_, Tryz.func100, by kernel_rfl, by kernel_rfl⟩⟩
/-- busbar/rat.gcd -/
theorem cal101 : Callable Tryz.prog 101 := ⟨⟨_, Tryz.func101, by kernel_rfl, by kernel_rfl⟩⟩
/-- busbar/rat.size -/
theorem cal102 : Callable Tryz.prog 102 := ⟨⟨_, Tryz.func102, by kernel_rfl, by kernel_rfl⟩⟩
/-- math/bits.Mul64 -/
theorem cal103 : Callable Tryz.prog 103 := ⟨⟨_, Tryz.func103, by kernel_rfl, by kernel_rfl⟩⟩
/-- busbar/busbarref02.divided -/
theorem cal104 : Callable Tryz.prog 104 := ⟨⟨_, Tryz.func104, by kernel_rfl, by kernel_rfl⟩⟩
/-- busbar/busbarref02.trim -/
theorem cal105 : Callable Tryz.prog 105 := ⟨⟨_, Tryz.func105, by kernel_rfl, by kernel_rfl⟩⟩
/-- busbar/busbarref02.sum -/
theorem cal106 : Callable Tryz.prog 106 := ⟨⟨_, Tryz.func106, by kernel_rfl, by kernel_rfl⟩⟩
/-- busbar/busbarref02.Of -/
theorem cal107 : Callable Tryz.prog 107 := ⟨⟨_, Tryz.func107, by kernel_rfl, by kernel_rfl⟩⟩
/-- busbar/busbarref02.opposite -/
theorem cal108 : Callable Tryz.prog 108 := ⟨⟨_, Tryz.func108, by kernel_rfl, by kernel_rfl⟩⟩
/-- busbar/busbarkit.FullRows -/
theorem cal109 : Callable Tryz.prog 109 := ⟨⟨_, Tryz.func109, by kernel_rfl, by kernel_rfl⟩⟩
/-- busbar/busbarkit.markTexts -/
theorem cal110 : Callable Tryz.prog 110 := ⟨⟨_, Tryz.func110, by kernel_rfl, by kernel_rfl⟩⟩
/-- strings.indexFunc -/
theorem cal111 : Callable Tryz.prog 111 := ⟨⟨_, Tryz.func111, by kernel_rfl, by kernel_rfl⟩⟩
/-- busbar/busbarkit.KeptFullRows -/
theorem cal112 : Callable Tryz.prog 112 := ⟨⟨_, Tryz.func112, by kernel_rfl, by kernel_rfl⟩⟩
/-- busbar/place.counter$1 -/
theorem cal115 : Callable Tryz.prog 115 := ⟨⟨_, Tryz.func115, by kernel_rfl, by kernel_rfl⟩⟩
/-- busbar/busbarref02.plus -/
theorem cal116 : Callable Tryz.prog 116 := ⟨⟨_, Tryz.func116, by kernel_rfl, by kernel_rfl⟩⟩
/-- busbar/busbarref02.held -/
theorem cal117 : Callable Tryz.prog 117 := ⟨⟨_, Tryz.func117, by kernel_rfl, by kernel_rfl⟩⟩
/-- busbar/busbarref02.less -/
theorem cal118 : Callable Tryz.prog 118 := ⟨⟨_, Tryz.func118, by kernel_rfl, by kernel_rfl⟩⟩
/-- busbar/busbarref02.times -/
theorem cal119 : Callable Tryz.prog 119 := ⟨⟨_, Tryz.func119, by kernel_rfl, by kernel_rfl⟩⟩
/-- busbar/busbarkit.markRows -/
theorem cal120 : Callable Tryz.prog 120 := ⟨⟨_, Tryz.func120, by kernel_rfl, by kernel_rfl⟩⟩
/-- busbar/busbarkit.MarkText -/
theorem cal121 : Callable Tryz.prog 121 := ⟨⟨_, Tryz.func121, by kernel_rfl, by kernel_rfl⟩⟩
/-- busbar/busbarref02.digit -/
theorem cal122 : Callable Tryz.prog 122 := ⟨⟨_, Tryz.func122, by kernel_rfl, by kernel_rfl⟩⟩
/-- (busbar/api.Fault).Unwrap -/
theorem cal146 : Callable Tryz.prog 146 := ⟨⟨_, Tryz.func146, by kernel_rfl, by kernel_rfl⟩⟩
end Go.Proofs.YtjomihhpglojpaaGreatDoor
end
