/- Facts of the seat's tables: each type's size and zero, each function's call. Written by my own gen.py off the translation's rows. -/
import Derived.Test.YtcajdlcijepemaaDoorProg
import Derived.Test.YtcajdlcijepemaaDoorReg
import Derived.KernelRfl
namespace Go.Proofs.YtcajdlcijepemaaDoor
theorem mixed : Tryd.prog.follows .mixedOrders = true := by kernel_rfl
theorem isz0 : (Tryd.prog.info? 0).map (·.size) = some 1 := by kernel_rfl
theorem inf0 : (Tryd.prog.info? 0).map (fun i => (i.zero, i.size, i.bytes)) = some (some (.tuple #[]), 1, 0) := by kernel_rfl
theorem isz1 : (Tryd.prog.info? 1).map (·.size) = some 1 := by kernel_rfl
theorem inf1 : (Tryd.prog.info? 1).map (fun i => (i.zero, i.size, i.bytes)) = some (some (.nilFunc), 1, 8) := by kernel_rfl
theorem isz2 : (Tryd.prog.info? 2).map (·.size) = some 1 := by kernel_rfl
theorem inf2 : (Tryd.prog.info? 2).map (fun i => (i.zero, i.size, i.bytes)) = some (some (.int .i64 0), 1, 8) := by kernel_rfl
theorem isz3 : (Tryd.prog.info? 3).map (·.size) = some 1 := by kernel_rfl
theorem inf3 : (Tryd.prog.info? 3).map (fun i => (i.zero, i.size, i.bytes)) = some (some (.int .i64 0), 1, 8) := by kernel_rfl
theorem isz4 : (Tryd.prog.info? 4).map (·.size) = some 1 := by kernel_rfl
theorem inf4 : (Tryd.prog.info? 4).map (fun i => (i.zero, i.size, i.bytes)) = some (some (.bool false), 1, 1) := by kernel_rfl
theorem isz5 : (Tryd.prog.info? 5).map (·.size) = some 1 := by kernel_rfl
theorem inf5 : (Tryd.prog.info? 5).map (fun i => (i.zero, i.size, i.bytes)) = some (some (.int .u8 0), 1, 1) := by kernel_rfl
theorem isz6 : (Tryd.prog.info? 6).map (·.size) = some 1 := by kernel_rfl
theorem inf6 : (Tryd.prog.info? 6).map (fun i => (i.zero, i.size, i.bytes)) = some (some (.int .u8 0), 1, 1) := by kernel_rfl
theorem isz7 : (Tryd.prog.info? 7).map (·.size) = some 4 := by kernel_rfl
theorem inf7 : (Tryd.prog.info? 7).map (fun i => (i.zero, i.size, i.bytes)) = some (some (.agg #[.int .i64 0, .int .i64 0, .bool false, .int .u8 0]), 4, 24) := by kernel_rfl
theorem isz8 : (Tryd.prog.info? 8).map (·.size) = some 4 := by kernel_rfl
theorem inf8 : (Tryd.prog.info? 8).map (fun i => (i.zero, i.size, i.bytes)) = some (some (.agg #[.int .i64 0, .int .i64 0, .bool false, .int .u8 0]), 4, 24) := by kernel_rfl
theorem isz9 : (Tryd.prog.info? 9).map (·.size) = some 1 := by kernel_rfl
theorem inf9 : (Tryd.prog.info? 9).map (fun i => (i.zero, i.size, i.bytes)) = some (some (.string ⟨#[]⟩), 1, 16) := by kernel_rfl
theorem isz10 : (Tryd.prog.info? 10).map (·.size) = some 1 := by kernel_rfl
theorem inf10 : (Tryd.prog.info? 10).map (fun i => (i.zero, i.size, i.bytes)) = some (some (.string ⟨#[]⟩), 1, 16) := by kernel_rfl
theorem isz11 : (Tryd.prog.info? 11).map (·.size) = some 1 := by kernel_rfl
theorem inf11 : (Tryd.prog.info? 11).map (fun i => (i.zero, i.size, i.bytes)) = some (some (.string ⟨#[]⟩), 1, 16) := by kernel_rfl
theorem isz12 : (Tryd.prog.info? 12).map (·.size) = some 1 := by kernel_rfl
theorem inf12 : (Tryd.prog.info? 12).map (fun i => (i.zero, i.size, i.bytes)) = some (some (.int .u64 0), 1, 8) := by kernel_rfl
theorem isz13 : (Tryd.prog.info? 13).map (·.size) = some 2 := by kernel_rfl
theorem inf13 : (Tryd.prog.info? 13).map (fun i => (i.zero, i.size, i.bytes)) = some (some (.agg #[.string ⟨#[]⟩, .int .u64 0]), 2, 24) := by kernel_rfl
theorem isz14 : (Tryd.prog.info? 14).map (·.size) = some 2 := by kernel_rfl
theorem inf14 : (Tryd.prog.info? 14).map (fun i => (i.zero, i.size, i.bytes)) = some (some (.agg #[.string ⟨#[]⟩, .int .u64 0]), 2, 24) := by kernel_rfl
theorem isz15 : (Tryd.prog.info? 15).map (·.size) = some 1 := by kernel_rfl
theorem inf15 : (Tryd.prog.info? 15).map (fun i => (i.zero, i.size, i.bytes)) = some (some (.pointer none), 1, 8) := by kernel_rfl
theorem isz16 : (Tryd.prog.info? 16).map (·.size) = some 1 := by kernel_rfl
theorem inf16 : (Tryd.prog.info? 16).map (fun i => (i.zero, i.size, i.bytes)) = some (some (.pointer none), 1, 8) := by kernel_rfl
theorem isz17 : (Tryd.prog.info? 17).map (·.size) = some 1 := by kernel_rfl
theorem inf17 : (Tryd.prog.info? 17).map (fun i => (i.zero, i.size, i.bytes)) = some (some (.pointer none), 1, 8) := by kernel_rfl
theorem isz18 : (Tryd.prog.info? 18).map (·.size) = some 1 := by kernel_rfl
theorem inf18 : (Tryd.prog.info? 18).map (fun i => (i.zero, i.size, i.bytes)) = some (some (.agg #[.pointer none]), 1, 8) := by kernel_rfl
theorem isz19 : (Tryd.prog.info? 19).map (·.size) = some 1 := by kernel_rfl
theorem inf19 : (Tryd.prog.info? 19).map (fun i => (i.zero, i.size, i.bytes)) = some (some (.agg #[.pointer none]), 1, 8) := by kernel_rfl
theorem isz20 : (Tryd.prog.info? 20).map (·.size) = some 1 := by kernel_rfl
theorem inf20 : (Tryd.prog.info? 20).map (fun i => (i.zero, i.size, i.bytes)) = some (some (.nilIface), 1, 16) := by kernel_rfl
theorem isz21 : (Tryd.prog.info? 21).map (·.size) = some 1 := by kernel_rfl
theorem inf21 : (Tryd.prog.info? 21).map (fun i => (i.zero, i.size, i.bytes)) = some (some (.int .i32 0), 1, 4) := by kernel_rfl
theorem isz22 : (Tryd.prog.info? 22).map (·.size) = some 1 := by kernel_rfl
theorem inf22 : (Tryd.prog.info? 22).map (fun i => (i.zero, i.size, i.bytes)) = some (some (.slice none 0 0), 1, 24) := by kernel_rfl
theorem isz23 : (Tryd.prog.info? 23).map (·.size) = some 1 := by kernel_rfl
theorem inf23 : (Tryd.prog.info? 23).map (fun i => (i.zero, i.size, i.bytes)) = some (some (.tuple #[.slice none 0 0, .int .i64 0, .int .i64 0]), 1, 0) := by kernel_rfl
theorem isz24 : (Tryd.prog.info? 24).map (·.size) = some 1 := by kernel_rfl
theorem inf24 : (Tryd.prog.info? 24).map (fun i => (i.zero, i.size, i.bytes)) = some (some (.nilFunc), 1, 8) := by kernel_rfl
theorem isz25 : (Tryd.prog.info? 25).map (·.size) = some 1 := by kernel_rfl
theorem inf25 : (Tryd.prog.info? 25).map (fun i => (i.zero, i.size, i.bytes)) = some (some (.nilFunc), 1, 8) := by kernel_rfl
theorem isz26 : (Tryd.prog.info? 26).map (·.size) = some 1 := by kernel_rfl
theorem inf26 : (Tryd.prog.info? 26).map (fun i => (i.zero, i.size, i.bytes)) = some (some (.nilIface), 1, 16) := by kernel_rfl
theorem isz27 : (Tryd.prog.info? 27).map (·.size) = some 1 := by kernel_rfl
theorem inf27 : (Tryd.prog.info? 27).map (fun i => (i.zero, i.size, i.bytes)) = some (some (.nilIface), 1, 16) := by kernel_rfl
theorem isz28 : (Tryd.prog.info? 28).map (·.size) = some 1 := by kernel_rfl
theorem inf28 : (Tryd.prog.info? 28).map (fun i => (i.zero, i.size, i.bytes)) = some (some (.tuple #[.slice none 0 0, .nilIface]), 1, 0) := by kernel_rfl
theorem isz29 : (Tryd.prog.info? 29).map (·.size) = some 1 := by kernel_rfl
theorem inf29 : (Tryd.prog.info? 29).map (fun i => (i.zero, i.size, i.bytes)) = some (some (.nilFunc), 1, 8) := by kernel_rfl
theorem isz30 : (Tryd.prog.info? 30).map (·.size) = some 1 := by kernel_rfl
theorem inf30 : (Tryd.prog.info? 30).map (fun i => (i.zero, i.size, i.bytes)) = some (some (.nilFunc), 1, 8) := by kernel_rfl
theorem isz31 : (Tryd.prog.info? 31).map (·.size) = some 1 := by kernel_rfl
theorem inf31 : (Tryd.prog.info? 31).map (fun i => (i.zero, i.size, i.bytes)) = some (some (.nilFunc), 1, 8) := by kernel_rfl
theorem isz32 : (Tryd.prog.info? 32).map (·.size) = some 1 := by kernel_rfl
theorem inf32 : (Tryd.prog.info? 32).map (fun i => (i.zero, i.size, i.bytes)) = some (some (.nilFunc), 1, 8) := by kernel_rfl
theorem isz33 : (Tryd.prog.info? 33).map (·.size) = some 1 := by kernel_rfl
theorem inf33 : (Tryd.prog.info? 33).map (fun i => (i.zero, i.size, i.bytes)) = some (some (.slice none 0 0), 1, 24) := by kernel_rfl
theorem isz34 : (Tryd.prog.info? 34).map (·.size) = some 1 := by kernel_rfl
theorem inf34 : (Tryd.prog.info? 34).map (fun i => (i.zero, i.size, i.bytes)) = some (some (.nilFunc), 1, 8) := by kernel_rfl
theorem isz35 : (Tryd.prog.info? 35).map (·.size) = some 1 := by kernel_rfl
theorem inf35 : (Tryd.prog.info? 35).map (fun i => (i.zero, i.size, i.bytes)) = some (some (.slice none 0 0), 1, 24) := by kernel_rfl
theorem isz36 : (Tryd.prog.info? 36).map (·.size) = some 1 := by kernel_rfl
theorem inf36 : (Tryd.prog.info? 36).map (fun i => (i.zero, i.size, i.bytes)) = some (some (.nilFunc), 1, 8) := by kernel_rfl
theorem isz37 : (Tryd.prog.info? 37).map (·.size) = some 1 := by kernel_rfl
theorem inf37 : (Tryd.prog.info? 37).map (fun i => (i.zero, i.size, i.bytes)) = some (some (.nilFunc), 1, 8) := by kernel_rfl
theorem isz38 : (Tryd.prog.info? 38).map (·.size) = some 2 := by kernel_rfl
theorem inf38 : (Tryd.prog.info? 38).map (fun i => (i.zero, i.size, i.bytes)) = some (some (.agg #[.bool false, .int .i64 0]), 2, 16) := by kernel_rfl
theorem isz39 : (Tryd.prog.info? 39).map (·.size) = some 2 := by kernel_rfl
theorem inf39 : (Tryd.prog.info? 39).map (fun i => (i.zero, i.size, i.bytes)) = some (some (.agg #[.bool false, .int .i64 0]), 2, 16) := by kernel_rfl
theorem isz40 : (Tryd.prog.info? 40).map (·.size) = some 1 := by kernel_rfl
theorem inf40 : (Tryd.prog.info? 40).map (fun i => (i.zero, i.size, i.bytes)) = some (some (.nilFunc), 1, 8) := by kernel_rfl
theorem isz41 : (Tryd.prog.info? 41).map (·.size) = some 1 := by kernel_rfl
theorem inf41 : (Tryd.prog.info? 41).map (fun i => (i.zero, i.size, i.bytes)) = some (some (.int .i64 0), 1, 8) := by kernel_rfl
theorem isz42 : (Tryd.prog.info? 42).map (·.size) = some 3 := by kernel_rfl
theorem inf42 : (Tryd.prog.info? 42).map (fun i => (i.zero, i.size, i.bytes)) = some (some (.agg #[.int .i64 0, .int .i64 0, .int .i64 0]), 3, 24) := by kernel_rfl
theorem isz43 : (Tryd.prog.info? 43).map (·.size) = some 3 := by kernel_rfl
theorem inf43 : (Tryd.prog.info? 43).map (fun i => (i.zero, i.size, i.bytes)) = some (some (.agg #[.int .i64 0, .int .i64 0, .int .i64 0]), 3, 24) := by kernel_rfl
theorem isz44 : (Tryd.prog.info? 44).map (·.size) = some 1 := by kernel_rfl
theorem inf44 : (Tryd.prog.info? 44).map (fun i => (i.zero, i.size, i.bytes)) = some (some (.nilFunc), 1, 8) := by kernel_rfl
theorem isz45 : (Tryd.prog.info? 45).map (·.size) = some 1 := by kernel_rfl
theorem inf45 : (Tryd.prog.info? 45).map (fun i => (i.zero, i.size, i.bytes)) = some (some (.pointer none), 1, 8) := by kernel_rfl
theorem isz46 : (Tryd.prog.info? 46).map (·.size) = some 1 := by kernel_rfl
theorem inf46 : (Tryd.prog.info? 46).map (fun i => (i.zero, i.size, i.bytes)) = some (some (.tuple #[.int .i64 0, .int .i64 0, .bool false]), 1, 0) := by kernel_rfl
theorem isz47 : (Tryd.prog.info? 47).map (·.size) = some 1 := by kernel_rfl
theorem inf47 : (Tryd.prog.info? 47).map (fun i => (i.zero, i.size, i.bytes)) = some (some (.nilFunc), 1, 8) := by kernel_rfl
theorem isz48 : (Tryd.prog.info? 48).map (·.size) = some 1 := by kernel_rfl
theorem inf48 : (Tryd.prog.info? 48).map (fun i => (i.zero, i.size, i.bytes)) = some (some (.nilFunc), 1, 8) := by kernel_rfl
theorem isz49 : (Tryd.prog.info? 49).map (·.size) = some 1 := by kernel_rfl
theorem inf49 : (Tryd.prog.info? 49).map (fun i => (i.zero, i.size, i.bytes)) = some (some (.nilFunc), 1, 8) := by kernel_rfl
theorem isz50 : (Tryd.prog.info? 50).map (·.size) = some 1 := by kernel_rfl
theorem inf50 : (Tryd.prog.info? 50).map (fun i => (i.zero, i.size, i.bytes)) = some (some (.pointer none), 1, 8) := by kernel_rfl
theorem isz51 : (Tryd.prog.info? 51).map (·.size) = some 1 := by kernel_rfl
theorem inf51 : (Tryd.prog.info? 51).map (fun i => (i.zero, i.size, i.bytes)) = some (some (.nilFunc), 1, 8) := by kernel_rfl
theorem isz52 : (Tryd.prog.info? 52).map (·.size) = some 1 := by kernel_rfl
theorem inf52 : (Tryd.prog.info? 52).map (fun i => (i.zero, i.size, i.bytes)) = some (some (.pointer none), 1, 8) := by kernel_rfl
theorem isz53 : (Tryd.prog.info? 53).map (·.size) = some 1 := by kernel_rfl
theorem inf53 : (Tryd.prog.info? 53).map (fun i => (i.zero, i.size, i.bytes)) = some (some (.int .u64 0), 1, 8) := by kernel_rfl
theorem isz54 : (Tryd.prog.info? 54).map (·.size) = some 3 := by kernel_rfl
theorem inf54 : (Tryd.prog.info? 54).map (fun i => (i.zero, i.size, i.bytes)) = some (some (.agg #[.pointer none, .pointer none, .int .u64 0]), 3, 24) := by kernel_rfl
theorem isz55 : (Tryd.prog.info? 55).map (·.size) = some 3 := by kernel_rfl
theorem inf55 : (Tryd.prog.info? 55).map (fun i => (i.zero, i.size, i.bytes)) = some (some (.agg #[.pointer none, .pointer none, .int .u64 0]), 3, 24) := by kernel_rfl
theorem isz56 : (Tryd.prog.info? 56).map (·.size) = some 1 := by kernel_rfl
theorem inf56 : (Tryd.prog.info? 56).map (fun i => (i.zero, i.size, i.bytes)) = some (some (.nilFunc), 1, 8) := by kernel_rfl
theorem isz57 : (Tryd.prog.info? 57).map (·.size) = some 1 := by kernel_rfl
theorem inf57 : (Tryd.prog.info? 57).map (fun i => (i.zero, i.size, i.bytes)) = some (some (.nilIface), 1, 16) := by kernel_rfl
theorem isz58 : (Tryd.prog.info? 58).map (·.size) = some 1 := by kernel_rfl
theorem inf58 : (Tryd.prog.info? 58).map (fun i => (i.zero, i.size, i.bytes)) = some (some (.nilIface), 1, 16) := by kernel_rfl
theorem isz59 : (Tryd.prog.info? 59).map (·.size) = some 1 := by kernel_rfl
theorem inf59 : (Tryd.prog.info? 59).map (fun i => (i.zero, i.size, i.bytes)) = some (some (.nilFunc), 1, 8) := by kernel_rfl
theorem isz60 : (Tryd.prog.info? 60).map (·.size) = some 1 := by kernel_rfl
theorem inf60 : (Tryd.prog.info? 60).map (fun i => (i.zero, i.size, i.bytes)) = some (some (.int .u8 0), 1, 1) := by kernel_rfl
theorem isz61 : (Tryd.prog.info? 61).map (·.size) = some 1 := by kernel_rfl
theorem inf61 : (Tryd.prog.info? 61).map (fun i => (i.zero, i.size, i.bytes)) = some (some (.nilFunc), 1, 8) := by kernel_rfl
theorem isz62 : (Tryd.prog.info? 62).map (·.size) = some 1 := by kernel_rfl
theorem inf62 : (Tryd.prog.info? 62).map (fun i => (i.zero, i.size, i.bytes)) = some (some (.nilFunc), 1, 8) := by kernel_rfl
theorem isz63 : (Tryd.prog.info? 63).map (·.size) = some 1 := by kernel_rfl
theorem inf63 : (Tryd.prog.info? 63).map (fun i => (i.zero, i.size, i.bytes)) = some (some (.nilFunc), 1, 8) := by kernel_rfl
theorem isz64 : (Tryd.prog.info? 64).map (·.size) = some 1 := by kernel_rfl
theorem inf64 : (Tryd.prog.info? 64).map (fun i => (i.zero, i.size, i.bytes)) = some (some (.nilFunc), 1, 8) := by kernel_rfl
theorem isz65 : (Tryd.prog.info? 65).map (·.size) = some 1 := by kernel_rfl
theorem inf65 : (Tryd.prog.info? 65).map (fun i => (i.zero, i.size, i.bytes)) = some (some (.nilFunc), 1, 8) := by kernel_rfl
theorem isz66 : (Tryd.prog.info? 66).map (·.size) = some 1 := by kernel_rfl
theorem inf66 : (Tryd.prog.info? 66).map (fun i => (i.zero, i.size, i.bytes)) = some (some (.agg #[.pointer none]), 1, 8) := by kernel_rfl
theorem isz67 : (Tryd.prog.info? 67).map (·.size) = some 1 := by kernel_rfl
theorem inf67 : (Tryd.prog.info? 67).map (fun i => (i.zero, i.size, i.bytes)) = some (some (.agg #[.pointer none]), 1, 8) := by kernel_rfl
theorem isz68 : (Tryd.prog.info? 68).map (·.size) = some 1 := by kernel_rfl
theorem inf68 : (Tryd.prog.info? 68).map (fun i => (i.zero, i.size, i.bytes)) = some (some (.pointer none), 1, 8) := by kernel_rfl
theorem isz69 : (Tryd.prog.info? 69).map (·.size) = some 1 := by kernel_rfl
theorem inf69 : (Tryd.prog.info? 69).map (fun i => (i.zero, i.size, i.bytes)) = some (some (.nilFunc), 1, 8) := by kernel_rfl
theorem isz70 : (Tryd.prog.info? 70).map (·.size) = some 1 := by kernel_rfl
theorem inf70 : (Tryd.prog.info? 70).map (fun i => (i.zero, i.size, i.bytes)) = some (some (.nilFunc), 1, 8) := by kernel_rfl
theorem isz71 : (Tryd.prog.info? 71).map (·.size) = some 1 := by kernel_rfl
theorem inf71 : (Tryd.prog.info? 71).map (fun i => (i.zero, i.size, i.bytes)) = some (some (.nilIface), 1, 16) := by kernel_rfl
theorem isz72 : (Tryd.prog.info? 72).map (·.size) = some 1 := by kernel_rfl
theorem inf72 : (Tryd.prog.info? 72).map (fun i => (i.zero, i.size, i.bytes)) = some (some (.tuple #[.nilIface, .bool false]), 1, 0) := by kernel_rfl
theorem isz73 : (Tryd.prog.info? 73).map (·.size) = some 1 := by kernel_rfl
theorem inf73 : (Tryd.prog.info? 73).map (fun i => (i.zero, i.size, i.bytes)) = some (some (.nilFunc), 1, 8) := by kernel_rfl
theorem isz74 : (Tryd.prog.info? 74).map (·.size) = some 1 := by kernel_rfl
theorem inf74 : (Tryd.prog.info? 74).map (fun i => (i.zero, i.size, i.bytes)) = some (some (.nilIface), 1, 16) := by kernel_rfl
theorem isz75 : (Tryd.prog.info? 75).map (·.size) = some 1 := by kernel_rfl
theorem inf75 : (Tryd.prog.info? 75).map (fun i => (i.zero, i.size, i.bytes)) = some (some (.nilFunc), 1, 8) := by kernel_rfl
theorem isz76 : (Tryd.prog.info? 76).map (·.size) = some 1 := by kernel_rfl
theorem inf76 : (Tryd.prog.info? 76).map (fun i => (i.zero, i.size, i.bytes)) = some (some (.nilIface), 1, 16) := by kernel_rfl
theorem isz77 : (Tryd.prog.info? 77).map (·.size) = some 1 := by kernel_rfl
theorem inf77 : (Tryd.prog.info? 77).map (fun i => (i.zero, i.size, i.bytes)) = some (some (.slice none 0 0), 1, 24) := by kernel_rfl
theorem isz78 : (Tryd.prog.info? 78).map (·.size) = some 1 := by kernel_rfl
theorem inf78 : (Tryd.prog.info? 78).map (fun i => (i.zero, i.size, i.bytes)) = some (some (.nilFunc), 1, 8) := by kernel_rfl
theorem isz79 : (Tryd.prog.info? 79).map (·.size) = some 1 := by kernel_rfl
theorem inf79 : (Tryd.prog.info? 79).map (fun i => (i.zero, i.size, i.bytes)) = some (some (.nilIface), 1, 16) := by kernel_rfl
theorem isz80 : (Tryd.prog.info? 80).map (·.size) = some 1 := by kernel_rfl
theorem inf80 : (Tryd.prog.info? 80).map (fun i => (i.zero, i.size, i.bytes)) = some (some (.tuple #[.nilIface, .bool false]), 1, 0) := by kernel_rfl
theorem isz81 : (Tryd.prog.info? 81).map (·.size) = some 1 := by kernel_rfl
theorem inf81 : (Tryd.prog.info? 81).map (fun i => (i.zero, i.size, i.bytes)) = some (some (.nilFunc), 1, 8) := by kernel_rfl
theorem isz82 : (Tryd.prog.info? 82).map (·.size) = some 1 := by kernel_rfl
theorem inf82 : (Tryd.prog.info? 82).map (fun i => (i.zero, i.size, i.bytes)) = some (some (.nilFunc), 1, 8) := by kernel_rfl
theorem isz83 : (Tryd.prog.info? 83).map (·.size) = some 4 := by kernel_rfl
theorem inf83 : (Tryd.prog.info? 83).map (fun i => (i.zero, i.size, i.bytes)) = some (some (.agg #[.pointer none, .pointer none, .pointer none, .string ⟨#[]⟩]), 4, 40) := by kernel_rfl
theorem isz84 : (Tryd.prog.info? 84).map (·.size) = some 4 := by kernel_rfl
theorem inf84 : (Tryd.prog.info? 84).map (fun i => (i.zero, i.size, i.bytes)) = some (some (.agg #[.pointer none, .pointer none, .pointer none, .string ⟨#[]⟩]), 4, 40) := by kernel_rfl
theorem isz85 : (Tryd.prog.info? 85).map (·.size) = some 0 := by kernel_rfl
theorem inf85 : (Tryd.prog.info? 85).map (fun i => (i.zero, i.size, i.bytes)) = some (some (.agg #[]), 0, 0) := by kernel_rfl
theorem isz86 : (Tryd.prog.info? 86).map (·.size) = some 0 := by kernel_rfl
theorem inf86 : (Tryd.prog.info? 86).map (fun i => (i.zero, i.size, i.bytes)) = some (some (.agg #[]), 0, 0) := by kernel_rfl
theorem isz87 : (Tryd.prog.info? 87).map (·.size) = some 0 := by kernel_rfl
theorem inf87 : (Tryd.prog.info? 87).map (fun i => (i.zero, i.size, i.bytes)) = some (some (.agg #[]), 0, 0) := by kernel_rfl
theorem isz88 : (Tryd.prog.info? 88).map (·.size) = some 1 := by kernel_rfl
theorem inf88 : (Tryd.prog.info? 88).map (fun i => (i.zero, i.size, i.bytes)) = some (some (.nilFunc), 1, 8) := by kernel_rfl
theorem isz89 : (Tryd.prog.info? 89).map (·.size) = some 1 := by kernel_rfl
theorem inf89 : (Tryd.prog.info? 89).map (fun i => (i.zero, i.size, i.bytes)) = some (some (.nilFunc), 1, 8) := by kernel_rfl
theorem isz90 : (Tryd.prog.info? 90).map (·.size) = some 1 := by kernel_rfl
theorem inf90 : (Tryd.prog.info? 90).map (fun i => (i.zero, i.size, i.bytes)) = some (some (.int .u32 0), 1, 4) := by kernel_rfl
theorem isz91 : (Tryd.prog.info? 91).map (·.size) = some 1 := by kernel_rfl
theorem inf91 : (Tryd.prog.info? 91).map (fun i => (i.zero, i.size, i.bytes)) = some (some (.int .u8 0), 1, 1) := by kernel_rfl
theorem isz92 : (Tryd.prog.info? 92).map (·.size) = some 1 := by kernel_rfl
theorem inf92 : (Tryd.prog.info? 92).map (fun i => (i.zero, i.size, i.bytes)) = some (some (.nilFunc), 1, 8) := by kernel_rfl
theorem isz93 : (Tryd.prog.info? 93).map (·.size) = some 1 := by kernel_rfl
theorem inf93 : (Tryd.prog.info? 93).map (fun i => (i.zero, i.size, i.bytes)) = some (some (.pointer none), 1, 8) := by kernel_rfl
theorem isz94 : (Tryd.prog.info? 94).map (·.size) = some 1 := by kernel_rfl
theorem inf94 : (Tryd.prog.info? 94).map (fun i => (i.zero, i.size, i.bytes)) = some (some (.int .i32 0), 1, 4) := by kernel_rfl
theorem isz95 : (Tryd.prog.info? 95).map (·.size) = some 1 := by kernel_rfl
theorem inf95 : (Tryd.prog.info? 95).map (fun i => (i.zero, i.size, i.bytes)) = some (some (.int .i32 0), 1, 4) := by kernel_rfl
theorem isz96 : (Tryd.prog.info? 96).map (·.size) = some 11 := by kernel_rfl
theorem inf96 : (Tryd.prog.info? 96).map (fun i => (i.zero, i.size, i.bytes)) = some (some (.agg #[.int .u64 0, .int .u64 0, .int .u32 0, .int .u8 0, .int .u8 0, .int .u8 0, .int .u8 0, .nilFunc, .pointer none, .int .i32 0, .int .i32 0]), 11, 48) := by kernel_rfl
theorem isz97 : (Tryd.prog.info? 97).map (·.size) = some 11 := by kernel_rfl
theorem inf97 : (Tryd.prog.info? 97).map (fun i => (i.zero, i.size, i.bytes)) = some (some (.agg #[.int .u64 0, .int .u64 0, .int .u32 0, .int .u8 0, .int .u8 0, .int .u8 0, .int .u8 0, .nilFunc, .pointer none, .int .i32 0, .int .i32 0]), 11, 48) := by kernel_rfl
theorem isz98 : (Tryd.prog.info? 98).map (·.size) = some 1 := by kernel_rfl
theorem inf98 : (Tryd.prog.info? 98).map (fun i => (i.zero, i.size, i.bytes)) = some (some (.nilFunc), 1, 8) := by kernel_rfl
theorem isz99 : (Tryd.prog.info? 99).map (·.size) = some 1 := by kernel_rfl
theorem inf99 : (Tryd.prog.info? 99).map (fun i => (i.zero, i.size, i.bytes)) = some (some (.nilFunc), 1, 8) := by kernel_rfl
theorem isz100 : (Tryd.prog.info? 100).map (·.size) = some 2 := by kernel_rfl
theorem inf100 : (Tryd.prog.info? 100).map (fun i => (i.zero, i.size, i.bytes)) = some (some (.agg #[.string ⟨#[]⟩, .int .u8 0]), 2, 24) := by kernel_rfl
theorem isz101 : (Tryd.prog.info? 101).map (·.size) = some 2 := by kernel_rfl
theorem inf101 : (Tryd.prog.info? 101).map (fun i => (i.zero, i.size, i.bytes)) = some (some (.agg #[.string ⟨#[]⟩, .int .u8 0]), 2, 24) := by kernel_rfl
theorem isz102 : (Tryd.prog.info? 102).map (·.size) = some 1 := by kernel_rfl
theorem inf102 : (Tryd.prog.info? 102).map (fun i => (i.zero, i.size, i.bytes)) = some (some (.pointer none), 1, 8) := by kernel_rfl
theorem isz103 : (Tryd.prog.info? 103).map (·.size) = some 1 := by kernel_rfl
theorem inf103 : (Tryd.prog.info? 103).map (fun i => (i.zero, i.size, i.bytes)) = some (some (.nilFunc), 1, 8) := by kernel_rfl
theorem isz104 : (Tryd.prog.info? 104).map (·.size) = some 1 := by kernel_rfl
theorem inf104 : (Tryd.prog.info? 104).map (fun i => (i.zero, i.size, i.bytes)) = some (some (.int .u16 0), 1, 2) := by kernel_rfl
theorem isz105 : (Tryd.prog.info? 105).map (·.size) = some 5 := by kernel_rfl
theorem inf105 : (Tryd.prog.info? 105).map (fun i => (i.zero, i.size, i.bytes)) = some (some (.agg #[.int .i32 0, .int .u16 0, .int .u16 0, .int .u32 0, .int .u32 0]), 5, 16) := by kernel_rfl
theorem isz106 : (Tryd.prog.info? 106).map (·.size) = some 5 := by kernel_rfl
theorem inf106 : (Tryd.prog.info? 106).map (fun i => (i.zero, i.size, i.bytes)) = some (some (.agg #[.int .i32 0, .int .u16 0, .int .u16 0, .int .u32 0, .int .u32 0]), 5, 16) := by kernel_rfl
theorem isz107 : (Tryd.prog.info? 107).map (·.size) = some 1 := by kernel_rfl
theorem inf107 : (Tryd.prog.info? 107).map (fun i => (i.zero, i.size, i.bytes)) = some (some (.slice none 0 0), 1, 24) := by kernel_rfl
theorem isz108 : (Tryd.prog.info? 108).map (·.size) = some 1 := by kernel_rfl
theorem inf108 : (Tryd.prog.info? 108).map (fun i => (i.zero, i.size, i.bytes)) = some (some (.int .i32 0), 1, 4) := by kernel_rfl
theorem isz109 : (Tryd.prog.info? 109).map (·.size) = some 4 := by kernel_rfl
theorem inf109 : (Tryd.prog.info? 109).map (fun i => (i.zero, i.size, i.bytes)) = some (some (.agg #[.int .i32 0, .int .i32 0, .int .i32 0, .int .i32 0]), 4, 16) := by kernel_rfl
theorem isz110 : (Tryd.prog.info? 110).map (·.size) = some 4 := by kernel_rfl
theorem inf110 : (Tryd.prog.info? 110).map (fun i => (i.zero, i.size, i.bytes)) = some (some (.agg #[.int .i32 0, .int .i32 0, .int .i32 0, .int .i32 0]), 4, 16) := by kernel_rfl
theorem isz111 : (Tryd.prog.info? 111).map (·.size) = some 1 := by kernel_rfl
theorem inf111 : (Tryd.prog.info? 111).map (fun i => (i.zero, i.size, i.bytes)) = some (some (.pointer none), 1, 8) := by kernel_rfl
def tyOf : Nat → Option TypeDesc
  | 2 => some (.int .i64)
  | 3 => some (.int .i64)
  | 4 => some (.bool)
  | 5 => some (.int .u8)
  | 6 => some (.int .u8)
  | 9 => some (.string)
  | 10 => some (.string)
  | 11 => some (.string)
  | 12 => some (.int .u64)
  | 15 => some (.pointer 84)
  | 16 => some (.pointer 87)
  | 17 => some (.pointer 97)
  | 21 => some (.int .i32)
  | 22 => some (.slice 4)
  | 33 => some (.slice 22)
  | 35 => some (.slice 9)
  | 41 => some (.int .i64)
  | 45 => some (.pointer 39)
  | 50 => some (.pointer 43)
  | 53 => some (.int .u64)
  | 60 => some (.int .u8)
  | 68 => some (.pointer 101)
  | 77 => some (.slice 27)
  | 85 => some (.array 0 16)
  | 90 => some (.int .u32)
  | 91 => some (.int .u8)
  | 93 => some (.pointer 5)
  | 94 => some (.int .i32)
  | 95 => some (.int .i32)
  | 102 => some (.pointer 106)
  | 104 => some (.int .u16)
  | 107 => some (.slice 110)
  | 108 => some (.int .i32)
  | 111 => some (.pointer 27)
  | _ => none
set_option maxHeartbeats 8000000 in
theorem und (t : Nat) (d : TypeDesc) (h : tyOf t = some d) : Tryd.prog.underlying t = some d := by
  unfold tyOf at h
  split at h
  · cases h; exact Tryd.underlying2
  · cases h; exact Tryd.underlying3
  · cases h; exact Tryd.underlying4
  · cases h; exact Tryd.underlying5
  · cases h; exact Tryd.underlying6
  · cases h; exact Tryd.underlying9
  · cases h; exact Tryd.underlying10
  · cases h; exact Tryd.underlying11
  · cases h; exact Tryd.underlying12
  · cases h; exact Tryd.underlying15
  · cases h; exact Tryd.underlying16
  · cases h; exact Tryd.underlying17
  · cases h; exact Tryd.underlying21
  · cases h; exact Tryd.underlying22
  · cases h; exact Tryd.underlying33
  · cases h; exact Tryd.underlying35
  · cases h; exact Tryd.underlying41
  · cases h; exact Tryd.underlying45
  · cases h; exact Tryd.underlying50
  · cases h; exact Tryd.underlying53
  · cases h; exact Tryd.underlying60
  · cases h; exact Tryd.underlying68
  · cases h; exact Tryd.underlying77
  · cases h; exact Tryd.underlying85
  · cases h; exact Tryd.underlying90
  · cases h; exact Tryd.underlying91
  · cases h; exact Tryd.underlying93
  · cases h; exact Tryd.underlying94
  · cases h; exact Tryd.underlying95
  · cases h; exact Tryd.underlying102
  · cases h; exact Tryd.underlying104
  · cases h; exact Tryd.underlying107
  · cases h; exact Tryd.underlying108
  · cases h; exact Tryd.underlying111
  · cases h
def szOf_0 : Nat → Option Nat
  | 0 => some (1)
  | 1 => some (1)
  | 2 => some (1)
  | 3 => some (1)
  | 4 => some (1)
  | 5 => some (1)
  | 6 => some (1)
  | 7 => some (4)
  | 8 => some (4)
  | 9 => some (1)
  | 10 => some (1)
  | 11 => some (1)
  | 12 => some (1)
  | 13 => some (2)
  | 14 => some (2)
  | 15 => some (1)
  | 16 => some (1)
  | 17 => some (1)
  | 18 => some (1)
  | 19 => some (1)
  | 20 => some (1)
  | 21 => some (1)
  | 22 => some (1)
  | 23 => some (1)
  | 24 => some (1)
  | 25 => some (1)
  | 26 => some (1)
  | 27 => some (1)
  | 28 => some (1)
  | 29 => some (1)
  | 30 => some (1)
  | 31 => some (1)
  | 32 => some (1)
  | 33 => some (1)
  | 34 => some (1)
  | 35 => some (1)
  | 36 => some (1)
  | 37 => some (1)
  | 38 => some (2)
  | 39 => some (2)
  | 40 => some (1)
  | 41 => some (1)
  | 42 => some (3)
  | 43 => some (3)
  | 44 => some (1)
  | 45 => some (1)
  | 46 => some (1)
  | 47 => some (1)
  | 48 => some (1)
  | 49 => some (1)
  | _ => none
set_option maxHeartbeats 8000000 in
theorem isz_0 (t : Nat) (n : Nat) (h : szOf_0 t = some n) : (Tryd.prog.info? t).map (·.size) = some n := by
  unfold szOf_0 at h
  split at h
  · cases h; exact isz0
  · cases h; exact isz1
  · cases h; exact isz2
  · cases h; exact isz3
  · cases h; exact isz4
  · cases h; exact isz5
  · cases h; exact isz6
  · cases h; exact isz7
  · cases h; exact isz8
  · cases h; exact isz9
  · cases h; exact isz10
  · cases h; exact isz11
  · cases h; exact isz12
  · cases h; exact isz13
  · cases h; exact isz14
  · cases h; exact isz15
  · cases h; exact isz16
  · cases h; exact isz17
  · cases h; exact isz18
  · cases h; exact isz19
  · cases h; exact isz20
  · cases h; exact isz21
  · cases h; exact isz22
  · cases h; exact isz23
  · cases h; exact isz24
  · cases h; exact isz25
  · cases h; exact isz26
  · cases h; exact isz27
  · cases h; exact isz28
  · cases h; exact isz29
  · cases h; exact isz30
  · cases h; exact isz31
  · cases h; exact isz32
  · cases h; exact isz33
  · cases h; exact isz34
  · cases h; exact isz35
  · cases h; exact isz36
  · cases h; exact isz37
  · cases h; exact isz38
  · cases h; exact isz39
  · cases h; exact isz40
  · cases h; exact isz41
  · cases h; exact isz42
  · cases h; exact isz43
  · cases h; exact isz44
  · cases h; exact isz45
  · cases h; exact isz46
  · cases h; exact isz47
  · cases h; exact isz48
  · cases h; exact isz49
  · cases h
def szOf_1 : Nat → Option Nat
  | 50 => some (1)
  | 51 => some (1)
  | 52 => some (1)
  | 53 => some (1)
  | 54 => some (3)
  | 55 => some (3)
  | 56 => some (1)
  | 57 => some (1)
  | 58 => some (1)
  | 59 => some (1)
  | 60 => some (1)
  | 61 => some (1)
  | 62 => some (1)
  | 63 => some (1)
  | 64 => some (1)
  | 65 => some (1)
  | 66 => some (1)
  | 67 => some (1)
  | 68 => some (1)
  | 69 => some (1)
  | 70 => some (1)
  | 71 => some (1)
  | 72 => some (1)
  | 73 => some (1)
  | 74 => some (1)
  | 75 => some (1)
  | 76 => some (1)
  | 77 => some (1)
  | 78 => some (1)
  | 79 => some (1)
  | 80 => some (1)
  | 81 => some (1)
  | 82 => some (1)
  | 83 => some (4)
  | 84 => some (4)
  | 85 => some (0)
  | 86 => some (0)
  | 87 => some (0)
  | 88 => some (1)
  | 89 => some (1)
  | 90 => some (1)
  | 91 => some (1)
  | 92 => some (1)
  | 93 => some (1)
  | 94 => some (1)
  | 95 => some (1)
  | 96 => some (11)
  | 97 => some (11)
  | 98 => some (1)
  | 99 => some (1)
  | _ => none
set_option maxHeartbeats 8000000 in
theorem isz_1 (t : Nat) (n : Nat) (h : szOf_1 t = some n) : (Tryd.prog.info? t).map (·.size) = some n := by
  unfold szOf_1 at h
  split at h
  · cases h; exact isz50
  · cases h; exact isz51
  · cases h; exact isz52
  · cases h; exact isz53
  · cases h; exact isz54
  · cases h; exact isz55
  · cases h; exact isz56
  · cases h; exact isz57
  · cases h; exact isz58
  · cases h; exact isz59
  · cases h; exact isz60
  · cases h; exact isz61
  · cases h; exact isz62
  · cases h; exact isz63
  · cases h; exact isz64
  · cases h; exact isz65
  · cases h; exact isz66
  · cases h; exact isz67
  · cases h; exact isz68
  · cases h; exact isz69
  · cases h; exact isz70
  · cases h; exact isz71
  · cases h; exact isz72
  · cases h; exact isz73
  · cases h; exact isz74
  · cases h; exact isz75
  · cases h; exact isz76
  · cases h; exact isz77
  · cases h; exact isz78
  · cases h; exact isz79
  · cases h; exact isz80
  · cases h; exact isz81
  · cases h; exact isz82
  · cases h; exact isz83
  · cases h; exact isz84
  · cases h; exact isz85
  · cases h; exact isz86
  · cases h; exact isz87
  · cases h; exact isz88
  · cases h; exact isz89
  · cases h; exact isz90
  · cases h; exact isz91
  · cases h; exact isz92
  · cases h; exact isz93
  · cases h; exact isz94
  · cases h; exact isz95
  · cases h; exact isz96
  · cases h; exact isz97
  · cases h; exact isz98
  · cases h; exact isz99
  · cases h
def szOf_2 : Nat → Option Nat
  | 100 => some (2)
  | 101 => some (2)
  | 102 => some (1)
  | 103 => some (1)
  | 104 => some (1)
  | 105 => some (5)
  | 106 => some (5)
  | 107 => some (1)
  | 108 => some (1)
  | 109 => some (4)
  | 110 => some (4)
  | 111 => some (1)
  | _ => none
set_option maxHeartbeats 8000000 in
theorem isz_2 (t : Nat) (n : Nat) (h : szOf_2 t = some n) : (Tryd.prog.info? t).map (·.size) = some n := by
  unfold szOf_2 at h
  split at h
  · cases h; exact isz100
  · cases h; exact isz101
  · cases h; exact isz102
  · cases h; exact isz103
  · cases h; exact isz104
  · cases h; exact isz105
  · cases h; exact isz106
  · cases h; exact isz107
  · cases h; exact isz108
  · cases h; exact isz109
  · cases h; exact isz110
  · cases h; exact isz111
  · cases h
def szOf (t : Nat) : Option Nat := (match szOf_0 t with | some x => some x | none => (match szOf_1 t with | some x => some x | none => (match szOf_2 t with | some x => some x | none => none)))
theorem isz (t : Nat) (n : Nat) (h : szOf t = some n) : (Tryd.prog.info? t).map (·.size) = some n := by
  unfold szOf at h
  cases e0 : szOf_0 t with
  | some x => rw [e0] at h; exact isz_0 t _ (e0.trans h)
  | none =>
  rw [e0] at h
  dsimp only at h
  cases e1 : szOf_1 t with
  | some x => rw [e1] at h; exact isz_1 t _ (e1.trans h)
  | none =>
  rw [e1] at h
  dsimp only at h
  cases e2 : szOf_2 t with
  | some x => rw [e2] at h; exact isz_2 t _ (e2.trans h)
  | none =>
  rw [e2] at h
  dsimp only at h
  cases h
def ifcOf : Nat → Bool
  | 20 => true
  | 26 => true
  | 27 => true
  | 57 => true
  | 58 => true
  | 71 => true
  | 74 => true
  | 76 => true
  | 79 => true
  | _ => false
set_option maxHeartbeats 8000000 in
theorem ifc (t : Nat) (h : ifcOf t = true) : ∃ ms, Tryd.prog.underlying t = some (.interface ms) := by
  unfold ifcOf at h
  split at h
  · exact ⟨_, Tryd.underlying20⟩
  · exact ⟨_, Tryd.underlying26⟩
  · exact ⟨_, Tryd.underlying27⟩
  · exact ⟨_, Tryd.underlying57⟩
  · exact ⟨_, Tryd.underlying58⟩
  · exact ⟨_, Tryd.underlying71⟩
  · exact ⟨_, Tryd.underlying74⟩
  · exact ⟨_, Tryd.underlying76⟩
  · exact ⟨_, Tryd.underlying79⟩
  · cases h
def aggOf : Nat → Bool
  | 7 => true
  | 8 => true
  | 13 => true
  | 14 => true
  | 18 => true
  | 19 => true
  | 38 => true
  | 39 => true
  | 42 => true
  | 43 => true
  | 54 => true
  | 55 => true
  | 66 => true
  | 67 => true
  | 83 => true
  | 84 => true
  | 85 => true
  | 86 => true
  | 87 => true
  | 96 => true
  | 97 => true
  | 100 => true
  | 101 => true
  | 105 => true
  | 106 => true
  | 109 => true
  | 110 => true
  | _ => false
set_option maxHeartbeats 8000000 in
theorem agg (t : Nat) (h : aggOf t = true) : (Tryd.prog.underlying t).map aggB = some true := by
  unfold aggOf at h
  split at h
  · rw [Tryd.underlying7]; rfl
  · rw [Tryd.underlying8]; rfl
  · rw [Tryd.underlying13]; rfl
  · rw [Tryd.underlying14]; rfl
  · rw [Tryd.underlying18]; rfl
  · rw [Tryd.underlying19]; rfl
  · rw [Tryd.underlying38]; rfl
  · rw [Tryd.underlying39]; rfl
  · rw [Tryd.underlying42]; rfl
  · rw [Tryd.underlying43]; rfl
  · rw [Tryd.underlying54]; rfl
  · rw [Tryd.underlying55]; rfl
  · rw [Tryd.underlying66]; rfl
  · rw [Tryd.underlying67]; rfl
  · rw [Tryd.underlying83]; rfl
  · rw [Tryd.underlying84]; rfl
  · rw [Tryd.underlying85]; rfl
  · rw [Tryd.underlying86]; rfl
  · rw [Tryd.underlying87]; rfl
  · rw [Tryd.underlying96]; rfl
  · rw [Tryd.underlying97]; rfl
  · rw [Tryd.underlying100]; rfl
  · rw [Tryd.underlying101]; rfl
  · rw [Tryd.underlying105]; rfl
  · rw [Tryd.underlying106]; rfl
  · rw [Tryd.underlying109]; rfl
  · rw [Tryd.underlying110]; rfl
  · cases h
def conOf_0 : Nat → Bool
  | 2 => true
  | 3 => true
  | 4 => true
  | 5 => true
  | 6 => true
  | 7 => true
  | 8 => true
  | 9 => true
  | 10 => true
  | 11 => true
  | 12 => true
  | 13 => true
  | 14 => true
  | 15 => true
  | 16 => true
  | 17 => true
  | 18 => true
  | 19 => true
  | 21 => true
  | 22 => true
  | 33 => true
  | 35 => true
  | 38 => true
  | 39 => true
  | 41 => true
  | 42 => true
  | 43 => true
  | 45 => true
  | 50 => true
  | 53 => true
  | 54 => true
  | 55 => true
  | 60 => true
  | 66 => true
  | 67 => true
  | 68 => true
  | 77 => true
  | 83 => true
  | 84 => true
  | 86 => true
  | 87 => true
  | 90 => true
  | 91 => true
  | 93 => true
  | 94 => true
  | 95 => true
  | 96 => true
  | 97 => true
  | 100 => true
  | 101 => true
  | _ => false
set_option maxHeartbeats 8000000 in
theorem con_0 (t : Nat) (h : conOf_0 t = true) : (Tryd.prog.underlying t).map concB = some true := by
  unfold conOf_0 at h
  split at h
  · rw [Tryd.underlying2]; rfl
  · rw [Tryd.underlying3]; rfl
  · rw [Tryd.underlying4]; rfl
  · rw [Tryd.underlying5]; rfl
  · rw [Tryd.underlying6]; rfl
  · rw [Tryd.underlying7]; rfl
  · rw [Tryd.underlying8]; rfl
  · rw [Tryd.underlying9]; rfl
  · rw [Tryd.underlying10]; rfl
  · rw [Tryd.underlying11]; rfl
  · rw [Tryd.underlying12]; rfl
  · rw [Tryd.underlying13]; rfl
  · rw [Tryd.underlying14]; rfl
  · rw [Tryd.underlying15]; rfl
  · rw [Tryd.underlying16]; rfl
  · rw [Tryd.underlying17]; rfl
  · rw [Tryd.underlying18]; rfl
  · rw [Tryd.underlying19]; rfl
  · rw [Tryd.underlying21]; rfl
  · rw [Tryd.underlying22]; rfl
  · rw [Tryd.underlying33]; rfl
  · rw [Tryd.underlying35]; rfl
  · rw [Tryd.underlying38]; rfl
  · rw [Tryd.underlying39]; rfl
  · rw [Tryd.underlying41]; rfl
  · rw [Tryd.underlying42]; rfl
  · rw [Tryd.underlying43]; rfl
  · rw [Tryd.underlying45]; rfl
  · rw [Tryd.underlying50]; rfl
  · rw [Tryd.underlying53]; rfl
  · rw [Tryd.underlying54]; rfl
  · rw [Tryd.underlying55]; rfl
  · rw [Tryd.underlying60]; rfl
  · rw [Tryd.underlying66]; rfl
  · rw [Tryd.underlying67]; rfl
  · rw [Tryd.underlying68]; rfl
  · rw [Tryd.underlying77]; rfl
  · rw [Tryd.underlying83]; rfl
  · rw [Tryd.underlying84]; rfl
  · rw [Tryd.underlying86]; rfl
  · rw [Tryd.underlying87]; rfl
  · rw [Tryd.underlying90]; rfl
  · rw [Tryd.underlying91]; rfl
  · rw [Tryd.underlying93]; rfl
  · rw [Tryd.underlying94]; rfl
  · rw [Tryd.underlying95]; rfl
  · rw [Tryd.underlying96]; rfl
  · rw [Tryd.underlying97]; rfl
  · rw [Tryd.underlying100]; rfl
  · rw [Tryd.underlying101]; rfl
  · cases h
def conOf_1 : Nat → Bool
  | 102 => true
  | 104 => true
  | 105 => true
  | 106 => true
  | 107 => true
  | 108 => true
  | 109 => true
  | 110 => true
  | 111 => true
  | _ => false
set_option maxHeartbeats 8000000 in
theorem con_1 (t : Nat) (h : conOf_1 t = true) : (Tryd.prog.underlying t).map concB = some true := by
  unfold conOf_1 at h
  split at h
  · rw [Tryd.underlying102]; rfl
  · rw [Tryd.underlying104]; rfl
  · rw [Tryd.underlying105]; rfl
  · rw [Tryd.underlying106]; rfl
  · rw [Tryd.underlying107]; rfl
  · rw [Tryd.underlying108]; rfl
  · rw [Tryd.underlying109]; rfl
  · rw [Tryd.underlying110]; rfl
  · rw [Tryd.underlying111]; rfl
  · cases h
def conOf (t : Nat) : Bool := (bif conOf_0 t then true else (bif conOf_1 t then true else false))
theorem con (t : Nat) (h : conOf t = true) : (Tryd.prog.underlying t).map concB = some true := by
  unfold conOf at h
  cases e0 : conOf_0 t with
  | true => exact con_0 t e0
  | false =>
  rw [e0] at h
  simp only [cond_false] at h
  cases e1 : conOf_1 t with
  | true => exact con_1 t e1
  | false =>
  rw [e1] at h
  simp only [cond_false] at h
  cases h
def fldOf7 : Nat → Option (Nat × Nat)
  | 0 => some (0, 2)
  | 1 => some (1, 3)
  | 2 => some (2, 4)
  | 3 => some (3, 6)
  | _ => none
theorem fld7 (f off ft : Nat) (h : fldOf7 f = some (off, ft)) : Fld Tryd.prog 7 f off ft := by
  unfold fldOf7 at h
  split at h
  · cases h; exact ⟨_, _, Tryd.underlying7, rfl, rfl, rfl⟩
  · cases h; exact ⟨_, _, Tryd.underlying7, rfl, rfl, rfl⟩
  · cases h; exact ⟨_, _, Tryd.underlying7, rfl, rfl, rfl⟩
  · cases h; exact ⟨_, _, Tryd.underlying7, rfl, rfl, rfl⟩
  · cases h
def fldOf8 : Nat → Option (Nat × Nat)
  | 0 => some (0, 2)
  | 1 => some (1, 3)
  | 2 => some (2, 4)
  | 3 => some (3, 6)
  | _ => none
theorem fld8 (f off ft : Nat) (h : fldOf8 f = some (off, ft)) : Fld Tryd.prog 8 f off ft := by
  unfold fldOf8 at h
  split at h
  · cases h; exact ⟨_, _, Tryd.underlying8, rfl, rfl, rfl⟩
  · cases h; exact ⟨_, _, Tryd.underlying8, rfl, rfl, rfl⟩
  · cases h; exact ⟨_, _, Tryd.underlying8, rfl, rfl, rfl⟩
  · cases h; exact ⟨_, _, Tryd.underlying8, rfl, rfl, rfl⟩
  · cases h
def fldOf13 : Nat → Option (Nat × Nat)
  | 0 => some (0, 9)
  | 1 => some (1, 12)
  | _ => none
theorem fld13 (f off ft : Nat) (h : fldOf13 f = some (off, ft)) : Fld Tryd.prog 13 f off ft := by
  unfold fldOf13 at h
  split at h
  · cases h; exact ⟨_, _, Tryd.underlying13, rfl, rfl, rfl⟩
  · cases h; exact ⟨_, _, Tryd.underlying13, rfl, rfl, rfl⟩
  · cases h
def fldOf14 : Nat → Option (Nat × Nat)
  | 0 => some (0, 9)
  | 1 => some (1, 12)
  | _ => none
theorem fld14 (f off ft : Nat) (h : fldOf14 f = some (off, ft)) : Fld Tryd.prog 14 f off ft := by
  unfold fldOf14 at h
  split at h
  · cases h; exact ⟨_, _, Tryd.underlying14, rfl, rfl, rfl⟩
  · cases h; exact ⟨_, _, Tryd.underlying14, rfl, rfl, rfl⟩
  · cases h
def fldOf18 : Nat → Option (Nat × Nat)
  | 0 => some (0, 17)
  | _ => none
theorem fld18 (f off ft : Nat) (h : fldOf18 f = some (off, ft)) : Fld Tryd.prog 18 f off ft := by
  unfold fldOf18 at h
  split at h
  · cases h; exact ⟨_, _, Tryd.underlying18, rfl, rfl, rfl⟩
  · cases h
def fldOf19 : Nat → Option (Nat × Nat)
  | 0 => some (0, 17)
  | _ => none
theorem fld19 (f off ft : Nat) (h : fldOf19 f = some (off, ft)) : Fld Tryd.prog 19 f off ft := by
  unfold fldOf19 at h
  split at h
  · cases h; exact ⟨_, _, Tryd.underlying19, rfl, rfl, rfl⟩
  · cases h
def fldOf38 : Nat → Option (Nat × Nat)
  | 0 => some (0, 4)
  | 1 => some (1, 3)
  | _ => none
theorem fld38 (f off ft : Nat) (h : fldOf38 f = some (off, ft)) : Fld Tryd.prog 38 f off ft := by
  unfold fldOf38 at h
  split at h
  · cases h; exact ⟨_, _, Tryd.underlying38, rfl, rfl, rfl⟩
  · cases h; exact ⟨_, _, Tryd.underlying38, rfl, rfl, rfl⟩
  · cases h
def fldOf39 : Nat → Option (Nat × Nat)
  | 0 => some (0, 4)
  | 1 => some (1, 3)
  | _ => none
theorem fld39 (f off ft : Nat) (h : fldOf39 f = some (off, ft)) : Fld Tryd.prog 39 f off ft := by
  unfold fldOf39 at h
  split at h
  · cases h; exact ⟨_, _, Tryd.underlying39, rfl, rfl, rfl⟩
  · cases h; exact ⟨_, _, Tryd.underlying39, rfl, rfl, rfl⟩
  · cases h
def fldOf42 : Nat → Option (Nat × Nat)
  | 0 => some (0, 41)
  | 1 => some (1, 3)
  | 2 => some (2, 3)
  | _ => none
theorem fld42 (f off ft : Nat) (h : fldOf42 f = some (off, ft)) : Fld Tryd.prog 42 f off ft := by
  unfold fldOf42 at h
  split at h
  · cases h; exact ⟨_, _, Tryd.underlying42, rfl, rfl, rfl⟩
  · cases h; exact ⟨_, _, Tryd.underlying42, rfl, rfl, rfl⟩
  · cases h; exact ⟨_, _, Tryd.underlying42, rfl, rfl, rfl⟩
  · cases h
def fldOf43 : Nat → Option (Nat × Nat)
  | 0 => some (0, 41)
  | 1 => some (1, 3)
  | 2 => some (2, 3)
  | _ => none
theorem fld43 (f off ft : Nat) (h : fldOf43 f = some (off, ft)) : Fld Tryd.prog 43 f off ft := by
  unfold fldOf43 at h
  split at h
  · cases h; exact ⟨_, _, Tryd.underlying43, rfl, rfl, rfl⟩
  · cases h; exact ⟨_, _, Tryd.underlying43, rfl, rfl, rfl⟩
  · cases h; exact ⟨_, _, Tryd.underlying43, rfl, rfl, rfl⟩
  · cases h
def fldOf54 : Nat → Option (Nat × Nat)
  | 0 => some (0, 17)
  | 1 => some (1, 52)
  | 2 => some (2, 53)
  | _ => none
theorem fld54 (f off ft : Nat) (h : fldOf54 f = some (off, ft)) : Fld Tryd.prog 54 f off ft := by
  unfold fldOf54 at h
  split at h
  · cases h; exact ⟨_, _, Tryd.underlying54, rfl, rfl, rfl⟩
  · cases h; exact ⟨_, _, Tryd.underlying54, rfl, rfl, rfl⟩
  · cases h; exact ⟨_, _, Tryd.underlying54, rfl, rfl, rfl⟩
  · cases h
def fldOf55 : Nat → Option (Nat × Nat)
  | 0 => some (0, 17)
  | 1 => some (1, 52)
  | 2 => some (2, 53)
  | _ => none
theorem fld55 (f off ft : Nat) (h : fldOf55 f = some (off, ft)) : Fld Tryd.prog 55 f off ft := by
  unfold fldOf55 at h
  split at h
  · cases h; exact ⟨_, _, Tryd.underlying55, rfl, rfl, rfl⟩
  · cases h; exact ⟨_, _, Tryd.underlying55, rfl, rfl, rfl⟩
  · cases h; exact ⟨_, _, Tryd.underlying55, rfl, rfl, rfl⟩
  · cases h
def fldOf66 : Nat → Option (Nat × Nat)
  | 0 => some (0, 17)
  | _ => none
theorem fld66 (f off ft : Nat) (h : fldOf66 f = some (off, ft)) : Fld Tryd.prog 66 f off ft := by
  unfold fldOf66 at h
  split at h
  · cases h; exact ⟨_, _, Tryd.underlying66, rfl, rfl, rfl⟩
  · cases h
def fldOf67 : Nat → Option (Nat × Nat)
  | 0 => some (0, 17)
  | _ => none
theorem fld67 (f off ft : Nat) (h : fldOf67 f = some (off, ft)) : Fld Tryd.prog 67 f off ft := by
  unfold fldOf67 at h
  split at h
  · cases h; exact ⟨_, _, Tryd.underlying67, rfl, rfl, rfl⟩
  · cases h
def fldOf83 : Nat → Option (Nat × Nat)
  | 0 => some (0, 17)
  | 1 => some (1, 17)
  | 2 => some (2, 17)
  | 3 => some (3, 9)
  | _ => none
theorem fld83 (f off ft : Nat) (h : fldOf83 f = some (off, ft)) : Fld Tryd.prog 83 f off ft := by
  unfold fldOf83 at h
  split at h
  · cases h; exact ⟨_, _, Tryd.underlying83, rfl, rfl, rfl⟩
  · cases h; exact ⟨_, _, Tryd.underlying83, rfl, rfl, rfl⟩
  · cases h; exact ⟨_, _, Tryd.underlying83, rfl, rfl, rfl⟩
  · cases h; exact ⟨_, _, Tryd.underlying83, rfl, rfl, rfl⟩
  · cases h
def fldOf84 : Nat → Option (Nat × Nat)
  | 0 => some (0, 17)
  | 1 => some (1, 17)
  | 2 => some (2, 17)
  | 3 => some (3, 9)
  | _ => none
theorem fld84 (f off ft : Nat) (h : fldOf84 f = some (off, ft)) : Fld Tryd.prog 84 f off ft := by
  unfold fldOf84 at h
  split at h
  · cases h; exact ⟨_, _, Tryd.underlying84, rfl, rfl, rfl⟩
  · cases h; exact ⟨_, _, Tryd.underlying84, rfl, rfl, rfl⟩
  · cases h; exact ⟨_, _, Tryd.underlying84, rfl, rfl, rfl⟩
  · cases h; exact ⟨_, _, Tryd.underlying84, rfl, rfl, rfl⟩
  · cases h
def fldOf86 : Nat → Option (Nat × Nat)
  | 0 => some (0, 85)
  | _ => none
theorem fld86 (f off ft : Nat) (h : fldOf86 f = some (off, ft)) : Fld Tryd.prog 86 f off ft := by
  unfold fldOf86 at h
  split at h
  · cases h; exact ⟨_, _, Tryd.underlying86, rfl, rfl, rfl⟩
  · cases h
def fldOf87 : Nat → Option (Nat × Nat)
  | 0 => some (0, 85)
  | _ => none
theorem fld87 (f off ft : Nat) (h : fldOf87 f = some (off, ft)) : Fld Tryd.prog 87 f off ft := by
  unfold fldOf87 at h
  split at h
  · cases h; exact ⟨_, _, Tryd.underlying87, rfl, rfl, rfl⟩
  · cases h
def fldOf96 : Nat → Option (Nat × Nat)
  | 0 => some (0, 12)
  | 1 => some (1, 12)
  | 2 => some (2, 90)
  | 3 => some (3, 91)
  | 4 => some (4, 5)
  | 5 => some (5, 5)
  | 6 => some (6, 60)
  | 7 => some (7, 92)
  | 8 => some (8, 93)
  | 9 => some (9, 94)
  | 10 => some (10, 95)
  | _ => none
theorem fld96 (f off ft : Nat) (h : fldOf96 f = some (off, ft)) : Fld Tryd.prog 96 f off ft := by
  unfold fldOf96 at h
  split at h
  · cases h; exact ⟨_, _, Tryd.underlying96, rfl, rfl, rfl⟩
  · cases h; exact ⟨_, _, Tryd.underlying96, rfl, rfl, rfl⟩
  · cases h; exact ⟨_, _, Tryd.underlying96, rfl, rfl, rfl⟩
  · cases h; exact ⟨_, _, Tryd.underlying96, rfl, rfl, rfl⟩
  · cases h; exact ⟨_, _, Tryd.underlying96, rfl, rfl, rfl⟩
  · cases h; exact ⟨_, _, Tryd.underlying96, rfl, rfl, rfl⟩
  · cases h; exact ⟨_, _, Tryd.underlying96, rfl, rfl, rfl⟩
  · cases h; exact ⟨_, _, Tryd.underlying96, rfl, rfl, rfl⟩
  · cases h; exact ⟨_, _, Tryd.underlying96, rfl, rfl, rfl⟩
  · cases h; exact ⟨_, _, Tryd.underlying96, rfl, rfl, rfl⟩
  · cases h; exact ⟨_, _, Tryd.underlying96, rfl, rfl, rfl⟩
  · cases h
def fldOf97 : Nat → Option (Nat × Nat)
  | 0 => some (0, 12)
  | 1 => some (1, 12)
  | 2 => some (2, 90)
  | 3 => some (3, 91)
  | 4 => some (4, 5)
  | 5 => some (5, 5)
  | 6 => some (6, 60)
  | 7 => some (7, 92)
  | 8 => some (8, 93)
  | 9 => some (9, 94)
  | 10 => some (10, 95)
  | _ => none
theorem fld97 (f off ft : Nat) (h : fldOf97 f = some (off, ft)) : Fld Tryd.prog 97 f off ft := by
  unfold fldOf97 at h
  split at h
  · cases h; exact ⟨_, _, Tryd.underlying97, rfl, rfl, rfl⟩
  · cases h; exact ⟨_, _, Tryd.underlying97, rfl, rfl, rfl⟩
  · cases h; exact ⟨_, _, Tryd.underlying97, rfl, rfl, rfl⟩
  · cases h; exact ⟨_, _, Tryd.underlying97, rfl, rfl, rfl⟩
  · cases h; exact ⟨_, _, Tryd.underlying97, rfl, rfl, rfl⟩
  · cases h; exact ⟨_, _, Tryd.underlying97, rfl, rfl, rfl⟩
  · cases h; exact ⟨_, _, Tryd.underlying97, rfl, rfl, rfl⟩
  · cases h; exact ⟨_, _, Tryd.underlying97, rfl, rfl, rfl⟩
  · cases h; exact ⟨_, _, Tryd.underlying97, rfl, rfl, rfl⟩
  · cases h; exact ⟨_, _, Tryd.underlying97, rfl, rfl, rfl⟩
  · cases h; exact ⟨_, _, Tryd.underlying97, rfl, rfl, rfl⟩
  · cases h
def fldOf100 : Nat → Option (Nat × Nat)
  | 0 => some (0, 9)
  | 1 => some (1, 60)
  | _ => none
theorem fld100 (f off ft : Nat) (h : fldOf100 f = some (off, ft)) : Fld Tryd.prog 100 f off ft := by
  unfold fldOf100 at h
  split at h
  · cases h; exact ⟨_, _, Tryd.underlying100, rfl, rfl, rfl⟩
  · cases h; exact ⟨_, _, Tryd.underlying100, rfl, rfl, rfl⟩
  · cases h
def fldOf101 : Nat → Option (Nat × Nat)
  | 0 => some (0, 9)
  | 1 => some (1, 60)
  | _ => none
theorem fld101 (f off ft : Nat) (h : fldOf101 f = some (off, ft)) : Fld Tryd.prog 101 f off ft := by
  unfold fldOf101 at h
  split at h
  · cases h; exact ⟨_, _, Tryd.underlying101, rfl, rfl, rfl⟩
  · cases h; exact ⟨_, _, Tryd.underlying101, rfl, rfl, rfl⟩
  · cases h
def fldOf105 : Nat → Option (Nat × Nat)
  | 0 => some (0, 94)
  | 1 => some (1, 104)
  | 2 => some (2, 104)
  | 3 => some (3, 90)
  | 4 => some (4, 90)
  | _ => none
theorem fld105 (f off ft : Nat) (h : fldOf105 f = some (off, ft)) : Fld Tryd.prog 105 f off ft := by
  unfold fldOf105 at h
  split at h
  · cases h; exact ⟨_, _, Tryd.underlying105, rfl, rfl, rfl⟩
  · cases h; exact ⟨_, _, Tryd.underlying105, rfl, rfl, rfl⟩
  · cases h; exact ⟨_, _, Tryd.underlying105, rfl, rfl, rfl⟩
  · cases h; exact ⟨_, _, Tryd.underlying105, rfl, rfl, rfl⟩
  · cases h; exact ⟨_, _, Tryd.underlying105, rfl, rfl, rfl⟩
  · cases h
def fldOf106 : Nat → Option (Nat × Nat)
  | 0 => some (0, 94)
  | 1 => some (1, 104)
  | 2 => some (2, 104)
  | 3 => some (3, 90)
  | 4 => some (4, 90)
  | _ => none
theorem fld106 (f off ft : Nat) (h : fldOf106 f = some (off, ft)) : Fld Tryd.prog 106 f off ft := by
  unfold fldOf106 at h
  split at h
  · cases h; exact ⟨_, _, Tryd.underlying106, rfl, rfl, rfl⟩
  · cases h; exact ⟨_, _, Tryd.underlying106, rfl, rfl, rfl⟩
  · cases h; exact ⟨_, _, Tryd.underlying106, rfl, rfl, rfl⟩
  · cases h; exact ⟨_, _, Tryd.underlying106, rfl, rfl, rfl⟩
  · cases h; exact ⟨_, _, Tryd.underlying106, rfl, rfl, rfl⟩
  · cases h
def fldOf109 : Nat → Option (Nat × Nat)
  | 0 => some (0, 94)
  | 1 => some (1, 95)
  | 2 => some (2, 108)
  | 3 => some (3, 108)
  | _ => none
theorem fld109 (f off ft : Nat) (h : fldOf109 f = some (off, ft)) : Fld Tryd.prog 109 f off ft := by
  unfold fldOf109 at h
  split at h
  · cases h; exact ⟨_, _, Tryd.underlying109, rfl, rfl, rfl⟩
  · cases h; exact ⟨_, _, Tryd.underlying109, rfl, rfl, rfl⟩
  · cases h; exact ⟨_, _, Tryd.underlying109, rfl, rfl, rfl⟩
  · cases h; exact ⟨_, _, Tryd.underlying109, rfl, rfl, rfl⟩
  · cases h
def fldOf110 : Nat → Option (Nat × Nat)
  | 0 => some (0, 94)
  | 1 => some (1, 95)
  | 2 => some (2, 108)
  | 3 => some (3, 108)
  | _ => none
theorem fld110 (f off ft : Nat) (h : fldOf110 f = some (off, ft)) : Fld Tryd.prog 110 f off ft := by
  unfold fldOf110 at h
  split at h
  · cases h; exact ⟨_, _, Tryd.underlying110, rfl, rfl, rfl⟩
  · cases h; exact ⟨_, _, Tryd.underlying110, rfl, rfl, rfl⟩
  · cases h; exact ⟨_, _, Tryd.underlying110, rfl, rfl, rfl⟩
  · cases h; exact ⟨_, _, Tryd.underlying110, rfl, rfl, rfl⟩
  · cases h
def fldOf (t f : Nat) : Option (Nat × Nat) :=
  match t with
  | 7 => fldOf7 f
  | 8 => fldOf8 f
  | 13 => fldOf13 f
  | 14 => fldOf14 f
  | 18 => fldOf18 f
  | 19 => fldOf19 f
  | 38 => fldOf38 f
  | 39 => fldOf39 f
  | 42 => fldOf42 f
  | 43 => fldOf43 f
  | 54 => fldOf54 f
  | 55 => fldOf55 f
  | 66 => fldOf66 f
  | 67 => fldOf67 f
  | 83 => fldOf83 f
  | 84 => fldOf84 f
  | 86 => fldOf86 f
  | 87 => fldOf87 f
  | 96 => fldOf96 f
  | 97 => fldOf97 f
  | 100 => fldOf100 f
  | 101 => fldOf101 f
  | 105 => fldOf105 f
  | 106 => fldOf106 f
  | 109 => fldOf109 f
  | 110 => fldOf110 f
  | _ => none
set_option maxHeartbeats 8000000 in
theorem fld (t f off ft : Nat) (h : fldOf t f = some (off, ft)) : Fld Tryd.prog t f off ft := by
  unfold fldOf at h
  split at h
  · exact fld7 _ _ _ h
  · exact fld8 _ _ _ h
  · exact fld13 _ _ _ h
  · exact fld14 _ _ _ h
  · exact fld18 _ _ _ h
  · exact fld19 _ _ _ h
  · exact fld38 _ _ _ h
  · exact fld39 _ _ _ h
  · exact fld42 _ _ _ h
  · exact fld43 _ _ _ h
  · exact fld54 _ _ _ h
  · exact fld55 _ _ _ h
  · exact fld66 _ _ _ h
  · exact fld67 _ _ _ h
  · exact fld83 _ _ _ h
  · exact fld84 _ _ _ h
  · exact fld86 _ _ _ h
  · exact fld87 _ _ _ h
  · exact fld96 _ _ _ h
  · exact fld97 _ _ _ h
  · exact fld100 _ _ _ h
  · exact fld101 _ _ _ h
  · exact fld105 _ _ _ h
  · exact fld106 _ _ _ h
  · exact fld109 _ _ _ h
  · exact fld110 _ _ _ h
  · cases h
/-- busbar/busbarlaw21.StuffTakes -/
theorem cal3 : Callable Tryd.prog 3 := ⟨⟨_, Tryd.func3, by kernel_rfl, by kernel_rfl⟩⟩
/-- busbar/busbarlaw21.StuffKnown -/
theorem cal4 : Callable Tryd.prog 4 := ⟨⟨_, Tryd.func4, by kernel_rfl, by kernel_rfl⟩⟩
/-- busbar/busbarref21.Unstuff -/
theorem cal5 : Callable Tryd.prog 5 := ⟨⟨_, Tryd.func5, by kernel_rfl, by kernel_rfl⟩⟩
/-- busbar/busbarkit.LentBools -/
theorem cal6 : Callable Tryd.prog 6 := ⟨⟨_, Tryd.func6, by kernel_rfl, by kernel_rfl⟩⟩
/-- busbar/stuff.Unstuff -/
theorem cal7 : Callable Tryd.prog 7 := ⟨⟨_, Tryd.func7, by kernel_rfl, by kernel_rfl⟩⟩
/-- busbar/busbarlaw21.right -/
theorem cal8 : Callable Tryd.prog 8 := ⟨⟨_, Tryd.func8, by kernel_rfl, by kernel_rfl⟩⟩
/-- busbar/busbarref0.SameBools -/
theorem cal9 : Callable Tryd.prog 9 := ⟨⟨_, Tryd.func9, by kernel_rfl, by kernel_rfl⟩⟩
/-- busbar/busbarkit.KeptBools -/
theorem cal10 : Callable Tryd.prog 10 := ⟨⟨_, Tryd.func10, by kernel_rfl, by kernel_rfl⟩⟩
/-- busbar/busbarkit.ApartBools -/
theorem cal11 : Callable Tryd.prog 11 := ⟨⟨_, Tryd.func11, by kernel_rfl, by kernel_rfl⟩⟩
/-- busbar/busbarlaw21.row -/
theorem cal12 : Callable Tryd.prog 12 := ⟨⟨_, Tryd.func12, by kernel_rfl, by kernel_rfl⟩⟩
/-- busbar/stuff.Stuff -/
theorem cal13 : Callable Tryd.prog 13 := ⟨⟨_, Tryd.func13, by kernel_rfl, by kernel_rfl⟩⟩
/-- (*busbar/stuff.run).see -/
theorem cal14 : Callable Tryd.prog 14 := ⟨⟨_, Tryd.func14, by kernel_rfl, by kernel_rfl⟩⟩
/-- busbar/busbarkit.At -/
theorem cal15 : Callable Tryd.prog 15 := ⟨⟨_, Tryd.func15, by kernel_rfl, by kernel_rfl⟩⟩
/-- busbar/busbarkit.Place -/
theorem cal16 : Callable Tryd.prog 16 := ⟨⟨_, Tryd.func16, by kernel_rfl, by kernel_rfl⟩⟩
/-- busbar/busbarkit.Num -/
theorem cal17 : Callable Tryd.prog 17 := ⟨⟨_, Tryd.func17, by kernel_rfl, by kernel_rfl⟩⟩
/-- errors.As -/
theorem cal18 : Callable Tryd.prog 18 := ⟨⟨_, Tryd.func18, by kernel_rfl, by kernel_rfl⟩⟩
/-- errors.Is -/
theorem cal19 : Callable Tryd.prog 19 := ⟨⟨_, Tryd.func19, by kernel_rfl, by kernel_rfl⟩⟩
/-- errors.as -/
theorem cal23 : Callable Tryd.prog 23 := ⟨⟨_, Tryd.func23, by kernel_rfl, by kernel_rfl⟩⟩
/-- errors.is -/
theorem cal25 : Callable Tryd.prog 25 := ⟨⟨_, Tryd.func25, by kernel_rfl, by kernel_rfl⟩⟩
/-- (busbar/api.Fault).Unwrap -/
theorem cal47 : Callable Tryd.prog 47 := ⟨⟨_, Tryd.func47, by kernel_rfl, by kernel_rfl⟩⟩
end Go.Proofs.YtcajdlcijepemaaDoor
