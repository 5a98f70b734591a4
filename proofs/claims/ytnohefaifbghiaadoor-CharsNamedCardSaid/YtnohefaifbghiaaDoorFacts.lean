/- Facts of the seat's tables: each type's size and zero, each function's call. Written by my own gen.py off the translation's rows. -/
import Derived.Test.YtnohefaifbghiaaDoorProg
import Derived.Test.YtnohefaifbghiaaDoorReg
import Derived.KernelRfl
namespace Go.Proofs.YtnohefaifbghiaaDoor
theorem mixed : Tryd.prog.follows .mixedOrders = true := by kernel_rfl
theorem isz0 : (Tryd.prog.info? 0).map (·.size) = some 1 := by kernel_rfl
theorem inf0 : (Tryd.prog.info? 0).map (fun i => (i.zero, i.size, i.bytes)) = some (some (.tuple #[]), 1, 0) := by kernel_rfl
theorem isz1 : (Tryd.prog.info? 1).map (·.size) = some 1 := by kernel_rfl
theorem inf1 : (Tryd.prog.info? 1).map (fun i => (i.zero, i.size, i.bytes)) = some (some (.nilFunc), 1, 8) := by kernel_rfl
theorem isz2 : (Tryd.prog.info? 2).map (·.size) = some 1 := by kernel_rfl
theorem inf2 : (Tryd.prog.info? 2).map (fun i => (i.zero, i.size, i.bytes)) = some (some (.int .i64 0), 1, 8) := by kernel_rfl
theorem isz3 : (Tryd.prog.info? 3).map (·.size) = some 1 := by kernel_rfl
theorem inf3 : (Tryd.prog.info? 3).map (fun i => (i.zero, i.size, i.bytes)) = some (some (.int .i64 0), 1, 8) := by kernel_rfl
theorem isz4 : (Tryd.prog.info? 4).map (·.size) = some 1 := by kernel_rfl
theorem inf4 : (Tryd.prog.info? 4).map (fun i => (i.zero, i.size, i.bytes)) = some (some (.bool false), 1, 1) := by kernel_rfl
theorem isz5 : (Tryd.prog.info? 5).map (·.size) = some 1 := by kernel_rfl
theorem inf5 : (Tryd.prog.info? 5).map (fun i => (i.zero, i.size, i.bytes)) = some (some (.int .u8 0), 1, 1) := by kernel_rfl
theorem isz6 : (Tryd.prog.info? 6).map (·.size) = some 1 := by kernel_rfl
theorem inf6 : (Tryd.prog.info? 6).map (fun i => (i.zero, i.size, i.bytes)) = some (some (.int .u8 0), 1, 1) := by kernel_rfl
theorem isz7 : (Tryd.prog.info? 7).map (·.size) = some 4 := by kernel_rfl
theorem inf7 : (Tryd.prog.info? 7).map (fun i => (i.zero, i.size, i.bytes)) = some (some (.agg #[.int .i64 0, .int .i64 0, .bool false, .int .u8 0]), 4, 24) := by kernel_rfl
theorem isz8 : (Tryd.prog.info? 8).map (·.size) = some 4 := by kernel_rfl
theorem inf8 : (Tryd.prog.info? 8).map (fun i => (i.zero, i.size, i.bytes)) = some (some (.agg #[.int .i64 0, .int .i64 0, .bool false, .int .u8 0]), 4, 24) := by kernel_rfl
theorem isz9 : (Tryd.prog.info? 9).map (·.size) = some 1 := by kernel_rfl
theorem inf9 : (Tryd.prog.info? 9).map (fun i => (i.zero, i.size, i.bytes)) = some (some (.string ⟨#[]⟩), 1, 16) := by kernel_rfl
theorem isz10 : (Tryd.prog.info? 10).map (·.size) = some 1 := by kernel_rfl
theorem inf10 : (Tryd.prog.info? 10).map (fun i => (i.zero, i.size, i.bytes)) = some (some (.string ⟨#[]⟩), 1, 16) := by kernel_rfl
theorem isz11 : (Tryd.prog.info? 11).map (·.size) = some 1 := by kernel_rfl
theorem inf11 : (Tryd.prog.info? 11).map (fun i => (i.zero, i.size, i.bytes)) = some (some (.string ⟨#[]⟩), 1, 16) := by kernel_rfl
theorem isz12 : (Tryd.prog.info? 12).map (·.size) = some 1 := by kernel_rfl
theorem inf12 : (Tryd.prog.info? 12).map (fun i => (i.zero, i.size, i.bytes)) = some (some (.int .u64 0), 1, 8) := by kernel_rfl
theorem isz13 : (Tryd.prog.info? 13).map (·.size) = some 2 := by kernel_rfl
theorem inf13 : (Tryd.prog.info? 13).map (fun i => (i.zero, i.size, i.bytes)) = some (some (.agg #[.string ⟨#[]⟩, .int .u64 0]), 2, 24) := by kernel_rfl
theorem isz14 : (Tryd.prog.info? 14).map (·.size) = some 2 := by kernel_rfl
theorem inf14 : (Tryd.prog.info? 14).map (fun i => (i.zero, i.size, i.bytes)) = some (some (.agg #[.string ⟨#[]⟩, .int .u64 0]), 2, 24) := by kernel_rfl
theorem isz15 : (Tryd.prog.info? 15).map (·.size) = some 1 := by kernel_rfl
theorem inf15 : (Tryd.prog.info? 15).map (fun i => (i.zero, i.size, i.bytes)) = some (some (.pointer none), 1, 8) := by kernel_rfl
theorem isz16 : (Tryd.prog.info? 16).map (·.size) = some 1 := by kernel_rfl
theorem inf16 : (Tryd.prog.info? 16).map (fun i => (i.zero, i.size, i.bytes)) = some (some (.pointer none), 1, 8) := by kernel_rfl
theorem isz17 : (Tryd.prog.info? 17).map (·.size) = some 1 := by kernel_rfl
theorem inf17 : (Tryd.prog.info? 17).map (fun i => (i.zero, i.size, i.bytes)) = some (some (.pointer none), 1, 8) := by kernel_rfl
theorem isz18 : (Tryd.prog.info? 18).map (·.size) = some 1 := by kernel_rfl
theorem inf18 : (Tryd.prog.info? 18).map (fun i => (i.zero, i.size, i.bytes)) = some (some (.agg #[.pointer none]), 1, 8) := by kernel_rfl
theorem isz19 : (Tryd.prog.info? 19).map (·.size) = some 1 := by kernel_rfl
theorem inf19 : (Tryd.prog.info? 19).map (fun i => (i.zero, i.size, i.bytes)) = some (some (.agg #[.pointer none]), 1, 8) := by kernel_rfl
theorem isz20 : (Tryd.prog.info? 20).map (·.size) = some 1 := by kernel_rfl
theorem inf20 : (Tryd.prog.info? 20).map (fun i => (i.zero, i.size, i.bytes)) = some (some (.nilIface), 1, 16) := by kernel_rfl
theorem isz21 : (Tryd.prog.info? 21).map (·.size) = some 1 := by kernel_rfl
theorem inf21 : (Tryd.prog.info? 21).map (fun i => (i.zero, i.size, i.bytes)) = some (some (.int .i32 0), 1, 4) := by kernel_rfl
theorem isz22 : (Tryd.prog.info? 22).map (·.size) = some 1 := by kernel_rfl
theorem inf22 : (Tryd.prog.info? 22).map (fun i => (i.zero, i.size, i.bytes)) = some (some (.nilFunc), 1, 8) := by kernel_rfl
theorem isz23 : (Tryd.prog.info? 23).map (·.size) = some 1 := by kernel_rfl
theorem inf23 : (Tryd.prog.info? 23).map (fun i => (i.zero, i.size, i.bytes)) = some (some (.nilFunc), 1, 8) := by kernel_rfl
theorem isz24 : (Tryd.prog.info? 24).map (·.size) = some 1 := by kernel_rfl
theorem inf24 : (Tryd.prog.info? 24).map (fun i => (i.zero, i.size, i.bytes)) = some (some (.nilIface), 1, 16) := by kernel_rfl
theorem isz25 : (Tryd.prog.info? 25).map (·.size) = some 1 := by kernel_rfl
theorem inf25 : (Tryd.prog.info? 25).map (fun i => (i.zero, i.size, i.bytes)) = some (some (.nilIface), 1, 16) := by kernel_rfl
theorem isz26 : (Tryd.prog.info? 26).map (·.size) = some 1 := by kernel_rfl
theorem inf26 : (Tryd.prog.info? 26).map (fun i => (i.zero, i.size, i.bytes)) = some (some (.nilFunc), 1, 8) := by kernel_rfl
theorem isz27 : (Tryd.prog.info? 27).map (·.size) = some 2 := by kernel_rfl
theorem inf27 : (Tryd.prog.info? 27).map (fun i => (i.zero, i.size, i.bytes)) = some (some (.agg #[.int .i64 0, .int .i64 0]), 2, 16) := by kernel_rfl
theorem isz28 : (Tryd.prog.info? 28).map (·.size) = some 2 := by kernel_rfl
theorem inf28 : (Tryd.prog.info? 28).map (fun i => (i.zero, i.size, i.bytes)) = some (some (.agg #[.int .i64 0, .int .i64 0]), 2, 16) := by kernel_rfl
theorem isz29 : (Tryd.prog.info? 29).map (·.size) = some 1 := by kernel_rfl
theorem inf29 : (Tryd.prog.info? 29).map (fun i => (i.zero, i.size, i.bytes)) = some (some (.tuple #[.int .i64 0, .agg #[.int .i64 0, .int .i64 0]]), 1, 0) := by kernel_rfl
theorem isz30 : (Tryd.prog.info? 30).map (·.size) = some 1 := by kernel_rfl
theorem inf30 : (Tryd.prog.info? 30).map (fun i => (i.zero, i.size, i.bytes)) = some (some (.nilFunc), 1, 8) := by kernel_rfl
theorem isz31 : (Tryd.prog.info? 31).map (·.size) = some 1 := by kernel_rfl
theorem inf31 : (Tryd.prog.info? 31).map (fun i => (i.zero, i.size, i.bytes)) = some (some (.nilFunc), 1, 8) := by kernel_rfl
theorem isz32 : (Tryd.prog.info? 32).map (·.size) = some 1 := by kernel_rfl
theorem inf32 : (Tryd.prog.info? 32).map (fun i => (i.zero, i.size, i.bytes)) = some (some (.tuple #[.string ⟨#[]⟩, .int .i64 0]), 1, 0) := by kernel_rfl
theorem isz33 : (Tryd.prog.info? 33).map (·.size) = some 1 := by kernel_rfl
theorem inf33 : (Tryd.prog.info? 33).map (fun i => (i.zero, i.size, i.bytes)) = some (some (.nilFunc), 1, 8) := by kernel_rfl
theorem isz34 : (Tryd.prog.info? 34).map (·.size) = some 1 := by kernel_rfl
theorem inf34 : (Tryd.prog.info? 34).map (fun i => (i.zero, i.size, i.bytes)) = some (some (.tuple #[.string ⟨#[]⟩, .nilIface]), 1, 0) := by kernel_rfl
theorem isz35 : (Tryd.prog.info? 35).map (·.size) = some 1 := by kernel_rfl
theorem inf35 : (Tryd.prog.info? 35).map (fun i => (i.zero, i.size, i.bytes)) = some (some (.nilFunc), 1, 8) := by kernel_rfl
theorem isz36 : (Tryd.prog.info? 36).map (·.size) = some 1 := by kernel_rfl
theorem inf36 : (Tryd.prog.info? 36).map (fun i => (i.zero, i.size, i.bytes)) = some (some (.nilFunc), 1, 8) := by kernel_rfl
theorem isz37 : (Tryd.prog.info? 37).map (·.size) = some 1 := by kernel_rfl
theorem inf37 : (Tryd.prog.info? 37).map (fun i => (i.zero, i.size, i.bytes)) = some (some (.nilFunc), 1, 8) := by kernel_rfl
theorem isz38 : (Tryd.prog.info? 38).map (·.size) = some 1 := by kernel_rfl
theorem inf38 : (Tryd.prog.info? 38).map (fun i => (i.zero, i.size, i.bytes)) = some (some (.nilFunc), 1, 8) := by kernel_rfl
theorem isz39 : (Tryd.prog.info? 39).map (·.size) = some 1 := by kernel_rfl
theorem inf39 : (Tryd.prog.info? 39).map (fun i => (i.zero, i.size, i.bytes)) = some (some (.int .i64 0), 1, 8) := by kernel_rfl
theorem isz40 : (Tryd.prog.info? 40).map (·.size) = some 3 := by kernel_rfl
theorem inf40 : (Tryd.prog.info? 40).map (fun i => (i.zero, i.size, i.bytes)) = some (some (.agg #[.int .i64 0, .int .i64 0, .int .i64 0]), 3, 24) := by kernel_rfl
theorem isz41 : (Tryd.prog.info? 41).map (·.size) = some 3 := by kernel_rfl
theorem inf41 : (Tryd.prog.info? 41).map (fun i => (i.zero, i.size, i.bytes)) = some (some (.agg #[.int .i64 0, .int .i64 0, .int .i64 0]), 3, 24) := by kernel_rfl
theorem isz42 : (Tryd.prog.info? 42).map (·.size) = some 1 := by kernel_rfl
theorem inf42 : (Tryd.prog.info? 42).map (fun i => (i.zero, i.size, i.bytes)) = some (some (.nilFunc), 1, 8) := by kernel_rfl
theorem isz43 : (Tryd.prog.info? 43).map (·.size) = some 1 := by kernel_rfl
theorem inf43 : (Tryd.prog.info? 43).map (fun i => (i.zero, i.size, i.bytes)) = some (some (.nilFunc), 1, 8) := by kernel_rfl
theorem isz44 : (Tryd.prog.info? 44).map (·.size) = some 1 := by kernel_rfl
theorem inf44 : (Tryd.prog.info? 44).map (fun i => (i.zero, i.size, i.bytes)) = some (some (.pointer none), 1, 8) := by kernel_rfl
theorem isz45 : (Tryd.prog.info? 45).map (·.size) = some 1 := by kernel_rfl
theorem inf45 : (Tryd.prog.info? 45).map (fun i => (i.zero, i.size, i.bytes)) = some (some (.nilFunc), 1, 8) := by kernel_rfl
theorem isz46 : (Tryd.prog.info? 46).map (·.size) = some 1 := by kernel_rfl
theorem inf46 : (Tryd.prog.info? 46).map (fun i => (i.zero, i.size, i.bytes)) = some (some (.nilFunc), 1, 8) := by kernel_rfl
theorem isz47 : (Tryd.prog.info? 47).map (·.size) = some 1 := by kernel_rfl
theorem inf47 : (Tryd.prog.info? 47).map (fun i => (i.zero, i.size, i.bytes)) = some (some (.nilFunc), 1, 8) := by kernel_rfl
theorem isz48 : (Tryd.prog.info? 48).map (·.size) = some 1 := by kernel_rfl
theorem inf48 : (Tryd.prog.info? 48).map (fun i => (i.zero, i.size, i.bytes)) = some (some (.nilFunc), 1, 8) := by kernel_rfl
theorem isz49 : (Tryd.prog.info? 49).map (·.size) = some 1 := by kernel_rfl
theorem inf49 : (Tryd.prog.info? 49).map (fun i => (i.zero, i.size, i.bytes)) = some (some (.nilFunc), 1, 8) := by kernel_rfl
theorem isz50 : (Tryd.prog.info? 50).map (·.size) = some 1 := by kernel_rfl
theorem inf50 : (Tryd.prog.info? 50).map (fun i => (i.zero, i.size, i.bytes)) = some (some (.slice none 0 0), 1, 24) := by kernel_rfl
theorem isz51 : (Tryd.prog.info? 51).map (·.size) = some 1 := by kernel_rfl
theorem inf51 : (Tryd.prog.info? 51).map (fun i => (i.zero, i.size, i.bytes)) = some (some (.nilFunc), 1, 8) := by kernel_rfl
theorem isz52 : (Tryd.prog.info? 52).map (·.size) = some 5 := by kernel_rfl
theorem inf52 : (Tryd.prog.info? 52).map (fun i => (i.zero, i.size, i.bytes)) = some (some (.agg #[.int .i64 0, .int .i64 0, .int .i32 0, .int .i64 0, .bool false]), 5, 40) := by kernel_rfl
theorem isz53 : (Tryd.prog.info? 53).map (·.size) = some 5 := by kernel_rfl
theorem inf53 : (Tryd.prog.info? 53).map (fun i => (i.zero, i.size, i.bytes)) = some (some (.agg #[.int .i64 0, .int .i64 0, .int .i32 0, .int .i64 0, .bool false]), 5, 40) := by kernel_rfl
theorem isz54 : (Tryd.prog.info? 54).map (·.size) = some 1 := by kernel_rfl
theorem inf54 : (Tryd.prog.info? 54).map (fun i => (i.zero, i.size, i.bytes)) = some (some (.tuple #[.int .i64 0, .int .i64 0, .bool false]), 1, 0) := by kernel_rfl
theorem isz55 : (Tryd.prog.info? 55).map (·.size) = some 1 := by kernel_rfl
theorem inf55 : (Tryd.prog.info? 55).map (fun i => (i.zero, i.size, i.bytes)) = some (some (.nilFunc), 1, 8) := by kernel_rfl
theorem isz56 : (Tryd.prog.info? 56).map (·.size) = some 1 := by kernel_rfl
theorem inf56 : (Tryd.prog.info? 56).map (fun i => (i.zero, i.size, i.bytes)) = some (some (.slice none 0 0), 1, 24) := by kernel_rfl
theorem isz57 : (Tryd.prog.info? 57).map (·.size) = some 1 := by kernel_rfl
theorem inf57 : (Tryd.prog.info? 57).map (fun i => (i.zero, i.size, i.bytes)) = some (some (.nilFunc), 1, 8) := by kernel_rfl
theorem isz58 : (Tryd.prog.info? 58).map (·.size) = some 1 := by kernel_rfl
theorem inf58 : (Tryd.prog.info? 58).map (fun i => (i.zero, i.size, i.bytes)) = some (some (.pointer none), 1, 8) := by kernel_rfl
theorem isz59 : (Tryd.prog.info? 59).map (·.size) = some 2 := by kernel_rfl
theorem inf59 : (Tryd.prog.info? 59).map (fun i => (i.zero, i.size, i.bytes)) = some (some (.agg #[.pointer none, .slice none 0 0]), 2, 32) := by kernel_rfl
theorem isz60 : (Tryd.prog.info? 60).map (·.size) = some 2 := by kernel_rfl
theorem inf60 : (Tryd.prog.info? 60).map (fun i => (i.zero, i.size, i.bytes)) = some (some (.agg #[.pointer none, .slice none 0 0]), 2, 32) := by kernel_rfl
theorem isz61 : (Tryd.prog.info? 61).map (·.size) = some 1 := by kernel_rfl
theorem inf61 : (Tryd.prog.info? 61).map (fun i => (i.zero, i.size, i.bytes)) = some (some (.nilFunc), 1, 8) := by kernel_rfl
theorem isz62 : (Tryd.prog.info? 62).map (·.size) = some 1 := by kernel_rfl
theorem inf62 : (Tryd.prog.info? 62).map (fun i => (i.zero, i.size, i.bytes)) = some (some (.nilFunc), 1, 8) := by kernel_rfl
theorem isz63 : (Tryd.prog.info? 63).map (·.size) = some 1 := by kernel_rfl
theorem inf63 : (Tryd.prog.info? 63).map (fun i => (i.zero, i.size, i.bytes)) = some (some (.pointer none), 1, 8) := by kernel_rfl
theorem isz64 : (Tryd.prog.info? 64).map (·.size) = some 1 := by kernel_rfl
theorem inf64 : (Tryd.prog.info? 64).map (fun i => (i.zero, i.size, i.bytes)) = some (some (.nilFunc), 1, 8) := by kernel_rfl
theorem isz65 : (Tryd.prog.info? 65).map (·.size) = some 1 := by kernel_rfl
theorem inf65 : (Tryd.prog.info? 65).map (fun i => (i.zero, i.size, i.bytes)) = some (some (.nilFunc), 1, 8) := by kernel_rfl
theorem isz66 : (Tryd.prog.info? 66).map (·.size) = some 1 := by kernel_rfl
theorem inf66 : (Tryd.prog.info? 66).map (fun i => (i.zero, i.size, i.bytes)) = some (some (.pointer none), 1, 8) := by kernel_rfl
theorem isz67 : (Tryd.prog.info? 67).map (·.size) = some 1 := by kernel_rfl
theorem inf67 : (Tryd.prog.info? 67).map (fun i => (i.zero, i.size, i.bytes)) = some (some (.int .u64 0), 1, 8) := by kernel_rfl
theorem isz68 : (Tryd.prog.info? 68).map (·.size) = some 3 := by kernel_rfl
theorem inf68 : (Tryd.prog.info? 68).map (fun i => (i.zero, i.size, i.bytes)) = some (some (.agg #[.pointer none, .pointer none, .int .u64 0]), 3, 24) := by kernel_rfl
theorem isz69 : (Tryd.prog.info? 69).map (·.size) = some 3 := by kernel_rfl
theorem inf69 : (Tryd.prog.info? 69).map (fun i => (i.zero, i.size, i.bytes)) = some (some (.agg #[.pointer none, .pointer none, .int .u64 0]), 3, 24) := by kernel_rfl
theorem isz70 : (Tryd.prog.info? 70).map (·.size) = some 1 := by kernel_rfl
theorem inf70 : (Tryd.prog.info? 70).map (fun i => (i.zero, i.size, i.bytes)) = some (some (.nilFunc), 1, 8) := by kernel_rfl
theorem isz71 : (Tryd.prog.info? 71).map (·.size) = some 1 := by kernel_rfl
theorem inf71 : (Tryd.prog.info? 71).map (fun i => (i.zero, i.size, i.bytes)) = some (some (.nilIface), 1, 16) := by kernel_rfl
theorem isz72 : (Tryd.prog.info? 72).map (·.size) = some 1 := by kernel_rfl
theorem inf72 : (Tryd.prog.info? 72).map (fun i => (i.zero, i.size, i.bytes)) = some (some (.nilIface), 1, 16) := by kernel_rfl
theorem isz73 : (Tryd.prog.info? 73).map (·.size) = some 1 := by kernel_rfl
theorem inf73 : (Tryd.prog.info? 73).map (fun i => (i.zero, i.size, i.bytes)) = some (some (.nilFunc), 1, 8) := by kernel_rfl
theorem isz74 : (Tryd.prog.info? 74).map (·.size) = some 1 := by kernel_rfl
theorem inf74 : (Tryd.prog.info? 74).map (fun i => (i.zero, i.size, i.bytes)) = some (some (.int .u8 0), 1, 1) := by kernel_rfl
theorem isz75 : (Tryd.prog.info? 75).map (·.size) = some 1 := by kernel_rfl
theorem inf75 : (Tryd.prog.info? 75).map (fun i => (i.zero, i.size, i.bytes)) = some (some (.nilFunc), 1, 8) := by kernel_rfl
theorem isz76 : (Tryd.prog.info? 76).map (·.size) = some 1 := by kernel_rfl
theorem inf76 : (Tryd.prog.info? 76).map (fun i => (i.zero, i.size, i.bytes)) = some (some (.nilFunc), 1, 8) := by kernel_rfl
theorem isz77 : (Tryd.prog.info? 77).map (·.size) = some 1 := by kernel_rfl
theorem inf77 : (Tryd.prog.info? 77).map (fun i => (i.zero, i.size, i.bytes)) = some (some (.nilFunc), 1, 8) := by kernel_rfl
theorem isz78 : (Tryd.prog.info? 78).map (·.size) = some 1 := by kernel_rfl
theorem inf78 : (Tryd.prog.info? 78).map (fun i => (i.zero, i.size, i.bytes)) = some (some (.nilFunc), 1, 8) := by kernel_rfl
theorem isz79 : (Tryd.prog.info? 79).map (·.size) = some 1 := by kernel_rfl
theorem inf79 : (Tryd.prog.info? 79).map (fun i => (i.zero, i.size, i.bytes)) = some (some (.nilFunc), 1, 8) := by kernel_rfl
theorem isz80 : (Tryd.prog.info? 80).map (·.size) = some 1 := by kernel_rfl
theorem inf80 : (Tryd.prog.info? 80).map (fun i => (i.zero, i.size, i.bytes)) = some (some (.pointer none), 1, 8) := by kernel_rfl
theorem isz81 : (Tryd.prog.info? 81).map (·.size) = some 1 := by kernel_rfl
theorem inf81 : (Tryd.prog.info? 81).map (fun i => (i.zero, i.size, i.bytes)) = some (some (.slice none 0 0), 1, 24) := by kernel_rfl
theorem isz82 : (Tryd.prog.info? 82).map (·.size) = some 0 := by kernel_rfl
theorem inf82 : (Tryd.prog.info? 82).map (fun i => (i.zero, i.size, i.bytes)) = some (some (.agg #[]), 0, 0) := by kernel_rfl
theorem isz83 : (Tryd.prog.info? 83).map (·.size) = some 0 := by kernel_rfl
theorem inf83 : (Tryd.prog.info? 83).map (fun i => (i.zero, i.size, i.bytes)) = some (some (.agg #[]), 0, 0) := by kernel_rfl
theorem isz84 : (Tryd.prog.info? 84).map (·.size) = some 0 := by kernel_rfl
theorem inf84 : (Tryd.prog.info? 84).map (fun i => (i.zero, i.size, i.bytes)) = some (some (.agg #[]), 0, 0) := by kernel_rfl
theorem isz85 : (Tryd.prog.info? 85).map (·.size) = some 1 := by kernel_rfl
theorem inf85 : (Tryd.prog.info? 85).map (fun i => (i.zero, i.size, i.bytes)) = some (some (.int .u32 0), 1, 4) := by kernel_rfl
theorem isz86 : (Tryd.prog.info? 86).map (·.size) = some 1 := by kernel_rfl
theorem inf86 : (Tryd.prog.info? 86).map (fun i => (i.zero, i.size, i.bytes)) = some (some (.agg #[.int .u32 0]), 1, 4) := by kernel_rfl
theorem isz87 : (Tryd.prog.info? 87).map (·.size) = some 1 := by kernel_rfl
theorem inf87 : (Tryd.prog.info? 87).map (fun i => (i.zero, i.size, i.bytes)) = some (some (.agg #[.int .u32 0]), 1, 4) := by kernel_rfl
theorem isz88 : (Tryd.prog.info? 88).map (·.size) = some 2 := by kernel_rfl
theorem inf88 : (Tryd.prog.info? 88).map (fun i => (i.zero, i.size, i.bytes)) = some (some (.agg #[.int .i32 0, .int .u32 0]), 2, 8) := by kernel_rfl
theorem isz89 : (Tryd.prog.info? 89).map (·.size) = some 2 := by kernel_rfl
theorem inf89 : (Tryd.prog.info? 89).map (fun i => (i.zero, i.size, i.bytes)) = some (some (.agg #[.int .i32 0, .int .u32 0]), 2, 8) := by kernel_rfl
theorem isz90 : (Tryd.prog.info? 90).map (·.size) = some 2 := by kernel_rfl
theorem inf90 : (Tryd.prog.info? 90).map (fun i => (i.zero, i.size, i.bytes)) = some (some (.agg #[.int .i32 0, .int .u32 0]), 2, 8) := by kernel_rfl
theorem isz91 : (Tryd.prog.info? 91).map (·.size) = some 2 := by kernel_rfl
theorem inf91 : (Tryd.prog.info? 91).map (fun i => (i.zero, i.size, i.bytes)) = some (some (.agg #[.int .i32 0, .int .u32 0]), 2, 8) := by kernel_rfl
theorem isz92 : (Tryd.prog.info? 92).map (·.size) = some 3 := by kernel_rfl
theorem inf92 : (Tryd.prog.info? 92).map (fun i => (i.zero, i.size, i.bytes)) = some (some (.agg #[.int .u32 0, .int .i32 0, .int .u32 0]), 3, 12) := by kernel_rfl
theorem isz93 : (Tryd.prog.info? 93).map (·.size) = some 3 := by kernel_rfl
theorem inf93 : (Tryd.prog.info? 93).map (fun i => (i.zero, i.size, i.bytes)) = some (some (.agg #[.int .u32 0, .int .i32 0, .int .u32 0]), 3, 12) := by kernel_rfl
theorem isz94 : (Tryd.prog.info? 94).map (·.size) = some 1 := by kernel_rfl
theorem inf94 : (Tryd.prog.info? 94).map (fun i => (i.zero, i.size, i.bytes)) = some (some (.nilIface), 1, 16) := by kernel_rfl
theorem isz95 : (Tryd.prog.info? 95).map (·.size) = some 1 := by kernel_rfl
theorem inf95 : (Tryd.prog.info? 95).map (fun i => (i.zero, i.size, i.bytes)) = some (some (.nilIface), 1, 16) := by kernel_rfl
theorem isz96 : (Tryd.prog.info? 96).map (·.size) = some 5 := by kernel_rfl
theorem inf96 : (Tryd.prog.info? 96).map (fun i => (i.zero, i.size, i.bytes)) = some (some (.agg #[.int .u32 0, .int .i32 0, .int .u32 0, .nilIface, .slice none 0 0]), 5, 56) := by kernel_rfl
theorem isz97 : (Tryd.prog.info? 97).map (·.size) = some 5 := by kernel_rfl
theorem inf97 : (Tryd.prog.info? 97).map (fun i => (i.zero, i.size, i.bytes)) = some (some (.agg #[.int .u32 0, .int .i32 0, .int .u32 0, .nilIface, .slice none 0 0]), 5, 56) := by kernel_rfl
theorem isz98 : (Tryd.prog.info? 98).map (·.size) = some 1 := by kernel_rfl
theorem inf98 : (Tryd.prog.info? 98).map (fun i => (i.zero, i.size, i.bytes)) = some (some (.nilFunc), 1, 8) := by kernel_rfl
theorem isz99 : (Tryd.prog.info? 99).map (·.size) = some 1 := by kernel_rfl
theorem inf99 : (Tryd.prog.info? 99).map (fun i => (i.zero, i.size, i.bytes)) = some (some (.nilFunc), 1, 8) := by kernel_rfl
theorem isz100 : (Tryd.prog.info? 100).map (·.size) = some 1 := by kernel_rfl
theorem inf100 : (Tryd.prog.info? 100).map (fun i => (i.zero, i.size, i.bytes)) = some (some (.nilFunc), 1, 8) := by kernel_rfl
theorem isz101 : (Tryd.prog.info? 101).map (·.size) = some 1 := by kernel_rfl
theorem inf101 : (Tryd.prog.info? 101).map (fun i => (i.zero, i.size, i.bytes)) = some (some (.agg #[.pointer none]), 1, 8) := by kernel_rfl
theorem isz102 : (Tryd.prog.info? 102).map (·.size) = some 1 := by kernel_rfl
theorem inf102 : (Tryd.prog.info? 102).map (fun i => (i.zero, i.size, i.bytes)) = some (some (.agg #[.pointer none]), 1, 8) := by kernel_rfl
theorem isz103 : (Tryd.prog.info? 103).map (·.size) = some 1 := by kernel_rfl
theorem inf103 : (Tryd.prog.info? 103).map (fun i => (i.zero, i.size, i.bytes)) = some (some (.pointer none), 1, 8) := by kernel_rfl
theorem isz104 : (Tryd.prog.info? 104).map (·.size) = some 1 := by kernel_rfl
theorem inf104 : (Tryd.prog.info? 104).map (fun i => (i.zero, i.size, i.bytes)) = some (some (.nilFunc), 1, 8) := by kernel_rfl
theorem isz105 : (Tryd.prog.info? 105).map (·.size) = some 1 := by kernel_rfl
theorem inf105 : (Tryd.prog.info? 105).map (fun i => (i.zero, i.size, i.bytes)) = some (some (.nilFunc), 1, 8) := by kernel_rfl
theorem isz106 : (Tryd.prog.info? 106).map (·.size) = some 1 := by kernel_rfl
theorem inf106 : (Tryd.prog.info? 106).map (fun i => (i.zero, i.size, i.bytes)) = some (some (.nilIface), 1, 16) := by kernel_rfl
theorem isz107 : (Tryd.prog.info? 107).map (·.size) = some 1 := by kernel_rfl
theorem inf107 : (Tryd.prog.info? 107).map (fun i => (i.zero, i.size, i.bytes)) = some (some (.tuple #[.nilIface, .bool false]), 1, 0) := by kernel_rfl
theorem isz108 : (Tryd.prog.info? 108).map (·.size) = some 1 := by kernel_rfl
theorem inf108 : (Tryd.prog.info? 108).map (fun i => (i.zero, i.size, i.bytes)) = some (some (.nilFunc), 1, 8) := by kernel_rfl
theorem isz109 : (Tryd.prog.info? 109).map (·.size) = some 1 := by kernel_rfl
theorem inf109 : (Tryd.prog.info? 109).map (fun i => (i.zero, i.size, i.bytes)) = some (some (.nilIface), 1, 16) := by kernel_rfl
theorem isz110 : (Tryd.prog.info? 110).map (·.size) = some 1 := by kernel_rfl
theorem inf110 : (Tryd.prog.info? 110).map (fun i => (i.zero, i.size, i.bytes)) = some (some (.nilFunc), 1, 8) := by kernel_rfl
theorem isz111 : (Tryd.prog.info? 111).map (·.size) = some 1 := by kernel_rfl
theorem inf111 : (Tryd.prog.info? 111).map (fun i => (i.zero, i.size, i.bytes)) = some (some (.nilIface), 1, 16) := by kernel_rfl
theorem isz112 : (Tryd.prog.info? 112).map (·.size) = some 1 := by kernel_rfl
theorem inf112 : (Tryd.prog.info? 112).map (fun i => (i.zero, i.size, i.bytes)) = some (some (.slice none 0 0), 1, 24) := by kernel_rfl
theorem isz113 : (Tryd.prog.info? 113).map (·.size) = some 1 := by kernel_rfl
theorem inf113 : (Tryd.prog.info? 113).map (fun i => (i.zero, i.size, i.bytes)) = some (some (.nilFunc), 1, 8) := by kernel_rfl
theorem isz114 : (Tryd.prog.info? 114).map (·.size) = some 1 := by kernel_rfl
theorem inf114 : (Tryd.prog.info? 114).map (fun i => (i.zero, i.size, i.bytes)) = some (some (.nilFunc), 1, 8) := by kernel_rfl
theorem isz115 : (Tryd.prog.info? 115).map (·.size) = some 1 := by kernel_rfl
theorem inf115 : (Tryd.prog.info? 115).map (fun i => (i.zero, i.size, i.bytes)) = some (some (.nilFunc), 1, 8) := by kernel_rfl
theorem isz117 : (Tryd.prog.info? 117).map (·.size) = some 2 := by kernel_rfl
theorem inf117 : (Tryd.prog.info? 117).map (fun i => (i.zero, i.size, i.bytes)) = some (some (.agg #[.int .u8 0, .int .u8 0]), 2, 2) := by kernel_rfl
theorem isz118 : (Tryd.prog.info? 118).map (·.size) = some 2 := by kernel_rfl
theorem inf118 : (Tryd.prog.info? 118).map (fun i => (i.zero, i.size, i.bytes)) = some (some (.agg #[.int .u8 0, .int .u8 0]), 2, 2) := by kernel_rfl
theorem isz119 : (Tryd.prog.info? 119).map (·.size) = some 32 := by kernel_rfl
theorem inf119 : (Tryd.prog.info? 119).map (fun i => (i.zero, i.size, i.bytes)) = some (some (.agg #[.int .u8 0, .int .u8 0, .int .u8 0, .int .u8 0, .int .u8 0, .int .u8 0, .int .u8 0, .int .u8 0, .int .u8 0, .int .u8 0, .int .u8 0, .int .u8 0, .int .u8 0, .int .u8 0, .int .u8 0, .int .u8 0, .int .u8 0, .int .u8 0, .int .u8 0, .int .u8 0, .int .u8 0, .int .u8 0, .int .u8 0, .int .u8 0, .int .u8 0, .int .u8 0, .int .u8 0, .int .u8 0, .int .u8 0, .int .u8 0, .int .u8 0, .int .u8 0]), 32, 32) := by kernel_rfl
theorem isz120 : (Tryd.prog.info? 120).map (·.size) = some 1 := by kernel_rfl
theorem inf120 : (Tryd.prog.info? 120).map (fun i => (i.zero, i.size, i.bytes)) = some (some (.int .u64 0), 1, 8) := by kernel_rfl
theorem isz121 : (Tryd.prog.info? 121).map (·.size) = some 1 := by kernel_rfl
theorem inf121 : (Tryd.prog.info? 121).map (fun i => (i.zero, i.size, i.bytes)) = some (some (.nilFunc), 1, 8) := by kernel_rfl
theorem isz122 : (Tryd.prog.info? 122).map (·.size) = some 1 := by kernel_rfl
theorem inf122 : (Tryd.prog.info? 122).map (fun i => (i.zero, i.size, i.bytes)) = some (some (.pointer none), 1, 8) := by kernel_rfl
theorem isz123 : (Tryd.prog.info? 123).map (·.size) = some 1 := by kernel_rfl
theorem inf123 : (Tryd.prog.info? 123).map (fun i => (i.zero, i.size, i.bytes)) = some (some (.nilFunc), 1, 8) := by kernel_rfl
theorem isz124 : (Tryd.prog.info? 124).map (·.size) = some 1 := by kernel_rfl
theorem inf124 : (Tryd.prog.info? 124).map (fun i => (i.zero, i.size, i.bytes)) = some (some (.nilIface), 1, 16) := by kernel_rfl
theorem isz125 : (Tryd.prog.info? 125).map (·.size) = some 1 := by kernel_rfl
theorem inf125 : (Tryd.prog.info? 125).map (fun i => (i.zero, i.size, i.bytes)) = some (some (.tuple #[.nilIface, .bool false]), 1, 0) := by kernel_rfl
theorem isz126 : (Tryd.prog.info? 126).map (·.size) = some 1 := by kernel_rfl
theorem inf126 : (Tryd.prog.info? 126).map (fun i => (i.zero, i.size, i.bytes)) = some (some (.nilFunc), 1, 8) := by kernel_rfl
theorem isz127 : (Tryd.prog.info? 127).map (·.size) = some 1 := by kernel_rfl
theorem inf127 : (Tryd.prog.info? 127).map (fun i => (i.zero, i.size, i.bytes)) = some (some (.int .u64 0), 1, 8) := by kernel_rfl
theorem isz128 : (Tryd.prog.info? 128).map (·.size) = some 1 := by kernel_rfl
theorem inf128 : (Tryd.prog.info? 128).map (fun i => (i.zero, i.size, i.bytes)) = some (some (.nilFunc), 1, 8) := by kernel_rfl
theorem isz129 : (Tryd.prog.info? 129).map (·.size) = some 1 := by kernel_rfl
theorem inf129 : (Tryd.prog.info? 129).map (fun i => (i.zero, i.size, i.bytes)) = some (some (.pointer none), 1, 8) := by kernel_rfl
theorem isz130 : (Tryd.prog.info? 130).map (·.size) = some 1 := by kernel_rfl
theorem inf130 : (Tryd.prog.info? 130).map (fun i => (i.zero, i.size, i.bytes)) = some (some (.nilFunc), 1, 8) := by kernel_rfl
theorem isz131 : (Tryd.prog.info? 131).map (·.size) = some 1 := by kernel_rfl
theorem inf131 : (Tryd.prog.info? 131).map (fun i => (i.zero, i.size, i.bytes)) = some (some (.pointer none), 1, 8) := by kernel_rfl
theorem isz132 : (Tryd.prog.info? 132).map (·.size) = some 1 := by kernel_rfl
theorem inf132 : (Tryd.prog.info? 132).map (fun i => (i.zero, i.size, i.bytes)) = some (some (.nilFunc), 1, 8) := by kernel_rfl
theorem isz133 : (Tryd.prog.info? 133).map (·.size) = some 1 := by kernel_rfl
theorem inf133 : (Tryd.prog.info? 133).map (fun i => (i.zero, i.size, i.bytes)) = some (some (.pointer none), 1, 8) := by kernel_rfl
theorem isz134 : (Tryd.prog.info? 134).map (·.size) = some 1 := by kernel_rfl
theorem inf134 : (Tryd.prog.info? 134).map (fun i => (i.zero, i.size, i.bytes)) = some (some (.nilFunc), 1, 8) := by kernel_rfl
theorem isz135 : (Tryd.prog.info? 135).map (·.size) = some 1 := by kernel_rfl
theorem inf135 : (Tryd.prog.info? 135).map (fun i => (i.zero, i.size, i.bytes)) = some (some (.pointer none), 1, 8) := by kernel_rfl
theorem isz136 : (Tryd.prog.info? 136).map (·.size) = some 1 := by kernel_rfl
theorem inf136 : (Tryd.prog.info? 136).map (fun i => (i.zero, i.size, i.bytes)) = some (some (.nilFunc), 1, 8) := by kernel_rfl
theorem isz138 : (Tryd.prog.info? 138).map (·.size) = some 1 := by kernel_rfl
theorem inf138 : (Tryd.prog.info? 138).map (fun i => (i.zero, i.size, i.bytes)) = some (some (.pointer none), 1, 8) := by kernel_rfl
theorem isz142 : (Tryd.prog.info? 142).map (·.size) = some 1 := by kernel_rfl
theorem inf142 : (Tryd.prog.info? 142).map (fun i => (i.zero, i.size, i.bytes)) = some (some (.pointer none), 1, 8) := by kernel_rfl
theorem isz143 : (Tryd.prog.info? 143).map (·.size) = some 1 := by kernel_rfl
theorem inf143 : (Tryd.prog.info? 143).map (fun i => (i.zero, i.size, i.bytes)) = some (some (.pointer none), 1, 8) := by kernel_rfl
theorem isz144 : (Tryd.prog.info? 144).map (·.size) = some 1 := by kernel_rfl
theorem inf144 : (Tryd.prog.info? 144).map (fun i => (i.zero, i.size, i.bytes)) = some (some (.nilFunc), 1, 8) := by kernel_rfl
theorem isz145 : (Tryd.prog.info? 145).map (·.size) = some 1 := by kernel_rfl
theorem inf145 : (Tryd.prog.info? 145).map (fun i => (i.zero, i.size, i.bytes)) = some (some (.nilFunc), 1, 8) := by kernel_rfl
theorem isz146 : (Tryd.prog.info? 146).map (·.size) = some 1 := by kernel_rfl
theorem inf146 : (Tryd.prog.info? 146).map (fun i => (i.zero, i.size, i.bytes)) = some (some (.pointer none), 1, 8) := by kernel_rfl
theorem isz147 : (Tryd.prog.info? 147).map (·.size) = some 1 := by kernel_rfl
theorem inf147 : (Tryd.prog.info? 147).map (fun i => (i.zero, i.size, i.bytes)) = some (some (.nilFunc), 1, 8) := by kernel_rfl
theorem isz148 : (Tryd.prog.info? 148).map (·.size) = some 2 := by kernel_rfl
theorem inf148 : (Tryd.prog.info? 148).map (fun i => (i.zero, i.size, i.bytes)) = some (some (.agg #[.pointer none, .string ⟨#[]⟩]), 2, 24) := by kernel_rfl
theorem isz149 : (Tryd.prog.info? 149).map (·.size) = some 2 := by kernel_rfl
theorem inf149 : (Tryd.prog.info? 149).map (fun i => (i.zero, i.size, i.bytes)) = some (some (.agg #[.pointer none, .string ⟨#[]⟩]), 2, 24) := by kernel_rfl
theorem isz150 : (Tryd.prog.info? 150).map (·.size) = some 1 := by kernel_rfl
theorem inf150 : (Tryd.prog.info? 150).map (fun i => (i.zero, i.size, i.bytes)) = some (some (.pointer none), 1, 8) := by kernel_rfl
theorem isz151 : (Tryd.prog.info? 151).map (·.size) = some 1 := by kernel_rfl
theorem inf151 : (Tryd.prog.info? 151).map (fun i => (i.zero, i.size, i.bytes)) = some (some (.slice none 0 0), 1, 24) := by kernel_rfl
theorem isz152 : (Tryd.prog.info? 152).map (·.size) = some 5 := by kernel_rfl
theorem inf152 : (Tryd.prog.info? 152).map (fun i => (i.zero, i.size, i.bytes)) = some (some (.agg #[.string ⟨#[]⟩, .int .i64 0, .string ⟨#[]⟩, .pointer none, .slice none 0 0]), 5, 72) := by kernel_rfl
theorem isz153 : (Tryd.prog.info? 153).map (·.size) = some 5 := by kernel_rfl
theorem inf153 : (Tryd.prog.info? 153).map (fun i => (i.zero, i.size, i.bytes)) = some (some (.agg #[.string ⟨#[]⟩, .int .i64 0, .string ⟨#[]⟩, .pointer none, .slice none 0 0]), 5, 72) := by kernel_rfl
theorem isz156 : (Tryd.prog.info? 156).map (·.size) = some 1 := by kernel_rfl
theorem inf156 : (Tryd.prog.info? 156).map (fun i => (i.zero, i.size, i.bytes)) = some (some (.nilFunc), 1, 8) := by kernel_rfl
theorem isz157 : (Tryd.prog.info? 157).map (·.size) = some 1 := by kernel_rfl
theorem inf157 : (Tryd.prog.info? 157).map (fun i => (i.zero, i.size, i.bytes)) = some (some (.pointer none), 1, 8) := by kernel_rfl
theorem isz158 : (Tryd.prog.info? 158).map (·.size) = some 1 := by kernel_rfl
theorem inf158 : (Tryd.prog.info? 158).map (fun i => (i.zero, i.size, i.bytes)) = some (some (.nilFunc), 1, 8) := by kernel_rfl
theorem isz159 : (Tryd.prog.info? 159).map (·.size) = some 1 := by kernel_rfl
theorem inf159 : (Tryd.prog.info? 159).map (fun i => (i.zero, i.size, i.bytes)) = some (some (.pointer none), 1, 8) := by kernel_rfl
theorem isz160 : (Tryd.prog.info? 160).map (·.size) = some 1 := by kernel_rfl
theorem inf160 : (Tryd.prog.info? 160).map (fun i => (i.zero, i.size, i.bytes)) = some (some (.nilFunc), 1, 8) := by kernel_rfl
theorem isz161 : (Tryd.prog.info? 161).map (·.size) = some 1 := by kernel_rfl
theorem inf161 : (Tryd.prog.info? 161).map (fun i => (i.zero, i.size, i.bytes)) = some (some (.nilFunc), 1, 8) := by kernel_rfl
theorem isz162 : (Tryd.prog.info? 162).map (·.size) = some 1 := by kernel_rfl
theorem inf162 : (Tryd.prog.info? 162).map (fun i => (i.zero, i.size, i.bytes)) = some (some (.nilFunc), 1, 8) := by kernel_rfl
theorem isz163 : (Tryd.prog.info? 163).map (·.size) = some 1 := by kernel_rfl
theorem inf163 : (Tryd.prog.info? 163).map (fun i => (i.zero, i.size, i.bytes)) = some (some (.slice none 0 0), 1, 24) := by kernel_rfl
theorem isz167 : (Tryd.prog.info? 167).map (·.size) = some 1 := by kernel_rfl
theorem inf167 : (Tryd.prog.info? 167).map (fun i => (i.zero, i.size, i.bytes)) = some (some (.nilFunc), 1, 8) := by kernel_rfl
theorem isz168 : (Tryd.prog.info? 168).map (·.size) = some 1 := by kernel_rfl
theorem inf168 : (Tryd.prog.info? 168).map (fun i => (i.zero, i.size, i.bytes)) = some (some (.nilFunc), 1, 8) := by kernel_rfl
theorem isz169 : (Tryd.prog.info? 169).map (·.size) = some 1 := by kernel_rfl
theorem inf169 : (Tryd.prog.info? 169).map (fun i => (i.zero, i.size, i.bytes)) = some (some (.nilFunc), 1, 8) := by kernel_rfl
theorem isz170 : (Tryd.prog.info? 170).map (·.size) = some 1 := by kernel_rfl
theorem inf170 : (Tryd.prog.info? 170).map (fun i => (i.zero, i.size, i.bytes)) = some (some (.nilFunc), 1, 8) := by kernel_rfl
theorem isz171 : (Tryd.prog.info? 171).map (·.size) = some 1 := by kernel_rfl
theorem inf171 : (Tryd.prog.info? 171).map (fun i => (i.zero, i.size, i.bytes)) = some (some (.nilFunc), 1, 8) := by kernel_rfl
theorem isz172 : (Tryd.prog.info? 172).map (·.size) = some 4 := by kernel_rfl
theorem inf172 : (Tryd.prog.info? 172).map (fun i => (i.zero, i.size, i.bytes)) = some (some (.agg #[.pointer none, .pointer none, .pointer none, .string ⟨#[]⟩]), 4, 40) := by kernel_rfl
theorem isz173 : (Tryd.prog.info? 173).map (·.size) = some 4 := by kernel_rfl
theorem inf173 : (Tryd.prog.info? 173).map (fun i => (i.zero, i.size, i.bytes)) = some (some (.agg #[.pointer none, .pointer none, .pointer none, .string ⟨#[]⟩]), 4, 40) := by kernel_rfl
theorem isz174 : (Tryd.prog.info? 174).map (·.size) = some 0 := by kernel_rfl
theorem inf174 : (Tryd.prog.info? 174).map (fun i => (i.zero, i.size, i.bytes)) = some (some (.agg #[]), 0, 0) := by kernel_rfl
theorem isz175 : (Tryd.prog.info? 175).map (·.size) = some 0 := by kernel_rfl
theorem inf175 : (Tryd.prog.info? 175).map (fun i => (i.zero, i.size, i.bytes)) = some (some (.agg #[]), 0, 0) := by kernel_rfl
theorem isz176 : (Tryd.prog.info? 176).map (·.size) = some 0 := by kernel_rfl
theorem inf176 : (Tryd.prog.info? 176).map (fun i => (i.zero, i.size, i.bytes)) = some (some (.agg #[]), 0, 0) := by kernel_rfl
theorem isz177 : (Tryd.prog.info? 177).map (·.size) = some 1 := by kernel_rfl
theorem inf177 : (Tryd.prog.info? 177).map (fun i => (i.zero, i.size, i.bytes)) = some (some (.nilFunc), 1, 8) := by kernel_rfl
theorem isz178 : (Tryd.prog.info? 178).map (·.size) = some 1 := by kernel_rfl
theorem inf178 : (Tryd.prog.info? 178).map (fun i => (i.zero, i.size, i.bytes)) = some (some (.nilFunc), 1, 8) := by kernel_rfl
theorem isz179 : (Tryd.prog.info? 179).map (·.size) = some 1 := by kernel_rfl
theorem inf179 : (Tryd.prog.info? 179).map (fun i => (i.zero, i.size, i.bytes)) = some (some (.int .u8 0), 1, 1) := by kernel_rfl
theorem isz180 : (Tryd.prog.info? 180).map (·.size) = some 1 := by kernel_rfl
theorem inf180 : (Tryd.prog.info? 180).map (fun i => (i.zero, i.size, i.bytes)) = some (some (.nilFunc), 1, 8) := by kernel_rfl
theorem isz181 : (Tryd.prog.info? 181).map (·.size) = some 1 := by kernel_rfl
theorem inf181 : (Tryd.prog.info? 181).map (fun i => (i.zero, i.size, i.bytes)) = some (some (.int .i32 0), 1, 4) := by kernel_rfl
theorem isz182 : (Tryd.prog.info? 182).map (·.size) = some 1 := by kernel_rfl
theorem inf182 : (Tryd.prog.info? 182).map (fun i => (i.zero, i.size, i.bytes)) = some (some (.int .i32 0), 1, 4) := by kernel_rfl
theorem isz183 : (Tryd.prog.info? 183).map (·.size) = some 11 := by kernel_rfl
theorem inf183 : (Tryd.prog.info? 183).map (fun i => (i.zero, i.size, i.bytes)) = some (some (.agg #[.int .u64 0, .int .u64 0, .int .u32 0, .int .u8 0, .int .u8 0, .int .u8 0, .int .u8 0, .nilFunc, .pointer none, .int .i32 0, .int .i32 0]), 11, 48) := by kernel_rfl
theorem isz184 : (Tryd.prog.info? 184).map (·.size) = some 11 := by kernel_rfl
theorem inf184 : (Tryd.prog.info? 184).map (fun i => (i.zero, i.size, i.bytes)) = some (some (.agg #[.int .u64 0, .int .u64 0, .int .u32 0, .int .u8 0, .int .u8 0, .int .u8 0, .int .u8 0, .nilFunc, .pointer none, .int .i32 0, .int .i32 0]), 11, 48) := by kernel_rfl
theorem isz185 : (Tryd.prog.info? 185).map (·.size) = some 1 := by kernel_rfl
theorem inf185 : (Tryd.prog.info? 185).map (fun i => (i.zero, i.size, i.bytes)) = some (some (.nilFunc), 1, 8) := by kernel_rfl
theorem isz186 : (Tryd.prog.info? 186).map (·.size) = some 1 := by kernel_rfl
theorem inf186 : (Tryd.prog.info? 186).map (fun i => (i.zero, i.size, i.bytes)) = some (some (.nilFunc), 1, 8) := by kernel_rfl
theorem isz187 : (Tryd.prog.info? 187).map (·.size) = some 1 := by kernel_rfl
theorem inf187 : (Tryd.prog.info? 187).map (fun i => (i.zero, i.size, i.bytes)) = some (some (.nilFunc), 1, 8) := by kernel_rfl
theorem isz188 : (Tryd.prog.info? 188).map (·.size) = some 2 := by kernel_rfl
theorem inf188 : (Tryd.prog.info? 188).map (fun i => (i.zero, i.size, i.bytes)) = some (some (.agg #[.string ⟨#[]⟩, .int .u8 0]), 2, 24) := by kernel_rfl
theorem isz189 : (Tryd.prog.info? 189).map (·.size) = some 2 := by kernel_rfl
theorem inf189 : (Tryd.prog.info? 189).map (fun i => (i.zero, i.size, i.bytes)) = some (some (.agg #[.string ⟨#[]⟩, .int .u8 0]), 2, 24) := by kernel_rfl
theorem isz190 : (Tryd.prog.info? 190).map (·.size) = some 1 := by kernel_rfl
theorem inf190 : (Tryd.prog.info? 190).map (fun i => (i.zero, i.size, i.bytes)) = some (some (.nilFunc), 1, 8) := by kernel_rfl
theorem isz191 : (Tryd.prog.info? 191).map (·.size) = some 1 := by kernel_rfl
theorem inf191 : (Tryd.prog.info? 191).map (fun i => (i.zero, i.size, i.bytes)) = some (some (.tuple #[.int .i64 0, .nilIface]), 1, 0) := by kernel_rfl
theorem isz192 : (Tryd.prog.info? 192).map (·.size) = some 1 := by kernel_rfl
theorem inf192 : (Tryd.prog.info? 192).map (fun i => (i.zero, i.size, i.bytes)) = some (some (.nilFunc), 1, 8) := by kernel_rfl
theorem isz193 : (Tryd.prog.info? 193).map (·.size) = some 1 := by kernel_rfl
theorem inf193 : (Tryd.prog.info? 193).map (fun i => (i.zero, i.size, i.bytes)) = some (some (.nilFunc), 1, 8) := by kernel_rfl
theorem isz194 : (Tryd.prog.info? 194).map (·.size) = some 1 := by kernel_rfl
theorem inf194 : (Tryd.prog.info? 194).map (fun i => (i.zero, i.size, i.bytes)) = some (some (.slice none 0 0), 1, 24) := by kernel_rfl
theorem isz195 : (Tryd.prog.info? 195).map (·.size) = some 1 := by kernel_rfl
theorem inf195 : (Tryd.prog.info? 195).map (fun i => (i.zero, i.size, i.bytes)) = some (some (.pointer none), 1, 8) := by kernel_rfl
theorem isz196 : (Tryd.prog.info? 196).map (·.size) = some 1 := by kernel_rfl
theorem inf196 : (Tryd.prog.info? 196).map (fun i => (i.zero, i.size, i.bytes)) = some (some (.nilIface), 1, 16) := by kernel_rfl
theorem isz197 : (Tryd.prog.info? 197).map (·.size) = some 1 := by kernel_rfl
theorem inf197 : (Tryd.prog.info? 197).map (fun i => (i.zero, i.size, i.bytes)) = some (some (.nilIface), 1, 16) := by kernel_rfl
theorem isz198 : (Tryd.prog.info? 198).map (·.size) = some 1 := by kernel_rfl
theorem inf198 : (Tryd.prog.info? 198).map (fun i => (i.zero, i.size, i.bytes)) = some (some (.nilIface), 1, 16) := by kernel_rfl
theorem isz199 : (Tryd.prog.info? 199).map (·.size) = some 1 := by kernel_rfl
theorem inf199 : (Tryd.prog.info? 199).map (fun i => (i.zero, i.size, i.bytes)) = some (some (.nilIface), 1, 16) := by kernel_rfl
theorem isz200 : (Tryd.prog.info? 200).map (·.size) = some 1 := by kernel_rfl
theorem inf200 : (Tryd.prog.info? 200).map (fun i => (i.zero, i.size, i.bytes)) = some (some (.nilFunc), 1, 8) := by kernel_rfl
theorem isz201 : (Tryd.prog.info? 201).map (·.size) = some 1 := by kernel_rfl
theorem inf201 : (Tryd.prog.info? 201).map (fun i => (i.zero, i.size, i.bytes)) = some (some (.tuple #[.string ⟨#[]⟩, .int .i64 0, .bool false]), 1, 0) := by kernel_rfl
theorem isz202 : (Tryd.prog.info? 202).map (·.size) = some 1 := by kernel_rfl
theorem inf202 : (Tryd.prog.info? 202).map (fun i => (i.zero, i.size, i.bytes)) = some (some (.nilFunc), 1, 8) := by kernel_rfl
theorem isz203 : (Tryd.prog.info? 203).map (·.size) = some 1 := by kernel_rfl
theorem inf203 : (Tryd.prog.info? 203).map (fun i => (i.zero, i.size, i.bytes)) = some (some (.tuple #[.nilIface, .bool false]), 1, 0) := by kernel_rfl
theorem isz204 : (Tryd.prog.info? 204).map (·.size) = some 1 := by kernel_rfl
theorem inf204 : (Tryd.prog.info? 204).map (fun i => (i.zero, i.size, i.bytes)) = some (some (.agg #[.nilIface]), 1, 16) := by kernel_rfl
theorem isz205 : (Tryd.prog.info? 205).map (·.size) = some 1 := by kernel_rfl
theorem inf205 : (Tryd.prog.info? 205).map (fun i => (i.zero, i.size, i.bytes)) = some (some (.agg #[.nilIface]), 1, 16) := by kernel_rfl
theorem isz206 : (Tryd.prog.info? 206).map (·.size) = some 1 := by kernel_rfl
theorem inf206 : (Tryd.prog.info? 206).map (fun i => (i.zero, i.size, i.bytes)) = some (some (.nilFunc), 1, 8) := by kernel_rfl
theorem isz207 : (Tryd.prog.info? 207).map (·.size) = some 1 := by kernel_rfl
theorem inf207 : (Tryd.prog.info? 207).map (fun i => (i.zero, i.size, i.bytes)) = some (some (.nilFunc), 1, 8) := by kernel_rfl
theorem isz208 : (Tryd.prog.info? 208).map (·.size) = some 1 := by kernel_rfl
theorem inf208 : (Tryd.prog.info? 208).map (fun i => (i.zero, i.size, i.bytes)) = some (some (.nilFunc), 1, 8) := by kernel_rfl
theorem isz209 : (Tryd.prog.info? 209).map (·.size) = some 1 := by kernel_rfl
theorem inf209 : (Tryd.prog.info? 209).map (fun i => (i.zero, i.size, i.bytes)) = some (some (.tuple #[.int .u32 0, .int .u32 0]), 1, 0) := by kernel_rfl
theorem isz210 : (Tryd.prog.info? 210).map (·.size) = some 1 := by kernel_rfl
theorem inf210 : (Tryd.prog.info? 210).map (fun i => (i.zero, i.size, i.bytes)) = some (some (.nilFunc), 1, 8) := by kernel_rfl
theorem isz211 : (Tryd.prog.info? 211).map (·.size) = some 1 := by kernel_rfl
theorem inf211 : (Tryd.prog.info? 211).map (fun i => (i.zero, i.size, i.bytes)) = some (some (.pointer none), 1, 8) := by kernel_rfl
theorem isz212 : (Tryd.prog.info? 212).map (·.size) = some 1 := by kernel_rfl
theorem inf212 : (Tryd.prog.info? 212).map (fun i => (i.zero, i.size, i.bytes)) = some (some (.nilFunc), 1, 8) := by kernel_rfl
theorem isz213 : (Tryd.prog.info? 213).map (·.size) = some 1 := by kernel_rfl
theorem inf213 : (Tryd.prog.info? 213).map (fun i => (i.zero, i.size, i.bytes)) = some (some (.int .u16 0), 1, 2) := by kernel_rfl
theorem isz214 : (Tryd.prog.info? 214).map (·.size) = some 5 := by kernel_rfl
theorem inf214 : (Tryd.prog.info? 214).map (fun i => (i.zero, i.size, i.bytes)) = some (some (.agg #[.int .i32 0, .int .u16 0, .int .u16 0, .int .u32 0, .int .u32 0]), 5, 16) := by kernel_rfl
theorem isz215 : (Tryd.prog.info? 215).map (·.size) = some 5 := by kernel_rfl
theorem inf215 : (Tryd.prog.info? 215).map (fun i => (i.zero, i.size, i.bytes)) = some (some (.agg #[.int .i32 0, .int .u16 0, .int .u16 0, .int .u32 0, .int .u32 0]), 5, 16) := by kernel_rfl
theorem isz216 : (Tryd.prog.info? 216).map (·.size) = some 1 := by kernel_rfl
theorem inf216 : (Tryd.prog.info? 216).map (fun i => (i.zero, i.size, i.bytes)) = some (some (.slice none 0 0), 1, 24) := by kernel_rfl
theorem isz217 : (Tryd.prog.info? 217).map (·.size) = some 1 := by kernel_rfl
theorem inf217 : (Tryd.prog.info? 217).map (fun i => (i.zero, i.size, i.bytes)) = some (some (.int .i32 0), 1, 4) := by kernel_rfl
theorem isz218 : (Tryd.prog.info? 218).map (·.size) = some 4 := by kernel_rfl
theorem inf218 : (Tryd.prog.info? 218).map (fun i => (i.zero, i.size, i.bytes)) = some (some (.agg #[.int .i32 0, .int .i32 0, .int .i32 0, .int .i32 0]), 4, 16) := by kernel_rfl
theorem isz219 : (Tryd.prog.info? 219).map (·.size) = some 4 := by kernel_rfl
theorem inf219 : (Tryd.prog.info? 219).map (fun i => (i.zero, i.size, i.bytes)) = some (some (.agg #[.int .i32 0, .int .i32 0, .int .i32 0, .int .i32 0]), 4, 16) := by kernel_rfl
theorem isz220 : (Tryd.prog.info? 220).map (·.size) = some 1 := by kernel_rfl
theorem inf220 : (Tryd.prog.info? 220).map (fun i => (i.zero, i.size, i.bytes)) = some (some (.pointer none), 1, 8) := by kernel_rfl
def tyOf_0 : Nat → Option TypeDesc
  | 2 => some (.int .i64)
  | 3 => some (.int .i64)
  | 4 => some (.bool)
  | 5 => some (.int .u8)
  | 6 => some (.int .u8)
  | 9 => some (.string)
  | 10 => some (.string)
  | 11 => some (.string)
  | 12 => some (.int .u64)
  | 15 => some (.pointer 173)
  | 16 => some (.pointer 176)
  | 17 => some (.pointer 184)
  | 21 => some (.int .i32)
  | 39 => some (.int .i64)
  | 44 => some (.pointer 41)
  | 50 => some (.slice 53)
  | 56 => some (.slice 5)
  | 58 => some (.pointer 60)
  | 63 => some (.pointer 97)
  | 67 => some (.int .u64)
  | 74 => some (.int .u8)
  | 80 => some (.pointer 5)
  | 81 => some (.slice 9)
  | 85 => some (.int .u32)
  | 103 => some (.pointer 189)
  | 112 => some (.slice 25)
  | 116 => some (.array 256 5)
  | 119 => some (.array 16 118)
  | 120 => some (.int .u64)
  | 122 => some (.pointer 93)
  | 127 => some (.int .u64)
  | 129 => some (.pointer 87)
  | 131 => some (.pointer 85)
  | 133 => some (.pointer 149)
  | 135 => some (.pointer 155)
  | 137 => some (.array 256 5)
  | 138 => some (.pointer 137)
  | 139 => some (.array 256 56)
  | 142 => some (.pointer 141)
  | 143 => some (.pointer 91)
  | 146 => some (.pointer 166)
  | 150 => some (.pointer 153)
  | 151 => some (.slice 150)
  | 157 => some (.pointer 89)
  | 159 => some (.pointer 21)
  | 163 => some (.slice 3)
  | 164 => some (.array 256 3)
  | 174 => some (.array 0 16)
  | 179 => some (.int .u8)
  | 181 => some (.int .i32)
  | _ => none
set_option maxHeartbeats 8000000 in
theorem und_0 (t : Nat) (d : TypeDesc) (h : tyOf_0 t = some d) : Tryd.prog.underlying t = some d := by
  unfold tyOf_0 at h
  split at h
  · cases h; exact Tryd.underlying2
  · cases h; exact Tryd.underlying3
  · cases h; exact Tryd.underlying4
  · cases h; exact Tryd.underlying5
  · cases h; exact Tryd.underlying6
  · cases h; exact Tryd.underlying9
  · cases h; exact Tryd.underlying10
  · cases h; exact Tryd.underlying11
  · cases h; exact Tryd.underlying12
  · cases h; exact Tryd.underlying15
  · cases h; exact Tryd.underlying16
  · cases h; exact Tryd.underlying17
  · cases h; exact Tryd.underlying21
  · cases h; exact Tryd.underlying39
  · cases h; exact Tryd.underlying44
  · cases h; exact Tryd.underlying50
  · cases h; exact Tryd.underlying56
  · cases h; exact Tryd.underlying58
  · cases h; exact Tryd.underlying63
  · cases h; exact Tryd.underlying67
  · cases h; exact Tryd.underlying74
  · cases h; exact Tryd.underlying80
  · cases h; exact Tryd.underlying81
  · cases h; exact Tryd.underlying85
  · cases h; exact Tryd.underlying103
  · cases h; exact Tryd.underlying112
  · cases h; exact Tryd.underlying116
  · cases h; exact Tryd.underlying119
  · cases h; exact Tryd.underlying120
  · cases h; exact Tryd.underlying122
  · cases h; exact Tryd.underlying127
  · cases h; exact Tryd.underlying129
  · cases h; exact Tryd.underlying131
  · cases h; exact Tryd.underlying133
  · cases h; exact Tryd.underlying135
  · cases h; exact Tryd.underlying137
  · cases h; exact Tryd.underlying138
  · cases h; exact Tryd.underlying139
  · cases h; exact Tryd.underlying142
  · cases h; exact Tryd.underlying143
  · cases h; exact Tryd.underlying146
  · cases h; exact Tryd.underlying150
  · cases h; exact Tryd.underlying151
  · cases h; exact Tryd.underlying157
  · cases h; exact Tryd.underlying159
  · cases h; exact Tryd.underlying163
  · cases h; exact Tryd.underlying164
  · cases h; exact Tryd.underlying174
  · cases h; exact Tryd.underlying179
  · cases h; exact Tryd.underlying181
  · cases h
def tyOf_1 : Nat → Option TypeDesc
  | 182 => some (.int .i32)
  | 194 => some (.slice 5)
  | 195 => some (.pointer 194)
  | 211 => some (.pointer 215)
  | 213 => some (.int .u16)
  | 216 => some (.slice 219)
  | 217 => some (.int .i32)
  | 220 => some (.pointer 25)
  | _ => none
set_option maxHeartbeats 8000000 in
theorem und_1 (t : Nat) (d : TypeDesc) (h : tyOf_1 t = some d) : Tryd.prog.underlying t = some d := by
  unfold tyOf_1 at h
  split at h
  · cases h; exact Tryd.underlying182
  · cases h; exact Tryd.underlying194
  · cases h; exact Tryd.underlying195
  · cases h; exact Tryd.underlying211
  · cases h; exact Tryd.underlying213
  · cases h; exact Tryd.underlying216
  · cases h; exact Tryd.underlying217
  · cases h; exact Tryd.underlying220
  · cases h
def tyOf (t : Nat) : Option TypeDesc := (match tyOf_0 t with | some x => some x | none => (match tyOf_1 t with | some x => some x | none => none))
theorem und (t : Nat) (d : TypeDesc) (h : tyOf t = some d) : Tryd.prog.underlying t = some d := by
  unfold tyOf at h
  cases e0 : tyOf_0 t with
  | some x => rw [e0] at h; exact und_0 t _ (e0.trans h)
  | none =>
  rw [e0] at h
  dsimp only at h
  cases e1 : tyOf_1 t with
  | some x => rw [e1] at h; exact und_1 t _ (e1.trans h)
  | none =>
  rw [e1] at h
  dsimp only at h
  cases h
def szOf_0 : Nat → Option Nat
  | 0 => some (1)
  | 1 => some (1)
  | 2 => some (1)
  | 3 => some (1)
  | 4 => some (1)
  | 5 => some (1)
  | 6 => some (1)
  | 7 => some (4)
  | 8 => some (4)
  | 9 => some (1)
  | 10 => some (1)
  | 11 => some (1)
  | 12 => some (1)
  | 13 => some (2)
  | 14 => some (2)
  | 15 => some (1)
  | 16 => some (1)
  | 17 => some (1)
  | 18 => some (1)
  | 19 => some (1)
  | 20 => some (1)
  | 21 => some (1)
  | 22 => some (1)
  | 23 => some (1)
  | 24 => some (1)
  | 25 => some (1)
  | 26 => some (1)
  | 27 => some (2)
  | 28 => some (2)
  | 29 => some (1)
  | 30 => some (1)
  | 31 => some (1)
  | 32 => some (1)
  | 33 => some (1)
  | 34 => some (1)
  | 35 => some (1)
  | 36 => some (1)
  | 37 => some (1)
  | 38 => some (1)
  | 39 => some (1)
  | 40 => some (3)
  | 41 => some (3)
  | 42 => some (1)
  | 43 => some (1)
  | 44 => some (1)
  | 45 => some (1)
  | 46 => some (1)
  | 47 => some (1)
  | 48 => some (1)
  | 49 => some (1)
  | _ => none
set_option maxHeartbeats 8000000 in
theorem isz_0 (t : Nat) (n : Nat) (h : szOf_0 t = some n) : (Tryd.prog.info? t).map (·.size) = some n := by
  unfold szOf_0 at h
  split at h
  · cases h; exact isz0
  · cases h; exact isz1
  · cases h; exact isz2
  · cases h; exact isz3
  · cases h; exact isz4
  · cases h; exact isz5
  · cases h; exact isz6
  · cases h; exact isz7
  · cases h; exact isz8
  · cases h; exact isz9
  · cases h; exact isz10
  · cases h; exact isz11
  · cases h; exact isz12
  · cases h; exact isz13
  · cases h; exact isz14
  · cases h; exact isz15
  · cases h; exact isz16
  · cases h; exact isz17
  · cases h; exact isz18
  · cases h; exact isz19
  · cases h; exact isz20
  · cases h; exact isz21
  · cases h; exact isz22
  · cases h; exact isz23
  · cases h; exact isz24
  · cases h; exact isz25
  · cases h; exact isz26
  · cases h; exact isz27
  · cases h; exact isz28
  · cases h; exact isz29
  · cases h; exact isz30
  · cases h; exact isz31
  · cases h; exact isz32
  · cases h; exact isz33
  · cases h; exact isz34
  · cases h; exact isz35
  · cases h; exact isz36
  · cases h; exact isz37
  · cases h; exact isz38
  · cases h; exact isz39
  · cases h; exact isz40
  · cases h; exact isz41
  · cases h; exact isz42
  · cases h; exact isz43
  · cases h; exact isz44
  · cases h; exact isz45
  · cases h; exact isz46
  · cases h; exact isz47
  · cases h; exact isz48
  · cases h; exact isz49
  · cases h
def szOf_1 : Nat → Option Nat
  | 50 => some (1)
  | 51 => some (1)
  | 52 => some (5)
  | 53 => some (5)
  | 54 => some (1)
  | 55 => some (1)
  | 56 => some (1)
  | 57 => some (1)
  | 58 => some (1)
  | 59 => some (2)
  | 60 => some (2)
  | 61 => some (1)
  | 62 => some (1)
  | 63 => some (1)
  | 64 => some (1)
  | 65 => some (1)
  | 66 => some (1)
  | 67 => some (1)
  | 68 => some (3)
  | 69 => some (3)
  | 70 => some (1)
  | 71 => some (1)
  | 72 => some (1)
  | 73 => some (1)
  | 74 => some (1)
  | 75 => some (1)
  | 76 => some (1)
  | 77 => some (1)
  | 78 => some (1)
  | 79 => some (1)
  | 80 => some (1)
  | 81 => some (1)
  | 82 => some (0)
  | 83 => some (0)
  | 84 => some (0)
  | 85 => some (1)
  | 86 => some (1)
  | 87 => some (1)
  | 88 => some (2)
  | 89 => some (2)
  | 90 => some (2)
  | 91 => some (2)
  | 92 => some (3)
  | 93 => some (3)
  | 94 => some (1)
  | 95 => some (1)
  | 96 => some (5)
  | 97 => some (5)
  | 98 => some (1)
  | 99 => some (1)
  | _ => none
set_option maxHeartbeats 8000000 in
theorem isz_1 (t : Nat) (n : Nat) (h : szOf_1 t = some n) : (Tryd.prog.info? t).map (·.size) = some n := by
  unfold szOf_1 at h
  split at h
  · cases h; exact isz50
  · cases h; exact isz51
  · cases h; exact isz52
  · cases h; exact isz53
  · cases h; exact isz54
  · cases h; exact isz55
  · cases h; exact isz56
  · cases h; exact isz57
  · cases h; exact isz58
  · cases h; exact isz59
  · cases h; exact isz60
  · cases h; exact isz61
  · cases h; exact isz62
  · cases h; exact isz63
  · cases h; exact isz64
  · cases h; exact isz65
  · cases h; exact isz66
  · cases h; exact isz67
  · cases h; exact isz68
  · cases h; exact isz69
  · cases h; exact isz70
  · cases h; exact isz71
  · cases h; exact isz72
  · cases h; exact isz73
  · cases h; exact isz74
  · cases h; exact isz75
  · cases h; exact isz76
  · cases h; exact isz77
  · cases h; exact isz78
  · cases h; exact isz79
  · cases h; exact isz80
  · cases h; exact isz81
  · cases h; exact isz82
  · cases h; exact isz83
  · cases h; exact isz84
  · cases h; exact isz85
  · cases h; exact isz86
  · cases h; exact isz87
  · cases h; exact isz88
  · cases h; exact isz89
  · cases h; exact isz90
  · cases h; exact isz91
  · cases h; exact isz92
  · cases h; exact isz93
  · cases h; exact isz94
  · cases h; exact isz95
  · cases h; exact isz96
  · cases h; exact isz97
  · cases h; exact isz98
  · cases h; exact isz99
  · cases h
def szOf_2 : Nat → Option Nat
  | 100 => some (1)
  | 101 => some (1)
  | 102 => some (1)
  | 103 => some (1)
  | 104 => some (1)
  | 105 => some (1)
  | 106 => some (1)
  | 107 => some (1)
  | 108 => some (1)
  | 109 => some (1)
  | 110 => some (1)
  | 111 => some (1)
  | 112 => some (1)
  | 113 => some (1)
  | 114 => some (1)
  | 115 => some (1)
  | 117 => some (2)
  | 118 => some (2)
  | 119 => some (32)
  | 120 => some (1)
  | 121 => some (1)
  | 122 => some (1)
  | 123 => some (1)
  | 124 => some (1)
  | 125 => some (1)
  | 126 => some (1)
  | 127 => some (1)
  | 128 => some (1)
  | 129 => some (1)
  | 130 => some (1)
  | 131 => some (1)
  | 132 => some (1)
  | 133 => some (1)
  | 134 => some (1)
  | 135 => some (1)
  | 136 => some (1)
  | 138 => some (1)
  | 142 => some (1)
  | 143 => some (1)
  | 144 => some (1)
  | 145 => some (1)
  | 146 => some (1)
  | 147 => some (1)
  | 148 => some (2)
  | 149 => some (2)
  | 150 => some (1)
  | 151 => some (1)
  | 152 => some (5)
  | 153 => some (5)
  | 156 => some (1)
  | _ => none
set_option maxHeartbeats 8000000 in
theorem isz_2 (t : Nat) (n : Nat) (h : szOf_2 t = some n) : (Tryd.prog.info? t).map (·.size) = some n := by
  unfold szOf_2 at h
  split at h
  · cases h; exact isz100
  · cases h; exact isz101
  · cases h; exact isz102
  · cases h; exact isz103
  · cases h; exact isz104
  · cases h; exact isz105
  · cases h; exact isz106
  · cases h; exact isz107
  · cases h; exact isz108
  · cases h; exact isz109
  · cases h; exact isz110
  · cases h; exact isz111
  · cases h; exact isz112
  · cases h; exact isz113
  · cases h; exact isz114
  · cases h; exact isz115
  · cases h; exact isz117
  · cases h; exact isz118
  · cases h; exact isz119
  · cases h; exact isz120
  · cases h; exact isz121
  · cases h; exact isz122
  · cases h; exact isz123
  · cases h; exact isz124
  · cases h; exact isz125
  · cases h; exact isz126
  · cases h; exact isz127
  · cases h; exact isz128
  · cases h; exact isz129
  · cases h; exact isz130
  · cases h; exact isz131
  · cases h; exact isz132
  · cases h; exact isz133
  · cases h; exact isz134
  · cases h; exact isz135
  · cases h; exact isz136
  · cases h; exact isz138
  · cases h; exact isz142
  · cases h; exact isz143
  · cases h; exact isz144
  · cases h; exact isz145
  · cases h; exact isz146
  · cases h; exact isz147
  · cases h; exact isz148
  · cases h; exact isz149
  · cases h; exact isz150
  · cases h; exact isz151
  · cases h; exact isz152
  · cases h; exact isz153
  · cases h; exact isz156
  · cases h
def szOf_3 : Nat → Option Nat
  | 157 => some (1)
  | 158 => some (1)
  | 159 => some (1)
  | 160 => some (1)
  | 161 => some (1)
  | 162 => some (1)
  | 163 => some (1)
  | 167 => some (1)
  | 168 => some (1)
  | 169 => some (1)
  | 170 => some (1)
  | 171 => some (1)
  | 172 => some (4)
  | 173 => some (4)
  | 174 => some (0)
  | 175 => some (0)
  | 176 => some (0)
  | 177 => some (1)
  | 178 => some (1)
  | 179 => some (1)
  | 180 => some (1)
  | 181 => some (1)
  | 182 => some (1)
  | 183 => some (11)
  | 184 => some (11)
  | 185 => some (1)
  | 186 => some (1)
  | 187 => some (1)
  | 188 => some (2)
  | 189 => some (2)
  | 190 => some (1)
  | 191 => some (1)
  | 192 => some (1)
  | 193 => some (1)
  | 194 => some (1)
  | 195 => some (1)
  | 196 => some (1)
  | 197 => some (1)
  | 198 => some (1)
  | 199 => some (1)
  | 200 => some (1)
  | 201 => some (1)
  | 202 => some (1)
  | 203 => some (1)
  | 204 => some (1)
  | 205 => some (1)
  | 206 => some (1)
  | 207 => some (1)
  | 208 => some (1)
  | 209 => some (1)
  | _ => none
set_option maxHeartbeats 8000000 in
theorem isz_3 (t : Nat) (n : Nat) (h : szOf_3 t = some n) : (Tryd.prog.info? t).map (·.size) = some n := by
  unfold szOf_3 at h
  split at h
  · cases h; exact isz157
  · cases h; exact isz158
  · cases h; exact isz159
  · cases h; exact isz160
  · cases h; exact isz161
  · cases h; exact isz162
  · cases h; exact isz163
  · cases h; exact isz167
  · cases h; exact isz168
  · cases h; exact isz169
  · cases h; exact isz170
  · cases h; exact isz171
  · cases h; exact isz172
  · cases h; exact isz173
  · cases h; exact isz174
  · cases h; exact isz175
  · cases h; exact isz176
  · cases h; exact isz177
  · cases h; exact isz178
  · cases h; exact isz179
  · cases h; exact isz180
  · cases h; exact isz181
  · cases h; exact isz182
  · cases h; exact isz183
  · cases h; exact isz184
  · cases h; exact isz185
  · cases h; exact isz186
  · cases h; exact isz187
  · cases h; exact isz188
  · cases h; exact isz189
  · cases h; exact isz190
  · cases h; exact isz191
  · cases h; exact isz192
  · cases h; exact isz193
  · cases h; exact isz194
  · cases h; exact isz195
  · cases h; exact isz196
  · cases h; exact isz197
  · cases h; exact isz198
  · cases h; exact isz199
  · cases h; exact isz200
  · cases h; exact isz201
  · cases h; exact isz202
  · cases h; exact isz203
  · cases h; exact isz204
  · cases h; exact isz205
  · cases h; exact isz206
  · cases h; exact isz207
  · cases h; exact isz208
  · cases h; exact isz209
  · cases h
def szOf_4 : Nat → Option Nat
  | 210 => some (1)
  | 211 => some (1)
  | 212 => some (1)
  | 213 => some (1)
  | 214 => some (5)
  | 215 => some (5)
  | 216 => some (1)
  | 217 => some (1)
  | 218 => some (4)
  | 219 => some (4)
  | 220 => some (1)
  | _ => none
set_option maxHeartbeats 8000000 in
theorem isz_4 (t : Nat) (n : Nat) (h : szOf_4 t = some n) : (Tryd.prog.info? t).map (·.size) = some n := by
  unfold szOf_4 at h
  split at h
  · cases h; exact isz210
  · cases h; exact isz211
  · cases h; exact isz212
  · cases h; exact isz213
  · cases h; exact isz214
  · cases h; exact isz215
  · cases h; exact isz216
  · cases h; exact isz217
  · cases h; exact isz218
  · cases h; exact isz219
  · cases h; exact isz220
  · cases h
def szOf (t : Nat) : Option Nat := (match szOf_0 t with | some x => some x | none => (match szOf_1 t with | some x => some x | none => (match szOf_2 t with | some x => some x | none => (match szOf_3 t with | some x => some x | none => (match szOf_4 t with | some x => some x | none => none)))))
theorem isz (t : Nat) (n : Nat) (h : szOf t = some n) : (Tryd.prog.info? t).map (·.size) = some n := by
  unfold szOf at h
  cases e0 : szOf_0 t with
  | some x => rw [e0] at h; exact isz_0 t _ (e0.trans h)
  | none =>
  rw [e0] at h
  dsimp only at h
  cases e1 : szOf_1 t with
  | some x => rw [e1] at h; exact isz_1 t _ (e1.trans h)
  | none =>
  rw [e1] at h
  dsimp only at h
  cases e2 : szOf_2 t with
  | some x => rw [e2] at h; exact isz_2 t _ (e2.trans h)
  | none =>
  rw [e2] at h
  dsimp only at h
  cases e3 : szOf_3 t with
  | some x => rw [e3] at h; exact isz_3 t _ (e3.trans h)
  | none =>
  rw [e3] at h
  dsimp only at h
  cases e4 : szOf_4 t with
  | some x => rw [e4] at h; exact isz_4 t _ (e4.trans h)
  | none =>
  rw [e4] at h
  dsimp only at h
  cases h
def ifcOf : Nat → Bool
  | 20 => true
  | 24 => true
  | 25 => true
  | 71 => true
  | 72 => true
  | 94 => true
  | 95 => true
  | 106 => true
  | 109 => true
  | 111 => true
  | 124 => true
  | 196 => true
  | 197 => true
  | 198 => true
  | 199 => true
  | _ => false
set_option maxHeartbeats 8000000 in
theorem ifc (t : Nat) (h : ifcOf t = true) : ∃ ms, Tryd.prog.underlying t = some (.interface ms) := by
  unfold ifcOf at h
  split at h
  · exact ⟨_, Tryd.underlying20⟩
  · exact ⟨_, Tryd.underlying24⟩
  · exact ⟨_, Tryd.underlying25⟩
  · exact ⟨_, Tryd.underlying71⟩
  · exact ⟨_, Tryd.underlying72⟩
  · exact ⟨_, Tryd.underlying94⟩
  · exact ⟨_, Tryd.underlying95⟩
  · exact ⟨_, Tryd.underlying106⟩
  · exact ⟨_, Tryd.underlying109⟩
  · exact ⟨_, Tryd.underlying111⟩
  · exact ⟨_, Tryd.underlying124⟩
  · exact ⟨_, Tryd.underlying196⟩
  · exact ⟨_, Tryd.underlying197⟩
  · exact ⟨_, Tryd.underlying198⟩
  · exact ⟨_, Tryd.underlying199⟩
  · cases h
def aggOf_0 : Nat → Bool
  | 7 => true
  | 8 => true
  | 13 => true
  | 14 => true
  | 18 => true
  | 19 => true
  | 27 => true
  | 28 => true
  | 40 => true
  | 41 => true
  | 52 => true
  | 53 => true
  | 59 => true
  | 60 => true
  | 68 => true
  | 69 => true
  | 82 => true
  | 83 => true
  | 84 => true
  | 86 => true
  | 87 => true
  | 88 => true
  | 89 => true
  | 90 => true
  | 91 => true
  | 92 => true
  | 93 => true
  | 96 => true
  | 97 => true
  | 101 => true
  | 102 => true
  | 116 => true
  | 117 => true
  | 118 => true
  | 119 => true
  | 137 => true
  | 139 => true
  | 140 => true
  | 141 => true
  | 148 => true
  | 149 => true
  | 152 => true
  | 153 => true
  | 154 => true
  | 155 => true
  | 164 => true
  | 165 => true
  | 166 => true
  | 172 => true
  | 173 => true
  | _ => false
set_option maxHeartbeats 8000000 in
theorem agg_0 (t : Nat) (h : aggOf_0 t = true) : (Tryd.prog.underlying t).map aggB = some true := by
  unfold aggOf_0 at h
  split at h
  · rw [Tryd.underlying7]; rfl
  · rw [Tryd.underlying8]; rfl
  · rw [Tryd.underlying13]; rfl
  · rw [Tryd.underlying14]; rfl
  · rw [Tryd.underlying18]; rfl
  · rw [Tryd.underlying19]; rfl
  · rw [Tryd.underlying27]; rfl
  · rw [Tryd.underlying28]; rfl
  · rw [Tryd.underlying40]; rfl
  · rw [Tryd.underlying41]; rfl
  · rw [Tryd.underlying52]; rfl
  · rw [Tryd.underlying53]; rfl
  · rw [Tryd.underlying59]; rfl
  · rw [Tryd.underlying60]; rfl
  · rw [Tryd.underlying68]; rfl
  · rw [Tryd.underlying69]; rfl
  · rw [Tryd.underlying82]; rfl
  · rw [Tryd.underlying83]; rfl
  · rw [Tryd.underlying84]; rfl
  · rw [Tryd.underlying86]; rfl
  · rw [Tryd.underlying87]; rfl
  · rw [Tryd.underlying88]; rfl
  · rw [Tryd.underlying89]; rfl
  · rw [Tryd.underlying90]; rfl
  · rw [Tryd.underlying91]; rfl
  · rw [Tryd.underlying92]; rfl
  · rw [Tryd.underlying93]; rfl
  · rw [Tryd.underlying96]; rfl
  · rw [Tryd.underlying97]; rfl
  · rw [Tryd.underlying101]; rfl
  · rw [Tryd.underlying102]; rfl
  · rw [Tryd.underlying116]; rfl
  · rw [Tryd.underlying117]; rfl
  · rw [Tryd.underlying118]; rfl
  · rw [Tryd.underlying119]; rfl
  · rw [Tryd.underlying137]; rfl
  · rw [Tryd.underlying139]; rfl
  · rw [Tryd.underlying140]; rfl
  · rw [Tryd.underlying141]; rfl
  · rw [Tryd.underlying148]; rfl
  · rw [Tryd.underlying149]; rfl
  · rw [Tryd.underlying152]; rfl
  · rw [Tryd.underlying153]; rfl
  · rw [Tryd.underlying154]; rfl
  · rw [Tryd.underlying155]; rfl
  · rw [Tryd.underlying164]; rfl
  · rw [Tryd.underlying165]; rfl
  · rw [Tryd.underlying166]; rfl
  · rw [Tryd.underlying172]; rfl
  · rw [Tryd.underlying173]; rfl
  · cases h
def aggOf_1 : Nat → Bool
  | 174 => true
  | 175 => true
  | 176 => true
  | 183 => true
  | 184 => true
  | 188 => true
  | 189 => true
  | 204 => true
  | 205 => true
  | 214 => true
  | 215 => true
  | 218 => true
  | 219 => true
  | _ => false
set_option maxHeartbeats 8000000 in
theorem agg_1 (t : Nat) (h : aggOf_1 t = true) : (Tryd.prog.underlying t).map aggB = some true := by
  unfold aggOf_1 at h
  split at h
  · rw [Tryd.underlying174]; rfl
  · rw [Tryd.underlying175]; rfl
  · rw [Tryd.underlying176]; rfl
  · rw [Tryd.underlying183]; rfl
  · rw [Tryd.underlying184]; rfl
  · rw [Tryd.underlying188]; rfl
  · rw [Tryd.underlying189]; rfl
  · rw [Tryd.underlying204]; rfl
  · rw [Tryd.underlying205]; rfl
  · rw [Tryd.underlying214]; rfl
  · rw [Tryd.underlying215]; rfl
  · rw [Tryd.underlying218]; rfl
  · rw [Tryd.underlying219]; rfl
  · cases h
def aggOf (t : Nat) : Bool := (bif aggOf_0 t then true else (bif aggOf_1 t then true else false))
theorem agg (t : Nat) (h : aggOf t = true) : (Tryd.prog.underlying t).map aggB = some true := by
  unfold aggOf at h
  cases e0 : aggOf_0 t with
  | true => exact agg_0 t e0
  | false =>
  rw [e0] at h
  simp only [cond_false] at h
  cases e1 : aggOf_1 t with
  | true => exact agg_1 t e1
  | false =>
  rw [e1] at h
  simp only [cond_false] at h
  cases h
def conOf_0 : Nat → Bool
  | 2 => true
  | 3 => true
  | 4 => true
  | 5 => true
  | 6 => true
  | 7 => true
  | 8 => true
  | 9 => true
  | 10 => true
  | 11 => true
  | 12 => true
  | 13 => true
  | 14 => true
  | 15 => true
  | 16 => true
  | 17 => true
  | 18 => true
  | 19 => true
  | 21 => true
  | 27 => true
  | 28 => true
  | 39 => true
  | 40 => true
  | 41 => true
  | 44 => true
  | 50 => true
  | 52 => true
  | 53 => true
  | 56 => true
  | 58 => true
  | 59 => true
  | 60 => true
  | 63 => true
  | 67 => true
  | 68 => true
  | 69 => true
  | 74 => true
  | 80 => true
  | 81 => true
  | 82 => true
  | 83 => true
  | 84 => true
  | 85 => true
  | 86 => true
  | 87 => true
  | 88 => true
  | 89 => true
  | 90 => true
  | 91 => true
  | 92 => true
  | _ => false
set_option maxHeartbeats 8000000 in
theorem con_0 (t : Nat) (h : conOf_0 t = true) : (Tryd.prog.underlying t).map concB = some true := by
  unfold conOf_0 at h
  split at h
  · rw [Tryd.underlying2]; rfl
  · rw [Tryd.underlying3]; rfl
  · rw [Tryd.underlying4]; rfl
  · rw [Tryd.underlying5]; rfl
  · rw [Tryd.underlying6]; rfl
  · rw [Tryd.underlying7]; rfl
  · rw [Tryd.underlying8]; rfl
  · rw [Tryd.underlying9]; rfl
  · rw [Tryd.underlying10]; rfl
  · rw [Tryd.underlying11]; rfl
  · rw [Tryd.underlying12]; rfl
  · rw [Tryd.underlying13]; rfl
  · rw [Tryd.underlying14]; rfl
  · rw [Tryd.underlying15]; rfl
  · rw [Tryd.underlying16]; rfl
  · rw [Tryd.underlying17]; rfl
  · rw [Tryd.underlying18]; rfl
  · rw [Tryd.underlying19]; rfl
  · rw [Tryd.underlying21]; rfl
  · rw [Tryd.underlying27]; rfl
  · rw [Tryd.underlying28]; rfl
  · rw [Tryd.underlying39]; rfl
  · rw [Tryd.underlying40]; rfl
  · rw [Tryd.underlying41]; rfl
  · rw [Tryd.underlying44]; rfl
  · rw [Tryd.underlying50]; rfl
  · rw [Tryd.underlying52]; rfl
  · rw [Tryd.underlying53]; rfl
  · rw [Tryd.underlying56]; rfl
  · rw [Tryd.underlying58]; rfl
  · rw [Tryd.underlying59]; rfl
  · rw [Tryd.underlying60]; rfl
  · rw [Tryd.underlying63]; rfl
  · rw [Tryd.underlying67]; rfl
  · rw [Tryd.underlying68]; rfl
  · rw [Tryd.underlying69]; rfl
  · rw [Tryd.underlying74]; rfl
  · rw [Tryd.underlying80]; rfl
  · rw [Tryd.underlying81]; rfl
  · rw [Tryd.underlying82]; rfl
  · rw [Tryd.underlying83]; rfl
  · rw [Tryd.underlying84]; rfl
  · rw [Tryd.underlying85]; rfl
  · rw [Tryd.underlying86]; rfl
  · rw [Tryd.underlying87]; rfl
  · rw [Tryd.underlying88]; rfl
  · rw [Tryd.underlying89]; rfl
  · rw [Tryd.underlying90]; rfl
  · rw [Tryd.underlying91]; rfl
  · rw [Tryd.underlying92]; rfl
  · cases h
def conOf_1 : Nat → Bool
  | 93 => true
  | 96 => true
  | 97 => true
  | 101 => true
  | 102 => true
  | 103 => true
  | 112 => true
  | 117 => true
  | 118 => true
  | 120 => true
  | 122 => true
  | 127 => true
  | 129 => true
  | 131 => true
  | 133 => true
  | 135 => true
  | 138 => true
  | 140 => true
  | 141 => true
  | 142 => true
  | 143 => true
  | 146 => true
  | 148 => true
  | 149 => true
  | 150 => true
  | 151 => true
  | 152 => true
  | 153 => true
  | 154 => true
  | 155 => true
  | 157 => true
  | 159 => true
  | 163 => true
  | 165 => true
  | 166 => true
  | 172 => true
  | 173 => true
  | 175 => true
  | 176 => true
  | 179 => true
  | 181 => true
  | 182 => true
  | 183 => true
  | 184 => true
  | 188 => true
  | 189 => true
  | 194 => true
  | 195 => true
  | 204 => true
  | 205 => true
  | _ => false
set_option maxHeartbeats 8000000 in
theorem con_1 (t : Nat) (h : conOf_1 t = true) : (Tryd.prog.underlying t).map concB = some true := by
  unfold conOf_1 at h
  split at h
  · rw [Tryd.underlying93]; rfl
  · rw [Tryd.underlying96]; rfl
  · rw [Tryd.underlying97]; rfl
  · rw [Tryd.underlying101]; rfl
  · rw [Tryd.underlying102]; rfl
  · rw [Tryd.underlying103]; rfl
  · rw [Tryd.underlying112]; rfl
  · rw [Tryd.underlying117]; rfl
  · rw [Tryd.underlying118]; rfl
  · rw [Tryd.underlying120]; rfl
  · rw [Tryd.underlying122]; rfl
  · rw [Tryd.underlying127]; rfl
  · rw [Tryd.underlying129]; rfl
  · rw [Tryd.underlying131]; rfl
  · rw [Tryd.underlying133]; rfl
  · rw [Tryd.underlying135]; rfl
  · rw [Tryd.underlying138]; rfl
  · rw [Tryd.underlying140]; rfl
  · rw [Tryd.underlying141]; rfl
  · rw [Tryd.underlying142]; rfl
  · rw [Tryd.underlying143]; rfl
  · rw [Tryd.underlying146]; rfl
  · rw [Tryd.underlying148]; rfl
  · rw [Tryd.underlying149]; rfl
  · rw [Tryd.underlying150]; rfl
  · rw [Tryd.underlying151]; rfl
  · rw [Tryd.underlying152]; rfl
  · rw [Tryd.underlying153]; rfl
  · rw [Tryd.underlying154]; rfl
  · rw [Tryd.underlying155]; rfl
  · rw [Tryd.underlying157]; rfl
  · rw [Tryd.underlying159]; rfl
  · rw [Tryd.underlying163]; rfl
  · rw [Tryd.underlying165]; rfl
  · rw [Tryd.underlying166]; rfl
  · rw [Tryd.underlying172]; rfl
  · rw [Tryd.underlying173]; rfl
  · rw [Tryd.underlying175]; rfl
  · rw [Tryd.underlying176]; rfl
  · rw [Tryd.underlying179]; rfl
  · rw [Tryd.underlying181]; rfl
  · rw [Tryd.underlying182]; rfl
  · rw [Tryd.underlying183]; rfl
  · rw [Tryd.underlying184]; rfl
  · rw [Tryd.underlying188]; rfl
  · rw [Tryd.underlying189]; rfl
  · rw [Tryd.underlying194]; rfl
  · rw [Tryd.underlying195]; rfl
  · rw [Tryd.underlying204]; rfl
  · rw [Tryd.underlying205]; rfl
  · cases h
def conOf_2 : Nat → Bool
  | 211 => true
  | 213 => true
  | 214 => true
  | 215 => true
  | 216 => true
  | 217 => true
  | 218 => true
  | 219 => true
  | 220 => true
  | _ => false
set_option maxHeartbeats 8000000 in
theorem con_2 (t : Nat) (h : conOf_2 t = true) : (Tryd.prog.underlying t).map concB = some true := by
  unfold conOf_2 at h
  split at h
  · rw [Tryd.underlying211]; rfl
  · rw [Tryd.underlying213]; rfl
  · rw [Tryd.underlying214]; rfl
  · rw [Tryd.underlying215]; rfl
  · rw [Tryd.underlying216]; rfl
  · rw [Tryd.underlying217]; rfl
  · rw [Tryd.underlying218]; rfl
  · rw [Tryd.underlying219]; rfl
  · rw [Tryd.underlying220]; rfl
  · cases h
def conOf (t : Nat) : Bool := (bif conOf_0 t then true else (bif conOf_1 t then true else (bif conOf_2 t then true else false)))
theorem con (t : Nat) (h : conOf t = true) : (Tryd.prog.underlying t).map concB = some true := by
  unfold conOf at h
  cases e0 : conOf_0 t with
  | true => exact con_0 t e0
  | false =>
  rw [e0] at h
  simp only [cond_false] at h
  cases e1 : conOf_1 t with
  | true => exact con_1 t e1
  | false =>
  rw [e1] at h
  simp only [cond_false] at h
  cases e2 : conOf_2 t with
  | true => exact con_2 t e2
  | false =>
  rw [e2] at h
  simp only [cond_false] at h
  cases h
def fldOf7 : Nat → Option (Nat × Nat)
  | 0 => some (0, 2)
  | 1 => some (1, 3)
  | 2 => some (2, 4)
  | 3 => some (3, 6)
  | _ => none
theorem fld7 (f off ft : Nat) (h : fldOf7 f = some (off, ft)) : Fld Tryd.prog 7 f off ft := by
  unfold fldOf7 at h
  split at h
  · cases h; exact ⟨_, _, Tryd.underlying7, rfl, rfl, rfl⟩
  · cases h; exact ⟨_, _, Tryd.underlying7, rfl, rfl, rfl⟩
  · cases h; exact ⟨_, _, Tryd.underlying7, rfl, rfl, rfl⟩
  · cases h; exact ⟨_, _, Tryd.underlying7, rfl, rfl, rfl⟩
  · cases h
def fldOf8 : Nat → Option (Nat × Nat)
  | 0 => some (0, 2)
  | 1 => some (1, 3)
  | 2 => some (2, 4)
  | 3 => some (3, 6)
  | _ => none
theorem fld8 (f off ft : Nat) (h : fldOf8 f = some (off, ft)) : Fld Tryd.prog 8 f off ft := by
  unfold fldOf8 at h
  split at h
  · cases h; exact ⟨_, _, Tryd.underlying8, rfl, rfl, rfl⟩
  · cases h; exact ⟨_, _, Tryd.underlying8, rfl, rfl, rfl⟩
  · cases h; exact ⟨_, _, Tryd.underlying8, rfl, rfl, rfl⟩
  · cases h; exact ⟨_, _, Tryd.underlying8, rfl, rfl, rfl⟩
  · cases h
def fldOf13 : Nat → Option (Nat × Nat)
  | 0 => some (0, 9)
  | 1 => some (1, 12)
  | _ => none
theorem fld13 (f off ft : Nat) (h : fldOf13 f = some (off, ft)) : Fld Tryd.prog 13 f off ft := by
  unfold fldOf13 at h
  split at h
  · cases h; exact ⟨_, _, Tryd.underlying13, rfl, rfl, rfl⟩
  · cases h; exact ⟨_, _, Tryd.underlying13, rfl, rfl, rfl⟩
  · cases h
def fldOf14 : Nat → Option (Nat × Nat)
  | 0 => some (0, 9)
  | 1 => some (1, 12)
  | _ => none
theorem fld14 (f off ft : Nat) (h : fldOf14 f = some (off, ft)) : Fld Tryd.prog 14 f off ft := by
  unfold fldOf14 at h
  split at h
  · cases h; exact ⟨_, _, Tryd.underlying14, rfl, rfl, rfl⟩
  · cases h; exact ⟨_, _, Tryd.underlying14, rfl, rfl, rfl⟩
  · cases h
def fldOf18 : Nat → Option (Nat × Nat)
  | 0 => some (0, 17)
  | _ => none
theorem fld18 (f off ft : Nat) (h : fldOf18 f = some (off, ft)) : Fld Tryd.prog 18 f off ft := by
  unfold fldOf18 at h
  split at h
  · cases h; exact ⟨_, _, Tryd.underlying18, rfl, rfl, rfl⟩
  · cases h
def fldOf19 : Nat → Option (Nat × Nat)
  | 0 => some (0, 17)
  | _ => none
theorem fld19 (f off ft : Nat) (h : fldOf19 f = some (off, ft)) : Fld Tryd.prog 19 f off ft := by
  unfold fldOf19 at h
  split at h
  · cases h; exact ⟨_, _, Tryd.underlying19, rfl, rfl, rfl⟩
  · cases h
def fldOf27 : Nat → Option (Nat × Nat)
  | 0 => some (0, 3)
  | 1 => some (1, 3)
  | _ => none
theorem fld27 (f off ft : Nat) (h : fldOf27 f = some (off, ft)) : Fld Tryd.prog 27 f off ft := by
  unfold fldOf27 at h
  split at h
  · cases h; exact ⟨_, _, Tryd.underlying27, rfl, rfl, rfl⟩
  · cases h; exact ⟨_, _, Tryd.underlying27, rfl, rfl, rfl⟩
  · cases h
def fldOf28 : Nat → Option (Nat × Nat)
  | 0 => some (0, 3)
  | 1 => some (1, 3)
  | _ => none
theorem fld28 (f off ft : Nat) (h : fldOf28 f = some (off, ft)) : Fld Tryd.prog 28 f off ft := by
  unfold fldOf28 at h
  split at h
  · cases h; exact ⟨_, _, Tryd.underlying28, rfl, rfl, rfl⟩
  · cases h; exact ⟨_, _, Tryd.underlying28, rfl, rfl, rfl⟩
  · cases h
def fldOf40 : Nat → Option (Nat × Nat)
  | 0 => some (0, 39)
  | 1 => some (1, 3)
  | 2 => some (2, 3)
  | _ => none
theorem fld40 (f off ft : Nat) (h : fldOf40 f = some (off, ft)) : Fld Tryd.prog 40 f off ft := by
  unfold fldOf40 at h
  split at h
  · cases h; exact ⟨_, _, Tryd.underlying40, rfl, rfl, rfl⟩
  · cases h; exact ⟨_, _, Tryd.underlying40, rfl, rfl, rfl⟩
  · cases h; exact ⟨_, _, Tryd.underlying40, rfl, rfl, rfl⟩
  · cases h
def fldOf41 : Nat → Option (Nat × Nat)
  | 0 => some (0, 39)
  | 1 => some (1, 3)
  | 2 => some (2, 3)
  | _ => none
theorem fld41 (f off ft : Nat) (h : fldOf41 f = some (off, ft)) : Fld Tryd.prog 41 f off ft := by
  unfold fldOf41 at h
  split at h
  · cases h; exact ⟨_, _, Tryd.underlying41, rfl, rfl, rfl⟩
  · cases h; exact ⟨_, _, Tryd.underlying41, rfl, rfl, rfl⟩
  · cases h; exact ⟨_, _, Tryd.underlying41, rfl, rfl, rfl⟩
  · cases h
def fldOf52 : Nat → Option (Nat × Nat)
  | 0 => some (0, 28)
  | 1 => some (2, 21)
  | 2 => some (3, 3)
  | 3 => some (4, 4)
  | _ => none
theorem fld52 (f off ft : Nat) (h : fldOf52 f = some (off, ft)) : Fld Tryd.prog 52 f off ft := by
  unfold fldOf52 at h
  split at h
  · cases h; exact ⟨_, _, Tryd.underlying52, rfl, rfl, rfl⟩
  · cases h; exact ⟨_, _, Tryd.underlying52, rfl, rfl, rfl⟩
  · cases h; exact ⟨_, _, Tryd.underlying52, rfl, rfl, rfl⟩
  · cases h; exact ⟨_, _, Tryd.underlying52, rfl, rfl, rfl⟩
  · cases h
def fldOf53 : Nat → Option (Nat × Nat)
  | 0 => some (0, 28)
  | 1 => some (2, 21)
  | 2 => some (3, 3)
  | 3 => some (4, 4)
  | _ => none
theorem fld53 (f off ft : Nat) (h : fldOf53 f = some (off, ft)) : Fld Tryd.prog 53 f off ft := by
  unfold fldOf53 at h
  split at h
  · cases h; exact ⟨_, _, Tryd.underlying53, rfl, rfl, rfl⟩
  · cases h; exact ⟨_, _, Tryd.underlying53, rfl, rfl, rfl⟩
  · cases h; exact ⟨_, _, Tryd.underlying53, rfl, rfl, rfl⟩
  · cases h; exact ⟨_, _, Tryd.underlying53, rfl, rfl, rfl⟩
  · cases h
def fldOf59 : Nat → Option (Nat × Nat)
  | 0 => some (0, 58)
  | 1 => some (1, 56)
  | _ => none
theorem fld59 (f off ft : Nat) (h : fldOf59 f = some (off, ft)) : Fld Tryd.prog 59 f off ft := by
  unfold fldOf59 at h
  split at h
  · cases h; exact ⟨_, _, Tryd.underlying59, rfl, rfl, rfl⟩
  · cases h; exact ⟨_, _, Tryd.underlying59, rfl, rfl, rfl⟩
  · cases h
def fldOf60 : Nat → Option (Nat × Nat)
  | 0 => some (0, 58)
  | 1 => some (1, 56)
  | _ => none
theorem fld60 (f off ft : Nat) (h : fldOf60 f = some (off, ft)) : Fld Tryd.prog 60 f off ft := by
  unfold fldOf60 at h
  split at h
  · cases h; exact ⟨_, _, Tryd.underlying60, rfl, rfl, rfl⟩
  · cases h; exact ⟨_, _, Tryd.underlying60, rfl, rfl, rfl⟩
  · cases h
def fldOf68 : Nat → Option (Nat × Nat)
  | 0 => some (0, 17)
  | 1 => some (1, 66)
  | 2 => some (2, 67)
  | _ => none
theorem fld68 (f off ft : Nat) (h : fldOf68 f = some (off, ft)) : Fld Tryd.prog 68 f off ft := by
  unfold fldOf68 at h
  split at h
  · cases h; exact ⟨_, _, Tryd.underlying68, rfl, rfl, rfl⟩
  · cases h; exact ⟨_, _, Tryd.underlying68, rfl, rfl, rfl⟩
  · cases h; exact ⟨_, _, Tryd.underlying68, rfl, rfl, rfl⟩
  · cases h
def fldOf69 : Nat → Option (Nat × Nat)
  | 0 => some (0, 17)
  | 1 => some (1, 66)
  | 2 => some (2, 67)
  | _ => none
theorem fld69 (f off ft : Nat) (h : fldOf69 f = some (off, ft)) : Fld Tryd.prog 69 f off ft := by
  unfold fldOf69 at h
  split at h
  · cases h; exact ⟨_, _, Tryd.underlying69, rfl, rfl, rfl⟩
  · cases h; exact ⟨_, _, Tryd.underlying69, rfl, rfl, rfl⟩
  · cases h; exact ⟨_, _, Tryd.underlying69, rfl, rfl, rfl⟩
  · cases h
def fldOf86 : Nat → Option (Nat × Nat)
  | 0 => some (0, 84)
  | 1 => some (0, 85)
  | _ => none
theorem fld86 (f off ft : Nat) (h : fldOf86 f = some (off, ft)) : Fld Tryd.prog 86 f off ft := by
  unfold fldOf86 at h
  split at h
  · cases h; exact ⟨_, _, Tryd.underlying86, rfl, rfl, rfl⟩
  · cases h; exact ⟨_, _, Tryd.underlying86, rfl, rfl, rfl⟩
  · cases h
def fldOf87 : Nat → Option (Nat × Nat)
  | 0 => some (0, 84)
  | 1 => some (0, 85)
  | _ => none
theorem fld87 (f off ft : Nat) (h : fldOf87 f = some (off, ft)) : Fld Tryd.prog 87 f off ft := by
  unfold fldOf87 at h
  split at h
  · cases h; exact ⟨_, _, Tryd.underlying87, rfl, rfl, rfl⟩
  · cases h; exact ⟨_, _, Tryd.underlying87, rfl, rfl, rfl⟩
  · cases h
def fldOf88 : Nat → Option (Nat × Nat)
  | 0 => some (0, 21)
  | 1 => some (1, 85)
  | _ => none
theorem fld88 (f off ft : Nat) (h : fldOf88 f = some (off, ft)) : Fld Tryd.prog 88 f off ft := by
  unfold fldOf88 at h
  split at h
  · cases h; exact ⟨_, _, Tryd.underlying88, rfl, rfl, rfl⟩
  · cases h; exact ⟨_, _, Tryd.underlying88, rfl, rfl, rfl⟩
  · cases h
def fldOf89 : Nat → Option (Nat × Nat)
  | 0 => some (0, 21)
  | 1 => some (1, 85)
  | _ => none
theorem fld89 (f off ft : Nat) (h : fldOf89 f = some (off, ft)) : Fld Tryd.prog 89 f off ft := by
  unfold fldOf89 at h
  split at h
  · cases h; exact ⟨_, _, Tryd.underlying89, rfl, rfl, rfl⟩
  · cases h; exact ⟨_, _, Tryd.underlying89, rfl, rfl, rfl⟩
  · cases h
def fldOf90 : Nat → Option (Nat × Nat)
  | 0 => some (0, 83)
  | 1 => some (0, 89)
  | _ => none
theorem fld90 (f off ft : Nat) (h : fldOf90 f = some (off, ft)) : Fld Tryd.prog 90 f off ft := by
  unfold fldOf90 at h
  split at h
  · cases h; exact ⟨_, _, Tryd.underlying90, rfl, rfl, rfl⟩
  · cases h; exact ⟨_, _, Tryd.underlying90, rfl, rfl, rfl⟩
  · cases h
def fldOf91 : Nat → Option (Nat × Nat)
  | 0 => some (0, 83)
  | 1 => some (0, 89)
  | _ => none
theorem fld91 (f off ft : Nat) (h : fldOf91 f = some (off, ft)) : Fld Tryd.prog 91 f off ft := by
  unfold fldOf91 at h
  split at h
  · cases h; exact ⟨_, _, Tryd.underlying91, rfl, rfl, rfl⟩
  · cases h; exact ⟨_, _, Tryd.underlying91, rfl, rfl, rfl⟩
  · cases h
def fldOf92 : Nat → Option (Nat × Nat)
  | 0 => some (0, 83)
  | 1 => some (0, 87)
  | 2 => some (1, 91)
  | _ => none
theorem fld92 (f off ft : Nat) (h : fldOf92 f = some (off, ft)) : Fld Tryd.prog 92 f off ft := by
  unfold fldOf92 at h
  split at h
  · cases h; exact ⟨_, _, Tryd.underlying92, rfl, rfl, rfl⟩
  · cases h; exact ⟨_, _, Tryd.underlying92, rfl, rfl, rfl⟩
  · cases h; exact ⟨_, _, Tryd.underlying92, rfl, rfl, rfl⟩
  · cases h
def fldOf93 : Nat → Option (Nat × Nat)
  | 0 => some (0, 83)
  | 1 => some (0, 87)
  | 2 => some (1, 91)
  | _ => none
theorem fld93 (f off ft : Nat) (h : fldOf93 f = some (off, ft)) : Fld Tryd.prog 93 f off ft := by
  unfold fldOf93 at h
  split at h
  · cases h; exact ⟨_, _, Tryd.underlying93, rfl, rfl, rfl⟩
  · cases h; exact ⟨_, _, Tryd.underlying93, rfl, rfl, rfl⟩
  · cases h; exact ⟨_, _, Tryd.underlying93, rfl, rfl, rfl⟩
  · cases h
def fldOf96 : Nat → Option (Nat × Nat)
  | 0 => some (0, 93)
  | 1 => some (3, 95)
  | 2 => some (4, 81)
  | _ => none
theorem fld96 (f off ft : Nat) (h : fldOf96 f = some (off, ft)) : Fld Tryd.prog 96 f off ft := by
  unfold fldOf96 at h
  split at h
  · cases h; exact ⟨_, _, Tryd.underlying96, rfl, rfl, rfl⟩
  · cases h; exact ⟨_, _, Tryd.underlying96, rfl, rfl, rfl⟩
  · cases h; exact ⟨_, _, Tryd.underlying96, rfl, rfl, rfl⟩
  · cases h
def fldOf97 : Nat → Option (Nat × Nat)
  | 0 => some (0, 93)
  | 1 => some (3, 95)
  | 2 => some (4, 81)
  | _ => none
theorem fld97 (f off ft : Nat) (h : fldOf97 f = some (off, ft)) : Fld Tryd.prog 97 f off ft := by
  unfold fldOf97 at h
  split at h
  · cases h; exact ⟨_, _, Tryd.underlying97, rfl, rfl, rfl⟩
  · cases h; exact ⟨_, _, Tryd.underlying97, rfl, rfl, rfl⟩
  · cases h; exact ⟨_, _, Tryd.underlying97, rfl, rfl, rfl⟩
  · cases h
def fldOf101 : Nat → Option (Nat × Nat)
  | 0 => some (0, 17)
  | _ => none
theorem fld101 (f off ft : Nat) (h : fldOf101 f = some (off, ft)) : Fld Tryd.prog 101 f off ft := by
  unfold fldOf101 at h
  split at h
  · cases h; exact ⟨_, _, Tryd.underlying101, rfl, rfl, rfl⟩
  · cases h
def fldOf102 : Nat → Option (Nat × Nat)
  | 0 => some (0, 17)
  | _ => none
theorem fld102 (f off ft : Nat) (h : fldOf102 f = some (off, ft)) : Fld Tryd.prog 102 f off ft := by
  unfold fldOf102 at h
  split at h
  · cases h; exact ⟨_, _, Tryd.underlying102, rfl, rfl, rfl⟩
  · cases h
def fldOf117 : Nat → Option (Nat × Nat)
  | 0 => some (0, 5)
  | 1 => some (1, 5)
  | _ => none
theorem fld117 (f off ft : Nat) (h : fldOf117 f = some (off, ft)) : Fld Tryd.prog 117 f off ft := by
  unfold fldOf117 at h
  split at h
  · cases h; exact ⟨_, _, Tryd.underlying117, rfl, rfl, rfl⟩
  · cases h; exact ⟨_, _, Tryd.underlying117, rfl, rfl, rfl⟩
  · cases h
def fldOf118 : Nat → Option (Nat × Nat)
  | 0 => some (0, 5)
  | 1 => some (1, 5)
  | _ => none
theorem fld118 (f off ft : Nat) (h : fldOf118 f = some (off, ft)) : Fld Tryd.prog 118 f off ft := by
  unfold fldOf118 at h
  split at h
  · cases h; exact ⟨_, _, Tryd.underlying118, rfl, rfl, rfl⟩
  · cases h; exact ⟨_, _, Tryd.underlying118, rfl, rfl, rfl⟩
  · cases h
def fldOf148 : Nat → Option (Nat × Nat)
  | 0 => some (0, 146)
  | 1 => some (1, 9)
  | _ => none
theorem fld148 (f off ft : Nat) (h : fldOf148 f = some (off, ft)) : Fld Tryd.prog 148 f off ft := by
  unfold fldOf148 at h
  split at h
  · cases h; exact ⟨_, _, Tryd.underlying148, rfl, rfl, rfl⟩
  · cases h; exact ⟨_, _, Tryd.underlying148, rfl, rfl, rfl⟩
  · cases h
def fldOf149 : Nat → Option (Nat × Nat)
  | 0 => some (0, 146)
  | 1 => some (1, 9)
  | _ => none
theorem fld149 (f off ft : Nat) (h : fldOf149 f = some (off, ft)) : Fld Tryd.prog 149 f off ft := by
  unfold fldOf149 at h
  split at h
  · cases h; exact ⟨_, _, Tryd.underlying149, rfl, rfl, rfl⟩
  · cases h; exact ⟨_, _, Tryd.underlying149, rfl, rfl, rfl⟩
  · cases h
def fldOf152 : Nat → Option (Nat × Nat)
  | 0 => some (0, 9)
  | 1 => some (1, 3)
  | 2 => some (2, 9)
  | 3 => some (3, 150)
  | 4 => some (4, 151)
  | _ => none
theorem fld152 (f off ft : Nat) (h : fldOf152 f = some (off, ft)) : Fld Tryd.prog 152 f off ft := by
  unfold fldOf152 at h
  split at h
  · cases h; exact ⟨_, _, Tryd.underlying152, rfl, rfl, rfl⟩
  · cases h; exact ⟨_, _, Tryd.underlying152, rfl, rfl, rfl⟩
  · cases h; exact ⟨_, _, Tryd.underlying152, rfl, rfl, rfl⟩
  · cases h; exact ⟨_, _, Tryd.underlying152, rfl, rfl, rfl⟩
  · cases h; exact ⟨_, _, Tryd.underlying152, rfl, rfl, rfl⟩
  · cases h
def fldOf153 : Nat → Option (Nat × Nat)
  | 0 => some (0, 9)
  | 1 => some (1, 3)
  | 2 => some (2, 9)
  | 3 => some (3, 150)
  | 4 => some (4, 151)
  | _ => none
theorem fld153 (f off ft : Nat) (h : fldOf153 f = some (off, ft)) : Fld Tryd.prog 153 f off ft := by
  unfold fldOf153 at h
  split at h
  · cases h; exact ⟨_, _, Tryd.underlying153, rfl, rfl, rfl⟩
  · cases h; exact ⟨_, _, Tryd.underlying153, rfl, rfl, rfl⟩
  · cases h; exact ⟨_, _, Tryd.underlying153, rfl, rfl, rfl⟩
  · cases h; exact ⟨_, _, Tryd.underlying153, rfl, rfl, rfl⟩
  · cases h; exact ⟨_, _, Tryd.underlying153, rfl, rfl, rfl⟩
  · cases h
def fldOf172 : Nat → Option (Nat × Nat)
  | 0 => some (0, 17)
  | 1 => some (1, 17)
  | 2 => some (2, 17)
  | 3 => some (3, 9)
  | _ => none
theorem fld172 (f off ft : Nat) (h : fldOf172 f = some (off, ft)) : Fld Tryd.prog 172 f off ft := by
  unfold fldOf172 at h
  split at h
  · cases h; exact ⟨_, _, Tryd.underlying172, rfl, rfl, rfl⟩
  · cases h; exact ⟨_, _, Tryd.underlying172, rfl, rfl, rfl⟩
  · cases h; exact ⟨_, _, Tryd.underlying172, rfl, rfl, rfl⟩
  · cases h; exact ⟨_, _, Tryd.underlying172, rfl, rfl, rfl⟩
  · cases h
def fldOf173 : Nat → Option (Nat × Nat)
  | 0 => some (0, 17)
  | 1 => some (1, 17)
  | 2 => some (2, 17)
  | 3 => some (3, 9)
  | _ => none
theorem fld173 (f off ft : Nat) (h : fldOf173 f = some (off, ft)) : Fld Tryd.prog 173 f off ft := by
  unfold fldOf173 at h
  split at h
  · cases h; exact ⟨_, _, Tryd.underlying173, rfl, rfl, rfl⟩
  · cases h; exact ⟨_, _, Tryd.underlying173, rfl, rfl, rfl⟩
  · cases h; exact ⟨_, _, Tryd.underlying173, rfl, rfl, rfl⟩
  · cases h; exact ⟨_, _, Tryd.underlying173, rfl, rfl, rfl⟩
  · cases h
def fldOf175 : Nat → Option (Nat × Nat)
  | 0 => some (0, 174)
  | _ => none
theorem fld175 (f off ft : Nat) (h : fldOf175 f = some (off, ft)) : Fld Tryd.prog 175 f off ft := by
  unfold fldOf175 at h
  split at h
  · cases h; exact ⟨_, _, Tryd.underlying175, rfl, rfl, rfl⟩
  · cases h
def fldOf176 : Nat → Option (Nat × Nat)
  | 0 => some (0, 174)
  | _ => none
theorem fld176 (f off ft : Nat) (h : fldOf176 f = some (off, ft)) : Fld Tryd.prog 176 f off ft := by
  unfold fldOf176 at h
  split at h
  · cases h; exact ⟨_, _, Tryd.underlying176, rfl, rfl, rfl⟩
  · cases h
def fldOf183 : Nat → Option (Nat × Nat)
  | 0 => some (0, 12)
  | 1 => some (1, 12)
  | 2 => some (2, 85)
  | 3 => some (3, 179)
  | 4 => some (4, 5)
  | 5 => some (5, 5)
  | 6 => some (6, 74)
  | 7 => some (7, 180)
  | 8 => some (8, 80)
  | 9 => some (9, 181)
  | 10 => some (10, 182)
  | _ => none
theorem fld183 (f off ft : Nat) (h : fldOf183 f = some (off, ft)) : Fld Tryd.prog 183 f off ft := by
  unfold fldOf183 at h
  split at h
  · cases h; exact ⟨_, _, Tryd.underlying183, rfl, rfl, rfl⟩
  · cases h; exact ⟨_, _, Tryd.underlying183, rfl, rfl, rfl⟩
  · cases h; exact ⟨_, _, Tryd.underlying183, rfl, rfl, rfl⟩
  · cases h; exact ⟨_, _, Tryd.underlying183, rfl, rfl, rfl⟩
  · cases h; exact ⟨_, _, Tryd.underlying183, rfl, rfl, rfl⟩
  · cases h; exact ⟨_, _, Tryd.underlying183, rfl, rfl, rfl⟩
  · cases h; exact ⟨_, _, Tryd.underlying183, rfl, rfl, rfl⟩
  · cases h; exact ⟨_, _, Tryd.underlying183, rfl, rfl, rfl⟩
  · cases h; exact ⟨_, _, Tryd.underlying183, rfl, rfl, rfl⟩
  · cases h; exact ⟨_, _, Tryd.underlying183, rfl, rfl, rfl⟩
  · cases h; exact ⟨_, _, Tryd.underlying183, rfl, rfl, rfl⟩
  · cases h
def fldOf184 : Nat → Option (Nat × Nat)
  | 0 => some (0, 12)
  | 1 => some (1, 12)
  | 2 => some (2, 85)
  | 3 => some (3, 179)
  | 4 => some (4, 5)
  | 5 => some (5, 5)
  | 6 => some (6, 74)
  | 7 => some (7, 180)
  | 8 => some (8, 80)
  | 9 => some (9, 181)
  | 10 => some (10, 182)
  | _ => none
theorem fld184 (f off ft : Nat) (h : fldOf184 f = some (off, ft)) : Fld Tryd.prog 184 f off ft := by
  unfold fldOf184 at h
  split at h
  · cases h; exact ⟨_, _, Tryd.underlying184, rfl, rfl, rfl⟩
  · cases h; exact ⟨_, _, Tryd.underlying184, rfl, rfl, rfl⟩
  · cases h; exact ⟨_, _, Tryd.underlying184, rfl, rfl, rfl⟩
  · cases h; exact ⟨_, _, Tryd.underlying184, rfl, rfl, rfl⟩
  · cases h; exact ⟨_, _, Tryd.underlying184, rfl, rfl, rfl⟩
  · cases h; exact ⟨_, _, Tryd.underlying184, rfl, rfl, rfl⟩
  · cases h; exact ⟨_, _, Tryd.underlying184, rfl, rfl, rfl⟩
  · cases h; exact ⟨_, _, Tryd.underlying184, rfl, rfl, rfl⟩
  · cases h; exact ⟨_, _, Tryd.underlying184, rfl, rfl, rfl⟩
  · cases h; exact ⟨_, _, Tryd.underlying184, rfl, rfl, rfl⟩
  · cases h; exact ⟨_, _, Tryd.underlying184, rfl, rfl, rfl⟩
  · cases h
def fldOf188 : Nat → Option (Nat × Nat)
  | 0 => some (0, 9)
  | 1 => some (1, 74)
  | _ => none
theorem fld188 (f off ft : Nat) (h : fldOf188 f = some (off, ft)) : Fld Tryd.prog 188 f off ft := by
  unfold fldOf188 at h
  split at h
  · cases h; exact ⟨_, _, Tryd.underlying188, rfl, rfl, rfl⟩
  · cases h; exact ⟨_, _, Tryd.underlying188, rfl, rfl, rfl⟩
  · cases h
def fldOf189 : Nat → Option (Nat × Nat)
  | 0 => some (0, 9)
  | 1 => some (1, 74)
  | _ => none
theorem fld189 (f off ft : Nat) (h : fldOf189 f = some (off, ft)) : Fld Tryd.prog 189 f off ft := by
  unfold fldOf189 at h
  split at h
  · cases h; exact ⟨_, _, Tryd.underlying189, rfl, rfl, rfl⟩
  · cases h; exact ⟨_, _, Tryd.underlying189, rfl, rfl, rfl⟩
  · cases h
def fldOf204 : Nat → Option (Nat × Nat)
  | 0 => some (0, 197)
  | _ => none
theorem fld204 (f off ft : Nat) (h : fldOf204 f = some (off, ft)) : Fld Tryd.prog 204 f off ft := by
  unfold fldOf204 at h
  split at h
  · cases h; exact ⟨_, _, Tryd.underlying204, rfl, rfl, rfl⟩
  · cases h
def fldOf205 : Nat → Option (Nat × Nat)
  | 0 => some (0, 197)
  | _ => none
theorem fld205 (f off ft : Nat) (h : fldOf205 f = some (off, ft)) : Fld Tryd.prog 205 f off ft := by
  unfold fldOf205 at h
  split at h
  · cases h; exact ⟨_, _, Tryd.underlying205, rfl, rfl, rfl⟩
  · cases h
def fldOf214 : Nat → Option (Nat × Nat)
  | 0 => some (0, 181)
  | 1 => some (1, 213)
  | 2 => some (2, 213)
  | 3 => some (3, 85)
  | 4 => some (4, 85)
  | _ => none
theorem fld214 (f off ft : Nat) (h : fldOf214 f = some (off, ft)) : Fld Tryd.prog 214 f off ft := by
  unfold fldOf214 at h
  split at h
  · cases h; exact ⟨_, _, Tryd.underlying214, rfl, rfl, rfl⟩
  · cases h; exact ⟨_, _, Tryd.underlying214, rfl, rfl, rfl⟩
  · cases h; exact ⟨_, _, Tryd.underlying214, rfl, rfl, rfl⟩
  · cases h; exact ⟨_, _, Tryd.underlying214, rfl, rfl, rfl⟩
  · cases h; exact ⟨_, _, Tryd.underlying214, rfl, rfl, rfl⟩
  · cases h
def fldOf215 : Nat → Option (Nat × Nat)
  | 0 => some (0, 181)
  | 1 => some (1, 213)
  | 2 => some (2, 213)
  | 3 => some (3, 85)
  | 4 => some (4, 85)
  | _ => none
theorem fld215 (f off ft : Nat) (h : fldOf215 f = some (off, ft)) : Fld Tryd.prog 215 f off ft := by
  unfold fldOf215 at h
  split at h
  · cases h; exact ⟨_, _, Tryd.underlying215, rfl, rfl, rfl⟩
  · cases h; exact ⟨_, _, Tryd.underlying215, rfl, rfl, rfl⟩
  · cases h; exact ⟨_, _, Tryd.underlying215, rfl, rfl, rfl⟩
  · cases h; exact ⟨_, _, Tryd.underlying215, rfl, rfl, rfl⟩
  · cases h; exact ⟨_, _, Tryd.underlying215, rfl, rfl, rfl⟩
  · cases h
def fldOf218 : Nat → Option (Nat × Nat)
  | 0 => some (0, 181)
  | 1 => some (1, 182)
  | 2 => some (2, 217)
  | 3 => some (3, 217)
  | _ => none
theorem fld218 (f off ft : Nat) (h : fldOf218 f = some (off, ft)) : Fld Tryd.prog 218 f off ft := by
  unfold fldOf218 at h
  split at h
  · cases h; exact ⟨_, _, Tryd.underlying218, rfl, rfl, rfl⟩
  · cases h; exact ⟨_, _, Tryd.underlying218, rfl, rfl, rfl⟩
  · cases h; exact ⟨_, _, Tryd.underlying218, rfl, rfl, rfl⟩
  · cases h; exact ⟨_, _, Tryd.underlying218, rfl, rfl, rfl⟩
  · cases h
def fldOf219 : Nat → Option (Nat × Nat)
  | 0 => some (0, 181)
  | 1 => some (1, 182)
  | 2 => some (2, 217)
  | 3 => some (3, 217)
  | _ => none
theorem fld219 (f off ft : Nat) (h : fldOf219 f = some (off, ft)) : Fld Tryd.prog 219 f off ft := by
  unfold fldOf219 at h
  split at h
  · cases h; exact ⟨_, _, Tryd.underlying219, rfl, rfl, rfl⟩
  · cases h; exact ⟨_, _, Tryd.underlying219, rfl, rfl, rfl⟩
  · cases h; exact ⟨_, _, Tryd.underlying219, rfl, rfl, rfl⟩
  · cases h; exact ⟨_, _, Tryd.underlying219, rfl, rfl, rfl⟩
  · cases h
def fldOf (t f : Nat) : Option (Nat × Nat) :=
  match t with
  | 7 => fldOf7 f
  | 8 => fldOf8 f
  | 13 => fldOf13 f
  | 14 => fldOf14 f
  | 18 => fldOf18 f
  | 19 => fldOf19 f
  | 27 => fldOf27 f
  | 28 => fldOf28 f
  | 40 => fldOf40 f
  | 41 => fldOf41 f
  | 52 => fldOf52 f
  | 53 => fldOf53 f
  | 59 => fldOf59 f
  | 60 => fldOf60 f
  | 68 => fldOf68 f
  | 69 => fldOf69 f
  | 86 => fldOf86 f
  | 87 => fldOf87 f
  | 88 => fldOf88 f
  | 89 => fldOf89 f
  | 90 => fldOf90 f
  | 91 => fldOf91 f
  | 92 => fldOf92 f
  | 93 => fldOf93 f
  | 96 => fldOf96 f
  | 97 => fldOf97 f
  | 101 => fldOf101 f
  | 102 => fldOf102 f
  | 117 => fldOf117 f
  | 118 => fldOf118 f
  | 148 => fldOf148 f
  | 149 => fldOf149 f
  | 152 => fldOf152 f
  | 153 => fldOf153 f
  | 172 => fldOf172 f
  | 173 => fldOf173 f
  | 175 => fldOf175 f
  | 176 => fldOf176 f
  | 183 => fldOf183 f
  | 184 => fldOf184 f
  | 188 => fldOf188 f
  | 189 => fldOf189 f
  | 204 => fldOf204 f
  | 205 => fldOf205 f
  | 214 => fldOf214 f
  | 215 => fldOf215 f
  | 218 => fldOf218 f
  | 219 => fldOf219 f
  | _ => none
set_option maxHeartbeats 8000000 in
theorem fld (t f off ft : Nat) (h : fldOf t f = some (off, ft)) : Fld Tryd.prog t f off ft := by
  unfold fldOf at h
  split at h
  · exact fld7 _ _ _ h
  · exact fld8 _ _ _ h
  · exact fld13 _ _ _ h
  · exact fld14 _ _ _ h
  · exact fld18 _ _ _ h
  · exact fld19 _ _ _ h
  · exact fld27 _ _ _ h
  · exact fld28 _ _ _ h
  · exact fld40 _ _ _ h
  · exact fld41 _ _ _ h
  · exact fld52 _ _ _ h
  · exact fld53 _ _ _ h
  · exact fld59 _ _ _ h
  · exact fld60 _ _ _ h
  · exact fld68 _ _ _ h
  · exact fld69 _ _ _ h
  · exact fld86 _ _ _ h
  · exact fld87 _ _ _ h
  · exact fld88 _ _ _ h
  · exact fld89 _ _ _ h
  · exact fld90 _ _ _ h
  · exact fld91 _ _ _ h
  · exact fld92 _ _ _ h
  · exact fld93 _ _ _ h
  · exact fld96 _ _ _ h
  · exact fld97 _ _ _ h
  · exact fld101 _ _ _ h
  · exact fld102 _ _ _ h
  · exact fld117 _ _ _ h
  · exact fld118 _ _ _ h
  · exact fld148 _ _ _ h
  · exact fld149 _ _ _ h
  · exact fld152 _ _ _ h
  · exact fld153 _ _ _ h
  · exact fld172 _ _ _ h
  · exact fld173 _ _ _ h
  · exact fld175 _ _ _ h
  · exact fld176 _ _ _ h
  · exact fld183 _ _ _ h
  · exact fld184 _ _ _ h
  · exact fld188 _ _ _ h
  · exact fld189 _ _ _ h
  · exact fld204 _ _ _ h
  · exact fld205 _ _ _ h
  · exact fld214 _ _ _ h
  · exact fld215 _ _ _ h
  · exact fld218 _ _ _ h
  · exact fld219 _ _ _ h
  · cases h
/-- busbar/busbarlaw03.CharsCheck -/
theorem cal3 : Callable Tryd.prog 3 := ⟨⟨_, Tryd.func3, by kernel_rfl, by kernel_rfl⟩⟩
/-- busbar/busbarlaw03.CharsUnquotes -/
theorem cal4 : Callable Tryd.prog 4 := ⟨⟨_, Tryd.func4, by kernel_rfl, by kernel_rfl⟩⟩
/-- busbar/busbarlaw03.CharsNamed -/
theorem cal5 : Callable Tryd.prog 5 := ⟨⟨_, Tryd.func5, by kernel_rfl, by kernel_rfl⟩⟩
/-- busbar/busbarlaw03.long -/
theorem cal6 : Callable Tryd.prog 6 := ⟨⟨_, Tryd.func6, by kernel_rfl, by kernel_rfl⟩⟩
/-- busbar/busbarkit.Plain -/
theorem cal7 : Callable Tryd.prog 7 := ⟨⟨_, Tryd.func7, by kernel_rfl, by kernel_rfl⟩⟩
/-- busbar/chars.Check -/
theorem cal8 : Callable Tryd.prog 8 := ⟨⟨_, Tryd.func8, by kernel_rfl, by kernel_rfl⟩⟩
/-- busbar/busbarref03.Check -/
theorem cal9 : Callable Tryd.prog 9 := ⟨⟨_, Tryd.func9, by kernel_rfl, by kernel_rfl⟩⟩
/-- busbar/busbarkit.At -/
theorem cal10 : Callable Tryd.prog 10 := ⟨⟨_, Tryd.func10, by kernel_rfl, by kernel_rfl⟩⟩
/-- busbar/busbarref03.Unquote -/
theorem cal11 : Callable Tryd.prog 11 := ⟨⟨_, Tryd.func11, by kernel_rfl, by kernel_rfl⟩⟩
/-- busbar/chars.Unquote -/
theorem cal12 : Callable Tryd.prog 12 := ⟨⟨_, Tryd.func12, by kernel_rfl, by kernel_rfl⟩⟩
/-- busbar/busbarlaw03.works -/
theorem cal13 : Callable Tryd.prog 13 := ⟨⟨_, Tryd.func13, by kernel_rfl, by kernel_rfl⟩⟩
/-- busbar/chars.Name -/
theorem cal14 : Callable Tryd.prog 14 := ⟨⟨_, Tryd.func14, by kernel_rfl, by kernel_rfl⟩⟩
/-- busbar/chars.Quote -/
theorem cal15 : Callable Tryd.prog 15 := ⟨⟨_, Tryd.func15, by kernel_rfl, by kernel_rfl⟩⟩
/-- busbar/busbarkit.Num -/
theorem cal16 : Callable Tryd.prog 16 := ⟨⟨_, Tryd.func16, by kernel_rfl, by kernel_rfl⟩⟩
/-- errors.As -/
theorem cal17 : Callable Tryd.prog 17 := ⟨⟨_, Tryd.func17, by kernel_rfl, by kernel_rfl⟩⟩
/-- busbar/chars.All -/
theorem cal18 : Callable Tryd.prog 18 := ⟨⟨_, Tryd.func18, by kernel_rfl, by kernel_rfl⟩⟩
/-- strings.HasPrefix -/
theorem cal19 : Callable Tryd.prog 19 := ⟨⟨_, Tryd.func19, by kernel_rfl, by kernel_rfl⟩⟩
/-- unicode/utf8.RuneLen -/
theorem cal20 : Callable Tryd.prog 20 := ⟨⟨_, Tryd.func20, by kernel_rfl, by kernel_rfl⟩⟩
/-- busbar/chars.control -/
theorem cal21 : Callable Tryd.prog 21 := ⟨⟨_, Tryd.func21, by kernel_rfl, by kernel_rfl⟩⟩
/-- busbar/chars.blank -/
theorem cal22 : Callable Tryd.prog 22 := ⟨⟨_, Tryd.func22, by kernel_rfl, by kernel_rfl⟩⟩
/-- busbar/busbarref03.Units -/
theorem cal23 : Callable Tryd.prog 23 := ⟨⟨_, Tryd.func23, by kernel_rfl, by kernel_rfl⟩⟩
/-- busbar/busbarref03.Control -/
theorem cal24 : Callable Tryd.prog 24 := ⟨⟨_, Tryd.func24, by kernel_rfl, by kernel_rfl⟩⟩
/-- busbar/busbarref03.Blank -/
theorem cal25 : Callable Tryd.prog 25 := ⟨⟨_, Tryd.func25, by kernel_rfl, by kernel_rfl⟩⟩
/-- busbar/busbarkit.Place -/
theorem cal26 : Callable Tryd.prog 26 := ⟨⟨_, Tryd.func26, by kernel_rfl, by kernel_rfl⟩⟩
/-- busbar/busbarref03.May -/
theorem cal27 : Callable Tryd.prog 27 := ⟨⟨_, Tryd.func27, by kernel_rfl, by kernel_rfl⟩⟩
/-- (*strings.Builder).WriteByte -/
theorem cal28 : Callable Tryd.prog 28 := ⟨⟨_, Tryd.func28, by kernel_rfl, by kernel_rfl⟩⟩
/-- busbar/chars.may -/
theorem cal29 : Callable Tryd.prog 29 := ⟨⟨_, Tryd.func29, by kernel_rfl, by kernel_rfl⟩⟩
/-- (*strings.Builder).String -/
theorem cal30 : Callable Tryd.prog 30 := ⟨⟨_, Tryd.func30, by kernel_rfl, by kernel_rfl⟩⟩
/-- busbar/chars.letter -/
theorem cal31 : Callable Tryd.prog 31 := ⟨⟨_, Tryd.func31, by kernel_rfl, by kernel_rfl⟩⟩
/-- strings.NewReplacer -/
theorem cal32 : Callable Tryd.prog 32 := ⟨⟨_, Tryd.func32, by kernel_rfl, by kernel_rfl⟩⟩
/-- (*strings.Replacer).Replace -/
theorem cal33 : Callable Tryd.prog 33 := ⟨⟨_, Tryd.func33, by kernel_rfl, by kernel_rfl⟩⟩
/-- errors.Is -/
theorem cal34 : Callable Tryd.prog 34 := ⟨⟨_, Tryd.func34, by kernel_rfl, by kernel_rfl⟩⟩
/-- errors.as -/
theorem cal38 : Callable Tryd.prog 38 := ⟨⟨_, Tryd.func38, by kernel_rfl, by kernel_rfl⟩⟩
/-- busbar/chars.All$1 -/
theorem cal39 : Callable Tryd.prog 39 := ⟨⟨_, Tryd.func39, by kernel_rfl, by kernel_rfl⟩⟩
/-- internal/stringslite.HasPrefix -/
theorem cal40 : Callable Tryd.prog 40 := ⟨⟨_, Tryd.func40, by kernel_rfl, by kernel_rfl⟩⟩
/-- (*strings.Builder).copyCheck -/
theorem cal41 : Callable Tryd.prog 41 := ⟨⟨_, Tryd.func41, by kernel_rfl, by kernel_rfl⟩⟩
/-- unicode/utf8.ValidString -/
theorem cal42 : Callable Tryd.prog 42 := ⟨⟨_, Tryd.func42, by kernel_rfl, by kernel_rfl⟩⟩
/-- strings.ContainsFunc -/
theorem cal43 : Callable Tryd.prog 43 := ⟨⟨_, Tryd.func43, by kernel_rfl, by kernel_rfl⟩⟩
/-- (*sync.Once).Do -/
theorem cal44 : Callable Tryd.prog 44 := ⟨⟨_, Tryd.func44, by kernel_rfl, by kernel_rfl⟩⟩
/-- (*strings.Replacer).buildOnce -/
theorem cal45 : Callable Tryd.prog 45 := ⟨⟨_, Tryd.func45, by kernel_rfl, by kernel_rfl⟩⟩
/-- errors.is -/
theorem cal47 : Callable Tryd.prog 47 := ⟨⟨_, Tryd.func47, by kernel_rfl, by kernel_rfl⟩⟩
/-- unicode/utf8.word[string] -/
theorem cal51 : Callable Tryd.prog 51 := ⟨⟨_, Tryd.func51, by kernel_rfl, by kernel_rfl⟩⟩
/-- strings.IndexFunc -/
theorem cal52 : Callable Tryd.prog 52 := ⟨⟨_, Tryd.func52, by kernel_rfl, by kernel_rfl⟩⟩
/-- (*sync/atomic.Bool).Load -/
theorem cal53 : Callable Tryd.prog 53 := ⟨⟨_, Tryd.func53, by kernel_rfl, by kernel_rfl⟩⟩
/-- (*sync.Once).doSlow -/
theorem cal54 : Callable Tryd.prog 54 := ⟨⟨_, Tryd.func54, by kernel_rfl, by kernel_rfl⟩⟩
/-- (*strings.Replacer).build -/
theorem cal55 : Callable Tryd.prog 55 := ⟨⟨_, Tryd.func55, by kernel_rfl, by kernel_rfl⟩⟩
/-- strings.indexFunc -/
theorem cal56 : Callable Tryd.prog 56 := ⟨⟨_, Tryd.func56, by kernel_rfl, by kernel_rfl⟩⟩
/-- (*sync.Mutex).Lock -/
theorem cal58 : Callable Tryd.prog 58 := ⟨⟨_, Tryd.func58, by kernel_rfl, by kernel_rfl⟩⟩
/-- (*sync.Mutex).Unlock -/
theorem cal59 : Callable Tryd.prog 59 := ⟨⟨_, Tryd.func59, by kernel_rfl, by kernel_rfl⟩⟩
/-- (*sync/atomic.Bool).Store -/
theorem cal60 : Callable Tryd.prog 60 := ⟨⟨_, Tryd.func60, by kernel_rfl, by kernel_rfl⟩⟩
/-- strings.makeSingleStringReplacer -/
theorem cal61 : Callable Tryd.prog 61 := ⟨⟨_, Tryd.func61, by kernel_rfl, by kernel_rfl⟩⟩
/-- strings.makeGenericReplacer -/
theorem cal62 : Callable Tryd.prog 62 := ⟨⟨_, Tryd.func62, by kernel_rfl, by kernel_rfl⟩⟩
/-- (*internal/sync.Mutex).Lock -/
theorem cal63 : Callable Tryd.prog 63 := ⟨⟨_, Tryd.func63, by kernel_rfl, by kernel_rfl⟩⟩
/-- (*internal/sync.Mutex).Unlock -/
theorem cal64 : Callable Tryd.prog 64 := ⟨⟨_, Tryd.func64, by kernel_rfl, by kernel_rfl⟩⟩
/-- sync/atomic.b32 -/
theorem cal66 : Callable Tryd.prog 66 := ⟨⟨_, Tryd.func66, by kernel_rfl, by kernel_rfl⟩⟩
/-- strings.makeStringFinder -/
theorem cal67 : Callable Tryd.prog 67 := ⟨⟨_, Tryd.func67, by kernel_rfl, by kernel_rfl⟩⟩
/-- (*strings.trieNode).add -/
theorem cal68 : Callable Tryd.prog 68 := ⟨⟨_, Tryd.func68, by kernel_rfl, by kernel_rfl⟩⟩
/-- (*internal/sync.Mutex).lockSlow -/
theorem cal73 : Callable Tryd.prog 73 := ⟨⟨_, Tryd.func73, by kernel_rfl, by kernel_rfl⟩⟩
/-- (*internal/sync.Mutex).unlockSlow -/
theorem cal76 : Callable Tryd.prog 76 := ⟨⟨_, Tryd.func76, by kernel_rfl, by kernel_rfl⟩⟩
/-- strings.longestCommonSuffix -/
theorem cal77 : Callable Tryd.prog 77 := ⟨⟨_, Tryd.func77, by kernel_rfl, by kernel_rfl⟩⟩
/-- (busbar/api.Fault).Unwrap -/
theorem cal104 : Callable Tryd.prog 104 := ⟨⟨_, Tryd.func104, by kernel_rfl, by kernel_rfl⟩⟩
/-- (*strings.singleStringReplacer).Replace -/
theorem cal120 : Callable Tryd.prog 120 := ⟨⟨_, Tryd.func120, by kernel_rfl, by kernel_rfl⟩⟩
/-- (*strings.singleStringReplacer).WriteString -/
theorem cal121 : Callable Tryd.prog 121 := ⟨⟨_, Tryd.func121, by kernel_rfl, by kernel_rfl⟩⟩
/-- (*strings.stringFinder).next -/
theorem cal122 : Callable Tryd.prog 122 := ⟨⟨_, Tryd.func122, by kernel_rfl, by kernel_rfl⟩⟩
/-- (*strings.Builder).Grow -/
theorem cal123 : Callable Tryd.prog 123 := ⟨⟨_, Tryd.func123, by kernel_rfl, by kernel_rfl⟩⟩
/-- (*strings.Builder).WriteString -/
theorem cal124 : Callable Tryd.prog 124 := ⟨⟨_, Tryd.func124, by kernel_rfl, by kernel_rfl⟩⟩
/-- (*strings.Builder).grow -/
theorem cal125 : Callable Tryd.prog 125 := ⟨⟨_, Tryd.func125, by kernel_rfl, by kernel_rfl⟩⟩
/-- (*strings.genericReplacer).Replace -/
theorem cal127 : Callable Tryd.prog 127 := ⟨⟨_, Tryd.func127, by kernel_rfl, by kernel_rfl⟩⟩
/-- (*strings.genericReplacer).WriteString -/
theorem cal128 : Callable Tryd.prog 128 := ⟨⟨_, Tryd.func128, by kernel_rfl, by kernel_rfl⟩⟩
/-- strings.getStringWriter -/
theorem cal129 : Callable Tryd.prog 129 := ⟨⟨_, Tryd.func129, by kernel_rfl, by kernel_rfl⟩⟩
/-- (*strings.genericReplacer).lookup -/
theorem cal130 : Callable Tryd.prog 130 := ⟨⟨_, Tryd.func130, by kernel_rfl, by kernel_rfl⟩⟩
/-- (*strings.byteReplacer).Replace -/
theorem cal131 : Callable Tryd.prog 131 := ⟨⟨_, Tryd.func131, by kernel_rfl, by kernel_rfl⟩⟩
/-- (*strings.byteReplacer).WriteString -/
theorem cal132 : Callable Tryd.prog 132 := ⟨⟨_, Tryd.func132, by kernel_rfl, by kernel_rfl⟩⟩
/-- (*strings.byteStringReplacer).Replace -/
theorem cal133 : Callable Tryd.prog 133 := ⟨⟨_, Tryd.func133, by kernel_rfl, by kernel_rfl⟩⟩
/-- (*strings.byteStringReplacer).WriteString -/
theorem cal134 : Callable Tryd.prog 134 := ⟨⟨_, Tryd.func134, by kernel_rfl, by kernel_rfl⟩⟩
/-- strings.Count -/
theorem cal135 : Callable Tryd.prog 135 := ⟨⟨_, Tryd.func135, by kernel_rfl, by kernel_rfl⟩⟩
/-- unicode/utf8.RuneCountInString -/
theorem cal136 : Callable Tryd.prog 136 := ⟨⟨_, Tryd.func136, by kernel_rfl, by kernel_rfl⟩⟩
/-- strings.Index -/
theorem cal138 : Callable Tryd.prog 138 := ⟨⟨_, Tryd.func138, by kernel_rfl, by kernel_rfl⟩⟩
/-- internal/stringslite.Index -/
theorem cal139 : Callable Tryd.prog 139 := ⟨⟨_, Tryd.func139, by kernel_rfl, by kernel_rfl⟩⟩
/-- internal/stringslite.IndexByte -/
theorem cal140 : Callable Tryd.prog 140 := ⟨⟨_, Tryd.func140, by kernel_rfl, by kernel_rfl⟩⟩
/-- internal/bytealg.Cutover -/
theorem cal142 : Callable Tryd.prog 142 := ⟨⟨_, Tryd.func142, by kernel_rfl, by kernel_rfl⟩⟩
/-- internal/bytealg.IndexRabinKarp[string] -/
theorem cal143 : Callable Tryd.prog 143 := ⟨⟨_, Tryd.func143, by kernel_rfl, by kernel_rfl⟩⟩
/-- internal/bytealg.hashStr[string] -/
theorem cal145 : Callable Tryd.prog 145 := ⟨⟨_, Tryd.func145, by kernel_rfl, by kernel_rfl⟩⟩
/-- (*strings.appendSliceWriter).Write -/
theorem cal146 : Callable Tryd.prog 146 := ⟨⟨_, Tryd.func146, by kernel_rfl, by kernel_rfl⟩⟩
/-- (*strings.appendSliceWriter).WriteString -/
theorem cal147 : Callable Tryd.prog 147 := ⟨⟨_, Tryd.func147, by kernel_rfl, by kernel_rfl⟩⟩
/-- (strings.stringWriter).WriteString -/
theorem cal148 : Callable Tryd.prog 148 := ⟨⟨_, Tryd.func148, by kernel_rfl, by kernel_rfl⟩⟩
/-- (*strings.Builder).Write -/
theorem cal150 : Callable Tryd.prog 150 := ⟨⟨_, Tryd.func150, by kernel_rfl, by kernel_rfl⟩⟩
/-- (*strings.Replacer).WriteString -/
theorem cal151 : Callable Tryd.prog 151 := ⟨⟨_, Tryd.func151, by kernel_rfl, by kernel_rfl⟩⟩
end Go.Proofs.YtnohefaifbghiaaDoor
