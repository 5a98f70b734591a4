/- Facts of the seat's tables: each type's size and zero, each function's call. Written by my own gen.py off the translation's rows. -/
import Derived.Test.YtgddinjaloioiaaProg
import Derived.Test.YtgddinjaloioiaaReg
import Derived.KernelRfl
namespace Go.Proofs.Ytgddinjaloioiaa
theorem mixed : Try.prog.follows .mixedOrders = true := by kernel_rfl
theorem isz0 : (Try.prog.info? 0).map (·.size) = some 1 := by kernel_rfl
theorem inf0 : (Try.prog.info? 0).map (fun i => (i.zero, i.size, i.bytes)) = some (some (.tuple #[]), 1, 0) := by kernel_rfl
theorem isz1 : (Try.prog.info? 1).map (·.size) = some 1 := by kernel_rfl
theorem inf1 : (Try.prog.info? 1).map (fun i => (i.zero, i.size, i.bytes)) = some (some (.nilFunc), 1, 8) := by kernel_rfl
theorem isz2 : (Try.prog.info? 2).map (·.size) = some 1 := by kernel_rfl
theorem inf2 : (Try.prog.info? 2).map (fun i => (i.zero, i.size, i.bytes)) = some (some (.int .i64 0), 1, 8) := by kernel_rfl
theorem isz3 : (Try.prog.info? 3).map (·.size) = some 1 := by kernel_rfl
theorem inf3 : (Try.prog.info? 3).map (fun i => (i.zero, i.size, i.bytes)) = some (some (.int .i64 0), 1, 8) := by kernel_rfl
theorem isz4 : (Try.prog.info? 4).map (·.size) = some 1 := by kernel_rfl
theorem inf4 : (Try.prog.info? 4).map (fun i => (i.zero, i.size, i.bytes)) = some (some (.bool false), 1, 1) := by kernel_rfl
theorem isz5 : (Try.prog.info? 5).map (·.size) = some 1 := by kernel_rfl
theorem inf5 : (Try.prog.info? 5).map (fun i => (i.zero, i.size, i.bytes)) = some (some (.int .u8 0), 1, 1) := by kernel_rfl
theorem isz6 : (Try.prog.info? 6).map (·.size) = some 1 := by kernel_rfl
theorem inf6 : (Try.prog.info? 6).map (fun i => (i.zero, i.size, i.bytes)) = some (some (.int .u8 0), 1, 1) := by kernel_rfl
theorem isz7 : (Try.prog.info? 7).map (·.size) = some 4 := by kernel_rfl
theorem inf7 : (Try.prog.info? 7).map (fun i => (i.zero, i.size, i.bytes)) = some (some (.agg #[.int .i64 0, .int .i64 0, .bool false, .int .u8 0]), 4, 24) := by kernel_rfl
theorem isz8 : (Try.prog.info? 8).map (·.size) = some 4 := by kernel_rfl
theorem inf8 : (Try.prog.info? 8).map (fun i => (i.zero, i.size, i.bytes)) = some (some (.agg #[.int .i64 0, .int .i64 0, .bool false, .int .u8 0]), 4, 24) := by kernel_rfl
theorem isz9 : (Try.prog.info? 9).map (·.size) = some 1 := by kernel_rfl
theorem inf9 : (Try.prog.info? 9).map (fun i => (i.zero, i.size, i.bytes)) = some (some (.string ⟨#[]⟩), 1, 16) := by kernel_rfl
theorem isz10 : (Try.prog.info? 10).map (·.size) = some 1 := by kernel_rfl
theorem inf10 : (Try.prog.info? 10).map (fun i => (i.zero, i.size, i.bytes)) = some (some (.string ⟨#[]⟩), 1, 16) := by kernel_rfl
theorem isz11 : (Try.prog.info? 11).map (·.size) = some 1 := by kernel_rfl
theorem inf11 : (Try.prog.info? 11).map (fun i => (i.zero, i.size, i.bytes)) = some (some (.string ⟨#[]⟩), 1, 16) := by kernel_rfl
theorem isz12 : (Try.prog.info? 12).map (·.size) = some 1 := by kernel_rfl
theorem inf12 : (Try.prog.info? 12).map (fun i => (i.zero, i.size, i.bytes)) = some (some (.int .u64 0), 1, 8) := by kernel_rfl
theorem isz13 : (Try.prog.info? 13).map (·.size) = some 2 := by kernel_rfl
theorem inf13 : (Try.prog.info? 13).map (fun i => (i.zero, i.size, i.bytes)) = some (some (.agg #[.string ⟨#[]⟩, .int .u64 0]), 2, 24) := by kernel_rfl
theorem isz14 : (Try.prog.info? 14).map (·.size) = some 2 := by kernel_rfl
theorem inf14 : (Try.prog.info? 14).map (fun i => (i.zero, i.size, i.bytes)) = some (some (.agg #[.string ⟨#[]⟩, .int .u64 0]), 2, 24) := by kernel_rfl
theorem isz15 : (Try.prog.info? 15).map (·.size) = some 1 := by kernel_rfl
theorem inf15 : (Try.prog.info? 15).map (fun i => (i.zero, i.size, i.bytes)) = some (some (.pointer none), 1, 8) := by kernel_rfl
theorem isz16 : (Try.prog.info? 16).map (·.size) = some 1 := by kernel_rfl
theorem inf16 : (Try.prog.info? 16).map (fun i => (i.zero, i.size, i.bytes)) = some (some (.pointer none), 1, 8) := by kernel_rfl
theorem isz17 : (Try.prog.info? 17).map (·.size) = some 1 := by kernel_rfl
theorem inf17 : (Try.prog.info? 17).map (fun i => (i.zero, i.size, i.bytes)) = some (some (.pointer none), 1, 8) := by kernel_rfl
theorem isz18 : (Try.prog.info? 18).map (·.size) = some 1 := by kernel_rfl
theorem inf18 : (Try.prog.info? 18).map (fun i => (i.zero, i.size, i.bytes)) = some (some (.agg #[.pointer none]), 1, 8) := by kernel_rfl
theorem isz19 : (Try.prog.info? 19).map (·.size) = some 1 := by kernel_rfl
theorem inf19 : (Try.prog.info? 19).map (fun i => (i.zero, i.size, i.bytes)) = some (some (.agg #[.pointer none]), 1, 8) := by kernel_rfl
theorem isz20 : (Try.prog.info? 20).map (·.size) = some 1 := by kernel_rfl
theorem inf20 : (Try.prog.info? 20).map (fun i => (i.zero, i.size, i.bytes)) = some (some (.nilIface), 1, 16) := by kernel_rfl
theorem isz21 : (Try.prog.info? 21).map (·.size) = some 1 := by kernel_rfl
theorem inf21 : (Try.prog.info? 21).map (fun i => (i.zero, i.size, i.bytes)) = some (some (.int .i32 0), 1, 4) := by kernel_rfl
theorem isz22 : (Try.prog.info? 22).map (·.size) = some 1 := by kernel_rfl
theorem inf22 : (Try.prog.info? 22).map (fun i => (i.zero, i.size, i.bytes)) = some (some (.slice none 0 0), 1, 24) := by kernel_rfl
theorem isz23 : (Try.prog.info? 23).map (·.size) = some 1 := by kernel_rfl
theorem inf23 : (Try.prog.info? 23).map (fun i => (i.zero, i.size, i.bytes)) = some (some (.nilFunc), 1, 8) := by kernel_rfl
theorem isz24 : (Try.prog.info? 24).map (·.size) = some 64 := by kernel_rfl
theorem inf24 : (Try.prog.info? 24).map (fun i => (i.zero, i.size, i.bytes)) = some (some (.agg #[.bool false, .bool false, .bool false, .bool false, .bool false, .bool false, .bool false, .bool false, .bool false, .bool false, .bool false, .bool false, .bool false, .bool false, .bool false, .bool false, .bool false, .bool false, .bool false, .bool false, .bool false, .bool false, .bool false, .bool false, .bool false, .bool false, .bool false, .bool false, .bool false, .bool false, .bool false, .bool false, .bool false, .bool false, .bool false, .bool false, .bool false, .bool false, .bool false, .bool false, .bool false, .bool false, .bool false, .bool false, .bool false, .bool false, .bool false, .bool false, .bool false, .bool false, .bool false, .bool false, .bool false, .bool false, .bool false, .bool false, .bool false, .bool false, .bool false, .bool false, .bool false, .bool false, .bool false, .bool false]), 64, 64) := by kernel_rfl
theorem isz25 : (Try.prog.info? 25).map (·.size) = some 64 := by kernel_rfl
theorem inf25 : (Try.prog.info? 25).map (fun i => (i.zero, i.size, i.bytes)) = some (some (.agg #[.bool false, .bool false, .bool false, .bool false, .bool false, .bool false, .bool false, .bool false, .bool false, .bool false, .bool false, .bool false, .bool false, .bool false, .bool false, .bool false, .bool false, .bool false, .bool false, .bool false, .bool false, .bool false, .bool false, .bool false, .bool false, .bool false, .bool false, .bool false, .bool false, .bool false, .bool false, .bool false, .bool false, .bool false, .bool false, .bool false, .bool false, .bool false, .bool false, .bool false, .bool false, .bool false, .bool false, .bool false, .bool false, .bool false, .bool false, .bool false, .bool false, .bool false, .bool false, .bool false, .bool false, .bool false, .bool false, .bool false, .bool false, .bool false, .bool false, .bool false, .bool false, .bool false, .bool false, .bool false]), 64, 64) := by kernel_rfl
theorem isz26 : (Try.prog.info? 26).map (·.size) = some 1 := by kernel_rfl
theorem inf26 : (Try.prog.info? 26).map (fun i => (i.zero, i.size, i.bytes)) = some (some (.nilIface), 1, 16) := by kernel_rfl
theorem isz27 : (Try.prog.info? 27).map (·.size) = some 1 := by kernel_rfl
theorem inf27 : (Try.prog.info? 27).map (fun i => (i.zero, i.size, i.bytes)) = some (some (.nilIface), 1, 16) := by kernel_rfl
theorem isz28 : (Try.prog.info? 28).map (·.size) = some 1 := by kernel_rfl
theorem inf28 : (Try.prog.info? 28).map (fun i => (i.zero, i.size, i.bytes)) = some (some (.tuple #[.agg #[.bool false, .bool false, .bool false, .bool false, .bool false, .bool false, .bool false, .bool false, .bool false, .bool false, .bool false, .bool false, .bool false, .bool false, .bool false, .bool false, .bool false, .bool false, .bool false, .bool false, .bool false, .bool false, .bool false, .bool false, .bool false, .bool false, .bool false, .bool false, .bool false, .bool false, .bool false, .bool false, .bool false, .bool false, .bool false, .bool false, .bool false, .bool false, .bool false, .bool false, .bool false, .bool false, .bool false, .bool false, .bool false, .bool false, .bool false, .bool false, .bool false, .bool false, .bool false, .bool false, .bool false, .bool false, .bool false, .bool false, .bool false, .bool false, .bool false, .bool false, .bool false, .bool false, .bool false, .bool false], .nilIface]), 1, 0) := by kernel_rfl
theorem isz29 : (Try.prog.info? 29).map (·.size) = some 1 := by kernel_rfl
theorem inf29 : (Try.prog.info? 29).map (fun i => (i.zero, i.size, i.bytes)) = some (some (.nilFunc), 1, 8) := by kernel_rfl
theorem isz30 : (Try.prog.info? 30).map (·.size) = some 1 := by kernel_rfl
theorem inf30 : (Try.prog.info? 30).map (fun i => (i.zero, i.size, i.bytes)) = some (some (.nilFunc), 1, 8) := by kernel_rfl
theorem isz31 : (Try.prog.info? 31).map (·.size) = some 1 := by kernel_rfl
theorem inf31 : (Try.prog.info? 31).map (fun i => (i.zero, i.size, i.bytes)) = some (some (.nilFunc), 1, 8) := by kernel_rfl
theorem isz32 : (Try.prog.info? 32).map (·.size) = some 1 := by kernel_rfl
theorem inf32 : (Try.prog.info? 32).map (fun i => (i.zero, i.size, i.bytes)) = some (some (.nilFunc), 1, 8) := by kernel_rfl
theorem isz33 : (Try.prog.info? 33).map (·.size) = some 1 := by kernel_rfl
theorem inf33 : (Try.prog.info? 33).map (fun i => (i.zero, i.size, i.bytes)) = some (some (.slice none 0 0), 1, 24) := by kernel_rfl
theorem isz34 : (Try.prog.info? 34).map (·.size) = some 1 := by kernel_rfl
theorem inf34 : (Try.prog.info? 34).map (fun i => (i.zero, i.size, i.bytes)) = some (some (.int .u64 0), 1, 8) := by kernel_rfl
theorem isz35 : (Try.prog.info? 35).map (·.size) = some 1 := by kernel_rfl
theorem inf35 : (Try.prog.info? 35).map (fun i => (i.zero, i.size, i.bytes)) = some (some (.tuple #[.slice none 0 0, .nilIface]), 1, 0) := by kernel_rfl
theorem isz36 : (Try.prog.info? 36).map (·.size) = some 1 := by kernel_rfl
theorem inf36 : (Try.prog.info? 36).map (fun i => (i.zero, i.size, i.bytes)) = some (some (.nilFunc), 1, 8) := by kernel_rfl
theorem isz37 : (Try.prog.info? 37).map (·.size) = some 1 := by kernel_rfl
theorem inf37 : (Try.prog.info? 37).map (fun i => (i.zero, i.size, i.bytes)) = some (some (.tuple #[.int .u64 0, .nilIface]), 1, 0) := by kernel_rfl
theorem isz38 : (Try.prog.info? 38).map (·.size) = some 1 := by kernel_rfl
theorem inf38 : (Try.prog.info? 38).map (fun i => (i.zero, i.size, i.bytes)) = some (some (.nilFunc), 1, 8) := by kernel_rfl
theorem isz39 : (Try.prog.info? 39).map (·.size) = some 1 := by kernel_rfl
theorem inf39 : (Try.prog.info? 39).map (fun i => (i.zero, i.size, i.bytes)) = some (some (.int .u64 0), 1, 8) := by kernel_rfl
theorem isz40 : (Try.prog.info? 40).map (·.size) = some 1 := by kernel_rfl
theorem inf40 : (Try.prog.info? 40).map (fun i => (i.zero, i.size, i.bytes)) = some (some (.tuple #[.bool false, .nilIface]), 1, 0) := by kernel_rfl
theorem isz41 : (Try.prog.info? 41).map (·.size) = some 1 := by kernel_rfl
theorem inf41 : (Try.prog.info? 41).map (fun i => (i.zero, i.size, i.bytes)) = some (some (.nilFunc), 1, 8) := by kernel_rfl
theorem isz42 : (Try.prog.info? 42).map (·.size) = some 1 := by kernel_rfl
theorem inf42 : (Try.prog.info? 42).map (fun i => (i.zero, i.size, i.bytes)) = some (some (.nilFunc), 1, 8) := by kernel_rfl
theorem isz43 : (Try.prog.info? 43).map (·.size) = some 1 := by kernel_rfl
theorem inf43 : (Try.prog.info? 43).map (fun i => (i.zero, i.size, i.bytes)) = some (some (.nilFunc), 1, 8) := by kernel_rfl
theorem isz44 : (Try.prog.info? 44).map (·.size) = some 1 := by kernel_rfl
theorem inf44 : (Try.prog.info? 44).map (fun i => (i.zero, i.size, i.bytes)) = some (some (.nilFunc), 1, 8) := by kernel_rfl
theorem isz45 : (Try.prog.info? 45).map (·.size) = some 1 := by kernel_rfl
theorem inf45 : (Try.prog.info? 45).map (fun i => (i.zero, i.size, i.bytes)) = some (some (.nilFunc), 1, 8) := by kernel_rfl
theorem isz46 : (Try.prog.info? 46).map (·.size) = some 1 := by kernel_rfl
theorem inf46 : (Try.prog.info? 46).map (fun i => (i.zero, i.size, i.bytes)) = some (some (.int .i64 0), 1, 8) := by kernel_rfl
theorem isz47 : (Try.prog.info? 47).map (·.size) = some 1 := by kernel_rfl
theorem inf47 : (Try.prog.info? 47).map (fun i => (i.zero, i.size, i.bytes)) = some (some (.nilFunc), 1, 8) := by kernel_rfl
theorem isz48 : (Try.prog.info? 48).map (·.size) = some 1 := by kernel_rfl
theorem inf48 : (Try.prog.info? 48).map (fun i => (i.zero, i.size, i.bytes)) = some (some (.nilFunc), 1, 8) := by kernel_rfl
theorem isz49 : (Try.prog.info? 49).map (·.size) = some 1 := by kernel_rfl
theorem inf49 : (Try.prog.info? 49).map (fun i => (i.zero, i.size, i.bytes)) = some (some (.nilFunc), 1, 8) := by kernel_rfl
theorem isz50 : (Try.prog.info? 50).map (·.size) = some 1 := by kernel_rfl
theorem inf50 : (Try.prog.info? 50).map (fun i => (i.zero, i.size, i.bytes)) = some (some (.nilFunc), 1, 8) := by kernel_rfl
theorem isz51 : (Try.prog.info? 51).map (·.size) = some 1 := by kernel_rfl
theorem inf51 : (Try.prog.info? 51).map (fun i => (i.zero, i.size, i.bytes)) = some (some (.nilFunc), 1, 8) := by kernel_rfl
theorem isz52 : (Try.prog.info? 52).map (·.size) = some 1 := by kernel_rfl
theorem inf52 : (Try.prog.info? 52).map (fun i => (i.zero, i.size, i.bytes)) = some (some (.nilIface), 1, 16) := by kernel_rfl
theorem isz53 : (Try.prog.info? 53).map (·.size) = some 1 := by kernel_rfl
theorem inf53 : (Try.prog.info? 53).map (fun i => (i.zero, i.size, i.bytes)) = some (some (.nilIface), 1, 16) := by kernel_rfl
theorem isz54 : (Try.prog.info? 54).map (·.size) = some 1 := by kernel_rfl
theorem inf54 : (Try.prog.info? 54).map (fun i => (i.zero, i.size, i.bytes)) = some (some (.nilFunc), 1, 8) := by kernel_rfl
theorem isz55 : (Try.prog.info? 55).map (·.size) = some 1 := by kernel_rfl
theorem inf55 : (Try.prog.info? 55).map (fun i => (i.zero, i.size, i.bytes)) = some (some (.nilFunc), 1, 8) := by kernel_rfl
theorem isz56 : (Try.prog.info? 56).map (·.size) = some 1 := by kernel_rfl
theorem inf56 : (Try.prog.info? 56).map (fun i => (i.zero, i.size, i.bytes)) = some (some (.agg #[.pointer none]), 1, 8) := by kernel_rfl
theorem isz57 : (Try.prog.info? 57).map (·.size) = some 1 := by kernel_rfl
theorem inf57 : (Try.prog.info? 57).map (fun i => (i.zero, i.size, i.bytes)) = some (some (.agg #[.pointer none]), 1, 8) := by kernel_rfl
theorem isz58 : (Try.prog.info? 58).map (·.size) = some 1 := by kernel_rfl
theorem inf58 : (Try.prog.info? 58).map (fun i => (i.zero, i.size, i.bytes)) = some (some (.pointer none), 1, 8) := by kernel_rfl
theorem isz59 : (Try.prog.info? 59).map (·.size) = some 1 := by kernel_rfl
theorem inf59 : (Try.prog.info? 59).map (fun i => (i.zero, i.size, i.bytes)) = some (some (.nilIface), 1, 16) := by kernel_rfl
theorem isz60 : (Try.prog.info? 60).map (·.size) = some 1 := by kernel_rfl
theorem inf60 : (Try.prog.info? 60).map (fun i => (i.zero, i.size, i.bytes)) = some (some (.tuple #[.nilIface, .bool false]), 1, 0) := by kernel_rfl
theorem isz61 : (Try.prog.info? 61).map (·.size) = some 1 := by kernel_rfl
theorem inf61 : (Try.prog.info? 61).map (fun i => (i.zero, i.size, i.bytes)) = some (some (.nilFunc), 1, 8) := by kernel_rfl
theorem isz62 : (Try.prog.info? 62).map (·.size) = some 1 := by kernel_rfl
theorem inf62 : (Try.prog.info? 62).map (fun i => (i.zero, i.size, i.bytes)) = some (some (.nilIface), 1, 16) := by kernel_rfl
theorem isz63 : (Try.prog.info? 63).map (·.size) = some 1 := by kernel_rfl
theorem inf63 : (Try.prog.info? 63).map (fun i => (i.zero, i.size, i.bytes)) = some (some (.nilFunc), 1, 8) := by kernel_rfl
theorem isz64 : (Try.prog.info? 64).map (·.size) = some 1 := by kernel_rfl
theorem inf64 : (Try.prog.info? 64).map (fun i => (i.zero, i.size, i.bytes)) = some (some (.nilIface), 1, 16) := by kernel_rfl
theorem isz65 : (Try.prog.info? 65).map (·.size) = some 1 := by kernel_rfl
theorem inf65 : (Try.prog.info? 65).map (fun i => (i.zero, i.size, i.bytes)) = some (some (.slice none 0 0), 1, 24) := by kernel_rfl
theorem isz66 : (Try.prog.info? 66).map (·.size) = some 1 := by kernel_rfl
theorem inf66 : (Try.prog.info? 66).map (fun i => (i.zero, i.size, i.bytes)) = some (some (.nilFunc), 1, 8) := by kernel_rfl
theorem isz67 : (Try.prog.info? 67).map (·.size) = some 1 := by kernel_rfl
theorem inf67 : (Try.prog.info? 67).map (fun i => (i.zero, i.size, i.bytes)) = some (some (.nilFunc), 1, 8) := by kernel_rfl
theorem isz68 : (Try.prog.info? 68).map (·.size) = some 4 := by kernel_rfl
theorem inf68 : (Try.prog.info? 68).map (fun i => (i.zero, i.size, i.bytes)) = some (some (.agg #[.pointer none, .pointer none, .pointer none, .string ⟨#[]⟩]), 4, 40) := by kernel_rfl
theorem isz69 : (Try.prog.info? 69).map (·.size) = some 4 := by kernel_rfl
theorem inf69 : (Try.prog.info? 69).map (fun i => (i.zero, i.size, i.bytes)) = some (some (.agg #[.pointer none, .pointer none, .pointer none, .string ⟨#[]⟩]), 4, 40) := by kernel_rfl
theorem isz70 : (Try.prog.info? 70).map (·.size) = some 0 := by kernel_rfl
theorem inf70 : (Try.prog.info? 70).map (fun i => (i.zero, i.size, i.bytes)) = some (some (.agg #[]), 0, 0) := by kernel_rfl
theorem isz71 : (Try.prog.info? 71).map (·.size) = some 0 := by kernel_rfl
theorem inf71 : (Try.prog.info? 71).map (fun i => (i.zero, i.size, i.bytes)) = some (some (.agg #[]), 0, 0) := by kernel_rfl
theorem isz72 : (Try.prog.info? 72).map (·.size) = some 0 := by kernel_rfl
theorem inf72 : (Try.prog.info? 72).map (fun i => (i.zero, i.size, i.bytes)) = some (some (.agg #[]), 0, 0) := by kernel_rfl
theorem isz73 : (Try.prog.info? 73).map (·.size) = some 1 := by kernel_rfl
theorem inf73 : (Try.prog.info? 73).map (fun i => (i.zero, i.size, i.bytes)) = some (some (.nilFunc), 1, 8) := by kernel_rfl
theorem isz74 : (Try.prog.info? 74).map (·.size) = some 1 := by kernel_rfl
theorem inf74 : (Try.prog.info? 74).map (fun i => (i.zero, i.size, i.bytes)) = some (some (.int .u32 0), 1, 4) := by kernel_rfl
theorem isz75 : (Try.prog.info? 75).map (·.size) = some 1 := by kernel_rfl
theorem inf75 : (Try.prog.info? 75).map (fun i => (i.zero, i.size, i.bytes)) = some (some (.int .u8 0), 1, 1) := by kernel_rfl
theorem isz76 : (Try.prog.info? 76).map (·.size) = some 1 := by kernel_rfl
theorem inf76 : (Try.prog.info? 76).map (fun i => (i.zero, i.size, i.bytes)) = some (some (.int .u8 0), 1, 1) := by kernel_rfl
theorem isz77 : (Try.prog.info? 77).map (·.size) = some 1 := by kernel_rfl
theorem inf77 : (Try.prog.info? 77).map (fun i => (i.zero, i.size, i.bytes)) = some (some (.nilFunc), 1, 8) := by kernel_rfl
theorem isz78 : (Try.prog.info? 78).map (·.size) = some 1 := by kernel_rfl
theorem inf78 : (Try.prog.info? 78).map (fun i => (i.zero, i.size, i.bytes)) = some (some (.pointer none), 1, 8) := by kernel_rfl
theorem isz79 : (Try.prog.info? 79).map (·.size) = some 1 := by kernel_rfl
theorem inf79 : (Try.prog.info? 79).map (fun i => (i.zero, i.size, i.bytes)) = some (some (.int .i32 0), 1, 4) := by kernel_rfl
theorem isz80 : (Try.prog.info? 80).map (·.size) = some 1 := by kernel_rfl
theorem inf80 : (Try.prog.info? 80).map (fun i => (i.zero, i.size, i.bytes)) = some (some (.int .i32 0), 1, 4) := by kernel_rfl
theorem isz81 : (Try.prog.info? 81).map (·.size) = some 11 := by kernel_rfl
theorem inf81 : (Try.prog.info? 81).map (fun i => (i.zero, i.size, i.bytes)) = some (some (.agg #[.int .u64 0, .int .u64 0, .int .u32 0, .int .u8 0, .int .u8 0, .int .u8 0, .int .u8 0, .nilFunc, .pointer none, .int .i32 0, .int .i32 0]), 11, 48) := by kernel_rfl
theorem isz82 : (Try.prog.info? 82).map (·.size) = some 11 := by kernel_rfl
theorem inf82 : (Try.prog.info? 82).map (fun i => (i.zero, i.size, i.bytes)) = some (some (.agg #[.int .u64 0, .int .u64 0, .int .u32 0, .int .u8 0, .int .u8 0, .int .u8 0, .int .u8 0, .nilFunc, .pointer none, .int .i32 0, .int .i32 0]), 11, 48) := by kernel_rfl
theorem isz83 : (Try.prog.info? 83).map (·.size) = some 1 := by kernel_rfl
theorem inf83 : (Try.prog.info? 83).map (fun i => (i.zero, i.size, i.bytes)) = some (some (.nilFunc), 1, 8) := by kernel_rfl
theorem isz84 : (Try.prog.info? 84).map (·.size) = some 1 := by kernel_rfl
theorem inf84 : (Try.prog.info? 84).map (fun i => (i.zero, i.size, i.bytes)) = some (some (.nilFunc), 1, 8) := by kernel_rfl
theorem isz85 : (Try.prog.info? 85).map (·.size) = some 1 := by kernel_rfl
theorem inf85 : (Try.prog.info? 85).map (fun i => (i.zero, i.size, i.bytes)) = some (some (.nilFunc), 1, 8) := by kernel_rfl
theorem isz86 : (Try.prog.info? 86).map (·.size) = some 1 := by kernel_rfl
theorem inf86 : (Try.prog.info? 86).map (fun i => (i.zero, i.size, i.bytes)) = some (some (.nilFunc), 1, 8) := by kernel_rfl
theorem isz87 : (Try.prog.info? 87).map (·.size) = some 1 := by kernel_rfl
theorem inf87 : (Try.prog.info? 87).map (fun i => (i.zero, i.size, i.bytes)) = some (some (.nilFunc), 1, 8) := by kernel_rfl
theorem isz88 : (Try.prog.info? 88).map (·.size) = some 1 := by kernel_rfl
theorem inf88 : (Try.prog.info? 88).map (fun i => (i.zero, i.size, i.bytes)) = some (some (.nilFunc), 1, 8) := by kernel_rfl
theorem isz89 : (Try.prog.info? 89).map (·.size) = some 2 := by kernel_rfl
theorem inf89 : (Try.prog.info? 89).map (fun i => (i.zero, i.size, i.bytes)) = some (some (.agg #[.string ⟨#[]⟩, .int .u8 0]), 2, 24) := by kernel_rfl
theorem isz90 : (Try.prog.info? 90).map (·.size) = some 2 := by kernel_rfl
theorem inf90 : (Try.prog.info? 90).map (fun i => (i.zero, i.size, i.bytes)) = some (some (.agg #[.string ⟨#[]⟩, .int .u8 0]), 2, 24) := by kernel_rfl
theorem isz91 : (Try.prog.info? 91).map (·.size) = some 1 := by kernel_rfl
theorem inf91 : (Try.prog.info? 91).map (fun i => (i.zero, i.size, i.bytes)) = some (some (.pointer none), 1, 8) := by kernel_rfl
theorem isz92 : (Try.prog.info? 92).map (·.size) = some 1 := by kernel_rfl
theorem inf92 : (Try.prog.info? 92).map (fun i => (i.zero, i.size, i.bytes)) = some (some (.pointer none), 1, 8) := by kernel_rfl
theorem isz93 : (Try.prog.info? 93).map (·.size) = some 1 := by kernel_rfl
theorem inf93 : (Try.prog.info? 93).map (fun i => (i.zero, i.size, i.bytes)) = some (some (.nilFunc), 1, 8) := by kernel_rfl
theorem isz94 : (Try.prog.info? 94).map (·.size) = some 1 := by kernel_rfl
theorem inf94 : (Try.prog.info? 94).map (fun i => (i.zero, i.size, i.bytes)) = some (some (.int .u16 0), 1, 2) := by kernel_rfl
theorem isz95 : (Try.prog.info? 95).map (·.size) = some 5 := by kernel_rfl
theorem inf95 : (Try.prog.info? 95).map (fun i => (i.zero, i.size, i.bytes)) = some (some (.agg #[.int .i32 0, .int .u16 0, .int .u16 0, .int .u32 0, .int .u32 0]), 5, 16) := by kernel_rfl
theorem isz96 : (Try.prog.info? 96).map (·.size) = some 5 := by kernel_rfl
theorem inf96 : (Try.prog.info? 96).map (fun i => (i.zero, i.size, i.bytes)) = some (some (.agg #[.int .i32 0, .int .u16 0, .int .u16 0, .int .u32 0, .int .u32 0]), 5, 16) := by kernel_rfl
theorem isz97 : (Try.prog.info? 97).map (·.size) = some 1 := by kernel_rfl
theorem inf97 : (Try.prog.info? 97).map (fun i => (i.zero, i.size, i.bytes)) = some (some (.slice none 0 0), 1, 24) := by kernel_rfl
theorem isz98 : (Try.prog.info? 98).map (·.size) = some 1 := by kernel_rfl
theorem inf98 : (Try.prog.info? 98).map (fun i => (i.zero, i.size, i.bytes)) = some (some (.int .i32 0), 1, 4) := by kernel_rfl
theorem isz99 : (Try.prog.info? 99).map (·.size) = some 4 := by kernel_rfl
theorem inf99 : (Try.prog.info? 99).map (fun i => (i.zero, i.size, i.bytes)) = some (some (.agg #[.int .i32 0, .int .i32 0, .int .i32 0, .int .i32 0]), 4, 16) := by kernel_rfl
theorem isz100 : (Try.prog.info? 100).map (·.size) = some 4 := by kernel_rfl
theorem inf100 : (Try.prog.info? 100).map (fun i => (i.zero, i.size, i.bytes)) = some (some (.agg #[.int .i32 0, .int .i32 0, .int .i32 0, .int .i32 0]), 4, 16) := by kernel_rfl
def tyOf : Nat → Option TypeDesc
  | 2 => some (.int .i64)
  | 3 => some (.int .i64)
  | 4 => some (.bool)
  | 5 => some (.int .u8)
  | 6 => some (.int .u8)
  | 9 => some (.string)
  | 10 => some (.string)
  | 11 => some (.string)
  | 12 => some (.int .u64)
  | 15 => some (.pointer 69)
  | 16 => some (.pointer 72)
  | 17 => some (.pointer 82)
  | 21 => some (.int .i32)
  | 22 => some (.slice 3)
  | 24 => some (.array 64 4)
  | 25 => some (.array 64 4)
  | 33 => some (.slice 5)
  | 34 => some (.int .u64)
  | 39 => some (.int .u64)
  | 46 => some (.int .i64)
  | 58 => some (.pointer 90)
  | 65 => some (.slice 27)
  | 70 => some (.array 0 16)
  | 74 => some (.int .u32)
  | 75 => some (.int .u8)
  | 76 => some (.int .u8)
  | 78 => some (.pointer 5)
  | 79 => some (.int .i32)
  | 80 => some (.int .i32)
  | 92 => some (.pointer 96)
  | 94 => some (.int .u16)
  | 97 => some (.slice 100)
  | 98 => some (.int .i32)
  | _ => none
theorem und (t : Nat) (d : TypeDesc) (h : tyOf t = some d) : Try.prog.underlying t = some d := by
  unfold tyOf at h
  split at h
  · cases h; exact Try.underlying2
  · cases h; exact Try.underlying3
  · cases h; exact Try.underlying4
  · cases h; exact Try.underlying5
  · cases h; exact Try.underlying6
  · cases h; exact Try.underlying9
  · cases h; exact Try.underlying10
  · cases h; exact Try.underlying11
  · cases h; exact Try.underlying12
  · cases h; exact Try.underlying15
  · cases h; exact Try.underlying16
  · cases h; exact Try.underlying17
  · cases h; exact Try.underlying21
  · cases h; exact Try.underlying22
  · cases h; exact Try.underlying24
  · cases h; exact Try.underlying25
  · cases h; exact Try.underlying33
  · cases h; exact Try.underlying34
  · cases h; exact Try.underlying39
  · cases h; exact Try.underlying46
  · cases h; exact Try.underlying58
  · cases h; exact Try.underlying65
  · cases h; exact Try.underlying70
  · cases h; exact Try.underlying74
  · cases h; exact Try.underlying75
  · cases h; exact Try.underlying76
  · cases h; exact Try.underlying78
  · cases h; exact Try.underlying79
  · cases h; exact Try.underlying80
  · cases h; exact Try.underlying92
  · cases h; exact Try.underlying94
  · cases h; exact Try.underlying97
  · cases h; exact Try.underlying98
  · cases h
def szOf : Nat → Option Nat
  | 0 => some 1
  | 1 => some 1
  | 2 => some 1
  | 3 => some 1
  | 4 => some 1
  | 5 => some 1
  | 6 => some 1
  | 7 => some 4
  | 8 => some 4
  | 9 => some 1
  | 10 => some 1
  | 11 => some 1
  | 12 => some 1
  | 13 => some 2
  | 14 => some 2
  | 15 => some 1
  | 16 => some 1
  | 17 => some 1
  | 18 => some 1
  | 19 => some 1
  | 20 => some 1
  | 21 => some 1
  | 22 => some 1
  | 23 => some 1
  | 24 => some 64
  | 25 => some 64
  | 26 => some 1
  | 27 => some 1
  | 28 => some 1
  | 29 => some 1
  | 30 => some 1
  | 31 => some 1
  | 32 => some 1
  | 33 => some 1
  | 34 => some 1
  | 35 => some 1
  | 36 => some 1
  | 37 => some 1
  | 38 => some 1
  | 39 => some 1
  | 40 => some 1
  | 41 => some 1
  | 42 => some 1
  | 43 => some 1
  | 44 => some 1
  | 45 => some 1
  | 46 => some 1
  | 47 => some 1
  | 48 => some 1
  | 49 => some 1
  | 50 => some 1
  | 51 => some 1
  | 52 => some 1
  | 53 => some 1
  | 54 => some 1
  | 55 => some 1
  | 56 => some 1
  | 57 => some 1
  | 58 => some 1
  | 59 => some 1
  | 60 => some 1
  | 61 => some 1
  | 62 => some 1
  | 63 => some 1
  | 64 => some 1
  | 65 => some 1
  | 66 => some 1
  | 67 => some 1
  | 68 => some 4
  | 69 => some 4
  | 70 => some 0
  | 71 => some 0
  | 72 => some 0
  | 73 => some 1
  | 74 => some 1
  | 75 => some 1
  | 76 => some 1
  | 77 => some 1
  | 78 => some 1
  | 79 => some 1
  | 80 => some 1
  | 81 => some 11
  | 82 => some 11
  | 83 => some 1
  | 84 => some 1
  | 85 => some 1
  | 86 => some 1
  | 87 => some 1
  | 88 => some 1
  | 89 => some 2
  | 90 => some 2
  | 91 => some 1
  | 92 => some 1
  | 93 => some 1
  | 94 => some 1
  | 95 => some 5
  | 96 => some 5
  | 97 => some 1
  | 98 => some 1
  | 99 => some 4
  | 100 => some 4
  | _ => none
theorem isz (t n : Nat) (h : szOf t = some n) : (Try.prog.info? t).map (·.size) = some n := by
  unfold szOf at h
  split at h
  · cases h; exact isz0
  · cases h; exact isz1
  · cases h; exact isz2
  · cases h; exact isz3
  · cases h; exact isz4
  · cases h; exact isz5
  · cases h; exact isz6
  · cases h; exact isz7
  · cases h; exact isz8
  · cases h; exact isz9
  · cases h; exact isz10
  · cases h; exact isz11
  · cases h; exact isz12
  · cases h; exact isz13
  · cases h; exact isz14
  · cases h; exact isz15
  · cases h; exact isz16
  · cases h; exact isz17
  · cases h; exact isz18
  · cases h; exact isz19
  · cases h; exact isz20
  · cases h; exact isz21
  · cases h; exact isz22
  · cases h; exact isz23
  · cases h; exact isz24
  · cases h; exact isz25
  · cases h; exact isz26
  · cases h; exact isz27
  · cases h; exact isz28
  · cases h; exact isz29
  · cases h; exact isz30
  · cases h; exact isz31
  · cases h; exact isz32
  · cases h; exact isz33
  · cases h; exact isz34
  · cases h; exact isz35
  · cases h; exact isz36
  · cases h; exact isz37
  · cases h; exact isz38
  · cases h; exact isz39
  · cases h; exact isz40
  · cases h; exact isz41
  · cases h; exact isz42
  · cases h; exact isz43
  · cases h; exact isz44
  · cases h; exact isz45
  · cases h; exact isz46
  · cases h; exact isz47
  · cases h; exact isz48
  · cases h; exact isz49
  · cases h; exact isz50
  · cases h; exact isz51
  · cases h; exact isz52
  · cases h; exact isz53
  · cases h; exact isz54
  · cases h; exact isz55
  · cases h; exact isz56
  · cases h; exact isz57
  · cases h; exact isz58
  · cases h; exact isz59
  · cases h; exact isz60
  · cases h; exact isz61
  · cases h; exact isz62
  · cases h; exact isz63
  · cases h; exact isz64
  · cases h; exact isz65
  · cases h; exact isz66
  · cases h; exact isz67
  · cases h; exact isz68
  · cases h; exact isz69
  · cases h; exact isz70
  · cases h; exact isz71
  · cases h; exact isz72
  · cases h; exact isz73
  · cases h; exact isz74
  · cases h; exact isz75
  · cases h; exact isz76
  · cases h; exact isz77
  · cases h; exact isz78
  · cases h; exact isz79
  · cases h; exact isz80
  · cases h; exact isz81
  · cases h; exact isz82
  · cases h; exact isz83
  · cases h; exact isz84
  · cases h; exact isz85
  · cases h; exact isz86
  · cases h; exact isz87
  · cases h; exact isz88
  · cases h; exact isz89
  · cases h; exact isz90
  · cases h; exact isz91
  · cases h; exact isz92
  · cases h; exact isz93
  · cases h; exact isz94
  · cases h; exact isz95
  · cases h; exact isz96
  · cases h; exact isz97
  · cases h; exact isz98
  · cases h; exact isz99
  · cases h; exact isz100
  · cases h
def ifcOf : Nat → Bool
  | 20 => true
  | 26 => true
  | 27 => true
  | 52 => true
  | 53 => true
  | 59 => true
  | 62 => true
  | 64 => true
  | _ => false
theorem ifc (t : Nat) (h : ifcOf t = true) : ∃ ms, Try.prog.underlying t = some (.interface ms) := by
  unfold ifcOf at h
  split at h
  · exact ⟨_, Try.underlying20⟩
  · exact ⟨_, Try.underlying26⟩
  · exact ⟨_, Try.underlying27⟩
  · exact ⟨_, Try.underlying52⟩
  · exact ⟨_, Try.underlying53⟩
  · exact ⟨_, Try.underlying59⟩
  · exact ⟨_, Try.underlying62⟩
  · exact ⟨_, Try.underlying64⟩
  · cases h
def aggOf : Nat → Bool
  | 7 => true
  | 8 => true
  | 13 => true
  | 14 => true
  | 18 => true
  | 19 => true
  | 24 => true
  | 25 => true
  | 56 => true
  | 57 => true
  | 68 => true
  | 69 => true
  | 70 => true
  | 71 => true
  | 72 => true
  | 81 => true
  | 82 => true
  | 89 => true
  | 90 => true
  | 95 => true
  | 96 => true
  | 99 => true
  | 100 => true
  | _ => false
theorem agg (t : Nat) (h : aggOf t = true) : (Try.prog.underlying t).map aggB = some true := by
  unfold aggOf at h
  split at h
  · rw [Try.underlying7]; rfl
  · rw [Try.underlying8]; rfl
  · rw [Try.underlying13]; rfl
  · rw [Try.underlying14]; rfl
  · rw [Try.underlying18]; rfl
  · rw [Try.underlying19]; rfl
  · rw [Try.underlying24]; rfl
  · rw [Try.underlying25]; rfl
  · rw [Try.underlying56]; rfl
  · rw [Try.underlying57]; rfl
  · rw [Try.underlying68]; rfl
  · rw [Try.underlying69]; rfl
  · rw [Try.underlying70]; rfl
  · rw [Try.underlying71]; rfl
  · rw [Try.underlying72]; rfl
  · rw [Try.underlying81]; rfl
  · rw [Try.underlying82]; rfl
  · rw [Try.underlying89]; rfl
  · rw [Try.underlying90]; rfl
  · rw [Try.underlying95]; rfl
  · rw [Try.underlying96]; rfl
  · rw [Try.underlying99]; rfl
  · rw [Try.underlying100]; rfl
  · cases h
def conOf : Nat → Bool
  | 2 => true
  | 3 => true
  | 4 => true
  | 5 => true
  | 6 => true
  | 7 => true
  | 8 => true
  | 9 => true
  | 10 => true
  | 11 => true
  | 12 => true
  | 13 => true
  | 14 => true
  | 15 => true
  | 16 => true
  | 17 => true
  | 18 => true
  | 19 => true
  | 21 => true
  | 22 => true
  | 33 => true
  | 34 => true
  | 39 => true
  | 46 => true
  | 56 => true
  | 57 => true
  | 58 => true
  | 65 => true
  | 68 => true
  | 69 => true
  | 71 => true
  | 72 => true
  | 74 => true
  | 75 => true
  | 76 => true
  | 78 => true
  | 79 => true
  | 80 => true
  | 81 => true
  | 82 => true
  | 89 => true
  | 90 => true
  | 92 => true
  | 94 => true
  | 95 => true
  | 96 => true
  | 97 => true
  | 98 => true
  | 99 => true
  | 100 => true
  | _ => false
theorem con (t : Nat) (h : conOf t = true) : (Try.prog.underlying t).map concB = some true := by
  unfold conOf at h
  split at h
  · rw [Try.underlying2]; rfl
  · rw [Try.underlying3]; rfl
  · rw [Try.underlying4]; rfl
  · rw [Try.underlying5]; rfl
  · rw [Try.underlying6]; rfl
  · rw [Try.underlying7]; rfl
  · rw [Try.underlying8]; rfl
  · rw [Try.underlying9]; rfl
  · rw [Try.underlying10]; rfl
  · rw [Try.underlying11]; rfl
  · rw [Try.underlying12]; rfl
  · rw [Try.underlying13]; rfl
  · rw [Try.underlying14]; rfl
  · rw [Try.underlying15]; rfl
  · rw [Try.underlying16]; rfl
  · rw [Try.underlying17]; rfl
  · rw [Try.underlying18]; rfl
  · rw [Try.underlying19]; rfl
  · rw [Try.underlying21]; rfl
  · rw [Try.underlying22]; rfl
  · rw [Try.underlying33]; rfl
  · rw [Try.underlying34]; rfl
  · rw [Try.underlying39]; rfl
  · rw [Try.underlying46]; rfl
  · rw [Try.underlying56]; rfl
  · rw [Try.underlying57]; rfl
  · rw [Try.underlying58]; rfl
  · rw [Try.underlying65]; rfl
  · rw [Try.underlying68]; rfl
  · rw [Try.underlying69]; rfl
  · rw [Try.underlying71]; rfl
  · rw [Try.underlying72]; rfl
  · rw [Try.underlying74]; rfl
  · rw [Try.underlying75]; rfl
  · rw [Try.underlying76]; rfl
  · rw [Try.underlying78]; rfl
  · rw [Try.underlying79]; rfl
  · rw [Try.underlying80]; rfl
  · rw [Try.underlying81]; rfl
  · rw [Try.underlying82]; rfl
  · rw [Try.underlying89]; rfl
  · rw [Try.underlying90]; rfl
  · rw [Try.underlying92]; rfl
  · rw [Try.underlying94]; rfl
  · rw [Try.underlying95]; rfl
  · rw [Try.underlying96]; rfl
  · rw [Try.underlying97]; rfl
  · rw [Try.underlying98]; rfl
  · rw [Try.underlying99]; rfl
  · rw [Try.underlying100]; rfl
  · cases h
def fldOf7 : Nat → Option (Nat × Nat)
  | 0 => some (0, 2)
  | 1 => some (1, 3)
  | 2 => some (2, 4)
  | 3 => some (3, 6)
  | _ => none
theorem fld7 (f off ft : Nat) (h : fldOf7 f = some (off, ft)) : Fld Try.prog 7 f off ft := by
  unfold fldOf7 at h
  split at h
  · cases h; exact ⟨_, _, Try.underlying7, rfl, rfl, rfl⟩
  · cases h; exact ⟨_, _, Try.underlying7, rfl, rfl, rfl⟩
  · cases h; exact ⟨_, _, Try.underlying7, rfl, rfl, rfl⟩
  · cases h; exact ⟨_, _, Try.underlying7, rfl, rfl, rfl⟩
  · cases h
def fldOf8 : Nat → Option (Nat × Nat)
  | 0 => some (0, 2)
  | 1 => some (1, 3)
  | 2 => some (2, 4)
  | 3 => some (3, 6)
  | _ => none
theorem fld8 (f off ft : Nat) (h : fldOf8 f = some (off, ft)) : Fld Try.prog 8 f off ft := by
  unfold fldOf8 at h
  split at h
  · cases h; exact ⟨_, _, Try.underlying8, rfl, rfl, rfl⟩
  · cases h; exact ⟨_, _, Try.underlying8, rfl, rfl, rfl⟩
  · cases h; exact ⟨_, _, Try.underlying8, rfl, rfl, rfl⟩
  · cases h; exact ⟨_, _, Try.underlying8, rfl, rfl, rfl⟩
  · cases h
def fldOf13 : Nat → Option (Nat × Nat)
  | 0 => some (0, 9)
  | 1 => some (1, 12)
  | _ => none
theorem fld13 (f off ft : Nat) (h : fldOf13 f = some (off, ft)) : Fld Try.prog 13 f off ft := by
  unfold fldOf13 at h
  split at h
  · cases h; exact ⟨_, _, Try.underlying13, rfl, rfl, rfl⟩
  · cases h; exact ⟨_, _, Try.underlying13, rfl, rfl, rfl⟩
  · cases h
def fldOf14 : Nat → Option (Nat × Nat)
  | 0 => some (0, 9)
  | 1 => some (1, 12)
  | _ => none
theorem fld14 (f off ft : Nat) (h : fldOf14 f = some (off, ft)) : Fld Try.prog 14 f off ft := by
  unfold fldOf14 at h
  split at h
  · cases h; exact ⟨_, _, Try.underlying14, rfl, rfl, rfl⟩
  · cases h; exact ⟨_, _, Try.underlying14, rfl, rfl, rfl⟩
  · cases h
def fldOf18 : Nat → Option (Nat × Nat)
  | 0 => some (0, 17)
  | _ => none
theorem fld18 (f off ft : Nat) (h : fldOf18 f = some (off, ft)) : Fld Try.prog 18 f off ft := by
  unfold fldOf18 at h
  split at h
  · cases h; exact ⟨_, _, Try.underlying18, rfl, rfl, rfl⟩
  · cases h
def fldOf19 : Nat → Option (Nat × Nat)
  | 0 => some (0, 17)
  | _ => none
theorem fld19 (f off ft : Nat) (h : fldOf19 f = some (off, ft)) : Fld Try.prog 19 f off ft := by
  unfold fldOf19 at h
  split at h
  · cases h; exact ⟨_, _, Try.underlying19, rfl, rfl, rfl⟩
  · cases h
def fldOf56 : Nat → Option (Nat × Nat)
  | 0 => some (0, 17)
  | _ => none
theorem fld56 (f off ft : Nat) (h : fldOf56 f = some (off, ft)) : Fld Try.prog 56 f off ft := by
  unfold fldOf56 at h
  split at h
  · cases h; exact ⟨_, _, Try.underlying56, rfl, rfl, rfl⟩
  · cases h
def fldOf57 : Nat → Option (Nat × Nat)
  | 0 => some (0, 17)
  | _ => none
theorem fld57 (f off ft : Nat) (h : fldOf57 f = some (off, ft)) : Fld Try.prog 57 f off ft := by
  unfold fldOf57 at h
  split at h
  · cases h; exact ⟨_, _, Try.underlying57, rfl, rfl, rfl⟩
  · cases h
def fldOf68 : Nat → Option (Nat × Nat)
  | 0 => some (0, 17)
  | 1 => some (1, 17)
  | 2 => some (2, 17)
  | 3 => some (3, 9)
  | _ => none
theorem fld68 (f off ft : Nat) (h : fldOf68 f = some (off, ft)) : Fld Try.prog 68 f off ft := by
  unfold fldOf68 at h
  split at h
  · cases h; exact ⟨_, _, Try.underlying68, rfl, rfl, rfl⟩
  · cases h; exact ⟨_, _, Try.underlying68, rfl, rfl, rfl⟩
  · cases h; exact ⟨_, _, Try.underlying68, rfl, rfl, rfl⟩
  · cases h; exact ⟨_, _, Try.underlying68, rfl, rfl, rfl⟩
  · cases h
def fldOf69 : Nat → Option (Nat × Nat)
  | 0 => some (0, 17)
  | 1 => some (1, 17)
  | 2 => some (2, 17)
  | 3 => some (3, 9)
  | _ => none
theorem fld69 (f off ft : Nat) (h : fldOf69 f = some (off, ft)) : Fld Try.prog 69 f off ft := by
  unfold fldOf69 at h
  split at h
  · cases h; exact ⟨_, _, Try.underlying69, rfl, rfl, rfl⟩
  · cases h; exact ⟨_, _, Try.underlying69, rfl, rfl, rfl⟩
  · cases h; exact ⟨_, _, Try.underlying69, rfl, rfl, rfl⟩
  · cases h; exact ⟨_, _, Try.underlying69, rfl, rfl, rfl⟩
  · cases h
def fldOf71 : Nat → Option (Nat × Nat)
  | 0 => some (0, 70)
  | _ => none
theorem fld71 (f off ft : Nat) (h : fldOf71 f = some (off, ft)) : Fld Try.prog 71 f off ft := by
  unfold fldOf71 at h
  split at h
  · cases h; exact ⟨_, _, Try.underlying71, rfl, rfl, rfl⟩
  · cases h
def fldOf72 : Nat → Option (Nat × Nat)
  | 0 => some (0, 70)
  | _ => none
theorem fld72 (f off ft : Nat) (h : fldOf72 f = some (off, ft)) : Fld Try.prog 72 f off ft := by
  unfold fldOf72 at h
  split at h
  · cases h; exact ⟨_, _, Try.underlying72, rfl, rfl, rfl⟩
  · cases h
def fldOf81 : Nat → Option (Nat × Nat)
  | 0 => some (0, 12)
  | 1 => some (1, 12)
  | 2 => some (2, 74)
  | 3 => some (3, 75)
  | 4 => some (4, 5)
  | 5 => some (5, 5)
  | 6 => some (6, 76)
  | 7 => some (7, 77)
  | 8 => some (8, 78)
  | 9 => some (9, 79)
  | 10 => some (10, 80)
  | _ => none
theorem fld81 (f off ft : Nat) (h : fldOf81 f = some (off, ft)) : Fld Try.prog 81 f off ft := by
  unfold fldOf81 at h
  split at h
  · cases h; exact ⟨_, _, Try.underlying81, rfl, rfl, rfl⟩
  · cases h; exact ⟨_, _, Try.underlying81, rfl, rfl, rfl⟩
  · cases h; exact ⟨_, _, Try.underlying81, rfl, rfl, rfl⟩
  · cases h; exact ⟨_, _, Try.underlying81, rfl, rfl, rfl⟩
  · cases h; exact ⟨_, _, Try.underlying81, rfl, rfl, rfl⟩
  · cases h; exact ⟨_, _, Try.underlying81, rfl, rfl, rfl⟩
  · cases h; exact ⟨_, _, Try.underlying81, rfl, rfl, rfl⟩
  · cases h; exact ⟨_, _, Try.underlying81, rfl, rfl, rfl⟩
  · cases h; exact ⟨_, _, Try.underlying81, rfl, rfl, rfl⟩
  · cases h; exact ⟨_, _, Try.underlying81, rfl, rfl, rfl⟩
  · cases h; exact ⟨_, _, Try.underlying81, rfl, rfl, rfl⟩
  · cases h
def fldOf82 : Nat → Option (Nat × Nat)
  | 0 => some (0, 12)
  | 1 => some (1, 12)
  | 2 => some (2, 74)
  | 3 => some (3, 75)
  | 4 => some (4, 5)
  | 5 => some (5, 5)
  | 6 => some (6, 76)
  | 7 => some (7, 77)
  | 8 => some (8, 78)
  | 9 => some (9, 79)
  | 10 => some (10, 80)
  | _ => none
theorem fld82 (f off ft : Nat) (h : fldOf82 f = some (off, ft)) : Fld Try.prog 82 f off ft := by
  unfold fldOf82 at h
  split at h
  · cases h; exact ⟨_, _, Try.underlying82, rfl, rfl, rfl⟩
  · cases h; exact ⟨_, _, Try.underlying82, rfl, rfl, rfl⟩
  · cases h; exact ⟨_, _, Try.underlying82, rfl, rfl, rfl⟩
  · cases h; exact ⟨_, _, Try.underlying82, rfl, rfl, rfl⟩
  · cases h; exact ⟨_, _, Try.underlying82, rfl, rfl, rfl⟩
  · cases h; exact ⟨_, _, Try.underlying82, rfl, rfl, rfl⟩
  · cases h; exact ⟨_, _, Try.underlying82, rfl, rfl, rfl⟩
  · cases h; exact ⟨_, _, Try.underlying82, rfl, rfl, rfl⟩
  · cases h; exact ⟨_, _, Try.underlying82, rfl, rfl, rfl⟩
  · cases h; exact ⟨_, _, Try.underlying82, rfl, rfl, rfl⟩
  · cases h; exact ⟨_, _, Try.underlying82, rfl, rfl, rfl⟩
  · cases h
def fldOf89 : Nat → Option (Nat × Nat)
  | 0 => some (0, 9)
  | 1 => some (1, 76)
  | _ => none
theorem fld89 (f off ft : Nat) (h : fldOf89 f = some (off, ft)) : Fld Try.prog 89 f off ft := by
  unfold fldOf89 at h
  split at h
  · cases h; exact ⟨_, _, Try.underlying89, rfl, rfl, rfl⟩
  · cases h; exact ⟨_, _, Try.underlying89, rfl, rfl, rfl⟩
  · cases h
def fldOf90 : Nat → Option (Nat × Nat)
  | 0 => some (0, 9)
  | 1 => some (1, 76)
  | _ => none
theorem fld90 (f off ft : Nat) (h : fldOf90 f = some (off, ft)) : Fld Try.prog 90 f off ft := by
  unfold fldOf90 at h
  split at h
  · cases h; exact ⟨_, _, Try.underlying90, rfl, rfl, rfl⟩
  · cases h; exact ⟨_, _, Try.underlying90, rfl, rfl, rfl⟩
  · cases h
def fldOf95 : Nat → Option (Nat × Nat)
  | 0 => some (0, 79)
  | 1 => some (1, 94)
  | 2 => some (2, 94)
  | 3 => some (3, 74)
  | 4 => some (4, 74)
  | _ => none
theorem fld95 (f off ft : Nat) (h : fldOf95 f = some (off, ft)) : Fld Try.prog 95 f off ft := by
  unfold fldOf95 at h
  split at h
  · cases h; exact ⟨_, _, Try.underlying95, rfl, rfl, rfl⟩
  · cases h; exact ⟨_, _, Try.underlying95, rfl, rfl, rfl⟩
  · cases h; exact ⟨_, _, Try.underlying95, rfl, rfl, rfl⟩
  · cases h; exact ⟨_, _, Try.underlying95, rfl, rfl, rfl⟩
  · cases h; exact ⟨_, _, Try.underlying95, rfl, rfl, rfl⟩
  · cases h
def fldOf96 : Nat → Option (Nat × Nat)
  | 0 => some (0, 79)
  | 1 => some (1, 94)
  | 2 => some (2, 94)
  | 3 => some (3, 74)
  | 4 => some (4, 74)
  | _ => none
theorem fld96 (f off ft : Nat) (h : fldOf96 f = some (off, ft)) : Fld Try.prog 96 f off ft := by
  unfold fldOf96 at h
  split at h
  · cases h; exact ⟨_, _, Try.underlying96, rfl, rfl, rfl⟩
  · cases h; exact ⟨_, _, Try.underlying96, rfl, rfl, rfl⟩
  · cases h; exact ⟨_, _, Try.underlying96, rfl, rfl, rfl⟩
  · cases h; exact ⟨_, _, Try.underlying96, rfl, rfl, rfl⟩
  · cases h; exact ⟨_, _, Try.underlying96, rfl, rfl, rfl⟩
  · cases h
def fldOf99 : Nat → Option (Nat × Nat)
  | 0 => some (0, 79)
  | 1 => some (1, 80)
  | 2 => some (2, 98)
  | 3 => some (3, 98)
  | _ => none
theorem fld99 (f off ft : Nat) (h : fldOf99 f = some (off, ft)) : Fld Try.prog 99 f off ft := by
  unfold fldOf99 at h
  split at h
  · cases h; exact ⟨_, _, Try.underlying99, rfl, rfl, rfl⟩
  · cases h; exact ⟨_, _, Try.underlying99, rfl, rfl, rfl⟩
  · cases h; exact ⟨_, _, Try.underlying99, rfl, rfl, rfl⟩
  · cases h; exact ⟨_, _, Try.underlying99, rfl, rfl, rfl⟩
  · cases h
def fldOf100 : Nat → Option (Nat × Nat)
  | 0 => some (0, 79)
  | 1 => some (1, 80)
  | 2 => some (2, 98)
  | 3 => some (3, 98)
  | _ => none
theorem fld100 (f off ft : Nat) (h : fldOf100 f = some (off, ft)) : Fld Try.prog 100 f off ft := by
  unfold fldOf100 at h
  split at h
  · cases h; exact ⟨_, _, Try.underlying100, rfl, rfl, rfl⟩
  · cases h; exact ⟨_, _, Try.underlying100, rfl, rfl, rfl⟩
  · cases h; exact ⟨_, _, Try.underlying100, rfl, rfl, rfl⟩
  · cases h; exact ⟨_, _, Try.underlying100, rfl, rfl, rfl⟩
  · cases h
def fldOf (t f : Nat) : Option (Nat × Nat) :=
  match t with
  | 7 => fldOf7 f
  | 8 => fldOf8 f
  | 13 => fldOf13 f
  | 14 => fldOf14 f
  | 18 => fldOf18 f
  | 19 => fldOf19 f
  | 56 => fldOf56 f
  | 57 => fldOf57 f
  | 68 => fldOf68 f
  | 69 => fldOf69 f
  | 71 => fldOf71 f
  | 72 => fldOf72 f
  | 81 => fldOf81 f
  | 82 => fldOf82 f
  | 89 => fldOf89 f
  | 90 => fldOf90 f
  | 95 => fldOf95 f
  | 96 => fldOf96 f
  | 99 => fldOf99 f
  | 100 => fldOf100 f
  | _ => none
theorem fld (t f off ft : Nat) (h : fldOf t f = some (off, ft)) : Fld Try.prog t f off ft := by
  unfold fldOf at h
  split at h
  · exact fld7 _ _ _ h
  · exact fld8 _ _ _ h
  · exact fld13 _ _ _ h
  · exact fld14 _ _ _ h
  · exact fld18 _ _ _ h
  · exact fld19 _ _ _ h
  · exact fld56 _ _ _ h
  · exact fld57 _ _ _ h
  · exact fld68 _ _ _ h
  · exact fld69 _ _ _ h
  · exact fld71 _ _ _ h
  · exact fld72 _ _ _ h
  · exact fld81 _ _ _ h
  · exact fld82 _ _ _ h
  · exact fld89 _ _ _ h
  · exact fld90 _ _ _ h
  · exact fld95 _ _ _ h
  · exact fld96 _ _ _ h
  · exact fld99 _ _ _ h
  · exact fld100 _ _ _ h
  · cases h
/-- busbar/busbarlaw01.BitsSetLaws -/
theorem cal3 : Callable Try.prog 3 := ⟨⟨_, Try.func3, by kernel_rfl, by kernel_rfl⟩⟩
/-- busbar/busbarlaw01.BitsThere -/
theorem cal4 : Callable Try.prog 4 := ⟨⟨_, Try.func4, by kernel_rfl, by kernel_rfl⟩⟩
/-- busbar/busbarlaw01.BitsKnown -/
theorem cal5 : Callable Try.prog 5 := ⟨⟨_, Try.func5, by kernel_rfl, by kernel_rfl⟩⟩
/-- busbar/busbarlaw01.works -/
theorem cal6 : Callable Try.prog 6 := ⟨⟨_, Try.func6, by kernel_rfl, by kernel_rfl⟩⟩
/-- busbar/bits.SetOf -/
theorem cal7 : Callable Try.prog 7 := ⟨⟨_, Try.func7, by kernel_rfl, by kernel_rfl⟩⟩
/-- busbar/bits.List -/
theorem cal8 : Callable Try.prog 8 := ⟨⟨_, Try.func8, by kernel_rfl, by kernel_rfl⟩⟩
/-- busbar/bits.Union -/
theorem cal9 : Callable Try.prog 9 := ⟨⟨_, Try.func9, by kernel_rfl, by kernel_rfl⟩⟩
/-- busbar/bits.Meet -/
theorem cal10 : Callable Try.prog 10 := ⟨⟨_, Try.func10, by kernel_rfl, by kernel_rfl⟩⟩
/-- busbar/bits.Lay -/
theorem cal11 : Callable Try.prog 11 := ⟨⟨_, Try.func11, by kernel_rfl, by kernel_rfl⟩⟩
/-- busbar/bits.Row -/
theorem cal12 : Callable Try.prog 12 := ⟨⟨_, Try.func12, by kernel_rfl, by kernel_rfl⟩⟩
/-- busbar/bits.Get -/
theorem cal13 : Callable Try.prog 13 := ⟨⟨_, Try.func13, by kernel_rfl, by kernel_rfl⟩⟩
/-- busbar/bits.Put -/
theorem cal14 : Callable Try.prog 14 := ⟨⟨_, Try.func14, by kernel_rfl, by kernel_rfl⟩⟩
/-- busbar/busbarref0.SameBytes -/
theorem cal15 : Callable Try.prog 15 := ⟨⟨_, Try.func15, by kernel_rfl, by kernel_rfl⟩⟩
/-- busbar/busbarlaw01.no -/
theorem cal16 : Callable Try.prog 16 := ⟨⟨_, Try.func16, by kernel_rfl, by kernel_rfl⟩⟩
/-- busbar/busbarref0.SameInts -/
theorem cal17 : Callable Try.prog 17 := ⟨⟨_, Try.func17, by kernel_rfl, by kernel_rfl⟩⟩
/-- busbar/bits.sized -/
theorem cal18 : Callable Try.prog 18 := ⟨⟨_, Try.func18, by kernel_rfl, by kernel_rfl⟩⟩
/-- busbar/bits.there -/
theorem cal19 : Callable Try.prog 19 := ⟨⟨_, Try.func19, by kernel_rfl, by kernel_rfl⟩⟩
/-- busbar/bits.put -/
theorem cal20 : Callable Try.prog 20 := ⟨⟨_, Try.func20, by kernel_rfl, by kernel_rfl⟩⟩
/-- busbar/busbarkit.Num -/
theorem cal21 : Callable Try.prog 21 := ⟨⟨_, Try.func21, by kernel_rfl, by kernel_rfl⟩⟩
/-- errors.Is -/
theorem cal22 : Callable Try.prog 22 := ⟨⟨_, Try.func22, by kernel_rfl, by kernel_rfl⟩⟩
/-- errors.is -/
theorem cal24 : Callable Try.prog 24 := ⟨⟨_, Try.func24, by kernel_rfl, by kernel_rfl⟩⟩
end Go.Proofs.Ytgddinjaloioiaa
