/- Facts of the seat's tables: each type's size and zero, each function's call. Written by my own gen.py off the translation's rows. -/
import Derived.Test.YtbindknkjbckhaaProg
import Derived.Test.YtbindknkjbckhaaReg
import Derived.KernelRfl
namespace Go.Proofs.Ytbindknkjbckhaa
theorem mixed : Try.prog.follows .mixedOrders = true := by kernel_rfl
theorem isz0 : (Try.prog.info? 0).map (·.size) = some 1 := by kernel_rfl
theorem inf0 : (Try.prog.info? 0).map (fun i => (i.zero, i.size, i.bytes)) = some (some (.tuple #[]), 1, 0) := by kernel_rfl
theorem isz1 : (Try.prog.info? 1).map (·.size) = some 1 := by kernel_rfl
theorem inf1 : (Try.prog.info? 1).map (fun i => (i.zero, i.size, i.bytes)) = some (some (.nilFunc), 1, 8) := by kernel_rfl
theorem isz2 : (Try.prog.info? 2).map (·.size) = some 1 := by kernel_rfl
theorem inf2 : (Try.prog.info? 2).map (fun i => (i.zero, i.size, i.bytes)) = some (some (.int .i64 0), 1, 8) := by kernel_rfl
theorem isz3 : (Try.prog.info? 3).map (·.size) = some 1 := by kernel_rfl
theorem inf3 : (Try.prog.info? 3).map (fun i => (i.zero, i.size, i.bytes)) = some (some (.int .i64 0), 1, 8) := by kernel_rfl
theorem isz4 : (Try.prog.info? 4).map (·.size) = some 1 := by kernel_rfl
theorem inf4 : (Try.prog.info? 4).map (fun i => (i.zero, i.size, i.bytes)) = some (some (.bool false), 1, 1) := by kernel_rfl
theorem isz5 : (Try.prog.info? 5).map (·.size) = some 1 := by kernel_rfl
theorem inf5 : (Try.prog.info? 5).map (fun i => (i.zero, i.size, i.bytes)) = some (some (.int .u8 0), 1, 1) := by kernel_rfl
theorem isz6 : (Try.prog.info? 6).map (·.size) = some 1 := by kernel_rfl
theorem inf6 : (Try.prog.info? 6).map (fun i => (i.zero, i.size, i.bytes)) = some (some (.int .u8 0), 1, 1) := by kernel_rfl
theorem isz7 : (Try.prog.info? 7).map (·.size) = some 4 := by kernel_rfl
theorem inf7 : (Try.prog.info? 7).map (fun i => (i.zero, i.size, i.bytes)) = some (some (.agg #[.int .i64 0, .int .i64 0, .bool false, .int .u8 0]), 4, 24) := by kernel_rfl
theorem isz8 : (Try.prog.info? 8).map (·.size) = some 4 := by kernel_rfl
theorem inf8 : (Try.prog.info? 8).map (fun i => (i.zero, i.size, i.bytes)) = some (some (.agg #[.int .i64 0, .int .i64 0, .bool false, .int .u8 0]), 4, 24) := by kernel_rfl
theorem isz9 : (Try.prog.info? 9).map (·.size) = some 1 := by kernel_rfl
theorem inf9 : (Try.prog.info? 9).map (fun i => (i.zero, i.size, i.bytes)) = some (some (.string ⟨#[]⟩), 1, 16) := by kernel_rfl
theorem isz10 : (Try.prog.info? 10).map (·.size) = some 1 := by kernel_rfl
theorem inf10 : (Try.prog.info? 10).map (fun i => (i.zero, i.size, i.bytes)) = some (some (.string ⟨#[]⟩), 1, 16) := by kernel_rfl
theorem isz11 : (Try.prog.info? 11).map (·.size) = some 1 := by kernel_rfl
theorem inf11 : (Try.prog.info? 11).map (fun i => (i.zero, i.size, i.bytes)) = some (some (.string ⟨#[]⟩), 1, 16) := by kernel_rfl
theorem isz12 : (Try.prog.info? 12).map (·.size) = some 1 := by kernel_rfl
theorem inf12 : (Try.prog.info? 12).map (fun i => (i.zero, i.size, i.bytes)) = some (some (.int .u64 0), 1, 8) := by kernel_rfl
theorem isz13 : (Try.prog.info? 13).map (·.size) = some 2 := by kernel_rfl
theorem inf13 : (Try.prog.info? 13).map (fun i => (i.zero, i.size, i.bytes)) = some (some (.agg #[.string ⟨#[]⟩, .int .u64 0]), 2, 24) := by kernel_rfl
theorem isz14 : (Try.prog.info? 14).map (·.size) = some 2 := by kernel_rfl
theorem inf14 : (Try.prog.info? 14).map (fun i => (i.zero, i.size, i.bytes)) = some (some (.agg #[.string ⟨#[]⟩, .int .u64 0]), 2, 24) := by kernel_rfl
theorem isz15 : (Try.prog.info? 15).map (·.size) = some 1 := by kernel_rfl
theorem inf15 : (Try.prog.info? 15).map (fun i => (i.zero, i.size, i.bytes)) = some (some (.pointer none), 1, 8) := by kernel_rfl
theorem isz16 : (Try.prog.info? 16).map (·.size) = some 1 := by kernel_rfl
theorem inf16 : (Try.prog.info? 16).map (fun i => (i.zero, i.size, i.bytes)) = some (some (.pointer none), 1, 8) := by kernel_rfl
theorem isz17 : (Try.prog.info? 17).map (·.size) = some 1 := by kernel_rfl
theorem inf17 : (Try.prog.info? 17).map (fun i => (i.zero, i.size, i.bytes)) = some (some (.pointer none), 1, 8) := by kernel_rfl
theorem isz18 : (Try.prog.info? 18).map (·.size) = some 1 := by kernel_rfl
theorem inf18 : (Try.prog.info? 18).map (fun i => (i.zero, i.size, i.bytes)) = some (some (.agg #[.pointer none]), 1, 8) := by kernel_rfl
theorem isz19 : (Try.prog.info? 19).map (·.size) = some 1 := by kernel_rfl
theorem inf19 : (Try.prog.info? 19).map (fun i => (i.zero, i.size, i.bytes)) = some (some (.agg #[.pointer none]), 1, 8) := by kernel_rfl
theorem isz20 : (Try.prog.info? 20).map (·.size) = some 1 := by kernel_rfl
theorem inf20 : (Try.prog.info? 20).map (fun i => (i.zero, i.size, i.bytes)) = some (some (.nilIface), 1, 16) := by kernel_rfl
theorem isz21 : (Try.prog.info? 21).map (·.size) = some 1 := by kernel_rfl
theorem inf21 : (Try.prog.info? 21).map (fun i => (i.zero, i.size, i.bytes)) = some (some (.int .i32 0), 1, 4) := by kernel_rfl
theorem isz22 : (Try.prog.info? 22).map (·.size) = some 2 := by kernel_rfl
theorem inf22 : (Try.prog.info? 22).map (fun i => (i.zero, i.size, i.bytes)) = some (some (.agg #[.int .i64 0, .int .i64 0]), 2, 16) := by kernel_rfl
theorem isz23 : (Try.prog.info? 23).map (·.size) = some 2 := by kernel_rfl
theorem inf23 : (Try.prog.info? 23).map (fun i => (i.zero, i.size, i.bytes)) = some (some (.agg #[.int .i64 0, .int .i64 0]), 2, 16) := by kernel_rfl
theorem isz24 : (Try.prog.info? 24).map (·.size) = some 1 := by kernel_rfl
theorem inf24 : (Try.prog.info? 24).map (fun i => (i.zero, i.size, i.bytes)) = some (some (.int .u64 0), 1, 8) := by kernel_rfl
theorem isz25 : (Try.prog.info? 25).map (·.size) = some 2 := by kernel_rfl
theorem inf25 : (Try.prog.info? 25).map (fun i => (i.zero, i.size, i.bytes)) = some (some (.agg #[.int .i64 0, .int .i64 0]), 2, 16) := by kernel_rfl
theorem isz26 : (Try.prog.info? 26).map (·.size) = some 2 := by kernel_rfl
theorem inf26 : (Try.prog.info? 26).map (fun i => (i.zero, i.size, i.bytes)) = some (some (.agg #[.int .i64 0, .int .i64 0]), 2, 16) := by kernel_rfl
theorem isz27 : (Try.prog.info? 27).map (·.size) = some 1 := by kernel_rfl
theorem inf27 : (Try.prog.info? 27).map (fun i => (i.zero, i.size, i.bytes)) = some (some (.slice none 0 0), 1, 24) := by kernel_rfl
theorem isz28 : (Try.prog.info? 28).map (·.size) = some 19 := by kernel_rfl
theorem inf28 : (Try.prog.info? 28).map (fun i => (i.zero, i.size, i.bytes)) = some (some (.agg #[.int .i64 0, .int .i64 0, .string ⟨#[]⟩, .int .i64 0, .int .u64 0, .int .i64 0, .int .i64 0, .bool false, .bool false, .int .i64 0, .int .i64 0, .int .i64 0, .int .i64 0, .int .i64 0, .int .i64 0, .int .i64 0, .int .i64 0, .string ⟨#[]⟩, .slice none 0 0]), 19, 176) := by kernel_rfl
theorem isz29 : (Try.prog.info? 29).map (·.size) = some 19 := by kernel_rfl
theorem inf29 : (Try.prog.info? 29).map (fun i => (i.zero, i.size, i.bytes)) = some (some (.agg #[.int .i64 0, .int .i64 0, .string ⟨#[]⟩, .int .i64 0, .int .u64 0, .int .i64 0, .int .i64 0, .bool false, .bool false, .int .i64 0, .int .i64 0, .int .i64 0, .int .i64 0, .int .i64 0, .int .i64 0, .int .i64 0, .int .i64 0, .string ⟨#[]⟩, .slice none 0 0]), 19, 176) := by kernel_rfl
theorem isz30 : (Try.prog.info? 30).map (·.size) = some 1 := by kernel_rfl
theorem inf30 : (Try.prog.info? 30).map (fun i => (i.zero, i.size, i.bytes)) = some (some (.nilFunc), 1, 8) := by kernel_rfl
theorem isz31 : (Try.prog.info? 31).map (·.size) = some 1 := by kernel_rfl
theorem inf31 : (Try.prog.info? 31).map (fun i => (i.zero, i.size, i.bytes)) = some (some (.nilFunc), 1, 8) := by kernel_rfl
theorem isz32 : (Try.prog.info? 32).map (·.size) = some 1 := by kernel_rfl
theorem inf32 : (Try.prog.info? 32).map (fun i => (i.zero, i.size, i.bytes)) = some (some (.nilFunc), 1, 8) := by kernel_rfl
theorem isz33 : (Try.prog.info? 33).map (·.size) = some 1 := by kernel_rfl
theorem inf33 : (Try.prog.info? 33).map (fun i => (i.zero, i.size, i.bytes)) = some (some (.nilFunc), 1, 8) := by kernel_rfl
theorem isz34 : (Try.prog.info? 34).map (·.size) = some 1 := by kernel_rfl
theorem inf34 : (Try.prog.info? 34).map (fun i => (i.zero, i.size, i.bytes)) = some (some (.nilFunc), 1, 8) := by kernel_rfl
theorem isz35 : (Try.prog.info? 35).map (·.size) = some 1 := by kernel_rfl
theorem inf35 : (Try.prog.info? 35).map (fun i => (i.zero, i.size, i.bytes)) = some (some (.slice none 0 0), 1, 24) := by kernel_rfl
theorem isz36 : (Try.prog.info? 36).map (·.size) = some 1 := by kernel_rfl
theorem inf36 : (Try.prog.info? 36).map (fun i => (i.zero, i.size, i.bytes)) = some (some (.nilIface), 1, 16) := by kernel_rfl
theorem isz37 : (Try.prog.info? 37).map (·.size) = some 1 := by kernel_rfl
theorem inf37 : (Try.prog.info? 37).map (fun i => (i.zero, i.size, i.bytes)) = some (some (.nilIface), 1, 16) := by kernel_rfl
theorem isz38 : (Try.prog.info? 38).map (·.size) = some 1 := by kernel_rfl
theorem inf38 : (Try.prog.info? 38).map (fun i => (i.zero, i.size, i.bytes)) = some (some (.tuple #[.slice none 0 0, .nilIface]), 1, 0) := by kernel_rfl
theorem isz39 : (Try.prog.info? 39).map (·.size) = some 1 := by kernel_rfl
theorem inf39 : (Try.prog.info? 39).map (fun i => (i.zero, i.size, i.bytes)) = some (some (.nilFunc), 1, 8) := by kernel_rfl
theorem isz40 : (Try.prog.info? 40).map (·.size) = some 1 := by kernel_rfl
theorem inf40 : (Try.prog.info? 40).map (fun i => (i.zero, i.size, i.bytes)) = some (some (.nilFunc), 1, 8) := by kernel_rfl
theorem isz41 : (Try.prog.info? 41).map (·.size) = some 64 := by kernel_rfl
theorem inf41 : (Try.prog.info? 41).map (fun i => (i.zero, i.size, i.bytes)) = some (some (.agg #[.bool false, .bool false, .bool false, .bool false, .bool false, .bool false, .bool false, .bool false, .bool false, .bool false, .bool false, .bool false, .bool false, .bool false, .bool false, .bool false, .bool false, .bool false, .bool false, .bool false, .bool false, .bool false, .bool false, .bool false, .bool false, .bool false, .bool false, .bool false, .bool false, .bool false, .bool false, .bool false, .bool false, .bool false, .bool false, .bool false, .bool false, .bool false, .bool false, .bool false, .bool false, .bool false, .bool false, .bool false, .bool false, .bool false, .bool false, .bool false, .bool false, .bool false, .bool false, .bool false, .bool false, .bool false, .bool false, .bool false, .bool false, .bool false, .bool false, .bool false, .bool false, .bool false, .bool false, .bool false]), 64, 64) := by kernel_rfl
theorem isz42 : (Try.prog.info? 42).map (·.size) = some 1 := by kernel_rfl
theorem inf42 : (Try.prog.info? 42).map (fun i => (i.zero, i.size, i.bytes)) = some (some (.nilFunc), 1, 8) := by kernel_rfl
theorem isz43 : (Try.prog.info? 43).map (·.size) = some 1 := by kernel_rfl
theorem inf43 : (Try.prog.info? 43).map (fun i => (i.zero, i.size, i.bytes)) = some (some (.nilFunc), 1, 8) := by kernel_rfl
theorem isz44 : (Try.prog.info? 44).map (·.size) = some 1 := by kernel_rfl
theorem inf44 : (Try.prog.info? 44).map (fun i => (i.zero, i.size, i.bytes)) = some (some (.nilFunc), 1, 8) := by kernel_rfl
theorem isz45 : (Try.prog.info? 45).map (·.size) = some 1 := by kernel_rfl
theorem inf45 : (Try.prog.info? 45).map (fun i => (i.zero, i.size, i.bytes)) = some (some (.nilFunc), 1, 8) := by kernel_rfl
theorem isz46 : (Try.prog.info? 46).map (·.size) = some 1 := by kernel_rfl
theorem inf46 : (Try.prog.info? 46).map (fun i => (i.zero, i.size, i.bytes)) = some (some (.nilFunc), 1, 8) := by kernel_rfl
theorem isz47 : (Try.prog.info? 47).map (·.size) = some 1 := by kernel_rfl
theorem inf47 : (Try.prog.info? 47).map (fun i => (i.zero, i.size, i.bytes)) = some (some (.nilFunc), 1, 8) := by kernel_rfl
theorem isz48 : (Try.prog.info? 48).map (·.size) = some 1 := by kernel_rfl
theorem inf48 : (Try.prog.info? 48).map (fun i => (i.zero, i.size, i.bytes)) = some (some (.tuple #[.slice none 0 0, .int .i64 0]), 1, 0) := by kernel_rfl
theorem isz49 : (Try.prog.info? 49).map (·.size) = some 1 := by kernel_rfl
theorem inf49 : (Try.prog.info? 49).map (fun i => (i.zero, i.size, i.bytes)) = some (some (.nilFunc), 1, 8) := by kernel_rfl
theorem isz50 : (Try.prog.info? 50).map (·.size) = some 1 := by kernel_rfl
theorem inf50 : (Try.prog.info? 50).map (fun i => (i.zero, i.size, i.bytes)) = some (some (.nilFunc), 1, 8) := by kernel_rfl
theorem isz51 : (Try.prog.info? 51).map (·.size) = some 1 := by kernel_rfl
theorem inf51 : (Try.prog.info? 51).map (fun i => (i.zero, i.size, i.bytes)) = some (some (.int .i64 0), 1, 8) := by kernel_rfl
theorem isz52 : (Try.prog.info? 52).map (·.size) = some 1 := by kernel_rfl
theorem inf52 : (Try.prog.info? 52).map (fun i => (i.zero, i.size, i.bytes)) = some (some (.nilFunc), 1, 8) := by kernel_rfl
theorem isz53 : (Try.prog.info? 53).map (·.size) = some 1 := by kernel_rfl
theorem inf53 : (Try.prog.info? 53).map (fun i => (i.zero, i.size, i.bytes)) = some (some (.nilFunc), 1, 8) := by kernel_rfl
theorem isz54 : (Try.prog.info? 54).map (·.size) = some 1 := by kernel_rfl
theorem inf54 : (Try.prog.info? 54).map (fun i => (i.zero, i.size, i.bytes)) = some (some (.nilFunc), 1, 8) := by kernel_rfl
theorem isz55 : (Try.prog.info? 55).map (·.size) = some 1 := by kernel_rfl
theorem inf55 : (Try.prog.info? 55).map (fun i => (i.zero, i.size, i.bytes)) = some (some (.nilFunc), 1, 8) := by kernel_rfl
theorem isz56 : (Try.prog.info? 56).map (·.size) = some 1 := by kernel_rfl
theorem inf56 : (Try.prog.info? 56).map (fun i => (i.zero, i.size, i.bytes)) = some (some (.nilIface), 1, 16) := by kernel_rfl
theorem isz57 : (Try.prog.info? 57).map (·.size) = some 1 := by kernel_rfl
theorem inf57 : (Try.prog.info? 57).map (fun i => (i.zero, i.size, i.bytes)) = some (some (.nilIface), 1, 16) := by kernel_rfl
theorem isz58 : (Try.prog.info? 58).map (·.size) = some 1 := by kernel_rfl
theorem inf58 : (Try.prog.info? 58).map (fun i => (i.zero, i.size, i.bytes)) = some (some (.nilFunc), 1, 8) := by kernel_rfl
theorem isz59 : (Try.prog.info? 59).map (·.size) = some 1 := by kernel_rfl
theorem inf59 : (Try.prog.info? 59).map (fun i => (i.zero, i.size, i.bytes)) = some (some (.nilFunc), 1, 8) := by kernel_rfl
theorem isz60 : (Try.prog.info? 60).map (·.size) = some 1 := by kernel_rfl
theorem inf60 : (Try.prog.info? 60).map (fun i => (i.zero, i.size, i.bytes)) = some (some (.nilFunc), 1, 8) := by kernel_rfl
theorem isz61 : (Try.prog.info? 61).map (·.size) = some 1 := by kernel_rfl
theorem inf61 : (Try.prog.info? 61).map (fun i => (i.zero, i.size, i.bytes)) = some (some (.agg #[.pointer none]), 1, 8) := by kernel_rfl
theorem isz62 : (Try.prog.info? 62).map (·.size) = some 1 := by kernel_rfl
theorem inf62 : (Try.prog.info? 62).map (fun i => (i.zero, i.size, i.bytes)) = some (some (.agg #[.pointer none]), 1, 8) := by kernel_rfl
theorem isz63 : (Try.prog.info? 63).map (·.size) = some 1 := by kernel_rfl
theorem inf63 : (Try.prog.info? 63).map (fun i => (i.zero, i.size, i.bytes)) = some (some (.pointer none), 1, 8) := by kernel_rfl
theorem isz64 : (Try.prog.info? 64).map (·.size) = some 1 := by kernel_rfl
theorem inf64 : (Try.prog.info? 64).map (fun i => (i.zero, i.size, i.bytes)) = some (some (.nilIface), 1, 16) := by kernel_rfl
theorem isz65 : (Try.prog.info? 65).map (·.size) = some 1 := by kernel_rfl
theorem inf65 : (Try.prog.info? 65).map (fun i => (i.zero, i.size, i.bytes)) = some (some (.tuple #[.nilIface, .bool false]), 1, 0) := by kernel_rfl
theorem isz66 : (Try.prog.info? 66).map (·.size) = some 1 := by kernel_rfl
theorem inf66 : (Try.prog.info? 66).map (fun i => (i.zero, i.size, i.bytes)) = some (some (.nilFunc), 1, 8) := by kernel_rfl
theorem isz67 : (Try.prog.info? 67).map (·.size) = some 1 := by kernel_rfl
theorem inf67 : (Try.prog.info? 67).map (fun i => (i.zero, i.size, i.bytes)) = some (some (.nilIface), 1, 16) := by kernel_rfl
theorem isz68 : (Try.prog.info? 68).map (·.size) = some 1 := by kernel_rfl
theorem inf68 : (Try.prog.info? 68).map (fun i => (i.zero, i.size, i.bytes)) = some (some (.nilFunc), 1, 8) := by kernel_rfl
theorem isz69 : (Try.prog.info? 69).map (·.size) = some 1 := by kernel_rfl
theorem inf69 : (Try.prog.info? 69).map (fun i => (i.zero, i.size, i.bytes)) = some (some (.nilIface), 1, 16) := by kernel_rfl
theorem isz70 : (Try.prog.info? 70).map (·.size) = some 1 := by kernel_rfl
theorem inf70 : (Try.prog.info? 70).map (fun i => (i.zero, i.size, i.bytes)) = some (some (.slice none 0 0), 1, 24) := by kernel_rfl
theorem isz71 : (Try.prog.info? 71).map (·.size) = some 1 := by kernel_rfl
theorem inf71 : (Try.prog.info? 71).map (fun i => (i.zero, i.size, i.bytes)) = some (some (.nilFunc), 1, 8) := by kernel_rfl
theorem isz72 : (Try.prog.info? 72).map (·.size) = some 1 := by kernel_rfl
theorem inf72 : (Try.prog.info? 72).map (fun i => (i.zero, i.size, i.bytes)) = some (some (.int .u64 0), 1, 8) := by kernel_rfl
theorem isz73 : (Try.prog.info? 73).map (·.size) = some 1 := by kernel_rfl
theorem inf73 : (Try.prog.info? 73).map (fun i => (i.zero, i.size, i.bytes)) = some (some (.slice none 0 0), 1, 24) := by kernel_rfl
theorem isz74 : (Try.prog.info? 74).map (·.size) = some 1 := by kernel_rfl
theorem inf74 : (Try.prog.info? 74).map (fun i => (i.zero, i.size, i.bytes)) = some (some (.nilFunc), 1, 8) := by kernel_rfl
theorem isz75 : (Try.prog.info? 75).map (·.size) = some 4 := by kernel_rfl
theorem inf75 : (Try.prog.info? 75).map (fun i => (i.zero, i.size, i.bytes)) = some (some (.agg #[.pointer none, .pointer none, .pointer none, .string ⟨#[]⟩]), 4, 40) := by kernel_rfl
theorem isz76 : (Try.prog.info? 76).map (·.size) = some 4 := by kernel_rfl
theorem inf76 : (Try.prog.info? 76).map (fun i => (i.zero, i.size, i.bytes)) = some (some (.agg #[.pointer none, .pointer none, .pointer none, .string ⟨#[]⟩]), 4, 40) := by kernel_rfl
theorem isz77 : (Try.prog.info? 77).map (·.size) = some 0 := by kernel_rfl
theorem inf77 : (Try.prog.info? 77).map (fun i => (i.zero, i.size, i.bytes)) = some (some (.agg #[]), 0, 0) := by kernel_rfl
theorem isz78 : (Try.prog.info? 78).map (·.size) = some 0 := by kernel_rfl
theorem inf78 : (Try.prog.info? 78).map (fun i => (i.zero, i.size, i.bytes)) = some (some (.agg #[]), 0, 0) := by kernel_rfl
theorem isz79 : (Try.prog.info? 79).map (·.size) = some 0 := by kernel_rfl
theorem inf79 : (Try.prog.info? 79).map (fun i => (i.zero, i.size, i.bytes)) = some (some (.agg #[]), 0, 0) := by kernel_rfl
theorem isz80 : (Try.prog.info? 80).map (·.size) = some 1 := by kernel_rfl
theorem inf80 : (Try.prog.info? 80).map (fun i => (i.zero, i.size, i.bytes)) = some (some (.int .u32 0), 1, 4) := by kernel_rfl
theorem isz81 : (Try.prog.info? 81).map (·.size) = some 1 := by kernel_rfl
theorem inf81 : (Try.prog.info? 81).map (fun i => (i.zero, i.size, i.bytes)) = some (some (.int .u8 0), 1, 1) := by kernel_rfl
theorem isz82 : (Try.prog.info? 82).map (·.size) = some 1 := by kernel_rfl
theorem inf82 : (Try.prog.info? 82).map (fun i => (i.zero, i.size, i.bytes)) = some (some (.int .u8 0), 1, 1) := by kernel_rfl
theorem isz83 : (Try.prog.info? 83).map (·.size) = some 1 := by kernel_rfl
theorem inf83 : (Try.prog.info? 83).map (fun i => (i.zero, i.size, i.bytes)) = some (some (.nilFunc), 1, 8) := by kernel_rfl
theorem isz84 : (Try.prog.info? 84).map (·.size) = some 1 := by kernel_rfl
theorem inf84 : (Try.prog.info? 84).map (fun i => (i.zero, i.size, i.bytes)) = some (some (.pointer none), 1, 8) := by kernel_rfl
theorem isz85 : (Try.prog.info? 85).map (·.size) = some 1 := by kernel_rfl
theorem inf85 : (Try.prog.info? 85).map (fun i => (i.zero, i.size, i.bytes)) = some (some (.int .i32 0), 1, 4) := by kernel_rfl
theorem isz86 : (Try.prog.info? 86).map (·.size) = some 1 := by kernel_rfl
theorem inf86 : (Try.prog.info? 86).map (fun i => (i.zero, i.size, i.bytes)) = some (some (.int .i32 0), 1, 4) := by kernel_rfl
theorem isz87 : (Try.prog.info? 87).map (·.size) = some 11 := by kernel_rfl
theorem inf87 : (Try.prog.info? 87).map (fun i => (i.zero, i.size, i.bytes)) = some (some (.agg #[.int .u64 0, .int .u64 0, .int .u32 0, .int .u8 0, .int .u8 0, .int .u8 0, .int .u8 0, .nilFunc, .pointer none, .int .i32 0, .int .i32 0]), 11, 48) := by kernel_rfl
theorem isz88 : (Try.prog.info? 88).map (·.size) = some 11 := by kernel_rfl
theorem inf88 : (Try.prog.info? 88).map (fun i => (i.zero, i.size, i.bytes)) = some (some (.agg #[.int .u64 0, .int .u64 0, .int .u32 0, .int .u8 0, .int .u8 0, .int .u8 0, .int .u8 0, .nilFunc, .pointer none, .int .i32 0, .int .i32 0]), 11, 48) := by kernel_rfl
theorem isz89 : (Try.prog.info? 89).map (·.size) = some 1 := by kernel_rfl
theorem inf89 : (Try.prog.info? 89).map (fun i => (i.zero, i.size, i.bytes)) = some (some (.nilFunc), 1, 8) := by kernel_rfl
theorem isz90 : (Try.prog.info? 90).map (·.size) = some 1 := by kernel_rfl
theorem inf90 : (Try.prog.info? 90).map (fun i => (i.zero, i.size, i.bytes)) = some (some (.nilFunc), 1, 8) := by kernel_rfl
theorem isz91 : (Try.prog.info? 91).map (·.size) = some 1 := by kernel_rfl
theorem inf91 : (Try.prog.info? 91).map (fun i => (i.zero, i.size, i.bytes)) = some (some (.nilFunc), 1, 8) := by kernel_rfl
theorem isz92 : (Try.prog.info? 92).map (·.size) = some 1 := by kernel_rfl
theorem inf92 : (Try.prog.info? 92).map (fun i => (i.zero, i.size, i.bytes)) = some (some (.nilFunc), 1, 8) := by kernel_rfl
theorem isz93 : (Try.prog.info? 93).map (·.size) = some 1 := by kernel_rfl
theorem inf93 : (Try.prog.info? 93).map (fun i => (i.zero, i.size, i.bytes)) = some (some (.nilFunc), 1, 8) := by kernel_rfl
theorem isz94 : (Try.prog.info? 94).map (·.size) = some 1 := by kernel_rfl
theorem inf94 : (Try.prog.info? 94).map (fun i => (i.zero, i.size, i.bytes)) = some (some (.nilFunc), 1, 8) := by kernel_rfl
theorem isz95 : (Try.prog.info? 95).map (·.size) = some 2 := by kernel_rfl
theorem inf95 : (Try.prog.info? 95).map (fun i => (i.zero, i.size, i.bytes)) = some (some (.agg #[.string ⟨#[]⟩, .int .u8 0]), 2, 24) := by kernel_rfl
theorem isz96 : (Try.prog.info? 96).map (·.size) = some 2 := by kernel_rfl
theorem inf96 : (Try.prog.info? 96).map (fun i => (i.zero, i.size, i.bytes)) = some (some (.agg #[.string ⟨#[]⟩, .int .u8 0]), 2, 24) := by kernel_rfl
theorem isz97 : (Try.prog.info? 97).map (·.size) = some 1 := by kernel_rfl
theorem inf97 : (Try.prog.info? 97).map (fun i => (i.zero, i.size, i.bytes)) = some (some (.pointer none), 1, 8) := by kernel_rfl
theorem isz98 : (Try.prog.info? 98).map (·.size) = some 1 := by kernel_rfl
theorem inf98 : (Try.prog.info? 98).map (fun i => (i.zero, i.size, i.bytes)) = some (some (.pointer none), 1, 8) := by kernel_rfl
theorem isz99 : (Try.prog.info? 99).map (·.size) = some 1 := by kernel_rfl
theorem inf99 : (Try.prog.info? 99).map (fun i => (i.zero, i.size, i.bytes)) = some (some (.nilFunc), 1, 8) := by kernel_rfl
theorem isz100 : (Try.prog.info? 100).map (·.size) = some 1 := by kernel_rfl
theorem inf100 : (Try.prog.info? 100).map (fun i => (i.zero, i.size, i.bytes)) = some (some (.int .u16 0), 1, 2) := by kernel_rfl
theorem isz101 : (Try.prog.info? 101).map (·.size) = some 5 := by kernel_rfl
theorem inf101 : (Try.prog.info? 101).map (fun i => (i.zero, i.size, i.bytes)) = some (some (.agg #[.int .i32 0, .int .u16 0, .int .u16 0, .int .u32 0, .int .u32 0]), 5, 16) := by kernel_rfl
theorem isz102 : (Try.prog.info? 102).map (·.size) = some 5 := by kernel_rfl
theorem inf102 : (Try.prog.info? 102).map (fun i => (i.zero, i.size, i.bytes)) = some (some (.agg #[.int .i32 0, .int .u16 0, .int .u16 0, .int .u32 0, .int .u32 0]), 5, 16) := by kernel_rfl
theorem isz103 : (Try.prog.info? 103).map (·.size) = some 1 := by kernel_rfl
theorem inf103 : (Try.prog.info? 103).map (fun i => (i.zero, i.size, i.bytes)) = some (some (.slice none 0 0), 1, 24) := by kernel_rfl
theorem isz104 : (Try.prog.info? 104).map (·.size) = some 1 := by kernel_rfl
theorem inf104 : (Try.prog.info? 104).map (fun i => (i.zero, i.size, i.bytes)) = some (some (.int .i32 0), 1, 4) := by kernel_rfl
theorem isz105 : (Try.prog.info? 105).map (·.size) = some 4 := by kernel_rfl
theorem inf105 : (Try.prog.info? 105).map (fun i => (i.zero, i.size, i.bytes)) = some (some (.agg #[.int .i32 0, .int .i32 0, .int .i32 0, .int .i32 0]), 4, 16) := by kernel_rfl
theorem isz106 : (Try.prog.info? 106).map (·.size) = some 4 := by kernel_rfl
theorem inf106 : (Try.prog.info? 106).map (fun i => (i.zero, i.size, i.bytes)) = some (some (.agg #[.int .i32 0, .int .i32 0, .int .i32 0, .int .i32 0]), 4, 16) := by kernel_rfl
def tyOf : Nat → Option TypeDesc
  | 2 => some (.int .i64)
  | 3 => some (.int .i64)
  | 4 => some (.bool)
  | 5 => some (.int .u8)
  | 6 => some (.int .u8)
  | 9 => some (.string)
  | 10 => some (.string)
  | 11 => some (.string)
  | 12 => some (.int .u64)
  | 15 => some (.pointer 76)
  | 16 => some (.pointer 79)
  | 17 => some (.pointer 88)
  | 21 => some (.int .i32)
  | 24 => some (.int .u64)
  | 27 => some (.slice 9)
  | 35 => some (.slice 3)
  | 41 => some (.array 64 4)
  | 51 => some (.int .i64)
  | 63 => some (.pointer 96)
  | 70 => some (.slice 37)
  | 72 => some (.int .u64)
  | 73 => some (.slice 5)
  | 77 => some (.array 0 16)
  | 80 => some (.int .u32)
  | 81 => some (.int .u8)
  | 82 => some (.int .u8)
  | 84 => some (.pointer 5)
  | 85 => some (.int .i32)
  | 86 => some (.int .i32)
  | 98 => some (.pointer 102)
  | 100 => some (.int .u16)
  | 103 => some (.slice 106)
  | 104 => some (.int .i32)
  | _ => none
theorem und (t : Nat) (d : TypeDesc) (h : tyOf t = some d) : Try.prog.underlying t = some d := by
  unfold tyOf at h
  split at h
  · cases h; exact Try.underlying2
  · cases h; exact Try.underlying3
  · cases h; exact Try.underlying4
  · cases h; exact Try.underlying5
  · cases h; exact Try.underlying6
  · cases h; exact Try.underlying9
  · cases h; exact Try.underlying10
  · cases h; exact Try.underlying11
  · cases h; exact Try.underlying12
  · cases h; exact Try.underlying15
  · cases h; exact Try.underlying16
  · cases h; exact Try.underlying17
  · cases h; exact Try.underlying21
  · cases h; exact Try.underlying24
  · cases h; exact Try.underlying27
  · cases h; exact Try.underlying35
  · cases h; exact Try.underlying41
  · cases h; exact Try.underlying51
  · cases h; exact Try.underlying63
  · cases h; exact Try.underlying70
  · cases h; exact Try.underlying72
  · cases h; exact Try.underlying73
  · cases h; exact Try.underlying77
  · cases h; exact Try.underlying80
  · cases h; exact Try.underlying81
  · cases h; exact Try.underlying82
  · cases h; exact Try.underlying84
  · cases h; exact Try.underlying85
  · cases h; exact Try.underlying86
  · cases h; exact Try.underlying98
  · cases h; exact Try.underlying100
  · cases h; exact Try.underlying103
  · cases h; exact Try.underlying104
  · cases h
def szOf : Nat → Option Nat
  | 0 => some 1
  | 1 => some 1
  | 2 => some 1
  | 3 => some 1
  | 4 => some 1
  | 5 => some 1
  | 6 => some 1
  | 7 => some 4
  | 8 => some 4
  | 9 => some 1
  | 10 => some 1
  | 11 => some 1
  | 12 => some 1
  | 13 => some 2
  | 14 => some 2
  | 15 => some 1
  | 16 => some 1
  | 17 => some 1
  | 18 => some 1
  | 19 => some 1
  | 20 => some 1
  | 21 => some 1
  | 22 => some 2
  | 23 => some 2
  | 24 => some 1
  | 25 => some 2
  | 26 => some 2
  | 27 => some 1
  | 28 => some 19
  | 29 => some 19
  | 30 => some 1
  | 31 => some 1
  | 32 => some 1
  | 33 => some 1
  | 34 => some 1
  | 35 => some 1
  | 36 => some 1
  | 37 => some 1
  | 38 => some 1
  | 39 => some 1
  | 40 => some 1
  | 41 => some 64
  | 42 => some 1
  | 43 => some 1
  | 44 => some 1
  | 45 => some 1
  | 46 => some 1
  | 47 => some 1
  | 48 => some 1
  | 49 => some 1
  | 50 => some 1
  | 51 => some 1
  | 52 => some 1
  | 53 => some 1
  | 54 => some 1
  | 55 => some 1
  | 56 => some 1
  | 57 => some 1
  | 58 => some 1
  | 59 => some 1
  | 60 => some 1
  | 61 => some 1
  | 62 => some 1
  | 63 => some 1
  | 64 => some 1
  | 65 => some 1
  | 66 => some 1
  | 67 => some 1
  | 68 => some 1
  | 69 => some 1
  | 70 => some 1
  | 71 => some 1
  | 72 => some 1
  | 73 => some 1
  | 74 => some 1
  | 75 => some 4
  | 76 => some 4
  | 77 => some 0
  | 78 => some 0
  | 79 => some 0
  | 80 => some 1
  | 81 => some 1
  | 82 => some 1
  | 83 => some 1
  | 84 => some 1
  | 85 => some 1
  | 86 => some 1
  | 87 => some 11
  | 88 => some 11
  | 89 => some 1
  | 90 => some 1
  | 91 => some 1
  | 92 => some 1
  | 93 => some 1
  | 94 => some 1
  | 95 => some 2
  | 96 => some 2
  | 97 => some 1
  | 98 => some 1
  | 99 => some 1
  | 100 => some 1
  | 101 => some 5
  | 102 => some 5
  | 103 => some 1
  | 104 => some 1
  | 105 => some 4
  | 106 => some 4
  | _ => none
theorem isz (t n : Nat) (h : szOf t = some n) : (Try.prog.info? t).map (·.size) = some n := by
  unfold szOf at h
  split at h
  · cases h; exact isz0
  · cases h; exact isz1
  · cases h; exact isz2
  · cases h; exact isz3
  · cases h; exact isz4
  · cases h; exact isz5
  · cases h; exact isz6
  · cases h; exact isz7
  · cases h; exact isz8
  · cases h; exact isz9
  · cases h; exact isz10
  · cases h; exact isz11
  · cases h; exact isz12
  · cases h; exact isz13
  · cases h; exact isz14
  · cases h; exact isz15
  · cases h; exact isz16
  · cases h; exact isz17
  · cases h; exact isz18
  · cases h; exact isz19
  · cases h; exact isz20
  · cases h; exact isz21
  · cases h; exact isz22
  · cases h; exact isz23
  · cases h; exact isz24
  · cases h; exact isz25
  · cases h; exact isz26
  · cases h; exact isz27
  · cases h; exact isz28
  · cases h; exact isz29
  · cases h; exact isz30
  · cases h; exact isz31
  · cases h; exact isz32
  · cases h; exact isz33
  · cases h; exact isz34
  · cases h; exact isz35
  · cases h; exact isz36
  · cases h; exact isz37
  · cases h; exact isz38
  · cases h; exact isz39
  · cases h; exact isz40
  · cases h; exact isz41
  · cases h; exact isz42
  · cases h; exact isz43
  · cases h; exact isz44
  · cases h; exact isz45
  · cases h; exact isz46
  · cases h; exact isz47
  · cases h; exact isz48
  · cases h; exact isz49
  · cases h; exact isz50
  · cases h; exact isz51
  · cases h; exact isz52
  · cases h; exact isz53
  · cases h; exact isz54
  · cases h; exact isz55
  · cases h; exact isz56
  · cases h; exact isz57
  · cases h; exact isz58
  · cases h; exact isz59
  · cases h; exact isz60
  · cases h; exact isz61
  · cases h; exact isz62
  · cases h; exact isz63
  · cases h; exact isz64
  · cases h; exact isz65
  · cases h; exact isz66
  · cases h; exact isz67
  · cases h; exact isz68
  · cases h; exact isz69
  · cases h; exact isz70
  · cases h; exact isz71
  · cases h; exact isz72
  · cases h; exact isz73
  · cases h; exact isz74
  · cases h; exact isz75
  · cases h; exact isz76
  · cases h; exact isz77
  · cases h; exact isz78
  · cases h; exact isz79
  · cases h; exact isz80
  · cases h; exact isz81
  · cases h; exact isz82
  · cases h; exact isz83
  · cases h; exact isz84
  · cases h; exact isz85
  · cases h; exact isz86
  · cases h; exact isz87
  · cases h; exact isz88
  · cases h; exact isz89
  · cases h; exact isz90
  · cases h; exact isz91
  · cases h; exact isz92
  · cases h; exact isz93
  · cases h; exact isz94
  · cases h; exact isz95
  · cases h; exact isz96
  · cases h; exact isz97
  · cases h; exact isz98
  · cases h; exact isz99
  · cases h; exact isz100
  · cases h; exact isz101
  · cases h; exact isz102
  · cases h; exact isz103
  · cases h; exact isz104
  · cases h; exact isz105
  · cases h; exact isz106
  · cases h
def ifcOf : Nat → Bool
  | 20 => true
  | 36 => true
  | 37 => true
  | 56 => true
  | 57 => true
  | 64 => true
  | 67 => true
  | 69 => true
  | _ => false
theorem ifc (t : Nat) (h : ifcOf t = true) : ∃ ms, Try.prog.underlying t = some (.interface ms) := by
  unfold ifcOf at h
  split at h
  · exact ⟨_, Try.underlying20⟩
  · exact ⟨_, Try.underlying36⟩
  · exact ⟨_, Try.underlying37⟩
  · exact ⟨_, Try.underlying56⟩
  · exact ⟨_, Try.underlying57⟩
  · exact ⟨_, Try.underlying64⟩
  · exact ⟨_, Try.underlying67⟩
  · exact ⟨_, Try.underlying69⟩
  · cases h
def aggOf : Nat → Bool
  | 7 => true
  | 8 => true
  | 13 => true
  | 14 => true
  | 18 => true
  | 19 => true
  | 22 => true
  | 23 => true
  | 25 => true
  | 26 => true
  | 28 => true
  | 29 => true
  | 41 => true
  | 61 => true
  | 62 => true
  | 75 => true
  | 76 => true
  | 77 => true
  | 78 => true
  | 79 => true
  | 87 => true
  | 88 => true
  | 95 => true
  | 96 => true
  | 101 => true
  | 102 => true
  | 105 => true
  | 106 => true
  | _ => false
theorem agg (t : Nat) (h : aggOf t = true) : (Try.prog.underlying t).map aggB = some true := by
  unfold aggOf at h
  split at h
  · rw [Try.underlying7]; rfl
  · rw [Try.underlying8]; rfl
  · rw [Try.underlying13]; rfl
  · rw [Try.underlying14]; rfl
  · rw [Try.underlying18]; rfl
  · rw [Try.underlying19]; rfl
  · rw [Try.underlying22]; rfl
  · rw [Try.underlying23]; rfl
  · rw [Try.underlying25]; rfl
  · rw [Try.underlying26]; rfl
  · rw [Try.underlying28]; rfl
  · rw [Try.underlying29]; rfl
  · rw [Try.underlying41]; rfl
  · rw [Try.underlying61]; rfl
  · rw [Try.underlying62]; rfl
  · rw [Try.underlying75]; rfl
  · rw [Try.underlying76]; rfl
  · rw [Try.underlying77]; rfl
  · rw [Try.underlying78]; rfl
  · rw [Try.underlying79]; rfl
  · rw [Try.underlying87]; rfl
  · rw [Try.underlying88]; rfl
  · rw [Try.underlying95]; rfl
  · rw [Try.underlying96]; rfl
  · rw [Try.underlying101]; rfl
  · rw [Try.underlying102]; rfl
  · rw [Try.underlying105]; rfl
  · rw [Try.underlying106]; rfl
  · cases h
def conOf : Nat → Bool
  | 2 => true
  | 3 => true
  | 4 => true
  | 5 => true
  | 6 => true
  | 7 => true
  | 8 => true
  | 9 => true
  | 10 => true
  | 11 => true
  | 12 => true
  | 13 => true
  | 14 => true
  | 15 => true
  | 16 => true
  | 17 => true
  | 18 => true
  | 19 => true
  | 21 => true
  | 22 => true
  | 23 => true
  | 24 => true
  | 25 => true
  | 26 => true
  | 27 => true
  | 28 => true
  | 29 => true
  | 35 => true
  | 51 => true
  | 61 => true
  | 62 => true
  | 63 => true
  | 70 => true
  | 72 => true
  | 73 => true
  | 75 => true
  | 76 => true
  | 78 => true
  | 79 => true
  | 80 => true
  | 81 => true
  | 82 => true
  | 84 => true
  | 85 => true
  | 86 => true
  | 87 => true
  | 88 => true
  | 95 => true
  | 96 => true
  | 98 => true
  | 100 => true
  | 101 => true
  | 102 => true
  | 103 => true
  | 104 => true
  | 105 => true
  | 106 => true
  | _ => false
theorem con (t : Nat) (h : conOf t = true) : (Try.prog.underlying t).map concB = some true := by
  unfold conOf at h
  split at h
  · rw [Try.underlying2]; rfl
  · rw [Try.underlying3]; rfl
  · rw [Try.underlying4]; rfl
  · rw [Try.underlying5]; rfl
  · rw [Try.underlying6]; rfl
  · rw [Try.underlying7]; rfl
  · rw [Try.underlying8]; rfl
  · rw [Try.underlying9]; rfl
  · rw [Try.underlying10]; rfl
  · rw [Try.underlying11]; rfl
  · rw [Try.underlying12]; rfl
  · rw [Try.underlying13]; rfl
  · rw [Try.underlying14]; rfl
  · rw [Try.underlying15]; rfl
  · rw [Try.underlying16]; rfl
  · rw [Try.underlying17]; rfl
  · rw [Try.underlying18]; rfl
  · rw [Try.underlying19]; rfl
  · rw [Try.underlying21]; rfl
  · rw [Try.underlying22]; rfl
  · rw [Try.underlying23]; rfl
  · rw [Try.underlying24]; rfl
  · rw [Try.underlying25]; rfl
  · rw [Try.underlying26]; rfl
  · rw [Try.underlying27]; rfl
  · rw [Try.underlying28]; rfl
  · rw [Try.underlying29]; rfl
  · rw [Try.underlying35]; rfl
  · rw [Try.underlying51]; rfl
  · rw [Try.underlying61]; rfl
  · rw [Try.underlying62]; rfl
  · rw [Try.underlying63]; rfl
  · rw [Try.underlying70]; rfl
  · rw [Try.underlying72]; rfl
  · rw [Try.underlying73]; rfl
  · rw [Try.underlying75]; rfl
  · rw [Try.underlying76]; rfl
  · rw [Try.underlying78]; rfl
  · rw [Try.underlying79]; rfl
  · rw [Try.underlying80]; rfl
  · rw [Try.underlying81]; rfl
  · rw [Try.underlying82]; rfl
  · rw [Try.underlying84]; rfl
  · rw [Try.underlying85]; rfl
  · rw [Try.underlying86]; rfl
  · rw [Try.underlying87]; rfl
  · rw [Try.underlying88]; rfl
  · rw [Try.underlying95]; rfl
  · rw [Try.underlying96]; rfl
  · rw [Try.underlying98]; rfl
  · rw [Try.underlying100]; rfl
  · rw [Try.underlying101]; rfl
  · rw [Try.underlying102]; rfl
  · rw [Try.underlying103]; rfl
  · rw [Try.underlying104]; rfl
  · rw [Try.underlying105]; rfl
  · rw [Try.underlying106]; rfl
  · cases h
def fldOf7 : Nat → Option (Nat × Nat)
  | 0 => some (0, 2)
  | 1 => some (1, 3)
  | 2 => some (2, 4)
  | 3 => some (3, 6)
  | _ => none
theorem fld7 (f off ft : Nat) (h : fldOf7 f = some (off, ft)) : Fld Try.prog 7 f off ft := by
  unfold fldOf7 at h
  split at h
  · cases h; exact ⟨_, _, Try.underlying7, rfl, rfl, rfl⟩
  · cases h; exact ⟨_, _, Try.underlying7, rfl, rfl, rfl⟩
  · cases h; exact ⟨_, _, Try.underlying7, rfl, rfl, rfl⟩
  · cases h; exact ⟨_, _, Try.underlying7, rfl, rfl, rfl⟩
  · cases h
def fldOf8 : Nat → Option (Nat × Nat)
  | 0 => some (0, 2)
  | 1 => some (1, 3)
  | 2 => some (2, 4)
  | 3 => some (3, 6)
  | _ => none
theorem fld8 (f off ft : Nat) (h : fldOf8 f = some (off, ft)) : Fld Try.prog 8 f off ft := by
  unfold fldOf8 at h
  split at h
  · cases h; exact ⟨_, _, Try.underlying8, rfl, rfl, rfl⟩
  · cases h; exact ⟨_, _, Try.underlying8, rfl, rfl, rfl⟩
  · cases h; exact ⟨_, _, Try.underlying8, rfl, rfl, rfl⟩
  · cases h; exact ⟨_, _, Try.underlying8, rfl, rfl, rfl⟩
  · cases h
def fldOf13 : Nat → Option (Nat × Nat)
  | 0 => some (0, 9)
  | 1 => some (1, 12)
  | _ => none
theorem fld13 (f off ft : Nat) (h : fldOf13 f = some (off, ft)) : Fld Try.prog 13 f off ft := by
  unfold fldOf13 at h
  split at h
  · cases h; exact ⟨_, _, Try.underlying13, rfl, rfl, rfl⟩
  · cases h; exact ⟨_, _, Try.underlying13, rfl, rfl, rfl⟩
  · cases h
def fldOf14 : Nat → Option (Nat × Nat)
  | 0 => some (0, 9)
  | 1 => some (1, 12)
  | _ => none
theorem fld14 (f off ft : Nat) (h : fldOf14 f = some (off, ft)) : Fld Try.prog 14 f off ft := by
  unfold fldOf14 at h
  split at h
  · cases h; exact ⟨_, _, Try.underlying14, rfl, rfl, rfl⟩
  · cases h; exact ⟨_, _, Try.underlying14, rfl, rfl, rfl⟩
  · cases h
def fldOf18 : Nat → Option (Nat × Nat)
  | 0 => some (0, 17)
  | _ => none
theorem fld18 (f off ft : Nat) (h : fldOf18 f = some (off, ft)) : Fld Try.prog 18 f off ft := by
  unfold fldOf18 at h
  split at h
  · cases h; exact ⟨_, _, Try.underlying18, rfl, rfl, rfl⟩
  · cases h
def fldOf19 : Nat → Option (Nat × Nat)
  | 0 => some (0, 17)
  | _ => none
theorem fld19 (f off ft : Nat) (h : fldOf19 f = some (off, ft)) : Fld Try.prog 19 f off ft := by
  unfold fldOf19 at h
  split at h
  · cases h; exact ⟨_, _, Try.underlying19, rfl, rfl, rfl⟩
  · cases h
def fldOf22 : Nat → Option (Nat × Nat)
  | 0 => some (0, 3)
  | 1 => some (1, 3)
  | _ => none
theorem fld22 (f off ft : Nat) (h : fldOf22 f = some (off, ft)) : Fld Try.prog 22 f off ft := by
  unfold fldOf22 at h
  split at h
  · cases h; exact ⟨_, _, Try.underlying22, rfl, rfl, rfl⟩
  · cases h; exact ⟨_, _, Try.underlying22, rfl, rfl, rfl⟩
  · cases h
def fldOf23 : Nat → Option (Nat × Nat)
  | 0 => some (0, 3)
  | 1 => some (1, 3)
  | _ => none
theorem fld23 (f off ft : Nat) (h : fldOf23 f = some (off, ft)) : Fld Try.prog 23 f off ft := by
  unfold fldOf23 at h
  split at h
  · cases h; exact ⟨_, _, Try.underlying23, rfl, rfl, rfl⟩
  · cases h; exact ⟨_, _, Try.underlying23, rfl, rfl, rfl⟩
  · cases h
def fldOf25 : Nat → Option (Nat × Nat)
  | 0 => some (0, 2)
  | 1 => some (1, 2)
  | _ => none
theorem fld25 (f off ft : Nat) (h : fldOf25 f = some (off, ft)) : Fld Try.prog 25 f off ft := by
  unfold fldOf25 at h
  split at h
  · cases h; exact ⟨_, _, Try.underlying25, rfl, rfl, rfl⟩
  · cases h; exact ⟨_, _, Try.underlying25, rfl, rfl, rfl⟩
  · cases h
def fldOf26 : Nat → Option (Nat × Nat)
  | 0 => some (0, 2)
  | 1 => some (1, 2)
  | _ => none
theorem fld26 (f off ft : Nat) (h : fldOf26 f = some (off, ft)) : Fld Try.prog 26 f off ft := by
  unfold fldOf26 at h
  split at h
  · cases h; exact ⟨_, _, Try.underlying26, rfl, rfl, rfl⟩
  · cases h; exact ⟨_, _, Try.underlying26, rfl, rfl, rfl⟩
  · cases h
def fldOf28 : Nat → Option (Nat × Nat)
  | 0 => some (0, 23)
  | 1 => some (2, 9)
  | 2 => some (3, 3)
  | 3 => some (4, 24)
  | 4 => some (5, 3)
  | 5 => some (6, 3)
  | 6 => some (7, 4)
  | 7 => some (8, 4)
  | 8 => some (9, 26)
  | 9 => some (11, 26)
  | 10 => some (13, 26)
  | 11 => some (15, 26)
  | 12 => some (17, 9)
  | 13 => some (18, 27)
  | _ => none
theorem fld28 (f off ft : Nat) (h : fldOf28 f = some (off, ft)) : Fld Try.prog 28 f off ft := by
  unfold fldOf28 at h
  split at h
  · cases h; exact ⟨_, _, Try.underlying28, rfl, rfl, rfl⟩
  · cases h; exact ⟨_, _, Try.underlying28, rfl, rfl, rfl⟩
  · cases h; exact ⟨_, _, Try.underlying28, rfl, rfl, rfl⟩
  · cases h; exact ⟨_, _, Try.underlying28, rfl, rfl, rfl⟩
  · cases h; exact ⟨_, _, Try.underlying28, rfl, rfl, rfl⟩
  · cases h; exact ⟨_, _, Try.underlying28, rfl, rfl, rfl⟩
  · cases h; exact ⟨_, _, Try.underlying28, rfl, rfl, rfl⟩
  · cases h; exact ⟨_, _, Try.underlying28, rfl, rfl, rfl⟩
  · cases h; exact ⟨_, _, Try.underlying28, rfl, rfl, rfl⟩
  · cases h; exact ⟨_, _, Try.underlying28, rfl, rfl, rfl⟩
  · cases h; exact ⟨_, _, Try.underlying28, rfl, rfl, rfl⟩
  · cases h; exact ⟨_, _, Try.underlying28, rfl, rfl, rfl⟩
  · cases h; exact ⟨_, _, Try.underlying28, rfl, rfl, rfl⟩
  · cases h; exact ⟨_, _, Try.underlying28, rfl, rfl, rfl⟩
  · cases h
def fldOf29 : Nat → Option (Nat × Nat)
  | 0 => some (0, 23)
  | 1 => some (2, 9)
  | 2 => some (3, 3)
  | 3 => some (4, 24)
  | 4 => some (5, 3)
  | 5 => some (6, 3)
  | 6 => some (7, 4)
  | 7 => some (8, 4)
  | 8 => some (9, 26)
  | 9 => some (11, 26)
  | 10 => some (13, 26)
  | 11 => some (15, 26)
  | 12 => some (17, 9)
  | 13 => some (18, 27)
  | _ => none
theorem fld29 (f off ft : Nat) (h : fldOf29 f = some (off, ft)) : Fld Try.prog 29 f off ft := by
  unfold fldOf29 at h
  split at h
  · cases h; exact ⟨_, _, Try.underlying29, rfl, rfl, rfl⟩
  · cases h; exact ⟨_, _, Try.underlying29, rfl, rfl, rfl⟩
  · cases h; exact ⟨_, _, Try.underlying29, rfl, rfl, rfl⟩
  · cases h; exact ⟨_, _, Try.underlying29, rfl, rfl, rfl⟩
  · cases h; exact ⟨_, _, Try.underlying29, rfl, rfl, rfl⟩
  · cases h; exact ⟨_, _, Try.underlying29, rfl, rfl, rfl⟩
  · cases h; exact ⟨_, _, Try.underlying29, rfl, rfl, rfl⟩
  · cases h; exact ⟨_, _, Try.underlying29, rfl, rfl, rfl⟩
  · cases h; exact ⟨_, _, Try.underlying29, rfl, rfl, rfl⟩
  · cases h; exact ⟨_, _, Try.underlying29, rfl, rfl, rfl⟩
  · cases h; exact ⟨_, _, Try.underlying29, rfl, rfl, rfl⟩
  · cases h; exact ⟨_, _, Try.underlying29, rfl, rfl, rfl⟩
  · cases h; exact ⟨_, _, Try.underlying29, rfl, rfl, rfl⟩
  · cases h; exact ⟨_, _, Try.underlying29, rfl, rfl, rfl⟩
  · cases h
def fldOf61 : Nat → Option (Nat × Nat)
  | 0 => some (0, 17)
  | _ => none
theorem fld61 (f off ft : Nat) (h : fldOf61 f = some (off, ft)) : Fld Try.prog 61 f off ft := by
  unfold fldOf61 at h
  split at h
  · cases h; exact ⟨_, _, Try.underlying61, rfl, rfl, rfl⟩
  · cases h
def fldOf62 : Nat → Option (Nat × Nat)
  | 0 => some (0, 17)
  | _ => none
theorem fld62 (f off ft : Nat) (h : fldOf62 f = some (off, ft)) : Fld Try.prog 62 f off ft := by
  unfold fldOf62 at h
  split at h
  · cases h; exact ⟨_, _, Try.underlying62, rfl, rfl, rfl⟩
  · cases h
def fldOf75 : Nat → Option (Nat × Nat)
  | 0 => some (0, 17)
  | 1 => some (1, 17)
  | 2 => some (2, 17)
  | 3 => some (3, 9)
  | _ => none
theorem fld75 (f off ft : Nat) (h : fldOf75 f = some (off, ft)) : Fld Try.prog 75 f off ft := by
  unfold fldOf75 at h
  split at h
  · cases h; exact ⟨_, _, Try.underlying75, rfl, rfl, rfl⟩
  · cases h; exact ⟨_, _, Try.underlying75, rfl, rfl, rfl⟩
  · cases h; exact ⟨_, _, Try.underlying75, rfl, rfl, rfl⟩
  · cases h; exact ⟨_, _, Try.underlying75, rfl, rfl, rfl⟩
  · cases h
def fldOf76 : Nat → Option (Nat × Nat)
  | 0 => some (0, 17)
  | 1 => some (1, 17)
  | 2 => some (2, 17)
  | 3 => some (3, 9)
  | _ => none
theorem fld76 (f off ft : Nat) (h : fldOf76 f = some (off, ft)) : Fld Try.prog 76 f off ft := by
  unfold fldOf76 at h
  split at h
  · cases h; exact ⟨_, _, Try.underlying76, rfl, rfl, rfl⟩
  · cases h; exact ⟨_, _, Try.underlying76, rfl, rfl, rfl⟩
  · cases h; exact ⟨_, _, Try.underlying76, rfl, rfl, rfl⟩
  · cases h; exact ⟨_, _, Try.underlying76, rfl, rfl, rfl⟩
  · cases h
def fldOf78 : Nat → Option (Nat × Nat)
  | 0 => some (0, 77)
  | _ => none
theorem fld78 (f off ft : Nat) (h : fldOf78 f = some (off, ft)) : Fld Try.prog 78 f off ft := by
  unfold fldOf78 at h
  split at h
  · cases h; exact ⟨_, _, Try.underlying78, rfl, rfl, rfl⟩
  · cases h
def fldOf79 : Nat → Option (Nat × Nat)
  | 0 => some (0, 77)
  | _ => none
theorem fld79 (f off ft : Nat) (h : fldOf79 f = some (off, ft)) : Fld Try.prog 79 f off ft := by
  unfold fldOf79 at h
  split at h
  · cases h; exact ⟨_, _, Try.underlying79, rfl, rfl, rfl⟩
  · cases h
def fldOf87 : Nat → Option (Nat × Nat)
  | 0 => some (0, 12)
  | 1 => some (1, 12)
  | 2 => some (2, 80)
  | 3 => some (3, 81)
  | 4 => some (4, 5)
  | 5 => some (5, 5)
  | 6 => some (6, 82)
  | 7 => some (7, 83)
  | 8 => some (8, 84)
  | 9 => some (9, 85)
  | 10 => some (10, 86)
  | _ => none
theorem fld87 (f off ft : Nat) (h : fldOf87 f = some (off, ft)) : Fld Try.prog 87 f off ft := by
  unfold fldOf87 at h
  split at h
  · cases h; exact ⟨_, _, Try.underlying87, rfl, rfl, rfl⟩
  · cases h; exact ⟨_, _, Try.underlying87, rfl, rfl, rfl⟩
  · cases h; exact ⟨_, _, Try.underlying87, rfl, rfl, rfl⟩
  · cases h; exact ⟨_, _, Try.underlying87, rfl, rfl, rfl⟩
  · cases h; exact ⟨_, _, Try.underlying87, rfl, rfl, rfl⟩
  · cases h; exact ⟨_, _, Try.underlying87, rfl, rfl, rfl⟩
  · cases h; exact ⟨_, _, Try.underlying87, rfl, rfl, rfl⟩
  · cases h; exact ⟨_, _, Try.underlying87, rfl, rfl, rfl⟩
  · cases h; exact ⟨_, _, Try.underlying87, rfl, rfl, rfl⟩
  · cases h; exact ⟨_, _, Try.underlying87, rfl, rfl, rfl⟩
  · cases h; exact ⟨_, _, Try.underlying87, rfl, rfl, rfl⟩
  · cases h
def fldOf88 : Nat → Option (Nat × Nat)
  | 0 => some (0, 12)
  | 1 => some (1, 12)
  | 2 => some (2, 80)
  | 3 => some (3, 81)
  | 4 => some (4, 5)
  | 5 => some (5, 5)
  | 6 => some (6, 82)
  | 7 => some (7, 83)
  | 8 => some (8, 84)
  | 9 => some (9, 85)
  | 10 => some (10, 86)
  | _ => none
theorem fld88 (f off ft : Nat) (h : fldOf88 f = some (off, ft)) : Fld Try.prog 88 f off ft := by
  unfold fldOf88 at h
  split at h
  · cases h; exact ⟨_, _, Try.underlying88, rfl, rfl, rfl⟩
  · cases h; exact ⟨_, _, Try.underlying88, rfl, rfl, rfl⟩
  · cases h; exact ⟨_, _, Try.underlying88, rfl, rfl, rfl⟩
  · cases h; exact ⟨_, _, Try.underlying88, rfl, rfl, rfl⟩
  · cases h; exact ⟨_, _, Try.underlying88, rfl, rfl, rfl⟩
  · cases h; exact ⟨_, _, Try.underlying88, rfl, rfl, rfl⟩
  · cases h; exact ⟨_, _, Try.underlying88, rfl, rfl, rfl⟩
  · cases h; exact ⟨_, _, Try.underlying88, rfl, rfl, rfl⟩
  · cases h; exact ⟨_, _, Try.underlying88, rfl, rfl, rfl⟩
  · cases h; exact ⟨_, _, Try.underlying88, rfl, rfl, rfl⟩
  · cases h; exact ⟨_, _, Try.underlying88, rfl, rfl, rfl⟩
  · cases h
def fldOf95 : Nat → Option (Nat × Nat)
  | 0 => some (0, 9)
  | 1 => some (1, 82)
  | _ => none
theorem fld95 (f off ft : Nat) (h : fldOf95 f = some (off, ft)) : Fld Try.prog 95 f off ft := by
  unfold fldOf95 at h
  split at h
  · cases h; exact ⟨_, _, Try.underlying95, rfl, rfl, rfl⟩
  · cases h; exact ⟨_, _, Try.underlying95, rfl, rfl, rfl⟩
  · cases h
def fldOf96 : Nat → Option (Nat × Nat)
  | 0 => some (0, 9)
  | 1 => some (1, 82)
  | _ => none
theorem fld96 (f off ft : Nat) (h : fldOf96 f = some (off, ft)) : Fld Try.prog 96 f off ft := by
  unfold fldOf96 at h
  split at h
  · cases h; exact ⟨_, _, Try.underlying96, rfl, rfl, rfl⟩
  · cases h; exact ⟨_, _, Try.underlying96, rfl, rfl, rfl⟩
  · cases h
def fldOf101 : Nat → Option (Nat × Nat)
  | 0 => some (0, 85)
  | 1 => some (1, 100)
  | 2 => some (2, 100)
  | 3 => some (3, 80)
  | 4 => some (4, 80)
  | _ => none
theorem fld101 (f off ft : Nat) (h : fldOf101 f = some (off, ft)) : Fld Try.prog 101 f off ft := by
  unfold fldOf101 at h
  split at h
  · cases h; exact ⟨_, _, Try.underlying101, rfl, rfl, rfl⟩
  · cases h; exact ⟨_, _, Try.underlying101, rfl, rfl, rfl⟩
  · cases h; exact ⟨_, _, Try.underlying101, rfl, rfl, rfl⟩
  · cases h; exact ⟨_, _, Try.underlying101, rfl, rfl, rfl⟩
  · cases h; exact ⟨_, _, Try.underlying101, rfl, rfl, rfl⟩
  · cases h
def fldOf102 : Nat → Option (Nat × Nat)
  | 0 => some (0, 85)
  | 1 => some (1, 100)
  | 2 => some (2, 100)
  | 3 => some (3, 80)
  | 4 => some (4, 80)
  | _ => none
theorem fld102 (f off ft : Nat) (h : fldOf102 f = some (off, ft)) : Fld Try.prog 102 f off ft := by
  unfold fldOf102 at h
  split at h
  · cases h; exact ⟨_, _, Try.underlying102, rfl, rfl, rfl⟩
  · cases h; exact ⟨_, _, Try.underlying102, rfl, rfl, rfl⟩
  · cases h; exact ⟨_, _, Try.underlying102, rfl, rfl, rfl⟩
  · cases h; exact ⟨_, _, Try.underlying102, rfl, rfl, rfl⟩
  · cases h; exact ⟨_, _, Try.underlying102, rfl, rfl, rfl⟩
  · cases h
def fldOf105 : Nat → Option (Nat × Nat)
  | 0 => some (0, 85)
  | 1 => some (1, 86)
  | 2 => some (2, 104)
  | 3 => some (3, 104)
  | _ => none
theorem fld105 (f off ft : Nat) (h : fldOf105 f = some (off, ft)) : Fld Try.prog 105 f off ft := by
  unfold fldOf105 at h
  split at h
  · cases h; exact ⟨_, _, Try.underlying105, rfl, rfl, rfl⟩
  · cases h; exact ⟨_, _, Try.underlying105, rfl, rfl, rfl⟩
  · cases h; exact ⟨_, _, Try.underlying105, rfl, rfl, rfl⟩
  · cases h; exact ⟨_, _, Try.underlying105, rfl, rfl, rfl⟩
  · cases h
def fldOf106 : Nat → Option (Nat × Nat)
  | 0 => some (0, 85)
  | 1 => some (1, 86)
  | 2 => some (2, 104)
  | 3 => some (3, 104)
  | _ => none
theorem fld106 (f off ft : Nat) (h : fldOf106 f = some (off, ft)) : Fld Try.prog 106 f off ft := by
  unfold fldOf106 at h
  split at h
  · cases h; exact ⟨_, _, Try.underlying106, rfl, rfl, rfl⟩
  · cases h; exact ⟨_, _, Try.underlying106, rfl, rfl, rfl⟩
  · cases h; exact ⟨_, _, Try.underlying106, rfl, rfl, rfl⟩
  · cases h; exact ⟨_, _, Try.underlying106, rfl, rfl, rfl⟩
  · cases h
def fldOf (t f : Nat) : Option (Nat × Nat) :=
  match t with
  | 7 => fldOf7 f
  | 8 => fldOf8 f
  | 13 => fldOf13 f
  | 14 => fldOf14 f
  | 18 => fldOf18 f
  | 19 => fldOf19 f
  | 22 => fldOf22 f
  | 23 => fldOf23 f
  | 25 => fldOf25 f
  | 26 => fldOf26 f
  | 28 => fldOf28 f
  | 29 => fldOf29 f
  | 61 => fldOf61 f
  | 62 => fldOf62 f
  | 75 => fldOf75 f
  | 76 => fldOf76 f
  | 78 => fldOf78 f
  | 79 => fldOf79 f
  | 87 => fldOf87 f
  | 88 => fldOf88 f
  | 95 => fldOf95 f
  | 96 => fldOf96 f
  | 101 => fldOf101 f
  | 102 => fldOf102 f
  | 105 => fldOf105 f
  | 106 => fldOf106 f
  | _ => none
theorem fld (t f off ft : Nat) (h : fldOf t f = some (off, ft)) : Fld Try.prog t f off ft := by
  unfold fldOf at h
  split at h
  · exact fld7 _ _ _ h
  · exact fld8 _ _ _ h
  · exact fld13 _ _ _ h
  · exact fld14 _ _ _ h
  · exact fld18 _ _ _ h
  · exact fld19 _ _ _ h
  · exact fld22 _ _ _ h
  · exact fld23 _ _ _ h
  · exact fld25 _ _ _ h
  · exact fld26 _ _ _ h
  · exact fld28 _ _ _ h
  · exact fld29 _ _ _ h
  · exact fld61 _ _ _ h
  · exact fld62 _ _ _ h
  · exact fld75 _ _ _ h
  · exact fld76 _ _ _ h
  · exact fld78 _ _ _ h
  · exact fld79 _ _ _ h
  · exact fld87 _ _ _ h
  · exact fld88 _ _ _ h
  · exact fld95 _ _ _ h
  · exact fld96 _ _ _ h
  · exact fld101 _ _ _ h
  · exact fld102 _ _ _ h
  · exact fld105 _ _ _ h
  · exact fld106 _ _ _ h
  · cases h
/-- busbar/busbarlaw08.PlaceWithin -/
theorem cal3 : Callable Try.prog 3 := ⟨⟨_, Try.func3, by kernel_rfl, by kernel_rfl⟩⟩
/-- busbar/busbarlaw08.PlaceLonger -/
theorem cal4 : Callable Try.prog 4 := ⟨⟨_, Try.func4, by kernel_rfl, by kernel_rfl⟩⟩
/-- busbar/busbarlaw08.PlaceRow -/
theorem cal5 : Callable Try.prog 5 := ⟨⟨_, Try.func5, by kernel_rfl, by kernel_rfl⟩⟩
/-- busbar/busbarlaw08.PlaceMirrored -/
theorem cal6 : Callable Try.prog 6 := ⟨⟨_, Try.func6, by kernel_rfl, by kernel_rfl⟩⟩
/-- busbar/busbarkit.LentSignal -/
theorem cal7 : Callable Try.prog 7 := ⟨⟨_, Try.func7, by kernel_rfl, by kernel_rfl⟩⟩
/-- busbar/place.Within -/
theorem cal8 : Callable Try.prog 8 := ⟨⟨_, Try.func8, by kernel_rfl, by kernel_rfl⟩⟩
/-- busbar/busbarref08.Within -/
theorem cal9 : Callable Try.prog 9 := ⟨⟨_, Try.func9, by kernel_rfl, by kernel_rfl⟩⟩
/-- busbar/busbarkit.KeptSignal -/
theorem cal10 : Callable Try.prog 10 := ⟨⟨_, Try.func10, by kernel_rfl, by kernel_rfl⟩⟩
/-- busbar/busbarkit.Pick -/
theorem cal11 : Callable Try.prog 11 := ⟨⟨_, Try.func11, by kernel_rfl, by kernel_rfl⟩⟩
/-- busbar/busbarlaw08.works -/
theorem cal12 : Callable Try.prog 12 := ⟨⟨_, Try.func12, by kernel_rfl, by kernel_rfl⟩⟩
/-- busbar/place.Bits -/
theorem cal13 : Callable Try.prog 13 := ⟨⟨_, Try.func13, by kernel_rfl, by kernel_rfl⟩⟩
/-- busbar/busbarkit.Num -/
theorem cal14 : Callable Try.prog 14 := ⟨⟨_, Try.func14, by kernel_rfl, by kernel_rfl⟩⟩
/-- busbar/busbarref0.SameInts -/
theorem cal15 : Callable Try.prog 15 := ⟨⟨_, Try.func15, by kernel_rfl, by kernel_rfl⟩⟩
/-- busbar/busbarlaw08.mirror -/
theorem cal16 : Callable Try.prog 16 := ⟨⟨_, Try.func16, by kernel_rfl, by kernel_rfl⟩⟩
/-- busbar/busbarkit.LentTexts -/
theorem cal17 : Callable Try.prog 17 := ⟨⟨_, Try.func17, by kernel_rfl, by kernel_rfl⟩⟩
/-- slices.Max[[]int,int] -/
theorem cal18 : Callable Try.prog 18 := ⟨⟨_, Try.func18, by kernel_rfl, by kernel_rfl⟩⟩
/-- busbar/busbarref08.Bits -/
theorem cal19 : Callable Try.prog 19 := ⟨⟨_, Try.func19, by kernel_rfl, by kernel_rfl⟩⟩
/-- busbar/busbarkit.KeptTexts -/
theorem cal20 : Callable Try.prog 20 := ⟨⟨_, Try.func20, by kernel_rfl, by kernel_rfl⟩⟩
/-- busbar/place.counter -/
theorem cal21 : Callable Try.prog 21 := ⟨⟨_, Try.func21, by kernel_rfl, by kernel_rfl⟩⟩
/-- slices.Reverse[[]int,int] -/
theorem cal22 : Callable Try.prog 22 := ⟨⟨_, Try.func22, by kernel_rfl, by kernel_rfl⟩⟩
/-- errors.Is -/
theorem cal23 : Callable Try.prog 23 := ⟨⟨_, Try.func23, by kernel_rfl, by kernel_rfl⟩⟩
/-- busbar/busbarkit.FullTexts -/
theorem cal24 : Callable Try.prog 24 := ⟨⟨_, Try.func24, by kernel_rfl, by kernel_rfl⟩⟩
/-- busbar/busbarref08.Next -/
theorem cal25 : Callable Try.prog 25 := ⟨⟨_, Try.func25, by kernel_rfl, by kernel_rfl⟩⟩
/-- busbar/busbarkit.KeptFullTexts -/
theorem cal26 : Callable Try.prog 26 := ⟨⟨_, Try.func26, by kernel_rfl, by kernel_rfl⟩⟩
/-- busbar/place.counter$1 -/
theorem cal27 : Callable Try.prog 27 := ⟨⟨_, Try.func27, by kernel_rfl, by kernel_rfl⟩⟩
/-- errors.is -/
theorem cal29 : Callable Try.prog 29 := ⟨⟨_, Try.func29, by kernel_rfl, by kernel_rfl⟩⟩
/-- busbar/busbarkit.markTexts -/
theorem cal30 : Callable Try.prog 30 := ⟨⟨_, Try.func30, by kernel_rfl, by kernel_rfl⟩⟩
/-- busbar/busbarkit.MarkText -/
theorem cal31 : Callable Try.prog 31 := ⟨⟨_, Try.func31, by kernel_rfl, by kernel_rfl⟩⟩
end Go.Proofs.Ytbindknkjbckhaa
