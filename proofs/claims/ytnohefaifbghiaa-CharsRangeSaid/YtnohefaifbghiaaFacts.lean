/- Facts of the seat's tables: each type's size and zero, each function's call. Written by my own gen.py off the translation's rows. -/
import Derived.Test.YtnohefaifbghiaaProg
import Derived.Test.YtnohefaifbghiaaReg
import Derived.KernelRfl
namespace Go.Proofs.Ytnohefaifbghiaa
theorem mixed : Try.prog.follows .mixedOrders = true := by kernel_rfl
theorem isz0 : (Try.prog.info? 0).map (·.size) = some 1 := by kernel_rfl
theorem inf0 : (Try.prog.info? 0).map (fun i => (i.zero, i.size, i.bytes)) = some (some (.tuple #[]), 1, 0) := by kernel_rfl
theorem isz1 : (Try.prog.info? 1).map (·.size) = some 1 := by kernel_rfl
theorem inf1 : (Try.prog.info? 1).map (fun i => (i.zero, i.size, i.bytes)) = some (some (.nilFunc), 1, 8) := by kernel_rfl
theorem isz2 : (Try.prog.info? 2).map (·.size) = some 1 := by kernel_rfl
theorem inf2 : (Try.prog.info? 2).map (fun i => (i.zero, i.size, i.bytes)) = some (some (.int .i64 0), 1, 8) := by kernel_rfl
theorem isz3 : (Try.prog.info? 3).map (·.size) = some 1 := by kernel_rfl
theorem inf3 : (Try.prog.info? 3).map (fun i => (i.zero, i.size, i.bytes)) = some (some (.int .i64 0), 1, 8) := by kernel_rfl
theorem isz4 : (Try.prog.info? 4).map (·.size) = some 1 := by kernel_rfl
theorem inf4 : (Try.prog.info? 4).map (fun i => (i.zero, i.size, i.bytes)) = some (some (.bool false), 1, 1) := by kernel_rfl
theorem isz5 : (Try.prog.info? 5).map (·.size) = some 1 := by kernel_rfl
theorem inf5 : (Try.prog.info? 5).map (fun i => (i.zero, i.size, i.bytes)) = some (some (.int .u8 0), 1, 1) := by kernel_rfl
theorem isz6 : (Try.prog.info? 6).map (·.size) = some 1 := by kernel_rfl
theorem inf6 : (Try.prog.info? 6).map (fun i => (i.zero, i.size, i.bytes)) = some (some (.int .u8 0), 1, 1) := by kernel_rfl
theorem isz7 : (Try.prog.info? 7).map (·.size) = some 4 := by kernel_rfl
theorem inf7 : (Try.prog.info? 7).map (fun i => (i.zero, i.size, i.bytes)) = some (some (.agg #[.int .i64 0, .int .i64 0, .bool false, .int .u8 0]), 4, 24) := by kernel_rfl
theorem isz8 : (Try.prog.info? 8).map (·.size) = some 4 := by kernel_rfl
theorem inf8 : (Try.prog.info? 8).map (fun i => (i.zero, i.size, i.bytes)) = some (some (.agg #[.int .i64 0, .int .i64 0, .bool false, .int .u8 0]), 4, 24) := by kernel_rfl
theorem isz9 : (Try.prog.info? 9).map (·.size) = some 1 := by kernel_rfl
theorem inf9 : (Try.prog.info? 9).map (fun i => (i.zero, i.size, i.bytes)) = some (some (.string ⟨#[]⟩), 1, 16) := by kernel_rfl
theorem isz10 : (Try.prog.info? 10).map (·.size) = some 1 := by kernel_rfl
theorem inf10 : (Try.prog.info? 10).map (fun i => (i.zero, i.size, i.bytes)) = some (some (.string ⟨#[]⟩), 1, 16) := by kernel_rfl
theorem isz11 : (Try.prog.info? 11).map (·.size) = some 1 := by kernel_rfl
theorem inf11 : (Try.prog.info? 11).map (fun i => (i.zero, i.size, i.bytes)) = some (some (.string ⟨#[]⟩), 1, 16) := by kernel_rfl
theorem isz12 : (Try.prog.info? 12).map (·.size) = some 1 := by kernel_rfl
theorem inf12 : (Try.prog.info? 12).map (fun i => (i.zero, i.size, i.bytes)) = some (some (.int .u64 0), 1, 8) := by kernel_rfl
theorem isz13 : (Try.prog.info? 13).map (·.size) = some 2 := by kernel_rfl
theorem inf13 : (Try.prog.info? 13).map (fun i => (i.zero, i.size, i.bytes)) = some (some (.agg #[.string ⟨#[]⟩, .int .u64 0]), 2, 24) := by kernel_rfl
theorem isz14 : (Try.prog.info? 14).map (·.size) = some 2 := by kernel_rfl
theorem inf14 : (Try.prog.info? 14).map (fun i => (i.zero, i.size, i.bytes)) = some (some (.agg #[.string ⟨#[]⟩, .int .u64 0]), 2, 24) := by kernel_rfl
theorem isz15 : (Try.prog.info? 15).map (·.size) = some 1 := by kernel_rfl
theorem inf15 : (Try.prog.info? 15).map (fun i => (i.zero, i.size, i.bytes)) = some (some (.pointer none), 1, 8) := by kernel_rfl
theorem isz16 : (Try.prog.info? 16).map (·.size) = some 1 := by kernel_rfl
theorem inf16 : (Try.prog.info? 16).map (fun i => (i.zero, i.size, i.bytes)) = some (some (.pointer none), 1, 8) := by kernel_rfl
theorem isz17 : (Try.prog.info? 17).map (·.size) = some 1 := by kernel_rfl
theorem inf17 : (Try.prog.info? 17).map (fun i => (i.zero, i.size, i.bytes)) = some (some (.pointer none), 1, 8) := by kernel_rfl
theorem isz18 : (Try.prog.info? 18).map (·.size) = some 1 := by kernel_rfl
theorem inf18 : (Try.prog.info? 18).map (fun i => (i.zero, i.size, i.bytes)) = some (some (.agg #[.pointer none]), 1, 8) := by kernel_rfl
theorem isz19 : (Try.prog.info? 19).map (·.size) = some 1 := by kernel_rfl
theorem inf19 : (Try.prog.info? 19).map (fun i => (i.zero, i.size, i.bytes)) = some (some (.agg #[.pointer none]), 1, 8) := by kernel_rfl
theorem isz20 : (Try.prog.info? 20).map (·.size) = some 1 := by kernel_rfl
theorem inf20 : (Try.prog.info? 20).map (fun i => (i.zero, i.size, i.bytes)) = some (some (.nilIface), 1, 16) := by kernel_rfl
theorem isz21 : (Try.prog.info? 21).map (·.size) = some 1 := by kernel_rfl
theorem inf21 : (Try.prog.info? 21).map (fun i => (i.zero, i.size, i.bytes)) = some (some (.int .i32 0), 1, 4) := by kernel_rfl
theorem isz22 : (Try.prog.info? 22).map (·.size) = some 1 := by kernel_rfl
theorem inf22 : (Try.prog.info? 22).map (fun i => (i.zero, i.size, i.bytes)) = some (some (.nilFunc), 1, 8) := by kernel_rfl
theorem isz23 : (Try.prog.info? 23).map (·.size) = some 1 := by kernel_rfl
theorem inf23 : (Try.prog.info? 23).map (fun i => (i.zero, i.size, i.bytes)) = some (some (.slice none 0 0), 1, 24) := by kernel_rfl
theorem isz24 : (Try.prog.info? 24).map (·.size) = some 1 := by kernel_rfl
theorem inf24 : (Try.prog.info? 24).map (fun i => (i.zero, i.size, i.bytes)) = some (some (.nilFunc), 1, 8) := by kernel_rfl
theorem isz25 : (Try.prog.info? 25).map (·.size) = some 1 := by kernel_rfl
theorem inf25 : (Try.prog.info? 25).map (fun i => (i.zero, i.size, i.bytes)) = some (some (.nilFunc), 1, 8) := by kernel_rfl
theorem isz26 : (Try.prog.info? 26).map (·.size) = some 1 := by kernel_rfl
theorem inf26 : (Try.prog.info? 26).map (fun i => (i.zero, i.size, i.bytes)) = some (some (.nilFunc), 1, 8) := by kernel_rfl
theorem isz27 : (Try.prog.info? 27).map (·.size) = some 1 := by kernel_rfl
theorem inf27 : (Try.prog.info? 27).map (fun i => (i.zero, i.size, i.bytes)) = some (some (.nilFunc), 1, 8) := by kernel_rfl
theorem isz28 : (Try.prog.info? 28).map (·.size) = some 2 := by kernel_rfl
theorem inf28 : (Try.prog.info? 28).map (fun i => (i.zero, i.size, i.bytes)) = some (some (.agg #[.int .i64 0, .int .i64 0]), 2, 16) := by kernel_rfl
theorem isz29 : (Try.prog.info? 29).map (·.size) = some 2 := by kernel_rfl
theorem inf29 : (Try.prog.info? 29).map (fun i => (i.zero, i.size, i.bytes)) = some (some (.agg #[.int .i64 0, .int .i64 0]), 2, 16) := by kernel_rfl
theorem isz30 : (Try.prog.info? 30).map (·.size) = some 5 := by kernel_rfl
theorem inf30 : (Try.prog.info? 30).map (fun i => (i.zero, i.size, i.bytes)) = some (some (.agg #[.int .i64 0, .int .i64 0, .int .i32 0, .int .i64 0, .bool false]), 5, 40) := by kernel_rfl
theorem isz31 : (Try.prog.info? 31).map (·.size) = some 5 := by kernel_rfl
theorem inf31 : (Try.prog.info? 31).map (fun i => (i.zero, i.size, i.bytes)) = some (some (.agg #[.int .i64 0, .int .i64 0, .int .i32 0, .int .i64 0, .bool false]), 5, 40) := by kernel_rfl
theorem isz32 : (Try.prog.info? 32).map (·.size) = some 1 := by kernel_rfl
theorem inf32 : (Try.prog.info? 32).map (fun i => (i.zero, i.size, i.bytes)) = some (some (.nilFunc), 1, 8) := by kernel_rfl
theorem isz33 : (Try.prog.info? 33).map (·.size) = some 1 := by kernel_rfl
theorem inf33 : (Try.prog.info? 33).map (fun i => (i.zero, i.size, i.bytes)) = some (some (.nilFunc), 1, 8) := by kernel_rfl
theorem isz34 : (Try.prog.info? 34).map (·.size) = some 1 := by kernel_rfl
theorem inf34 : (Try.prog.info? 34).map (fun i => (i.zero, i.size, i.bytes)) = some (some (.nilFunc), 1, 8) := by kernel_rfl
theorem isz35 : (Try.prog.info? 35).map (·.size) = some 1 := by kernel_rfl
theorem inf35 : (Try.prog.info? 35).map (fun i => (i.zero, i.size, i.bytes)) = some (some (.slice none 0 0), 1, 24) := by kernel_rfl
theorem isz36 : (Try.prog.info? 36).map (·.size) = some 1 := by kernel_rfl
theorem inf36 : (Try.prog.info? 36).map (fun i => (i.zero, i.size, i.bytes)) = some (some (.nilFunc), 1, 8) := by kernel_rfl
theorem isz37 : (Try.prog.info? 37).map (·.size) = some 1 := by kernel_rfl
theorem inf37 : (Try.prog.info? 37).map (fun i => (i.zero, i.size, i.bytes)) = some (some (.nilFunc), 1, 8) := by kernel_rfl
theorem isz38 : (Try.prog.info? 38).map (·.size) = some 1 := by kernel_rfl
theorem inf38 : (Try.prog.info? 38).map (fun i => (i.zero, i.size, i.bytes)) = some (some (.pointer none), 1, 8) := by kernel_rfl
theorem isz39 : (Try.prog.info? 39).map (·.size) = some 1 := by kernel_rfl
theorem inf39 : (Try.prog.info? 39).map (fun i => (i.zero, i.size, i.bytes)) = some (some (.nilFunc), 1, 8) := by kernel_rfl
theorem isz40 : (Try.prog.info? 40).map (·.size) = some 1 := by kernel_rfl
theorem inf40 : (Try.prog.info? 40).map (fun i => (i.zero, i.size, i.bytes)) = some (some (.slice none 0 0), 1, 24) := by kernel_rfl
theorem isz41 : (Try.prog.info? 41).map (·.size) = some 1 := by kernel_rfl
theorem inf41 : (Try.prog.info? 41).map (fun i => (i.zero, i.size, i.bytes)) = some (some (.slice none 0 0), 1, 24) := by kernel_rfl
theorem isz42 : (Try.prog.info? 42).map (·.size) = some 0 := by kernel_rfl
theorem inf42 : (Try.prog.info? 42).map (fun i => (i.zero, i.size, i.bytes)) = some (some (.agg #[]), 0, 0) := by kernel_rfl
theorem isz43 : (Try.prog.info? 43).map (·.size) = some 0 := by kernel_rfl
theorem inf43 : (Try.prog.info? 43).map (fun i => (i.zero, i.size, i.bytes)) = some (some (.agg #[]), 0, 0) := by kernel_rfl
theorem isz44 : (Try.prog.info? 44).map (·.size) = some 0 := by kernel_rfl
theorem inf44 : (Try.prog.info? 44).map (fun i => (i.zero, i.size, i.bytes)) = some (some (.agg #[]), 0, 0) := by kernel_rfl
theorem isz45 : (Try.prog.info? 45).map (·.size) = some 1 := by kernel_rfl
theorem inf45 : (Try.prog.info? 45).map (fun i => (i.zero, i.size, i.bytes)) = some (some (.int .u32 0), 1, 4) := by kernel_rfl
theorem isz46 : (Try.prog.info? 46).map (·.size) = some 1 := by kernel_rfl
theorem inf46 : (Try.prog.info? 46).map (fun i => (i.zero, i.size, i.bytes)) = some (some (.agg #[.int .u32 0]), 1, 4) := by kernel_rfl
theorem isz47 : (Try.prog.info? 47).map (·.size) = some 1 := by kernel_rfl
theorem inf47 : (Try.prog.info? 47).map (fun i => (i.zero, i.size, i.bytes)) = some (some (.agg #[.int .u32 0]), 1, 4) := by kernel_rfl
theorem isz48 : (Try.prog.info? 48).map (·.size) = some 2 := by kernel_rfl
theorem inf48 : (Try.prog.info? 48).map (fun i => (i.zero, i.size, i.bytes)) = some (some (.agg #[.int .i32 0, .int .u32 0]), 2, 8) := by kernel_rfl
theorem isz49 : (Try.prog.info? 49).map (·.size) = some 2 := by kernel_rfl
theorem inf49 : (Try.prog.info? 49).map (fun i => (i.zero, i.size, i.bytes)) = some (some (.agg #[.int .i32 0, .int .u32 0]), 2, 8) := by kernel_rfl
theorem isz50 : (Try.prog.info? 50).map (·.size) = some 2 := by kernel_rfl
theorem inf50 : (Try.prog.info? 50).map (fun i => (i.zero, i.size, i.bytes)) = some (some (.agg #[.int .i32 0, .int .u32 0]), 2, 8) := by kernel_rfl
theorem isz51 : (Try.prog.info? 51).map (·.size) = some 2 := by kernel_rfl
theorem inf51 : (Try.prog.info? 51).map (fun i => (i.zero, i.size, i.bytes)) = some (some (.agg #[.int .i32 0, .int .u32 0]), 2, 8) := by kernel_rfl
theorem isz52 : (Try.prog.info? 52).map (·.size) = some 3 := by kernel_rfl
theorem inf52 : (Try.prog.info? 52).map (fun i => (i.zero, i.size, i.bytes)) = some (some (.agg #[.int .u32 0, .int .i32 0, .int .u32 0]), 3, 12) := by kernel_rfl
theorem isz53 : (Try.prog.info? 53).map (·.size) = some 3 := by kernel_rfl
theorem inf53 : (Try.prog.info? 53).map (fun i => (i.zero, i.size, i.bytes)) = some (some (.agg #[.int .u32 0, .int .i32 0, .int .u32 0]), 3, 12) := by kernel_rfl
theorem isz54 : (Try.prog.info? 54).map (·.size) = some 1 := by kernel_rfl
theorem inf54 : (Try.prog.info? 54).map (fun i => (i.zero, i.size, i.bytes)) = some (some (.nilIface), 1, 16) := by kernel_rfl
theorem isz55 : (Try.prog.info? 55).map (·.size) = some 1 := by kernel_rfl
theorem inf55 : (Try.prog.info? 55).map (fun i => (i.zero, i.size, i.bytes)) = some (some (.nilIface), 1, 16) := by kernel_rfl
theorem isz56 : (Try.prog.info? 56).map (·.size) = some 5 := by kernel_rfl
theorem inf56 : (Try.prog.info? 56).map (fun i => (i.zero, i.size, i.bytes)) = some (some (.agg #[.int .u32 0, .int .i32 0, .int .u32 0, .nilIface, .slice none 0 0]), 5, 56) := by kernel_rfl
theorem isz57 : (Try.prog.info? 57).map (·.size) = some 5 := by kernel_rfl
theorem inf57 : (Try.prog.info? 57).map (fun i => (i.zero, i.size, i.bytes)) = some (some (.agg #[.int .u32 0, .int .i32 0, .int .u32 0, .nilIface, .slice none 0 0]), 5, 56) := by kernel_rfl
theorem isz58 : (Try.prog.info? 58).map (·.size) = some 1 := by kernel_rfl
theorem inf58 : (Try.prog.info? 58).map (fun i => (i.zero, i.size, i.bytes)) = some (some (.nilFunc), 1, 8) := by kernel_rfl
theorem isz59 : (Try.prog.info? 59).map (·.size) = some 1 := by kernel_rfl
theorem inf59 : (Try.prog.info? 59).map (fun i => (i.zero, i.size, i.bytes)) = some (some (.pointer none), 1, 8) := by kernel_rfl
theorem isz60 : (Try.prog.info? 60).map (·.size) = some 1 := by kernel_rfl
theorem inf60 : (Try.prog.info? 60).map (fun i => (i.zero, i.size, i.bytes)) = some (some (.nilFunc), 1, 8) := by kernel_rfl
theorem isz61 : (Try.prog.info? 61).map (·.size) = some 1 := by kernel_rfl
theorem inf61 : (Try.prog.info? 61).map (fun i => (i.zero, i.size, i.bytes)) = some (some (.pointer none), 1, 8) := by kernel_rfl
theorem isz62 : (Try.prog.info? 62).map (·.size) = some 1 := by kernel_rfl
theorem inf62 : (Try.prog.info? 62).map (fun i => (i.zero, i.size, i.bytes)) = some (some (.nilFunc), 1, 8) := by kernel_rfl
theorem isz63 : (Try.prog.info? 63).map (·.size) = some 1 := by kernel_rfl
theorem inf63 : (Try.prog.info? 63).map (fun i => (i.zero, i.size, i.bytes)) = some (some (.pointer none), 1, 8) := by kernel_rfl
theorem isz64 : (Try.prog.info? 64).map (·.size) = some 1 := by kernel_rfl
theorem inf64 : (Try.prog.info? 64).map (fun i => (i.zero, i.size, i.bytes)) = some (some (.nilFunc), 1, 8) := by kernel_rfl
theorem isz65 : (Try.prog.info? 65).map (·.size) = some 1 := by kernel_rfl
theorem inf65 : (Try.prog.info? 65).map (fun i => (i.zero, i.size, i.bytes)) = some (some (.pointer none), 1, 8) := by kernel_rfl
theorem isz66 : (Try.prog.info? 66).map (·.size) = some 1 := by kernel_rfl
theorem inf66 : (Try.prog.info? 66).map (fun i => (i.zero, i.size, i.bytes)) = some (some (.nilFunc), 1, 8) := by kernel_rfl
theorem isz67 : (Try.prog.info? 67).map (·.size) = some 1 := by kernel_rfl
theorem inf67 : (Try.prog.info? 67).map (fun i => (i.zero, i.size, i.bytes)) = some (some (.pointer none), 1, 8) := by kernel_rfl
theorem isz68 : (Try.prog.info? 68).map (·.size) = some 1 := by kernel_rfl
theorem inf68 : (Try.prog.info? 68).map (fun i => (i.zero, i.size, i.bytes)) = some (some (.nilFunc), 1, 8) := by kernel_rfl
theorem isz71 : (Try.prog.info? 71).map (·.size) = some 1 := by kernel_rfl
theorem inf71 : (Try.prog.info? 71).map (fun i => (i.zero, i.size, i.bytes)) = some (some (.pointer none), 1, 8) := by kernel_rfl
theorem isz75 : (Try.prog.info? 75).map (·.size) = some 1 := by kernel_rfl
theorem inf75 : (Try.prog.info? 75).map (fun i => (i.zero, i.size, i.bytes)) = some (some (.pointer none), 1, 8) := by kernel_rfl
theorem isz76 : (Try.prog.info? 76).map (·.size) = some 1 := by kernel_rfl
theorem inf76 : (Try.prog.info? 76).map (fun i => (i.zero, i.size, i.bytes)) = some (some (.pointer none), 1, 8) := by kernel_rfl
theorem isz77 : (Try.prog.info? 77).map (·.size) = some 1 := by kernel_rfl
theorem inf77 : (Try.prog.info? 77).map (fun i => (i.zero, i.size, i.bytes)) = some (some (.nilFunc), 1, 8) := by kernel_rfl
theorem isz78 : (Try.prog.info? 78).map (·.size) = some 1 := by kernel_rfl
theorem inf78 : (Try.prog.info? 78).map (fun i => (i.zero, i.size, i.bytes)) = some (some (.nilFunc), 1, 8) := by kernel_rfl
theorem isz79 : (Try.prog.info? 79).map (·.size) = some 1 := by kernel_rfl
theorem inf79 : (Try.prog.info? 79).map (fun i => (i.zero, i.size, i.bytes)) = some (some (.pointer none), 1, 8) := by kernel_rfl
theorem isz80 : (Try.prog.info? 80).map (·.size) = some 1 := by kernel_rfl
theorem inf80 : (Try.prog.info? 80).map (fun i => (i.zero, i.size, i.bytes)) = some (some (.nilFunc), 1, 8) := by kernel_rfl
theorem isz81 : (Try.prog.info? 81).map (·.size) = some 2 := by kernel_rfl
theorem inf81 : (Try.prog.info? 81).map (fun i => (i.zero, i.size, i.bytes)) = some (some (.agg #[.pointer none, .string ⟨#[]⟩]), 2, 24) := by kernel_rfl
theorem isz82 : (Try.prog.info? 82).map (·.size) = some 2 := by kernel_rfl
theorem inf82 : (Try.prog.info? 82).map (fun i => (i.zero, i.size, i.bytes)) = some (some (.agg #[.pointer none, .string ⟨#[]⟩]), 2, 24) := by kernel_rfl
theorem isz83 : (Try.prog.info? 83).map (·.size) = some 1 := by kernel_rfl
theorem inf83 : (Try.prog.info? 83).map (fun i => (i.zero, i.size, i.bytes)) = some (some (.pointer none), 1, 8) := by kernel_rfl
theorem isz84 : (Try.prog.info? 84).map (·.size) = some 1 := by kernel_rfl
theorem inf84 : (Try.prog.info? 84).map (fun i => (i.zero, i.size, i.bytes)) = some (some (.slice none 0 0), 1, 24) := by kernel_rfl
theorem isz85 : (Try.prog.info? 85).map (·.size) = some 5 := by kernel_rfl
theorem inf85 : (Try.prog.info? 85).map (fun i => (i.zero, i.size, i.bytes)) = some (some (.agg #[.string ⟨#[]⟩, .int .i64 0, .string ⟨#[]⟩, .pointer none, .slice none 0 0]), 5, 72) := by kernel_rfl
theorem isz86 : (Try.prog.info? 86).map (·.size) = some 5 := by kernel_rfl
theorem inf86 : (Try.prog.info? 86).map (fun i => (i.zero, i.size, i.bytes)) = some (some (.agg #[.string ⟨#[]⟩, .int .i64 0, .string ⟨#[]⟩, .pointer none, .slice none 0 0]), 5, 72) := by kernel_rfl
theorem isz89 : (Try.prog.info? 89).map (·.size) = some 1 := by kernel_rfl
theorem inf89 : (Try.prog.info? 89).map (fun i => (i.zero, i.size, i.bytes)) = some (some (.nilFunc), 1, 8) := by kernel_rfl
theorem isz90 : (Try.prog.info? 90).map (·.size) = some 1 := by kernel_rfl
theorem inf90 : (Try.prog.info? 90).map (fun i => (i.zero, i.size, i.bytes)) = some (some (.pointer none), 1, 8) := by kernel_rfl
theorem isz91 : (Try.prog.info? 91).map (·.size) = some 1 := by kernel_rfl
theorem inf91 : (Try.prog.info? 91).map (fun i => (i.zero, i.size, i.bytes)) = some (some (.nilFunc), 1, 8) := by kernel_rfl
theorem isz92 : (Try.prog.info? 92).map (·.size) = some 1 := by kernel_rfl
theorem inf92 : (Try.prog.info? 92).map (fun i => (i.zero, i.size, i.bytes)) = some (some (.pointer none), 1, 8) := by kernel_rfl
theorem isz93 : (Try.prog.info? 93).map (·.size) = some 1 := by kernel_rfl
theorem inf93 : (Try.prog.info? 93).map (fun i => (i.zero, i.size, i.bytes)) = some (some (.nilFunc), 1, 8) := by kernel_rfl
theorem isz94 : (Try.prog.info? 94).map (·.size) = some 1 := by kernel_rfl
theorem inf94 : (Try.prog.info? 94).map (fun i => (i.zero, i.size, i.bytes)) = some (some (.pointer none), 1, 8) := by kernel_rfl
theorem isz95 : (Try.prog.info? 95).map (·.size) = some 1 := by kernel_rfl
theorem inf95 : (Try.prog.info? 95).map (fun i => (i.zero, i.size, i.bytes)) = some (some (.nilFunc), 1, 8) := by kernel_rfl
theorem isz96 : (Try.prog.info? 96).map (·.size) = some 1 := by kernel_rfl
theorem inf96 : (Try.prog.info? 96).map (fun i => (i.zero, i.size, i.bytes)) = some (some (.nilFunc), 1, 8) := by kernel_rfl
theorem isz97 : (Try.prog.info? 97).map (·.size) = some 1 := by kernel_rfl
theorem inf97 : (Try.prog.info? 97).map (fun i => (i.zero, i.size, i.bytes)) = some (some (.slice none 0 0), 1, 24) := by kernel_rfl
theorem isz101 : (Try.prog.info? 101).map (·.size) = some 1 := by kernel_rfl
theorem inf101 : (Try.prog.info? 101).map (fun i => (i.zero, i.size, i.bytes)) = some (some (.nilFunc), 1, 8) := by kernel_rfl
theorem isz102 : (Try.prog.info? 102).map (·.size) = some 1 := by kernel_rfl
theorem inf102 : (Try.prog.info? 102).map (fun i => (i.zero, i.size, i.bytes)) = some (some (.nilFunc), 1, 8) := by kernel_rfl
theorem isz103 : (Try.prog.info? 103).map (·.size) = some 1 := by kernel_rfl
theorem inf103 : (Try.prog.info? 103).map (fun i => (i.zero, i.size, i.bytes)) = some (some (.nilFunc), 1, 8) := by kernel_rfl
theorem isz104 : (Try.prog.info? 104).map (·.size) = some 1 := by kernel_rfl
theorem inf104 : (Try.prog.info? 104).map (fun i => (i.zero, i.size, i.bytes)) = some (some (.int .u64 0), 1, 8) := by kernel_rfl
theorem isz105 : (Try.prog.info? 105).map (·.size) = some 1 := by kernel_rfl
theorem inf105 : (Try.prog.info? 105).map (fun i => (i.zero, i.size, i.bytes)) = some (some (.nilFunc), 1, 8) := by kernel_rfl
theorem isz106 : (Try.prog.info? 106).map (·.size) = some 1 := by kernel_rfl
theorem inf106 : (Try.prog.info? 106).map (fun i => (i.zero, i.size, i.bytes)) = some (some (.nilFunc), 1, 8) := by kernel_rfl
theorem isz107 : (Try.prog.info? 107).map (·.size) = some 1 := by kernel_rfl
theorem inf107 : (Try.prog.info? 107).map (fun i => (i.zero, i.size, i.bytes)) = some (some (.nilFunc), 1, 8) := by kernel_rfl
theorem isz108 : (Try.prog.info? 108).map (·.size) = some 1 := by kernel_rfl
theorem inf108 : (Try.prog.info? 108).map (fun i => (i.zero, i.size, i.bytes)) = some (some (.nilFunc), 1, 8) := by kernel_rfl
theorem isz109 : (Try.prog.info? 109).map (·.size) = some 4 := by kernel_rfl
theorem inf109 : (Try.prog.info? 109).map (fun i => (i.zero, i.size, i.bytes)) = some (some (.agg #[.pointer none, .pointer none, .pointer none, .string ⟨#[]⟩]), 4, 40) := by kernel_rfl
theorem isz110 : (Try.prog.info? 110).map (·.size) = some 4 := by kernel_rfl
theorem inf110 : (Try.prog.info? 110).map (fun i => (i.zero, i.size, i.bytes)) = some (some (.agg #[.pointer none, .pointer none, .pointer none, .string ⟨#[]⟩]), 4, 40) := by kernel_rfl
theorem isz111 : (Try.prog.info? 111).map (·.size) = some 0 := by kernel_rfl
theorem inf111 : (Try.prog.info? 111).map (fun i => (i.zero, i.size, i.bytes)) = some (some (.agg #[]), 0, 0) := by kernel_rfl
theorem isz112 : (Try.prog.info? 112).map (·.size) = some 0 := by kernel_rfl
theorem inf112 : (Try.prog.info? 112).map (fun i => (i.zero, i.size, i.bytes)) = some (some (.agg #[]), 0, 0) := by kernel_rfl
theorem isz113 : (Try.prog.info? 113).map (·.size) = some 0 := by kernel_rfl
theorem inf113 : (Try.prog.info? 113).map (fun i => (i.zero, i.size, i.bytes)) = some (some (.agg #[]), 0, 0) := by kernel_rfl
theorem isz114 : (Try.prog.info? 114).map (·.size) = some 1 := by kernel_rfl
theorem inf114 : (Try.prog.info? 114).map (fun i => (i.zero, i.size, i.bytes)) = some (some (.nilFunc), 1, 8) := by kernel_rfl
theorem isz115 : (Try.prog.info? 115).map (·.size) = some 1 := by kernel_rfl
theorem inf115 : (Try.prog.info? 115).map (fun i => (i.zero, i.size, i.bytes)) = some (some (.int .u8 0), 1, 1) := by kernel_rfl
theorem isz116 : (Try.prog.info? 116).map (·.size) = some 1 := by kernel_rfl
theorem inf116 : (Try.prog.info? 116).map (fun i => (i.zero, i.size, i.bytes)) = some (some (.int .u8 0), 1, 1) := by kernel_rfl
theorem isz117 : (Try.prog.info? 117).map (·.size) = some 1 := by kernel_rfl
theorem inf117 : (Try.prog.info? 117).map (fun i => (i.zero, i.size, i.bytes)) = some (some (.nilFunc), 1, 8) := by kernel_rfl
theorem isz118 : (Try.prog.info? 118).map (·.size) = some 1 := by kernel_rfl
theorem inf118 : (Try.prog.info? 118).map (fun i => (i.zero, i.size, i.bytes)) = some (some (.pointer none), 1, 8) := by kernel_rfl
theorem isz119 : (Try.prog.info? 119).map (·.size) = some 1 := by kernel_rfl
theorem inf119 : (Try.prog.info? 119).map (fun i => (i.zero, i.size, i.bytes)) = some (some (.int .i32 0), 1, 4) := by kernel_rfl
theorem isz120 : (Try.prog.info? 120).map (·.size) = some 1 := by kernel_rfl
theorem inf120 : (Try.prog.info? 120).map (fun i => (i.zero, i.size, i.bytes)) = some (some (.int .i32 0), 1, 4) := by kernel_rfl
theorem isz121 : (Try.prog.info? 121).map (·.size) = some 11 := by kernel_rfl
theorem inf121 : (Try.prog.info? 121).map (fun i => (i.zero, i.size, i.bytes)) = some (some (.agg #[.int .u64 0, .int .u64 0, .int .u32 0, .int .u8 0, .int .u8 0, .int .u8 0, .int .u8 0, .nilFunc, .pointer none, .int .i32 0, .int .i32 0]), 11, 48) := by kernel_rfl
theorem isz122 : (Try.prog.info? 122).map (·.size) = some 11 := by kernel_rfl
theorem inf122 : (Try.prog.info? 122).map (fun i => (i.zero, i.size, i.bytes)) = some (some (.agg #[.int .u64 0, .int .u64 0, .int .u32 0, .int .u8 0, .int .u8 0, .int .u8 0, .int .u8 0, .nilFunc, .pointer none, .int .i32 0, .int .i32 0]), 11, 48) := by kernel_rfl
theorem isz123 : (Try.prog.info? 123).map (·.size) = some 1 := by kernel_rfl
theorem inf123 : (Try.prog.info? 123).map (fun i => (i.zero, i.size, i.bytes)) = some (some (.nilFunc), 1, 8) := by kernel_rfl
theorem isz124 : (Try.prog.info? 124).map (·.size) = some 1 := by kernel_rfl
theorem inf124 : (Try.prog.info? 124).map (fun i => (i.zero, i.size, i.bytes)) = some (some (.pointer none), 1, 8) := by kernel_rfl
theorem isz125 : (Try.prog.info? 125).map (·.size) = some 2 := by kernel_rfl
theorem inf125 : (Try.prog.info? 125).map (fun i => (i.zero, i.size, i.bytes)) = some (some (.agg #[.pointer none, .slice none 0 0]), 2, 32) := by kernel_rfl
theorem isz126 : (Try.prog.info? 126).map (·.size) = some 2 := by kernel_rfl
theorem inf126 : (Try.prog.info? 126).map (fun i => (i.zero, i.size, i.bytes)) = some (some (.agg #[.pointer none, .slice none 0 0]), 2, 32) := by kernel_rfl
theorem isz127 : (Try.prog.info? 127).map (·.size) = some 1 := by kernel_rfl
theorem inf127 : (Try.prog.info? 127).map (fun i => (i.zero, i.size, i.bytes)) = some (some (.nilFunc), 1, 8) := by kernel_rfl
theorem isz128 : (Try.prog.info? 128).map (·.size) = some 1 := by kernel_rfl
theorem inf128 : (Try.prog.info? 128).map (fun i => (i.zero, i.size, i.bytes)) = some (some (.nilFunc), 1, 8) := by kernel_rfl
theorem isz129 : (Try.prog.info? 129).map (·.size) = some 1 := by kernel_rfl
theorem inf129 : (Try.prog.info? 129).map (fun i => (i.zero, i.size, i.bytes)) = some (some (.nilIface), 1, 16) := by kernel_rfl
theorem isz130 : (Try.prog.info? 130).map (·.size) = some 1 := by kernel_rfl
theorem inf130 : (Try.prog.info? 130).map (fun i => (i.zero, i.size, i.bytes)) = some (some (.nilIface), 1, 16) := by kernel_rfl
theorem isz131 : (Try.prog.info? 131).map (·.size) = some 1 := by kernel_rfl
theorem inf131 : (Try.prog.info? 131).map (fun i => (i.zero, i.size, i.bytes)) = some (some (.tuple #[.int .i64 0, .nilIface]), 1, 0) := by kernel_rfl
theorem isz132 : (Try.prog.info? 132).map (·.size) = some 1 := by kernel_rfl
theorem inf132 : (Try.prog.info? 132).map (fun i => (i.zero, i.size, i.bytes)) = some (some (.nilFunc), 1, 8) := by kernel_rfl
theorem isz133 : (Try.prog.info? 133).map (·.size) = some 1 := by kernel_rfl
theorem inf133 : (Try.prog.info? 133).map (fun i => (i.zero, i.size, i.bytes)) = some (some (.nilFunc), 1, 8) := by kernel_rfl
theorem isz134 : (Try.prog.info? 134).map (·.size) = some 1 := by kernel_rfl
theorem inf134 : (Try.prog.info? 134).map (fun i => (i.zero, i.size, i.bytes)) = some (some (.nilFunc), 1, 8) := by kernel_rfl
theorem isz135 : (Try.prog.info? 135).map (·.size) = some 1 := by kernel_rfl
theorem inf135 : (Try.prog.info? 135).map (fun i => (i.zero, i.size, i.bytes)) = some (some (.slice none 0 0), 1, 24) := by kernel_rfl
theorem isz136 : (Try.prog.info? 136).map (·.size) = some 1 := by kernel_rfl
theorem inf136 : (Try.prog.info? 136).map (fun i => (i.zero, i.size, i.bytes)) = some (some (.pointer none), 1, 8) := by kernel_rfl
theorem isz137 : (Try.prog.info? 137).map (·.size) = some 1 := by kernel_rfl
theorem inf137 : (Try.prog.info? 137).map (fun i => (i.zero, i.size, i.bytes)) = some (some (.nilIface), 1, 16) := by kernel_rfl
theorem isz138 : (Try.prog.info? 138).map (·.size) = some 1 := by kernel_rfl
theorem inf138 : (Try.prog.info? 138).map (fun i => (i.zero, i.size, i.bytes)) = some (some (.nilIface), 1, 16) := by kernel_rfl
theorem isz139 : (Try.prog.info? 139).map (·.size) = some 1 := by kernel_rfl
theorem inf139 : (Try.prog.info? 139).map (fun i => (i.zero, i.size, i.bytes)) = some (some (.nilIface), 1, 16) := by kernel_rfl
theorem isz140 : (Try.prog.info? 140).map (·.size) = some 1 := by kernel_rfl
theorem inf140 : (Try.prog.info? 140).map (fun i => (i.zero, i.size, i.bytes)) = some (some (.nilIface), 1, 16) := by kernel_rfl
theorem isz141 : (Try.prog.info? 141).map (·.size) = some 1 := by kernel_rfl
theorem inf141 : (Try.prog.info? 141).map (fun i => (i.zero, i.size, i.bytes)) = some (some (.nilFunc), 1, 8) := by kernel_rfl
theorem isz142 : (Try.prog.info? 142).map (·.size) = some 1 := by kernel_rfl
theorem inf142 : (Try.prog.info? 142).map (fun i => (i.zero, i.size, i.bytes)) = some (some (.tuple #[.string ⟨#[]⟩, .int .i64 0, .bool false]), 1, 0) := by kernel_rfl
theorem isz143 : (Try.prog.info? 143).map (·.size) = some 1 := by kernel_rfl
theorem inf143 : (Try.prog.info? 143).map (fun i => (i.zero, i.size, i.bytes)) = some (some (.nilFunc), 1, 8) := by kernel_rfl
theorem isz144 : (Try.prog.info? 144).map (·.size) = some 1 := by kernel_rfl
theorem inf144 : (Try.prog.info? 144).map (fun i => (i.zero, i.size, i.bytes)) = some (some (.tuple #[.nilIface, .bool false]), 1, 0) := by kernel_rfl
theorem isz145 : (Try.prog.info? 145).map (·.size) = some 1 := by kernel_rfl
theorem inf145 : (Try.prog.info? 145).map (fun i => (i.zero, i.size, i.bytes)) = some (some (.agg #[.nilIface]), 1, 16) := by kernel_rfl
theorem isz146 : (Try.prog.info? 146).map (·.size) = some 1 := by kernel_rfl
theorem inf146 : (Try.prog.info? 146).map (fun i => (i.zero, i.size, i.bytes)) = some (some (.agg #[.nilIface]), 1, 16) := by kernel_rfl
theorem isz147 : (Try.prog.info? 147).map (·.size) = some 1 := by kernel_rfl
theorem inf147 : (Try.prog.info? 147).map (fun i => (i.zero, i.size, i.bytes)) = some (some (.nilFunc), 1, 8) := by kernel_rfl
theorem isz148 : (Try.prog.info? 148).map (·.size) = some 1 := by kernel_rfl
theorem inf148 : (Try.prog.info? 148).map (fun i => (i.zero, i.size, i.bytes)) = some (some (.nilFunc), 1, 8) := by kernel_rfl
theorem isz149 : (Try.prog.info? 149).map (·.size) = some 1 := by kernel_rfl
theorem inf149 : (Try.prog.info? 149).map (fun i => (i.zero, i.size, i.bytes)) = some (some (.nilFunc), 1, 8) := by kernel_rfl
theorem isz150 : (Try.prog.info? 150).map (·.size) = some 1 := by kernel_rfl
theorem inf150 : (Try.prog.info? 150).map (fun i => (i.zero, i.size, i.bytes)) = some (some (.tuple #[.int .u32 0, .int .u32 0]), 1, 0) := by kernel_rfl
theorem isz151 : (Try.prog.info? 151).map (·.size) = some 1 := by kernel_rfl
theorem inf151 : (Try.prog.info? 151).map (fun i => (i.zero, i.size, i.bytes)) = some (some (.nilFunc), 1, 8) := by kernel_rfl
def tyOf : Nat → Option TypeDesc
  | 2 => some (.int .i64)
  | 3 => some (.int .i64)
  | 4 => some (.bool)
  | 5 => some (.int .u8)
  | 6 => some (.int .u8)
  | 9 => some (.string)
  | 10 => some (.string)
  | 11 => some (.string)
  | 12 => some (.int .u64)
  | 15 => some (.pointer 110)
  | 16 => some (.pointer 113)
  | 17 => some (.pointer 122)
  | 21 => some (.int .i32)
  | 23 => some (.slice 31)
  | 35 => some (.slice 21)
  | 38 => some (.pointer 57)
  | 40 => some (.slice 5)
  | 41 => some (.slice 9)
  | 45 => some (.int .u32)
  | 59 => some (.pointer 53)
  | 61 => some (.pointer 47)
  | 63 => some (.pointer 45)
  | 65 => some (.pointer 82)
  | 67 => some (.pointer 88)
  | 69 => some (.array 256 5)
  | 70 => some (.array 256 5)
  | 71 => some (.pointer 70)
  | 72 => some (.array 256 40)
  | 75 => some (.pointer 74)
  | 76 => some (.pointer 51)
  | 79 => some (.pointer 100)
  | 83 => some (.pointer 86)
  | 84 => some (.slice 83)
  | 90 => some (.pointer 49)
  | 92 => some (.pointer 21)
  | 97 => some (.slice 3)
  | 98 => some (.array 256 3)
  | 104 => some (.int .u64)
  | 111 => some (.array 0 16)
  | 115 => some (.int .u8)
  | 116 => some (.int .u8)
  | 118 => some (.pointer 5)
  | 119 => some (.int .i32)
  | 120 => some (.int .i32)
  | 124 => some (.pointer 126)
  | 135 => some (.slice 5)
  | 136 => some (.pointer 135)
  | _ => none
set_option maxHeartbeats 8000000 in
theorem und (t : Nat) (d : TypeDesc) (h : tyOf t = some d) : Try.prog.underlying t = some d := by
  unfold tyOf at h
  split at h
  · cases h; exact Try.underlying2
  · cases h; exact Try.underlying3
  · cases h; exact Try.underlying4
  · cases h; exact Try.underlying5
  · cases h; exact Try.underlying6
  · cases h; exact Try.underlying9
  · cases h; exact Try.underlying10
  · cases h; exact Try.underlying11
  · cases h; exact Try.underlying12
  · cases h; exact Try.underlying15
  · cases h; exact Try.underlying16
  · cases h; exact Try.underlying17
  · cases h; exact Try.underlying21
  · cases h; exact Try.underlying23
  · cases h; exact Try.underlying35
  · cases h; exact Try.underlying38
  · cases h; exact Try.underlying40
  · cases h; exact Try.underlying41
  · cases h; exact Try.underlying45
  · cases h; exact Try.underlying59
  · cases h; exact Try.underlying61
  · cases h; exact Try.underlying63
  · cases h; exact Try.underlying65
  · cases h; exact Try.underlying67
  · cases h; exact Try.underlying69
  · cases h; exact Try.underlying70
  · cases h; exact Try.underlying71
  · cases h; exact Try.underlying72
  · cases h; exact Try.underlying75
  · cases h; exact Try.underlying76
  · cases h; exact Try.underlying79
  · cases h; exact Try.underlying83
  · cases h; exact Try.underlying84
  · cases h; exact Try.underlying90
  · cases h; exact Try.underlying92
  · cases h; exact Try.underlying97
  · cases h; exact Try.underlying98
  · cases h; exact Try.underlying104
  · cases h; exact Try.underlying111
  · cases h; exact Try.underlying115
  · cases h; exact Try.underlying116
  · cases h; exact Try.underlying118
  · cases h; exact Try.underlying119
  · cases h; exact Try.underlying120
  · cases h; exact Try.underlying124
  · cases h; exact Try.underlying135
  · cases h; exact Try.underlying136
  · cases h
def szOf_0 : Nat → Option Nat
  | 0 => some (1)
  | 1 => some (1)
  | 2 => some (1)
  | 3 => some (1)
  | 4 => some (1)
  | 5 => some (1)
  | 6 => some (1)
  | 7 => some (4)
  | 8 => some (4)
  | 9 => some (1)
  | 10 => some (1)
  | 11 => some (1)
  | 12 => some (1)
  | 13 => some (2)
  | 14 => some (2)
  | 15 => some (1)
  | 16 => some (1)
  | 17 => some (1)
  | 18 => some (1)
  | 19 => some (1)
  | 20 => some (1)
  | 21 => some (1)
  | 22 => some (1)
  | 23 => some (1)
  | 24 => some (1)
  | 25 => some (1)
  | 26 => some (1)
  | 27 => some (1)
  | 28 => some (2)
  | 29 => some (2)
  | 30 => some (5)
  | 31 => some (5)
  | 32 => some (1)
  | 33 => some (1)
  | 34 => some (1)
  | 35 => some (1)
  | 36 => some (1)
  | 37 => some (1)
  | 38 => some (1)
  | 39 => some (1)
  | 40 => some (1)
  | 41 => some (1)
  | 42 => some (0)
  | 43 => some (0)
  | 44 => some (0)
  | 45 => some (1)
  | 46 => some (1)
  | 47 => some (1)
  | 48 => some (2)
  | 49 => some (2)
  | _ => none
set_option maxHeartbeats 8000000 in
theorem isz_0 (t : Nat) (n : Nat) (h : szOf_0 t = some n) : (Try.prog.info? t).map (·.size) = some n := by
  unfold szOf_0 at h
  split at h
  · cases h; exact isz0
  · cases h; exact isz1
  · cases h; exact isz2
  · cases h; exact isz3
  · cases h; exact isz4
  · cases h; exact isz5
  · cases h; exact isz6
  · cases h; exact isz7
  · cases h; exact isz8
  · cases h; exact isz9
  · cases h; exact isz10
  · cases h; exact isz11
  · cases h; exact isz12
  · cases h; exact isz13
  · cases h; exact isz14
  · cases h; exact isz15
  · cases h; exact isz16
  · cases h; exact isz17
  · cases h; exact isz18
  · cases h; exact isz19
  · cases h; exact isz20
  · cases h; exact isz21
  · cases h; exact isz22
  · cases h; exact isz23
  · cases h; exact isz24
  · cases h; exact isz25
  · cases h; exact isz26
  · cases h; exact isz27
  · cases h; exact isz28
  · cases h; exact isz29
  · cases h; exact isz30
  · cases h; exact isz31
  · cases h; exact isz32
  · cases h; exact isz33
  · cases h; exact isz34
  · cases h; exact isz35
  · cases h; exact isz36
  · cases h; exact isz37
  · cases h; exact isz38
  · cases h; exact isz39
  · cases h; exact isz40
  · cases h; exact isz41
  · cases h; exact isz42
  · cases h; exact isz43
  · cases h; exact isz44
  · cases h; exact isz45
  · cases h; exact isz46
  · cases h; exact isz47
  · cases h; exact isz48
  · cases h; exact isz49
  · cases h
def szOf_1 : Nat → Option Nat
  | 50 => some (2)
  | 51 => some (2)
  | 52 => some (3)
  | 53 => some (3)
  | 54 => some (1)
  | 55 => some (1)
  | 56 => some (5)
  | 57 => some (5)
  | 58 => some (1)
  | 59 => some (1)
  | 60 => some (1)
  | 61 => some (1)
  | 62 => some (1)
  | 63 => some (1)
  | 64 => some (1)
  | 65 => some (1)
  | 66 => some (1)
  | 67 => some (1)
  | 68 => some (1)
  | 71 => some (1)
  | 75 => some (1)
  | 76 => some (1)
  | 77 => some (1)
  | 78 => some (1)
  | 79 => some (1)
  | 80 => some (1)
  | 81 => some (2)
  | 82 => some (2)
  | 83 => some (1)
  | 84 => some (1)
  | 85 => some (5)
  | 86 => some (5)
  | 89 => some (1)
  | 90 => some (1)
  | 91 => some (1)
  | 92 => some (1)
  | 93 => some (1)
  | 94 => some (1)
  | 95 => some (1)
  | 96 => some (1)
  | 97 => some (1)
  | 101 => some (1)
  | 102 => some (1)
  | 103 => some (1)
  | 104 => some (1)
  | 105 => some (1)
  | 106 => some (1)
  | 107 => some (1)
  | 108 => some (1)
  | 109 => some (4)
  | _ => none
set_option maxHeartbeats 8000000 in
theorem isz_1 (t : Nat) (n : Nat) (h : szOf_1 t = some n) : (Try.prog.info? t).map (·.size) = some n := by
  unfold szOf_1 at h
  split at h
  · cases h; exact isz50
  · cases h; exact isz51
  · cases h; exact isz52
  · cases h; exact isz53
  · cases h; exact isz54
  · cases h; exact isz55
  · cases h; exact isz56
  · cases h; exact isz57
  · cases h; exact isz58
  · cases h; exact isz59
  · cases h; exact isz60
  · cases h; exact isz61
  · cases h; exact isz62
  · cases h; exact isz63
  · cases h; exact isz64
  · cases h; exact isz65
  · cases h; exact isz66
  · cases h; exact isz67
  · cases h; exact isz68
  · cases h; exact isz71
  · cases h; exact isz75
  · cases h; exact isz76
  · cases h; exact isz77
  · cases h; exact isz78
  · cases h; exact isz79
  · cases h; exact isz80
  · cases h; exact isz81
  · cases h; exact isz82
  · cases h; exact isz83
  · cases h; exact isz84
  · cases h; exact isz85
  · cases h; exact isz86
  · cases h; exact isz89
  · cases h; exact isz90
  · cases h; exact isz91
  · cases h; exact isz92
  · cases h; exact isz93
  · cases h; exact isz94
  · cases h; exact isz95
  · cases h; exact isz96
  · cases h; exact isz97
  · cases h; exact isz101
  · cases h; exact isz102
  · cases h; exact isz103
  · cases h; exact isz104
  · cases h; exact isz105
  · cases h; exact isz106
  · cases h; exact isz107
  · cases h; exact isz108
  · cases h; exact isz109
  · cases h
def szOf_2 : Nat → Option Nat
  | 110 => some (4)
  | 111 => some (0)
  | 112 => some (0)
  | 113 => some (0)
  | 114 => some (1)
  | 115 => some (1)
  | 116 => some (1)
  | 117 => some (1)
  | 118 => some (1)
  | 119 => some (1)
  | 120 => some (1)
  | 121 => some (11)
  | 122 => some (11)
  | 123 => some (1)
  | 124 => some (1)
  | 125 => some (2)
  | 126 => some (2)
  | 127 => some (1)
  | 128 => some (1)
  | 129 => some (1)
  | 130 => some (1)
  | 131 => some (1)
  | 132 => some (1)
  | 133 => some (1)
  | 134 => some (1)
  | 135 => some (1)
  | 136 => some (1)
  | 137 => some (1)
  | 138 => some (1)
  | 139 => some (1)
  | 140 => some (1)
  | 141 => some (1)
  | 142 => some (1)
  | 143 => some (1)
  | 144 => some (1)
  | 145 => some (1)
  | 146 => some (1)
  | 147 => some (1)
  | 148 => some (1)
  | 149 => some (1)
  | 150 => some (1)
  | 151 => some (1)
  | _ => none
set_option maxHeartbeats 8000000 in
theorem isz_2 (t : Nat) (n : Nat) (h : szOf_2 t = some n) : (Try.prog.info? t).map (·.size) = some n := by
  unfold szOf_2 at h
  split at h
  · cases h; exact isz110
  · cases h; exact isz111
  · cases h; exact isz112
  · cases h; exact isz113
  · cases h; exact isz114
  · cases h; exact isz115
  · cases h; exact isz116
  · cases h; exact isz117
  · cases h; exact isz118
  · cases h; exact isz119
  · cases h; exact isz120
  · cases h; exact isz121
  · cases h; exact isz122
  · cases h; exact isz123
  · cases h; exact isz124
  · cases h; exact isz125
  · cases h; exact isz126
  · cases h; exact isz127
  · cases h; exact isz128
  · cases h; exact isz129
  · cases h; exact isz130
  · cases h; exact isz131
  · cases h; exact isz132
  · cases h; exact isz133
  · cases h; exact isz134
  · cases h; exact isz135
  · cases h; exact isz136
  · cases h; exact isz137
  · cases h; exact isz138
  · cases h; exact isz139
  · cases h; exact isz140
  · cases h; exact isz141
  · cases h; exact isz142
  · cases h; exact isz143
  · cases h; exact isz144
  · cases h; exact isz145
  · cases h; exact isz146
  · cases h; exact isz147
  · cases h; exact isz148
  · cases h; exact isz149
  · cases h; exact isz150
  · cases h; exact isz151
  · cases h
def szOf (t : Nat) : Option Nat := (match szOf_0 t with | some x => some x | none => (match szOf_1 t with | some x => some x | none => (match szOf_2 t with | some x => some x | none => none)))
theorem isz (t : Nat) (n : Nat) (h : szOf t = some n) : (Try.prog.info? t).map (·.size) = some n := by
  unfold szOf at h
  cases e0 : szOf_0 t with
  | some x => rw [e0] at h; exact isz_0 t _ (e0.trans h)
  | none =>
  rw [e0] at h
  dsimp only at h
  cases e1 : szOf_1 t with
  | some x => rw [e1] at h; exact isz_1 t _ (e1.trans h)
  | none =>
  rw [e1] at h
  dsimp only at h
  cases e2 : szOf_2 t with
  | some x => rw [e2] at h; exact isz_2 t _ (e2.trans h)
  | none =>
  rw [e2] at h
  dsimp only at h
  cases h
def ifcOf : Nat → Bool
  | 20 => true
  | 54 => true
  | 55 => true
  | 129 => true
  | 130 => true
  | 137 => true
  | 138 => true
  | 139 => true
  | 140 => true
  | _ => false
set_option maxHeartbeats 8000000 in
theorem ifc (t : Nat) (h : ifcOf t = true) : ∃ ms, Try.prog.underlying t = some (.interface ms) := by
  unfold ifcOf at h
  split at h
  · exact ⟨_, Try.underlying20⟩
  · exact ⟨_, Try.underlying54⟩
  · exact ⟨_, Try.underlying55⟩
  · exact ⟨_, Try.underlying129⟩
  · exact ⟨_, Try.underlying130⟩
  · exact ⟨_, Try.underlying137⟩
  · exact ⟨_, Try.underlying138⟩
  · exact ⟨_, Try.underlying139⟩
  · exact ⟨_, Try.underlying140⟩
  · cases h
def aggOf : Nat → Bool
  | 7 => true
  | 8 => true
  | 13 => true
  | 14 => true
  | 18 => true
  | 19 => true
  | 28 => true
  | 29 => true
  | 30 => true
  | 31 => true
  | 42 => true
  | 43 => true
  | 44 => true
  | 46 => true
  | 47 => true
  | 48 => true
  | 49 => true
  | 50 => true
  | 51 => true
  | 52 => true
  | 53 => true
  | 56 => true
  | 57 => true
  | 69 => true
  | 70 => true
  | 72 => true
  | 73 => true
  | 74 => true
  | 81 => true
  | 82 => true
  | 85 => true
  | 86 => true
  | 87 => true
  | 88 => true
  | 98 => true
  | 99 => true
  | 100 => true
  | 109 => true
  | 110 => true
  | 111 => true
  | 112 => true
  | 113 => true
  | 121 => true
  | 122 => true
  | 125 => true
  | 126 => true
  | 145 => true
  | 146 => true
  | _ => false
set_option maxHeartbeats 8000000 in
theorem agg (t : Nat) (h : aggOf t = true) : (Try.prog.underlying t).map aggB = some true := by
  unfold aggOf at h
  split at h
  · rw [Try.underlying7]; rfl
  · rw [Try.underlying8]; rfl
  · rw [Try.underlying13]; rfl
  · rw [Try.underlying14]; rfl
  · rw [Try.underlying18]; rfl
  · rw [Try.underlying19]; rfl
  · rw [Try.underlying28]; rfl
  · rw [Try.underlying29]; rfl
  · rw [Try.underlying30]; rfl
  · rw [Try.underlying31]; rfl
  · rw [Try.underlying42]; rfl
  · rw [Try.underlying43]; rfl
  · rw [Try.underlying44]; rfl
  · rw [Try.underlying46]; rfl
  · rw [Try.underlying47]; rfl
  · rw [Try.underlying48]; rfl
  · rw [Try.underlying49]; rfl
  · rw [Try.underlying50]; rfl
  · rw [Try.underlying51]; rfl
  · rw [Try.underlying52]; rfl
  · rw [Try.underlying53]; rfl
  · rw [Try.underlying56]; rfl
  · rw [Try.underlying57]; rfl
  · rw [Try.underlying69]; rfl
  · rw [Try.underlying70]; rfl
  · rw [Try.underlying72]; rfl
  · rw [Try.underlying73]; rfl
  · rw [Try.underlying74]; rfl
  · rw [Try.underlying81]; rfl
  · rw [Try.underlying82]; rfl
  · rw [Try.underlying85]; rfl
  · rw [Try.underlying86]; rfl
  · rw [Try.underlying87]; rfl
  · rw [Try.underlying88]; rfl
  · rw [Try.underlying98]; rfl
  · rw [Try.underlying99]; rfl
  · rw [Try.underlying100]; rfl
  · rw [Try.underlying109]; rfl
  · rw [Try.underlying110]; rfl
  · rw [Try.underlying111]; rfl
  · rw [Try.underlying112]; rfl
  · rw [Try.underlying113]; rfl
  · rw [Try.underlying121]; rfl
  · rw [Try.underlying122]; rfl
  · rw [Try.underlying125]; rfl
  · rw [Try.underlying126]; rfl
  · rw [Try.underlying145]; rfl
  · rw [Try.underlying146]; rfl
  · cases h
def conOf_0 : Nat → Bool
  | 2 => true
  | 3 => true
  | 4 => true
  | 5 => true
  | 6 => true
  | 7 => true
  | 8 => true
  | 9 => true
  | 10 => true
  | 11 => true
  | 12 => true
  | 13 => true
  | 14 => true
  | 15 => true
  | 16 => true
  | 17 => true
  | 18 => true
  | 19 => true
  | 21 => true
  | 23 => true
  | 28 => true
  | 29 => true
  | 30 => true
  | 31 => true
  | 35 => true
  | 38 => true
  | 40 => true
  | 41 => true
  | 42 => true
  | 43 => true
  | 44 => true
  | 45 => true
  | 46 => true
  | 47 => true
  | 48 => true
  | 49 => true
  | 50 => true
  | 51 => true
  | 52 => true
  | 53 => true
  | 56 => true
  | 57 => true
  | 59 => true
  | 61 => true
  | 63 => true
  | 65 => true
  | 67 => true
  | 71 => true
  | 73 => true
  | 74 => true
  | _ => false
set_option maxHeartbeats 8000000 in
theorem con_0 (t : Nat) (h : conOf_0 t = true) : (Try.prog.underlying t).map concB = some true := by
  unfold conOf_0 at h
  split at h
  · rw [Try.underlying2]; rfl
  · rw [Try.underlying3]; rfl
  · rw [Try.underlying4]; rfl
  · rw [Try.underlying5]; rfl
  · rw [Try.underlying6]; rfl
  · rw [Try.underlying7]; rfl
  · rw [Try.underlying8]; rfl
  · rw [Try.underlying9]; rfl
  · rw [Try.underlying10]; rfl
  · rw [Try.underlying11]; rfl
  · rw [Try.underlying12]; rfl
  · rw [Try.underlying13]; rfl
  · rw [Try.underlying14]; rfl
  · rw [Try.underlying15]; rfl
  · rw [Try.underlying16]; rfl
  · rw [Try.underlying17]; rfl
  · rw [Try.underlying18]; rfl
  · rw [Try.underlying19]; rfl
  · rw [Try.underlying21]; rfl
  · rw [Try.underlying23]; rfl
  · rw [Try.underlying28]; rfl
  · rw [Try.underlying29]; rfl
  · rw [Try.underlying30]; rfl
  · rw [Try.underlying31]; rfl
  · rw [Try.underlying35]; rfl
  · rw [Try.underlying38]; rfl
  · rw [Try.underlying40]; rfl
  · rw [Try.underlying41]; rfl
  · rw [Try.underlying42]; rfl
  · rw [Try.underlying43]; rfl
  · rw [Try.underlying44]; rfl
  · rw [Try.underlying45]; rfl
  · rw [Try.underlying46]; rfl
  · rw [Try.underlying47]; rfl
  · rw [Try.underlying48]; rfl
  · rw [Try.underlying49]; rfl
  · rw [Try.underlying50]; rfl
  · rw [Try.underlying51]; rfl
  · rw [Try.underlying52]; rfl
  · rw [Try.underlying53]; rfl
  · rw [Try.underlying56]; rfl
  · rw [Try.underlying57]; rfl
  · rw [Try.underlying59]; rfl
  · rw [Try.underlying61]; rfl
  · rw [Try.underlying63]; rfl
  · rw [Try.underlying65]; rfl
  · rw [Try.underlying67]; rfl
  · rw [Try.underlying71]; rfl
  · rw [Try.underlying73]; rfl
  · rw [Try.underlying74]; rfl
  · cases h
def conOf_1 : Nat → Bool
  | 75 => true
  | 76 => true
  | 79 => true
  | 81 => true
  | 82 => true
  | 83 => true
  | 84 => true
  | 85 => true
  | 86 => true
  | 87 => true
  | 88 => true
  | 90 => true
  | 92 => true
  | 97 => true
  | 99 => true
  | 100 => true
  | 104 => true
  | 109 => true
  | 110 => true
  | 112 => true
  | 113 => true
  | 115 => true
  | 116 => true
  | 118 => true
  | 119 => true
  | 120 => true
  | 121 => true
  | 122 => true
  | 124 => true
  | 125 => true
  | 126 => true
  | 135 => true
  | 136 => true
  | 145 => true
  | 146 => true
  | _ => false
set_option maxHeartbeats 8000000 in
theorem con_1 (t : Nat) (h : conOf_1 t = true) : (Try.prog.underlying t).map concB = some true := by
  unfold conOf_1 at h
  split at h
  · rw [Try.underlying75]; rfl
  · rw [Try.underlying76]; rfl
  · rw [Try.underlying79]; rfl
  · rw [Try.underlying81]; rfl
  · rw [Try.underlying82]; rfl
  · rw [Try.underlying83]; rfl
  · rw [Try.underlying84]; rfl
  · rw [Try.underlying85]; rfl
  · rw [Try.underlying86]; rfl
  · rw [Try.underlying87]; rfl
  · rw [Try.underlying88]; rfl
  · rw [Try.underlying90]; rfl
  · rw [Try.underlying92]; rfl
  · rw [Try.underlying97]; rfl
  · rw [Try.underlying99]; rfl
  · rw [Try.underlying100]; rfl
  · rw [Try.underlying104]; rfl
  · rw [Try.underlying109]; rfl
  · rw [Try.underlying110]; rfl
  · rw [Try.underlying112]; rfl
  · rw [Try.underlying113]; rfl
  · rw [Try.underlying115]; rfl
  · rw [Try.underlying116]; rfl
  · rw [Try.underlying118]; rfl
  · rw [Try.underlying119]; rfl
  · rw [Try.underlying120]; rfl
  · rw [Try.underlying121]; rfl
  · rw [Try.underlying122]; rfl
  · rw [Try.underlying124]; rfl
  · rw [Try.underlying125]; rfl
  · rw [Try.underlying126]; rfl
  · rw [Try.underlying135]; rfl
  · rw [Try.underlying136]; rfl
  · rw [Try.underlying145]; rfl
  · rw [Try.underlying146]; rfl
  · cases h
def conOf (t : Nat) : Bool := (bif conOf_0 t then true else (bif conOf_1 t then true else false))
theorem con (t : Nat) (h : conOf t = true) : (Try.prog.underlying t).map concB = some true := by
  unfold conOf at h
  cases e0 : conOf_0 t with
  | true => exact con_0 t e0
  | false =>
  rw [e0] at h
  simp only [cond_false] at h
  cases e1 : conOf_1 t with
  | true => exact con_1 t e1
  | false =>
  rw [e1] at h
  simp only [cond_false] at h
  cases h
def fldOf7 : Nat → Option (Nat × Nat)
  | 0 => some (0, 2)
  | 1 => some (1, 3)
  | 2 => some (2, 4)
  | 3 => some (3, 6)
  | _ => none
theorem fld7 (f off ft : Nat) (h : fldOf7 f = some (off, ft)) : Fld Try.prog 7 f off ft := by
  unfold fldOf7 at h
  split at h
  · cases h; exact ⟨_, _, Try.underlying7, rfl, rfl, rfl⟩
  · cases h; exact ⟨_, _, Try.underlying7, rfl, rfl, rfl⟩
  · cases h; exact ⟨_, _, Try.underlying7, rfl, rfl, rfl⟩
  · cases h; exact ⟨_, _, Try.underlying7, rfl, rfl, rfl⟩
  · cases h
def fldOf8 : Nat → Option (Nat × Nat)
  | 0 => some (0, 2)
  | 1 => some (1, 3)
  | 2 => some (2, 4)
  | 3 => some (3, 6)
  | _ => none
theorem fld8 (f off ft : Nat) (h : fldOf8 f = some (off, ft)) : Fld Try.prog 8 f off ft := by
  unfold fldOf8 at h
  split at h
  · cases h; exact ⟨_, _, Try.underlying8, rfl, rfl, rfl⟩
  · cases h; exact ⟨_, _, Try.underlying8, rfl, rfl, rfl⟩
  · cases h; exact ⟨_, _, Try.underlying8, rfl, rfl, rfl⟩
  · cases h; exact ⟨_, _, Try.underlying8, rfl, rfl, rfl⟩
  · cases h
def fldOf13 : Nat → Option (Nat × Nat)
  | 0 => some (0, 9)
  | 1 => some (1, 12)
  | _ => none
theorem fld13 (f off ft : Nat) (h : fldOf13 f = some (off, ft)) : Fld Try.prog 13 f off ft := by
  unfold fldOf13 at h
  split at h
  · cases h; exact ⟨_, _, Try.underlying13, rfl, rfl, rfl⟩
  · cases h; exact ⟨_, _, Try.underlying13, rfl, rfl, rfl⟩
  · cases h
def fldOf14 : Nat → Option (Nat × Nat)
  | 0 => some (0, 9)
  | 1 => some (1, 12)
  | _ => none
theorem fld14 (f off ft : Nat) (h : fldOf14 f = some (off, ft)) : Fld Try.prog 14 f off ft := by
  unfold fldOf14 at h
  split at h
  · cases h; exact ⟨_, _, Try.underlying14, rfl, rfl, rfl⟩
  · cases h; exact ⟨_, _, Try.underlying14, rfl, rfl, rfl⟩
  · cases h
def fldOf18 : Nat → Option (Nat × Nat)
  | 0 => some (0, 17)
  | _ => none
theorem fld18 (f off ft : Nat) (h : fldOf18 f = some (off, ft)) : Fld Try.prog 18 f off ft := by
  unfold fldOf18 at h
  split at h
  · cases h; exact ⟨_, _, Try.underlying18, rfl, rfl, rfl⟩
  · cases h
def fldOf19 : Nat → Option (Nat × Nat)
  | 0 => some (0, 17)
  | _ => none
theorem fld19 (f off ft : Nat) (h : fldOf19 f = some (off, ft)) : Fld Try.prog 19 f off ft := by
  unfold fldOf19 at h
  split at h
  · cases h; exact ⟨_, _, Try.underlying19, rfl, rfl, rfl⟩
  · cases h
def fldOf28 : Nat → Option (Nat × Nat)
  | 0 => some (0, 3)
  | 1 => some (1, 3)
  | _ => none
theorem fld28 (f off ft : Nat) (h : fldOf28 f = some (off, ft)) : Fld Try.prog 28 f off ft := by
  unfold fldOf28 at h
  split at h
  · cases h; exact ⟨_, _, Try.underlying28, rfl, rfl, rfl⟩
  · cases h; exact ⟨_, _, Try.underlying28, rfl, rfl, rfl⟩
  · cases h
def fldOf29 : Nat → Option (Nat × Nat)
  | 0 => some (0, 3)
  | 1 => some (1, 3)
  | _ => none
theorem fld29 (f off ft : Nat) (h : fldOf29 f = some (off, ft)) : Fld Try.prog 29 f off ft := by
  unfold fldOf29 at h
  split at h
  · cases h; exact ⟨_, _, Try.underlying29, rfl, rfl, rfl⟩
  · cases h; exact ⟨_, _, Try.underlying29, rfl, rfl, rfl⟩
  · cases h
def fldOf30 : Nat → Option (Nat × Nat)
  | 0 => some (0, 29)
  | 1 => some (2, 21)
  | 2 => some (3, 3)
  | 3 => some (4, 4)
  | _ => none
theorem fld30 (f off ft : Nat) (h : fldOf30 f = some (off, ft)) : Fld Try.prog 30 f off ft := by
  unfold fldOf30 at h
  split at h
  · cases h; exact ⟨_, _, Try.underlying30, rfl, rfl, rfl⟩
  · cases h; exact ⟨_, _, Try.underlying30, rfl, rfl, rfl⟩
  · cases h; exact ⟨_, _, Try.underlying30, rfl, rfl, rfl⟩
  · cases h; exact ⟨_, _, Try.underlying30, rfl, rfl, rfl⟩
  · cases h
def fldOf31 : Nat → Option (Nat × Nat)
  | 0 => some (0, 29)
  | 1 => some (2, 21)
  | 2 => some (3, 3)
  | 3 => some (4, 4)
  | _ => none
theorem fld31 (f off ft : Nat) (h : fldOf31 f = some (off, ft)) : Fld Try.prog 31 f off ft := by
  unfold fldOf31 at h
  split at h
  · cases h; exact ⟨_, _, Try.underlying31, rfl, rfl, rfl⟩
  · cases h; exact ⟨_, _, Try.underlying31, rfl, rfl, rfl⟩
  · cases h; exact ⟨_, _, Try.underlying31, rfl, rfl, rfl⟩
  · cases h; exact ⟨_, _, Try.underlying31, rfl, rfl, rfl⟩
  · cases h
def fldOf46 : Nat → Option (Nat × Nat)
  | 0 => some (0, 44)
  | 1 => some (0, 45)
  | _ => none
theorem fld46 (f off ft : Nat) (h : fldOf46 f = some (off, ft)) : Fld Try.prog 46 f off ft := by
  unfold fldOf46 at h
  split at h
  · cases h; exact ⟨_, _, Try.underlying46, rfl, rfl, rfl⟩
  · cases h; exact ⟨_, _, Try.underlying46, rfl, rfl, rfl⟩
  · cases h
def fldOf47 : Nat → Option (Nat × Nat)
  | 0 => some (0, 44)
  | 1 => some (0, 45)
  | _ => none
theorem fld47 (f off ft : Nat) (h : fldOf47 f = some (off, ft)) : Fld Try.prog 47 f off ft := by
  unfold fldOf47 at h
  split at h
  · cases h; exact ⟨_, _, Try.underlying47, rfl, rfl, rfl⟩
  · cases h; exact ⟨_, _, Try.underlying47, rfl, rfl, rfl⟩
  · cases h
def fldOf48 : Nat → Option (Nat × Nat)
  | 0 => some (0, 21)
  | 1 => some (1, 45)
  | _ => none
theorem fld48 (f off ft : Nat) (h : fldOf48 f = some (off, ft)) : Fld Try.prog 48 f off ft := by
  unfold fldOf48 at h
  split at h
  · cases h; exact ⟨_, _, Try.underlying48, rfl, rfl, rfl⟩
  · cases h; exact ⟨_, _, Try.underlying48, rfl, rfl, rfl⟩
  · cases h
def fldOf49 : Nat → Option (Nat × Nat)
  | 0 => some (0, 21)
  | 1 => some (1, 45)
  | _ => none
theorem fld49 (f off ft : Nat) (h : fldOf49 f = some (off, ft)) : Fld Try.prog 49 f off ft := by
  unfold fldOf49 at h
  split at h
  · cases h; exact ⟨_, _, Try.underlying49, rfl, rfl, rfl⟩
  · cases h; exact ⟨_, _, Try.underlying49, rfl, rfl, rfl⟩
  · cases h
def fldOf50 : Nat → Option (Nat × Nat)
  | 0 => some (0, 43)
  | 1 => some (0, 49)
  | _ => none
theorem fld50 (f off ft : Nat) (h : fldOf50 f = some (off, ft)) : Fld Try.prog 50 f off ft := by
  unfold fldOf50 at h
  split at h
  · cases h; exact ⟨_, _, Try.underlying50, rfl, rfl, rfl⟩
  · cases h; exact ⟨_, _, Try.underlying50, rfl, rfl, rfl⟩
  · cases h
def fldOf51 : Nat → Option (Nat × Nat)
  | 0 => some (0, 43)
  | 1 => some (0, 49)
  | _ => none
theorem fld51 (f off ft : Nat) (h : fldOf51 f = some (off, ft)) : Fld Try.prog 51 f off ft := by
  unfold fldOf51 at h
  split at h
  · cases h; exact ⟨_, _, Try.underlying51, rfl, rfl, rfl⟩
  · cases h; exact ⟨_, _, Try.underlying51, rfl, rfl, rfl⟩
  · cases h
def fldOf52 : Nat → Option (Nat × Nat)
  | 0 => some (0, 43)
  | 1 => some (0, 47)
  | 2 => some (1, 51)
  | _ => none
theorem fld52 (f off ft : Nat) (h : fldOf52 f = some (off, ft)) : Fld Try.prog 52 f off ft := by
  unfold fldOf52 at h
  split at h
  · cases h; exact ⟨_, _, Try.underlying52, rfl, rfl, rfl⟩
  · cases h; exact ⟨_, _, Try.underlying52, rfl, rfl, rfl⟩
  · cases h; exact ⟨_, _, Try.underlying52, rfl, rfl, rfl⟩
  · cases h
def fldOf53 : Nat → Option (Nat × Nat)
  | 0 => some (0, 43)
  | 1 => some (0, 47)
  | 2 => some (1, 51)
  | _ => none
theorem fld53 (f off ft : Nat) (h : fldOf53 f = some (off, ft)) : Fld Try.prog 53 f off ft := by
  unfold fldOf53 at h
  split at h
  · cases h; exact ⟨_, _, Try.underlying53, rfl, rfl, rfl⟩
  · cases h; exact ⟨_, _, Try.underlying53, rfl, rfl, rfl⟩
  · cases h; exact ⟨_, _, Try.underlying53, rfl, rfl, rfl⟩
  · cases h
def fldOf56 : Nat → Option (Nat × Nat)
  | 0 => some (0, 53)
  | 1 => some (3, 55)
  | 2 => some (4, 41)
  | _ => none
theorem fld56 (f off ft : Nat) (h : fldOf56 f = some (off, ft)) : Fld Try.prog 56 f off ft := by
  unfold fldOf56 at h
  split at h
  · cases h; exact ⟨_, _, Try.underlying56, rfl, rfl, rfl⟩
  · cases h; exact ⟨_, _, Try.underlying56, rfl, rfl, rfl⟩
  · cases h; exact ⟨_, _, Try.underlying56, rfl, rfl, rfl⟩
  · cases h
def fldOf57 : Nat → Option (Nat × Nat)
  | 0 => some (0, 53)
  | 1 => some (3, 55)
  | 2 => some (4, 41)
  | _ => none
theorem fld57 (f off ft : Nat) (h : fldOf57 f = some (off, ft)) : Fld Try.prog 57 f off ft := by
  unfold fldOf57 at h
  split at h
  · cases h; exact ⟨_, _, Try.underlying57, rfl, rfl, rfl⟩
  · cases h; exact ⟨_, _, Try.underlying57, rfl, rfl, rfl⟩
  · cases h; exact ⟨_, _, Try.underlying57, rfl, rfl, rfl⟩
  · cases h
def fldOf81 : Nat → Option (Nat × Nat)
  | 0 => some (0, 79)
  | 1 => some (1, 9)
  | _ => none
theorem fld81 (f off ft : Nat) (h : fldOf81 f = some (off, ft)) : Fld Try.prog 81 f off ft := by
  unfold fldOf81 at h
  split at h
  · cases h; exact ⟨_, _, Try.underlying81, rfl, rfl, rfl⟩
  · cases h; exact ⟨_, _, Try.underlying81, rfl, rfl, rfl⟩
  · cases h
def fldOf82 : Nat → Option (Nat × Nat)
  | 0 => some (0, 79)
  | 1 => some (1, 9)
  | _ => none
theorem fld82 (f off ft : Nat) (h : fldOf82 f = some (off, ft)) : Fld Try.prog 82 f off ft := by
  unfold fldOf82 at h
  split at h
  · cases h; exact ⟨_, _, Try.underlying82, rfl, rfl, rfl⟩
  · cases h; exact ⟨_, _, Try.underlying82, rfl, rfl, rfl⟩
  · cases h
def fldOf85 : Nat → Option (Nat × Nat)
  | 0 => some (0, 9)
  | 1 => some (1, 3)
  | 2 => some (2, 9)
  | 3 => some (3, 83)
  | 4 => some (4, 84)
  | _ => none
theorem fld85 (f off ft : Nat) (h : fldOf85 f = some (off, ft)) : Fld Try.prog 85 f off ft := by
  unfold fldOf85 at h
  split at h
  · cases h; exact ⟨_, _, Try.underlying85, rfl, rfl, rfl⟩
  · cases h; exact ⟨_, _, Try.underlying85, rfl, rfl, rfl⟩
  · cases h; exact ⟨_, _, Try.underlying85, rfl, rfl, rfl⟩
  · cases h; exact ⟨_, _, Try.underlying85, rfl, rfl, rfl⟩
  · cases h; exact ⟨_, _, Try.underlying85, rfl, rfl, rfl⟩
  · cases h
def fldOf86 : Nat → Option (Nat × Nat)
  | 0 => some (0, 9)
  | 1 => some (1, 3)
  | 2 => some (2, 9)
  | 3 => some (3, 83)
  | 4 => some (4, 84)
  | _ => none
theorem fld86 (f off ft : Nat) (h : fldOf86 f = some (off, ft)) : Fld Try.prog 86 f off ft := by
  unfold fldOf86 at h
  split at h
  · cases h; exact ⟨_, _, Try.underlying86, rfl, rfl, rfl⟩
  · cases h; exact ⟨_, _, Try.underlying86, rfl, rfl, rfl⟩
  · cases h; exact ⟨_, _, Try.underlying86, rfl, rfl, rfl⟩
  · cases h; exact ⟨_, _, Try.underlying86, rfl, rfl, rfl⟩
  · cases h; exact ⟨_, _, Try.underlying86, rfl, rfl, rfl⟩
  · cases h
def fldOf109 : Nat → Option (Nat × Nat)
  | 0 => some (0, 17)
  | 1 => some (1, 17)
  | 2 => some (2, 17)
  | 3 => some (3, 9)
  | _ => none
theorem fld109 (f off ft : Nat) (h : fldOf109 f = some (off, ft)) : Fld Try.prog 109 f off ft := by
  unfold fldOf109 at h
  split at h
  · cases h; exact ⟨_, _, Try.underlying109, rfl, rfl, rfl⟩
  · cases h; exact ⟨_, _, Try.underlying109, rfl, rfl, rfl⟩
  · cases h; exact ⟨_, _, Try.underlying109, rfl, rfl, rfl⟩
  · cases h; exact ⟨_, _, Try.underlying109, rfl, rfl, rfl⟩
  · cases h
def fldOf110 : Nat → Option (Nat × Nat)
  | 0 => some (0, 17)
  | 1 => some (1, 17)
  | 2 => some (2, 17)
  | 3 => some (3, 9)
  | _ => none
theorem fld110 (f off ft : Nat) (h : fldOf110 f = some (off, ft)) : Fld Try.prog 110 f off ft := by
  unfold fldOf110 at h
  split at h
  · cases h; exact ⟨_, _, Try.underlying110, rfl, rfl, rfl⟩
  · cases h; exact ⟨_, _, Try.underlying110, rfl, rfl, rfl⟩
  · cases h; exact ⟨_, _, Try.underlying110, rfl, rfl, rfl⟩
  · cases h; exact ⟨_, _, Try.underlying110, rfl, rfl, rfl⟩
  · cases h
def fldOf112 : Nat → Option (Nat × Nat)
  | 0 => some (0, 111)
  | _ => none
theorem fld112 (f off ft : Nat) (h : fldOf112 f = some (off, ft)) : Fld Try.prog 112 f off ft := by
  unfold fldOf112 at h
  split at h
  · cases h; exact ⟨_, _, Try.underlying112, rfl, rfl, rfl⟩
  · cases h
def fldOf113 : Nat → Option (Nat × Nat)
  | 0 => some (0, 111)
  | _ => none
theorem fld113 (f off ft : Nat) (h : fldOf113 f = some (off, ft)) : Fld Try.prog 113 f off ft := by
  unfold fldOf113 at h
  split at h
  · cases h; exact ⟨_, _, Try.underlying113, rfl, rfl, rfl⟩
  · cases h
def fldOf121 : Nat → Option (Nat × Nat)
  | 0 => some (0, 12)
  | 1 => some (1, 12)
  | 2 => some (2, 45)
  | 3 => some (3, 115)
  | 4 => some (4, 5)
  | 5 => some (5, 5)
  | 6 => some (6, 116)
  | 7 => some (7, 117)
  | 8 => some (8, 118)
  | 9 => some (9, 119)
  | 10 => some (10, 120)
  | _ => none
theorem fld121 (f off ft : Nat) (h : fldOf121 f = some (off, ft)) : Fld Try.prog 121 f off ft := by
  unfold fldOf121 at h
  split at h
  · cases h; exact ⟨_, _, Try.underlying121, rfl, rfl, rfl⟩
  · cases h; exact ⟨_, _, Try.underlying121, rfl, rfl, rfl⟩
  · cases h; exact ⟨_, _, Try.underlying121, rfl, rfl, rfl⟩
  · cases h; exact ⟨_, _, Try.underlying121, rfl, rfl, rfl⟩
  · cases h; exact ⟨_, _, Try.underlying121, rfl, rfl, rfl⟩
  · cases h; exact ⟨_, _, Try.underlying121, rfl, rfl, rfl⟩
  · cases h; exact ⟨_, _, Try.underlying121, rfl, rfl, rfl⟩
  · cases h; exact ⟨_, _, Try.underlying121, rfl, rfl, rfl⟩
  · cases h; exact ⟨_, _, Try.underlying121, rfl, rfl, rfl⟩
  · cases h; exact ⟨_, _, Try.underlying121, rfl, rfl, rfl⟩
  · cases h; exact ⟨_, _, Try.underlying121, rfl, rfl, rfl⟩
  · cases h
def fldOf122 : Nat → Option (Nat × Nat)
  | 0 => some (0, 12)
  | 1 => some (1, 12)
  | 2 => some (2, 45)
  | 3 => some (3, 115)
  | 4 => some (4, 5)
  | 5 => some (5, 5)
  | 6 => some (6, 116)
  | 7 => some (7, 117)
  | 8 => some (8, 118)
  | 9 => some (9, 119)
  | 10 => some (10, 120)
  | _ => none
theorem fld122 (f off ft : Nat) (h : fldOf122 f = some (off, ft)) : Fld Try.prog 122 f off ft := by
  unfold fldOf122 at h
  split at h
  · cases h; exact ⟨_, _, Try.underlying122, rfl, rfl, rfl⟩
  · cases h; exact ⟨_, _, Try.underlying122, rfl, rfl, rfl⟩
  · cases h; exact ⟨_, _, Try.underlying122, rfl, rfl, rfl⟩
  · cases h; exact ⟨_, _, Try.underlying122, rfl, rfl, rfl⟩
  · cases h; exact ⟨_, _, Try.underlying122, rfl, rfl, rfl⟩
  · cases h; exact ⟨_, _, Try.underlying122, rfl, rfl, rfl⟩
  · cases h; exact ⟨_, _, Try.underlying122, rfl, rfl, rfl⟩
  · cases h; exact ⟨_, _, Try.underlying122, rfl, rfl, rfl⟩
  · cases h; exact ⟨_, _, Try.underlying122, rfl, rfl, rfl⟩
  · cases h; exact ⟨_, _, Try.underlying122, rfl, rfl, rfl⟩
  · cases h; exact ⟨_, _, Try.underlying122, rfl, rfl, rfl⟩
  · cases h
def fldOf125 : Nat → Option (Nat × Nat)
  | 0 => some (0, 124)
  | 1 => some (1, 40)
  | _ => none
theorem fld125 (f off ft : Nat) (h : fldOf125 f = some (off, ft)) : Fld Try.prog 125 f off ft := by
  unfold fldOf125 at h
  split at h
  · cases h; exact ⟨_, _, Try.underlying125, rfl, rfl, rfl⟩
  · cases h; exact ⟨_, _, Try.underlying125, rfl, rfl, rfl⟩
  · cases h
def fldOf126 : Nat → Option (Nat × Nat)
  | 0 => some (0, 124)
  | 1 => some (1, 40)
  | _ => none
theorem fld126 (f off ft : Nat) (h : fldOf126 f = some (off, ft)) : Fld Try.prog 126 f off ft := by
  unfold fldOf126 at h
  split at h
  · cases h; exact ⟨_, _, Try.underlying126, rfl, rfl, rfl⟩
  · cases h; exact ⟨_, _, Try.underlying126, rfl, rfl, rfl⟩
  · cases h
def fldOf145 : Nat → Option (Nat × Nat)
  | 0 => some (0, 138)
  | _ => none
theorem fld145 (f off ft : Nat) (h : fldOf145 f = some (off, ft)) : Fld Try.prog 145 f off ft := by
  unfold fldOf145 at h
  split at h
  · cases h; exact ⟨_, _, Try.underlying145, rfl, rfl, rfl⟩
  · cases h
def fldOf146 : Nat → Option (Nat × Nat)
  | 0 => some (0, 138)
  | _ => none
theorem fld146 (f off ft : Nat) (h : fldOf146 f = some (off, ft)) : Fld Try.prog 146 f off ft := by
  unfold fldOf146 at h
  split at h
  · cases h; exact ⟨_, _, Try.underlying146, rfl, rfl, rfl⟩
  · cases h
def fldOf (t f : Nat) : Option (Nat × Nat) :=
  match t with
  | 7 => fldOf7 f
  | 8 => fldOf8 f
  | 13 => fldOf13 f
  | 14 => fldOf14 f
  | 18 => fldOf18 f
  | 19 => fldOf19 f
  | 28 => fldOf28 f
  | 29 => fldOf29 f
  | 30 => fldOf30 f
  | 31 => fldOf31 f
  | 46 => fldOf46 f
  | 47 => fldOf47 f
  | 48 => fldOf48 f
  | 49 => fldOf49 f
  | 50 => fldOf50 f
  | 51 => fldOf51 f
  | 52 => fldOf52 f
  | 53 => fldOf53 f
  | 56 => fldOf56 f
  | 57 => fldOf57 f
  | 81 => fldOf81 f
  | 82 => fldOf82 f
  | 85 => fldOf85 f
  | 86 => fldOf86 f
  | 109 => fldOf109 f
  | 110 => fldOf110 f
  | 112 => fldOf112 f
  | 113 => fldOf113 f
  | 121 => fldOf121 f
  | 122 => fldOf122 f
  | 125 => fldOf125 f
  | 126 => fldOf126 f
  | 145 => fldOf145 f
  | 146 => fldOf146 f
  | _ => none
set_option maxHeartbeats 8000000 in
theorem fld (t f off ft : Nat) (h : fldOf t f = some (off, ft)) : Fld Try.prog t f off ft := by
  unfold fldOf at h
  split at h
  · exact fld7 _ _ _ h
  · exact fld8 _ _ _ h
  · exact fld13 _ _ _ h
  · exact fld14 _ _ _ h
  · exact fld18 _ _ _ h
  · exact fld19 _ _ _ h
  · exact fld28 _ _ _ h
  · exact fld29 _ _ _ h
  · exact fld30 _ _ _ h
  · exact fld31 _ _ _ h
  · exact fld46 _ _ _ h
  · exact fld47 _ _ _ h
  · exact fld48 _ _ _ h
  · exact fld49 _ _ _ h
  · exact fld50 _ _ _ h
  · exact fld51 _ _ _ h
  · exact fld52 _ _ _ h
  · exact fld53 _ _ _ h
  · exact fld56 _ _ _ h
  · exact fld57 _ _ _ h
  · exact fld81 _ _ _ h
  · exact fld82 _ _ _ h
  · exact fld85 _ _ _ h
  · exact fld86 _ _ _ h
  · exact fld109 _ _ _ h
  · exact fld110 _ _ _ h
  · exact fld112 _ _ _ h
  · exact fld113 _ _ _ h
  · exact fld121 _ _ _ h
  · exact fld122 _ _ _ h
  · exact fld125 _ _ _ h
  · exact fld126 _ _ _ h
  · exact fld145 _ _ _ h
  · exact fld146 _ _ _ h
  · cases h
/-- busbar/busbarlaw03.CharsNames -/
theorem cal3 : Callable Try.prog 3 := ⟨⟨_, Try.func3, by kernel_rfl, by kernel_rfl⟩⟩
/-- busbar/busbarlaw03.CharsAll -/
theorem cal4 : Callable Try.prog 4 := ⟨⟨_, Try.func4, by kernel_rfl, by kernel_rfl⟩⟩
/-- busbar/busbarlaw03.CharsQuotes -/
theorem cal5 : Callable Try.prog 5 := ⟨⟨_, Try.func5, by kernel_rfl, by kernel_rfl⟩⟩
/-- busbar/busbarlaw03.CharsRange -/
theorem cal6 : Callable Try.prog 6 := ⟨⟨_, Try.func6, by kernel_rfl, by kernel_rfl⟩⟩
/-- busbar/chars.Name -/
theorem cal7 : Callable Try.prog 7 := ⟨⟨_, Try.func7, by kernel_rfl, by kernel_rfl⟩⟩
/-- busbar/busbarref03.Name -/
theorem cal8 : Callable Try.prog 8 := ⟨⟨_, Try.func8, by kernel_rfl, by kernel_rfl⟩⟩
/-- busbar/busbarlaw03.long -/
theorem cal9 : Callable Try.prog 9 := ⟨⟨_, Try.func9, by kernel_rfl, by kernel_rfl⟩⟩
/-- busbar/busbarref03.Units -/
theorem cal10 : Callable Try.prog 10 := ⟨⟨_, Try.func10, by kernel_rfl, by kernel_rfl⟩⟩
/-- busbar/chars.All -/
theorem cal11 : Callable Try.prog 11 := ⟨⟨_, Try.func11, by kernel_rfl, by kernel_rfl⟩⟩
/-- busbar/chars.Quote -/
theorem cal12 : Callable Try.prog 12 := ⟨⟨_, Try.func12, by kernel_rfl, by kernel_rfl⟩⟩
/-- busbar/busbarref03.Quote -/
theorem cal13 : Callable Try.prog 13 := ⟨⟨_, Try.func13, by kernel_rfl, by kernel_rfl⟩⟩
/-- busbar/busbarlaw03.works -/
theorem cal14 : Callable Try.prog 14 := ⟨⟨_, Try.func14, by kernel_rfl, by kernel_rfl⟩⟩
/-- busbar/chars.letter -/
theorem cal15 : Callable Try.prog 15 := ⟨⟨_, Try.func15, by kernel_rfl, by kernel_rfl⟩⟩
/-- busbar/chars.All$1 -/
theorem cal16 : Callable Try.prog 16 := ⟨⟨_, Try.func16, by kernel_rfl, by kernel_rfl⟩⟩
/-- strings.NewReplacer -/
theorem cal17 : Callable Try.prog 17 := ⟨⟨_, Try.func17, by kernel_rfl, by kernel_rfl⟩⟩
/-- (*strings.Replacer).Replace -/
theorem cal18 : Callable Try.prog 18 := ⟨⟨_, Try.func18, by kernel_rfl, by kernel_rfl⟩⟩
/-- (*sync.Once).Do -/
theorem cal19 : Callable Try.prog 19 := ⟨⟨_, Try.func19, by kernel_rfl, by kernel_rfl⟩⟩
/-- (*strings.Replacer).buildOnce -/
theorem cal20 : Callable Try.prog 20 := ⟨⟨_, Try.func20, by kernel_rfl, by kernel_rfl⟩⟩
/-- (*sync/atomic.Bool).Load -/
theorem cal21 : Callable Try.prog 21 := ⟨⟨_, Try.func21, by kernel_rfl, by kernel_rfl⟩⟩
/-- (*sync.Once).doSlow -/
theorem cal22 : Callable Try.prog 22 := ⟨⟨_, Try.func22, by kernel_rfl, by kernel_rfl⟩⟩
/-- (*strings.Replacer).build -/
theorem cal23 : Callable Try.prog 23 := ⟨⟨_, Try.func23, by kernel_rfl, by kernel_rfl⟩⟩
/-- (*sync.Mutex).Lock -/
theorem cal25 : Callable Try.prog 25 := ⟨⟨_, Try.func25, by kernel_rfl, by kernel_rfl⟩⟩
/-- (*sync.Mutex).Unlock -/
theorem cal26 : Callable Try.prog 26 := ⟨⟨_, Try.func26, by kernel_rfl, by kernel_rfl⟩⟩
/-- (*sync/atomic.Bool).Store -/
theorem cal27 : Callable Try.prog 27 := ⟨⟨_, Try.func27, by kernel_rfl, by kernel_rfl⟩⟩
/-- strings.makeSingleStringReplacer -/
theorem cal28 : Callable Try.prog 28 := ⟨⟨_, Try.func28, by kernel_rfl, by kernel_rfl⟩⟩
/-- strings.makeGenericReplacer -/
theorem cal29 : Callable Try.prog 29 := ⟨⟨_, Try.func29, by kernel_rfl, by kernel_rfl⟩⟩
/-- (*internal/sync.Mutex).Lock -/
theorem cal30 : Callable Try.prog 30 := ⟨⟨_, Try.func30, by kernel_rfl, by kernel_rfl⟩⟩
/-- (*internal/sync.Mutex).Unlock -/
theorem cal31 : Callable Try.prog 31 := ⟨⟨_, Try.func31, by kernel_rfl, by kernel_rfl⟩⟩
/-- sync/atomic.b32 -/
theorem cal33 : Callable Try.prog 33 := ⟨⟨_, Try.func33, by kernel_rfl, by kernel_rfl⟩⟩
/-- strings.makeStringFinder -/
theorem cal34 : Callable Try.prog 34 := ⟨⟨_, Try.func34, by kernel_rfl, by kernel_rfl⟩⟩
/-- (*strings.trieNode).add -/
theorem cal35 : Callable Try.prog 35 := ⟨⟨_, Try.func35, by kernel_rfl, by kernel_rfl⟩⟩
/-- (*internal/sync.Mutex).lockSlow -/
theorem cal40 : Callable Try.prog 40 := ⟨⟨_, Try.func40, by kernel_rfl, by kernel_rfl⟩⟩
/-- (*internal/sync.Mutex).unlockSlow -/
theorem cal43 : Callable Try.prog 43 := ⟨⟨_, Try.func43, by kernel_rfl, by kernel_rfl⟩⟩
/-- strings.HasPrefix -/
theorem cal44 : Callable Try.prog 44 := ⟨⟨_, Try.func44, by kernel_rfl, by kernel_rfl⟩⟩
/-- strings.longestCommonSuffix -/
theorem cal45 : Callable Try.prog 45 := ⟨⟨_, Try.func45, by kernel_rfl, by kernel_rfl⟩⟩
/-- internal/stringslite.HasPrefix -/
theorem cal53 : Callable Try.prog 53 := ⟨⟨_, Try.func53, by kernel_rfl, by kernel_rfl⟩⟩
/-- (*strings.singleStringReplacer).Replace -/
theorem cal69 : Callable Try.prog 69 := ⟨⟨_, Try.func69, by kernel_rfl, by kernel_rfl⟩⟩
/-- (*strings.singleStringReplacer).WriteString -/
theorem cal70 : Callable Try.prog 70 := ⟨⟨_, Try.func70, by kernel_rfl, by kernel_rfl⟩⟩
/-- (*strings.stringFinder).next -/
theorem cal71 : Callable Try.prog 71 := ⟨⟨_, Try.func71, by kernel_rfl, by kernel_rfl⟩⟩
/-- (*strings.Builder).Grow -/
theorem cal72 : Callable Try.prog 72 := ⟨⟨_, Try.func72, by kernel_rfl, by kernel_rfl⟩⟩
/-- (*strings.Builder).WriteString -/
theorem cal73 : Callable Try.prog 73 := ⟨⟨_, Try.func73, by kernel_rfl, by kernel_rfl⟩⟩
/-- (*strings.Builder).String -/
theorem cal74 : Callable Try.prog 74 := ⟨⟨_, Try.func74, by kernel_rfl, by kernel_rfl⟩⟩
/-- (*strings.Builder).copyCheck -/
theorem cal75 : Callable Try.prog 75 := ⟨⟨_, Try.func75, by kernel_rfl, by kernel_rfl⟩⟩
/-- (*strings.Builder).grow -/
theorem cal76 : Callable Try.prog 76 := ⟨⟨_, Try.func76, by kernel_rfl, by kernel_rfl⟩⟩
/-- (*strings.genericReplacer).Replace -/
theorem cal79 : Callable Try.prog 79 := ⟨⟨_, Try.func79, by kernel_rfl, by kernel_rfl⟩⟩
/-- (*strings.genericReplacer).WriteString -/
theorem cal80 : Callable Try.prog 80 := ⟨⟨_, Try.func80, by kernel_rfl, by kernel_rfl⟩⟩
/-- strings.getStringWriter -/
theorem cal81 : Callable Try.prog 81 := ⟨⟨_, Try.func81, by kernel_rfl, by kernel_rfl⟩⟩
/-- (*strings.genericReplacer).lookup -/
theorem cal82 : Callable Try.prog 82 := ⟨⟨_, Try.func82, by kernel_rfl, by kernel_rfl⟩⟩
/-- (*strings.byteReplacer).Replace -/
theorem cal83 : Callable Try.prog 83 := ⟨⟨_, Try.func83, by kernel_rfl, by kernel_rfl⟩⟩
/-- (*strings.byteReplacer).WriteString -/
theorem cal84 : Callable Try.prog 84 := ⟨⟨_, Try.func84, by kernel_rfl, by kernel_rfl⟩⟩
/-- (*strings.byteStringReplacer).Replace -/
theorem cal85 : Callable Try.prog 85 := ⟨⟨_, Try.func85, by kernel_rfl, by kernel_rfl⟩⟩
/-- (*strings.byteStringReplacer).WriteString -/
theorem cal86 : Callable Try.prog 86 := ⟨⟨_, Try.func86, by kernel_rfl, by kernel_rfl⟩⟩
/-- strings.Count -/
theorem cal87 : Callable Try.prog 87 := ⟨⟨_, Try.func87, by kernel_rfl, by kernel_rfl⟩⟩
/-- unicode/utf8.RuneCountInString -/
theorem cal88 : Callable Try.prog 88 := ⟨⟨_, Try.func88, by kernel_rfl, by kernel_rfl⟩⟩
/-- strings.Index -/
theorem cal90 : Callable Try.prog 90 := ⟨⟨_, Try.func90, by kernel_rfl, by kernel_rfl⟩⟩
/-- internal/stringslite.Index -/
theorem cal91 : Callable Try.prog 91 := ⟨⟨_, Try.func91, by kernel_rfl, by kernel_rfl⟩⟩
/-- internal/stringslite.IndexByte -/
theorem cal92 : Callable Try.prog 92 := ⟨⟨_, Try.func92, by kernel_rfl, by kernel_rfl⟩⟩
/-- internal/bytealg.Cutover -/
theorem cal94 : Callable Try.prog 94 := ⟨⟨_, Try.func94, by kernel_rfl, by kernel_rfl⟩⟩
/-- internal/bytealg.IndexRabinKarp[string] -/
theorem cal95 : Callable Try.prog 95 := ⟨⟨_, Try.func95, by kernel_rfl, by kernel_rfl⟩⟩
/-- internal/bytealg.hashStr[string] -/
theorem cal97 : Callable Try.prog 97 := ⟨⟨_, Try.func97, by kernel_rfl, by kernel_rfl⟩⟩
/-- (*strings.Builder).Write -/
theorem cal100 : Callable Try.prog 100 := ⟨⟨_, Try.func100, by kernel_rfl, by kernel_rfl⟩⟩
/-- (*strings.appendSliceWriter).Write -/
theorem cal101 : Callable Try.prog 101 := ⟨⟨_, Try.func101, by kernel_rfl, by kernel_rfl⟩⟩
/-- (*strings.appendSliceWriter).WriteString -/
theorem cal102 : Callable Try.prog 102 := ⟨⟨_, Try.func102, by kernel_rfl, by kernel_rfl⟩⟩
/-- (strings.stringWriter).WriteString -/
theorem cal103 : Callable Try.prog 103 := ⟨⟨_, Try.func103, by kernel_rfl, by kernel_rfl⟩⟩
/-- (*strings.Replacer).WriteString -/
theorem cal104 : Callable Try.prog 104 := ⟨⟨_, Try.func104, by kernel_rfl, by kernel_rfl⟩⟩
end Go.Proofs.Ytnohefaifbghiaa
