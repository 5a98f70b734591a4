/- Laid together by a program of mine: Facts. -/
import Derived.Test.YtjomihhpglojpaaDoorProg
import Derived.Test.YtjomihhpglojpaaDoorSumLawKnownCS2
import Derived.KernelRfl
set_option linter.unusedSimpArgs false
set_option linter.unusedVariables false
section
/- Facts of the seat's tables: each type's size and zero, each function's call. Written by my own gen.py off the translation's rows. -/
namespace Go.Proofs.YtjomihhpglojpaaDoor
theorem mixed : Tryd.prog.follows .mixedOrders = true := by kernel_rfl
theorem isz0 : (Tryd.prog.info? 0).map (·.size) = some 1 := by kernel_rfl
theorem isz1 : (Tryd.prog.info? 1).map (·.size) = some 1 := by kernel_rfl
theorem isz2 : (Tryd.prog.info? 2).map (·.size) = some 1 := by kernel_rfl
theorem inf2 : (Tryd.prog.info? 2).map (fun i => (i.zero, i.size, i.bytes)) = some (some (.int .i64 0), 1, 8) := by kernel_rfl
theorem isz3 : (Tryd.prog.info? 3).map (·.size) = some 1 := by kernel_rfl
theorem inf3 : (Tryd.prog.info? 3).map (fun i => (i.zero, i.size, i.bytes)) = some (some (.int .i64 0), 1, 8) := by kernel_rfl
theorem isz4 : (Tryd.prog.info? 4).map (·.size) = some 1 := by kernel_rfl
theorem isz5 : (Tryd.prog.info? 5).map (·.size) = some 1 := by kernel_rfl
theorem inf5 : (Tryd.prog.info? 5).map (fun i => (i.zero, i.size, i.bytes)) = some (some (.int .u8 0), 1, 1) := by kernel_rfl
theorem isz6 : (Tryd.prog.info? 6).map (·.size) = some 1 := by kernel_rfl
theorem isz7 : (Tryd.prog.info? 7).map (·.size) = some 4 := by kernel_rfl
theorem isz8 : (Tryd.prog.info? 8).map (·.size) = some 4 := by kernel_rfl
theorem isz9 : (Tryd.prog.info? 9).map (·.size) = some 1 := by kernel_rfl
theorem inf9 : (Tryd.prog.info? 9).map (fun i => (i.zero, i.size, i.bytes)) = some (some (.string ⟨#[]⟩), 1, 16) := by kernel_rfl
theorem isz10 : (Tryd.prog.info? 10).map (·.size) = some 1 := by kernel_rfl
theorem isz11 : (Tryd.prog.info? 11).map (·.size) = some 1 := by kernel_rfl
theorem isz12 : (Tryd.prog.info? 12).map (·.size) = some 1 := by kernel_rfl
theorem isz13 : (Tryd.prog.info? 13).map (·.size) = some 2 := by kernel_rfl
theorem isz14 : (Tryd.prog.info? 14).map (·.size) = some 2 := by kernel_rfl
theorem isz15 : (Tryd.prog.info? 15).map (·.size) = some 1 := by kernel_rfl
theorem isz16 : (Tryd.prog.info? 16).map (·.size) = some 1 := by kernel_rfl
theorem isz17 : (Tryd.prog.info? 17).map (·.size) = some 1 := by kernel_rfl
theorem isz18 : (Tryd.prog.info? 18).map (·.size) = some 1 := by kernel_rfl
theorem isz19 : (Tryd.prog.info? 19).map (·.size) = some 1 := by kernel_rfl
theorem isz20 : (Tryd.prog.info? 20).map (·.size) = some 1 := by kernel_rfl
theorem isz21 : (Tryd.prog.info? 21).map (·.size) = some 1 := by kernel_rfl
theorem isz22 : (Tryd.prog.info? 22).map (·.size) = some 2 := by kernel_rfl
theorem isz23 : (Tryd.prog.info? 23).map (·.size) = some 2 := by kernel_rfl
theorem isz24 : (Tryd.prog.info? 24).map (·.size) = some 1 := by kernel_rfl
theorem isz25 : (Tryd.prog.info? 25).map (·.size) = some 1 := by kernel_rfl
theorem isz26 : (Tryd.prog.info? 26).map (·.size) = some 8 := by kernel_rfl
theorem isz27 : (Tryd.prog.info? 27).map (·.size) = some 8 := by kernel_rfl
theorem inf27 : (Tryd.prog.info? 27).map (fun i => (i.zero, i.size, i.bytes)) = some (some (.agg #[.int .i64 0, .int .i64 0, .int .u32 0, .bool false, .string ⟨#[]⟩, .int .i64 0, .string ⟨#[]⟩, .slice none 0 0]), 8, 88) := by kernel_rfl
theorem isz28 : (Tryd.prog.info? 28).map (·.size) = some 1 := by kernel_rfl
theorem isz29 : (Tryd.prog.info? 29).map (·.size) = some 1 := by kernel_rfl
theorem isz30 : (Tryd.prog.info? 30).map (·.size) = some 1 := by kernel_rfl
theorem isz31 : (Tryd.prog.info? 31).map (·.size) = some 1 := by kernel_rfl
theorem isz32 : (Tryd.prog.info? 32).map (·.size) = some 1 := by kernel_rfl
theorem isz33 : (Tryd.prog.info? 33).map (·.size) = some 1 := by kernel_rfl
theorem isz34 : (Tryd.prog.info? 34).map (·.size) = some 2 := by kernel_rfl
theorem isz35 : (Tryd.prog.info? 35).map (·.size) = some 2 := by kernel_rfl
theorem inf35 : (Tryd.prog.info? 35).map (fun i => (i.zero, i.size, i.bytes)) = some (some (.agg #[.int .i64 0, .int .i64 0]), 2, 16) := by kernel_rfl
theorem isz36 : (Tryd.prog.info? 36).map (·.size) = some 1 := by kernel_rfl
theorem isz37 : (Tryd.prog.info? 37).map (·.size) = some 19 := by kernel_rfl
theorem isz38 : (Tryd.prog.info? 38).map (·.size) = some 19 := by kernel_rfl
theorem inf38 : (Tryd.prog.info? 38).map (fun i => (i.zero, i.size, i.bytes)) = some (some (.agg #[.int .i64 0, .int .i64 0, .string ⟨#[]⟩, .int .i64 0, .int .u64 0, .int .i64 0, .int .i64 0, .bool false, .bool false, .int .i64 0, .int .i64 0, .int .i64 0, .int .i64 0, .int .i64 0, .int .i64 0, .int .i64 0, .int .i64 0, .string ⟨#[]⟩, .slice none 0 0]), 19, 176) := by kernel_rfl
theorem isz39 : (Tryd.prog.info? 39).map (·.size) = some 1 := by kernel_rfl
theorem isz40 : (Tryd.prog.info? 40).map (·.size) = some 1 := by kernel_rfl
theorem isz41 : (Tryd.prog.info? 41).map (·.size) = some 1 := by kernel_rfl
theorem isz42 : (Tryd.prog.info? 42).map (·.size) = some 1 := by kernel_rfl
theorem isz43 : (Tryd.prog.info? 43).map (·.size) = some 1 := by kernel_rfl
theorem isz44 : (Tryd.prog.info? 44).map (·.size) = some 1 := by kernel_rfl
theorem isz45 : (Tryd.prog.info? 45).map (·.size) = some 1 := by kernel_rfl
theorem isz46 : (Tryd.prog.info? 46).map (·.size) = some 1 := by kernel_rfl
theorem isz47 : (Tryd.prog.info? 47).map (·.size) = some 1 := by kernel_rfl
theorem isz48 : (Tryd.prog.info? 48).map (·.size) = some 1 := by kernel_rfl
theorem isz49 : (Tryd.prog.info? 49).map (·.size) = some 1 := by kernel_rfl
theorem isz50 : (Tryd.prog.info? 50).map (·.size) = some 3 := by kernel_rfl
theorem isz51 : (Tryd.prog.info? 51).map (·.size) = some 3 := by kernel_rfl
theorem isz52 : (Tryd.prog.info? 52).map (·.size) = some 1 := by kernel_rfl
theorem isz53 : (Tryd.prog.info? 53).map (·.size) = some 1 := by kernel_rfl
theorem isz54 : (Tryd.prog.info? 54).map (·.size) = some 1 := by kernel_rfl
theorem isz55 : (Tryd.prog.info? 55).map (·.size) = some 3 := by kernel_rfl
theorem isz56 : (Tryd.prog.info? 56).map (·.size) = some 3 := by kernel_rfl
theorem isz57 : (Tryd.prog.info? 57).map (·.size) = some 3 := by kernel_rfl
theorem isz58 : (Tryd.prog.info? 58).map (·.size) = some 3 := by kernel_rfl
theorem inf58 : (Tryd.prog.info? 58).map (fun i => (i.zero, i.size, i.bytes)) = some (some (.agg #[.int .i64 0, .int .i64 0, .slice none 0 0]), 3, 40) := by kernel_rfl
theorem isz59 : (Tryd.prog.info? 59).map (·.size) = some 1 := by kernel_rfl
theorem isz60 : (Tryd.prog.info? 60).map (·.size) = some 1 := by kernel_rfl
theorem isz61 : (Tryd.prog.info? 61).map (·.size) = some 9 := by kernel_rfl
theorem isz62 : (Tryd.prog.info? 62).map (·.size) = some 9 := by kernel_rfl
theorem inf62 : (Tryd.prog.info? 62).map (fun i => (i.zero, i.size, i.bytes)) = some (some (.agg #[.bool false, .int .i64 0, .int .i64 0, .string ⟨#[]⟩, .int .i64 0, .int .i64 0, .slice none 0 0, .slice none 0 0, .slice none 0 0]), 9, 128) := by kernel_rfl
theorem isz63 : (Tryd.prog.info? 63).map (·.size) = some 1 := by kernel_rfl
theorem isz64 : (Tryd.prog.info? 64).map (·.size) = some 1 := by kernel_rfl
theorem isz65 : (Tryd.prog.info? 65).map (·.size) = some 1 := by kernel_rfl
theorem isz66 : (Tryd.prog.info? 66).map (·.size) = some 6 := by kernel_rfl
theorem isz67 : (Tryd.prog.info? 67).map (·.size) = some 6 := by kernel_rfl
theorem inf67 : (Tryd.prog.info? 67).map (fun i => (i.zero, i.size, i.bytes)) = some (some (.agg #[.int .i64 0, .int .i64 0, .int .u32 0, .bool false, .string ⟨#[]⟩, .slice none 0 0]), 6, 64) := by kernel_rfl
theorem isz68 : (Tryd.prog.info? 68).map (·.size) = some 1 := by kernel_rfl
theorem isz69 : (Tryd.prog.info? 69).map (·.size) = some 1 := by kernel_rfl
theorem isz70 : (Tryd.prog.info? 70).map (·.size) = some 1 := by kernel_rfl
theorem isz71 : (Tryd.prog.info? 71).map (·.size) = some 1 := by kernel_rfl
theorem isz72 : (Tryd.prog.info? 72).map (·.size) = some 1 := by kernel_rfl
theorem isz73 : (Tryd.prog.info? 73).map (·.size) = some 1 := by kernel_rfl
theorem inf73 : (Tryd.prog.info? 73).map (fun i => (i.zero, i.size, i.bytes)) = some (some (.int .i64 0), 1, 8) := by kernel_rfl
theorem isz74 : (Tryd.prog.info? 74).map (·.size) = some 1 := by kernel_rfl
theorem isz75 : (Tryd.prog.info? 75).map (·.size) = some 1 := by kernel_rfl
theorem isz76 : (Tryd.prog.info? 76).map (·.size) = some 1 := by kernel_rfl
theorem isz77 : (Tryd.prog.info? 77).map (·.size) = some 1 := by kernel_rfl
theorem isz78 : (Tryd.prog.info? 78).map (·.size) = some 1 := by kernel_rfl
theorem isz79 : (Tryd.prog.info? 79).map (·.size) = some 1 := by kernel_rfl
theorem isz80 : (Tryd.prog.info? 80).map (·.size) = some 1 := by kernel_rfl
theorem isz81 : (Tryd.prog.info? 81).map (·.size) = some 1 := by kernel_rfl
theorem isz82 : (Tryd.prog.info? 82).map (·.size) = some 1 := by kernel_rfl
theorem isz83 : (Tryd.prog.info? 83).map (·.size) = some 1 := by kernel_rfl
theorem isz84 : (Tryd.prog.info? 84).map (·.size) = some 64 := by kernel_rfl
theorem isz85 : (Tryd.prog.info? 85).map (·.size) = some 64 := by kernel_rfl
theorem inf85 : (Tryd.prog.info? 85).map (fun i => (i.zero, i.size, i.bytes)) = some (some (.agg #[.bool false, .bool false, .bool false, .bool false, .bool false, .bool false, .bool false, .bool false, .bool false, .bool false, .bool false, .bool false, .bool false, .bool false, .bool false, .bool false, .bool false, .bool false, .bool false, .bool false, .bool false, .bool false, .bool false, .bool false, .bool false, .bool false, .bool false, .bool false, .bool false, .bool false, .bool false, .bool false, .bool false, .bool false, .bool false, .bool false, .bool false, .bool false, .bool false, .bool false, .bool false, .bool false, .bool false, .bool false, .bool false, .bool false, .bool false, .bool false, .bool false, .bool false, .bool false, .bool false, .bool false, .bool false, .bool false, .bool false, .bool false, .bool false, .bool false, .bool false, .bool false, .bool false, .bool false, .bool false]), 64, 64) := by kernel_rfl
theorem isz86 : (Tryd.prog.info? 86).map (·.size) = some 1 := by kernel_rfl
theorem isz87 : (Tryd.prog.info? 87).map (·.size) = some 1 := by kernel_rfl
theorem isz88 : (Tryd.prog.info? 88).map (·.size) = some 1 := by kernel_rfl
theorem isz89 : (Tryd.prog.info? 89).map (·.size) = some 1 := by kernel_rfl
theorem isz90 : (Tryd.prog.info? 90).map (·.size) = some 1 := by kernel_rfl
theorem isz91 : (Tryd.prog.info? 91).map (·.size) = some 1 := by kernel_rfl
theorem isz92 : (Tryd.prog.info? 92).map (·.size) = some 1 := by kernel_rfl
theorem isz93 : (Tryd.prog.info? 93).map (·.size) = some 1 := by kernel_rfl
theorem isz94 : (Tryd.prog.info? 94).map (·.size) = some 1 := by kernel_rfl
theorem isz95 : (Tryd.prog.info? 95).map (·.size) = some 1 := by kernel_rfl
theorem isz96 : (Tryd.prog.info? 96).map (·.size) = some 1 := by kernel_rfl
theorem isz97 : (Tryd.prog.info? 97).map (·.size) = some 1 := by kernel_rfl
theorem isz98 : (Tryd.prog.info? 98).map (·.size) = some 1 := by kernel_rfl
theorem isz99 : (Tryd.prog.info? 99).map (·.size) = some 4 := by kernel_rfl
theorem isz100 : (Tryd.prog.info? 100).map (·.size) = some 4 := by kernel_rfl
theorem isz101 : (Tryd.prog.info? 101).map (·.size) = some 1 := by kernel_rfl
theorem isz102 : (Tryd.prog.info? 102).map (·.size) = some 1 := by kernel_rfl
theorem isz103 : (Tryd.prog.info? 103).map (·.size) = some 3 := by kernel_rfl
theorem isz104 : (Tryd.prog.info? 104).map (·.size) = some 3 := by kernel_rfl
theorem inf104 : (Tryd.prog.info? 104).map (fun i => (i.zero, i.size, i.bytes)) = some (some (.agg #[.int .u32 0, .bool false, .string ⟨#[]⟩]), 3, 24) := by kernel_rfl
theorem isz105 : (Tryd.prog.info? 105).map (·.size) = some 1 := by kernel_rfl
theorem isz106 : (Tryd.prog.info? 106).map (·.size) = some 1 := by kernel_rfl
theorem isz107 : (Tryd.prog.info? 107).map (·.size) = some 1 := by kernel_rfl
theorem isz108 : (Tryd.prog.info? 108).map (·.size) = some 1 := by kernel_rfl
theorem isz109 : (Tryd.prog.info? 109).map (·.size) = some 1 := by kernel_rfl
theorem isz110 : (Tryd.prog.info? 110).map (·.size) = some 3 := by kernel_rfl
theorem isz111 : (Tryd.prog.info? 111).map (·.size) = some 3 := by kernel_rfl
theorem inf111 : (Tryd.prog.info? 111).map (fun i => (i.zero, i.size, i.bytes)) = some (some (.agg #[.int .i64 0, .int .i64 0, .int .i64 0]), 3, 24) := by kernel_rfl
theorem isz112 : (Tryd.prog.info? 112).map (·.size) = some 1 := by kernel_rfl
theorem isz113 : (Tryd.prog.info? 113).map (·.size) = some 1 := by kernel_rfl
theorem isz114 : (Tryd.prog.info? 114).map (·.size) = some 1 := by kernel_rfl
theorem isz115 : (Tryd.prog.info? 115).map (·.size) = some 2 := by kernel_rfl
theorem isz116 : (Tryd.prog.info? 116).map (·.size) = some 2 := by kernel_rfl
theorem inf116 : (Tryd.prog.info? 116).map (fun i => (i.zero, i.size, i.bytes)) = some (some (.agg #[.int .i64 0, .string ⟨#[]⟩]), 2, 24) := by kernel_rfl
theorem isz117 : (Tryd.prog.info? 117).map (·.size) = some 1 := by kernel_rfl
theorem isz118 : (Tryd.prog.info? 118).map (·.size) = some 1 := by kernel_rfl
theorem isz119 : (Tryd.prog.info? 119).map (·.size) = some 1 := by kernel_rfl
theorem isz120 : (Tryd.prog.info? 120).map (·.size) = some 1 := by kernel_rfl
theorem isz121 : (Tryd.prog.info? 121).map (·.size) = some 1 := by kernel_rfl
theorem isz122 : (Tryd.prog.info? 122).map (·.size) = some 1 := by kernel_rfl
theorem isz123 : (Tryd.prog.info? 123).map (·.size) = some 1 := by kernel_rfl
theorem isz124 : (Tryd.prog.info? 124).map (·.size) = some 1 := by kernel_rfl
theorem isz125 : (Tryd.prog.info? 125).map (·.size) = some 1 := by kernel_rfl
theorem isz126 : (Tryd.prog.info? 126).map (·.size) = some 1 := by kernel_rfl
theorem isz127 : (Tryd.prog.info? 127).map (·.size) = some 1 := by kernel_rfl
theorem isz128 : (Tryd.prog.info? 128).map (·.size) = some 1 := by kernel_rfl
theorem isz129 : (Tryd.prog.info? 129).map (·.size) = some 1 := by kernel_rfl
theorem isz130 : (Tryd.prog.info? 130).map (·.size) = some 1 := by kernel_rfl
theorem isz131 : (Tryd.prog.info? 131).map (·.size) = some 1 := by kernel_rfl
theorem isz132 : (Tryd.prog.info? 132).map (·.size) = some 1 := by kernel_rfl
theorem isz133 : (Tryd.prog.info? 133).map (·.size) = some 1 := by kernel_rfl
theorem isz134 : (Tryd.prog.info? 134).map (·.size) = some 1 := by kernel_rfl
theorem isz135 : (Tryd.prog.info? 135).map (·.size) = some 1 := by kernel_rfl
theorem isz136 : (Tryd.prog.info? 136).map (·.size) = some 1 := by kernel_rfl
theorem isz137 : (Tryd.prog.info? 137).map (·.size) = some 1 := by kernel_rfl
theorem isz138 : (Tryd.prog.info? 138).map (·.size) = some 1 := by kernel_rfl
theorem isz139 : (Tryd.prog.info? 139).map (·.size) = some 1 := by kernel_rfl
theorem isz140 : (Tryd.prog.info? 140).map (·.size) = some 3 := by kernel_rfl
theorem isz141 : (Tryd.prog.info? 141).map (·.size) = some 3 := by kernel_rfl
theorem isz142 : (Tryd.prog.info? 142).map (·.size) = some 1 := by kernel_rfl
theorem isz143 : (Tryd.prog.info? 143).map (·.size) = some 1 := by kernel_rfl
theorem isz144 : (Tryd.prog.info? 144).map (·.size) = some 1 := by kernel_rfl
theorem isz145 : (Tryd.prog.info? 145).map (·.size) = some 1 := by kernel_rfl
theorem isz146 : (Tryd.prog.info? 146).map (·.size) = some 1 := by kernel_rfl
theorem isz147 : (Tryd.prog.info? 147).map (·.size) = some 1 := by kernel_rfl
theorem isz148 : (Tryd.prog.info? 148).map (·.size) = some 1 := by kernel_rfl
theorem isz149 : (Tryd.prog.info? 149).map (·.size) = some 1 := by kernel_rfl
theorem isz150 : (Tryd.prog.info? 150).map (·.size) = some 8 := by kernel_rfl
theorem isz151 : (Tryd.prog.info? 151).map (·.size) = some 1 := by kernel_rfl
theorem isz152 : (Tryd.prog.info? 152).map (·.size) = some 1 := by kernel_rfl
theorem isz153 : (Tryd.prog.info? 153).map (·.size) = some 1 := by kernel_rfl
theorem isz154 : (Tryd.prog.info? 154).map (·.size) = some 1 := by kernel_rfl
theorem isz155 : (Tryd.prog.info? 155).map (·.size) = some 1 := by kernel_rfl
theorem isz156 : (Tryd.prog.info? 156).map (·.size) = some 1 := by kernel_rfl
theorem isz157 : (Tryd.prog.info? 157).map (·.size) = some 1 := by kernel_rfl
theorem isz158 : (Tryd.prog.info? 158).map (·.size) = some 1 := by kernel_rfl
theorem isz159 : (Tryd.prog.info? 159).map (·.size) = some 1 := by kernel_rfl
theorem isz160 : (Tryd.prog.info? 160).map (·.size) = some 1 := by kernel_rfl
theorem isz161 : (Tryd.prog.info? 161).map (·.size) = some 1 := by kernel_rfl
theorem isz162 : (Tryd.prog.info? 162).map (·.size) = some 1 := by kernel_rfl
theorem isz163 : (Tryd.prog.info? 163).map (·.size) = some 1 := by kernel_rfl
theorem isz164 : (Tryd.prog.info? 164).map (·.size) = some 1 := by kernel_rfl
theorem isz165 : (Tryd.prog.info? 165).map (·.size) = some 1 := by kernel_rfl
theorem isz166 : (Tryd.prog.info? 166).map (·.size) = some 1 := by kernel_rfl
theorem isz167 : (Tryd.prog.info? 167).map (·.size) = some 1 := by kernel_rfl
theorem isz168 : (Tryd.prog.info? 168).map (·.size) = some 1 := by kernel_rfl
theorem isz169 : (Tryd.prog.info? 169).map (·.size) = some 1 := by kernel_rfl
theorem isz170 : (Tryd.prog.info? 170).map (·.size) = some 1 := by kernel_rfl
theorem isz171 : (Tryd.prog.info? 171).map (·.size) = some 1 := by kernel_rfl
theorem isz172 : (Tryd.prog.info? 172).map (·.size) = some 1 := by kernel_rfl
theorem isz173 : (Tryd.prog.info? 173).map (·.size) = some 1 := by kernel_rfl
theorem isz174 : (Tryd.prog.info? 174).map (·.size) = some 1 := by kernel_rfl
theorem isz175 : (Tryd.prog.info? 175).map (·.size) = some 1 := by kernel_rfl
theorem isz176 : (Tryd.prog.info? 176).map (·.size) = some 1 := by kernel_rfl
theorem isz177 : (Tryd.prog.info? 177).map (·.size) = some 1 := by kernel_rfl
theorem isz178 : (Tryd.prog.info? 178).map (·.size) = some 5 := by kernel_rfl
theorem isz179 : (Tryd.prog.info? 179).map (·.size) = some 5 := by kernel_rfl
theorem isz180 : (Tryd.prog.info? 180).map (·.size) = some 1 := by kernel_rfl
theorem isz182 : (Tryd.prog.info? 182).map (·.size) = some 2 := by kernel_rfl
theorem isz183 : (Tryd.prog.info? 183).map (·.size) = some 2 := by kernel_rfl
theorem isz184 : (Tryd.prog.info? 184).map (·.size) = some 32 := by kernel_rfl
theorem isz185 : (Tryd.prog.info? 185).map (·.size) = some 1 := by kernel_rfl
theorem isz186 : (Tryd.prog.info? 186).map (·.size) = some 1 := by kernel_rfl
theorem isz187 : (Tryd.prog.info? 187).map (·.size) = some 1 := by kernel_rfl
theorem isz188 : (Tryd.prog.info? 188).map (·.size) = some 1 := by kernel_rfl
theorem isz189 : (Tryd.prog.info? 189).map (·.size) = some 1 := by kernel_rfl
theorem isz190 : (Tryd.prog.info? 190).map (·.size) = some 1 := by kernel_rfl
theorem isz191 : (Tryd.prog.info? 191).map (·.size) = some 1 := by kernel_rfl
theorem isz192 : (Tryd.prog.info? 192).map (·.size) = some 1 := by kernel_rfl
theorem isz193 : (Tryd.prog.info? 193).map (·.size) = some 1 := by kernel_rfl
theorem isz194 : (Tryd.prog.info? 194).map (·.size) = some 1 := by kernel_rfl
theorem isz195 : (Tryd.prog.info? 195).map (·.size) = some 1 := by kernel_rfl
theorem isz196 : (Tryd.prog.info? 196).map (·.size) = some 1 := by kernel_rfl
theorem isz197 : (Tryd.prog.info? 197).map (·.size) = some 1 := by kernel_rfl
theorem isz198 : (Tryd.prog.info? 198).map (·.size) = some 1 := by kernel_rfl
theorem isz199 : (Tryd.prog.info? 199).map (·.size) = some 1 := by kernel_rfl
theorem isz200 : (Tryd.prog.info? 200).map (·.size) = some 1 := by kernel_rfl
theorem isz201 : (Tryd.prog.info? 201).map (·.size) = some 3 := by kernel_rfl
theorem isz202 : (Tryd.prog.info? 202).map (·.size) = some 3 := by kernel_rfl
theorem isz203 : (Tryd.prog.info? 203).map (·.size) = some 1 := by kernel_rfl
theorem isz204 : (Tryd.prog.info? 204).map (·.size) = some 1 := by kernel_rfl
theorem isz205 : (Tryd.prog.info? 205).map (·.size) = some 1 := by kernel_rfl
theorem isz206 : (Tryd.prog.info? 206).map (·.size) = some 1 := by kernel_rfl
theorem isz207 : (Tryd.prog.info? 207).map (·.size) = some 1 := by kernel_rfl
theorem isz208 : (Tryd.prog.info? 208).map (·.size) = some 1 := by kernel_rfl
theorem isz209 : (Tryd.prog.info? 209).map (·.size) = some 1 := by kernel_rfl
theorem isz210 : (Tryd.prog.info? 210).map (·.size) = some 4 := by kernel_rfl
theorem isz211 : (Tryd.prog.info? 211).map (·.size) = some 4 := by kernel_rfl
theorem isz212 : (Tryd.prog.info? 212).map (·.size) = some 0 := by kernel_rfl
theorem isz213 : (Tryd.prog.info? 213).map (·.size) = some 0 := by kernel_rfl
theorem isz214 : (Tryd.prog.info? 214).map (·.size) = some 0 := by kernel_rfl
theorem isz215 : (Tryd.prog.info? 215).map (·.size) = some 1 := by kernel_rfl
theorem isz216 : (Tryd.prog.info? 216).map (·.size) = some 1 := by kernel_rfl
theorem isz217 : (Tryd.prog.info? 217).map (·.size) = some 1 := by kernel_rfl
theorem isz218 : (Tryd.prog.info? 218).map (·.size) = some 1 := by kernel_rfl
theorem isz219 : (Tryd.prog.info? 219).map (·.size) = some 1 := by kernel_rfl
theorem isz220 : (Tryd.prog.info? 220).map (·.size) = some 1 := by kernel_rfl
theorem isz221 : (Tryd.prog.info? 221).map (·.size) = some 11 := by kernel_rfl
theorem isz222 : (Tryd.prog.info? 222).map (·.size) = some 11 := by kernel_rfl
theorem isz223 : (Tryd.prog.info? 223).map (·.size) = some 1 := by kernel_rfl
theorem isz224 : (Tryd.prog.info? 224).map (·.size) = some 1 := by kernel_rfl
theorem isz225 : (Tryd.prog.info? 225).map (·.size) = some 1 := by kernel_rfl
theorem isz226 : (Tryd.prog.info? 226).map (·.size) = some 2 := by kernel_rfl
theorem isz227 : (Tryd.prog.info? 227).map (·.size) = some 2 := by kernel_rfl
theorem isz228 : (Tryd.prog.info? 228).map (·.size) = some 1 := by kernel_rfl
theorem isz229 : (Tryd.prog.info? 229).map (·.size) = some 1 := by kernel_rfl
theorem isz230 : (Tryd.prog.info? 230).map (·.size) = some 1 := by kernel_rfl
theorem isz231 : (Tryd.prog.info? 231).map (·.size) = some 5 := by kernel_rfl
theorem isz232 : (Tryd.prog.info? 232).map (·.size) = some 5 := by kernel_rfl
theorem isz233 : (Tryd.prog.info? 233).map (·.size) = some 1 := by kernel_rfl
theorem isz234 : (Tryd.prog.info? 234).map (·.size) = some 1 := by kernel_rfl
theorem isz235 : (Tryd.prog.info? 235).map (·.size) = some 4 := by kernel_rfl
theorem isz236 : (Tryd.prog.info? 236).map (·.size) = some 4 := by kernel_rfl
theorem isz237 : (Tryd.prog.info? 237).map (·.size) = some 1 := by kernel_rfl
def tyOf_0 : Nat → Option TypeDesc
  | 2 => some (.int .i64)
  | 3 => some (.int .i64)
  | 4 => some (.bool)
  | 5 => some (.int .u8)
  | 6 => some (.int .u8)
  | 9 => some (.string)
  | 10 => some (.string)
  | 11 => some (.string)
  | 12 => some (.int .u64)
  | 15 => some (.pointer 211)
  | 16 => some (.pointer 214)
  | 17 => some (.pointer 222)
  | 21 => some (.int .i32)
  | 24 => some (.int .u32)
  | 25 => some (.slice 38)
  | 33 => some (.int .u64)
  | 36 => some (.slice 9)
  | 42 => some (.slice 85)
  | 59 => some (.slice 27)
  | 60 => some (.slice 67)
  | 65 => some (.slice 116)
  | 73 => some (.int .i64)
  | 76 => some (.map 9 4)
  | 81 => some (.slice 3)
  | 84 => some (.array 64 4)
  | 85 => some (.array 64 4)
  | 96 => some (.pointer 100)
  | 97 => some (.map 104 4)
  | 98 => some (.map 104 38)
  | 113 => some (.pointer 111)
  | 117 => some (.slice 2)
  | 122 => some (.map 33 85)
  | 136 => some (.map 2 4)
  | 139 => some (.int .u64)
  | 144 => some (.int .u8)
  | 148 => some (.slice 5)
  | 150 => some (.array 4 35)
  | 155 => some (.pointer 227)
  | 162 => some (.slice 30)
  | 167 => some (.slice 24)
  | 168 => some (.slice 24)
  | 176 => some (.slice 179)
  | 181 => some (.array 256 5)
  | 184 => some (.array 16 183)
  | 185 => some (.int .u64)
  | 193 => some (.slice 73)
  | 212 => some (.array 0 16)
  | 216 => some (.int .u8)
  | 218 => some (.pointer 5)
  | 219 => some (.int .i32)
  | _ => none
set_option maxHeartbeats 8000000 in
theorem und_0 (t : Nat) (d : TypeDesc) (h : tyOf_0 t = some d) : Tryd.prog.underlying t = some d := by
  unfold tyOf_0 at h
  split at h
  · cases h; exact Tryd.underlying2
  · cases h; exact Tryd.underlying3
  · cases h; exact Tryd.underlying4
  · cases h; exact Tryd.underlying5
  · cases h; exact Tryd.underlying6
  · cases h; exact Tryd.underlying9
  · cases h; exact Tryd.underlying10
  · cases h; exact Tryd.underlying11
  · cases h; exact Tryd.underlying12
  · cases h; exact Tryd.underlying15
  · cases h; exact Tryd.underlying16
  · cases h; exact Tryd.underlying17
  · cases h; exact Tryd.underlying21
  · cases h; exact Tryd.underlying24
  · cases h; exact Tryd.underlying25
  · cases h; exact Tryd.underlying33
  · cases h; exact Tryd.underlying36
  · cases h; exact Tryd.underlying42
  · cases h; exact Tryd.underlying59
  · cases h; exact Tryd.underlying60
  · cases h; exact Tryd.underlying65
  · cases h; exact Tryd.underlying73
  · cases h; exact Tryd.underlying76
  · cases h; exact Tryd.underlying81
  · cases h; exact Tryd.underlying84
  · cases h; exact Tryd.underlying85
  · cases h; exact Tryd.underlying96
  · cases h; exact Tryd.underlying97
  · cases h; exact Tryd.underlying98
  · cases h; exact Tryd.underlying113
  · cases h; exact Tryd.underlying117
  · cases h; exact Tryd.underlying122
  · cases h; exact Tryd.underlying136
  · cases h; exact Tryd.underlying139
  · cases h; exact Tryd.underlying144
  · cases h; exact Tryd.underlying148
  · cases h; exact Tryd.underlying150
  · cases h; exact Tryd.underlying155
  · cases h; exact Tryd.underlying162
  · cases h; exact Tryd.underlying167
  · cases h; exact Tryd.underlying168
  · cases h; exact Tryd.underlying176
  · cases h; exact Tryd.underlying181
  · cases h; exact Tryd.underlying184
  · cases h; exact Tryd.underlying185
  · cases h; exact Tryd.underlying193
  · cases h; exact Tryd.underlying212
  · cases h; exact Tryd.underlying216
  · cases h; exact Tryd.underlying218
  · cases h; exact Tryd.underlying219
  · cases h
def tyOf_1 : Nat → Option TypeDesc
  | 220 => some (.int .i32)
  | 228 => some (.pointer 232)
  | 230 => some (.int .u16)
  | 233 => some (.slice 236)
  | 234 => some (.int .i32)
  | 237 => some (.pointer 30)
  | _ => none
set_option maxHeartbeats 8000000 in
theorem und_1 (t : Nat) (d : TypeDesc) (h : tyOf_1 t = some d) : Tryd.prog.underlying t = some d := by
  unfold tyOf_1 at h
  split at h
  · cases h; exact Tryd.underlying220
  · cases h; exact Tryd.underlying228
  · cases h; exact Tryd.underlying230
  · cases h; exact Tryd.underlying233
  · cases h; exact Tryd.underlying234
  · cases h; exact Tryd.underlying237
  · cases h
def tyOf (t : Nat) : Option TypeDesc := (match tyOf_0 t with | some x => some x | none => (match tyOf_1 t with | some x => some x | none => none))
theorem und (t : Nat) (d : TypeDesc) (h : tyOf t = some d) : Tryd.prog.underlying t = some d := by
  unfold tyOf at h
  cases e0 : tyOf_0 t with
  | some x => rw [e0] at h; exact und_0 t _ (e0.trans h)
  | none =>
  rw [e0] at h
  dsimp only at h
  cases e1 : tyOf_1 t with
  | some x => rw [e1] at h; exact und_1 t _ (e1.trans h)
  | none =>
  rw [e1] at h
  dsimp only at h
  cases h
def szOf_0 : Nat → Option Nat
  | 0 => some (1)
  | 1 => some (1)
  | 2 => some (1)
  | 3 => some (1)
  | 4 => some (1)
  | 5 => some (1)
  | 6 => some (1)
  | 7 => some (4)
  | 8 => some (4)
  | 9 => some (1)
  | 10 => some (1)
  | 11 => some (1)
  | 12 => some (1)
  | 13 => some (2)
  | 14 => some (2)
  | 15 => some (1)
  | 16 => some (1)
  | 17 => some (1)
  | 18 => some (1)
  | 19 => some (1)
  | 20 => some (1)
  | 21 => some (1)
  | 22 => some (2)
  | 23 => some (2)
  | 24 => some (1)
  | 25 => some (1)
  | 26 => some (8)
  | 27 => some (8)
  | 28 => some (1)
  | 29 => some (1)
  | 30 => some (1)
  | 31 => some (1)
  | 32 => some (1)
  | 33 => some (1)
  | 34 => some (2)
  | 35 => some (2)
  | 36 => some (1)
  | 37 => some (19)
  | 38 => some (19)
  | 39 => some (1)
  | 40 => some (1)
  | 41 => some (1)
  | 42 => some (1)
  | 43 => some (1)
  | 44 => some (1)
  | 45 => some (1)
  | 46 => some (1)
  | 47 => some (1)
  | 48 => some (1)
  | 49 => some (1)
  | _ => none
set_option maxHeartbeats 8000000 in
theorem isz_0 (t : Nat) (n : Nat) (h : szOf_0 t = some n) : (Tryd.prog.info? t).map (·.size) = some n := by
  unfold szOf_0 at h
  split at h
  · cases h; exact isz0
  · cases h; exact isz1
  · cases h; exact isz2
  · cases h; exact isz3
  · cases h; exact isz4
  · cases h; exact isz5
  · cases h; exact isz6
  · cases h; exact isz7
  · cases h; exact isz8
  · cases h; exact isz9
  · cases h; exact isz10
  · cases h; exact isz11
  · cases h; exact isz12
  · cases h; exact isz13
  · cases h; exact isz14
  · cases h; exact isz15
  · cases h; exact isz16
  · cases h; exact isz17
  · cases h; exact isz18
  · cases h; exact isz19
  · cases h; exact isz20
  · cases h; exact isz21
  · cases h; exact isz22
  · cases h; exact isz23
  · cases h; exact isz24
  · cases h; exact isz25
  · cases h; exact isz26
  · cases h; exact isz27
  · cases h; exact isz28
  · cases h; exact isz29
  · cases h; exact isz30
  · cases h; exact isz31
  · cases h; exact isz32
  · cases h; exact isz33
  · cases h; exact isz34
  · cases h; exact isz35
  · cases h; exact isz36
  · cases h; exact isz37
  · cases h; exact isz38
  · cases h; exact isz39
  · cases h; exact isz40
  · cases h; exact isz41
  · cases h; exact isz42
  · cases h; exact isz43
  · cases h; exact isz44
  · cases h; exact isz45
  · cases h; exact isz46
  · cases h; exact isz47
  · cases h; exact isz48
  · cases h; exact isz49
  · cases h
def szOf_1 : Nat → Option Nat
  | 50 => some (3)
  | 51 => some (3)
  | 52 => some (1)
  | 53 => some (1)
  | 54 => some (1)
  | 55 => some (3)
  | 56 => some (3)
  | 57 => some (3)
  | 58 => some (3)
  | 59 => some (1)
  | 60 => some (1)
  | 61 => some (9)
  | 62 => some (9)
  | 63 => some (1)
  | 64 => some (1)
  | 65 => some (1)
  | 66 => some (6)
  | 67 => some (6)
  | 68 => some (1)
  | 69 => some (1)
  | 70 => some (1)
  | 71 => some (1)
  | 72 => some (1)
  | 73 => some (1)
  | 74 => some (1)
  | 75 => some (1)
  | 76 => some (1)
  | 77 => some (1)
  | 78 => some (1)
  | 79 => some (1)
  | 80 => some (1)
  | 81 => some (1)
  | 82 => some (1)
  | 83 => some (1)
  | 84 => some (64)
  | 85 => some (64)
  | 86 => some (1)
  | 87 => some (1)
  | 88 => some (1)
  | 89 => some (1)
  | 90 => some (1)
  | 91 => some (1)
  | 92 => some (1)
  | 93 => some (1)
  | 94 => some (1)
  | 95 => some (1)
  | 96 => some (1)
  | 97 => some (1)
  | 98 => some (1)
  | 99 => some (4)
  | _ => none
set_option maxHeartbeats 8000000 in
theorem isz_1 (t : Nat) (n : Nat) (h : szOf_1 t = some n) : (Tryd.prog.info? t).map (·.size) = some n := by
  unfold szOf_1 at h
  split at h
  · cases h; exact isz50
  · cases h; exact isz51
  · cases h; exact isz52
  · cases h; exact isz53
  · cases h; exact isz54
  · cases h; exact isz55
  · cases h; exact isz56
  · cases h; exact isz57
  · cases h; exact isz58
  · cases h; exact isz59
  · cases h; exact isz60
  · cases h; exact isz61
  · cases h; exact isz62
  · cases h; exact isz63
  · cases h; exact isz64
  · cases h; exact isz65
  · cases h; exact isz66
  · cases h; exact isz67
  · cases h; exact isz68
  · cases h; exact isz69
  · cases h; exact isz70
  · cases h; exact isz71
  · cases h; exact isz72
  · cases h; exact isz73
  · cases h; exact isz74
  · cases h; exact isz75
  · cases h; exact isz76
  · cases h; exact isz77
  · cases h; exact isz78
  · cases h; exact isz79
  · cases h; exact isz80
  · cases h; exact isz81
  · cases h; exact isz82
  · cases h; exact isz83
  · cases h; exact isz84
  · cases h; exact isz85
  · cases h; exact isz86
  · cases h; exact isz87
  · cases h; exact isz88
  · cases h; exact isz89
  · cases h; exact isz90
  · cases h; exact isz91
  · cases h; exact isz92
  · cases h; exact isz93
  · cases h; exact isz94
  · cases h; exact isz95
  · cases h; exact isz96
  · cases h; exact isz97
  · cases h; exact isz98
  · cases h; exact isz99
  · cases h
def szOf_2 : Nat → Option Nat
  | 100 => some (4)
  | 101 => some (1)
  | 102 => some (1)
  | 103 => some (3)
  | 104 => some (3)
  | 105 => some (1)
  | 106 => some (1)
  | 107 => some (1)
  | 108 => some (1)
  | 109 => some (1)
  | 110 => some (3)
  | 111 => some (3)
  | 112 => some (1)
  | 113 => some (1)
  | 114 => some (1)
  | 115 => some (2)
  | 116 => some (2)
  | 117 => some (1)
  | 118 => some (1)
  | 119 => some (1)
  | 120 => some (1)
  | 121 => some (1)
  | 122 => some (1)
  | 123 => some (1)
  | 124 => some (1)
  | 125 => some (1)
  | 126 => some (1)
  | 127 => some (1)
  | 128 => some (1)
  | 129 => some (1)
  | 130 => some (1)
  | 131 => some (1)
  | 132 => some (1)
  | 133 => some (1)
  | 134 => some (1)
  | 135 => some (1)
  | 136 => some (1)
  | 137 => some (1)
  | 138 => some (1)
  | 139 => some (1)
  | 140 => some (3)
  | 141 => some (3)
  | 142 => some (1)
  | 143 => some (1)
  | 144 => some (1)
  | 145 => some (1)
  | 146 => some (1)
  | 147 => some (1)
  | 148 => some (1)
  | 149 => some (1)
  | _ => none
set_option maxHeartbeats 8000000 in
theorem isz_2 (t : Nat) (n : Nat) (h : szOf_2 t = some n) : (Tryd.prog.info? t).map (·.size) = some n := by
  unfold szOf_2 at h
  split at h
  · cases h; exact isz100
  · cases h; exact isz101
  · cases h; exact isz102
  · cases h; exact isz103
  · cases h; exact isz104
  · cases h; exact isz105
  · cases h; exact isz106
  · cases h; exact isz107
  · cases h; exact isz108
  · cases h; exact isz109
  · cases h; exact isz110
  · cases h; exact isz111
  · cases h; exact isz112
  · cases h; exact isz113
  · cases h; exact isz114
  · cases h; exact isz115
  · cases h; exact isz116
  · cases h; exact isz117
  · cases h; exact isz118
  · cases h; exact isz119
  · cases h; exact isz120
  · cases h; exact isz121
  · cases h; exact isz122
  · cases h; exact isz123
  · cases h; exact isz124
  · cases h; exact isz125
  · cases h; exact isz126
  · cases h; exact isz127
  · cases h; exact isz128
  · cases h; exact isz129
  · cases h; exact isz130
  · cases h; exact isz131
  · cases h; exact isz132
  · cases h; exact isz133
  · cases h; exact isz134
  · cases h; exact isz135
  · cases h; exact isz136
  · cases h; exact isz137
  · cases h; exact isz138
  · cases h; exact isz139
  · cases h; exact isz140
  · cases h; exact isz141
  · cases h; exact isz142
  · cases h; exact isz143
  · cases h; exact isz144
  · cases h; exact isz145
  · cases h; exact isz146
  · cases h; exact isz147
  · cases h; exact isz148
  · cases h; exact isz149
  · cases h
def szOf_3 : Nat → Option Nat
  | 150 => some (8)
  | 151 => some (1)
  | 152 => some (1)
  | 153 => some (1)
  | 154 => some (1)
  | 155 => some (1)
  | 156 => some (1)
  | 157 => some (1)
  | 158 => some (1)
  | 159 => some (1)
  | 160 => some (1)
  | 161 => some (1)
  | 162 => some (1)
  | 163 => some (1)
  | 164 => some (1)
  | 165 => some (1)
  | 166 => some (1)
  | 167 => some (1)
  | 168 => some (1)
  | 169 => some (1)
  | 170 => some (1)
  | 171 => some (1)
  | 172 => some (1)
  | 173 => some (1)
  | 174 => some (1)
  | 175 => some (1)
  | 176 => some (1)
  | 177 => some (1)
  | 178 => some (5)
  | 179 => some (5)
  | 180 => some (1)
  | 182 => some (2)
  | 183 => some (2)
  | 184 => some (32)
  | 185 => some (1)
  | 186 => some (1)
  | 187 => some (1)
  | 188 => some (1)
  | 189 => some (1)
  | 190 => some (1)
  | 191 => some (1)
  | 192 => some (1)
  | 193 => some (1)
  | 194 => some (1)
  | 195 => some (1)
  | 196 => some (1)
  | 197 => some (1)
  | 198 => some (1)
  | 199 => some (1)
  | 200 => some (1)
  | _ => none
set_option maxHeartbeats 8000000 in
theorem isz_3 (t : Nat) (n : Nat) (h : szOf_3 t = some n) : (Tryd.prog.info? t).map (·.size) = some n := by
  unfold szOf_3 at h
  split at h
  · cases h; exact isz150
  · cases h; exact isz151
  · cases h; exact isz152
  · cases h; exact isz153
  · cases h; exact isz154
  · cases h; exact isz155
  · cases h; exact isz156
  · cases h; exact isz157
  · cases h; exact isz158
  · cases h; exact isz159
  · cases h; exact isz160
  · cases h; exact isz161
  · cases h; exact isz162
  · cases h; exact isz163
  · cases h; exact isz164
  · cases h; exact isz165
  · cases h; exact isz166
  · cases h; exact isz167
  · cases h; exact isz168
  · cases h; exact isz169
  · cases h; exact isz170
  · cases h; exact isz171
  · cases h; exact isz172
  · cases h; exact isz173
  · cases h; exact isz174
  · cases h; exact isz175
  · cases h; exact isz176
  · cases h; exact isz177
  · cases h; exact isz178
  · cases h; exact isz179
  · cases h; exact isz180
  · cases h; exact isz182
  · cases h; exact isz183
  · cases h; exact isz184
  · cases h; exact isz185
  · cases h; exact isz186
  · cases h; exact isz187
  · cases h; exact isz188
  · cases h; exact isz189
  · cases h; exact isz190
  · cases h; exact isz191
  · cases h; exact isz192
  · cases h; exact isz193
  · cases h; exact isz194
  · cases h; exact isz195
  · cases h; exact isz196
  · cases h; exact isz197
  · cases h; exact isz198
  · cases h; exact isz199
  · cases h; exact isz200
  · cases h
def szOf_4 : Nat → Option Nat
  | 201 => some (3)
  | 202 => some (3)
  | 203 => some (1)
  | 204 => some (1)
  | 205 => some (1)
  | 206 => some (1)
  | 207 => some (1)
  | 208 => some (1)
  | 209 => some (1)
  | 210 => some (4)
  | 211 => some (4)
  | 212 => some (0)
  | 213 => some (0)
  | 214 => some (0)
  | 215 => some (1)
  | 216 => some (1)
  | 217 => some (1)
  | 218 => some (1)
  | 219 => some (1)
  | 220 => some (1)
  | 221 => some (11)
  | 222 => some (11)
  | 223 => some (1)
  | 224 => some (1)
  | 225 => some (1)
  | 226 => some (2)
  | 227 => some (2)
  | 228 => some (1)
  | 229 => some (1)
  | 230 => some (1)
  | 231 => some (5)
  | 232 => some (5)
  | 233 => some (1)
  | 234 => some (1)
  | 235 => some (4)
  | 236 => some (4)
  | 237 => some (1)
  | _ => none
set_option maxHeartbeats 8000000 in
theorem isz_4 (t : Nat) (n : Nat) (h : szOf_4 t = some n) : (Tryd.prog.info? t).map (·.size) = some n := by
  unfold szOf_4 at h
  split at h
  · cases h; exact isz201
  · cases h; exact isz202
  · cases h; exact isz203
  · cases h; exact isz204
  · cases h; exact isz205
  · cases h; exact isz206
  · cases h; exact isz207
  · cases h; exact isz208
  · cases h; exact isz209
  · cases h; exact isz210
  · cases h; exact isz211
  · cases h; exact isz212
  · cases h; exact isz213
  · cases h; exact isz214
  · cases h; exact isz215
  · cases h; exact isz216
  · cases h; exact isz217
  · cases h; exact isz218
  · cases h; exact isz219
  · cases h; exact isz220
  · cases h; exact isz221
  · cases h; exact isz222
  · cases h; exact isz223
  · cases h; exact isz224
  · cases h; exact isz225
  · cases h; exact isz226
  · cases h; exact isz227
  · cases h; exact isz228
  · cases h; exact isz229
  · cases h; exact isz230
  · cases h; exact isz231
  · cases h; exact isz232
  · cases h; exact isz233
  · cases h; exact isz234
  · cases h; exact isz235
  · cases h; exact isz236
  · cases h; exact isz237
  · cases h
def szOf (t : Nat) : Option Nat := (match szOf_0 t with | some x => some x | none => (match szOf_1 t with | some x => some x | none => (match szOf_2 t with | some x => some x | none => (match szOf_3 t with | some x => some x | none => (match szOf_4 t with | some x => some x | none => none)))))
theorem isz (t : Nat) (n : Nat) (h : szOf t = some n) : (Tryd.prog.info? t).map (·.size) = some n := by
  unfold szOf at h
  cases e0 : szOf_0 t with
  | some x => rw [e0] at h; exact isz_0 t _ (e0.trans h)
  | none =>
  rw [e0] at h
  dsimp only at h
  cases e1 : szOf_1 t with
  | some x => rw [e1] at h; exact isz_1 t _ (e1.trans h)
  | none =>
  rw [e1] at h
  dsimp only at h
  cases e2 : szOf_2 t with
  | some x => rw [e2] at h; exact isz_2 t _ (e2.trans h)
  | none =>
  rw [e2] at h
  dsimp only at h
  cases e3 : szOf_3 t with
  | some x => rw [e3] at h; exact isz_3 t _ (e3.trans h)
  | none =>
  rw [e3] at h
  dsimp only at h
  cases e4 : szOf_4 t with
  | some x => rw [e4] at h; exact isz_4 t _ (e4.trans h)
  | none =>
  rw [e4] at h
  dsimp only at h
  cases h
def ifcOf : Nat → Bool
  | 20 => true
  | 29 => true
  | 30 => true
  | 123 => true
  | 124 => true
  | 156 => true
  | 159 => true
  | 161 => true
  | 190 => true
  | _ => false
set_option maxHeartbeats 8000000 in
theorem ifc (t : Nat) (h : ifcOf t = true) : ∃ ms, Tryd.prog.underlying t = some (.interface ms) := by
  unfold ifcOf at h
  split at h
  · exact ⟨_, Tryd.underlying20⟩
  · exact ⟨_, Tryd.underlying29⟩
  · exact ⟨_, Tryd.underlying30⟩
  · exact ⟨_, Tryd.underlying123⟩
  · exact ⟨_, Tryd.underlying124⟩
  · exact ⟨_, Tryd.underlying156⟩
  · exact ⟨_, Tryd.underlying159⟩
  · exact ⟨_, Tryd.underlying161⟩
  · exact ⟨_, Tryd.underlying190⟩
  · cases h
def aggOf_0 : Nat → Bool
  | 7 => true
  | 8 => true
  | 13 => true
  | 14 => true
  | 18 => true
  | 19 => true
  | 22 => true
  | 23 => true
  | 26 => true
  | 27 => true
  | 34 => true
  | 35 => true
  | 37 => true
  | 38 => true
  | 50 => true
  | 51 => true
  | 55 => true
  | 56 => true
  | 57 => true
  | 58 => true
  | 61 => true
  | 62 => true
  | 66 => true
  | 67 => true
  | 84 => true
  | 85 => true
  | 99 => true
  | 100 => true
  | 103 => true
  | 104 => true
  | 110 => true
  | 111 => true
  | 115 => true
  | 116 => true
  | 140 => true
  | 141 => true
  | 150 => true
  | 153 => true
  | 154 => true
  | 178 => true
  | 179 => true
  | 181 => true
  | 182 => true
  | 183 => true
  | 184 => true
  | 201 => true
  | 202 => true
  | 210 => true
  | 211 => true
  | 212 => true
  | _ => false
set_option maxHeartbeats 8000000 in
theorem agg_0 (t : Nat) (h : aggOf_0 t = true) : (Tryd.prog.underlying t).map aggB = some true := by
  unfold aggOf_0 at h
  split at h
  · rw [Tryd.underlying7]; rfl
  · rw [Tryd.underlying8]; rfl
  · rw [Tryd.underlying13]; rfl
  · rw [Tryd.underlying14]; rfl
  · rw [Tryd.underlying18]; rfl
  · rw [Tryd.underlying19]; rfl
  · rw [Tryd.underlying22]; rfl
  · rw [Tryd.underlying23]; rfl
  · rw [Tryd.underlying26]; rfl
  · rw [Tryd.underlying27]; rfl
  · rw [Tryd.underlying34]; rfl
  · rw [Tryd.underlying35]; rfl
  · rw [Tryd.underlying37]; rfl
  · rw [Tryd.underlying38]; rfl
  · rw [Tryd.underlying50]; rfl
  · rw [Tryd.underlying51]; rfl
  · rw [Tryd.underlying55]; rfl
  · rw [Tryd.underlying56]; rfl
  · rw [Tryd.underlying57]; rfl
  · rw [Tryd.underlying58]; rfl
  · rw [Tryd.underlying61]; rfl
  · rw [Tryd.underlying62]; rfl
  · rw [Tryd.underlying66]; rfl
  · rw [Tryd.underlying67]; rfl
  · rw [Tryd.underlying84]; rfl
  · rw [Tryd.underlying85]; rfl
  · rw [Tryd.underlying99]; rfl
  · rw [Tryd.underlying100]; rfl
  · rw [Tryd.underlying103]; rfl
  · rw [Tryd.underlying104]; rfl
  · rw [Tryd.underlying110]; rfl
  · rw [Tryd.underlying111]; rfl
  · rw [Tryd.underlying115]; rfl
  · rw [Tryd.underlying116]; rfl
  · rw [Tryd.underlying140]; rfl
  · rw [Tryd.underlying141]; rfl
  · rw [Tryd.underlying150]; rfl
  · rw [Tryd.underlying153]; rfl
  · rw [Tryd.underlying154]; rfl
  · rw [Tryd.underlying178]; rfl
  · rw [Tryd.underlying179]; rfl
  · rw [Tryd.underlying181]; rfl
  · rw [Tryd.underlying182]; rfl
  · rw [Tryd.underlying183]; rfl
  · rw [Tryd.underlying184]; rfl
  · rw [Tryd.underlying201]; rfl
  · rw [Tryd.underlying202]; rfl
  · rw [Tryd.underlying210]; rfl
  · rw [Tryd.underlying211]; rfl
  · rw [Tryd.underlying212]; rfl
  · cases h
def aggOf_1 : Nat → Bool
  | 213 => true
  | 214 => true
  | 221 => true
  | 222 => true
  | 226 => true
  | 227 => true
  | 231 => true
  | 232 => true
  | 235 => true
  | 236 => true
  | _ => false
set_option maxHeartbeats 8000000 in
theorem agg_1 (t : Nat) (h : aggOf_1 t = true) : (Tryd.prog.underlying t).map aggB = some true := by
  unfold aggOf_1 at h
  split at h
  · rw [Tryd.underlying213]; rfl
  · rw [Tryd.underlying214]; rfl
  · rw [Tryd.underlying221]; rfl
  · rw [Tryd.underlying222]; rfl
  · rw [Tryd.underlying226]; rfl
  · rw [Tryd.underlying227]; rfl
  · rw [Tryd.underlying231]; rfl
  · rw [Tryd.underlying232]; rfl
  · rw [Tryd.underlying235]; rfl
  · rw [Tryd.underlying236]; rfl
  · cases h
def aggOf (t : Nat) : Bool := (bif aggOf_0 t then true else (bif aggOf_1 t then true else false))
theorem agg (t : Nat) (h : aggOf t = true) : (Tryd.prog.underlying t).map aggB = some true := by
  unfold aggOf at h
  cases e0 : aggOf_0 t with
  | true => exact agg_0 t e0
  | false =>
  rw [e0] at h
  simp only [cond_false] at h
  cases e1 : aggOf_1 t with
  | true => exact agg_1 t e1
  | false =>
  rw [e1] at h
  simp only [cond_false] at h
  cases h
def conOf_0 : Nat → Bool
  | 2 => true
  | 3 => true
  | 4 => true
  | 5 => true
  | 6 => true
  | 7 => true
  | 8 => true
  | 9 => true
  | 10 => true
  | 11 => true
  | 12 => true
  | 13 => true
  | 14 => true
  | 15 => true
  | 16 => true
  | 17 => true
  | 18 => true
  | 19 => true
  | 21 => true
  | 22 => true
  | 23 => true
  | 24 => true
  | 25 => true
  | 26 => true
  | 27 => true
  | 33 => true
  | 34 => true
  | 35 => true
  | 36 => true
  | 37 => true
  | 38 => true
  | 42 => true
  | 50 => true
  | 51 => true
  | 55 => true
  | 56 => true
  | 57 => true
  | 58 => true
  | 59 => true
  | 60 => true
  | 61 => true
  | 62 => true
  | 65 => true
  | 66 => true
  | 67 => true
  | 73 => true
  | 81 => true
  | 96 => true
  | 99 => true
  | 100 => true
  | _ => false
set_option maxHeartbeats 8000000 in
theorem con_0 (t : Nat) (h : conOf_0 t = true) : (Tryd.prog.underlying t).map concB = some true := by
  unfold conOf_0 at h
  split at h
  · rw [Tryd.underlying2]; rfl
  · rw [Tryd.underlying3]; rfl
  · rw [Tryd.underlying4]; rfl
  · rw [Tryd.underlying5]; rfl
  · rw [Tryd.underlying6]; rfl
  · rw [Tryd.underlying7]; rfl
  · rw [Tryd.underlying8]; rfl
  · rw [Tryd.underlying9]; rfl
  · rw [Tryd.underlying10]; rfl
  · rw [Tryd.underlying11]; rfl
  · rw [Tryd.underlying12]; rfl
  · rw [Tryd.underlying13]; rfl
  · rw [Tryd.underlying14]; rfl
  · rw [Tryd.underlying15]; rfl
  · rw [Tryd.underlying16]; rfl
  · rw [Tryd.underlying17]; rfl
  · rw [Tryd.underlying18]; rfl
  · rw [Tryd.underlying19]; rfl
  · rw [Tryd.underlying21]; rfl
  · rw [Tryd.underlying22]; rfl
  · rw [Tryd.underlying23]; rfl
  · rw [Tryd.underlying24]; rfl
  · rw [Tryd.underlying25]; rfl
  · rw [Tryd.underlying26]; rfl
  · rw [Tryd.underlying27]; rfl
  · rw [Tryd.underlying33]; rfl
  · rw [Tryd.underlying34]; rfl
  · rw [Tryd.underlying35]; rfl
  · rw [Tryd.underlying36]; rfl
  · rw [Tryd.underlying37]; rfl
  · rw [Tryd.underlying38]; rfl
  · rw [Tryd.underlying42]; rfl
  · rw [Tryd.underlying50]; rfl
  · rw [Tryd.underlying51]; rfl
  · rw [Tryd.underlying55]; rfl
  · rw [Tryd.underlying56]; rfl
  · rw [Tryd.underlying57]; rfl
  · rw [Tryd.underlying58]; rfl
  · rw [Tryd.underlying59]; rfl
  · rw [Tryd.underlying60]; rfl
  · rw [Tryd.underlying61]; rfl
  · rw [Tryd.underlying62]; rfl
  · rw [Tryd.underlying65]; rfl
  · rw [Tryd.underlying66]; rfl
  · rw [Tryd.underlying67]; rfl
  · rw [Tryd.underlying73]; rfl
  · rw [Tryd.underlying81]; rfl
  · rw [Tryd.underlying96]; rfl
  · rw [Tryd.underlying99]; rfl
  · rw [Tryd.underlying100]; rfl
  · cases h
def conOf_1 : Nat → Bool
  | 103 => true
  | 104 => true
  | 110 => true
  | 111 => true
  | 113 => true
  | 115 => true
  | 116 => true
  | 117 => true
  | 139 => true
  | 140 => true
  | 141 => true
  | 144 => true
  | 148 => true
  | 153 => true
  | 154 => true
  | 155 => true
  | 162 => true
  | 167 => true
  | 168 => true
  | 176 => true
  | 178 => true
  | 179 => true
  | 182 => true
  | 183 => true
  | 185 => true
  | 193 => true
  | 201 => true
  | 202 => true
  | 210 => true
  | 211 => true
  | 213 => true
  | 214 => true
  | 216 => true
  | 218 => true
  | 219 => true
  | 220 => true
  | 221 => true
  | 222 => true
  | 226 => true
  | 227 => true
  | 228 => true
  | 230 => true
  | 231 => true
  | 232 => true
  | 233 => true
  | 234 => true
  | 235 => true
  | 236 => true
  | 237 => true
  | _ => false
set_option maxHeartbeats 8000000 in
theorem con_1 (t : Nat) (h : conOf_1 t = true) : (Tryd.prog.underlying t).map concB = some true := by
  unfold conOf_1 at h
  split at h
  · rw [Tryd.underlying103]; rfl
  · rw [Tryd.underlying104]; rfl
  · rw [Tryd.underlying110]; rfl
  · rw [Tryd.underlying111]; rfl
  · rw [Tryd.underlying113]; rfl
  · rw [Tryd.underlying115]; rfl
  · rw [Tryd.underlying116]; rfl
  · rw [Tryd.underlying117]; rfl
  · rw [Tryd.underlying139]; rfl
  · rw [Tryd.underlying140]; rfl
  · rw [Tryd.underlying141]; rfl
  · rw [Tryd.underlying144]; rfl
  · rw [Tryd.underlying148]; rfl
  · rw [Tryd.underlying153]; rfl
  · rw [Tryd.underlying154]; rfl
  · rw [Tryd.underlying155]; rfl
  · rw [Tryd.underlying162]; rfl
  · rw [Tryd.underlying167]; rfl
  · rw [Tryd.underlying168]; rfl
  · rw [Tryd.underlying176]; rfl
  · rw [Tryd.underlying178]; rfl
  · rw [Tryd.underlying179]; rfl
  · rw [Tryd.underlying182]; rfl
  · rw [Tryd.underlying183]; rfl
  · rw [Tryd.underlying185]; rfl
  · rw [Tryd.underlying193]; rfl
  · rw [Tryd.underlying201]; rfl
  · rw [Tryd.underlying202]; rfl
  · rw [Tryd.underlying210]; rfl
  · rw [Tryd.underlying211]; rfl
  · rw [Tryd.underlying213]; rfl
  · rw [Tryd.underlying214]; rfl
  · rw [Tryd.underlying216]; rfl
  · rw [Tryd.underlying218]; rfl
  · rw [Tryd.underlying219]; rfl
  · rw [Tryd.underlying220]; rfl
  · rw [Tryd.underlying221]; rfl
  · rw [Tryd.underlying222]; rfl
  · rw [Tryd.underlying226]; rfl
  · rw [Tryd.underlying227]; rfl
  · rw [Tryd.underlying228]; rfl
  · rw [Tryd.underlying230]; rfl
  · rw [Tryd.underlying231]; rfl
  · rw [Tryd.underlying232]; rfl
  · rw [Tryd.underlying233]; rfl
  · rw [Tryd.underlying234]; rfl
  · rw [Tryd.underlying235]; rfl
  · rw [Tryd.underlying236]; rfl
  · rw [Tryd.underlying237]; rfl
  · cases h
def conOf (t : Nat) : Bool := (bif conOf_0 t then true else (bif conOf_1 t then true else false))
theorem con (t : Nat) (h : conOf t = true) : (Tryd.prog.underlying t).map concB = some true := by
  unfold conOf at h
  cases e0 : conOf_0 t with
  | true => exact con_0 t e0
  | false =>
  rw [e0] at h
  simp only [cond_false] at h
  cases e1 : conOf_1 t with
  | true => exact con_1 t e1
  | false =>
  rw [e1] at h
  simp only [cond_false] at h
  cases h
def fldOf7 : Nat → Option (Nat × Nat)
  | 0 => some (0, 2)
  | 1 => some (1, 3)
  | 2 => some (2, 4)
  | 3 => some (3, 6)
  | _ => none
theorem fld7 (f off ft : Nat) (h : fldOf7 f = some (off, ft)) : Fld Tryd.prog 7 f off ft := by
  unfold fldOf7 at h
  split at h
  · cases h; exact ⟨_, _, Tryd.underlying7, rfl, rfl, rfl⟩
  · cases h; exact ⟨_, _, Tryd.underlying7, rfl, rfl, rfl⟩
  · cases h; exact ⟨_, _, Tryd.underlying7, rfl, rfl, rfl⟩
  · cases h; exact ⟨_, _, Tryd.underlying7, rfl, rfl, rfl⟩
  · cases h
def fldOf8 : Nat → Option (Nat × Nat)
  | 0 => some (0, 2)
  | 1 => some (1, 3)
  | 2 => some (2, 4)
  | 3 => some (3, 6)
  | _ => none
theorem fld8 (f off ft : Nat) (h : fldOf8 f = some (off, ft)) : Fld Tryd.prog 8 f off ft := by
  unfold fldOf8 at h
  split at h
  · cases h; exact ⟨_, _, Tryd.underlying8, rfl, rfl, rfl⟩
  · cases h; exact ⟨_, _, Tryd.underlying8, rfl, rfl, rfl⟩
  · cases h; exact ⟨_, _, Tryd.underlying8, rfl, rfl, rfl⟩
  · cases h; exact ⟨_, _, Tryd.underlying8, rfl, rfl, rfl⟩
  · cases h
def fldOf13 : Nat → Option (Nat × Nat)
  | 0 => some (0, 9)
  | 1 => some (1, 12)
  | _ => none
theorem fld13 (f off ft : Nat) (h : fldOf13 f = some (off, ft)) : Fld Tryd.prog 13 f off ft := by
  unfold fldOf13 at h
  split at h
  · cases h; exact ⟨_, _, Tryd.underlying13, rfl, rfl, rfl⟩
  · cases h; exact ⟨_, _, Tryd.underlying13, rfl, rfl, rfl⟩
  · cases h
def fldOf14 : Nat → Option (Nat × Nat)
  | 0 => some (0, 9)
  | 1 => some (1, 12)
  | _ => none
theorem fld14 (f off ft : Nat) (h : fldOf14 f = some (off, ft)) : Fld Tryd.prog 14 f off ft := by
  unfold fldOf14 at h
  split at h
  · cases h; exact ⟨_, _, Tryd.underlying14, rfl, rfl, rfl⟩
  · cases h; exact ⟨_, _, Tryd.underlying14, rfl, rfl, rfl⟩
  · cases h
def fldOf18 : Nat → Option (Nat × Nat)
  | 0 => some (0, 17)
  | _ => none
theorem fld18 (f off ft : Nat) (h : fldOf18 f = some (off, ft)) : Fld Tryd.prog 18 f off ft := by
  unfold fldOf18 at h
  split at h
  · cases h; exact ⟨_, _, Tryd.underlying18, rfl, rfl, rfl⟩
  · cases h
def fldOf19 : Nat → Option (Nat × Nat)
  | 0 => some (0, 17)
  | _ => none
theorem fld19 (f off ft : Nat) (h : fldOf19 f = some (off, ft)) : Fld Tryd.prog 19 f off ft := by
  unfold fldOf19 at h
  split at h
  · cases h; exact ⟨_, _, Tryd.underlying19, rfl, rfl, rfl⟩
  · cases h
def fldOf22 : Nat → Option (Nat × Nat)
  | 0 => some (0, 3)
  | 1 => some (1, 3)
  | _ => none
theorem fld22 (f off ft : Nat) (h : fldOf22 f = some (off, ft)) : Fld Tryd.prog 22 f off ft := by
  unfold fldOf22 at h
  split at h
  · cases h; exact ⟨_, _, Tryd.underlying22, rfl, rfl, rfl⟩
  · cases h; exact ⟨_, _, Tryd.underlying22, rfl, rfl, rfl⟩
  · cases h
def fldOf23 : Nat → Option (Nat × Nat)
  | 0 => some (0, 3)
  | 1 => some (1, 3)
  | _ => none
theorem fld23 (f off ft : Nat) (h : fldOf23 f = some (off, ft)) : Fld Tryd.prog 23 f off ft := by
  unfold fldOf23 at h
  split at h
  · cases h; exact ⟨_, _, Tryd.underlying23, rfl, rfl, rfl⟩
  · cases h; exact ⟨_, _, Tryd.underlying23, rfl, rfl, rfl⟩
  · cases h
def fldOf26 : Nat → Option (Nat × Nat)
  | 0 => some (0, 23)
  | 1 => some (2, 24)
  | 2 => some (3, 4)
  | 3 => some (4, 9)
  | 4 => some (5, 3)
  | 5 => some (6, 9)
  | 6 => some (7, 25)
  | _ => none
theorem fld26 (f off ft : Nat) (h : fldOf26 f = some (off, ft)) : Fld Tryd.prog 26 f off ft := by
  unfold fldOf26 at h
  split at h
  · cases h; exact ⟨_, _, Tryd.underlying26, rfl, rfl, rfl⟩
  · cases h; exact ⟨_, _, Tryd.underlying26, rfl, rfl, rfl⟩
  · cases h; exact ⟨_, _, Tryd.underlying26, rfl, rfl, rfl⟩
  · cases h; exact ⟨_, _, Tryd.underlying26, rfl, rfl, rfl⟩
  · cases h; exact ⟨_, _, Tryd.underlying26, rfl, rfl, rfl⟩
  · cases h; exact ⟨_, _, Tryd.underlying26, rfl, rfl, rfl⟩
  · cases h; exact ⟨_, _, Tryd.underlying26, rfl, rfl, rfl⟩
  · cases h
def fldOf27 : Nat → Option (Nat × Nat)
  | 0 => some (0, 23)
  | 1 => some (2, 24)
  | 2 => some (3, 4)
  | 3 => some (4, 9)
  | 4 => some (5, 3)
  | 5 => some (6, 9)
  | 6 => some (7, 25)
  | _ => none
theorem fld27 (f off ft : Nat) (h : fldOf27 f = some (off, ft)) : Fld Tryd.prog 27 f off ft := by
  unfold fldOf27 at h
  split at h
  · cases h; exact ⟨_, _, Tryd.underlying27, rfl, rfl, rfl⟩
  · cases h; exact ⟨_, _, Tryd.underlying27, rfl, rfl, rfl⟩
  · cases h; exact ⟨_, _, Tryd.underlying27, rfl, rfl, rfl⟩
  · cases h; exact ⟨_, _, Tryd.underlying27, rfl, rfl, rfl⟩
  · cases h; exact ⟨_, _, Tryd.underlying27, rfl, rfl, rfl⟩
  · cases h; exact ⟨_, _, Tryd.underlying27, rfl, rfl, rfl⟩
  · cases h; exact ⟨_, _, Tryd.underlying27, rfl, rfl, rfl⟩
  · cases h
def fldOf34 : Nat → Option (Nat × Nat)
  | 0 => some (0, 2)
  | 1 => some (1, 2)
  | _ => none
theorem fld34 (f off ft : Nat) (h : fldOf34 f = some (off, ft)) : Fld Tryd.prog 34 f off ft := by
  unfold fldOf34 at h
  split at h
  · cases h; exact ⟨_, _, Tryd.underlying34, rfl, rfl, rfl⟩
  · cases h; exact ⟨_, _, Tryd.underlying34, rfl, rfl, rfl⟩
  · cases h
def fldOf35 : Nat → Option (Nat × Nat)
  | 0 => some (0, 2)
  | 1 => some (1, 2)
  | _ => none
theorem fld35 (f off ft : Nat) (h : fldOf35 f = some (off, ft)) : Fld Tryd.prog 35 f off ft := by
  unfold fldOf35 at h
  split at h
  · cases h; exact ⟨_, _, Tryd.underlying35, rfl, rfl, rfl⟩
  · cases h; exact ⟨_, _, Tryd.underlying35, rfl, rfl, rfl⟩
  · cases h
def fldOf37 : Nat → Option (Nat × Nat)
  | 0 => some (0, 23)
  | 1 => some (2, 9)
  | 2 => some (3, 3)
  | 3 => some (4, 33)
  | 4 => some (5, 3)
  | 5 => some (6, 3)
  | 6 => some (7, 4)
  | 7 => some (8, 4)
  | 8 => some (9, 35)
  | 9 => some (11, 35)
  | 10 => some (13, 35)
  | 11 => some (15, 35)
  | 12 => some (17, 9)
  | 13 => some (18, 36)
  | _ => none
theorem fld37 (f off ft : Nat) (h : fldOf37 f = some (off, ft)) : Fld Tryd.prog 37 f off ft := by
  unfold fldOf37 at h
  split at h
  · cases h; exact ⟨_, _, Tryd.underlying37, rfl, rfl, rfl⟩
  · cases h; exact ⟨_, _, Tryd.underlying37, rfl, rfl, rfl⟩
  · cases h; exact ⟨_, _, Tryd.underlying37, rfl, rfl, rfl⟩
  · cases h; exact ⟨_, _, Tryd.underlying37, rfl, rfl, rfl⟩
  · cases h; exact ⟨_, _, Tryd.underlying37, rfl, rfl, rfl⟩
  · cases h; exact ⟨_, _, Tryd.underlying37, rfl, rfl, rfl⟩
  · cases h; exact ⟨_, _, Tryd.underlying37, rfl, rfl, rfl⟩
  · cases h; exact ⟨_, _, Tryd.underlying37, rfl, rfl, rfl⟩
  · cases h; exact ⟨_, _, Tryd.underlying37, rfl, rfl, rfl⟩
  · cases h; exact ⟨_, _, Tryd.underlying37, rfl, rfl, rfl⟩
  · cases h; exact ⟨_, _, Tryd.underlying37, rfl, rfl, rfl⟩
  · cases h; exact ⟨_, _, Tryd.underlying37, rfl, rfl, rfl⟩
  · cases h; exact ⟨_, _, Tryd.underlying37, rfl, rfl, rfl⟩
  · cases h; exact ⟨_, _, Tryd.underlying37, rfl, rfl, rfl⟩
  · cases h
def fldOf38 : Nat → Option (Nat × Nat)
  | 0 => some (0, 23)
  | 1 => some (2, 9)
  | 2 => some (3, 3)
  | 3 => some (4, 33)
  | 4 => some (5, 3)
  | 5 => some (6, 3)
  | 6 => some (7, 4)
  | 7 => some (8, 4)
  | 8 => some (9, 35)
  | 9 => some (11, 35)
  | 10 => some (13, 35)
  | 11 => some (15, 35)
  | 12 => some (17, 9)
  | 13 => some (18, 36)
  | _ => none
theorem fld38 (f off ft : Nat) (h : fldOf38 f = some (off, ft)) : Fld Tryd.prog 38 f off ft := by
  unfold fldOf38 at h
  split at h
  · cases h; exact ⟨_, _, Tryd.underlying38, rfl, rfl, rfl⟩
  · cases h; exact ⟨_, _, Tryd.underlying38, rfl, rfl, rfl⟩
  · cases h; exact ⟨_, _, Tryd.underlying38, rfl, rfl, rfl⟩
  · cases h; exact ⟨_, _, Tryd.underlying38, rfl, rfl, rfl⟩
  · cases h; exact ⟨_, _, Tryd.underlying38, rfl, rfl, rfl⟩
  · cases h; exact ⟨_, _, Tryd.underlying38, rfl, rfl, rfl⟩
  · cases h; exact ⟨_, _, Tryd.underlying38, rfl, rfl, rfl⟩
  · cases h; exact ⟨_, _, Tryd.underlying38, rfl, rfl, rfl⟩
  · cases h; exact ⟨_, _, Tryd.underlying38, rfl, rfl, rfl⟩
  · cases h; exact ⟨_, _, Tryd.underlying38, rfl, rfl, rfl⟩
  · cases h; exact ⟨_, _, Tryd.underlying38, rfl, rfl, rfl⟩
  · cases h; exact ⟨_, _, Tryd.underlying38, rfl, rfl, rfl⟩
  · cases h; exact ⟨_, _, Tryd.underlying38, rfl, rfl, rfl⟩
  · cases h; exact ⟨_, _, Tryd.underlying38, rfl, rfl, rfl⟩
  · cases h
def fldOf50 : Nat → Option (Nat × Nat)
  | 0 => some (0, 3)
  | 1 => some (1, 23)
  | _ => none
theorem fld50 (f off ft : Nat) (h : fldOf50 f = some (off, ft)) : Fld Tryd.prog 50 f off ft := by
  unfold fldOf50 at h
  split at h
  · cases h; exact ⟨_, _, Tryd.underlying50, rfl, rfl, rfl⟩
  · cases h; exact ⟨_, _, Tryd.underlying50, rfl, rfl, rfl⟩
  · cases h
def fldOf51 : Nat → Option (Nat × Nat)
  | 0 => some (0, 3)
  | 1 => some (1, 23)
  | _ => none
theorem fld51 (f off ft : Nat) (h : fldOf51 f = some (off, ft)) : Fld Tryd.prog 51 f off ft := by
  unfold fldOf51 at h
  split at h
  · cases h; exact ⟨_, _, Tryd.underlying51, rfl, rfl, rfl⟩
  · cases h; exact ⟨_, _, Tryd.underlying51, rfl, rfl, rfl⟩
  · cases h
def fldOf55 : Nat → Option (Nat × Nat)
  | 0 => some (0, 23)
  | 1 => some (2, 9)
  | _ => none
theorem fld55 (f off ft : Nat) (h : fldOf55 f = some (off, ft)) : Fld Tryd.prog 55 f off ft := by
  unfold fldOf55 at h
  split at h
  · cases h; exact ⟨_, _, Tryd.underlying55, rfl, rfl, rfl⟩
  · cases h; exact ⟨_, _, Tryd.underlying55, rfl, rfl, rfl⟩
  · cases h
def fldOf56 : Nat → Option (Nat × Nat)
  | 0 => some (0, 23)
  | 1 => some (2, 9)
  | _ => none
theorem fld56 (f off ft : Nat) (h : fldOf56 f = some (off, ft)) : Fld Tryd.prog 56 f off ft := by
  unfold fldOf56 at h
  split at h
  · cases h; exact ⟨_, _, Tryd.underlying56, rfl, rfl, rfl⟩
  · cases h; exact ⟨_, _, Tryd.underlying56, rfl, rfl, rfl⟩
  · cases h
def fldOf57 : Nat → Option (Nat × Nat)
  | 0 => some (0, 23)
  | 1 => some (2, 36)
  | _ => none
theorem fld57 (f off ft : Nat) (h : fldOf57 f = some (off, ft)) : Fld Tryd.prog 57 f off ft := by
  unfold fldOf57 at h
  split at h
  · cases h; exact ⟨_, _, Tryd.underlying57, rfl, rfl, rfl⟩
  · cases h; exact ⟨_, _, Tryd.underlying57, rfl, rfl, rfl⟩
  · cases h
def fldOf58 : Nat → Option (Nat × Nat)
  | 0 => some (0, 23)
  | 1 => some (2, 36)
  | _ => none
theorem fld58 (f off ft : Nat) (h : fldOf58 f = some (off, ft)) : Fld Tryd.prog 58 f off ft := by
  unfold fldOf58 at h
  split at h
  · cases h; exact ⟨_, _, Tryd.underlying58, rfl, rfl, rfl⟩
  · cases h; exact ⟨_, _, Tryd.underlying58, rfl, rfl, rfl⟩
  · cases h
def fldOf61 : Nat → Option (Nat × Nat)
  | 0 => some (0, 4)
  | 1 => some (1, 56)
  | 2 => some (4, 58)
  | 3 => some (7, 59)
  | 4 => some (8, 60)
  | _ => none
theorem fld61 (f off ft : Nat) (h : fldOf61 f = some (off, ft)) : Fld Tryd.prog 61 f off ft := by
  unfold fldOf61 at h
  split at h
  · cases h; exact ⟨_, _, Tryd.underlying61, rfl, rfl, rfl⟩
  · cases h; exact ⟨_, _, Tryd.underlying61, rfl, rfl, rfl⟩
  · cases h; exact ⟨_, _, Tryd.underlying61, rfl, rfl, rfl⟩
  · cases h; exact ⟨_, _, Tryd.underlying61, rfl, rfl, rfl⟩
  · cases h; exact ⟨_, _, Tryd.underlying61, rfl, rfl, rfl⟩
  · cases h
def fldOf62 : Nat → Option (Nat × Nat)
  | 0 => some (0, 4)
  | 1 => some (1, 56)
  | 2 => some (4, 58)
  | 3 => some (7, 59)
  | 4 => some (8, 60)
  | _ => none
theorem fld62 (f off ft : Nat) (h : fldOf62 f = some (off, ft)) : Fld Tryd.prog 62 f off ft := by
  unfold fldOf62 at h
  split at h
  · cases h; exact ⟨_, _, Tryd.underlying62, rfl, rfl, rfl⟩
  · cases h; exact ⟨_, _, Tryd.underlying62, rfl, rfl, rfl⟩
  · cases h; exact ⟨_, _, Tryd.underlying62, rfl, rfl, rfl⟩
  · cases h; exact ⟨_, _, Tryd.underlying62, rfl, rfl, rfl⟩
  · cases h; exact ⟨_, _, Tryd.underlying62, rfl, rfl, rfl⟩
  · cases h
def fldOf66 : Nat → Option (Nat × Nat)
  | 0 => some (0, 23)
  | 1 => some (2, 24)
  | 2 => some (3, 4)
  | 3 => some (4, 9)
  | 4 => some (5, 65)
  | _ => none
theorem fld66 (f off ft : Nat) (h : fldOf66 f = some (off, ft)) : Fld Tryd.prog 66 f off ft := by
  unfold fldOf66 at h
  split at h
  · cases h; exact ⟨_, _, Tryd.underlying66, rfl, rfl, rfl⟩
  · cases h; exact ⟨_, _, Tryd.underlying66, rfl, rfl, rfl⟩
  · cases h; exact ⟨_, _, Tryd.underlying66, rfl, rfl, rfl⟩
  · cases h; exact ⟨_, _, Tryd.underlying66, rfl, rfl, rfl⟩
  · cases h; exact ⟨_, _, Tryd.underlying66, rfl, rfl, rfl⟩
  · cases h
def fldOf67 : Nat → Option (Nat × Nat)
  | 0 => some (0, 23)
  | 1 => some (2, 24)
  | 2 => some (3, 4)
  | 3 => some (4, 9)
  | 4 => some (5, 65)
  | _ => none
theorem fld67 (f off ft : Nat) (h : fldOf67 f = some (off, ft)) : Fld Tryd.prog 67 f off ft := by
  unfold fldOf67 at h
  split at h
  · cases h; exact ⟨_, _, Tryd.underlying67, rfl, rfl, rfl⟩
  · cases h; exact ⟨_, _, Tryd.underlying67, rfl, rfl, rfl⟩
  · cases h; exact ⟨_, _, Tryd.underlying67, rfl, rfl, rfl⟩
  · cases h; exact ⟨_, _, Tryd.underlying67, rfl, rfl, rfl⟩
  · cases h; exact ⟨_, _, Tryd.underlying67, rfl, rfl, rfl⟩
  · cases h
def fldOf99 : Nat → Option (Nat × Nat)
  | 0 => some (0, 76)
  | 1 => some (1, 76)
  | 2 => some (2, 97)
  | 3 => some (3, 98)
  | _ => none
theorem fld99 (f off ft : Nat) (h : fldOf99 f = some (off, ft)) : Fld Tryd.prog 99 f off ft := by
  unfold fldOf99 at h
  split at h
  · cases h; exact ⟨_, _, Tryd.underlying99, rfl, rfl, rfl⟩
  · cases h; exact ⟨_, _, Tryd.underlying99, rfl, rfl, rfl⟩
  · cases h; exact ⟨_, _, Tryd.underlying99, rfl, rfl, rfl⟩
  · cases h; exact ⟨_, _, Tryd.underlying99, rfl, rfl, rfl⟩
  · cases h
def fldOf100 : Nat → Option (Nat × Nat)
  | 0 => some (0, 76)
  | 1 => some (1, 76)
  | 2 => some (2, 97)
  | 3 => some (3, 98)
  | _ => none
theorem fld100 (f off ft : Nat) (h : fldOf100 f = some (off, ft)) : Fld Tryd.prog 100 f off ft := by
  unfold fldOf100 at h
  split at h
  · cases h; exact ⟨_, _, Tryd.underlying100, rfl, rfl, rfl⟩
  · cases h; exact ⟨_, _, Tryd.underlying100, rfl, rfl, rfl⟩
  · cases h; exact ⟨_, _, Tryd.underlying100, rfl, rfl, rfl⟩
  · cases h; exact ⟨_, _, Tryd.underlying100, rfl, rfl, rfl⟩
  · cases h
def fldOf103 : Nat → Option (Nat × Nat)
  | 0 => some (0, 24)
  | 1 => some (1, 4)
  | 2 => some (2, 9)
  | _ => none
theorem fld103 (f off ft : Nat) (h : fldOf103 f = some (off, ft)) : Fld Tryd.prog 103 f off ft := by
  unfold fldOf103 at h
  split at h
  · cases h; exact ⟨_, _, Tryd.underlying103, rfl, rfl, rfl⟩
  · cases h; exact ⟨_, _, Tryd.underlying103, rfl, rfl, rfl⟩
  · cases h; exact ⟨_, _, Tryd.underlying103, rfl, rfl, rfl⟩
  · cases h
def fldOf104 : Nat → Option (Nat × Nat)
  | 0 => some (0, 24)
  | 1 => some (1, 4)
  | 2 => some (2, 9)
  | _ => none
theorem fld104 (f off ft : Nat) (h : fldOf104 f = some (off, ft)) : Fld Tryd.prog 104 f off ft := by
  unfold fldOf104 at h
  split at h
  · cases h; exact ⟨_, _, Tryd.underlying104, rfl, rfl, rfl⟩
  · cases h; exact ⟨_, _, Tryd.underlying104, rfl, rfl, rfl⟩
  · cases h; exact ⟨_, _, Tryd.underlying104, rfl, rfl, rfl⟩
  · cases h
def fldOf110 : Nat → Option (Nat × Nat)
  | 0 => some (0, 73)
  | 1 => some (1, 3)
  | 2 => some (2, 3)
  | _ => none
theorem fld110 (f off ft : Nat) (h : fldOf110 f = some (off, ft)) : Fld Tryd.prog 110 f off ft := by
  unfold fldOf110 at h
  split at h
  · cases h; exact ⟨_, _, Tryd.underlying110, rfl, rfl, rfl⟩
  · cases h; exact ⟨_, _, Tryd.underlying110, rfl, rfl, rfl⟩
  · cases h; exact ⟨_, _, Tryd.underlying110, rfl, rfl, rfl⟩
  · cases h
def fldOf111 : Nat → Option (Nat × Nat)
  | 0 => some (0, 73)
  | 1 => some (1, 3)
  | 2 => some (2, 3)
  | _ => none
theorem fld111 (f off ft : Nat) (h : fldOf111 f = some (off, ft)) : Fld Tryd.prog 111 f off ft := by
  unfold fldOf111 at h
  split at h
  · cases h; exact ⟨_, _, Tryd.underlying111, rfl, rfl, rfl⟩
  · cases h; exact ⟨_, _, Tryd.underlying111, rfl, rfl, rfl⟩
  · cases h; exact ⟨_, _, Tryd.underlying111, rfl, rfl, rfl⟩
  · cases h
def fldOf115 : Nat → Option (Nat × Nat)
  | 0 => some (0, 2)
  | 1 => some (1, 9)
  | _ => none
theorem fld115 (f off ft : Nat) (h : fldOf115 f = some (off, ft)) : Fld Tryd.prog 115 f off ft := by
  unfold fldOf115 at h
  split at h
  · cases h; exact ⟨_, _, Tryd.underlying115, rfl, rfl, rfl⟩
  · cases h; exact ⟨_, _, Tryd.underlying115, rfl, rfl, rfl⟩
  · cases h
def fldOf116 : Nat → Option (Nat × Nat)
  | 0 => some (0, 2)
  | 1 => some (1, 9)
  | _ => none
theorem fld116 (f off ft : Nat) (h : fldOf116 f = some (off, ft)) : Fld Tryd.prog 116 f off ft := by
  unfold fldOf116 at h
  split at h
  · cases h; exact ⟨_, _, Tryd.underlying116, rfl, rfl, rfl⟩
  · cases h; exact ⟨_, _, Tryd.underlying116, rfl, rfl, rfl⟩
  · cases h
def fldOf140 : Nat → Option (Nat × Nat)
  | 0 => some (0, 17)
  | 1 => some (1, 138)
  | 2 => some (2, 139)
  | _ => none
theorem fld140 (f off ft : Nat) (h : fldOf140 f = some (off, ft)) : Fld Tryd.prog 140 f off ft := by
  unfold fldOf140 at h
  split at h
  · cases h; exact ⟨_, _, Tryd.underlying140, rfl, rfl, rfl⟩
  · cases h; exact ⟨_, _, Tryd.underlying140, rfl, rfl, rfl⟩
  · cases h; exact ⟨_, _, Tryd.underlying140, rfl, rfl, rfl⟩
  · cases h
def fldOf141 : Nat → Option (Nat × Nat)
  | 0 => some (0, 17)
  | 1 => some (1, 138)
  | 2 => some (2, 139)
  | _ => none
theorem fld141 (f off ft : Nat) (h : fldOf141 f = some (off, ft)) : Fld Tryd.prog 141 f off ft := by
  unfold fldOf141 at h
  split at h
  · cases h; exact ⟨_, _, Tryd.underlying141, rfl, rfl, rfl⟩
  · cases h; exact ⟨_, _, Tryd.underlying141, rfl, rfl, rfl⟩
  · cases h; exact ⟨_, _, Tryd.underlying141, rfl, rfl, rfl⟩
  · cases h
def fldOf153 : Nat → Option (Nat × Nat)
  | 0 => some (0, 17)
  | _ => none
theorem fld153 (f off ft : Nat) (h : fldOf153 f = some (off, ft)) : Fld Tryd.prog 153 f off ft := by
  unfold fldOf153 at h
  split at h
  · cases h; exact ⟨_, _, Tryd.underlying153, rfl, rfl, rfl⟩
  · cases h
def fldOf154 : Nat → Option (Nat × Nat)
  | 0 => some (0, 17)
  | _ => none
theorem fld154 (f off ft : Nat) (h : fldOf154 f = some (off, ft)) : Fld Tryd.prog 154 f off ft := by
  unfold fldOf154 at h
  split at h
  · cases h; exact ⟨_, _, Tryd.underlying154, rfl, rfl, rfl⟩
  · cases h
def fldOf178 : Nat → Option (Nat × Nat)
  | 0 => some (0, 23)
  | 1 => some (2, 21)
  | 2 => some (3, 3)
  | 3 => some (4, 4)
  | _ => none
theorem fld178 (f off ft : Nat) (h : fldOf178 f = some (off, ft)) : Fld Tryd.prog 178 f off ft := by
  unfold fldOf178 at h
  split at h
  · cases h; exact ⟨_, _, Tryd.underlying178, rfl, rfl, rfl⟩
  · cases h; exact ⟨_, _, Tryd.underlying178, rfl, rfl, rfl⟩
  · cases h; exact ⟨_, _, Tryd.underlying178, rfl, rfl, rfl⟩
  · cases h; exact ⟨_, _, Tryd.underlying178, rfl, rfl, rfl⟩
  · cases h
def fldOf179 : Nat → Option (Nat × Nat)
  | 0 => some (0, 23)
  | 1 => some (2, 21)
  | 2 => some (3, 3)
  | 3 => some (4, 4)
  | _ => none
theorem fld179 (f off ft : Nat) (h : fldOf179 f = some (off, ft)) : Fld Tryd.prog 179 f off ft := by
  unfold fldOf179 at h
  split at h
  · cases h; exact ⟨_, _, Tryd.underlying179, rfl, rfl, rfl⟩
  · cases h; exact ⟨_, _, Tryd.underlying179, rfl, rfl, rfl⟩
  · cases h; exact ⟨_, _, Tryd.underlying179, rfl, rfl, rfl⟩
  · cases h; exact ⟨_, _, Tryd.underlying179, rfl, rfl, rfl⟩
  · cases h
def fldOf182 : Nat → Option (Nat × Nat)
  | 0 => some (0, 5)
  | 1 => some (1, 5)
  | _ => none
theorem fld182 (f off ft : Nat) (h : fldOf182 f = some (off, ft)) : Fld Tryd.prog 182 f off ft := by
  unfold fldOf182 at h
  split at h
  · cases h; exact ⟨_, _, Tryd.underlying182, rfl, rfl, rfl⟩
  · cases h; exact ⟨_, _, Tryd.underlying182, rfl, rfl, rfl⟩
  · cases h
def fldOf183 : Nat → Option (Nat × Nat)
  | 0 => some (0, 5)
  | 1 => some (1, 5)
  | _ => none
theorem fld183 (f off ft : Nat) (h : fldOf183 f = some (off, ft)) : Fld Tryd.prog 183 f off ft := by
  unfold fldOf183 at h
  split at h
  · cases h; exact ⟨_, _, Tryd.underlying183, rfl, rfl, rfl⟩
  · cases h; exact ⟨_, _, Tryd.underlying183, rfl, rfl, rfl⟩
  · cases h
def fldOf201 : Nat → Option (Nat × Nat)
  | 0 => some (0, 4)
  | 1 => some (1, 168)
  | 2 => some (2, 168)
  | _ => none
theorem fld201 (f off ft : Nat) (h : fldOf201 f = some (off, ft)) : Fld Tryd.prog 201 f off ft := by
  unfold fldOf201 at h
  split at h
  · cases h; exact ⟨_, _, Tryd.underlying201, rfl, rfl, rfl⟩
  · cases h; exact ⟨_, _, Tryd.underlying201, rfl, rfl, rfl⟩
  · cases h; exact ⟨_, _, Tryd.underlying201, rfl, rfl, rfl⟩
  · cases h
def fldOf202 : Nat → Option (Nat × Nat)
  | 0 => some (0, 4)
  | 1 => some (1, 168)
  | 2 => some (2, 168)
  | _ => none
theorem fld202 (f off ft : Nat) (h : fldOf202 f = some (off, ft)) : Fld Tryd.prog 202 f off ft := by
  unfold fldOf202 at h
  split at h
  · cases h; exact ⟨_, _, Tryd.underlying202, rfl, rfl, rfl⟩
  · cases h; exact ⟨_, _, Tryd.underlying202, rfl, rfl, rfl⟩
  · cases h; exact ⟨_, _, Tryd.underlying202, rfl, rfl, rfl⟩
  · cases h
def fldOf210 : Nat → Option (Nat × Nat)
  | 0 => some (0, 17)
  | 1 => some (1, 17)
  | 2 => some (2, 17)
  | 3 => some (3, 9)
  | _ => none
theorem fld210 (f off ft : Nat) (h : fldOf210 f = some (off, ft)) : Fld Tryd.prog 210 f off ft := by
  unfold fldOf210 at h
  split at h
  · cases h; exact ⟨_, _, Tryd.underlying210, rfl, rfl, rfl⟩
  · cases h; exact ⟨_, _, Tryd.underlying210, rfl, rfl, rfl⟩
  · cases h; exact ⟨_, _, Tryd.underlying210, rfl, rfl, rfl⟩
  · cases h; exact ⟨_, _, Tryd.underlying210, rfl, rfl, rfl⟩
  · cases h
def fldOf211 : Nat → Option (Nat × Nat)
  | 0 => some (0, 17)
  | 1 => some (1, 17)
  | 2 => some (2, 17)
  | 3 => some (3, 9)
  | _ => none
theorem fld211 (f off ft : Nat) (h : fldOf211 f = some (off, ft)) : Fld Tryd.prog 211 f off ft := by
  unfold fldOf211 at h
  split at h
  · cases h; exact ⟨_, _, Tryd.underlying211, rfl, rfl, rfl⟩
  · cases h; exact ⟨_, _, Tryd.underlying211, rfl, rfl, rfl⟩
  · cases h; exact ⟨_, _, Tryd.underlying211, rfl, rfl, rfl⟩
  · cases h; exact ⟨_, _, Tryd.underlying211, rfl, rfl, rfl⟩
  · cases h
def fldOf213 : Nat → Option (Nat × Nat)
  | 0 => some (0, 212)
  | _ => none
theorem fld213 (f off ft : Nat) (h : fldOf213 f = some (off, ft)) : Fld Tryd.prog 213 f off ft := by
  unfold fldOf213 at h
  split at h
  · cases h; exact ⟨_, _, Tryd.underlying213, rfl, rfl, rfl⟩
  · cases h
def fldOf214 : Nat → Option (Nat × Nat)
  | 0 => some (0, 212)
  | _ => none
theorem fld214 (f off ft : Nat) (h : fldOf214 f = some (off, ft)) : Fld Tryd.prog 214 f off ft := by
  unfold fldOf214 at h
  split at h
  · cases h; exact ⟨_, _, Tryd.underlying214, rfl, rfl, rfl⟩
  · cases h
def fldOf221 : Nat → Option (Nat × Nat)
  | 0 => some (0, 12)
  | 1 => some (1, 12)
  | 2 => some (2, 24)
  | 3 => some (3, 216)
  | 4 => some (4, 5)
  | 5 => some (5, 5)
  | 6 => some (6, 144)
  | 7 => some (7, 217)
  | 8 => some (8, 218)
  | 9 => some (9, 219)
  | 10 => some (10, 220)
  | _ => none
theorem fld221 (f off ft : Nat) (h : fldOf221 f = some (off, ft)) : Fld Tryd.prog 221 f off ft := by
  unfold fldOf221 at h
  split at h
  · cases h; exact ⟨_, _, Tryd.underlying221, rfl, rfl, rfl⟩
  · cases h; exact ⟨_, _, Tryd.underlying221, rfl, rfl, rfl⟩
  · cases h; exact ⟨_, _, Tryd.underlying221, rfl, rfl, rfl⟩
  · cases h; exact ⟨_, _, Tryd.underlying221, rfl, rfl, rfl⟩
  · cases h; exact ⟨_, _, Tryd.underlying221, rfl, rfl, rfl⟩
  · cases h; exact ⟨_, _, Tryd.underlying221, rfl, rfl, rfl⟩
  · cases h; exact ⟨_, _, Tryd.underlying221, rfl, rfl, rfl⟩
  · cases h; exact ⟨_, _, Tryd.underlying221, rfl, rfl, rfl⟩
  · cases h; exact ⟨_, _, Tryd.underlying221, rfl, rfl, rfl⟩
  · cases h; exact ⟨_, _, Tryd.underlying221, rfl, rfl, rfl⟩
  · cases h; exact ⟨_, _, Tryd.underlying221, rfl, rfl, rfl⟩
  · cases h
def fldOf222 : Nat → Option (Nat × Nat)
  | 0 => some (0, 12)
  | 1 => some (1, 12)
  | 2 => some (2, 24)
  | 3 => some (3, 216)
  | 4 => some (4, 5)
  | 5 => some (5, 5)
  | 6 => some (6, 144)
  | 7 => some (7, 217)
  | 8 => some (8, 218)
  | 9 => some (9, 219)
  | 10 => some (10, 220)
  | _ => none
theorem fld222 (f off ft : Nat) (h : fldOf222 f = some (off, ft)) : Fld Tryd.prog 222 f off ft := by
  unfold fldOf222 at h
  split at h
  · cases h; exact ⟨_, _, Tryd.underlying222, rfl, rfl, rfl⟩
  · cases h; exact ⟨_, _, Tryd.underlying222, rfl, rfl, rfl⟩
  · cases h; exact ⟨_, _, Tryd.underlying222, rfl, rfl, rfl⟩
  · cases h; exact ⟨_, _, Tryd.underlying222, rfl, rfl, rfl⟩
  · cases h; exact ⟨_, _, Tryd.underlying222, rfl, rfl, rfl⟩
  · cases h; exact ⟨_, _, Tryd.underlying222, rfl, rfl, rfl⟩
  · cases h; exact ⟨_, _, Tryd.underlying222, rfl, rfl, rfl⟩
  · cases h; exact ⟨_, _, Tryd.underlying222, rfl, rfl, rfl⟩
  · cases h; exact ⟨_, _, Tryd.underlying222, rfl, rfl, rfl⟩
  · cases h; exact ⟨_, _, Tryd.underlying222, rfl, rfl, rfl⟩
  · cases h; exact ⟨_, _, Tryd.underlying222, rfl, rfl, rfl⟩
  · cases h
def fldOf226 : Nat → Option (Nat × Nat)
  | 0 => some (0, 9)
  | 1 => some (1, 144)
  | _ => none
theorem fld226 (f off ft : Nat) (h : fldOf226 f = some (off, ft)) : Fld Tryd.prog 226 f off ft := by
  unfold fldOf226 at h
  split at h
  · cases h; exact ⟨_, _, Tryd.underlying226, rfl, rfl, rfl⟩
  · cases h; exact ⟨_, _, Tryd.underlying226, rfl, rfl, rfl⟩
  · cases h
def fldOf227 : Nat → Option (Nat × Nat)
  | 0 => some (0, 9)
  | 1 => some (1, 144)
  | _ => none
theorem fld227 (f off ft : Nat) (h : fldOf227 f = some (off, ft)) : Fld Tryd.prog 227 f off ft := by
  unfold fldOf227 at h
  split at h
  · cases h; exact ⟨_, _, Tryd.underlying227, rfl, rfl, rfl⟩
  · cases h; exact ⟨_, _, Tryd.underlying227, rfl, rfl, rfl⟩
  · cases h
def fldOf231 : Nat → Option (Nat × Nat)
  | 0 => some (0, 219)
  | 1 => some (1, 230)
  | 2 => some (2, 230)
  | 3 => some (3, 24)
  | 4 => some (4, 24)
  | _ => none
theorem fld231 (f off ft : Nat) (h : fldOf231 f = some (off, ft)) : Fld Tryd.prog 231 f off ft := by
  unfold fldOf231 at h
  split at h
  · cases h; exact ⟨_, _, Tryd.underlying231, rfl, rfl, rfl⟩
  · cases h; exact ⟨_, _, Tryd.underlying231, rfl, rfl, rfl⟩
  · cases h; exact ⟨_, _, Tryd.underlying231, rfl, rfl, rfl⟩
  · cases h; exact ⟨_, _, Tryd.underlying231, rfl, rfl, rfl⟩
  · cases h; exact ⟨_, _, Tryd.underlying231, rfl, rfl, rfl⟩
  · cases h
def fldOf232 : Nat → Option (Nat × Nat)
  | 0 => some (0, 219)
  | 1 => some (1, 230)
  | 2 => some (2, 230)
  | 3 => some (3, 24)
  | 4 => some (4, 24)
  | _ => none
theorem fld232 (f off ft : Nat) (h : fldOf232 f = some (off, ft)) : Fld Tryd.prog 232 f off ft := by
  unfold fldOf232 at h
  split at h
  · cases h; exact ⟨_, _, Tryd.underlying232, rfl, rfl, rfl⟩
  · cases h; exact ⟨_, _, Tryd.underlying232, rfl, rfl, rfl⟩
  · cases h; exact ⟨_, _, Tryd.underlying232, rfl, rfl, rfl⟩
  · cases h; exact ⟨_, _, Tryd.underlying232, rfl, rfl, rfl⟩
  · cases h; exact ⟨_, _, Tryd.underlying232, rfl, rfl, rfl⟩
  · cases h
def fldOf235 : Nat → Option (Nat × Nat)
  | 0 => some (0, 219)
  | 1 => some (1, 220)
  | 2 => some (2, 234)
  | 3 => some (3, 234)
  | _ => none
theorem fld235 (f off ft : Nat) (h : fldOf235 f = some (off, ft)) : Fld Tryd.prog 235 f off ft := by
  unfold fldOf235 at h
  split at h
  · cases h; exact ⟨_, _, Tryd.underlying235, rfl, rfl, rfl⟩
  · cases h; exact ⟨_, _, Tryd.underlying235, rfl, rfl, rfl⟩
  · cases h; exact ⟨_, _, Tryd.underlying235, rfl, rfl, rfl⟩
  · cases h; exact ⟨_, _, Tryd.underlying235, rfl, rfl, rfl⟩
  · cases h
def fldOf236 : Nat → Option (Nat × Nat)
  | 0 => some (0, 219)
  | 1 => some (1, 220)
  | 2 => some (2, 234)
  | 3 => some (3, 234)
  | _ => none
theorem fld236 (f off ft : Nat) (h : fldOf236 f = some (off, ft)) : Fld Tryd.prog 236 f off ft := by
  unfold fldOf236 at h
  split at h
  · cases h; exact ⟨_, _, Tryd.underlying236, rfl, rfl, rfl⟩
  · cases h; exact ⟨_, _, Tryd.underlying236, rfl, rfl, rfl⟩
  · cases h; exact ⟨_, _, Tryd.underlying236, rfl, rfl, rfl⟩
  · cases h; exact ⟨_, _, Tryd.underlying236, rfl, rfl, rfl⟩
  · cases h
def fldOf (t f : Nat) : Option (Nat × Nat) :=
  match t with
  | 7 => fldOf7 f
  | 8 => fldOf8 f
  | 13 => fldOf13 f
  | 14 => fldOf14 f
  | 18 => fldOf18 f
  | 19 => fldOf19 f
  | 22 => fldOf22 f
  | 23 => fldOf23 f
  | 26 => fldOf26 f
  | 27 => fldOf27 f
  | 34 => fldOf34 f
  | 35 => fldOf35 f
  | 37 => fldOf37 f
  | 38 => fldOf38 f
  | 50 => fldOf50 f
  | 51 => fldOf51 f
  | 55 => fldOf55 f
  | 56 => fldOf56 f
  | 57 => fldOf57 f
  | 58 => fldOf58 f
  | 61 => fldOf61 f
  | 62 => fldOf62 f
  | 66 => fldOf66 f
  | 67 => fldOf67 f
  | 99 => fldOf99 f
  | 100 => fldOf100 f
  | 103 => fldOf103 f
  | 104 => fldOf104 f
  | 110 => fldOf110 f
  | 111 => fldOf111 f
  | 115 => fldOf115 f
  | 116 => fldOf116 f
  | 140 => fldOf140 f
  | 141 => fldOf141 f
  | 153 => fldOf153 f
  | 154 => fldOf154 f
  | 178 => fldOf178 f
  | 179 => fldOf179 f
  | 182 => fldOf182 f
  | 183 => fldOf183 f
  | 201 => fldOf201 f
  | 202 => fldOf202 f
  | 210 => fldOf210 f
  | 211 => fldOf211 f
  | 213 => fldOf213 f
  | 214 => fldOf214 f
  | 221 => fldOf221 f
  | 222 => fldOf222 f
  | 226 => fldOf226 f
  | 227 => fldOf227 f
  | 231 => fldOf231 f
  | 232 => fldOf232 f
  | 235 => fldOf235 f
  | 236 => fldOf236 f
  | _ => none
set_option maxHeartbeats 8000000 in
theorem fld (t f off ft : Nat) (h : fldOf t f = some (off, ft)) : Fld Tryd.prog t f off ft := by
  unfold fldOf at h
  split at h
  · exact fld7 _ _ _ h
  · exact fld8 _ _ _ h
  · exact fld13 _ _ _ h
  · exact fld14 _ _ _ h
  · exact fld18 _ _ _ h
  · exact fld19 _ _ _ h
  · exact fld22 _ _ _ h
  · exact fld23 _ _ _ h
  · exact fld26 _ _ _ h
  · exact fld27 _ _ _ h
  · exact fld34 _ _ _ h
  · exact fld35 _ _ _ h
  · exact fld37 _ _ _ h
  · exact fld38 _ _ _ h
  · exact fld50 _ _ _ h
  · exact fld51 _ _ _ h
  · exact fld55 _ _ _ h
  · exact fld56 _ _ _ h
  · exact fld57 _ _ _ h
  · exact fld58 _ _ _ h
  · exact fld61 _ _ _ h
  · exact fld62 _ _ _ h
  · exact fld66 _ _ _ h
  · exact fld67 _ _ _ h
  · exact fld99 _ _ _ h
  · exact fld100 _ _ _ h
  · exact fld103 _ _ _ h
  · exact fld104 _ _ _ h
  · exact fld110 _ _ _ h
  · exact fld111 _ _ _ h
  · exact fld115 _ _ _ h
  · exact fld116 _ _ _ h
  · exact fld140 _ _ _ h
  · exact fld141 _ _ _ h
  · exact fld153 _ _ _ h
  · exact fld154 _ _ _ h
  · exact fld178 _ _ _ h
  · exact fld179 _ _ _ h
  · exact fld182 _ _ _ h
  · exact fld183 _ _ _ h
  · exact fld201 _ _ _ h
  · exact fld202 _ _ _ h
  · exact fld210 _ _ _ h
  · exact fld211 _ _ _ h
  · exact fld213 _ _ _ h
  · exact fld214 _ _ _ h
  · exact fld221 _ _ _ h
  · exact fld222 _ _ _ h
  · exact fld226 _ _ _ h
  · exact fld227 _ _ _ h
  · exact fld231 _ _ _ h
  · exact fld232 _ _ _ h
  · exact fld235 _ _ _ h
  · exact fld236 _ _ _ h
  · cases h
/-- busbar/check.Message -/
theorem cal10 : Callable Tryd.prog 10 := ⟨⟨_, Tryd.func10, by kernel_rfl, by kernel_rfl⟩⟩
/-- busbar/busbarref0.CopyMessage -/
theorem cal12 : Callable Tryd.prog 12 := ⟨⟨_, Tryd.func12, by kernel_rfl, by kernel_rfl⟩⟩
/-- busbar/busbarkit.Num -/
theorem cal13 : Callable Tryd.prog 13 := ⟨⟨_, Tryd.func13, by kernel_rfl, by kernel_rfl⟩⟩
/-- busbar/check.Signal -/
theorem cal18 : Callable Tryd.prog 18 := ⟨⟨_, Tryd.func18, by kernel_rfl, by kernel_rfl⟩⟩
/-- busbar/check.Database -/
theorem cal21 : Callable Tryd.prog 21 := ⟨⟨_, Tryd.func21, by kernel_rfl, by kernel_rfl⟩⟩
/-- busbar/busbarref0.CopyDatabase -/
theorem cal22 : Callable Tryd.prog 22 := ⟨⟨_, Tryd.func22, by kernel_rfl, by kernel_rfl⟩⟩
/-- busbar/busbarkit.Place -/
theorem cal23 : Callable Tryd.prog 23 := ⟨⟨_, Tryd.func23, by kernel_rfl, by kernel_rfl⟩⟩
/-- busbar/busbarlaw09.signals -/
theorem cal24 : Callable Tryd.prog 24 := ⟨⟨_, Tryd.func24, by kernel_rfl, by kernel_rfl⟩⟩
/-- busbar/busbarlaw09.messages -/
theorem cal25 : Callable Tryd.prog 25 := ⟨⟨_, Tryd.func25, by kernel_rfl, by kernel_rfl⟩⟩
/-- busbar/busbarlaw09.tables -/
theorem cal26 : Callable Tryd.prog 26 := ⟨⟨_, Tryd.func26, by kernel_rfl, by kernel_rfl⟩⟩
/-- busbar/busbarlaw09.more -/
theorem cal27 : Callable Tryd.prog 27 := ⟨⟨_, Tryd.func27, by kernel_rfl, by kernel_rfl⟩⟩
/-- busbar/busbarlaw09.limits -/
theorem cal28 : Callable Tryd.prog 28 := ⟨⟨_, Tryd.func28, by kernel_rfl, by kernel_rfl⟩⟩
/-- busbar/busbarlaw09.two -/
theorem cal29 : Callable Tryd.prog 29 := ⟨⟨_, Tryd.func29, by kernel_rfl, by kernel_rfl⟩⟩
/-- busbar/busbarlaw09.one -/
theorem cal30 : Callable Tryd.prog 30 := ⟨⟨_, Tryd.func30, by kernel_rfl, by kernel_rfl⟩⟩
/-- busbar/check.head -/
theorem cal31 : Callable Tryd.prog 31 := ⟨⟨_, Tryd.func31, by kernel_rfl, by kernel_rfl⟩⟩
/-- busbar/check.at -/
theorem cal32 : Callable Tryd.prog 32 := ⟨⟨_, Tryd.func32, by kernel_rfl, by kernel_rfl⟩⟩
/-- busbar/check.alone -/
theorem cal33 : Callable Tryd.prog 33 := ⟨⟨_, Tryd.func33, by kernel_rfl, by kernel_rfl⟩⟩
/-- busbar/check.fits -/
theorem cal34 : Callable Tryd.prog 34 := ⟨⟨_, Tryd.func34, by kernel_rfl, by kernel_rfl⟩⟩
/-- busbar/check.apart -/
theorem cal35 : Callable Tryd.prog 35 := ⟨⟨_, Tryd.func35, by kernel_rfl, by kernel_rfl⟩⟩
/-- busbar/busbarref0.CopySignals -/
theorem cal36 : Callable Tryd.prog 36 := ⟨⟨_, Tryd.func36, by kernel_rfl, by kernel_rfl⟩⟩
/-- errors.Is -/
theorem cal37 : Callable Tryd.prog 37 := ⟨⟨_, Tryd.func37, by kernel_rfl, by kernel_rfl⟩⟩
/-- busbar/place.Bits -/
theorem cal38 : Callable Tryd.prog 38 := ⟨⟨_, Tryd.func38, by kernel_rfl, by kernel_rfl⟩⟩
/-- busbar/bits.SetOf -/
theorem cal39 : Callable Tryd.prog 39 := ⟨⟨_, Tryd.func39, by kernel_rfl, by kernel_rfl⟩⟩
/-- busbar/bits.Meet -/
theorem cal41 : Callable Tryd.prog 41 := ⟨⟨_, Tryd.func41, by kernel_rfl, by kernel_rfl⟩⟩
/-- busbar/bits.Union -/
theorem cal42 : Callable Tryd.prog 42 := ⟨⟨_, Tryd.func42, by kernel_rfl, by kernel_rfl⟩⟩
/-- busbar/busbarkit.At -/
theorem cal44 : Callable Tryd.prog 44 := ⟨⟨_, Tryd.func44, by kernel_rfl, by kernel_rfl⟩⟩
/-- busbar/check.text -/
theorem cal48 : Callable Tryd.prog 48 := ⟨⟨_, Tryd.func48, by kernel_rfl, by kernel_rfl⟩⟩
/-- busbar/check.list -/
theorem cal49 : Callable Tryd.prog 49 := ⟨⟨_, Tryd.func49, by kernel_rfl, by kernel_rfl⟩⟩
/-- busbar/check.word -/
theorem cal50 : Callable Tryd.prog 50 := ⟨⟨_, Tryd.func50, by kernel_rfl, by kernel_rfl⟩⟩
/-- (*busbar/check.book).message -/
theorem cal51 : Callable Tryd.prog 51 := ⟨⟨_, Tryd.func51, by kernel_rfl, by kernel_rfl⟩⟩
/-- busbar/check.rows -/
theorem cal52 : Callable Tryd.prog 52 := ⟨⟨_, Tryd.func52, by kernel_rfl, by kernel_rfl⟩⟩
/-- busbar/busbarref0.CopyMessages -/
theorem cal53 : Callable Tryd.prog 53 := ⟨⟨_, Tryd.func53, by kernel_rfl, by kernel_rfl⟩⟩
/-- busbar/busbarref0.CopyTables -/
theorem cal54 : Callable Tryd.prog 54 := ⟨⟨_, Tryd.func54, by kernel_rfl, by kernel_rfl⟩⟩
/-- busbar/busbarref0.CopyStations -/
theorem cal55 : Callable Tryd.prog 55 := ⟨⟨_, Tryd.func55, by kernel_rfl, by kernel_rfl⟩⟩
/-- errors.As -/
theorem cal56 : Callable Tryd.prog 56 := ⟨⟨_, Tryd.func56, by kernel_rfl, by kernel_rfl⟩⟩
/-- busbar/busbarlaw09.no -/
theorem cal57 : Callable Tryd.prog 57 := ⟨⟨_, Tryd.func57, by kernel_rfl, by kernel_rfl⟩⟩
/-- busbar/busbarlaw09.named -/
theorem cal58 : Callable Tryd.prog 58 := ⟨⟨_, Tryd.func58, by kernel_rfl, by kernel_rfl⟩⟩
/-- busbar/busbarref0.CopyTexts -/
theorem cal59 : Callable Tryd.prog 59 := ⟨⟨_, Tryd.func59, by kernel_rfl, by kernel_rfl⟩⟩
/-- busbar/check.where -/
theorem cal60 : Callable Tryd.prog 60 := ⟨⟨_, Tryd.func60, by kernel_rfl, by kernel_rfl⟩⟩
/-- busbar/check.ranged -/
theorem cal61 : Callable Tryd.prog 61 := ⟨⟨_, Tryd.func61, by kernel_rfl, by kernel_rfl⟩⟩
/-- busbar/busbarref0.CopySignal -/
theorem cal62 : Callable Tryd.prog 62 := ⟨⟨_, Tryd.func62, by kernel_rfl, by kernel_rfl⟩⟩
/-- busbar/place.counter -/
theorem cal65 : Callable Tryd.prog 65 := ⟨⟨_, Tryd.func65, by kernel_rfl, by kernel_rfl⟩⟩
/-- slices.Reverse[[]int,int] -/
theorem cal66 : Callable Tryd.prog 66 := ⟨⟨_, Tryd.func66, by kernel_rfl, by kernel_rfl⟩⟩
/-- unicode/utf8.ValidString -/
theorem cal75 : Callable Tryd.prog 75 := ⟨⟨_, Tryd.func75, by kernel_rfl, by kernel_rfl⟩⟩
/-- strings.ContainsFunc -/
theorem cal76 : Callable Tryd.prog 76 := ⟨⟨_, Tryd.func76, by kernel_rfl, by kernel_rfl⟩⟩
/-- busbar/check.text$1 -/
theorem cal77 : Callable Tryd.prog 77 := ⟨⟨_, Tryd.func77, by kernel_rfl, by kernel_rfl⟩⟩
/-- busbar/chars.Name -/
theorem cal78 : Callable Tryd.prog 78 := ⟨⟨_, Tryd.func78, by kernel_rfl, by kernel_rfl⟩⟩
/-- busbar/busbarref0.CopyTable -/
theorem cal79 : Callable Tryd.prog 79 := ⟨⟨_, Tryd.func79, by kernel_rfl, by kernel_rfl⟩⟩
/-- busbar/check.number -/
theorem cal84 : Callable Tryd.prog 84 := ⟨⟨_, Tryd.func84, by kernel_rfl, by kernel_rfl⟩⟩
/-- busbar/rat.Right -/
theorem cal85 : Callable Tryd.prog 85 := ⟨⟨_, Tryd.func85, by kernel_rfl, by kernel_rfl⟩⟩
/-- busbar/rat.Cmp -/
theorem cal86 : Callable Tryd.prog 86 := ⟨⟨_, Tryd.func86, by kernel_rfl, by kernel_rfl⟩⟩
/-- busbar/place.counter$1 -/
theorem cal87 : Callable Tryd.prog 87 := ⟨⟨_, Tryd.func87, by kernel_rfl, by kernel_rfl⟩⟩
/-- strings.IndexFunc -/
theorem cal99 : Callable Tryd.prog 99 := ⟨⟨_, Tryd.func99, by kernel_rfl, by kernel_rfl⟩⟩
/-- busbar/chars.letter -/
theorem cal100 : Callable Tryd.prog 100 := ⟨⟨_, Tryd.func100, by kernel_rfl, by kernel_rfl⟩⟩
/-- busbar/busbarref0.CopyRows -/
theorem cal101 : Callable Tryd.prog 101 := ⟨⟨_, Tryd.func101, by kernel_rfl, by kernel_rfl⟩⟩
/-- busbar/rat.gcd -/
theorem cal104 : Callable Tryd.prog 104 := ⟨⟨_, Tryd.func104, by kernel_rfl, by kernel_rfl⟩⟩
/-- busbar/rat.size -/
theorem cal105 : Callable Tryd.prog 105 := ⟨⟨_, Tryd.func105, by kernel_rfl, by kernel_rfl⟩⟩
/-- math/bits.Mul64 -/
theorem cal106 : Callable Tryd.prog 106 := ⟨⟨_, Tryd.func106, by kernel_rfl, by kernel_rfl⟩⟩
/-- strings.indexFunc -/
theorem cal114 : Callable Tryd.prog 114 := ⟨⟨_, Tryd.func114, by kernel_rfl, by kernel_rfl⟩⟩
end Go.Proofs.YtjomihhpglojpaaDoor
end
