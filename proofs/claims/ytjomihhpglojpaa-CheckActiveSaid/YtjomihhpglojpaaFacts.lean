/- Facts of the seat's tables: each type's size and zero, each function's call. Written by my own gen.py off the translation's rows. -/
import Derived.Test.YtjomihhpglojpaaProg
import Derived.Test.YtjomihhpglojpaaReg
import Derived.KernelRfl
namespace Go.Proofs.Ytjomihhpglojpaa
theorem mixed : Try.prog.follows .mixedOrders = true := by kernel_rfl
theorem isz0 : (Try.prog.info? 0).map (·.size) = some 1 := by kernel_rfl
theorem inf0 : (Try.prog.info? 0).map (fun i => (i.zero, i.size, i.bytes)) = some (some (.tuple #[]), 1, 0) := by kernel_rfl
theorem isz1 : (Try.prog.info? 1).map (·.size) = some 1 := by kernel_rfl
theorem inf1 : (Try.prog.info? 1).map (fun i => (i.zero, i.size, i.bytes)) = some (some (.nilFunc), 1, 8) := by kernel_rfl
theorem isz2 : (Try.prog.info? 2).map (·.size) = some 1 := by kernel_rfl
theorem inf2 : (Try.prog.info? 2).map (fun i => (i.zero, i.size, i.bytes)) = some (some (.int .i64 0), 1, 8) := by kernel_rfl
theorem isz3 : (Try.prog.info? 3).map (·.size) = some 1 := by kernel_rfl
theorem inf3 : (Try.prog.info? 3).map (fun i => (i.zero, i.size, i.bytes)) = some (some (.int .i64 0), 1, 8) := by kernel_rfl
theorem isz4 : (Try.prog.info? 4).map (·.size) = some 1 := by kernel_rfl
theorem inf4 : (Try.prog.info? 4).map (fun i => (i.zero, i.size, i.bytes)) = some (some (.bool false), 1, 1) := by kernel_rfl
theorem isz5 : (Try.prog.info? 5).map (·.size) = some 1 := by kernel_rfl
theorem inf5 : (Try.prog.info? 5).map (fun i => (i.zero, i.size, i.bytes)) = some (some (.int .u8 0), 1, 1) := by kernel_rfl
theorem isz6 : (Try.prog.info? 6).map (·.size) = some 1 := by kernel_rfl
theorem inf6 : (Try.prog.info? 6).map (fun i => (i.zero, i.size, i.bytes)) = some (some (.int .u8 0), 1, 1) := by kernel_rfl
theorem isz7 : (Try.prog.info? 7).map (·.size) = some 4 := by kernel_rfl
theorem inf7 : (Try.prog.info? 7).map (fun i => (i.zero, i.size, i.bytes)) = some (some (.agg #[.int .i64 0, .int .i64 0, .bool false, .int .u8 0]), 4, 24) := by kernel_rfl
theorem isz8 : (Try.prog.info? 8).map (·.size) = some 4 := by kernel_rfl
theorem inf8 : (Try.prog.info? 8).map (fun i => (i.zero, i.size, i.bytes)) = some (some (.agg #[.int .i64 0, .int .i64 0, .bool false, .int .u8 0]), 4, 24) := by kernel_rfl
theorem isz9 : (Try.prog.info? 9).map (·.size) = some 1 := by kernel_rfl
theorem inf9 : (Try.prog.info? 9).map (fun i => (i.zero, i.size, i.bytes)) = some (some (.string ⟨#[]⟩), 1, 16) := by kernel_rfl
theorem isz10 : (Try.prog.info? 10).map (·.size) = some 1 := by kernel_rfl
theorem inf10 : (Try.prog.info? 10).map (fun i => (i.zero, i.size, i.bytes)) = some (some (.string ⟨#[]⟩), 1, 16) := by kernel_rfl
theorem isz11 : (Try.prog.info? 11).map (·.size) = some 1 := by kernel_rfl
theorem inf11 : (Try.prog.info? 11).map (fun i => (i.zero, i.size, i.bytes)) = some (some (.string ⟨#[]⟩), 1, 16) := by kernel_rfl
theorem isz12 : (Try.prog.info? 12).map (·.size) = some 1 := by kernel_rfl
theorem inf12 : (Try.prog.info? 12).map (fun i => (i.zero, i.size, i.bytes)) = some (some (.int .u64 0), 1, 8) := by kernel_rfl
theorem isz13 : (Try.prog.info? 13).map (·.size) = some 2 := by kernel_rfl
theorem inf13 : (Try.prog.info? 13).map (fun i => (i.zero, i.size, i.bytes)) = some (some (.agg #[.string ⟨#[]⟩, .int .u64 0]), 2, 24) := by kernel_rfl
theorem isz14 : (Try.prog.info? 14).map (·.size) = some 2 := by kernel_rfl
theorem inf14 : (Try.prog.info? 14).map (fun i => (i.zero, i.size, i.bytes)) = some (some (.agg #[.string ⟨#[]⟩, .int .u64 0]), 2, 24) := by kernel_rfl
theorem isz15 : (Try.prog.info? 15).map (·.size) = some 1 := by kernel_rfl
theorem inf15 : (Try.prog.info? 15).map (fun i => (i.zero, i.size, i.bytes)) = some (some (.pointer none), 1, 8) := by kernel_rfl
theorem isz16 : (Try.prog.info? 16).map (·.size) = some 1 := by kernel_rfl
theorem inf16 : (Try.prog.info? 16).map (fun i => (i.zero, i.size, i.bytes)) = some (some (.pointer none), 1, 8) := by kernel_rfl
theorem isz17 : (Try.prog.info? 17).map (·.size) = some 1 := by kernel_rfl
theorem inf17 : (Try.prog.info? 17).map (fun i => (i.zero, i.size, i.bytes)) = some (some (.pointer none), 1, 8) := by kernel_rfl
theorem isz18 : (Try.prog.info? 18).map (·.size) = some 1 := by kernel_rfl
theorem inf18 : (Try.prog.info? 18).map (fun i => (i.zero, i.size, i.bytes)) = some (some (.agg #[.pointer none]), 1, 8) := by kernel_rfl
theorem isz19 : (Try.prog.info? 19).map (·.size) = some 1 := by kernel_rfl
theorem inf19 : (Try.prog.info? 19).map (fun i => (i.zero, i.size, i.bytes)) = some (some (.agg #[.pointer none]), 1, 8) := by kernel_rfl
theorem isz20 : (Try.prog.info? 20).map (·.size) = some 1 := by kernel_rfl
theorem inf20 : (Try.prog.info? 20).map (fun i => (i.zero, i.size, i.bytes)) = some (some (.nilIface), 1, 16) := by kernel_rfl
theorem isz21 : (Try.prog.info? 21).map (·.size) = some 1 := by kernel_rfl
theorem inf21 : (Try.prog.info? 21).map (fun i => (i.zero, i.size, i.bytes)) = some (some (.int .i32 0), 1, 4) := by kernel_rfl
theorem isz22 : (Try.prog.info? 22).map (·.size) = some 2 := by kernel_rfl
theorem inf22 : (Try.prog.info? 22).map (fun i => (i.zero, i.size, i.bytes)) = some (some (.agg #[.int .i64 0, .int .i64 0]), 2, 16) := by kernel_rfl
theorem isz23 : (Try.prog.info? 23).map (·.size) = some 2 := by kernel_rfl
theorem inf23 : (Try.prog.info? 23).map (fun i => (i.zero, i.size, i.bytes)) = some (some (.agg #[.int .i64 0, .int .i64 0]), 2, 16) := by kernel_rfl
theorem isz24 : (Try.prog.info? 24).map (·.size) = some 1 := by kernel_rfl
theorem inf24 : (Try.prog.info? 24).map (fun i => (i.zero, i.size, i.bytes)) = some (some (.int .u32 0), 1, 4) := by kernel_rfl
theorem isz25 : (Try.prog.info? 25).map (·.size) = some 1 := by kernel_rfl
theorem inf25 : (Try.prog.info? 25).map (fun i => (i.zero, i.size, i.bytes)) = some (some (.slice none 0 0), 1, 24) := by kernel_rfl
theorem isz26 : (Try.prog.info? 26).map (·.size) = some 8 := by kernel_rfl
theorem inf26 : (Try.prog.info? 26).map (fun i => (i.zero, i.size, i.bytes)) = some (some (.agg #[.int .i64 0, .int .i64 0, .int .u32 0, .bool false, .string ⟨#[]⟩, .int .i64 0, .string ⟨#[]⟩, .slice none 0 0]), 8, 88) := by kernel_rfl
theorem isz27 : (Try.prog.info? 27).map (·.size) = some 8 := by kernel_rfl
theorem inf27 : (Try.prog.info? 27).map (fun i => (i.zero, i.size, i.bytes)) = some (some (.agg #[.int .i64 0, .int .i64 0, .int .u32 0, .bool false, .string ⟨#[]⟩, .int .i64 0, .string ⟨#[]⟩, .slice none 0 0]), 8, 88) := by kernel_rfl
theorem isz28 : (Try.prog.info? 28).map (·.size) = some 1 := by kernel_rfl
theorem inf28 : (Try.prog.info? 28).map (fun i => (i.zero, i.size, i.bytes)) = some (some (.int .u64 0), 1, 8) := by kernel_rfl
theorem isz29 : (Try.prog.info? 29).map (·.size) = some 1 := by kernel_rfl
theorem inf29 : (Try.prog.info? 29).map (fun i => (i.zero, i.size, i.bytes)) = some (some (.nilFunc), 1, 8) := by kernel_rfl
theorem isz30 : (Try.prog.info? 30).map (·.size) = some 1 := by kernel_rfl
theorem inf30 : (Try.prog.info? 30).map (fun i => (i.zero, i.size, i.bytes)) = some (some (.slice none 0 0), 1, 24) := by kernel_rfl
theorem isz31 : (Try.prog.info? 31).map (·.size) = some 1 := by kernel_rfl
theorem inf31 : (Try.prog.info? 31).map (fun i => (i.zero, i.size, i.bytes)) = some (some (.nilFunc), 1, 8) := by kernel_rfl
theorem isz32 : (Try.prog.info? 32).map (·.size) = some 1 := by kernel_rfl
theorem inf32 : (Try.prog.info? 32).map (fun i => (i.zero, i.size, i.bytes)) = some (some (.nilFunc), 1, 8) := by kernel_rfl
theorem isz33 : (Try.prog.info? 33).map (·.size) = some 1 := by kernel_rfl
theorem inf33 : (Try.prog.info? 33).map (fun i => (i.zero, i.size, i.bytes)) = some (some (.nilFunc), 1, 8) := by kernel_rfl
theorem isz34 : (Try.prog.info? 34).map (·.size) = some 1 := by kernel_rfl
theorem inf34 : (Try.prog.info? 34).map (fun i => (i.zero, i.size, i.bytes)) = some (some (.nilFunc), 1, 8) := by kernel_rfl
theorem isz35 : (Try.prog.info? 35).map (·.size) = some 1 := by kernel_rfl
theorem inf35 : (Try.prog.info? 35).map (fun i => (i.zero, i.size, i.bytes)) = some (some (.slice none 0 0), 1, 24) := by kernel_rfl
theorem isz36 : (Try.prog.info? 36).map (·.size) = some 1 := by kernel_rfl
theorem inf36 : (Try.prog.info? 36).map (fun i => (i.zero, i.size, i.bytes)) = some (some (.nilFunc), 1, 8) := by kernel_rfl
theorem isz37 : (Try.prog.info? 37).map (·.size) = some 1 := by kernel_rfl
theorem inf37 : (Try.prog.info? 37).map (fun i => (i.zero, i.size, i.bytes)) = some (some (.nilFunc), 1, 8) := by kernel_rfl
theorem isz38 : (Try.prog.info? 38).map (·.size) = some 2 := by kernel_rfl
theorem inf38 : (Try.prog.info? 38).map (fun i => (i.zero, i.size, i.bytes)) = some (some (.agg #[.int .i64 0, .int .i64 0]), 2, 16) := by kernel_rfl
theorem isz39 : (Try.prog.info? 39).map (·.size) = some 2 := by kernel_rfl
theorem inf39 : (Try.prog.info? 39).map (fun i => (i.zero, i.size, i.bytes)) = some (some (.agg #[.int .i64 0, .int .i64 0]), 2, 16) := by kernel_rfl
theorem isz40 : (Try.prog.info? 40).map (·.size) = some 1 := by kernel_rfl
theorem inf40 : (Try.prog.info? 40).map (fun i => (i.zero, i.size, i.bytes)) = some (some (.slice none 0 0), 1, 24) := by kernel_rfl
theorem isz41 : (Try.prog.info? 41).map (·.size) = some 19 := by kernel_rfl
theorem inf41 : (Try.prog.info? 41).map (fun i => (i.zero, i.size, i.bytes)) = some (some (.agg #[.int .i64 0, .int .i64 0, .string ⟨#[]⟩, .int .i64 0, .int .u64 0, .int .i64 0, .int .i64 0, .bool false, .bool false, .int .i64 0, .int .i64 0, .int .i64 0, .int .i64 0, .int .i64 0, .int .i64 0, .int .i64 0, .int .i64 0, .string ⟨#[]⟩, .slice none 0 0]), 19, 176) := by kernel_rfl
theorem isz42 : (Try.prog.info? 42).map (·.size) = some 19 := by kernel_rfl
theorem inf42 : (Try.prog.info? 42).map (fun i => (i.zero, i.size, i.bytes)) = some (some (.agg #[.int .i64 0, .int .i64 0, .string ⟨#[]⟩, .int .i64 0, .int .u64 0, .int .i64 0, .int .i64 0, .bool false, .bool false, .int .i64 0, .int .i64 0, .int .i64 0, .int .i64 0, .int .i64 0, .int .i64 0, .int .i64 0, .int .i64 0, .string ⟨#[]⟩, .slice none 0 0]), 19, 176) := by kernel_rfl
theorem isz43 : (Try.prog.info? 43).map (·.size) = some 1 := by kernel_rfl
theorem inf43 : (Try.prog.info? 43).map (fun i => (i.zero, i.size, i.bytes)) = some (some (.nilFunc), 1, 8) := by kernel_rfl
theorem isz44 : (Try.prog.info? 44).map (·.size) = some 1 := by kernel_rfl
theorem inf44 : (Try.prog.info? 44).map (fun i => (i.zero, i.size, i.bytes)) = some (some (.nilFunc), 1, 8) := by kernel_rfl
theorem isz45 : (Try.prog.info? 45).map (·.size) = some 1 := by kernel_rfl
theorem inf45 : (Try.prog.info? 45).map (fun i => (i.zero, i.size, i.bytes)) = some (some (.nilFunc), 1, 8) := by kernel_rfl
theorem isz46 : (Try.prog.info? 46).map (·.size) = some 1 := by kernel_rfl
theorem inf46 : (Try.prog.info? 46).map (fun i => (i.zero, i.size, i.bytes)) = some (some (.nilFunc), 1, 8) := by kernel_rfl
theorem isz47 : (Try.prog.info? 47).map (·.size) = some 1 := by kernel_rfl
theorem inf47 : (Try.prog.info? 47).map (fun i => (i.zero, i.size, i.bytes)) = some (some (.nilFunc), 1, 8) := by kernel_rfl
theorem isz48 : (Try.prog.info? 48).map (·.size) = some 1 := by kernel_rfl
theorem inf48 : (Try.prog.info? 48).map (fun i => (i.zero, i.size, i.bytes)) = some (some (.nilFunc), 1, 8) := by kernel_rfl
theorem isz49 : (Try.prog.info? 49).map (·.size) = some 1 := by kernel_rfl
theorem inf49 : (Try.prog.info? 49).map (fun i => (i.zero, i.size, i.bytes)) = some (some (.nilFunc), 1, 8) := by kernel_rfl
theorem isz50 : (Try.prog.info? 50).map (·.size) = some 1 := by kernel_rfl
theorem inf50 : (Try.prog.info? 50).map (fun i => (i.zero, i.size, i.bytes)) = some (some (.int .u64 0), 1, 8) := by kernel_rfl
theorem isz51 : (Try.prog.info? 51).map (·.size) = some 1 := by kernel_rfl
theorem inf51 : (Try.prog.info? 51).map (fun i => (i.zero, i.size, i.bytes)) = some (some (.slice none 0 0), 1, 24) := by kernel_rfl
theorem isz52 : (Try.prog.info? 52).map (·.size) = some 1 := by kernel_rfl
theorem inf52 : (Try.prog.info? 52).map (fun i => (i.zero, i.size, i.bytes)) = some (some (.nilFunc), 1, 8) := by kernel_rfl
theorem isz53 : (Try.prog.info? 53).map (·.size) = some 4 := by kernel_rfl
theorem inf53 : (Try.prog.info? 53).map (fun i => (i.zero, i.size, i.bytes)) = some (some (.agg #[.pointer none, .pointer none, .pointer none, .string ⟨#[]⟩]), 4, 40) := by kernel_rfl
theorem isz54 : (Try.prog.info? 54).map (·.size) = some 4 := by kernel_rfl
theorem inf54 : (Try.prog.info? 54).map (fun i => (i.zero, i.size, i.bytes)) = some (some (.agg #[.pointer none, .pointer none, .pointer none, .string ⟨#[]⟩]), 4, 40) := by kernel_rfl
theorem isz55 : (Try.prog.info? 55).map (·.size) = some 0 := by kernel_rfl
theorem inf55 : (Try.prog.info? 55).map (fun i => (i.zero, i.size, i.bytes)) = some (some (.agg #[]), 0, 0) := by kernel_rfl
theorem isz56 : (Try.prog.info? 56).map (·.size) = some 0 := by kernel_rfl
theorem inf56 : (Try.prog.info? 56).map (fun i => (i.zero, i.size, i.bytes)) = some (some (.agg #[]), 0, 0) := by kernel_rfl
theorem isz57 : (Try.prog.info? 57).map (·.size) = some 0 := by kernel_rfl
theorem inf57 : (Try.prog.info? 57).map (fun i => (i.zero, i.size, i.bytes)) = some (some (.agg #[]), 0, 0) := by kernel_rfl
theorem isz58 : (Try.prog.info? 58).map (·.size) = some 1 := by kernel_rfl
theorem inf58 : (Try.prog.info? 58).map (fun i => (i.zero, i.size, i.bytes)) = some (some (.nilFunc), 1, 8) := by kernel_rfl
theorem isz59 : (Try.prog.info? 59).map (·.size) = some 1 := by kernel_rfl
theorem inf59 : (Try.prog.info? 59).map (fun i => (i.zero, i.size, i.bytes)) = some (some (.int .u8 0), 1, 1) := by kernel_rfl
theorem isz60 : (Try.prog.info? 60).map (·.size) = some 1 := by kernel_rfl
theorem inf60 : (Try.prog.info? 60).map (fun i => (i.zero, i.size, i.bytes)) = some (some (.int .u8 0), 1, 1) := by kernel_rfl
theorem isz61 : (Try.prog.info? 61).map (·.size) = some 1 := by kernel_rfl
theorem inf61 : (Try.prog.info? 61).map (fun i => (i.zero, i.size, i.bytes)) = some (some (.nilFunc), 1, 8) := by kernel_rfl
theorem isz62 : (Try.prog.info? 62).map (·.size) = some 1 := by kernel_rfl
theorem inf62 : (Try.prog.info? 62).map (fun i => (i.zero, i.size, i.bytes)) = some (some (.pointer none), 1, 8) := by kernel_rfl
theorem isz63 : (Try.prog.info? 63).map (·.size) = some 1 := by kernel_rfl
theorem inf63 : (Try.prog.info? 63).map (fun i => (i.zero, i.size, i.bytes)) = some (some (.int .i32 0), 1, 4) := by kernel_rfl
theorem isz64 : (Try.prog.info? 64).map (·.size) = some 1 := by kernel_rfl
theorem inf64 : (Try.prog.info? 64).map (fun i => (i.zero, i.size, i.bytes)) = some (some (.int .i32 0), 1, 4) := by kernel_rfl
theorem isz65 : (Try.prog.info? 65).map (·.size) = some 11 := by kernel_rfl
theorem inf65 : (Try.prog.info? 65).map (fun i => (i.zero, i.size, i.bytes)) = some (some (.agg #[.int .u64 0, .int .u64 0, .int .u32 0, .int .u8 0, .int .u8 0, .int .u8 0, .int .u8 0, .nilFunc, .pointer none, .int .i32 0, .int .i32 0]), 11, 48) := by kernel_rfl
theorem isz66 : (Try.prog.info? 66).map (·.size) = some 11 := by kernel_rfl
theorem inf66 : (Try.prog.info? 66).map (fun i => (i.zero, i.size, i.bytes)) = some (some (.agg #[.int .u64 0, .int .u64 0, .int .u32 0, .int .u8 0, .int .u8 0, .int .u8 0, .int .u8 0, .nilFunc, .pointer none, .int .i32 0, .int .i32 0]), 11, 48) := by kernel_rfl
theorem isz67 : (Try.prog.info? 67).map (·.size) = some 1 := by kernel_rfl
theorem inf67 : (Try.prog.info? 67).map (fun i => (i.zero, i.size, i.bytes)) = some (some (.nilFunc), 1, 8) := by kernel_rfl
theorem isz68 : (Try.prog.info? 68).map (·.size) = some 1 := by kernel_rfl
theorem inf68 : (Try.prog.info? 68).map (fun i => (i.zero, i.size, i.bytes)) = some (some (.pointer none), 1, 8) := by kernel_rfl
def tyOf : Nat → Option TypeDesc
  | 2 => some (.int .i64)
  | 3 => some (.int .i64)
  | 4 => some (.bool)
  | 5 => some (.int .u8)
  | 6 => some (.int .u8)
  | 9 => some (.string)
  | 10 => some (.string)
  | 11 => some (.string)
  | 12 => some (.int .u64)
  | 15 => some (.pointer 54)
  | 16 => some (.pointer 57)
  | 17 => some (.pointer 66)
  | 21 => some (.int .i32)
  | 24 => some (.int .u32)
  | 25 => some (.slice 42)
  | 28 => some (.int .u64)
  | 30 => some (.slice 3)
  | 35 => some (.slice 30)
  | 40 => some (.slice 9)
  | 50 => some (.int .u64)
  | 51 => some (.slice 5)
  | 55 => some (.array 0 16)
  | 59 => some (.int .u8)
  | 60 => some (.int .u8)
  | 62 => some (.pointer 5)
  | 63 => some (.int .i32)
  | 64 => some (.int .i32)
  | _ => none
theorem und (t : Nat) (d : TypeDesc) (h : tyOf t = some d) : Try.prog.underlying t = some d := by
  unfold tyOf at h
  split at h
  · cases h; exact Try.underlying2
  · cases h; exact Try.underlying3
  · cases h; exact Try.underlying4
  · cases h; exact Try.underlying5
  · cases h; exact Try.underlying6
  · cases h; exact Try.underlying9
  · cases h; exact Try.underlying10
  · cases h; exact Try.underlying11
  · cases h; exact Try.underlying12
  · cases h; exact Try.underlying15
  · cases h; exact Try.underlying16
  · cases h; exact Try.underlying17
  · cases h; exact Try.underlying21
  · cases h; exact Try.underlying24
  · cases h; exact Try.underlying25
  · cases h; exact Try.underlying28
  · cases h; exact Try.underlying30
  · cases h; exact Try.underlying35
  · cases h; exact Try.underlying40
  · cases h; exact Try.underlying50
  · cases h; exact Try.underlying51
  · cases h; exact Try.underlying55
  · cases h; exact Try.underlying59
  · cases h; exact Try.underlying60
  · cases h; exact Try.underlying62
  · cases h; exact Try.underlying63
  · cases h; exact Try.underlying64
  · cases h
def szOf : Nat → Option Nat
  | 0 => some 1
  | 1 => some 1
  | 2 => some 1
  | 3 => some 1
  | 4 => some 1
  | 5 => some 1
  | 6 => some 1
  | 7 => some 4
  | 8 => some 4
  | 9 => some 1
  | 10 => some 1
  | 11 => some 1
  | 12 => some 1
  | 13 => some 2
  | 14 => some 2
  | 15 => some 1
  | 16 => some 1
  | 17 => some 1
  | 18 => some 1
  | 19 => some 1
  | 20 => some 1
  | 21 => some 1
  | 22 => some 2
  | 23 => some 2
  | 24 => some 1
  | 25 => some 1
  | 26 => some 8
  | 27 => some 8
  | 28 => some 1
  | 29 => some 1
  | 30 => some 1
  | 31 => some 1
  | 32 => some 1
  | 33 => some 1
  | 34 => some 1
  | 35 => some 1
  | 36 => some 1
  | 37 => some 1
  | 38 => some 2
  | 39 => some 2
  | 40 => some 1
  | 41 => some 19
  | 42 => some 19
  | 43 => some 1
  | 44 => some 1
  | 45 => some 1
  | 46 => some 1
  | 47 => some 1
  | 48 => some 1
  | 49 => some 1
  | 50 => some 1
  | 51 => some 1
  | 52 => some 1
  | 53 => some 4
  | 54 => some 4
  | 55 => some 0
  | 56 => some 0
  | 57 => some 0
  | 58 => some 1
  | 59 => some 1
  | 60 => some 1
  | 61 => some 1
  | 62 => some 1
  | 63 => some 1
  | 64 => some 1
  | 65 => some 11
  | 66 => some 11
  | 67 => some 1
  | 68 => some 1
  | _ => none
theorem isz (t n : Nat) (h : szOf t = some n) : (Try.prog.info? t).map (·.size) = some n := by
  unfold szOf at h
  split at h
  · cases h; exact isz0
  · cases h; exact isz1
  · cases h; exact isz2
  · cases h; exact isz3
  · cases h; exact isz4
  · cases h; exact isz5
  · cases h; exact isz6
  · cases h; exact isz7
  · cases h; exact isz8
  · cases h; exact isz9
  · cases h; exact isz10
  · cases h; exact isz11
  · cases h; exact isz12
  · cases h; exact isz13
  · cases h; exact isz14
  · cases h; exact isz15
  · cases h; exact isz16
  · cases h; exact isz17
  · cases h; exact isz18
  · cases h; exact isz19
  · cases h; exact isz20
  · cases h; exact isz21
  · cases h; exact isz22
  · cases h; exact isz23
  · cases h; exact isz24
  · cases h; exact isz25
  · cases h; exact isz26
  · cases h; exact isz27
  · cases h; exact isz28
  · cases h; exact isz29
  · cases h; exact isz30
  · cases h; exact isz31
  · cases h; exact isz32
  · cases h; exact isz33
  · cases h; exact isz34
  · cases h; exact isz35
  · cases h; exact isz36
  · cases h; exact isz37
  · cases h; exact isz38
  · cases h; exact isz39
  · cases h; exact isz40
  · cases h; exact isz41
  · cases h; exact isz42
  · cases h; exact isz43
  · cases h; exact isz44
  · cases h; exact isz45
  · cases h; exact isz46
  · cases h; exact isz47
  · cases h; exact isz48
  · cases h; exact isz49
  · cases h; exact isz50
  · cases h; exact isz51
  · cases h; exact isz52
  · cases h; exact isz53
  · cases h; exact isz54
  · cases h; exact isz55
  · cases h; exact isz56
  · cases h; exact isz57
  · cases h; exact isz58
  · cases h; exact isz59
  · cases h; exact isz60
  · cases h; exact isz61
  · cases h; exact isz62
  · cases h; exact isz63
  · cases h; exact isz64
  · cases h; exact isz65
  · cases h; exact isz66
  · cases h; exact isz67
  · cases h; exact isz68
  · cases h
def ifcOf : Nat → Bool
  | 20 => true
  | _ => false
theorem ifc (t : Nat) (h : ifcOf t = true) : ∃ ms, Try.prog.underlying t = some (.interface ms) := by
  unfold ifcOf at h
  split at h
  · exact ⟨_, Try.underlying20⟩
  · cases h
def aggOf : Nat → Bool
  | 7 => true
  | 8 => true
  | 13 => true
  | 14 => true
  | 18 => true
  | 19 => true
  | 22 => true
  | 23 => true
  | 26 => true
  | 27 => true
  | 38 => true
  | 39 => true
  | 41 => true
  | 42 => true
  | 53 => true
  | 54 => true
  | 55 => true
  | 56 => true
  | 57 => true
  | 65 => true
  | 66 => true
  | _ => false
theorem agg (t : Nat) (h : aggOf t = true) : (Try.prog.underlying t).map aggB = some true := by
  unfold aggOf at h
  split at h
  · rw [Try.underlying7]; rfl
  · rw [Try.underlying8]; rfl
  · rw [Try.underlying13]; rfl
  · rw [Try.underlying14]; rfl
  · rw [Try.underlying18]; rfl
  · rw [Try.underlying19]; rfl
  · rw [Try.underlying22]; rfl
  · rw [Try.underlying23]; rfl
  · rw [Try.underlying26]; rfl
  · rw [Try.underlying27]; rfl
  · rw [Try.underlying38]; rfl
  · rw [Try.underlying39]; rfl
  · rw [Try.underlying41]; rfl
  · rw [Try.underlying42]; rfl
  · rw [Try.underlying53]; rfl
  · rw [Try.underlying54]; rfl
  · rw [Try.underlying55]; rfl
  · rw [Try.underlying56]; rfl
  · rw [Try.underlying57]; rfl
  · rw [Try.underlying65]; rfl
  · rw [Try.underlying66]; rfl
  · cases h
def conOf : Nat → Bool
  | 2 => true
  | 3 => true
  | 4 => true
  | 5 => true
  | 6 => true
  | 7 => true
  | 8 => true
  | 9 => true
  | 10 => true
  | 11 => true
  | 12 => true
  | 13 => true
  | 14 => true
  | 15 => true
  | 16 => true
  | 17 => true
  | 18 => true
  | 19 => true
  | 21 => true
  | 22 => true
  | 23 => true
  | 24 => true
  | 25 => true
  | 26 => true
  | 27 => true
  | 28 => true
  | 30 => true
  | 35 => true
  | 38 => true
  | 39 => true
  | 40 => true
  | 41 => true
  | 42 => true
  | 50 => true
  | 51 => true
  | 53 => true
  | 54 => true
  | 56 => true
  | 57 => true
  | 59 => true
  | 60 => true
  | 62 => true
  | 63 => true
  | 64 => true
  | 65 => true
  | 66 => true
  | _ => false
theorem con (t : Nat) (h : conOf t = true) : (Try.prog.underlying t).map concB = some true := by
  unfold conOf at h
  split at h
  · rw [Try.underlying2]; rfl
  · rw [Try.underlying3]; rfl
  · rw [Try.underlying4]; rfl
  · rw [Try.underlying5]; rfl
  · rw [Try.underlying6]; rfl
  · rw [Try.underlying7]; rfl
  · rw [Try.underlying8]; rfl
  · rw [Try.underlying9]; rfl
  · rw [Try.underlying10]; rfl
  · rw [Try.underlying11]; rfl
  · rw [Try.underlying12]; rfl
  · rw [Try.underlying13]; rfl
  · rw [Try.underlying14]; rfl
  · rw [Try.underlying15]; rfl
  · rw [Try.underlying16]; rfl
  · rw [Try.underlying17]; rfl
  · rw [Try.underlying18]; rfl
  · rw [Try.underlying19]; rfl
  · rw [Try.underlying21]; rfl
  · rw [Try.underlying22]; rfl
  · rw [Try.underlying23]; rfl
  · rw [Try.underlying24]; rfl
  · rw [Try.underlying25]; rfl
  · rw [Try.underlying26]; rfl
  · rw [Try.underlying27]; rfl
  · rw [Try.underlying28]; rfl
  · rw [Try.underlying30]; rfl
  · rw [Try.underlying35]; rfl
  · rw [Try.underlying38]; rfl
  · rw [Try.underlying39]; rfl
  · rw [Try.underlying40]; rfl
  · rw [Try.underlying41]; rfl
  · rw [Try.underlying42]; rfl
  · rw [Try.underlying50]; rfl
  · rw [Try.underlying51]; rfl
  · rw [Try.underlying53]; rfl
  · rw [Try.underlying54]; rfl
  · rw [Try.underlying56]; rfl
  · rw [Try.underlying57]; rfl
  · rw [Try.underlying59]; rfl
  · rw [Try.underlying60]; rfl
  · rw [Try.underlying62]; rfl
  · rw [Try.underlying63]; rfl
  · rw [Try.underlying64]; rfl
  · rw [Try.underlying65]; rfl
  · rw [Try.underlying66]; rfl
  · cases h
def fldOf7 : Nat → Option (Nat × Nat)
  | 0 => some (0, 2)
  | 1 => some (1, 3)
  | 2 => some (2, 4)
  | 3 => some (3, 6)
  | _ => none
theorem fld7 (f off ft : Nat) (h : fldOf7 f = some (off, ft)) : Fld Try.prog 7 f off ft := by
  unfold fldOf7 at h
  split at h
  · cases h; exact ⟨_, _, Try.underlying7, rfl, rfl, rfl⟩
  · cases h; exact ⟨_, _, Try.underlying7, rfl, rfl, rfl⟩
  · cases h; exact ⟨_, _, Try.underlying7, rfl, rfl, rfl⟩
  · cases h; exact ⟨_, _, Try.underlying7, rfl, rfl, rfl⟩
  · cases h
def fldOf8 : Nat → Option (Nat × Nat)
  | 0 => some (0, 2)
  | 1 => some (1, 3)
  | 2 => some (2, 4)
  | 3 => some (3, 6)
  | _ => none
theorem fld8 (f off ft : Nat) (h : fldOf8 f = some (off, ft)) : Fld Try.prog 8 f off ft := by
  unfold fldOf8 at h
  split at h
  · cases h; exact ⟨_, _, Try.underlying8, rfl, rfl, rfl⟩
  · cases h; exact ⟨_, _, Try.underlying8, rfl, rfl, rfl⟩
  · cases h; exact ⟨_, _, Try.underlying8, rfl, rfl, rfl⟩
  · cases h; exact ⟨_, _, Try.underlying8, rfl, rfl, rfl⟩
  · cases h
def fldOf13 : Nat → Option (Nat × Nat)
  | 0 => some (0, 9)
  | 1 => some (1, 12)
  | _ => none
theorem fld13 (f off ft : Nat) (h : fldOf13 f = some (off, ft)) : Fld Try.prog 13 f off ft := by
  unfold fldOf13 at h
  split at h
  · cases h; exact ⟨_, _, Try.underlying13, rfl, rfl, rfl⟩
  · cases h; exact ⟨_, _, Try.underlying13, rfl, rfl, rfl⟩
  · cases h
def fldOf14 : Nat → Option (Nat × Nat)
  | 0 => some (0, 9)
  | 1 => some (1, 12)
  | _ => none
theorem fld14 (f off ft : Nat) (h : fldOf14 f = some (off, ft)) : Fld Try.prog 14 f off ft := by
  unfold fldOf14 at h
  split at h
  · cases h; exact ⟨_, _, Try.underlying14, rfl, rfl, rfl⟩
  · cases h; exact ⟨_, _, Try.underlying14, rfl, rfl, rfl⟩
  · cases h
def fldOf18 : Nat → Option (Nat × Nat)
  | 0 => some (0, 17)
  | _ => none
theorem fld18 (f off ft : Nat) (h : fldOf18 f = some (off, ft)) : Fld Try.prog 18 f off ft := by
  unfold fldOf18 at h
  split at h
  · cases h; exact ⟨_, _, Try.underlying18, rfl, rfl, rfl⟩
  · cases h
def fldOf19 : Nat → Option (Nat × Nat)
  | 0 => some (0, 17)
  | _ => none
theorem fld19 (f off ft : Nat) (h : fldOf19 f = some (off, ft)) : Fld Try.prog 19 f off ft := by
  unfold fldOf19 at h
  split at h
  · cases h; exact ⟨_, _, Try.underlying19, rfl, rfl, rfl⟩
  · cases h
def fldOf22 : Nat → Option (Nat × Nat)
  | 0 => some (0, 3)
  | 1 => some (1, 3)
  | _ => none
theorem fld22 (f off ft : Nat) (h : fldOf22 f = some (off, ft)) : Fld Try.prog 22 f off ft := by
  unfold fldOf22 at h
  split at h
  · cases h; exact ⟨_, _, Try.underlying22, rfl, rfl, rfl⟩
  · cases h; exact ⟨_, _, Try.underlying22, rfl, rfl, rfl⟩
  · cases h
def fldOf23 : Nat → Option (Nat × Nat)
  | 0 => some (0, 3)
  | 1 => some (1, 3)
  | _ => none
theorem fld23 (f off ft : Nat) (h : fldOf23 f = some (off, ft)) : Fld Try.prog 23 f off ft := by
  unfold fldOf23 at h
  split at h
  · cases h; exact ⟨_, _, Try.underlying23, rfl, rfl, rfl⟩
  · cases h; exact ⟨_, _, Try.underlying23, rfl, rfl, rfl⟩
  · cases h
def fldOf26 : Nat → Option (Nat × Nat)
  | 0 => some (0, 23)
  | 1 => some (2, 24)
  | 2 => some (3, 4)
  | 3 => some (4, 9)
  | 4 => some (5, 3)
  | 5 => some (6, 9)
  | 6 => some (7, 25)
  | _ => none
theorem fld26 (f off ft : Nat) (h : fldOf26 f = some (off, ft)) : Fld Try.prog 26 f off ft := by
  unfold fldOf26 at h
  split at h
  · cases h; exact ⟨_, _, Try.underlying26, rfl, rfl, rfl⟩
  · cases h; exact ⟨_, _, Try.underlying26, rfl, rfl, rfl⟩
  · cases h; exact ⟨_, _, Try.underlying26, rfl, rfl, rfl⟩
  · cases h; exact ⟨_, _, Try.underlying26, rfl, rfl, rfl⟩
  · cases h; exact ⟨_, _, Try.underlying26, rfl, rfl, rfl⟩
  · cases h; exact ⟨_, _, Try.underlying26, rfl, rfl, rfl⟩
  · cases h; exact ⟨_, _, Try.underlying26, rfl, rfl, rfl⟩
  · cases h
def fldOf27 : Nat → Option (Nat × Nat)
  | 0 => some (0, 23)
  | 1 => some (2, 24)
  | 2 => some (3, 4)
  | 3 => some (4, 9)
  | 4 => some (5, 3)
  | 5 => some (6, 9)
  | 6 => some (7, 25)
  | _ => none
theorem fld27 (f off ft : Nat) (h : fldOf27 f = some (off, ft)) : Fld Try.prog 27 f off ft := by
  unfold fldOf27 at h
  split at h
  · cases h; exact ⟨_, _, Try.underlying27, rfl, rfl, rfl⟩
  · cases h; exact ⟨_, _, Try.underlying27, rfl, rfl, rfl⟩
  · cases h; exact ⟨_, _, Try.underlying27, rfl, rfl, rfl⟩
  · cases h; exact ⟨_, _, Try.underlying27, rfl, rfl, rfl⟩
  · cases h; exact ⟨_, _, Try.underlying27, rfl, rfl, rfl⟩
  · cases h; exact ⟨_, _, Try.underlying27, rfl, rfl, rfl⟩
  · cases h; exact ⟨_, _, Try.underlying27, rfl, rfl, rfl⟩
  · cases h
def fldOf38 : Nat → Option (Nat × Nat)
  | 0 => some (0, 2)
  | 1 => some (1, 2)
  | _ => none
theorem fld38 (f off ft : Nat) (h : fldOf38 f = some (off, ft)) : Fld Try.prog 38 f off ft := by
  unfold fldOf38 at h
  split at h
  · cases h; exact ⟨_, _, Try.underlying38, rfl, rfl, rfl⟩
  · cases h; exact ⟨_, _, Try.underlying38, rfl, rfl, rfl⟩
  · cases h
def fldOf39 : Nat → Option (Nat × Nat)
  | 0 => some (0, 2)
  | 1 => some (1, 2)
  | _ => none
theorem fld39 (f off ft : Nat) (h : fldOf39 f = some (off, ft)) : Fld Try.prog 39 f off ft := by
  unfold fldOf39 at h
  split at h
  · cases h; exact ⟨_, _, Try.underlying39, rfl, rfl, rfl⟩
  · cases h; exact ⟨_, _, Try.underlying39, rfl, rfl, rfl⟩
  · cases h
def fldOf41 : Nat → Option (Nat × Nat)
  | 0 => some (0, 23)
  | 1 => some (2, 9)
  | 2 => some (3, 3)
  | 3 => some (4, 28)
  | 4 => some (5, 3)
  | 5 => some (6, 3)
  | 6 => some (7, 4)
  | 7 => some (8, 4)
  | 8 => some (9, 39)
  | 9 => some (11, 39)
  | 10 => some (13, 39)
  | 11 => some (15, 39)
  | 12 => some (17, 9)
  | 13 => some (18, 40)
  | _ => none
theorem fld41 (f off ft : Nat) (h : fldOf41 f = some (off, ft)) : Fld Try.prog 41 f off ft := by
  unfold fldOf41 at h
  split at h
  · cases h; exact ⟨_, _, Try.underlying41, rfl, rfl, rfl⟩
  · cases h; exact ⟨_, _, Try.underlying41, rfl, rfl, rfl⟩
  · cases h; exact ⟨_, _, Try.underlying41, rfl, rfl, rfl⟩
  · cases h; exact ⟨_, _, Try.underlying41, rfl, rfl, rfl⟩
  · cases h; exact ⟨_, _, Try.underlying41, rfl, rfl, rfl⟩
  · cases h; exact ⟨_, _, Try.underlying41, rfl, rfl, rfl⟩
  · cases h; exact ⟨_, _, Try.underlying41, rfl, rfl, rfl⟩
  · cases h; exact ⟨_, _, Try.underlying41, rfl, rfl, rfl⟩
  · cases h; exact ⟨_, _, Try.underlying41, rfl, rfl, rfl⟩
  · cases h; exact ⟨_, _, Try.underlying41, rfl, rfl, rfl⟩
  · cases h; exact ⟨_, _, Try.underlying41, rfl, rfl, rfl⟩
  · cases h; exact ⟨_, _, Try.underlying41, rfl, rfl, rfl⟩
  · cases h; exact ⟨_, _, Try.underlying41, rfl, rfl, rfl⟩
  · cases h; exact ⟨_, _, Try.underlying41, rfl, rfl, rfl⟩
  · cases h
def fldOf42 : Nat → Option (Nat × Nat)
  | 0 => some (0, 23)
  | 1 => some (2, 9)
  | 2 => some (3, 3)
  | 3 => some (4, 28)
  | 4 => some (5, 3)
  | 5 => some (6, 3)
  | 6 => some (7, 4)
  | 7 => some (8, 4)
  | 8 => some (9, 39)
  | 9 => some (11, 39)
  | 10 => some (13, 39)
  | 11 => some (15, 39)
  | 12 => some (17, 9)
  | 13 => some (18, 40)
  | _ => none
theorem fld42 (f off ft : Nat) (h : fldOf42 f = some (off, ft)) : Fld Try.prog 42 f off ft := by
  unfold fldOf42 at h
  split at h
  · cases h; exact ⟨_, _, Try.underlying42, rfl, rfl, rfl⟩
  · cases h; exact ⟨_, _, Try.underlying42, rfl, rfl, rfl⟩
  · cases h; exact ⟨_, _, Try.underlying42, rfl, rfl, rfl⟩
  · cases h; exact ⟨_, _, Try.underlying42, rfl, rfl, rfl⟩
  · cases h; exact ⟨_, _, Try.underlying42, rfl, rfl, rfl⟩
  · cases h; exact ⟨_, _, Try.underlying42, rfl, rfl, rfl⟩
  · cases h; exact ⟨_, _, Try.underlying42, rfl, rfl, rfl⟩
  · cases h; exact ⟨_, _, Try.underlying42, rfl, rfl, rfl⟩
  · cases h; exact ⟨_, _, Try.underlying42, rfl, rfl, rfl⟩
  · cases h; exact ⟨_, _, Try.underlying42, rfl, rfl, rfl⟩
  · cases h; exact ⟨_, _, Try.underlying42, rfl, rfl, rfl⟩
  · cases h; exact ⟨_, _, Try.underlying42, rfl, rfl, rfl⟩
  · cases h; exact ⟨_, _, Try.underlying42, rfl, rfl, rfl⟩
  · cases h; exact ⟨_, _, Try.underlying42, rfl, rfl, rfl⟩
  · cases h
def fldOf53 : Nat → Option (Nat × Nat)
  | 0 => some (0, 17)
  | 1 => some (1, 17)
  | 2 => some (2, 17)
  | 3 => some (3, 9)
  | _ => none
theorem fld53 (f off ft : Nat) (h : fldOf53 f = some (off, ft)) : Fld Try.prog 53 f off ft := by
  unfold fldOf53 at h
  split at h
  · cases h; exact ⟨_, _, Try.underlying53, rfl, rfl, rfl⟩
  · cases h; exact ⟨_, _, Try.underlying53, rfl, rfl, rfl⟩
  · cases h; exact ⟨_, _, Try.underlying53, rfl, rfl, rfl⟩
  · cases h; exact ⟨_, _, Try.underlying53, rfl, rfl, rfl⟩
  · cases h
def fldOf54 : Nat → Option (Nat × Nat)
  | 0 => some (0, 17)
  | 1 => some (1, 17)
  | 2 => some (2, 17)
  | 3 => some (3, 9)
  | _ => none
theorem fld54 (f off ft : Nat) (h : fldOf54 f = some (off, ft)) : Fld Try.prog 54 f off ft := by
  unfold fldOf54 at h
  split at h
  · cases h; exact ⟨_, _, Try.underlying54, rfl, rfl, rfl⟩
  · cases h; exact ⟨_, _, Try.underlying54, rfl, rfl, rfl⟩
  · cases h; exact ⟨_, _, Try.underlying54, rfl, rfl, rfl⟩
  · cases h; exact ⟨_, _, Try.underlying54, rfl, rfl, rfl⟩
  · cases h
def fldOf56 : Nat → Option (Nat × Nat)
  | 0 => some (0, 55)
  | _ => none
theorem fld56 (f off ft : Nat) (h : fldOf56 f = some (off, ft)) : Fld Try.prog 56 f off ft := by
  unfold fldOf56 at h
  split at h
  · cases h; exact ⟨_, _, Try.underlying56, rfl, rfl, rfl⟩
  · cases h
def fldOf57 : Nat → Option (Nat × Nat)
  | 0 => some (0, 55)
  | _ => none
theorem fld57 (f off ft : Nat) (h : fldOf57 f = some (off, ft)) : Fld Try.prog 57 f off ft := by
  unfold fldOf57 at h
  split at h
  · cases h; exact ⟨_, _, Try.underlying57, rfl, rfl, rfl⟩
  · cases h
def fldOf65 : Nat → Option (Nat × Nat)
  | 0 => some (0, 12)
  | 1 => some (1, 12)
  | 2 => some (2, 24)
  | 3 => some (3, 59)
  | 4 => some (4, 5)
  | 5 => some (5, 5)
  | 6 => some (6, 60)
  | 7 => some (7, 61)
  | 8 => some (8, 62)
  | 9 => some (9, 63)
  | 10 => some (10, 64)
  | _ => none
theorem fld65 (f off ft : Nat) (h : fldOf65 f = some (off, ft)) : Fld Try.prog 65 f off ft := by
  unfold fldOf65 at h
  split at h
  · cases h; exact ⟨_, _, Try.underlying65, rfl, rfl, rfl⟩
  · cases h; exact ⟨_, _, Try.underlying65, rfl, rfl, rfl⟩
  · cases h; exact ⟨_, _, Try.underlying65, rfl, rfl, rfl⟩
  · cases h; exact ⟨_, _, Try.underlying65, rfl, rfl, rfl⟩
  · cases h; exact ⟨_, _, Try.underlying65, rfl, rfl, rfl⟩
  · cases h; exact ⟨_, _, Try.underlying65, rfl, rfl, rfl⟩
  · cases h; exact ⟨_, _, Try.underlying65, rfl, rfl, rfl⟩
  · cases h; exact ⟨_, _, Try.underlying65, rfl, rfl, rfl⟩
  · cases h; exact ⟨_, _, Try.underlying65, rfl, rfl, rfl⟩
  · cases h; exact ⟨_, _, Try.underlying65, rfl, rfl, rfl⟩
  · cases h; exact ⟨_, _, Try.underlying65, rfl, rfl, rfl⟩
  · cases h
def fldOf66 : Nat → Option (Nat × Nat)
  | 0 => some (0, 12)
  | 1 => some (1, 12)
  | 2 => some (2, 24)
  | 3 => some (3, 59)
  | 4 => some (4, 5)
  | 5 => some (5, 5)
  | 6 => some (6, 60)
  | 7 => some (7, 61)
  | 8 => some (8, 62)
  | 9 => some (9, 63)
  | 10 => some (10, 64)
  | _ => none
theorem fld66 (f off ft : Nat) (h : fldOf66 f = some (off, ft)) : Fld Try.prog 66 f off ft := by
  unfold fldOf66 at h
  split at h
  · cases h; exact ⟨_, _, Try.underlying66, rfl, rfl, rfl⟩
  · cases h; exact ⟨_, _, Try.underlying66, rfl, rfl, rfl⟩
  · cases h; exact ⟨_, _, Try.underlying66, rfl, rfl, rfl⟩
  · cases h; exact ⟨_, _, Try.underlying66, rfl, rfl, rfl⟩
  · cases h; exact ⟨_, _, Try.underlying66, rfl, rfl, rfl⟩
  · cases h; exact ⟨_, _, Try.underlying66, rfl, rfl, rfl⟩
  · cases h; exact ⟨_, _, Try.underlying66, rfl, rfl, rfl⟩
  · cases h; exact ⟨_, _, Try.underlying66, rfl, rfl, rfl⟩
  · cases h; exact ⟨_, _, Try.underlying66, rfl, rfl, rfl⟩
  · cases h; exact ⟨_, _, Try.underlying66, rfl, rfl, rfl⟩
  · cases h; exact ⟨_, _, Try.underlying66, rfl, rfl, rfl⟩
  · cases h
def fldOf (t f : Nat) : Option (Nat × Nat) :=
  match t with
  | 7 => fldOf7 f
  | 8 => fldOf8 f
  | 13 => fldOf13 f
  | 14 => fldOf14 f
  | 18 => fldOf18 f
  | 19 => fldOf19 f
  | 22 => fldOf22 f
  | 23 => fldOf23 f
  | 26 => fldOf26 f
  | 27 => fldOf27 f
  | 38 => fldOf38 f
  | 39 => fldOf39 f
  | 41 => fldOf41 f
  | 42 => fldOf42 f
  | 53 => fldOf53 f
  | 54 => fldOf54 f
  | 56 => fldOf56 f
  | 57 => fldOf57 f
  | 65 => fldOf65 f
  | 66 => fldOf66 f
  | _ => none
theorem fld (t f off ft : Nat) (h : fldOf t f = some (off, ft)) : Fld Try.prog t f off ft := by
  unfold fldOf at h
  split at h
  · exact fld7 _ _ _ h
  · exact fld8 _ _ _ h
  · exact fld13 _ _ _ h
  · exact fld14 _ _ _ h
  · exact fld18 _ _ _ h
  · exact fld19 _ _ _ h
  · exact fld22 _ _ _ h
  · exact fld23 _ _ _ h
  · exact fld26 _ _ _ h
  · exact fld27 _ _ _ h
  · exact fld38 _ _ _ h
  · exact fld39 _ _ _ h
  · exact fld41 _ _ _ h
  · exact fld42 _ _ _ h
  · exact fld53 _ _ _ h
  · exact fld54 _ _ _ h
  · exact fld56 _ _ _ h
  · exact fld57 _ _ _ h
  · exact fld65 _ _ _ h
  · exact fld66 _ _ _ h
  · cases h
/-- busbar/busbarlaw09.CheckActive -/
theorem cal3 : Callable Try.prog 3 := ⟨⟨_, Try.func3, by kernel_rfl, by kernel_rfl⟩⟩
/-- busbar/busbarkit.LentMessage -/
theorem cal4 : Callable Try.prog 4 := ⟨⟨_, Try.func4, by kernel_rfl, by kernel_rfl⟩⟩
/-- busbar/busbarref09.Active -/
theorem cal5 : Callable Try.prog 5 := ⟨⟨_, Try.func5, by kernel_rfl, by kernel_rfl⟩⟩
/-- busbar/check.Active -/
theorem cal6 : Callable Try.prog 6 := ⟨⟨_, Try.func6, by kernel_rfl, by kernel_rfl⟩⟩
/-- busbar/busbarref0.SameInts -/
theorem cal7 : Callable Try.prog 7 := ⟨⟨_, Try.func7, by kernel_rfl, by kernel_rfl⟩⟩
/-- busbar/busbarkit.KeptMessage -/
theorem cal8 : Callable Try.prog 8 := ⟨⟨_, Try.func8, by kernel_rfl, by kernel_rfl⟩⟩
/-- busbar/busbarkit.ApartInts -/
theorem cal9 : Callable Try.prog 9 := ⟨⟨_, Try.func9, by kernel_rfl, by kernel_rfl⟩⟩
/-- busbar/busbarkit.LentSignals -/
theorem cal10 : Callable Try.prog 10 := ⟨⟨_, Try.func10, by kernel_rfl, by kernel_rfl⟩⟩
/-- busbar/busbarkit.KeptSignals -/
theorem cal11 : Callable Try.prog 11 := ⟨⟨_, Try.func11, by kernel_rfl, by kernel_rfl⟩⟩
/-- busbar/busbarkit.markInts -/
theorem cal12 : Callable Try.prog 12 := ⟨⟨_, Try.func12, by kernel_rfl, by kernel_rfl⟩⟩
/-- busbar/busbarkit.LentSignal -/
theorem cal13 : Callable Try.prog 13 := ⟨⟨_, Try.func13, by kernel_rfl, by kernel_rfl⟩⟩
/-- busbar/busbarkit.KeptSignal -/
theorem cal14 : Callable Try.prog 14 := ⟨⟨_, Try.func14, by kernel_rfl, by kernel_rfl⟩⟩
/-- busbar/busbarkit.LentTexts -/
theorem cal15 : Callable Try.prog 15 := ⟨⟨_, Try.func15, by kernel_rfl, by kernel_rfl⟩⟩
/-- busbar/busbarkit.KeptTexts -/
theorem cal16 : Callable Try.prog 16 := ⟨⟨_, Try.func16, by kernel_rfl, by kernel_rfl⟩⟩
/-- busbar/busbarkit.FullTexts -/
theorem cal17 : Callable Try.prog 17 := ⟨⟨_, Try.func17, by kernel_rfl, by kernel_rfl⟩⟩
/-- busbar/busbarkit.KeptFullTexts -/
theorem cal18 : Callable Try.prog 18 := ⟨⟨_, Try.func18, by kernel_rfl, by kernel_rfl⟩⟩
/-- busbar/busbarkit.markTexts -/
theorem cal19 : Callable Try.prog 19 := ⟨⟨_, Try.func19, by kernel_rfl, by kernel_rfl⟩⟩
/-- busbar/busbarkit.MarkText -/
theorem cal20 : Callable Try.prog 20 := ⟨⟨_, Try.func20, by kernel_rfl, by kernel_rfl⟩⟩
end Go.Proofs.Ytjomihhpglojpaa
