/- Closed facts of the program: sizes, zero values, which functions may be called; no condition. -/
import Derived.Test.YtaahkamnpobofaaProg
import Derived.Test.YtaahkamnpobofaaAb21
import Derived.KernelRfl
namespace Go.Proofs.Ytaahkamnpobofaa
open Go.Ab
@[simp] theorem fc_sizeT0 : sizeT Try.prog 0 = Option.some 1 := by kernel_rfl
@[simp] theorem fc_infoT0 : infoT Try.prog 0 = Option.some (1, 0, 1) := by kernel_rfl
@[simp] theorem fc_zeroT0 : zeroT Try.prog 0 = Option.some [Go.Value.tuple (#[])] := by kernel_rfl
@[simp] theorem fc_zeroV0 : zeroV Try.prog 0 = Option.some (Go.Value.tuple (#[])) := by kernel_rfl
@[simp] theorem fc_aggT0 : aggT Try.prog 0 = Option.some Bool.false := by kernel_rfl
@[simp] theorem fc_sizeT1 : sizeT Try.prog 1 = Option.some 1 := by kernel_rfl
@[simp] theorem fc_infoT1 : infoT Try.prog 1 = Option.some (1, 8, 1) := by kernel_rfl
@[simp] theorem fc_zeroT1 : zeroT Try.prog 1 = Option.some [Go.Value.nilFunc] := by kernel_rfl
@[simp] theorem fc_zeroV1 : zeroV Try.prog 1 = Option.some Go.Value.nilFunc := by kernel_rfl
@[simp] theorem fc_aggT1 : aggT Try.prog 1 = Option.some Bool.false := by kernel_rfl
@[simp] theorem fc_sizeT2 : sizeT Try.prog 2 = Option.some 1 := by kernel_rfl
@[simp] theorem fc_infoT2 : infoT Try.prog 2 = Option.some (1, 8, 1) := by kernel_rfl
@[simp] theorem fc_zeroT2 : zeroT Try.prog 2 = Option.some [Go.Value.int Go.IntKind.i64 0] := by kernel_rfl
@[simp] theorem fc_zeroV2 : zeroV Try.prog 2 = Option.some (Go.Value.int Go.IntKind.i64 0) := by kernel_rfl
@[simp] theorem fc_aggT2 : aggT Try.prog 2 = Option.some Bool.false := by kernel_rfl
@[simp] theorem fc_sizeT3 : sizeT Try.prog 3 = Option.some 1 := by kernel_rfl
@[simp] theorem fc_infoT3 : infoT Try.prog 3 = Option.some (1, 8, 1) := by kernel_rfl
@[simp] theorem fc_zeroT3 : zeroT Try.prog 3 = Option.some [Go.Value.int Go.IntKind.i64 0] := by kernel_rfl
@[simp] theorem fc_zeroV3 : zeroV Try.prog 3 = Option.some (Go.Value.int Go.IntKind.i64 0) := by kernel_rfl
@[simp] theorem fc_aggT3 : aggT Try.prog 3 = Option.some Bool.false := by kernel_rfl
@[simp] theorem fc_sizeT4 : sizeT Try.prog 4 = Option.some 1 := by kernel_rfl
@[simp] theorem fc_infoT4 : infoT Try.prog 4 = Option.some (1, 1, 1) := by kernel_rfl
@[simp] theorem fc_zeroT4 : zeroT Try.prog 4 = Option.some [Go.Value.bool Bool.false] := by kernel_rfl
@[simp] theorem fc_zeroV4 : zeroV Try.prog 4 = Option.some (Go.Value.bool Bool.false) := by kernel_rfl
@[simp] theorem fc_aggT4 : aggT Try.prog 4 = Option.some Bool.false := by kernel_rfl
@[simp] theorem fc_sizeT5 : sizeT Try.prog 5 = Option.some 1 := by kernel_rfl
@[simp] theorem fc_infoT5 : infoT Try.prog 5 = Option.some (1, 1, 1) := by kernel_rfl
@[simp] theorem fc_zeroT5 : zeroT Try.prog 5 = Option.some [Go.Value.int Go.IntKind.u8 0] := by kernel_rfl
@[simp] theorem fc_zeroV5 : zeroV Try.prog 5 = Option.some (Go.Value.int Go.IntKind.u8 0) := by kernel_rfl
@[simp] theorem fc_aggT5 : aggT Try.prog 5 = Option.some Bool.false := by kernel_rfl
@[simp] theorem fc_sizeT6 : sizeT Try.prog 6 = Option.some 1 := by kernel_rfl
@[simp] theorem fc_infoT6 : infoT Try.prog 6 = Option.some (1, 1, 1) := by kernel_rfl
@[simp] theorem fc_zeroT6 : zeroT Try.prog 6 = Option.some [Go.Value.int Go.IntKind.u8 0] := by kernel_rfl
@[simp] theorem fc_zeroV6 : zeroV Try.prog 6 = Option.some (Go.Value.int Go.IntKind.u8 0) := by kernel_rfl
@[simp] theorem fc_aggT6 : aggT Try.prog 6 = Option.some Bool.false := by kernel_rfl
@[simp] theorem fc_sizeT7 : sizeT Try.prog 7 = Option.some 4 := by kernel_rfl
@[simp] theorem fc_infoT7 : infoT Try.prog 7 = Option.some (4, 24, 4) := by kernel_rfl
@[simp] theorem fc_zeroT7 : zeroT Try.prog 7 = Option.some [Go.Value.int Go.IntKind.i64 0, Go.Value.int Go.IntKind.i64 0, Go.Value.bool Bool.false, Go.Value.int Go.IntKind.u8 0] := by kernel_rfl
@[simp] theorem fc_zeroV7 : zeroV Try.prog 7 = Option.some (Go.Value.agg (#[Go.Value.int Go.IntKind.i64 0, Go.Value.int Go.IntKind.i64 0, Go.Value.bool Bool.false, Go.Value.int Go.IntKind.u8 0])) := by kernel_rfl
@[simp] theorem fc_aggT7 : aggT Try.prog 7 = Option.some Bool.true := by kernel_rfl
@[simp] theorem fc_sizeT8 : sizeT Try.prog 8 = Option.some 4 := by kernel_rfl
@[simp] theorem fc_infoT8 : infoT Try.prog 8 = Option.some (4, 24, 4) := by kernel_rfl
@[simp] theorem fc_zeroT8 : zeroT Try.prog 8 = Option.some [Go.Value.int Go.IntKind.i64 0, Go.Value.int Go.IntKind.i64 0, Go.Value.bool Bool.false, Go.Value.int Go.IntKind.u8 0] := by kernel_rfl
@[simp] theorem fc_zeroV8 : zeroV Try.prog 8 = Option.some (Go.Value.agg (#[Go.Value.int Go.IntKind.i64 0, Go.Value.int Go.IntKind.i64 0, Go.Value.bool Bool.false, Go.Value.int Go.IntKind.u8 0])) := by kernel_rfl
@[simp] theorem fc_aggT8 : aggT Try.prog 8 = Option.some Bool.true := by kernel_rfl
@[simp] theorem fc_sizeT9 : sizeT Try.prog 9 = Option.some 1 := by kernel_rfl
@[simp] theorem fc_infoT9 : infoT Try.prog 9 = Option.some (1, 16, 1) := by kernel_rfl
@[simp] theorem fc_zeroT9 : zeroT Try.prog 9 = Option.some [Go.Value.string (ByteArray.mk (#[]))] := by kernel_rfl
@[simp] theorem fc_zeroV9 : zeroV Try.prog 9 = Option.some (Go.Value.string (ByteArray.mk (#[]))) := by kernel_rfl
@[simp] theorem fc_aggT9 : aggT Try.prog 9 = Option.some Bool.false := by kernel_rfl
@[simp] theorem fc_sizeT10 : sizeT Try.prog 10 = Option.some 1 := by kernel_rfl
@[simp] theorem fc_infoT10 : infoT Try.prog 10 = Option.some (1, 16, 1) := by kernel_rfl
@[simp] theorem fc_zeroT10 : zeroT Try.prog 10 = Option.some [Go.Value.string (ByteArray.mk (#[]))] := by kernel_rfl
@[simp] theorem fc_zeroV10 : zeroV Try.prog 10 = Option.some (Go.Value.string (ByteArray.mk (#[]))) := by kernel_rfl
@[simp] theorem fc_aggT10 : aggT Try.prog 10 = Option.some Bool.false := by kernel_rfl
@[simp] theorem fc_sizeT11 : sizeT Try.prog 11 = Option.some 1 := by kernel_rfl
@[simp] theorem fc_infoT11 : infoT Try.prog 11 = Option.some (1, 16, 1) := by kernel_rfl
@[simp] theorem fc_zeroT11 : zeroT Try.prog 11 = Option.some [Go.Value.string (ByteArray.mk (#[]))] := by kernel_rfl
@[simp] theorem fc_zeroV11 : zeroV Try.prog 11 = Option.some (Go.Value.string (ByteArray.mk (#[]))) := by kernel_rfl
@[simp] theorem fc_aggT11 : aggT Try.prog 11 = Option.some Bool.false := by kernel_rfl
@[simp] theorem fc_sizeT12 : sizeT Try.prog 12 = Option.some 1 := by kernel_rfl
@[simp] theorem fc_infoT12 : infoT Try.prog 12 = Option.some (1, 8, 1) := by kernel_rfl
@[simp] theorem fc_zeroT12 : zeroT Try.prog 12 = Option.some [Go.Value.int Go.IntKind.u64 0] := by kernel_rfl
@[simp] theorem fc_zeroV12 : zeroV Try.prog 12 = Option.some (Go.Value.int Go.IntKind.u64 0) := by kernel_rfl
@[simp] theorem fc_aggT12 : aggT Try.prog 12 = Option.some Bool.false := by kernel_rfl
@[simp] theorem fc_sizeT13 : sizeT Try.prog 13 = Option.some 2 := by kernel_rfl
@[simp] theorem fc_infoT13 : infoT Try.prog 13 = Option.some (2, 24, 2) := by kernel_rfl
@[simp] theorem fc_zeroT13 : zeroT Try.prog 13 = Option.some [Go.Value.string (ByteArray.mk (#[])), Go.Value.int Go.IntKind.u64 0] := by kernel_rfl
@[simp] theorem fc_zeroV13 : zeroV Try.prog 13 = Option.some (Go.Value.agg (#[Go.Value.string (ByteArray.mk (#[])), Go.Value.int Go.IntKind.u64 0])) := by kernel_rfl
@[simp] theorem fc_aggT13 : aggT Try.prog 13 = Option.some Bool.true := by kernel_rfl
@[simp] theorem fc_sizeT14 : sizeT Try.prog 14 = Option.some 2 := by kernel_rfl
@[simp] theorem fc_infoT14 : infoT Try.prog 14 = Option.some (2, 24, 2) := by kernel_rfl
@[simp] theorem fc_zeroT14 : zeroT Try.prog 14 = Option.some [Go.Value.string (ByteArray.mk (#[])), Go.Value.int Go.IntKind.u64 0] := by kernel_rfl
@[simp] theorem fc_zeroV14 : zeroV Try.prog 14 = Option.some (Go.Value.agg (#[Go.Value.string (ByteArray.mk (#[])), Go.Value.int Go.IntKind.u64 0])) := by kernel_rfl
@[simp] theorem fc_aggT14 : aggT Try.prog 14 = Option.some Bool.true := by kernel_rfl
@[simp] theorem fc_sizeT15 : sizeT Try.prog 15 = Option.some 1 := by kernel_rfl
@[simp] theorem fc_infoT15 : infoT Try.prog 15 = Option.some (1, 8, 1) := by kernel_rfl
@[simp] theorem fc_zeroT15 : zeroT Try.prog 15 = Option.some [Go.Value.pointer Option.none] := by kernel_rfl
@[simp] theorem fc_zeroV15 : zeroV Try.prog 15 = Option.some (Go.Value.pointer Option.none) := by kernel_rfl
@[simp] theorem fc_aggT15 : aggT Try.prog 15 = Option.some Bool.false := by kernel_rfl
@[simp] theorem fc_sizeT16 : sizeT Try.prog 16 = Option.some 1 := by kernel_rfl
@[simp] theorem fc_infoT16 : infoT Try.prog 16 = Option.some (1, 8, 1) := by kernel_rfl
@[simp] theorem fc_zeroT16 : zeroT Try.prog 16 = Option.some [Go.Value.pointer Option.none] := by kernel_rfl
@[simp] theorem fc_zeroV16 : zeroV Try.prog 16 = Option.some (Go.Value.pointer Option.none) := by kernel_rfl
@[simp] theorem fc_aggT16 : aggT Try.prog 16 = Option.some Bool.false := by kernel_rfl
@[simp] theorem fc_sizeT17 : sizeT Try.prog 17 = Option.some 1 := by kernel_rfl
@[simp] theorem fc_infoT17 : infoT Try.prog 17 = Option.some (1, 8, 1) := by kernel_rfl
@[simp] theorem fc_zeroT17 : zeroT Try.prog 17 = Option.some [Go.Value.pointer Option.none] := by kernel_rfl
@[simp] theorem fc_zeroV17 : zeroV Try.prog 17 = Option.some (Go.Value.pointer Option.none) := by kernel_rfl
@[simp] theorem fc_aggT17 : aggT Try.prog 17 = Option.some Bool.false := by kernel_rfl
@[simp] theorem fc_sizeT18 : sizeT Try.prog 18 = Option.some 1 := by kernel_rfl
@[simp] theorem fc_infoT18 : infoT Try.prog 18 = Option.some (1, 8, 1) := by kernel_rfl
@[simp] theorem fc_zeroT18 : zeroT Try.prog 18 = Option.some [Go.Value.pointer Option.none] := by kernel_rfl
@[simp] theorem fc_zeroV18 : zeroV Try.prog 18 = Option.some (Go.Value.agg (#[Go.Value.pointer Option.none])) := by kernel_rfl
@[simp] theorem fc_aggT18 : aggT Try.prog 18 = Option.some Bool.true := by kernel_rfl
@[simp] theorem fc_sizeT19 : sizeT Try.prog 19 = Option.some 1 := by kernel_rfl
@[simp] theorem fc_infoT19 : infoT Try.prog 19 = Option.some (1, 8, 1) := by kernel_rfl
@[simp] theorem fc_zeroT19 : zeroT Try.prog 19 = Option.some [Go.Value.pointer Option.none] := by kernel_rfl
@[simp] theorem fc_zeroV19 : zeroV Try.prog 19 = Option.some (Go.Value.agg (#[Go.Value.pointer Option.none])) := by kernel_rfl
@[simp] theorem fc_aggT19 : aggT Try.prog 19 = Option.some Bool.true := by kernel_rfl
@[simp] theorem fc_sizeT20 : sizeT Try.prog 20 = Option.some 1 := by kernel_rfl
@[simp] theorem fc_infoT20 : infoT Try.prog 20 = Option.some (1, 16, 1) := by kernel_rfl
@[simp] theorem fc_zeroT20 : zeroT Try.prog 20 = Option.some [Go.Value.nilIface] := by kernel_rfl
@[simp] theorem fc_zeroV20 : zeroV Try.prog 20 = Option.some Go.Value.nilIface := by kernel_rfl
@[simp] theorem fc_aggT20 : aggT Try.prog 20 = Option.some Bool.false := by kernel_rfl
@[simp] theorem fc_sizeT21 : sizeT Try.prog 21 = Option.some 1 := by kernel_rfl
@[simp] theorem fc_infoT21 : infoT Try.prog 21 = Option.some (1, 4, 1) := by kernel_rfl
@[simp] theorem fc_zeroT21 : zeroT Try.prog 21 = Option.some [Go.Value.int Go.IntKind.i32 0] := by kernel_rfl
@[simp] theorem fc_zeroV21 : zeroV Try.prog 21 = Option.some (Go.Value.int Go.IntKind.i32 0) := by kernel_rfl
@[simp] theorem fc_aggT21 : aggT Try.prog 21 = Option.some Bool.false := by kernel_rfl
@[simp] theorem fc_sizeT22 : sizeT Try.prog 22 = Option.some 1 := by kernel_rfl
@[simp] theorem fc_infoT22 : infoT Try.prog 22 = Option.some (1, 24, 1) := by kernel_rfl
@[simp] theorem fc_zeroT22 : zeroT Try.prog 22 = Option.some [Go.Value.slice Option.none 0 0] := by kernel_rfl
@[simp] theorem fc_zeroV22 : zeroV Try.prog 22 = Option.some (Go.Value.slice Option.none 0 0) := by kernel_rfl
@[simp] theorem fc_aggT22 : aggT Try.prog 22 = Option.some Bool.false := by kernel_rfl
@[simp] theorem fc_sizeT23 : sizeT Try.prog 23 = Option.some 1 := by kernel_rfl
@[simp] theorem fc_infoT23 : infoT Try.prog 23 = Option.some (1, 8, 1) := by kernel_rfl
@[simp] theorem fc_zeroT23 : zeroT Try.prog 23 = Option.some [Go.Value.nilFunc] := by kernel_rfl
@[simp] theorem fc_zeroV23 : zeroV Try.prog 23 = Option.some Go.Value.nilFunc := by kernel_rfl
@[simp] theorem fc_aggT23 : aggT Try.prog 23 = Option.some Bool.false := by kernel_rfl
@[simp] theorem fc_sizeT24 : sizeT Try.prog 24 = Option.some 1 := by kernel_rfl
@[simp] theorem fc_infoT24 : infoT Try.prog 24 = Option.some (1, 8, 1) := by kernel_rfl
@[simp] theorem fc_zeroT24 : zeroT Try.prog 24 = Option.some [Go.Value.int Go.IntKind.u64 0] := by kernel_rfl
@[simp] theorem fc_zeroV24 : zeroV Try.prog 24 = Option.some (Go.Value.int Go.IntKind.u64 0) := by kernel_rfl
@[simp] theorem fc_aggT24 : aggT Try.prog 24 = Option.some Bool.false := by kernel_rfl
@[simp] theorem fc_sizeT25 : sizeT Try.prog 25 = Option.some 1 := by kernel_rfl
@[simp] theorem fc_infoT25 : infoT Try.prog 25 = Option.some (1, 8, 1) := by kernel_rfl
@[simp] theorem fc_zeroT25 : zeroT Try.prog 25 = Option.some [Go.Value.pointer Option.none] := by kernel_rfl
@[simp] theorem fc_zeroV25 : zeroV Try.prog 25 = Option.some (Go.Value.pointer Option.none) := by kernel_rfl
@[simp] theorem fc_aggT25 : aggT Try.prog 25 = Option.some Bool.false := by kernel_rfl
@[simp] theorem fc_sizeT26 : sizeT Try.prog 26 = Option.some 1 := by kernel_rfl
@[simp] theorem fc_infoT26 : infoT Try.prog 26 = Option.some (1, 8, 1) := by kernel_rfl
@[simp] theorem fc_zeroT26 : zeroT Try.prog 26 = Option.some [Go.Value.nilFunc] := by kernel_rfl
@[simp] theorem fc_zeroV26 : zeroV Try.prog 26 = Option.some Go.Value.nilFunc := by kernel_rfl
@[simp] theorem fc_aggT26 : aggT Try.prog 26 = Option.some Bool.false := by kernel_rfl
@[simp] theorem fc_sizeT27 : sizeT Try.prog 27 = Option.some 1 := by kernel_rfl
@[simp] theorem fc_infoT27 : infoT Try.prog 27 = Option.some (1, 8, 1) := by kernel_rfl
@[simp] theorem fc_zeroT27 : zeroT Try.prog 27 = Option.some [Go.Value.int Go.IntKind.i64 0] := by kernel_rfl
@[simp] theorem fc_zeroV27 : zeroV Try.prog 27 = Option.some (Go.Value.int Go.IntKind.i64 0) := by kernel_rfl
@[simp] theorem fc_aggT27 : aggT Try.prog 27 = Option.some Bool.false := by kernel_rfl
@[simp] theorem fc_sizeT28 : sizeT Try.prog 28 = Option.some 1 := by kernel_rfl
@[simp] theorem fc_infoT28 : infoT Try.prog 28 = Option.some (1, 0, 1) := by kernel_rfl
@[simp] theorem fc_zeroT28 : zeroT Try.prog 28 = Option.some [Go.Value.tuple (#[])] := by kernel_rfl
@[simp] theorem fc_zeroV28 : zeroV Try.prog 28 = Option.some (Go.Value.tuple (#[])) := by kernel_rfl
@[simp] theorem fc_aggT28 : aggT Try.prog 28 = Option.some Bool.false := by kernel_rfl
@[simp] theorem fc_sizeT29 : sizeT Try.prog 29 = Option.some 1 := by kernel_rfl
@[simp] theorem fc_infoT29 : infoT Try.prog 29 = Option.some (1, 8, 1) := by kernel_rfl
@[simp] theorem fc_zeroT29 : zeroT Try.prog 29 = Option.some [Go.Value.nilFunc] := by kernel_rfl
@[simp] theorem fc_zeroV29 : zeroV Try.prog 29 = Option.some Go.Value.nilFunc := by kernel_rfl
@[simp] theorem fc_aggT29 : aggT Try.prog 29 = Option.some Bool.false := by kernel_rfl
@[simp] theorem fc_sizeT30 : sizeT Try.prog 30 = Option.some 1 := by kernel_rfl
@[simp] theorem fc_infoT30 : infoT Try.prog 30 = Option.some (1, 8, 1) := by kernel_rfl
@[simp] theorem fc_zeroT30 : zeroT Try.prog 30 = Option.some [Go.Value.nilFunc] := by kernel_rfl
@[simp] theorem fc_zeroV30 : zeroV Try.prog 30 = Option.some Go.Value.nilFunc := by kernel_rfl
@[simp] theorem fc_aggT30 : aggT Try.prog 30 = Option.some Bool.false := by kernel_rfl
@[simp] theorem fc_sizeT31 : sizeT Try.prog 31 = Option.some 1 := by kernel_rfl
@[simp] theorem fc_infoT31 : infoT Try.prog 31 = Option.some (1, 8, 1) := by kernel_rfl
@[simp] theorem fc_zeroT31 : zeroT Try.prog 31 = Option.some [Go.Value.nilFunc] := by kernel_rfl
@[simp] theorem fc_zeroV31 : zeroV Try.prog 31 = Option.some Go.Value.nilFunc := by kernel_rfl
@[simp] theorem fc_aggT31 : aggT Try.prog 31 = Option.some Bool.false := by kernel_rfl
@[simp] theorem fc_sizeT32 : sizeT Try.prog 32 = Option.some 1 := by kernel_rfl
@[simp] theorem fc_infoT32 : infoT Try.prog 32 = Option.some (1, 8, 1) := by kernel_rfl
@[simp] theorem fc_zeroT32 : zeroT Try.prog 32 = Option.some [Go.Value.nilFunc] := by kernel_rfl
@[simp] theorem fc_zeroV32 : zeroV Try.prog 32 = Option.some Go.Value.nilFunc := by kernel_rfl
@[simp] theorem fc_aggT32 : aggT Try.prog 32 = Option.some Bool.false := by kernel_rfl
@[simp] theorem fc_sizeT33 : sizeT Try.prog 33 = Option.some 1 := by kernel_rfl
@[simp] theorem fc_infoT33 : infoT Try.prog 33 = Option.some (1, 8, 1) := by kernel_rfl
@[simp] theorem fc_zeroT33 : zeroT Try.prog 33 = Option.some [Go.Value.nilFunc] := by kernel_rfl
@[simp] theorem fc_zeroV33 : zeroV Try.prog 33 = Option.some Go.Value.nilFunc := by kernel_rfl
@[simp] theorem fc_aggT33 : aggT Try.prog 33 = Option.some Bool.false := by kernel_rfl
@[simp] theorem fc_sizeT34 : sizeT Try.prog 34 = Option.some 1 := by kernel_rfl
@[simp] theorem fc_infoT34 : infoT Try.prog 34 = Option.some (1, 8, 1) := by kernel_rfl
@[simp] theorem fc_zeroT34 : zeroT Try.prog 34 = Option.some [Go.Value.pointer Option.none] := by kernel_rfl
@[simp] theorem fc_zeroV34 : zeroV Try.prog 34 = Option.some (Go.Value.pointer Option.none) := by kernel_rfl
@[simp] theorem fc_aggT34 : aggT Try.prog 34 = Option.some Bool.false := by kernel_rfl
@[simp] theorem fc_sizeT35 : sizeT Try.prog 35 = Option.some 1 := by kernel_rfl
@[simp] theorem fc_infoT35 : infoT Try.prog 35 = Option.some (1, 8, 1) := by kernel_rfl
@[simp] theorem fc_zeroT35 : zeroT Try.prog 35 = Option.some [Go.Value.nilFunc] := by kernel_rfl
@[simp] theorem fc_zeroV35 : zeroV Try.prog 35 = Option.some Go.Value.nilFunc := by kernel_rfl
@[simp] theorem fc_aggT35 : aggT Try.prog 35 = Option.some Bool.false := by kernel_rfl
@[simp] theorem fc_sizeT36 : sizeT Try.prog 36 = Option.some 1 := by kernel_rfl
@[simp] theorem fc_infoT36 : infoT Try.prog 36 = Option.some (1, 8, 1) := by kernel_rfl
@[simp] theorem fc_zeroT36 : zeroT Try.prog 36 = Option.some [Go.Value.map Option.none] := by kernel_rfl
@[simp] theorem fc_zeroV36 : zeroV Try.prog 36 = Option.some (Go.Value.map Option.none) := by kernel_rfl
@[simp] theorem fc_aggT36 : aggT Try.prog 36 = Option.some Bool.false := by kernel_rfl
@[simp] theorem fc_sizeT37 : sizeT Try.prog 37 = Option.some 1 := by kernel_rfl
@[simp] theorem fc_infoT37 : infoT Try.prog 37 = Option.some (1, 8, 1) := by kernel_rfl
@[simp] theorem fc_zeroT37 : zeroT Try.prog 37 = Option.some [Go.Value.nilFunc] := by kernel_rfl
@[simp] theorem fc_zeroV37 : zeroV Try.prog 37 = Option.some Go.Value.nilFunc := by kernel_rfl
@[simp] theorem fc_aggT37 : aggT Try.prog 37 = Option.some Bool.false := by kernel_rfl
@[simp] theorem fc_sizeT38 : sizeT Try.prog 38 = Option.some 1 := by kernel_rfl
@[simp] theorem fc_infoT38 : infoT Try.prog 38 = Option.some (1, 0, 1) := by kernel_rfl
@[simp] theorem fc_zeroT38 : zeroT Try.prog 38 = Option.some [Go.Value.tuple (#[])] := by kernel_rfl
@[simp] theorem fc_zeroV38 : zeroV Try.prog 38 = Option.some (Go.Value.tuple (#[])) := by kernel_rfl
@[simp] theorem fc_aggT38 : aggT Try.prog 38 = Option.some Bool.false := by kernel_rfl
@[simp] theorem fc_sizeT39 : sizeT Try.prog 39 = Option.some 1 := by kernel_rfl
@[simp] theorem fc_infoT39 : infoT Try.prog 39 = Option.some (1, 8, 1) := by kernel_rfl
@[simp] theorem fc_zeroT39 : zeroT Try.prog 39 = Option.some [Go.Value.nilFunc] := by kernel_rfl
@[simp] theorem fc_zeroV39 : zeroV Try.prog 39 = Option.some Go.Value.nilFunc := by kernel_rfl
@[simp] theorem fc_aggT39 : aggT Try.prog 39 = Option.some Bool.false := by kernel_rfl
@[simp] theorem fc_sizeT40 : sizeT Try.prog 40 = Option.some 1 := by kernel_rfl
@[simp] theorem fc_infoT40 : infoT Try.prog 40 = Option.some (1, 8, 1) := by kernel_rfl
@[simp] theorem fc_zeroT40 : zeroT Try.prog 40 = Option.some [Go.Value.nilFunc] := by kernel_rfl
@[simp] theorem fc_zeroV40 : zeroV Try.prog 40 = Option.some Go.Value.nilFunc := by kernel_rfl
@[simp] theorem fc_aggT40 : aggT Try.prog 40 = Option.some Bool.false := by kernel_rfl
@[simp] theorem fc_sizeT41 : sizeT Try.prog 41 = Option.some 1 := by kernel_rfl
@[simp] theorem fc_infoT41 : infoT Try.prog 41 = Option.some (1, 8, 1) := by kernel_rfl
@[simp] theorem fc_zeroT41 : zeroT Try.prog 41 = Option.some [Go.Value.nilFunc] := by kernel_rfl
@[simp] theorem fc_zeroV41 : zeroV Try.prog 41 = Option.some Go.Value.nilFunc := by kernel_rfl
@[simp] theorem fc_aggT41 : aggT Try.prog 41 = Option.some Bool.false := by kernel_rfl
@[simp] theorem fc_sizeT42 : sizeT Try.prog 42 = Option.some 1 := by kernel_rfl
@[simp] theorem fc_infoT42 : infoT Try.prog 42 = Option.some (1, 24, 1) := by kernel_rfl
@[simp] theorem fc_zeroT42 : zeroT Try.prog 42 = Option.some [Go.Value.slice Option.none 0 0] := by kernel_rfl
@[simp] theorem fc_zeroV42 : zeroV Try.prog 42 = Option.some (Go.Value.slice Option.none 0 0) := by kernel_rfl
@[simp] theorem fc_aggT42 : aggT Try.prog 42 = Option.some Bool.false := by kernel_rfl
@[simp] theorem fc_sizeT43 : sizeT Try.prog 43 = Option.some 1 := by kernel_rfl
@[simp] theorem fc_infoT43 : infoT Try.prog 43 = Option.some (1, 0, 1) := by kernel_rfl
@[simp] theorem fc_zeroT43 : zeroT Try.prog 43 = Option.some [Go.Value.tuple (#[])] := by kernel_rfl
@[simp] theorem fc_zeroV43 : zeroV Try.prog 43 = Option.some (Go.Value.tuple (#[])) := by kernel_rfl
@[simp] theorem fc_aggT43 : aggT Try.prog 43 = Option.some Bool.false := by kernel_rfl
@[simp] theorem fc_sizeT44 : sizeT Try.prog 44 = Option.some 1 := by kernel_rfl
@[simp] theorem fc_infoT44 : infoT Try.prog 44 = Option.some (1, 8, 1) := by kernel_rfl
@[simp] theorem fc_zeroT44 : zeroT Try.prog 44 = Option.some [Go.Value.nilFunc] := by kernel_rfl
@[simp] theorem fc_zeroV44 : zeroV Try.prog 44 = Option.some Go.Value.nilFunc := by kernel_rfl
@[simp] theorem fc_aggT44 : aggT Try.prog 44 = Option.some Bool.false := by kernel_rfl
@[simp] theorem fc_sizeT45 : sizeT Try.prog 45 = Option.some 1 := by kernel_rfl
@[simp] theorem fc_infoT45 : infoT Try.prog 45 = Option.some (1, 8, 1) := by kernel_rfl
@[simp] theorem fc_zeroT45 : zeroT Try.prog 45 = Option.some [Go.Value.pointer Option.none] := by kernel_rfl
@[simp] theorem fc_zeroV45 : zeroV Try.prog 45 = Option.some (Go.Value.pointer Option.none) := by kernel_rfl
@[simp] theorem fc_aggT45 : aggT Try.prog 45 = Option.some Bool.false := by kernel_rfl
@[simp] theorem fc_sizeT46 : sizeT Try.prog 46 = Option.some 1 := by kernel_rfl
@[simp] theorem fc_infoT46 : infoT Try.prog 46 = Option.some (1, 0, 1) := by kernel_rfl
@[simp] theorem fc_zeroT46 : zeroT Try.prog 46 = Option.some [Go.Value.tuple (#[])] := by kernel_rfl
@[simp] theorem fc_zeroV46 : zeroV Try.prog 46 = Option.some (Go.Value.tuple (#[])) := by kernel_rfl
@[simp] theorem fc_aggT46 : aggT Try.prog 46 = Option.some Bool.false := by kernel_rfl
@[simp] theorem fc_sizeT47 : sizeT Try.prog 47 = Option.some 1 := by kernel_rfl
@[simp] theorem fc_infoT47 : infoT Try.prog 47 = Option.some (1, 8, 1) := by kernel_rfl
@[simp] theorem fc_zeroT47 : zeroT Try.prog 47 = Option.some [Go.Value.nilFunc] := by kernel_rfl
@[simp] theorem fc_zeroV47 : zeroV Try.prog 47 = Option.some Go.Value.nilFunc := by kernel_rfl
@[simp] theorem fc_aggT47 : aggT Try.prog 47 = Option.some Bool.false := by kernel_rfl
@[simp] theorem fc_sizeT48 : sizeT Try.prog 48 = Option.some 1 := by kernel_rfl
@[simp] theorem fc_infoT48 : infoT Try.prog 48 = Option.some (1, 24, 1) := by kernel_rfl
@[simp] theorem fc_zeroT48 : zeroT Try.prog 48 = Option.some [Go.Value.slice Option.none 0 0] := by kernel_rfl
@[simp] theorem fc_zeroV48 : zeroV Try.prog 48 = Option.some (Go.Value.slice Option.none 0 0) := by kernel_rfl
@[simp] theorem fc_aggT48 : aggT Try.prog 48 = Option.some Bool.false := by kernel_rfl
@[simp] theorem fc_sizeT49 : sizeT Try.prog 49 = Option.some 2 := by kernel_rfl
@[simp] theorem fc_infoT49 : infoT Try.prog 49 = Option.some (2, 32, 2) := by kernel_rfl
@[simp] theorem fc_zeroT49 : zeroT Try.prog 49 = Option.some [Go.Value.int Go.IntKind.i64 0, Go.Value.slice Option.none 0 0] := by kernel_rfl
@[simp] theorem fc_zeroV49 : zeroV Try.prog 49 = Option.some (Go.Value.agg (#[Go.Value.int Go.IntKind.i64 0, Go.Value.slice Option.none 0 0])) := by kernel_rfl
@[simp] theorem fc_aggT49 : aggT Try.prog 49 = Option.some Bool.true := by kernel_rfl
@[simp] theorem fc_sizeT50 : sizeT Try.prog 50 = Option.some 2 := by kernel_rfl
@[simp] theorem fc_infoT50 : infoT Try.prog 50 = Option.some (2, 32, 2) := by kernel_rfl
@[simp] theorem fc_zeroT50 : zeroT Try.prog 50 = Option.some [Go.Value.int Go.IntKind.i64 0, Go.Value.slice Option.none 0 0] := by kernel_rfl
@[simp] theorem fc_zeroV50 : zeroV Try.prog 50 = Option.some (Go.Value.agg (#[Go.Value.int Go.IntKind.i64 0, Go.Value.slice Option.none 0 0])) := by kernel_rfl
@[simp] theorem fc_aggT50 : aggT Try.prog 50 = Option.some Bool.true := by kernel_rfl
@[simp] theorem fc_sizeT51 : sizeT Try.prog 51 = Option.some 1 := by kernel_rfl
@[simp] theorem fc_infoT51 : infoT Try.prog 51 = Option.some (1, 8, 1) := by kernel_rfl
@[simp] theorem fc_zeroT51 : zeroT Try.prog 51 = Option.some [Go.Value.nilFunc] := by kernel_rfl
@[simp] theorem fc_zeroV51 : zeroV Try.prog 51 = Option.some Go.Value.nilFunc := by kernel_rfl
@[simp] theorem fc_aggT51 : aggT Try.prog 51 = Option.some Bool.false := by kernel_rfl
@[simp] theorem fc_sizeT52 : sizeT Try.prog 52 = Option.some 5 := by kernel_rfl
@[simp] theorem fc_infoT52 : infoT Try.prog 52 = Option.some (5, 40, 5) := by kernel_rfl
@[simp] theorem fc_zeroT52 : zeroT Try.prog 52 = Option.some [Go.Value.int Go.IntKind.i64 0, Go.Value.int Go.IntKind.i64 0, Go.Value.int Go.IntKind.i64 0, Go.Value.int Go.IntKind.i64 0, Go.Value.int Go.IntKind.i64 0] := by kernel_rfl
@[simp] theorem fc_zeroV52 : zeroV Try.prog 52 = Option.some (Go.Value.agg (#[Go.Value.int Go.IntKind.i64 0, Go.Value.int Go.IntKind.i64 0, Go.Value.int Go.IntKind.i64 0, Go.Value.int Go.IntKind.i64 0, Go.Value.int Go.IntKind.i64 0])) := by kernel_rfl
@[simp] theorem fc_aggT52 : aggT Try.prog 52 = Option.some Bool.true := by kernel_rfl
@[simp] theorem fc_sizeT53 : sizeT Try.prog 53 = Option.some 5 := by kernel_rfl
@[simp] theorem fc_infoT53 : infoT Try.prog 53 = Option.some (5, 40, 5) := by kernel_rfl
@[simp] theorem fc_zeroT53 : zeroT Try.prog 53 = Option.some [Go.Value.int Go.IntKind.i64 0, Go.Value.int Go.IntKind.i64 0, Go.Value.int Go.IntKind.i64 0, Go.Value.int Go.IntKind.i64 0, Go.Value.int Go.IntKind.i64 0] := by kernel_rfl
@[simp] theorem fc_zeroV53 : zeroV Try.prog 53 = Option.some (Go.Value.agg (#[Go.Value.int Go.IntKind.i64 0, Go.Value.int Go.IntKind.i64 0, Go.Value.int Go.IntKind.i64 0, Go.Value.int Go.IntKind.i64 0, Go.Value.int Go.IntKind.i64 0])) := by kernel_rfl
@[simp] theorem fc_aggT53 : aggT Try.prog 53 = Option.some Bool.true := by kernel_rfl
@[simp] theorem fc_sizeT54 : sizeT Try.prog 54 = Option.some 1 := by kernel_rfl
@[simp] theorem fc_infoT54 : infoT Try.prog 54 = Option.some (1, 8, 1) := by kernel_rfl
@[simp] theorem fc_zeroT54 : zeroT Try.prog 54 = Option.some [Go.Value.nilFunc] := by kernel_rfl
@[simp] theorem fc_zeroV54 : zeroV Try.prog 54 = Option.some Go.Value.nilFunc := by kernel_rfl
@[simp] theorem fc_aggT54 : aggT Try.prog 54 = Option.some Bool.false := by kernel_rfl
@[simp] theorem fc_sizeT55 : sizeT Try.prog 55 = Option.some 1 := by kernel_rfl
@[simp] theorem fc_infoT55 : infoT Try.prog 55 = Option.some (1, 8, 1) := by kernel_rfl
@[simp] theorem fc_zeroT55 : zeroT Try.prog 55 = Option.some [Go.Value.nilFunc] := by kernel_rfl
@[simp] theorem fc_zeroV55 : zeroV Try.prog 55 = Option.some Go.Value.nilFunc := by kernel_rfl
@[simp] theorem fc_aggT55 : aggT Try.prog 55 = Option.some Bool.false := by kernel_rfl
@[simp] theorem fc_sizeT56 : sizeT Try.prog 56 = Option.some 1 := by kernel_rfl
@[simp] theorem fc_infoT56 : infoT Try.prog 56 = Option.some (1, 8, 1) := by kernel_rfl
@[simp] theorem fc_zeroT56 : zeroT Try.prog 56 = Option.some [Go.Value.nilFunc] := by kernel_rfl
@[simp] theorem fc_zeroV56 : zeroV Try.prog 56 = Option.some Go.Value.nilFunc := by kernel_rfl
@[simp] theorem fc_aggT56 : aggT Try.prog 56 = Option.some Bool.false := by kernel_rfl
@[simp] theorem fc_sizeT57 : sizeT Try.prog 57 = Option.some 1 := by kernel_rfl
@[simp] theorem fc_infoT57 : infoT Try.prog 57 = Option.some (1, 8, 1) := by kernel_rfl
@[simp] theorem fc_zeroT57 : zeroT Try.prog 57 = Option.some [Go.Value.nilFunc] := by kernel_rfl
@[simp] theorem fc_zeroV57 : zeroV Try.prog 57 = Option.some Go.Value.nilFunc := by kernel_rfl
@[simp] theorem fc_aggT57 : aggT Try.prog 57 = Option.some Bool.false := by kernel_rfl
@[simp] theorem fc_sizeT58 : sizeT Try.prog 58 = Option.some 1 := by kernel_rfl
@[simp] theorem fc_infoT58 : infoT Try.prog 58 = Option.some (1, 24, 1) := by kernel_rfl
@[simp] theorem fc_zeroT58 : zeroT Try.prog 58 = Option.some [Go.Value.slice Option.none 0 0] := by kernel_rfl
@[simp] theorem fc_zeroV58 : zeroV Try.prog 58 = Option.some (Go.Value.slice Option.none 0 0) := by kernel_rfl
@[simp] theorem fc_aggT58 : aggT Try.prog 58 = Option.some Bool.false := by kernel_rfl
@[simp] theorem fc_sizeT59 : sizeT Try.prog 59 = Option.some 1 := by kernel_rfl
@[simp] theorem fc_infoT59 : infoT Try.prog 59 = Option.some (1, 8, 1) := by kernel_rfl
@[simp] theorem fc_zeroT59 : zeroT Try.prog 59 = Option.some [Go.Value.pointer Option.none] := by kernel_rfl
@[simp] theorem fc_zeroV59 : zeroV Try.prog 59 = Option.some (Go.Value.pointer Option.none) := by kernel_rfl
@[simp] theorem fc_aggT59 : aggT Try.prog 59 = Option.some Bool.false := by kernel_rfl
@[simp] theorem fc_sizeT60 : sizeT Try.prog 60 = Option.some 1 := by kernel_rfl
@[simp] theorem fc_infoT60 : infoT Try.prog 60 = Option.some (1, 24, 1) := by kernel_rfl
@[simp] theorem fc_zeroT60 : zeroT Try.prog 60 = Option.some [Go.Value.slice Option.none 0 0] := by kernel_rfl
@[simp] theorem fc_zeroV60 : zeroV Try.prog 60 = Option.some (Go.Value.slice Option.none 0 0) := by kernel_rfl
@[simp] theorem fc_aggT60 : aggT Try.prog 60 = Option.some Bool.false := by kernel_rfl
@[simp] theorem fc_sizeT61 : sizeT Try.prog 61 = Option.some 1 := by kernel_rfl
@[simp] theorem fc_infoT61 : infoT Try.prog 61 = Option.some (1, 24, 1) := by kernel_rfl
@[simp] theorem fc_zeroT61 : zeroT Try.prog 61 = Option.some [Go.Value.slice Option.none 0 0] := by kernel_rfl
@[simp] theorem fc_zeroV61 : zeroV Try.prog 61 = Option.some (Go.Value.agg (#[Go.Value.slice Option.none 0 0])) := by kernel_rfl
@[simp] theorem fc_aggT61 : aggT Try.prog 61 = Option.some Bool.true := by kernel_rfl
@[simp] theorem fc_sizeT62 : sizeT Try.prog 62 = Option.some 1 := by kernel_rfl
@[simp] theorem fc_infoT62 : infoT Try.prog 62 = Option.some (1, 24, 1) := by kernel_rfl
@[simp] theorem fc_zeroT62 : zeroT Try.prog 62 = Option.some [Go.Value.slice Option.none 0 0] := by kernel_rfl
@[simp] theorem fc_zeroV62 : zeroV Try.prog 62 = Option.some (Go.Value.agg (#[Go.Value.slice Option.none 0 0])) := by kernel_rfl
@[simp] theorem fc_aggT62 : aggT Try.prog 62 = Option.some Bool.true := by kernel_rfl
@[simp] theorem fc_sizeT63 : sizeT Try.prog 63 = Option.some 3 := by kernel_rfl
@[simp] theorem fc_infoT63 : infoT Try.prog 63 = Option.some (3, 24, 3) := by kernel_rfl
@[simp] theorem fc_zeroT63 : zeroT Try.prog 63 = Option.some [Go.Value.int Go.IntKind.i64 0, Go.Value.int Go.IntKind.i64 0, Go.Value.int Go.IntKind.i64 0] := by kernel_rfl
@[simp] theorem fc_zeroV63 : zeroV Try.prog 63 = Option.some (Go.Value.agg (#[Go.Value.int Go.IntKind.i64 0, Go.Value.int Go.IntKind.i64 0, Go.Value.int Go.IntKind.i64 0])) := by kernel_rfl
@[simp] theorem fc_aggT63 : aggT Try.prog 63 = Option.some Bool.true := by kernel_rfl
@[simp] theorem fc_sizeT64 : sizeT Try.prog 64 = Option.some 3 := by kernel_rfl
@[simp] theorem fc_infoT64 : infoT Try.prog 64 = Option.some (3, 24, 3) := by kernel_rfl
@[simp] theorem fc_zeroT64 : zeroT Try.prog 64 = Option.some [Go.Value.int Go.IntKind.i64 0, Go.Value.int Go.IntKind.i64 0, Go.Value.int Go.IntKind.i64 0] := by kernel_rfl
@[simp] theorem fc_zeroV64 : zeroV Try.prog 64 = Option.some (Go.Value.agg (#[Go.Value.int Go.IntKind.i64 0, Go.Value.int Go.IntKind.i64 0, Go.Value.int Go.IntKind.i64 0])) := by kernel_rfl
@[simp] theorem fc_aggT64 : aggT Try.prog 64 = Option.some Bool.true := by kernel_rfl
@[simp] theorem fc_sizeT65 : sizeT Try.prog 65 = Option.some 1 := by kernel_rfl
@[simp] theorem fc_infoT65 : infoT Try.prog 65 = Option.some (1, 8, 1) := by kernel_rfl
@[simp] theorem fc_zeroT65 : zeroT Try.prog 65 = Option.some [Go.Value.nilFunc] := by kernel_rfl
@[simp] theorem fc_zeroV65 : zeroV Try.prog 65 = Option.some Go.Value.nilFunc := by kernel_rfl
@[simp] theorem fc_aggT65 : aggT Try.prog 65 = Option.some Bool.false := by kernel_rfl
@[simp] theorem fc_sizeT66 : sizeT Try.prog 66 = Option.some 1 := by kernel_rfl
@[simp] theorem fc_infoT66 : infoT Try.prog 66 = Option.some (1, 8, 1) := by kernel_rfl
@[simp] theorem fc_zeroT66 : zeroT Try.prog 66 = Option.some [Go.Value.nilFunc] := by kernel_rfl
@[simp] theorem fc_zeroV66 : zeroV Try.prog 66 = Option.some Go.Value.nilFunc := by kernel_rfl
@[simp] theorem fc_aggT66 : aggT Try.prog 66 = Option.some Bool.false := by kernel_rfl
@[simp] theorem fc_sizeT67 : sizeT Try.prog 67 = Option.some 1 := by kernel_rfl
@[simp] theorem fc_infoT67 : infoT Try.prog 67 = Option.some (1, 24, 1) := by kernel_rfl
@[simp] theorem fc_zeroT67 : zeroT Try.prog 67 = Option.some [Go.Value.slice Option.none 0 0] := by kernel_rfl
@[simp] theorem fc_zeroV67 : zeroV Try.prog 67 = Option.some (Go.Value.slice Option.none 0 0) := by kernel_rfl
@[simp] theorem fc_aggT67 : aggT Try.prog 67 = Option.some Bool.false := by kernel_rfl
@[simp] theorem fc_sizeT68 : sizeT Try.prog 68 = Option.some 1 := by kernel_rfl
@[simp] theorem fc_infoT68 : infoT Try.prog 68 = Option.some (1, 0, 1) := by kernel_rfl
@[simp] theorem fc_zeroT68 : zeroT Try.prog 68 = Option.some [Go.Value.tuple (#[])] := by kernel_rfl
@[simp] theorem fc_zeroV68 : zeroV Try.prog 68 = Option.some (Go.Value.tuple (#[])) := by kernel_rfl
@[simp] theorem fc_aggT68 : aggT Try.prog 68 = Option.some Bool.false := by kernel_rfl
@[simp] theorem fc_sizeT69 : sizeT Try.prog 69 = Option.some 1 := by kernel_rfl
@[simp] theorem fc_infoT69 : infoT Try.prog 69 = Option.some (1, 8, 1) := by kernel_rfl
@[simp] theorem fc_zeroT69 : zeroT Try.prog 69 = Option.some [Go.Value.nilFunc] := by kernel_rfl
@[simp] theorem fc_zeroV69 : zeroV Try.prog 69 = Option.some Go.Value.nilFunc := by kernel_rfl
@[simp] theorem fc_aggT69 : aggT Try.prog 69 = Option.some Bool.false := by kernel_rfl
@[simp] theorem fc_sizeT70 : sizeT Try.prog 70 = Option.some 5 := by kernel_rfl
@[simp] theorem fc_infoT70 : infoT Try.prog 70 = Option.some (5, 40, 5) := by kernel_rfl
@[simp] theorem fc_zeroT70 : zeroT Try.prog 70 = Option.some [Go.Value.int Go.IntKind.i64 0, Go.Value.int Go.IntKind.i64 0, Go.Value.int Go.IntKind.i64 0, Go.Value.int Go.IntKind.i64 0, Go.Value.int Go.IntKind.i64 0] := by kernel_rfl
@[simp] theorem fc_zeroV70 : zeroV Try.prog 70 = Option.some (Go.Value.agg (#[Go.Value.int Go.IntKind.i64 0, Go.Value.int Go.IntKind.i64 0, Go.Value.int Go.IntKind.i64 0, Go.Value.int Go.IntKind.i64 0, Go.Value.int Go.IntKind.i64 0])) := by kernel_rfl
@[simp] theorem fc_aggT70 : aggT Try.prog 70 = Option.some Bool.true := by kernel_rfl
@[simp] theorem fc_sizeT71 : sizeT Try.prog 71 = Option.some 5 := by kernel_rfl
@[simp] theorem fc_infoT71 : infoT Try.prog 71 = Option.some (5, 40, 5) := by kernel_rfl
@[simp] theorem fc_zeroT71 : zeroT Try.prog 71 = Option.some [Go.Value.int Go.IntKind.i64 0, Go.Value.int Go.IntKind.i64 0, Go.Value.int Go.IntKind.i64 0, Go.Value.int Go.IntKind.i64 0, Go.Value.int Go.IntKind.i64 0] := by kernel_rfl
@[simp] theorem fc_zeroV71 : zeroV Try.prog 71 = Option.some (Go.Value.agg (#[Go.Value.int Go.IntKind.i64 0, Go.Value.int Go.IntKind.i64 0, Go.Value.int Go.IntKind.i64 0, Go.Value.int Go.IntKind.i64 0, Go.Value.int Go.IntKind.i64 0])) := by kernel_rfl
@[simp] theorem fc_aggT71 : aggT Try.prog 71 = Option.some Bool.true := by kernel_rfl
@[simp] theorem fc_sizeT72 : sizeT Try.prog 72 = Option.some 1 := by kernel_rfl
@[simp] theorem fc_infoT72 : infoT Try.prog 72 = Option.some (1, 8, 1) := by kernel_rfl
@[simp] theorem fc_zeroT72 : zeroT Try.prog 72 = Option.some [Go.Value.nilFunc] := by kernel_rfl
@[simp] theorem fc_zeroV72 : zeroV Try.prog 72 = Option.some Go.Value.nilFunc := by kernel_rfl
@[simp] theorem fc_aggT72 : aggT Try.prog 72 = Option.some Bool.false := by kernel_rfl
@[simp] theorem fc_sizeT73 : sizeT Try.prog 73 = Option.some 4 := by kernel_rfl
@[simp] theorem fc_infoT73 : infoT Try.prog 73 = Option.some (4, 32, 4) := by kernel_rfl
@[simp] theorem fc_zeroT73 : zeroT Try.prog 73 = Option.some [Go.Value.int Go.IntKind.i64 0, Go.Value.int Go.IntKind.i64 0, Go.Value.int Go.IntKind.i64 0, Go.Value.int Go.IntKind.i64 0] := by kernel_rfl
@[simp] theorem fc_zeroV73 : zeroV Try.prog 73 = Option.some (Go.Value.agg (#[Go.Value.int Go.IntKind.i64 0, Go.Value.int Go.IntKind.i64 0, Go.Value.int Go.IntKind.i64 0, Go.Value.int Go.IntKind.i64 0])) := by kernel_rfl
@[simp] theorem fc_aggT73 : aggT Try.prog 73 = Option.some Bool.true := by kernel_rfl
@[simp] theorem fc_sizeT74 : sizeT Try.prog 74 = Option.some 4 := by kernel_rfl
@[simp] theorem fc_infoT74 : infoT Try.prog 74 = Option.some (4, 32, 4) := by kernel_rfl
@[simp] theorem fc_zeroT74 : zeroT Try.prog 74 = Option.some [Go.Value.int Go.IntKind.i64 0, Go.Value.int Go.IntKind.i64 0, Go.Value.int Go.IntKind.i64 0, Go.Value.int Go.IntKind.i64 0] := by kernel_rfl
@[simp] theorem fc_zeroV74 : zeroV Try.prog 74 = Option.some (Go.Value.agg (#[Go.Value.int Go.IntKind.i64 0, Go.Value.int Go.IntKind.i64 0, Go.Value.int Go.IntKind.i64 0, Go.Value.int Go.IntKind.i64 0])) := by kernel_rfl
@[simp] theorem fc_aggT74 : aggT Try.prog 74 = Option.some Bool.true := by kernel_rfl
@[simp] theorem fc_sizeT75 : sizeT Try.prog 75 = Option.some 1 := by kernel_rfl
@[simp] theorem fc_infoT75 : infoT Try.prog 75 = Option.some (1, 0, 1) := by kernel_rfl
@[simp] theorem fc_zeroT75 : zeroT Try.prog 75 = Option.some [Go.Value.tuple (#[])] := by kernel_rfl
@[simp] theorem fc_zeroV75 : zeroV Try.prog 75 = Option.some (Go.Value.tuple (#[])) := by kernel_rfl
@[simp] theorem fc_aggT75 : aggT Try.prog 75 = Option.some Bool.false := by kernel_rfl
@[simp] theorem fc_sizeT76 : sizeT Try.prog 76 = Option.some 1 := by kernel_rfl
@[simp] theorem fc_infoT76 : infoT Try.prog 76 = Option.some (1, 8, 1) := by kernel_rfl
@[simp] theorem fc_zeroT76 : zeroT Try.prog 76 = Option.some [Go.Value.nilFunc] := by kernel_rfl
@[simp] theorem fc_zeroV76 : zeroV Try.prog 76 = Option.some Go.Value.nilFunc := by kernel_rfl
@[simp] theorem fc_aggT76 : aggT Try.prog 76 = Option.some Bool.false := by kernel_rfl
@[simp] theorem fc_sizeT77 : sizeT Try.prog 77 = Option.some 1 := by kernel_rfl
@[simp] theorem fc_infoT77 : infoT Try.prog 77 = Option.some (1, 8, 1) := by kernel_rfl
@[simp] theorem fc_zeroT77 : zeroT Try.prog 77 = Option.some [Go.Value.nilFunc] := by kernel_rfl
@[simp] theorem fc_zeroV77 : zeroV Try.prog 77 = Option.some Go.Value.nilFunc := by kernel_rfl
@[simp] theorem fc_aggT77 : aggT Try.prog 77 = Option.some Bool.false := by kernel_rfl
@[simp] theorem fc_sizeT78 : sizeT Try.prog 78 = Option.some 1 := by kernel_rfl
@[simp] theorem fc_infoT78 : infoT Try.prog 78 = Option.some (1, 8, 1) := by kernel_rfl
@[simp] theorem fc_zeroT78 : zeroT Try.prog 78 = Option.some [Go.Value.nilFunc] := by kernel_rfl
@[simp] theorem fc_zeroV78 : zeroV Try.prog 78 = Option.some Go.Value.nilFunc := by kernel_rfl
@[simp] theorem fc_aggT78 : aggT Try.prog 78 = Option.some Bool.false := by kernel_rfl
@[simp] theorem fc_sizeT79 : sizeT Try.prog 79 = Option.some 1 := by kernel_rfl
@[simp] theorem fc_infoT79 : infoT Try.prog 79 = Option.some (1, 24, 1) := by kernel_rfl
@[simp] theorem fc_zeroT79 : zeroT Try.prog 79 = Option.some [Go.Value.slice Option.none 0 0] := by kernel_rfl
@[simp] theorem fc_zeroV79 : zeroV Try.prog 79 = Option.some (Go.Value.slice Option.none 0 0) := by kernel_rfl
@[simp] theorem fc_aggT79 : aggT Try.prog 79 = Option.some Bool.false := by kernel_rfl
@[simp] theorem fc_sizeT80 : sizeT Try.prog 80 = Option.some 1 := by kernel_rfl
@[simp] theorem fc_infoT80 : infoT Try.prog 80 = Option.some (1, 0, 1) := by kernel_rfl
@[simp] theorem fc_zeroT80 : zeroT Try.prog 80 = Option.some [Go.Value.tuple (#[])] := by kernel_rfl
@[simp] theorem fc_zeroV80 : zeroV Try.prog 80 = Option.some (Go.Value.tuple (#[])) := by kernel_rfl
@[simp] theorem fc_aggT80 : aggT Try.prog 80 = Option.some Bool.false := by kernel_rfl
@[simp] theorem fc_sizeT81 : sizeT Try.prog 81 = Option.some 1 := by kernel_rfl
@[simp] theorem fc_infoT81 : infoT Try.prog 81 = Option.some (1, 8, 1) := by kernel_rfl
@[simp] theorem fc_zeroT81 : zeroT Try.prog 81 = Option.some [Go.Value.nilFunc] := by kernel_rfl
@[simp] theorem fc_zeroV81 : zeroV Try.prog 81 = Option.some Go.Value.nilFunc := by kernel_rfl
@[simp] theorem fc_aggT81 : aggT Try.prog 81 = Option.some Bool.false := by kernel_rfl
@[simp] theorem fc_sizeT82 : sizeT Try.prog 82 = Option.some 1 := by kernel_rfl
@[simp] theorem fc_infoT82 : infoT Try.prog 82 = Option.some (1, 8, 1) := by kernel_rfl
@[simp] theorem fc_zeroT82 : zeroT Try.prog 82 = Option.some [Go.Value.nilFunc] := by kernel_rfl
@[simp] theorem fc_zeroV82 : zeroV Try.prog 82 = Option.some Go.Value.nilFunc := by kernel_rfl
@[simp] theorem fc_aggT82 : aggT Try.prog 82 = Option.some Bool.false := by kernel_rfl
@[simp] theorem fc_sizeT83 : sizeT Try.prog 83 = Option.some 1 := by kernel_rfl
@[simp] theorem fc_infoT83 : infoT Try.prog 83 = Option.some (1, 8, 1) := by kernel_rfl
@[simp] theorem fc_zeroT83 : zeroT Try.prog 83 = Option.some [Go.Value.map Option.none] := by kernel_rfl
@[simp] theorem fc_zeroV83 : zeroV Try.prog 83 = Option.some (Go.Value.map Option.none) := by kernel_rfl
@[simp] theorem fc_aggT83 : aggT Try.prog 83 = Option.some Bool.false := by kernel_rfl
@[simp] theorem fc_sizeT84 : sizeT Try.prog 84 = Option.some 2 := by kernel_rfl
@[simp] theorem fc_infoT84 : infoT Try.prog 84 = Option.some (2, 16, 2) := by kernel_rfl
@[simp] theorem fc_zeroT84 : zeroT Try.prog 84 = Option.some [Go.Value.int Go.IntKind.i64 0, Go.Value.map Option.none] := by kernel_rfl
@[simp] theorem fc_zeroV84 : zeroV Try.prog 84 = Option.some (Go.Value.agg (#[Go.Value.int Go.IntKind.i64 0, Go.Value.map Option.none])) := by kernel_rfl
@[simp] theorem fc_aggT84 : aggT Try.prog 84 = Option.some Bool.true := by kernel_rfl
@[simp] theorem fc_sizeT85 : sizeT Try.prog 85 = Option.some 2 := by kernel_rfl
@[simp] theorem fc_infoT85 : infoT Try.prog 85 = Option.some (2, 16, 2) := by kernel_rfl
@[simp] theorem fc_zeroT85 : zeroT Try.prog 85 = Option.some [Go.Value.int Go.IntKind.i64 0, Go.Value.map Option.none] := by kernel_rfl
@[simp] theorem fc_zeroV85 : zeroV Try.prog 85 = Option.some (Go.Value.agg (#[Go.Value.int Go.IntKind.i64 0, Go.Value.map Option.none])) := by kernel_rfl
@[simp] theorem fc_aggT85 : aggT Try.prog 85 = Option.some Bool.true := by kernel_rfl
@[simp] theorem fc_sizeT86 : sizeT Try.prog 86 = Option.some 1 := by kernel_rfl
@[simp] theorem fc_infoT86 : infoT Try.prog 86 = Option.some (1, 8, 1) := by kernel_rfl
@[simp] theorem fc_zeroT86 : zeroT Try.prog 86 = Option.some [Go.Value.nilFunc] := by kernel_rfl
@[simp] theorem fc_zeroV86 : zeroV Try.prog 86 = Option.some Go.Value.nilFunc := by kernel_rfl
@[simp] theorem fc_aggT86 : aggT Try.prog 86 = Option.some Bool.false := by kernel_rfl
@[simp] theorem fc_sizeT87 : sizeT Try.prog 87 = Option.some 1 := by kernel_rfl
@[simp] theorem fc_infoT87 : infoT Try.prog 87 = Option.some (1, 8, 1) := by kernel_rfl
@[simp] theorem fc_zeroT87 : zeroT Try.prog 87 = Option.some [Go.Value.nilFunc] := by kernel_rfl
@[simp] theorem fc_zeroV87 : zeroV Try.prog 87 = Option.some Go.Value.nilFunc := by kernel_rfl
@[simp] theorem fc_aggT87 : aggT Try.prog 87 = Option.some Bool.false := by kernel_rfl
@[simp] theorem fc_sizeT88 : sizeT Try.prog 88 = Option.some 1 := by kernel_rfl
@[simp] theorem fc_infoT88 : infoT Try.prog 88 = Option.some (1, 8, 1) := by kernel_rfl
@[simp] theorem fc_zeroT88 : zeroT Try.prog 88 = Option.some [Go.Value.nilFunc] := by kernel_rfl
@[simp] theorem fc_zeroV88 : zeroV Try.prog 88 = Option.some Go.Value.nilFunc := by kernel_rfl
@[simp] theorem fc_aggT88 : aggT Try.prog 88 = Option.some Bool.false := by kernel_rfl
@[simp] theorem fc_sizeT89 : sizeT Try.prog 89 = Option.some 1 := by kernel_rfl
@[simp] theorem fc_infoT89 : infoT Try.prog 89 = Option.some (1, 24, 1) := by kernel_rfl
@[simp] theorem fc_zeroT89 : zeroT Try.prog 89 = Option.some [Go.Value.slice Option.none 0 0] := by kernel_rfl
@[simp] theorem fc_zeroV89 : zeroV Try.prog 89 = Option.some (Go.Value.slice Option.none 0 0) := by kernel_rfl
@[simp] theorem fc_aggT89 : aggT Try.prog 89 = Option.some Bool.false := by kernel_rfl
@[simp] theorem fc_sizeT90 : sizeT Try.prog 90 = Option.some 2 := by kernel_rfl
@[simp] theorem fc_infoT90 : infoT Try.prog 90 = Option.some (2, 32, 2) := by kernel_rfl
@[simp] theorem fc_zeroT90 : zeroT Try.prog 90 = Option.some [Go.Value.slice Option.none 0 0, Go.Value.map Option.none] := by kernel_rfl
@[simp] theorem fc_zeroV90 : zeroV Try.prog 90 = Option.some (Go.Value.agg (#[Go.Value.slice Option.none 0 0, Go.Value.map Option.none])) := by kernel_rfl
@[simp] theorem fc_aggT90 : aggT Try.prog 90 = Option.some Bool.true := by kernel_rfl
@[simp] theorem fc_sizeT91 : sizeT Try.prog 91 = Option.some 2 := by kernel_rfl
@[simp] theorem fc_infoT91 : infoT Try.prog 91 = Option.some (2, 32, 2) := by kernel_rfl
@[simp] theorem fc_zeroT91 : zeroT Try.prog 91 = Option.some [Go.Value.slice Option.none 0 0, Go.Value.map Option.none] := by kernel_rfl
@[simp] theorem fc_zeroV91 : zeroV Try.prog 91 = Option.some (Go.Value.agg (#[Go.Value.slice Option.none 0 0, Go.Value.map Option.none])) := by kernel_rfl
@[simp] theorem fc_aggT91 : aggT Try.prog 91 = Option.some Bool.true := by kernel_rfl
@[simp] theorem fc_sizeT92 : sizeT Try.prog 92 = Option.some 2 := by kernel_rfl
@[simp] theorem fc_infoT92 : infoT Try.prog 92 = Option.some (2, 16, 2) := by kernel_rfl
@[simp] theorem fc_zeroT92 : zeroT Try.prog 92 = Option.some [Go.Value.int Go.IntKind.i64 0, Go.Value.int Go.IntKind.i64 0] := by kernel_rfl
@[simp] theorem fc_zeroV92 : zeroV Try.prog 92 = Option.some (Go.Value.agg (#[Go.Value.int Go.IntKind.i64 0, Go.Value.int Go.IntKind.i64 0])) := by kernel_rfl
@[simp] theorem fc_aggT92 : aggT Try.prog 92 = Option.some Bool.true := by kernel_rfl
@[simp] theorem fc_sizeT93 : sizeT Try.prog 93 = Option.some 2 := by kernel_rfl
@[simp] theorem fc_infoT93 : infoT Try.prog 93 = Option.some (2, 16, 2) := by kernel_rfl
@[simp] theorem fc_zeroT93 : zeroT Try.prog 93 = Option.some [Go.Value.int Go.IntKind.i64 0, Go.Value.int Go.IntKind.i64 0] := by kernel_rfl
@[simp] theorem fc_zeroV93 : zeroV Try.prog 93 = Option.some (Go.Value.agg (#[Go.Value.int Go.IntKind.i64 0, Go.Value.int Go.IntKind.i64 0])) := by kernel_rfl
@[simp] theorem fc_aggT93 : aggT Try.prog 93 = Option.some Bool.true := by kernel_rfl
@[simp] theorem fc_sizeT94 : sizeT Try.prog 94 = Option.some 1 := by kernel_rfl
@[simp] theorem fc_infoT94 : infoT Try.prog 94 = Option.some (1, 8, 1) := by kernel_rfl
@[simp] theorem fc_zeroT94 : zeroT Try.prog 94 = Option.some [Go.Value.nilFunc] := by kernel_rfl
@[simp] theorem fc_zeroV94 : zeroV Try.prog 94 = Option.some Go.Value.nilFunc := by kernel_rfl
@[simp] theorem fc_aggT94 : aggT Try.prog 94 = Option.some Bool.false := by kernel_rfl
@[simp] theorem fc_sizeT95 : sizeT Try.prog 95 = Option.some 1 := by kernel_rfl
@[simp] theorem fc_infoT95 : infoT Try.prog 95 = Option.some (1, 8, 1) := by kernel_rfl
@[simp] theorem fc_zeroT95 : zeroT Try.prog 95 = Option.some [Go.Value.nilFunc] := by kernel_rfl
@[simp] theorem fc_zeroV95 : zeroV Try.prog 95 = Option.some Go.Value.nilFunc := by kernel_rfl
@[simp] theorem fc_aggT95 : aggT Try.prog 95 = Option.some Bool.false := by kernel_rfl
@[simp] theorem fc_sizeT96 : sizeT Try.prog 96 = Option.some 1 := by kernel_rfl
@[simp] theorem fc_infoT96 : infoT Try.prog 96 = Option.some (1, 8, 1) := by kernel_rfl
@[simp] theorem fc_zeroT96 : zeroT Try.prog 96 = Option.some [Go.Value.nilFunc] := by kernel_rfl
@[simp] theorem fc_zeroV96 : zeroV Try.prog 96 = Option.some Go.Value.nilFunc := by kernel_rfl
@[simp] theorem fc_aggT96 : aggT Try.prog 96 = Option.some Bool.false := by kernel_rfl
@[simp] theorem fc_sizeT97 : sizeT Try.prog 97 = Option.some 1 := by kernel_rfl
@[simp] theorem fc_infoT97 : infoT Try.prog 97 = Option.some (1, 8, 1) := by kernel_rfl
@[simp] theorem fc_zeroT97 : zeroT Try.prog 97 = Option.some [Go.Value.nilFunc] := by kernel_rfl
@[simp] theorem fc_zeroV97 : zeroV Try.prog 97 = Option.some Go.Value.nilFunc := by kernel_rfl
@[simp] theorem fc_aggT97 : aggT Try.prog 97 = Option.some Bool.false := by kernel_rfl
@[simp] theorem fc_sizeT98 : sizeT Try.prog 98 = Option.some 1 := by kernel_rfl
@[simp] theorem fc_infoT98 : infoT Try.prog 98 = Option.some (1, 8, 1) := by kernel_rfl
@[simp] theorem fc_zeroT98 : zeroT Try.prog 98 = Option.some [Go.Value.nilFunc] := by kernel_rfl
@[simp] theorem fc_zeroV98 : zeroV Try.prog 98 = Option.some Go.Value.nilFunc := by kernel_rfl
@[simp] theorem fc_aggT98 : aggT Try.prog 98 = Option.some Bool.false := by kernel_rfl
@[simp] theorem fc_sizeT99 : sizeT Try.prog 99 = Option.some 1 := by kernel_rfl
@[simp] theorem fc_infoT99 : infoT Try.prog 99 = Option.some (1, 8, 1) := by kernel_rfl
@[simp] theorem fc_zeroT99 : zeroT Try.prog 99 = Option.some [Go.Value.nilFunc] := by kernel_rfl
@[simp] theorem fc_zeroV99 : zeroV Try.prog 99 = Option.some Go.Value.nilFunc := by kernel_rfl
@[simp] theorem fc_aggT99 : aggT Try.prog 99 = Option.some Bool.false := by kernel_rfl
@[simp] theorem fc_sizeT100 : sizeT Try.prog 100 = Option.some 1 := by kernel_rfl
@[simp] theorem fc_infoT100 : infoT Try.prog 100 = Option.some (1, 8, 1) := by kernel_rfl
@[simp] theorem fc_zeroT100 : zeroT Try.prog 100 = Option.some [Go.Value.nilFunc] := by kernel_rfl
@[simp] theorem fc_zeroV100 : zeroV Try.prog 100 = Option.some Go.Value.nilFunc := by kernel_rfl
@[simp] theorem fc_aggT100 : aggT Try.prog 100 = Option.some Bool.false := by kernel_rfl
@[simp] theorem fc_sizeT101 : sizeT Try.prog 101 = Option.some 1 := by kernel_rfl
@[simp] theorem fc_infoT101 : infoT Try.prog 101 = Option.some (1, 0, 1) := by kernel_rfl
@[simp] theorem fc_zeroT101 : zeroT Try.prog 101 = Option.some [Go.Value.tuple (#[])] := by kernel_rfl
@[simp] theorem fc_zeroV101 : zeroV Try.prog 101 = Option.some (Go.Value.tuple (#[])) := by kernel_rfl
@[simp] theorem fc_aggT101 : aggT Try.prog 101 = Option.some Bool.false := by kernel_rfl
@[simp] theorem fc_sizeT102 : sizeT Try.prog 102 = Option.some 1 := by kernel_rfl
@[simp] theorem fc_infoT102 : infoT Try.prog 102 = Option.some (1, 8, 1) := by kernel_rfl
@[simp] theorem fc_zeroT102 : zeroT Try.prog 102 = Option.some [Go.Value.nilFunc] := by kernel_rfl
@[simp] theorem fc_zeroV102 : zeroV Try.prog 102 = Option.some Go.Value.nilFunc := by kernel_rfl
@[simp] theorem fc_aggT102 : aggT Try.prog 102 = Option.some Bool.false := by kernel_rfl
@[simp] theorem fc_sizeT103 : sizeT Try.prog 103 = Option.some 1 := by kernel_rfl
@[simp] theorem fc_infoT103 : infoT Try.prog 103 = Option.some (1, 8, 1) := by kernel_rfl
@[simp] theorem fc_zeroT103 : zeroT Try.prog 103 = Option.some [Go.Value.nilFunc] := by kernel_rfl
@[simp] theorem fc_zeroV103 : zeroV Try.prog 103 = Option.some Go.Value.nilFunc := by kernel_rfl
@[simp] theorem fc_aggT103 : aggT Try.prog 103 = Option.some Bool.false := by kernel_rfl
@[simp] theorem fc_sizeT104 : sizeT Try.prog 104 = Option.some 1 := by kernel_rfl
@[simp] theorem fc_infoT104 : infoT Try.prog 104 = Option.some (1, 8, 1) := by kernel_rfl
@[simp] theorem fc_zeroT104 : zeroT Try.prog 104 = Option.some [Go.Value.pointer Option.none] := by kernel_rfl
@[simp] theorem fc_zeroV104 : zeroV Try.prog 104 = Option.some (Go.Value.pointer Option.none) := by kernel_rfl
@[simp] theorem fc_aggT104 : aggT Try.prog 104 = Option.some Bool.false := by kernel_rfl
@[simp] theorem fc_sizeT105 : sizeT Try.prog 105 = Option.some 1 := by kernel_rfl
@[simp] theorem fc_infoT105 : infoT Try.prog 105 = Option.some (1, 8, 1) := by kernel_rfl
@[simp] theorem fc_zeroT105 : zeroT Try.prog 105 = Option.some [Go.Value.nilFunc] := by kernel_rfl
@[simp] theorem fc_zeroV105 : zeroV Try.prog 105 = Option.some Go.Value.nilFunc := by kernel_rfl
@[simp] theorem fc_aggT105 : aggT Try.prog 105 = Option.some Bool.false := by kernel_rfl
@[simp] theorem fc_sizeT106 : sizeT Try.prog 106 = Option.some 1 := by kernel_rfl
@[simp] theorem fc_infoT106 : infoT Try.prog 106 = Option.some (1, 8, 1) := by kernel_rfl
@[simp] theorem fc_zeroT106 : zeroT Try.prog 106 = Option.some [Go.Value.nilFunc] := by kernel_rfl
@[simp] theorem fc_zeroV106 : zeroV Try.prog 106 = Option.some Go.Value.nilFunc := by kernel_rfl
@[simp] theorem fc_aggT106 : aggT Try.prog 106 = Option.some Bool.false := by kernel_rfl
@[simp] theorem fc_sizeT107 : sizeT Try.prog 107 = Option.some 1 := by kernel_rfl
@[simp] theorem fc_infoT107 : infoT Try.prog 107 = Option.some (1, 8, 1) := by kernel_rfl
@[simp] theorem fc_zeroT107 : zeroT Try.prog 107 = Option.some [Go.Value.pointer Option.none] := by kernel_rfl
@[simp] theorem fc_zeroV107 : zeroV Try.prog 107 = Option.some (Go.Value.pointer Option.none) := by kernel_rfl
@[simp] theorem fc_aggT107 : aggT Try.prog 107 = Option.some Bool.false := by kernel_rfl
@[simp] theorem fc_sizeT108 : sizeT Try.prog 108 = Option.some 1 := by kernel_rfl
@[simp] theorem fc_infoT108 : infoT Try.prog 108 = Option.some (1, 8, 1) := by kernel_rfl
@[simp] theorem fc_zeroT108 : zeroT Try.prog 108 = Option.some [Go.Value.nilFunc] := by kernel_rfl
@[simp] theorem fc_zeroV108 : zeroV Try.prog 108 = Option.some Go.Value.nilFunc := by kernel_rfl
@[simp] theorem fc_aggT108 : aggT Try.prog 108 = Option.some Bool.false := by kernel_rfl
@[simp] theorem fc_sizeT109 : sizeT Try.prog 109 = Option.some 1 := by kernel_rfl
@[simp] theorem fc_infoT109 : infoT Try.prog 109 = Option.some (1, 8, 1) := by kernel_rfl
@[simp] theorem fc_zeroT109 : zeroT Try.prog 109 = Option.some [Go.Value.nilFunc] := by kernel_rfl
@[simp] theorem fc_zeroV109 : zeroV Try.prog 109 = Option.some Go.Value.nilFunc := by kernel_rfl
@[simp] theorem fc_aggT109 : aggT Try.prog 109 = Option.some Bool.false := by kernel_rfl
@[simp] theorem fc_sizeT110 : sizeT Try.prog 110 = Option.some 1 := by kernel_rfl
@[simp] theorem fc_infoT110 : infoT Try.prog 110 = Option.some (1, 8, 1) := by kernel_rfl
@[simp] theorem fc_zeroT110 : zeroT Try.prog 110 = Option.some [Go.Value.nilFunc] := by kernel_rfl
@[simp] theorem fc_zeroV110 : zeroV Try.prog 110 = Option.some Go.Value.nilFunc := by kernel_rfl
@[simp] theorem fc_aggT110 : aggT Try.prog 110 = Option.some Bool.false := by kernel_rfl
@[simp] theorem fc_sizeT111 : sizeT Try.prog 111 = Option.some 1 := by kernel_rfl
@[simp] theorem fc_infoT111 : infoT Try.prog 111 = Option.some (1, 8, 1) := by kernel_rfl
@[simp] theorem fc_zeroT111 : zeroT Try.prog 111 = Option.some [Go.Value.nilFunc] := by kernel_rfl
@[simp] theorem fc_zeroV111 : zeroV Try.prog 111 = Option.some Go.Value.nilFunc := by kernel_rfl
@[simp] theorem fc_aggT111 : aggT Try.prog 111 = Option.some Bool.false := by kernel_rfl
@[simp] theorem fc_sizeT112 : sizeT Try.prog 112 = Option.some 2 := by kernel_rfl
@[simp] theorem fc_infoT112 : infoT Try.prog 112 = Option.some (2, 16, 2) := by kernel_rfl
@[simp] theorem fc_zeroT112 : zeroT Try.prog 112 = Option.some [Go.Value.int Go.IntKind.i64 0, Go.Value.int Go.IntKind.i64 0] := by kernel_rfl
@[simp] theorem fc_zeroV112 : zeroV Try.prog 112 = Option.some (Go.Value.agg (#[Go.Value.int Go.IntKind.i64 0, Go.Value.int Go.IntKind.i64 0])) := by kernel_rfl
@[simp] theorem fc_aggT112 : aggT Try.prog 112 = Option.some Bool.true := by kernel_rfl
@[simp] theorem fc_sizeT113 : sizeT Try.prog 113 = Option.some 2 := by kernel_rfl
@[simp] theorem fc_infoT113 : infoT Try.prog 113 = Option.some (2, 16, 2) := by kernel_rfl
@[simp] theorem fc_zeroT113 : zeroT Try.prog 113 = Option.some [Go.Value.int Go.IntKind.i64 0, Go.Value.int Go.IntKind.i64 0] := by kernel_rfl
@[simp] theorem fc_zeroV113 : zeroV Try.prog 113 = Option.some (Go.Value.agg (#[Go.Value.int Go.IntKind.i64 0, Go.Value.int Go.IntKind.i64 0])) := by kernel_rfl
@[simp] theorem fc_aggT113 : aggT Try.prog 113 = Option.some Bool.true := by kernel_rfl
@[simp] theorem fc_sizeT114 : sizeT Try.prog 114 = Option.some 1 := by kernel_rfl
@[simp] theorem fc_infoT114 : infoT Try.prog 114 = Option.some (1, 0, 1) := by kernel_rfl
@[simp] theorem fc_zeroT114 : zeroT Try.prog 114 = Option.some [Go.Value.tuple (#[])] := by kernel_rfl
@[simp] theorem fc_zeroV114 : zeroV Try.prog 114 = Option.some (Go.Value.tuple (#[])) := by kernel_rfl
@[simp] theorem fc_aggT114 : aggT Try.prog 114 = Option.some Bool.false := by kernel_rfl
@[simp] theorem fc_sizeT115 : sizeT Try.prog 115 = Option.some 1 := by kernel_rfl
@[simp] theorem fc_infoT115 : infoT Try.prog 115 = Option.some (1, 8, 1) := by kernel_rfl
@[simp] theorem fc_zeroT115 : zeroT Try.prog 115 = Option.some [Go.Value.nilFunc] := by kernel_rfl
@[simp] theorem fc_zeroV115 : zeroV Try.prog 115 = Option.some Go.Value.nilFunc := by kernel_rfl
@[simp] theorem fc_aggT115 : aggT Try.prog 115 = Option.some Bool.false := by kernel_rfl
@[simp] theorem fc_sizeT116 : sizeT Try.prog 116 = Option.some 2 := by kernel_rfl
@[simp] theorem fc_infoT116 : infoT Try.prog 116 = Option.some (2, 16, 2) := by kernel_rfl
@[simp] theorem fc_zeroT116 : zeroT Try.prog 116 = Option.some [Go.Value.int Go.IntKind.i64 0, Go.Value.int Go.IntKind.i64 0] := by kernel_rfl
@[simp] theorem fc_zeroV116 : zeroV Try.prog 116 = Option.some (Go.Value.agg (#[Go.Value.int Go.IntKind.i64 0, Go.Value.int Go.IntKind.i64 0])) := by kernel_rfl
@[simp] theorem fc_aggT116 : aggT Try.prog 116 = Option.some Bool.true := by kernel_rfl
@[simp] theorem fc_sizeT117 : sizeT Try.prog 117 = Option.some 2 := by kernel_rfl
@[simp] theorem fc_infoT117 : infoT Try.prog 117 = Option.some (2, 16, 2) := by kernel_rfl
@[simp] theorem fc_zeroT117 : zeroT Try.prog 117 = Option.some [Go.Value.int Go.IntKind.i64 0, Go.Value.int Go.IntKind.i64 0] := by kernel_rfl
@[simp] theorem fc_zeroV117 : zeroV Try.prog 117 = Option.some (Go.Value.agg (#[Go.Value.int Go.IntKind.i64 0, Go.Value.int Go.IntKind.i64 0])) := by kernel_rfl
@[simp] theorem fc_aggT117 : aggT Try.prog 117 = Option.some Bool.true := by kernel_rfl
@[simp] theorem fc_sizeT118 : sizeT Try.prog 118 = Option.some 1 := by kernel_rfl
@[simp] theorem fc_infoT118 : infoT Try.prog 118 = Option.some (1, 8, 1) := by kernel_rfl
@[simp] theorem fc_zeroT118 : zeroT Try.prog 118 = Option.some [Go.Value.nilFunc] := by kernel_rfl
@[simp] theorem fc_zeroV118 : zeroV Try.prog 118 = Option.some Go.Value.nilFunc := by kernel_rfl
@[simp] theorem fc_aggT118 : aggT Try.prog 118 = Option.some Bool.false := by kernel_rfl
@[simp] theorem fc_sizeT119 : sizeT Try.prog 119 = Option.some 1 := by kernel_rfl
@[simp] theorem fc_infoT119 : infoT Try.prog 119 = Option.some (1, 8, 1) := by kernel_rfl
@[simp] theorem fc_zeroT119 : zeroT Try.prog 119 = Option.some [Go.Value.nilFunc] := by kernel_rfl
@[simp] theorem fc_zeroV119 : zeroV Try.prog 119 = Option.some Go.Value.nilFunc := by kernel_rfl
@[simp] theorem fc_aggT119 : aggT Try.prog 119 = Option.some Bool.false := by kernel_rfl
@[simp] theorem fc_sizeT120 : sizeT Try.prog 120 = Option.some 1 := by kernel_rfl
@[simp] theorem fc_infoT120 : infoT Try.prog 120 = Option.some (1, 8, 1) := by kernel_rfl
@[simp] theorem fc_zeroT120 : zeroT Try.prog 120 = Option.some [Go.Value.nilFunc] := by kernel_rfl
@[simp] theorem fc_zeroV120 : zeroV Try.prog 120 = Option.some Go.Value.nilFunc := by kernel_rfl
@[simp] theorem fc_aggT120 : aggT Try.prog 120 = Option.some Bool.false := by kernel_rfl
@[simp] theorem fc_sizeT121 : sizeT Try.prog 121 = Option.some 1 := by kernel_rfl
@[simp] theorem fc_infoT121 : infoT Try.prog 121 = Option.some (1, 8, 1) := by kernel_rfl
@[simp] theorem fc_zeroT121 : zeroT Try.prog 121 = Option.some [Go.Value.nilFunc] := by kernel_rfl
@[simp] theorem fc_zeroV121 : zeroV Try.prog 121 = Option.some Go.Value.nilFunc := by kernel_rfl
@[simp] theorem fc_aggT121 : aggT Try.prog 121 = Option.some Bool.false := by kernel_rfl
@[simp] theorem fc_sizeT122 : sizeT Try.prog 122 = Option.some 1 := by kernel_rfl
@[simp] theorem fc_infoT122 : infoT Try.prog 122 = Option.some (1, 8, 1) := by kernel_rfl
@[simp] theorem fc_zeroT122 : zeroT Try.prog 122 = Option.some [Go.Value.nilFunc] := by kernel_rfl
@[simp] theorem fc_zeroV122 : zeroV Try.prog 122 = Option.some Go.Value.nilFunc := by kernel_rfl
@[simp] theorem fc_aggT122 : aggT Try.prog 122 = Option.some Bool.false := by kernel_rfl
@[simp] theorem fc_sizeT123 : sizeT Try.prog 123 = Option.some 1 := by kernel_rfl
@[simp] theorem fc_infoT123 : infoT Try.prog 123 = Option.some (1, 8, 1) := by kernel_rfl
@[simp] theorem fc_zeroT123 : zeroT Try.prog 123 = Option.some [Go.Value.nilFunc] := by kernel_rfl
@[simp] theorem fc_zeroV123 : zeroV Try.prog 123 = Option.some Go.Value.nilFunc := by kernel_rfl
@[simp] theorem fc_aggT123 : aggT Try.prog 123 = Option.some Bool.false := by kernel_rfl
@[simp] theorem fc_sizeT124 : sizeT Try.prog 124 = Option.some 1 := by kernel_rfl
@[simp] theorem fc_infoT124 : infoT Try.prog 124 = Option.some (1, 8, 1) := by kernel_rfl
@[simp] theorem fc_zeroT124 : zeroT Try.prog 124 = Option.some [Go.Value.nilFunc] := by kernel_rfl
@[simp] theorem fc_zeroV124 : zeroV Try.prog 124 = Option.some Go.Value.nilFunc := by kernel_rfl
@[simp] theorem fc_aggT124 : aggT Try.prog 124 = Option.some Bool.false := by kernel_rfl
@[simp] theorem fc_sizeT125 : sizeT Try.prog 125 = Option.some 1 := by kernel_rfl
@[simp] theorem fc_infoT125 : infoT Try.prog 125 = Option.some (1, 8, 1) := by kernel_rfl
@[simp] theorem fc_zeroT125 : zeroT Try.prog 125 = Option.some [Go.Value.nilFunc] := by kernel_rfl
@[simp] theorem fc_zeroV125 : zeroV Try.prog 125 = Option.some Go.Value.nilFunc := by kernel_rfl
@[simp] theorem fc_aggT125 : aggT Try.prog 125 = Option.some Bool.false := by kernel_rfl
@[simp] theorem fc_sizeT126 : sizeT Try.prog 126 = Option.some 1 := by kernel_rfl
@[simp] theorem fc_infoT126 : infoT Try.prog 126 = Option.some (1, 8, 1) := by kernel_rfl
@[simp] theorem fc_zeroT126 : zeroT Try.prog 126 = Option.some [Go.Value.nilFunc] := by kernel_rfl
@[simp] theorem fc_zeroV126 : zeroV Try.prog 126 = Option.some Go.Value.nilFunc := by kernel_rfl
@[simp] theorem fc_aggT126 : aggT Try.prog 126 = Option.some Bool.false := by kernel_rfl
@[simp] theorem fc_sizeT127 : sizeT Try.prog 127 = Option.some 1 := by kernel_rfl
@[simp] theorem fc_infoT127 : infoT Try.prog 127 = Option.some (1, 8, 1) := by kernel_rfl
@[simp] theorem fc_zeroT127 : zeroT Try.prog 127 = Option.some [Go.Value.nilFunc] := by kernel_rfl
@[simp] theorem fc_zeroV127 : zeroV Try.prog 127 = Option.some Go.Value.nilFunc := by kernel_rfl
@[simp] theorem fc_aggT127 : aggT Try.prog 127 = Option.some Bool.false := by kernel_rfl
@[simp] theorem fc_sizeT128 : sizeT Try.prog 128 = Option.some 2 := by kernel_rfl
@[simp] theorem fc_infoT128 : infoT Try.prog 128 = Option.some (2, 24, 2) := by kernel_rfl
@[simp] theorem fc_zeroT128 : zeroT Try.prog 128 = Option.some [Go.Value.string (ByteArray.mk (#[])), Go.Value.int Go.IntKind.i64 0] := by kernel_rfl
@[simp] theorem fc_zeroV128 : zeroV Try.prog 128 = Option.some (Go.Value.agg (#[Go.Value.string (ByteArray.mk (#[])), Go.Value.int Go.IntKind.i64 0])) := by kernel_rfl
@[simp] theorem fc_aggT128 : aggT Try.prog 128 = Option.some Bool.true := by kernel_rfl
@[simp] theorem fc_sizeT129 : sizeT Try.prog 129 = Option.some 2 := by kernel_rfl
@[simp] theorem fc_infoT129 : infoT Try.prog 129 = Option.some (2, 24, 2) := by kernel_rfl
@[simp] theorem fc_zeroT129 : zeroT Try.prog 129 = Option.some [Go.Value.string (ByteArray.mk (#[])), Go.Value.int Go.IntKind.i64 0] := by kernel_rfl
@[simp] theorem fc_zeroV129 : zeroV Try.prog 129 = Option.some (Go.Value.agg (#[Go.Value.string (ByteArray.mk (#[])), Go.Value.int Go.IntKind.i64 0])) := by kernel_rfl
@[simp] theorem fc_aggT129 : aggT Try.prog 129 = Option.some Bool.true := by kernel_rfl
@[simp] theorem fc_sizeT130 : sizeT Try.prog 130 = Option.some 2 := by kernel_rfl
@[simp] theorem fc_infoT130 : infoT Try.prog 130 = Option.some (2, 24, 2) := by kernel_rfl
@[simp] theorem fc_zeroT130 : zeroT Try.prog 130 = Option.some [Go.Value.string (ByteArray.mk (#[])), Go.Value.int Go.IntKind.i64 0] := by kernel_rfl
@[simp] theorem fc_zeroV130 : zeroV Try.prog 130 = Option.some (Go.Value.agg (#[Go.Value.string (ByteArray.mk (#[])), Go.Value.int Go.IntKind.i64 0])) := by kernel_rfl
@[simp] theorem fc_aggT130 : aggT Try.prog 130 = Option.some Bool.true := by kernel_rfl
@[simp] theorem fc_sizeT131 : sizeT Try.prog 131 = Option.some 2 := by kernel_rfl
@[simp] theorem fc_infoT131 : infoT Try.prog 131 = Option.some (2, 24, 2) := by kernel_rfl
@[simp] theorem fc_zeroT131 : zeroT Try.prog 131 = Option.some [Go.Value.string (ByteArray.mk (#[])), Go.Value.int Go.IntKind.i64 0] := by kernel_rfl
@[simp] theorem fc_zeroV131 : zeroV Try.prog 131 = Option.some (Go.Value.agg (#[Go.Value.string (ByteArray.mk (#[])), Go.Value.int Go.IntKind.i64 0])) := by kernel_rfl
@[simp] theorem fc_aggT131 : aggT Try.prog 131 = Option.some Bool.true := by kernel_rfl
@[simp] theorem fc_sizeT132 : sizeT Try.prog 132 = Option.some 1 := by kernel_rfl
@[simp] theorem fc_infoT132 : infoT Try.prog 132 = Option.some (1, 8, 1) := by kernel_rfl
@[simp] theorem fc_zeroT132 : zeroT Try.prog 132 = Option.some [Go.Value.nilFunc] := by kernel_rfl
@[simp] theorem fc_zeroV132 : zeroV Try.prog 132 = Option.some Go.Value.nilFunc := by kernel_rfl
@[simp] theorem fc_aggT132 : aggT Try.prog 132 = Option.some Bool.false := by kernel_rfl
@[simp] theorem fc_sizeT133 : sizeT Try.prog 133 = Option.some 1 := by kernel_rfl
@[simp] theorem fc_infoT133 : infoT Try.prog 133 = Option.some (1, 0, 1) := by kernel_rfl
@[simp] theorem fc_zeroT133 : zeroT Try.prog 133 = Option.some [Go.Value.tuple (#[])] := by kernel_rfl
@[simp] theorem fc_zeroV133 : zeroV Try.prog 133 = Option.some (Go.Value.tuple (#[])) := by kernel_rfl
@[simp] theorem fc_aggT133 : aggT Try.prog 133 = Option.some Bool.false := by kernel_rfl
@[simp] theorem fc_sizeT134 : sizeT Try.prog 134 = Option.some 1 := by kernel_rfl
@[simp] theorem fc_infoT134 : infoT Try.prog 134 = Option.some (1, 8, 1) := by kernel_rfl
@[simp] theorem fc_zeroT134 : zeroT Try.prog 134 = Option.some [Go.Value.nilFunc] := by kernel_rfl
@[simp] theorem fc_zeroV134 : zeroV Try.prog 134 = Option.some Go.Value.nilFunc := by kernel_rfl
@[simp] theorem fc_aggT134 : aggT Try.prog 134 = Option.some Bool.false := by kernel_rfl
@[simp] theorem fc_sizeT135 : sizeT Try.prog 135 = Option.some 1 := by kernel_rfl
@[simp] theorem fc_infoT135 : infoT Try.prog 135 = Option.some (1, 8, 1) := by kernel_rfl
@[simp] theorem fc_zeroT135 : zeroT Try.prog 135 = Option.some [Go.Value.nilFunc] := by kernel_rfl
@[simp] theorem fc_zeroV135 : zeroV Try.prog 135 = Option.some Go.Value.nilFunc := by kernel_rfl
@[simp] theorem fc_aggT135 : aggT Try.prog 135 = Option.some Bool.false := by kernel_rfl
@[simp] theorem fc_sizeT136 : sizeT Try.prog 136 = Option.some 1 := by kernel_rfl
@[simp] theorem fc_infoT136 : infoT Try.prog 136 = Option.some (1, 8, 1) := by kernel_rfl
@[simp] theorem fc_zeroT136 : zeroT Try.prog 136 = Option.some [Go.Value.nilFunc] := by kernel_rfl
@[simp] theorem fc_zeroV136 : zeroV Try.prog 136 = Option.some Go.Value.nilFunc := by kernel_rfl
@[simp] theorem fc_aggT136 : aggT Try.prog 136 = Option.some Bool.false := by kernel_rfl
@[simp] theorem fc_sizeT137 : sizeT Try.prog 137 = Option.some 2 := by kernel_rfl
@[simp] theorem fc_infoT137 : infoT Try.prog 137 = Option.some (2, 32, 2) := by kernel_rfl
@[simp] theorem fc_zeroT137 : zeroT Try.prog 137 = Option.some [Go.Value.slice Option.none 0 0, Go.Value.bool Bool.false] := by kernel_rfl
@[simp] theorem fc_zeroV137 : zeroV Try.prog 137 = Option.some (Go.Value.agg (#[Go.Value.slice Option.none 0 0, Go.Value.bool Bool.false])) := by kernel_rfl
@[simp] theorem fc_aggT137 : aggT Try.prog 137 = Option.some Bool.true := by kernel_rfl
@[simp] theorem fc_sizeT138 : sizeT Try.prog 138 = Option.some 2 := by kernel_rfl
@[simp] theorem fc_infoT138 : infoT Try.prog 138 = Option.some (2, 32, 2) := by kernel_rfl
@[simp] theorem fc_zeroT138 : zeroT Try.prog 138 = Option.some [Go.Value.slice Option.none 0 0, Go.Value.bool Bool.false] := by kernel_rfl
@[simp] theorem fc_zeroV138 : zeroV Try.prog 138 = Option.some (Go.Value.agg (#[Go.Value.slice Option.none 0 0, Go.Value.bool Bool.false])) := by kernel_rfl
@[simp] theorem fc_aggT138 : aggT Try.prog 138 = Option.some Bool.true := by kernel_rfl
@[simp] theorem fc_sizeT139 : sizeT Try.prog 139 = Option.some 1 := by kernel_rfl
@[simp] theorem fc_infoT139 : infoT Try.prog 139 = Option.some (1, 8, 1) := by kernel_rfl
@[simp] theorem fc_zeroT139 : zeroT Try.prog 139 = Option.some [Go.Value.nilFunc] := by kernel_rfl
@[simp] theorem fc_zeroV139 : zeroV Try.prog 139 = Option.some Go.Value.nilFunc := by kernel_rfl
@[simp] theorem fc_aggT139 : aggT Try.prog 139 = Option.some Bool.false := by kernel_rfl
@[simp] theorem fc_sizeT140 : sizeT Try.prog 140 = Option.some 1 := by kernel_rfl
@[simp] theorem fc_infoT140 : infoT Try.prog 140 = Option.some (1, 8, 1) := by kernel_rfl
@[simp] theorem fc_zeroT140 : zeroT Try.prog 140 = Option.some [Go.Value.nilFunc] := by kernel_rfl
@[simp] theorem fc_zeroV140 : zeroV Try.prog 140 = Option.some Go.Value.nilFunc := by kernel_rfl
@[simp] theorem fc_aggT140 : aggT Try.prog 140 = Option.some Bool.false := by kernel_rfl
@[simp] theorem fc_sizeT141 : sizeT Try.prog 141 = Option.some 1 := by kernel_rfl
@[simp] theorem fc_infoT141 : infoT Try.prog 141 = Option.some (1, 8, 1) := by kernel_rfl
@[simp] theorem fc_zeroT141 : zeroT Try.prog 141 = Option.some [Go.Value.nilFunc] := by kernel_rfl
@[simp] theorem fc_zeroV141 : zeroV Try.prog 141 = Option.some Go.Value.nilFunc := by kernel_rfl
@[simp] theorem fc_aggT141 : aggT Try.prog 141 = Option.some Bool.false := by kernel_rfl
@[simp] theorem fc_sizeT142 : sizeT Try.prog 142 = Option.some 1 := by kernel_rfl
@[simp] theorem fc_infoT142 : infoT Try.prog 142 = Option.some (1, 8, 1) := by kernel_rfl
@[simp] theorem fc_zeroT142 : zeroT Try.prog 142 = Option.some [Go.Value.int Go.IntKind.u64 0] := by kernel_rfl
@[simp] theorem fc_zeroV142 : zeroV Try.prog 142 = Option.some (Go.Value.int Go.IntKind.u64 0) := by kernel_rfl
@[simp] theorem fc_aggT142 : aggT Try.prog 142 = Option.some Bool.false := by kernel_rfl
@[simp] theorem fc_sizeT143 : sizeT Try.prog 143 = Option.some 1 := by kernel_rfl
@[simp] theorem fc_infoT143 : infoT Try.prog 143 = Option.some (1, 8, 1) := by kernel_rfl
@[simp] theorem fc_zeroT143 : zeroT Try.prog 143 = Option.some [Go.Value.nilFunc] := by kernel_rfl
@[simp] theorem fc_zeroV143 : zeroV Try.prog 143 = Option.some Go.Value.nilFunc := by kernel_rfl
@[simp] theorem fc_aggT143 : aggT Try.prog 143 = Option.some Bool.false := by kernel_rfl
@[simp] theorem fc_sizeT144 : sizeT Try.prog 144 = Option.some 1 := by kernel_rfl
@[simp] theorem fc_infoT144 : infoT Try.prog 144 = Option.some (1, 8, 1) := by kernel_rfl
@[simp] theorem fc_zeroT144 : zeroT Try.prog 144 = Option.some [Go.Value.nilFunc] := by kernel_rfl
@[simp] theorem fc_zeroV144 : zeroV Try.prog 144 = Option.some Go.Value.nilFunc := by kernel_rfl
@[simp] theorem fc_aggT144 : aggT Try.prog 144 = Option.some Bool.false := by kernel_rfl
@[simp] theorem fc_sizeT145 : sizeT Try.prog 145 = Option.some 1 := by kernel_rfl
@[simp] theorem fc_infoT145 : infoT Try.prog 145 = Option.some (1, 8, 1) := by kernel_rfl
@[simp] theorem fc_zeroT145 : zeroT Try.prog 145 = Option.some [Go.Value.nilFunc] := by kernel_rfl
@[simp] theorem fc_zeroV145 : zeroV Try.prog 145 = Option.some Go.Value.nilFunc := by kernel_rfl
@[simp] theorem fc_aggT145 : aggT Try.prog 145 = Option.some Bool.false := by kernel_rfl
@[simp] theorem fc_sizeT146 : sizeT Try.prog 146 = Option.some 1 := by kernel_rfl
@[simp] theorem fc_infoT146 : infoT Try.prog 146 = Option.some (1, 8, 1) := by kernel_rfl
@[simp] theorem fc_zeroT146 : zeroT Try.prog 146 = Option.some [Go.Value.int Go.IntKind.i64 0] := by kernel_rfl
@[simp] theorem fc_zeroV146 : zeroV Try.prog 146 = Option.some (Go.Value.int Go.IntKind.i64 0) := by kernel_rfl
@[simp] theorem fc_aggT146 : aggT Try.prog 146 = Option.some Bool.false := by kernel_rfl
@[simp] theorem fc_sizeT147 : sizeT Try.prog 147 = Option.some 1 := by kernel_rfl
@[simp] theorem fc_infoT147 : infoT Try.prog 147 = Option.some (1, 0, 1) := by kernel_rfl
@[simp] theorem fc_zeroT147 : zeroT Try.prog 147 = Option.some [Go.Value.tuple (#[])] := by kernel_rfl
@[simp] theorem fc_zeroV147 : zeroV Try.prog 147 = Option.some (Go.Value.tuple (#[])) := by kernel_rfl
@[simp] theorem fc_aggT147 : aggT Try.prog 147 = Option.some Bool.false := by kernel_rfl
@[simp] theorem fc_sizeT148 : sizeT Try.prog 148 = Option.some 1 := by kernel_rfl
@[simp] theorem fc_infoT148 : infoT Try.prog 148 = Option.some (1, 8, 1) := by kernel_rfl
@[simp] theorem fc_zeroT148 : zeroT Try.prog 148 = Option.some [Go.Value.nilFunc] := by kernel_rfl
@[simp] theorem fc_zeroV148 : zeroV Try.prog 148 = Option.some Go.Value.nilFunc := by kernel_rfl
@[simp] theorem fc_aggT148 : aggT Try.prog 148 = Option.some Bool.false := by kernel_rfl
@[simp] theorem fc_sizeT149 : sizeT Try.prog 149 = Option.some 1 := by kernel_rfl
@[simp] theorem fc_infoT149 : infoT Try.prog 149 = Option.some (1, 8, 1) := by kernel_rfl
@[simp] theorem fc_zeroT149 : zeroT Try.prog 149 = Option.some [Go.Value.nilFunc] := by kernel_rfl
@[simp] theorem fc_zeroV149 : zeroV Try.prog 149 = Option.some Go.Value.nilFunc := by kernel_rfl
@[simp] theorem fc_aggT149 : aggT Try.prog 149 = Option.some Bool.false := by kernel_rfl
@[simp] theorem fc_sizeT150 : sizeT Try.prog 150 = Option.some 1 := by kernel_rfl
@[simp] theorem fc_infoT150 : infoT Try.prog 150 = Option.some (1, 8, 1) := by kernel_rfl
@[simp] theorem fc_zeroT150 : zeroT Try.prog 150 = Option.some [Go.Value.nilFunc] := by kernel_rfl
@[simp] theorem fc_zeroV150 : zeroV Try.prog 150 = Option.some Go.Value.nilFunc := by kernel_rfl
@[simp] theorem fc_aggT150 : aggT Try.prog 150 = Option.some Bool.false := by kernel_rfl
@[simp] theorem fc_sizeT151 : sizeT Try.prog 151 = Option.some 1 := by kernel_rfl
@[simp] theorem fc_infoT151 : infoT Try.prog 151 = Option.some (1, 8, 1) := by kernel_rfl
@[simp] theorem fc_zeroT151 : zeroT Try.prog 151 = Option.some [Go.Value.nilFunc] := by kernel_rfl
@[simp] theorem fc_zeroV151 : zeroV Try.prog 151 = Option.some Go.Value.nilFunc := by kernel_rfl
@[simp] theorem fc_aggT151 : aggT Try.prog 151 = Option.some Bool.false := by kernel_rfl
@[simp] theorem fc_sizeT152 : sizeT Try.prog 152 = Option.some 1 := by kernel_rfl
@[simp] theorem fc_infoT152 : infoT Try.prog 152 = Option.some (1, 8, 1) := by kernel_rfl
@[simp] theorem fc_zeroT152 : zeroT Try.prog 152 = Option.some [Go.Value.nilFunc] := by kernel_rfl
@[simp] theorem fc_zeroV152 : zeroV Try.prog 152 = Option.some Go.Value.nilFunc := by kernel_rfl
@[simp] theorem fc_aggT152 : aggT Try.prog 152 = Option.some Bool.false := by kernel_rfl
@[simp] theorem fc_sizeT153 : sizeT Try.prog 153 = Option.some 1 := by kernel_rfl
@[simp] theorem fc_infoT153 : infoT Try.prog 153 = Option.some (1, 4, 1) := by kernel_rfl
@[simp] theorem fc_zeroT153 : zeroT Try.prog 153 = Option.some [Go.Value.int Go.IntKind.u32 0] := by kernel_rfl
@[simp] theorem fc_zeroV153 : zeroV Try.prog 153 = Option.some (Go.Value.int Go.IntKind.u32 0) := by kernel_rfl
@[simp] theorem fc_aggT153 : aggT Try.prog 153 = Option.some Bool.false := by kernel_rfl
@[simp] theorem fc_sizeT154 : sizeT Try.prog 154 = Option.some 1 := by kernel_rfl
@[simp] theorem fc_infoT154 : infoT Try.prog 154 = Option.some (1, 8, 1) := by kernel_rfl
@[simp] theorem fc_zeroT154 : zeroT Try.prog 154 = Option.some [Go.Value.nilFunc] := by kernel_rfl
@[simp] theorem fc_zeroV154 : zeroV Try.prog 154 = Option.some Go.Value.nilFunc := by kernel_rfl
@[simp] theorem fc_aggT154 : aggT Try.prog 154 = Option.some Bool.false := by kernel_rfl
@[simp] theorem fc_sizeT155 : sizeT Try.prog 155 = Option.some 1 := by kernel_rfl
@[simp] theorem fc_infoT155 : infoT Try.prog 155 = Option.some (1, 8, 1) := by kernel_rfl
@[simp] theorem fc_zeroT155 : zeroT Try.prog 155 = Option.some [Go.Value.nilFunc] := by kernel_rfl
@[simp] theorem fc_zeroV155 : zeroV Try.prog 155 = Option.some Go.Value.nilFunc := by kernel_rfl
@[simp] theorem fc_aggT155 : aggT Try.prog 155 = Option.some Bool.false := by kernel_rfl
@[simp] theorem fc_sizeT156 : sizeT Try.prog 156 = Option.some 1 := by kernel_rfl
@[simp] theorem fc_infoT156 : infoT Try.prog 156 = Option.some (1, 0, 1) := by kernel_rfl
@[simp] theorem fc_zeroT156 : zeroT Try.prog 156 = Option.some [Go.Value.tuple (#[])] := by kernel_rfl
@[simp] theorem fc_zeroV156 : zeroV Try.prog 156 = Option.some (Go.Value.tuple (#[])) := by kernel_rfl
@[simp] theorem fc_aggT156 : aggT Try.prog 156 = Option.some Bool.false := by kernel_rfl
@[simp] theorem fc_sizeT157 : sizeT Try.prog 157 = Option.some 1 := by kernel_rfl
@[simp] theorem fc_infoT157 : infoT Try.prog 157 = Option.some (1, 8, 1) := by kernel_rfl
@[simp] theorem fc_zeroT157 : zeroT Try.prog 157 = Option.some [Go.Value.nilFunc] := by kernel_rfl
@[simp] theorem fc_zeroV157 : zeroV Try.prog 157 = Option.some Go.Value.nilFunc := by kernel_rfl
@[simp] theorem fc_aggT157 : aggT Try.prog 157 = Option.some Bool.false := by kernel_rfl
@[simp] theorem fc_sizeT158 : sizeT Try.prog 158 = Option.some 1 := by kernel_rfl
@[simp] theorem fc_infoT158 : infoT Try.prog 158 = Option.some (1, 8, 1) := by kernel_rfl
@[simp] theorem fc_zeroT158 : zeroT Try.prog 158 = Option.some [Go.Value.pointer Option.none] := by kernel_rfl
@[simp] theorem fc_zeroV158 : zeroV Try.prog 158 = Option.some (Go.Value.pointer Option.none) := by kernel_rfl
@[simp] theorem fc_aggT158 : aggT Try.prog 158 = Option.some Bool.false := by kernel_rfl
@[simp] theorem fc_sizeT159 : sizeT Try.prog 159 = Option.some 1 := by kernel_rfl
@[simp] theorem fc_infoT159 : infoT Try.prog 159 = Option.some (1, 8, 1) := by kernel_rfl
@[simp] theorem fc_zeroT159 : zeroT Try.prog 159 = Option.some [Go.Value.nilFunc] := by kernel_rfl
@[simp] theorem fc_zeroV159 : zeroV Try.prog 159 = Option.some Go.Value.nilFunc := by kernel_rfl
@[simp] theorem fc_aggT159 : aggT Try.prog 159 = Option.some Bool.false := by kernel_rfl
@[simp] theorem fc_sizeT160 : sizeT Try.prog 160 = Option.some 1 := by kernel_rfl
@[simp] theorem fc_infoT160 : infoT Try.prog 160 = Option.some (1, 8, 1) := by kernel_rfl
@[simp] theorem fc_zeroT160 : zeroT Try.prog 160 = Option.some [Go.Value.nilFunc] := by kernel_rfl
@[simp] theorem fc_zeroV160 : zeroV Try.prog 160 = Option.some Go.Value.nilFunc := by kernel_rfl
@[simp] theorem fc_aggT160 : aggT Try.prog 160 = Option.some Bool.false := by kernel_rfl
@[simp] theorem fc_sizeT161 : sizeT Try.prog 161 = Option.some 1 := by kernel_rfl
@[simp] theorem fc_infoT161 : infoT Try.prog 161 = Option.some (1, 8, 1) := by kernel_rfl
@[simp] theorem fc_zeroT161 : zeroT Try.prog 161 = Option.some [Go.Value.nilFunc] := by kernel_rfl
@[simp] theorem fc_zeroV161 : zeroV Try.prog 161 = Option.some Go.Value.nilFunc := by kernel_rfl
@[simp] theorem fc_aggT161 : aggT Try.prog 161 = Option.some Bool.false := by kernel_rfl
@[simp] theorem fc_sizeT162 : sizeT Try.prog 162 = Option.some 1 := by kernel_rfl
@[simp] theorem fc_infoT162 : infoT Try.prog 162 = Option.some (1, 8, 1) := by kernel_rfl
@[simp] theorem fc_zeroT162 : zeroT Try.prog 162 = Option.some [Go.Value.nilFunc] := by kernel_rfl
@[simp] theorem fc_zeroV162 : zeroV Try.prog 162 = Option.some Go.Value.nilFunc := by kernel_rfl
@[simp] theorem fc_aggT162 : aggT Try.prog 162 = Option.some Bool.false := by kernel_rfl
@[simp] theorem fc_sizeT163 : sizeT Try.prog 163 = Option.some 1 := by kernel_rfl
@[simp] theorem fc_infoT163 : infoT Try.prog 163 = Option.some (1, 8, 1) := by kernel_rfl
@[simp] theorem fc_zeroT163 : zeroT Try.prog 163 = Option.some [Go.Value.int Go.IntKind.u64 0] := by kernel_rfl
@[simp] theorem fc_zeroV163 : zeroV Try.prog 163 = Option.some (Go.Value.int Go.IntKind.u64 0) := by kernel_rfl
@[simp] theorem fc_aggT163 : aggT Try.prog 163 = Option.some Bool.false := by kernel_rfl
@[simp] theorem fc_sizeT164 : sizeT Try.prog 164 = Option.some 1 := by kernel_rfl
@[simp] theorem fc_infoT164 : infoT Try.prog 164 = Option.some (1, 8, 1) := by kernel_rfl
@[simp] theorem fc_zeroT164 : zeroT Try.prog 164 = Option.some [Go.Value.nilFunc] := by kernel_rfl
@[simp] theorem fc_zeroV164 : zeroV Try.prog 164 = Option.some Go.Value.nilFunc := by kernel_rfl
@[simp] theorem fc_aggT164 : aggT Try.prog 164 = Option.some Bool.false := by kernel_rfl
@[simp] theorem fc_sizeT165 : sizeT Try.prog 165 = Option.some 1 := by kernel_rfl
@[simp] theorem fc_infoT165 : infoT Try.prog 165 = Option.some (1, 8, 1) := by kernel_rfl
@[simp] theorem fc_zeroT165 : zeroT Try.prog 165 = Option.some [Go.Value.nilFunc] := by kernel_rfl
@[simp] theorem fc_zeroV165 : zeroV Try.prog 165 = Option.some Go.Value.nilFunc := by kernel_rfl
@[simp] theorem fc_aggT165 : aggT Try.prog 165 = Option.some Bool.false := by kernel_rfl
@[simp] theorem fc_sizeT166 : sizeT Try.prog 166 = Option.some 1 := by kernel_rfl
@[simp] theorem fc_infoT166 : infoT Try.prog 166 = Option.some (1, 8, 1) := by kernel_rfl
@[simp] theorem fc_zeroT166 : zeroT Try.prog 166 = Option.some [Go.Value.nilFunc] := by kernel_rfl
@[simp] theorem fc_zeroV166 : zeroV Try.prog 166 = Option.some Go.Value.nilFunc := by kernel_rfl
@[simp] theorem fc_aggT166 : aggT Try.prog 166 = Option.some Bool.false := by kernel_rfl
@[simp] theorem fc_sizeT167 : sizeT Try.prog 167 = Option.some 1 := by kernel_rfl
@[simp] theorem fc_infoT167 : infoT Try.prog 167 = Option.some (1, 8, 1) := by kernel_rfl
@[simp] theorem fc_zeroT167 : zeroT Try.prog 167 = Option.some [Go.Value.pointer Option.none] := by kernel_rfl
@[simp] theorem fc_zeroV167 : zeroV Try.prog 167 = Option.some (Go.Value.pointer Option.none) := by kernel_rfl
@[simp] theorem fc_aggT167 : aggT Try.prog 167 = Option.some Bool.false := by kernel_rfl
@[simp] theorem fc_sizeT168 : sizeT Try.prog 168 = Option.some 1 := by kernel_rfl
@[simp] theorem fc_infoT168 : infoT Try.prog 168 = Option.some (1, 8, 1) := by kernel_rfl
@[simp] theorem fc_zeroT168 : zeroT Try.prog 168 = Option.some [Go.Value.nilFunc] := by kernel_rfl
@[simp] theorem fc_zeroV168 : zeroV Try.prog 168 = Option.some Go.Value.nilFunc := by kernel_rfl
@[simp] theorem fc_aggT168 : aggT Try.prog 168 = Option.some Bool.false := by kernel_rfl
@[simp] theorem fc_sizeT169 : sizeT Try.prog 169 = Option.some 1 := by kernel_rfl
@[simp] theorem fc_infoT169 : infoT Try.prog 169 = Option.some (1, 8, 1) := by kernel_rfl
@[simp] theorem fc_zeroT169 : zeroT Try.prog 169 = Option.some [Go.Value.nilFunc] := by kernel_rfl
@[simp] theorem fc_zeroV169 : zeroV Try.prog 169 = Option.some Go.Value.nilFunc := by kernel_rfl
@[simp] theorem fc_aggT169 : aggT Try.prog 169 = Option.some Bool.false := by kernel_rfl
@[simp] theorem fc_sizeT170 : sizeT Try.prog 170 = Option.some 1 := by kernel_rfl
@[simp] theorem fc_infoT170 : infoT Try.prog 170 = Option.some (1, 8, 1) := by kernel_rfl
@[simp] theorem fc_zeroT170 : zeroT Try.prog 170 = Option.some [Go.Value.nilFunc] := by kernel_rfl
@[simp] theorem fc_zeroV170 : zeroV Try.prog 170 = Option.some Go.Value.nilFunc := by kernel_rfl
@[simp] theorem fc_aggT170 : aggT Try.prog 170 = Option.some Bool.false := by kernel_rfl
@[simp] theorem fc_sizeT171 : sizeT Try.prog 171 = Option.some 1 := by kernel_rfl
@[simp] theorem fc_infoT171 : infoT Try.prog 171 = Option.some (1, 8, 1) := by kernel_rfl
@[simp] theorem fc_zeroT171 : zeroT Try.prog 171 = Option.some [Go.Value.nilFunc] := by kernel_rfl
@[simp] theorem fc_zeroV171 : zeroV Try.prog 171 = Option.some Go.Value.nilFunc := by kernel_rfl
@[simp] theorem fc_aggT171 : aggT Try.prog 171 = Option.some Bool.false := by kernel_rfl
@[simp] theorem fc_sizeT172 : sizeT Try.prog 172 = Option.some 1 := by kernel_rfl
@[simp] theorem fc_infoT172 : infoT Try.prog 172 = Option.some (1, 8, 1) := by kernel_rfl
@[simp] theorem fc_zeroT172 : zeroT Try.prog 172 = Option.some [Go.Value.nilFunc] := by kernel_rfl
@[simp] theorem fc_zeroV172 : zeroV Try.prog 172 = Option.some Go.Value.nilFunc := by kernel_rfl
@[simp] theorem fc_aggT172 : aggT Try.prog 172 = Option.some Bool.false := by kernel_rfl
@[simp] theorem fc_sizeT173 : sizeT Try.prog 173 = Option.some 1 := by kernel_rfl
@[simp] theorem fc_infoT173 : infoT Try.prog 173 = Option.some (1, 8, 1) := by kernel_rfl
@[simp] theorem fc_zeroT173 : zeroT Try.prog 173 = Option.some [Go.Value.nilFunc] := by kernel_rfl
@[simp] theorem fc_zeroV173 : zeroV Try.prog 173 = Option.some Go.Value.nilFunc := by kernel_rfl
@[simp] theorem fc_aggT173 : aggT Try.prog 173 = Option.some Bool.false := by kernel_rfl
@[simp] theorem fc_sizeT174 : sizeT Try.prog 174 = Option.some 1 := by kernel_rfl
@[simp] theorem fc_infoT174 : infoT Try.prog 174 = Option.some (1, 8, 1) := by kernel_rfl
@[simp] theorem fc_zeroT174 : zeroT Try.prog 174 = Option.some [Go.Value.nilFunc] := by kernel_rfl
@[simp] theorem fc_zeroV174 : zeroV Try.prog 174 = Option.some Go.Value.nilFunc := by kernel_rfl
@[simp] theorem fc_aggT174 : aggT Try.prog 174 = Option.some Bool.false := by kernel_rfl
@[simp] theorem fc_sizeT175 : sizeT Try.prog 175 = Option.some 1 := by kernel_rfl
@[simp] theorem fc_infoT175 : infoT Try.prog 175 = Option.some (1, 8, 1) := by kernel_rfl
@[simp] theorem fc_zeroT175 : zeroT Try.prog 175 = Option.some [Go.Value.pointer Option.none] := by kernel_rfl
@[simp] theorem fc_zeroV175 : zeroV Try.prog 175 = Option.some (Go.Value.pointer Option.none) := by kernel_rfl
@[simp] theorem fc_aggT175 : aggT Try.prog 175 = Option.some Bool.false := by kernel_rfl
@[simp] theorem fc_sizeT176 : sizeT Try.prog 176 = Option.some 1 := by kernel_rfl
@[simp] theorem fc_infoT176 : infoT Try.prog 176 = Option.some (1, 8, 1) := by kernel_rfl
@[simp] theorem fc_zeroT176 : zeroT Try.prog 176 = Option.some [Go.Value.nilFunc] := by kernel_rfl
@[simp] theorem fc_zeroV176 : zeroV Try.prog 176 = Option.some Go.Value.nilFunc := by kernel_rfl
@[simp] theorem fc_aggT176 : aggT Try.prog 176 = Option.some Bool.false := by kernel_rfl
@[simp] theorem fc_sizeT177 : sizeT Try.prog 177 = Option.some 1 := by kernel_rfl
@[simp] theorem fc_infoT177 : infoT Try.prog 177 = Option.some (1, 8, 1) := by kernel_rfl
@[simp] theorem fc_zeroT177 : zeroT Try.prog 177 = Option.some [Go.Value.nilFunc] := by kernel_rfl
@[simp] theorem fc_zeroV177 : zeroV Try.prog 177 = Option.some Go.Value.nilFunc := by kernel_rfl
@[simp] theorem fc_aggT177 : aggT Try.prog 177 = Option.some Bool.false := by kernel_rfl
@[simp] theorem fc_sizeT178 : sizeT Try.prog 178 = Option.some 1 := by kernel_rfl
@[simp] theorem fc_infoT178 : infoT Try.prog 178 = Option.some (1, 8, 1) := by kernel_rfl
@[simp] theorem fc_zeroT178 : zeroT Try.prog 178 = Option.some [Go.Value.nilFunc] := by kernel_rfl
@[simp] theorem fc_zeroV178 : zeroV Try.prog 178 = Option.some Go.Value.nilFunc := by kernel_rfl
@[simp] theorem fc_aggT178 : aggT Try.prog 178 = Option.some Bool.false := by kernel_rfl
@[simp] theorem fc_sizeT179 : sizeT Try.prog 179 = Option.some 1 := by kernel_rfl
@[simp] theorem fc_infoT179 : infoT Try.prog 179 = Option.some (1, 8, 1) := by kernel_rfl
@[simp] theorem fc_zeroT179 : zeroT Try.prog 179 = Option.some [Go.Value.nilFunc] := by kernel_rfl
@[simp] theorem fc_zeroV179 : zeroV Try.prog 179 = Option.some Go.Value.nilFunc := by kernel_rfl
@[simp] theorem fc_aggT179 : aggT Try.prog 179 = Option.some Bool.false := by kernel_rfl
@[simp] theorem fc_sizeT180 : sizeT Try.prog 180 = Option.some 4 := by kernel_rfl
@[simp] theorem fc_infoT180 : infoT Try.prog 180 = Option.some (4, 40, 4) := by kernel_rfl
@[simp] theorem fc_zeroT180 : zeroT Try.prog 180 = Option.some [Go.Value.pointer Option.none, Go.Value.pointer Option.none, Go.Value.pointer Option.none, Go.Value.string (ByteArray.mk (#[]))] := by kernel_rfl
@[simp] theorem fc_zeroV180 : zeroV Try.prog 180 = Option.some (Go.Value.agg (#[Go.Value.pointer Option.none, Go.Value.pointer Option.none, Go.Value.pointer Option.none, Go.Value.string (ByteArray.mk (#[]))])) := by kernel_rfl
@[simp] theorem fc_aggT180 : aggT Try.prog 180 = Option.some Bool.true := by kernel_rfl
@[simp] theorem fc_sizeT181 : sizeT Try.prog 181 = Option.some 4 := by kernel_rfl
@[simp] theorem fc_infoT181 : infoT Try.prog 181 = Option.some (4, 40, 4) := by kernel_rfl
@[simp] theorem fc_zeroT181 : zeroT Try.prog 181 = Option.some [Go.Value.pointer Option.none, Go.Value.pointer Option.none, Go.Value.pointer Option.none, Go.Value.string (ByteArray.mk (#[]))] := by kernel_rfl
@[simp] theorem fc_zeroV181 : zeroV Try.prog 181 = Option.some (Go.Value.agg (#[Go.Value.pointer Option.none, Go.Value.pointer Option.none, Go.Value.pointer Option.none, Go.Value.string (ByteArray.mk (#[]))])) := by kernel_rfl
@[simp] theorem fc_aggT181 : aggT Try.prog 181 = Option.some Bool.true := by kernel_rfl
@[simp] theorem fc_sizeT182 : sizeT Try.prog 182 = Option.some 0 := by kernel_rfl
@[simp] theorem fc_infoT182 : infoT Try.prog 182 = Option.some (0, 0, 0) := by kernel_rfl
@[simp] theorem fc_zeroT182 : zeroT Try.prog 182 = Option.some [] := by kernel_rfl
@[simp] theorem fc_zeroV182 : zeroV Try.prog 182 = Option.some (Go.Value.agg (#[])) := by kernel_rfl
@[simp] theorem fc_aggT182 : aggT Try.prog 182 = Option.some Bool.true := by kernel_rfl
@[simp] theorem fc_sizeT183 : sizeT Try.prog 183 = Option.some 0 := by kernel_rfl
@[simp] theorem fc_infoT183 : infoT Try.prog 183 = Option.some (0, 0, 0) := by kernel_rfl
@[simp] theorem fc_zeroT183 : zeroT Try.prog 183 = Option.some [] := by kernel_rfl
@[simp] theorem fc_zeroV183 : zeroV Try.prog 183 = Option.some (Go.Value.agg (#[])) := by kernel_rfl
@[simp] theorem fc_aggT183 : aggT Try.prog 183 = Option.some Bool.true := by kernel_rfl
@[simp] theorem fc_sizeT184 : sizeT Try.prog 184 = Option.some 0 := by kernel_rfl
@[simp] theorem fc_infoT184 : infoT Try.prog 184 = Option.some (0, 0, 0) := by kernel_rfl
@[simp] theorem fc_zeroT184 : zeroT Try.prog 184 = Option.some [] := by kernel_rfl
@[simp] theorem fc_zeroV184 : zeroV Try.prog 184 = Option.some (Go.Value.agg (#[])) := by kernel_rfl
@[simp] theorem fc_aggT184 : aggT Try.prog 184 = Option.some Bool.true := by kernel_rfl
@[simp] theorem fc_sizeT185 : sizeT Try.prog 185 = Option.some 1 := by kernel_rfl
@[simp] theorem fc_infoT185 : infoT Try.prog 185 = Option.some (1, 1, 1) := by kernel_rfl
@[simp] theorem fc_zeroT185 : zeroT Try.prog 185 = Option.some [Go.Value.int Go.IntKind.u8 0] := by kernel_rfl
@[simp] theorem fc_zeroV185 : zeroV Try.prog 185 = Option.some (Go.Value.int Go.IntKind.u8 0) := by kernel_rfl
@[simp] theorem fc_aggT185 : aggT Try.prog 185 = Option.some Bool.false := by kernel_rfl
@[simp] theorem fc_sizeT186 : sizeT Try.prog 186 = Option.some 1 := by kernel_rfl
@[simp] theorem fc_infoT186 : infoT Try.prog 186 = Option.some (1, 1, 1) := by kernel_rfl
@[simp] theorem fc_zeroT186 : zeroT Try.prog 186 = Option.some [Go.Value.int Go.IntKind.u8 0] := by kernel_rfl
@[simp] theorem fc_zeroV186 : zeroV Try.prog 186 = Option.some (Go.Value.int Go.IntKind.u8 0) := by kernel_rfl
@[simp] theorem fc_aggT186 : aggT Try.prog 186 = Option.some Bool.false := by kernel_rfl
@[simp] theorem fc_sizeT187 : sizeT Try.prog 187 = Option.some 1 := by kernel_rfl
@[simp] theorem fc_infoT187 : infoT Try.prog 187 = Option.some (1, 8, 1) := by kernel_rfl
@[simp] theorem fc_zeroT187 : zeroT Try.prog 187 = Option.some [Go.Value.nilFunc] := by kernel_rfl
@[simp] theorem fc_zeroV187 : zeroV Try.prog 187 = Option.some Go.Value.nilFunc := by kernel_rfl
@[simp] theorem fc_aggT187 : aggT Try.prog 187 = Option.some Bool.false := by kernel_rfl
@[simp] theorem fc_sizeT188 : sizeT Try.prog 188 = Option.some 1 := by kernel_rfl
@[simp] theorem fc_infoT188 : infoT Try.prog 188 = Option.some (1, 8, 1) := by kernel_rfl
@[simp] theorem fc_zeroT188 : zeroT Try.prog 188 = Option.some [Go.Value.pointer Option.none] := by kernel_rfl
@[simp] theorem fc_zeroV188 : zeroV Try.prog 188 = Option.some (Go.Value.pointer Option.none) := by kernel_rfl
@[simp] theorem fc_aggT188 : aggT Try.prog 188 = Option.some Bool.false := by kernel_rfl
@[simp] theorem fc_sizeT189 : sizeT Try.prog 189 = Option.some 1 := by kernel_rfl
@[simp] theorem fc_infoT189 : infoT Try.prog 189 = Option.some (1, 4, 1) := by kernel_rfl
@[simp] theorem fc_zeroT189 : zeroT Try.prog 189 = Option.some [Go.Value.int Go.IntKind.i32 0] := by kernel_rfl
@[simp] theorem fc_zeroV189 : zeroV Try.prog 189 = Option.some (Go.Value.int Go.IntKind.i32 0) := by kernel_rfl
@[simp] theorem fc_aggT189 : aggT Try.prog 189 = Option.some Bool.false := by kernel_rfl
@[simp] theorem fc_sizeT190 : sizeT Try.prog 190 = Option.some 1 := by kernel_rfl
@[simp] theorem fc_infoT190 : infoT Try.prog 190 = Option.some (1, 4, 1) := by kernel_rfl
@[simp] theorem fc_zeroT190 : zeroT Try.prog 190 = Option.some [Go.Value.int Go.IntKind.i32 0] := by kernel_rfl
@[simp] theorem fc_zeroV190 : zeroV Try.prog 190 = Option.some (Go.Value.int Go.IntKind.i32 0) := by kernel_rfl
@[simp] theorem fc_aggT190 : aggT Try.prog 190 = Option.some Bool.false := by kernel_rfl
@[simp] theorem fc_sizeT191 : sizeT Try.prog 191 = Option.some 11 := by kernel_rfl
@[simp] theorem fc_infoT191 : infoT Try.prog 191 = Option.some (11, 48, 11) := by kernel_rfl
@[simp] theorem fc_zeroT191 : zeroT Try.prog 191 = Option.some [Go.Value.int Go.IntKind.u64 0, Go.Value.int Go.IntKind.u64 0, Go.Value.int Go.IntKind.u32 0, Go.Value.int Go.IntKind.u8 0, Go.Value.int Go.IntKind.u8 0, Go.Value.int Go.IntKind.u8 0, Go.Value.int Go.IntKind.u8 0, Go.Value.nilFunc, Go.Value.pointer Option.none, Go.Value.int Go.IntKind.i32 0, Go.Value.int Go.IntKind.i32 0] := by kernel_rfl
@[simp] theorem fc_zeroV191 : zeroV Try.prog 191 = Option.some (Go.Value.agg (#[Go.Value.int Go.IntKind.u64 0, Go.Value.int Go.IntKind.u64 0, Go.Value.int Go.IntKind.u32 0, Go.Value.int Go.IntKind.u8 0, Go.Value.int Go.IntKind.u8 0, Go.Value.int Go.IntKind.u8 0, Go.Value.int Go.IntKind.u8 0, Go.Value.nilFunc, Go.Value.pointer Option.none, Go.Value.int Go.IntKind.i32 0, Go.Value.int Go.IntKind.i32 0])) := by kernel_rfl
@[simp] theorem fc_aggT191 : aggT Try.prog 191 = Option.some Bool.true := by kernel_rfl
@[simp] theorem fc_sizeT192 : sizeT Try.prog 192 = Option.some 11 := by kernel_rfl
@[simp] theorem fc_infoT192 : infoT Try.prog 192 = Option.some (11, 48, 11) := by kernel_rfl
@[simp] theorem fc_zeroT192 : zeroT Try.prog 192 = Option.some [Go.Value.int Go.IntKind.u64 0, Go.Value.int Go.IntKind.u64 0, Go.Value.int Go.IntKind.u32 0, Go.Value.int Go.IntKind.u8 0, Go.Value.int Go.IntKind.u8 0, Go.Value.int Go.IntKind.u8 0, Go.Value.int Go.IntKind.u8 0, Go.Value.nilFunc, Go.Value.pointer Option.none, Go.Value.int Go.IntKind.i32 0, Go.Value.int Go.IntKind.i32 0] := by kernel_rfl
@[simp] theorem fc_zeroV192 : zeroV Try.prog 192 = Option.some (Go.Value.agg (#[Go.Value.int Go.IntKind.u64 0, Go.Value.int Go.IntKind.u64 0, Go.Value.int Go.IntKind.u32 0, Go.Value.int Go.IntKind.u8 0, Go.Value.int Go.IntKind.u8 0, Go.Value.int Go.IntKind.u8 0, Go.Value.int Go.IntKind.u8 0, Go.Value.nilFunc, Go.Value.pointer Option.none, Go.Value.int Go.IntKind.i32 0, Go.Value.int Go.IntKind.i32 0])) := by kernel_rfl
@[simp] theorem fc_aggT192 : aggT Try.prog 192 = Option.some Bool.true := by kernel_rfl
@[simp] theorem fc_sizeT193 : sizeT Try.prog 193 = Option.some 1 := by kernel_rfl
@[simp] theorem fc_infoT193 : infoT Try.prog 193 = Option.some (1, 8, 1) := by kernel_rfl
@[simp] theorem fc_zeroT193 : zeroT Try.prog 193 = Option.some [Go.Value.pointer Option.none] := by kernel_rfl
@[simp] theorem fc_zeroV193 : zeroV Try.prog 193 = Option.some (Go.Value.pointer Option.none) := by kernel_rfl
@[simp] theorem fc_aggT193 : aggT Try.prog 193 = Option.some Bool.false := by kernel_rfl
@[simp] theorem fc_call2 : callable Try.prog 2 = true := by kernel_rfl
@[simp] theorem fc_call3 : callable Try.prog 3 = true := by kernel_rfl
@[simp] theorem fc_call4 : callable Try.prog 4 = true := by kernel_rfl
@[simp] theorem fc_call5 : callable Try.prog 5 = true := by kernel_rfl
@[simp] theorem fc_call6 : callable Try.prog 6 = true := by kernel_rfl
@[simp] theorem fc_call7 : callable Try.prog 7 = true := by kernel_rfl
@[simp] theorem fc_call8 : callable Try.prog 8 = true := by kernel_rfl
@[simp] theorem fc_call9 : callable Try.prog 9 = true := by kernel_rfl
@[simp] theorem fc_call10 : callable Try.prog 10 = true := by kernel_rfl
@[simp] theorem fc_call11 : callable Try.prog 11 = true := by kernel_rfl
@[simp] theorem fc_call12 : callable Try.prog 12 = true := by kernel_rfl
@[simp] theorem fc_call13 : callable Try.prog 13 = true := by kernel_rfl
@[simp] theorem fc_call14 : callable Try.prog 14 = true := by kernel_rfl
@[simp] theorem fc_call15 : callable Try.prog 15 = true := by kernel_rfl
@[simp] theorem fc_call16 : callable Try.prog 16 = true := by kernel_rfl
@[simp] theorem fc_call17 : callable Try.prog 17 = true := by kernel_rfl
@[simp] theorem fc_call18 : callable Try.prog 18 = true := by kernel_rfl
@[simp] theorem fc_call19 : callable Try.prog 19 = true := by kernel_rfl
@[simp] theorem fc_call20 : callable Try.prog 20 = true := by kernel_rfl
@[simp] theorem fc_call21 : callable Try.prog 21 = true := by kernel_rfl
@[simp] theorem fc_call22 : callable Try.prog 22 = true := by kernel_rfl
@[simp] theorem fc_call23 : callable Try.prog 23 = true := by kernel_rfl
@[simp] theorem fc_call24 : callable Try.prog 24 = true := by kernel_rfl
@[simp] theorem fc_call25 : callable Try.prog 25 = true := by kernel_rfl
@[simp] theorem fc_call26 : callable Try.prog 26 = true := by kernel_rfl
@[simp] theorem fc_call27 : callable Try.prog 27 = true := by kernel_rfl
@[simp] theorem fc_call28 : callable Try.prog 28 = true := by kernel_rfl
@[simp] theorem fc_call29 : callable Try.prog 29 = true := by kernel_rfl
@[simp] theorem fc_call30 : callable Try.prog 30 = true := by kernel_rfl
@[simp] theorem fc_call31 : callable Try.prog 31 = true := by kernel_rfl
@[simp] theorem fc_call32 : callable Try.prog 32 = true := by kernel_rfl
@[simp] theorem fc_call33 : callable Try.prog 33 = true := by kernel_rfl
@[simp] theorem fc_call34 : callable Try.prog 34 = true := by kernel_rfl
@[simp] theorem fc_call35 : callable Try.prog 35 = true := by kernel_rfl
@[simp] theorem fc_call36 : callable Try.prog 36 = true := by kernel_rfl
@[simp] theorem fc_call37 : callable Try.prog 37 = true := by kernel_rfl
@[simp] theorem fc_call38 : callable Try.prog 38 = true := by kernel_rfl
@[simp] theorem fc_call39 : callable Try.prog 39 = true := by kernel_rfl
@[simp] theorem fc_call40 : callable Try.prog 40 = true := by kernel_rfl
@[simp] theorem fc_call41 : callable Try.prog 41 = true := by kernel_rfl
@[simp] theorem fc_call42 : callable Try.prog 42 = true := by kernel_rfl
@[simp] theorem fc_call43 : callable Try.prog 43 = true := by kernel_rfl
@[simp] theorem fc_call44 : callable Try.prog 44 = true := by kernel_rfl
@[simp] theorem fc_call45 : callable Try.prog 45 = true := by kernel_rfl
@[simp] theorem fc_call46 : callable Try.prog 46 = true := by kernel_rfl
@[simp] theorem fc_call47 : callable Try.prog 47 = true := by kernel_rfl
@[simp] theorem fc_call48 : callable Try.prog 48 = true := by kernel_rfl
@[simp] theorem fc_call49 : callable Try.prog 49 = true := by kernel_rfl
@[simp] theorem fc_call50 : callable Try.prog 50 = true := by kernel_rfl
@[simp] theorem fc_call51 : callable Try.prog 51 = true := by kernel_rfl
@[simp] theorem fc_call52 : callable Try.prog 52 = true := by kernel_rfl
@[simp] theorem fc_call53 : callable Try.prog 53 = true := by kernel_rfl
@[simp] theorem fc_call54 : callable Try.prog 54 = true := by kernel_rfl
@[simp] theorem fc_call55 : callable Try.prog 55 = true := by kernel_rfl
@[simp] theorem fc_call56 : callable Try.prog 56 = true := by kernel_rfl
@[simp] theorem fc_call57 : callable Try.prog 57 = true := by kernel_rfl
@[simp] theorem fc_call58 : callable Try.prog 58 = true := by kernel_rfl
@[simp] theorem fc_call59 : callable Try.prog 59 = true := by kernel_rfl
@[simp] theorem fc_call60 : callable Try.prog 60 = true := by kernel_rfl
@[simp] theorem fc_call61 : callable Try.prog 61 = true := by kernel_rfl
@[simp] theorem fc_call62 : callable Try.prog 62 = true := by kernel_rfl
@[simp] theorem fc_call63 : callable Try.prog 63 = true := by kernel_rfl
@[simp] theorem fc_call64 : callable Try.prog 64 = true := by kernel_rfl
@[simp] theorem fc_call65 : callable Try.prog 65 = true := by kernel_rfl
@[simp] theorem fc_call66 : callable Try.prog 66 = true := by kernel_rfl
@[simp] theorem fc_call67 : callable Try.prog 67 = true := by kernel_rfl
@[simp] theorem fc_call68 : callable Try.prog 68 = true := by kernel_rfl
@[simp] theorem fc_call69 : callable Try.prog 69 = true := by kernel_rfl
@[simp] theorem fc_call70 : callable Try.prog 70 = true := by kernel_rfl
@[simp] theorem fc_call71 : callable Try.prog 71 = true := by kernel_rfl
@[simp] theorem fc_call72 : callable Try.prog 72 = true := by kernel_rfl
@[simp] theorem fc_call73 : callable Try.prog 73 = true := by kernel_rfl
@[simp] theorem fc_call74 : callable Try.prog 74 = true := by kernel_rfl
@[simp] theorem fc_call75 : callable Try.prog 75 = true := by kernel_rfl
@[simp] theorem fc_call76 : callable Try.prog 76 = true := by kernel_rfl
@[simp] theorem fc_call77 : callable Try.prog 77 = true := by kernel_rfl
@[simp] theorem fc_call78 : callable Try.prog 78 = true := by kernel_rfl
@[simp] theorem fc_call79 : callable Try.prog 79 = true := by kernel_rfl
@[simp] theorem fc_call80 : callable Try.prog 80 = true := by kernel_rfl
@[simp] theorem fc_call81 : callable Try.prog 81 = true := by kernel_rfl
@[simp] theorem fc_call82 : callable Try.prog 82 = true := by kernel_rfl
@[simp] theorem fc_call83 : callable Try.prog 83 = true := by kernel_rfl
@[simp] theorem fc_call84 : callable Try.prog 84 = true := by kernel_rfl
@[simp] theorem fc_call85 : callable Try.prog 85 = true := by kernel_rfl
@[simp] theorem fc_call86 : callable Try.prog 86 = true := by kernel_rfl
@[simp] theorem fc_call87 : callable Try.prog 87 = true := by kernel_rfl
@[simp] theorem fc_call88 : callable Try.prog 88 = true := by kernel_rfl
@[simp] theorem fc_call89 : callable Try.prog 89 = true := by kernel_rfl
@[simp] theorem fc_call90 : callable Try.prog 90 = true := by kernel_rfl
@[simp] theorem fc_call91 : callable Try.prog 91 = true := by kernel_rfl
@[simp] theorem fc_call92 : callable Try.prog 92 = true := by kernel_rfl
@[simp] theorem fc_call93 : callable Try.prog 93 = true := by kernel_rfl
@[simp] theorem fc_call94 : callable Try.prog 94 = true := by kernel_rfl
@[simp] theorem fc_call95 : callable Try.prog 95 = true := by kernel_rfl
@[simp] theorem fc_call96 : callable Try.prog 96 = true := by kernel_rfl
@[simp] theorem fc_call97 : callable Try.prog 97 = true := by kernel_rfl
@[simp] theorem fc_call98 : callable Try.prog 98 = true := by kernel_rfl
@[simp] theorem fc_call99 : callable Try.prog 99 = true := by kernel_rfl
@[simp] theorem fc_call100 : callable Try.prog 100 = true := by kernel_rfl
@[simp] theorem fc_call101 : callable Try.prog 101 = true := by kernel_rfl
@[simp] theorem fc_call103 : callable Try.prog 103 = true := by kernel_rfl
@[simp] theorem fc_call104 : callable Try.prog 104 = true := by kernel_rfl
@[simp] theorem fc_call105 : callable Try.prog 105 = true := by kernel_rfl
@[simp] theorem fc_call106 : callable Try.prog 106 = true := by kernel_rfl
@[simp] theorem fc_call107 : callable Try.prog 107 = true := by kernel_rfl
@[simp] theorem fc_call108 : callable Try.prog 108 = true := by kernel_rfl
@[simp] theorem fc_call109 : callable Try.prog 109 = true := by kernel_rfl
@[simp] theorem fc_call110 : callable Try.prog 110 = true := by kernel_rfl
@[simp] theorem fc_call111 : callable Try.prog 111 = true := by kernel_rfl
@[simp] theorem fc_call112 : callable Try.prog 112 = true := by kernel_rfl
@[simp] theorem fc_call113 : callable Try.prog 113 = true := by kernel_rfl
@[simp] theorem fc_call114 : callable Try.prog 114 = true := by kernel_rfl
@[simp] theorem fc_call115 : callable Try.prog 115 = true := by kernel_rfl
@[simp] theorem fc_call116 : callable Try.prog 116 = true := by kernel_rfl
@[simp] theorem fc_call117 : callable Try.prog 117 = true := by kernel_rfl
@[simp] theorem fc_call118 : callable Try.prog 118 = true := by kernel_rfl
@[simp] theorem fc_call119 : callable Try.prog 119 = true := by kernel_rfl
@[simp] theorem fc_call120 : callable Try.prog 120 = true := by kernel_rfl
@[simp] theorem fc_call121 : callable Try.prog 121 = true := by kernel_rfl
@[simp] theorem fc_call122 : callable Try.prog 122 = true := by kernel_rfl
@[simp] theorem fc_call123 : callable Try.prog 123 = true := by kernel_rfl
@[simp] theorem fc_call124 : callable Try.prog 124 = true := by kernel_rfl
@[simp] theorem fc_call125 : callable Try.prog 125 = true := by kernel_rfl
@[simp] theorem fc_call126 : callable Try.prog 126 = true := by kernel_rfl
@[simp] theorem fc_call127 : callable Try.prog 127 = true := by kernel_rfl
@[simp] theorem fc_call128 : callable Try.prog 128 = true := by kernel_rfl
@[simp] theorem fc_call129 : callable Try.prog 129 = true := by kernel_rfl
@[simp] theorem fc_call130 : callable Try.prog 130 = true := by kernel_rfl
@[simp] theorem fc_call131 : callable Try.prog 131 = true := by kernel_rfl
@[simp] theorem fc_call132 : callable Try.prog 132 = true := by kernel_rfl
@[simp] theorem fc_call133 : callable Try.prog 133 = true := by kernel_rfl
@[simp] theorem fc_call134 : callable Try.prog 134 = true := by kernel_rfl
@[simp] theorem fc_call135 : callable Try.prog 135 = true := by kernel_rfl
@[simp] theorem fc_call136 : callable Try.prog 136 = true := by kernel_rfl
@[simp] theorem fc_call137 : callable Try.prog 137 = true := by kernel_rfl
@[simp] theorem fc_call138 : callable Try.prog 138 = true := by kernel_rfl
@[simp] theorem fc_call139 : callable Try.prog 139 = true := by kernel_rfl
@[simp] theorem fc_call140 : callable Try.prog 140 = true := by kernel_rfl
@[simp] theorem fc_call141 : callable Try.prog 141 = true := by kernel_rfl
@[simp] theorem fc_call142 : callable Try.prog 142 = true := by kernel_rfl
@[simp] theorem fc_call143 : callable Try.prog 143 = true := by kernel_rfl
attribute [simp] Try.underlying0 Try.underlying1 Try.underlying2 Try.underlying3 Try.underlying4 Try.underlying5 Try.underlying6 Try.underlying7 Try.underlying8 Try.underlying9 Try.underlying10 Try.underlying11 Try.underlying12 Try.underlying13 Try.underlying14 Try.underlying15 Try.underlying16 Try.underlying17 Try.underlying18 Try.underlying19 Try.underlying20 Try.underlying21 Try.underlying22 Try.underlying23 Try.underlying24 Try.underlying25 Try.underlying26 Try.underlying27 Try.underlying28 Try.underlying29 Try.underlying30 Try.underlying31 Try.underlying32 Try.underlying33 Try.underlying34 Try.underlying35 Try.underlying36 Try.underlying37 Try.underlying38 Try.underlying39 Try.underlying40 Try.underlying41 Try.underlying42 Try.underlying43 Try.underlying44 Try.underlying45 Try.underlying46 Try.underlying47 Try.underlying48 Try.underlying49 Try.underlying50 Try.underlying51 Try.underlying52 Try.underlying53 Try.underlying54 Try.underlying55 Try.underlying56 Try.underlying57 Try.underlying58 Try.underlying59 Try.underlying60 Try.underlying61 Try.underlying62 Try.underlying63 Try.underlying64 Try.underlying65 Try.underlying66 Try.underlying67 Try.underlying68 Try.underlying69 Try.underlying70 Try.underlying71 Try.underlying72 Try.underlying73 Try.underlying74 Try.underlying75 Try.underlying76 Try.underlying77 Try.underlying78 Try.underlying79 Try.underlying80 Try.underlying81 Try.underlying82 Try.underlying83 Try.underlying84 Try.underlying85 Try.underlying86 Try.underlying87 Try.underlying88 Try.underlying89 Try.underlying90 Try.underlying91 Try.underlying92 Try.underlying93 Try.underlying94 Try.underlying95 Try.underlying96 Try.underlying97 Try.underlying98 Try.underlying99 Try.underlying100 Try.underlying101 Try.underlying102 Try.underlying103 Try.underlying104 Try.underlying105 Try.underlying106 Try.underlying107 Try.underlying108 Try.underlying109 Try.underlying110 Try.underlying111 Try.underlying112 Try.underlying113 Try.underlying114 Try.underlying115 Try.underlying116 Try.underlying117 Try.underlying118 Try.underlying119 Try.underlying120 Try.underlying121 Try.underlying122 Try.underlying123 Try.underlying124 Try.underlying125 Try.underlying126 Try.underlying127 Try.underlying128 Try.underlying129 Try.underlying130 Try.underlying131 Try.underlying132 Try.underlying133 Try.underlying134 Try.underlying135 Try.underlying136 Try.underlying137 Try.underlying138 Try.underlying139 Try.underlying140 Try.underlying141 Try.underlying142 Try.underlying143 Try.underlying144 Try.underlying145 Try.underlying146 Try.underlying147 Try.underlying148 Try.underlying149 Try.underlying150 Try.underlying151 Try.underlying152 Try.underlying153 Try.underlying154 Try.underlying155 Try.underlying156 Try.underlying157 Try.underlying158 Try.underlying159 Try.underlying160 Try.underlying161 Try.underlying162 Try.underlying163 Try.underlying164 Try.underlying165 Try.underlying166 Try.underlying167 Try.underlying168 Try.underlying169 Try.underlying170 Try.underlying171 Try.underlying172 Try.underlying173 Try.underlying174 Try.underlying175 Try.underlying176 Try.underlying177 Try.underlying178 Try.underlying179 Try.underlying180 Try.underlying181 Try.underlying182 Try.underlying183 Try.underlying184 Try.underlying185 Try.underlying186 Try.underlying187 Try.underlying188 Try.underlying189 Try.underlying190 Try.underlying191 Try.underlying192 Try.underlying193 Try.ntmps0 Try.results0 Try.ntmps1 Try.results1 Try.ntmps2 Try.results2 Try.ntmps3 Try.results3 Try.ntmps4 Try.results4 Try.ntmps5 Try.results5 Try.ntmps6 Try.results6 Try.ntmps7 Try.results7 Try.ntmps8 Try.results8 Try.ntmps9 Try.results9 Try.ntmps10 Try.results10 Try.ntmps11 Try.results11 Try.ntmps12 Try.results12 Try.ntmps13 Try.results13 Try.ntmps14 Try.results14 Try.ntmps15 Try.results15 Try.ntmps16 Try.results16 Try.ntmps17 Try.results17 Try.ntmps18 Try.results18 Try.ntmps19 Try.results19 Try.ntmps20 Try.results20 Try.ntmps21 Try.results21 Try.ntmps22 Try.results22 Try.ntmps23 Try.results23 Try.ntmps24 Try.results24 Try.ntmps25 Try.results25 Try.ntmps26 Try.results26 Try.ntmps27 Try.results27 Try.ntmps28 Try.results28 Try.ntmps29 Try.results29 Try.ntmps30 Try.results30 Try.ntmps31 Try.results31 Try.ntmps32 Try.results32 Try.ntmps33 Try.results33 Try.ntmps34 Try.results34 Try.ntmps35 Try.results35 Try.ntmps36 Try.results36 Try.ntmps37 Try.results37 Try.ntmps38 Try.results38 Try.ntmps39 Try.results39 Try.ntmps40 Try.results40 Try.ntmps41 Try.results41 Try.ntmps42 Try.results42 Try.ntmps43 Try.results43 Try.ntmps44 Try.results44 Try.ntmps45 Try.results45 Try.ntmps46 Try.results46 Try.ntmps47 Try.results47 Try.ntmps48 Try.results48 Try.ntmps49 Try.results49 Try.ntmps50 Try.results50 Try.ntmps51 Try.results51 Try.ntmps52 Try.results52 Try.ntmps53 Try.results53 Try.ntmps54 Try.results54 Try.ntmps55 Try.results55 Try.ntmps56 Try.results56 Try.ntmps57 Try.results57 Try.ntmps58 Try.results58 Try.ntmps59 Try.results59 Try.ntmps60 Try.results60 Try.ntmps61 Try.results61 Try.ntmps62 Try.results62 Try.ntmps63 Try.results63 Try.ntmps64 Try.results64 Try.ntmps65 Try.results65 Try.ntmps66 Try.results66 Try.ntmps67 Try.results67 Try.ntmps68 Try.results68 Try.ntmps69 Try.results69 Try.ntmps70 Try.results70 Try.ntmps71 Try.results71 Try.ntmps72 Try.results72 Try.ntmps73 Try.results73 Try.ntmps74 Try.results74 Try.ntmps75 Try.results75 Try.ntmps76 Try.results76 Try.ntmps77 Try.results77 Try.ntmps78 Try.results78 Try.ntmps79 Try.results79 Try.ntmps80 Try.results80 Try.ntmps81 Try.results81 Try.ntmps82 Try.results82 Try.ntmps83 Try.results83 Try.ntmps84 Try.results84 Try.ntmps85 Try.results85 Try.ntmps86 Try.results86 Try.ntmps87 Try.results87 Try.ntmps88 Try.results88 Try.ntmps89 Try.results89 Try.ntmps90 Try.results90 Try.ntmps91 Try.results91 Try.ntmps92 Try.results92 Try.ntmps93 Try.results93 Try.ntmps94 Try.results94 Try.ntmps95 Try.results95 Try.ntmps96 Try.results96 Try.ntmps97 Try.results97 Try.ntmps98 Try.results98 Try.ntmps99 Try.results99 Try.ntmps100 Try.results100 Try.ntmps101 Try.results101 Try.ntmps102 Try.results102 Try.ntmps103 Try.results103 Try.ntmps104 Try.results104 Try.ntmps105 Try.results105 Try.ntmps106 Try.results106 Try.ntmps107 Try.results107 Try.ntmps108 Try.results108 Try.ntmps109 Try.results109 Try.ntmps110 Try.results110 Try.ntmps111 Try.results111 Try.ntmps112 Try.results112 Try.ntmps113 Try.results113 Try.ntmps114 Try.results114 Try.ntmps115 Try.results115 Try.ntmps116 Try.results116 Try.ntmps117 Try.results117 Try.ntmps118 Try.results118 Try.ntmps119 Try.results119 Try.ntmps120 Try.results120 Try.ntmps121 Try.results121 Try.ntmps122 Try.results122 Try.ntmps123 Try.results123 Try.ntmps124 Try.results124 Try.ntmps125 Try.results125 Try.ntmps126 Try.results126 Try.ntmps127 Try.results127 Try.ntmps128 Try.results128 Try.ntmps129 Try.results129 Try.ntmps130 Try.results130 Try.ntmps131 Try.results131 Try.ntmps132 Try.results132 Try.ntmps133 Try.results133 Try.ntmps134 Try.results134 Try.ntmps135 Try.results135 Try.ntmps136 Try.results136 Try.ntmps137 Try.results137 Try.ntmps138 Try.results138 Try.ntmps139 Try.results139 Try.ntmps140 Try.results140 Try.ntmps141 Try.results141 Try.ntmps142 Try.results142 Try.ntmps143 Try.results143 Try.ntmps144 Try.results144 Try.ntmps145 Try.results145 Try.ntmps146 Try.results146 Try.ntmps147 Try.results147 Try.ntmps148 Try.results148 Try.ntmps149 Try.results149 Try.ntmps150 Try.results150 Try.ntmps151 Try.results151 Try.ntmps152 Try.results152 Try.ntmps153 Try.results153 Try.ntmps154 Try.results154 Try.ntmps155 Try.results155 Try.ntmps156 Try.results156 Try.ntmps157 Try.results157 Try.ntmps158 Try.results158 Try.ntmps159 Try.results159 Try.ntmps160 Try.results160
end Go.Proofs.Ytaahkamnpobofaa
