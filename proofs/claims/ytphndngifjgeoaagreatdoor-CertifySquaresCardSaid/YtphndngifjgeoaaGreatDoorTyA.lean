/- Closed facts on the types and functions of the translation, as the by-value walk asks them; each by the kernel. -/
import Derived.Test.YtphndngifjgeoaaGreatDoorProg
import Derived.Test.YtphndngifjgeoaaGreatDoorBvO
namespace Go.Proofs.YtphndngifjgeoaaGreatDoor
open Go.Proofs
/-- A call's step. -/
abbrev PCs (g : FuncId) : Prop := ∀ {s : St} {dr : Bool} {d : Option Tmp} {K : St → Prop} (l : List Operand) (ts : Array TypeId), PStepC Tryz.prog dr d (.call { callee := .value (.func g), args := l.toArray, argTypes := ts }) K s ↔ okDst s d ∧ CallK Tryz.prog dr g (l.map s.ev) s.next s d K
@[simp] theorem ty2_agg : tagg Tryz.prog 2 = some false := by kernel_rfl
@[simp] theorem ty2_size : tsize Tryz.prog 2 = some 1 := by kernel_rfl
@[simp] theorem ty2_bytes : tbytes Tryz.prog 2 = some 8 := by kernel_rfl
@[simp] theorem ty2_some : tsome Tryz.prog 2 = true := by kernel_rfl
@[simp] theorem ty2_slice : tslice Tryz.prog 2 = none := by kernel_rfl
@[simp] theorem ty2_int : tint Tryz.prog 2 = some .i64 := by kernel_rfl
@[simp] theorem ty2_bool : tbool Tryz.prog 2 = false := by kernel_rfl
@[simp] theorem ty2_zero : tzero Tryz.prog 2 = some (.int .i64 0) := by kernel_rfl
@[simp] theorem ty3_agg : tagg Tryz.prog 3 = some false := by kernel_rfl
@[simp] theorem ty3_size : tsize Tryz.prog 3 = some 1 := by kernel_rfl
@[simp] theorem ty3_bytes : tbytes Tryz.prog 3 = some 8 := by kernel_rfl
@[simp] theorem ty3_some : tsome Tryz.prog 3 = true := by kernel_rfl
@[simp] theorem ty3_slice : tslice Tryz.prog 3 = none := by kernel_rfl
@[simp] theorem ty3_int : tint Tryz.prog 3 = some .i64 := by kernel_rfl
@[simp] theorem ty3_bool : tbool Tryz.prog 3 = false := by kernel_rfl
@[simp] theorem ty3_zero : tzero Tryz.prog 3 = some (.int .i64 0) := by kernel_rfl
@[simp] theorem ty4_agg : tagg Tryz.prog 4 = some false := by kernel_rfl
@[simp] theorem ty4_size : tsize Tryz.prog 4 = some 1 := by kernel_rfl
@[simp] theorem ty4_bytes : tbytes Tryz.prog 4 = some 1 := by kernel_rfl
@[simp] theorem ty4_some : tsome Tryz.prog 4 = true := by kernel_rfl
@[simp] theorem ty4_slice : tslice Tryz.prog 4 = none := by kernel_rfl
@[simp] theorem ty4_bool : tbool Tryz.prog 4 = true := by kernel_rfl
@[simp] theorem ty4_zero : tzero Tryz.prog 4 = some (.bool false) := by kernel_rfl
@[simp] theorem ty5_agg : tagg Tryz.prog 5 = some false := by kernel_rfl
@[simp] theorem ty5_size : tsize Tryz.prog 5 = some 1 := by kernel_rfl
@[simp] theorem ty5_bytes : tbytes Tryz.prog 5 = some 1 := by kernel_rfl
@[simp] theorem ty5_some : tsome Tryz.prog 5 = true := by kernel_rfl
@[simp] theorem ty5_slice : tslice Tryz.prog 5 = none := by kernel_rfl
@[simp] theorem ty5_int : tint Tryz.prog 5 = some .u8 := by kernel_rfl
@[simp] theorem ty5_bool : tbool Tryz.prog 5 = false := by kernel_rfl
@[simp] theorem ty5_zero : tzero Tryz.prog 5 = some (.int .u8 0) := by kernel_rfl
@[simp] theorem ty9_agg : tagg Tryz.prog 9 = some false := by kernel_rfl
@[simp] theorem ty9_size : tsize Tryz.prog 9 = some 1 := by kernel_rfl
@[simp] theorem ty9_bytes : tbytes Tryz.prog 9 = some 16 := by kernel_rfl
@[simp] theorem ty9_some : tsome Tryz.prog 9 = true := by kernel_rfl
@[simp] theorem ty9_slice : tslice Tryz.prog 9 = none := by kernel_rfl
@[simp] theorem ty9_bool : tbool Tryz.prog 9 = false := by kernel_rfl
@[simp] theorem ty22_agg : tagg Tryz.prog 22 = some false := by kernel_rfl
@[simp] theorem ty22_size : tsize Tryz.prog 22 = some 1 := by kernel_rfl
@[simp] theorem ty22_bytes : tbytes Tryz.prog 22 = some 24 := by kernel_rfl
@[simp] theorem ty22_some : tsome Tryz.prog 22 = true := by kernel_rfl
@[simp] theorem ty22_slice : tslice Tryz.prog 22 = some 49 := by kernel_rfl
@[simp] theorem ty22_bool : tbool Tryz.prog 22 = false := by kernel_rfl
@[simp] theorem ty22_zero : tzero Tryz.prog 22 = some (.sl ⟨0, 0, 0⟩ 1 []) := by kernel_rfl
@[simp] theorem ty24_agg : tagg Tryz.prog 24 = some true := by kernel_rfl
@[simp] theorem ty24_size : tsize Tryz.prog 24 = some 3 := by kernel_rfl
@[simp] theorem ty24_bytes : tbytes Tryz.prog 24 = some 40 := by kernel_rfl
@[simp] theorem ty24_some : tsome Tryz.prog 24 = true := by kernel_rfl
@[simp] theorem ty24_fld0 : tfld Tryz.prog 24 0 = some (0, 1) := by kernel_rfl
@[simp] theorem ty24_fldAgg0 : tfldAgg Tryz.prog 24 0 = some false := by kernel_rfl
@[simp] theorem ty24_fld1 : tfld Tryz.prog 24 1 = some (1, 1) := by kernel_rfl
@[simp] theorem ty24_fldAgg1 : tfldAgg Tryz.prog 24 1 = some false := by kernel_rfl
@[simp] theorem ty24_fld2 : tfld Tryz.prog 24 2 = some (2, 1) := by kernel_rfl
@[simp] theorem ty24_fldAgg2 : tfldAgg Tryz.prog 24 2 = some false := by kernel_rfl
@[simp] theorem ty24_places : tplaces Tryz.prog 24 = some [(0, 1), (1, 1), (2, 1)] := by kernel_rfl
@[simp] theorem ty24_slice : tslice Tryz.prog 24 = none := by kernel_rfl
@[simp] theorem ty24_aplaces : aplaces Tryz.prog 24 = none := by kernel_rfl
@[simp] theorem ty24_bool : tbool Tryz.prog 24 = false := by kernel_rfl
@[simp] theorem ty24_zero : tzero Tryz.prog 24 = some (.agg [.int .i64 0, .int .i64 0, .sl ⟨0, 0, 0⟩ 1 []]) := by kernel_rfl
@[simp] theorem ty25_agg : tagg Tryz.prog 25 = some false := by kernel_rfl
@[simp] theorem ty25_size : tsize Tryz.prog 25 = some 1 := by kernel_rfl
@[simp] theorem ty25_bytes : tbytes Tryz.prog 25 = some 24 := by kernel_rfl
@[simp] theorem ty25_some : tsome Tryz.prog 25 = true := by kernel_rfl
@[simp] theorem ty25_slice : tslice Tryz.prog 25 = some 56 := by kernel_rfl
@[simp] theorem ty25_bool : tbool Tryz.prog 25 = false := by kernel_rfl
@[simp] theorem ty25_zero : tzero Tryz.prog 25 = some (.sl ⟨0, 0, 0⟩ 1 []) := by kernel_rfl
@[simp] theorem ty27_agg : tagg Tryz.prog 27 = some true := by kernel_rfl
@[simp] theorem ty27_size : tsize Tryz.prog 27 = some 2 := by kernel_rfl
@[simp] theorem ty27_bytes : tbytes Tryz.prog 27 = some 32 := by kernel_rfl
@[simp] theorem ty27_some : tsome Tryz.prog 27 = true := by kernel_rfl
@[simp] theorem ty27_fld0 : tfld Tryz.prog 27 0 = some (0, 1) := by kernel_rfl
@[simp] theorem ty27_fldAgg0 : tfldAgg Tryz.prog 27 0 = some false := by kernel_rfl
@[simp] theorem ty27_fld1 : tfld Tryz.prog 27 1 = some (1, 1) := by kernel_rfl
@[simp] theorem ty27_fldAgg1 : tfldAgg Tryz.prog 27 1 = some false := by kernel_rfl
@[simp] theorem ty27_places : tplaces Tryz.prog 27 = some [(0, 1), (1, 1)] := by kernel_rfl
@[simp] theorem ty27_slice : tslice Tryz.prog 27 = none := by kernel_rfl
@[simp] theorem ty27_aplaces : aplaces Tryz.prog 27 = none := by kernel_rfl
@[simp] theorem ty27_bool : tbool Tryz.prog 27 = false := by kernel_rfl
@[simp] theorem ty27_zero : tzero Tryz.prog 27 = some (.agg [.bool false, .sl ⟨0, 0, 0⟩ 1 []]) := by kernel_rfl
@[simp] theorem ty29_agg : tagg Tryz.prog 29 = some true := by kernel_rfl
@[simp] theorem ty29_size : tsize Tryz.prog 29 = some 3 := by kernel_rfl
@[simp] theorem ty29_bytes : tbytes Tryz.prog 29 = some 40 := by kernel_rfl
@[simp] theorem ty29_some : tsome Tryz.prog 29 = true := by kernel_rfl
@[simp] theorem ty29_fld0 : tfld Tryz.prog 29 0 = some (0, 2) := by kernel_rfl
@[simp] theorem ty29_fldAgg0 : tfldAgg Tryz.prog 29 0 = some true := by kernel_rfl
@[simp] theorem ty29_fld1 : tfld Tryz.prog 29 1 = some (2, 1) := by kernel_rfl
@[simp] theorem ty29_fldAgg1 : tfldAgg Tryz.prog 29 1 = some false := by kernel_rfl
@[simp] theorem ty29_places : tplaces Tryz.prog 29 = some [(0, 2), (2, 1)] := by kernel_rfl
@[simp] theorem ty29_slice : tslice Tryz.prog 29 = none := by kernel_rfl
@[simp] theorem ty29_aplaces : aplaces Tryz.prog 29 = none := by kernel_rfl
@[simp] theorem ty29_bool : tbool Tryz.prog 29 = false := by kernel_rfl
@[simp] theorem ty29_zero : tzero Tryz.prog 29 = some (.agg [.bool false, .sl ⟨0, 0, 0⟩ 1 [], .int .i64 0]) := by kernel_rfl
@[simp] theorem ty30_agg : tagg Tryz.prog 30 = some false := by kernel_rfl
@[simp] theorem ty30_size : tsize Tryz.prog 30 = some 1 := by kernel_rfl
@[simp] theorem ty30_bytes : tbytes Tryz.prog 30 = some 8 := by kernel_rfl
@[simp] theorem ty30_some : tsome Tryz.prog 30 = true := by kernel_rfl
@[simp] theorem ty30_slice : tslice Tryz.prog 30 = none := by kernel_rfl
@[simp] theorem ty30_int : tint Tryz.prog 30 = some .i64 := by kernel_rfl
@[simp] theorem ty30_bool : tbool Tryz.prog 30 = false := by kernel_rfl
@[simp] theorem ty30_zero : tzero Tryz.prog 30 = some (.int .i64 0) := by kernel_rfl
@[simp] theorem ty38_agg : tagg Tryz.prog 38 = some false := by kernel_rfl
@[simp] theorem ty38_size : tsize Tryz.prog 38 = some 1 := by kernel_rfl
@[simp] theorem ty38_bytes : tbytes Tryz.prog 38 = some 24 := by kernel_rfl
@[simp] theorem ty38_some : tsome Tryz.prog 38 = true := by kernel_rfl
@[simp] theorem ty38_slice : tslice Tryz.prog 38 = some 29 := by kernel_rfl
@[simp] theorem ty38_bool : tbool Tryz.prog 38 = false := by kernel_rfl
@[simp] theorem ty38_zero : tzero Tryz.prog 38 = some (.sl ⟨0, 0, 0⟩ 1 []) := by kernel_rfl
@[simp] theorem ty40_agg : tagg Tryz.prog 40 = some true := by kernel_rfl
@[simp] theorem ty40_size : tsize Tryz.prog 40 = some 3 := by kernel_rfl
@[simp] theorem ty40_bytes : tbytes Tryz.prog 40 = some 40 := by kernel_rfl
@[simp] theorem ty40_some : tsome Tryz.prog 40 = true := by kernel_rfl
@[simp] theorem ty40_fld0 : tfld Tryz.prog 40 0 = some (0, 1) := by kernel_rfl
@[simp] theorem ty40_fldAgg0 : tfldAgg Tryz.prog 40 0 = some false := by kernel_rfl
@[simp] theorem ty40_fld1 : tfld Tryz.prog 40 1 = some (1, 1) := by kernel_rfl
@[simp] theorem ty40_fldAgg1 : tfldAgg Tryz.prog 40 1 = some false := by kernel_rfl
@[simp] theorem ty40_fld2 : tfld Tryz.prog 40 2 = some (2, 1) := by kernel_rfl
@[simp] theorem ty40_fldAgg2 : tfldAgg Tryz.prog 40 2 = some false := by kernel_rfl
@[simp] theorem ty40_places : tplaces Tryz.prog 40 = some [(0, 1), (1, 1), (2, 1)] := by kernel_rfl
@[simp] theorem ty40_slice : tslice Tryz.prog 40 = none := by kernel_rfl
@[simp] theorem ty40_aplaces : aplaces Tryz.prog 40 = none := by kernel_rfl
@[simp] theorem ty40_bool : tbool Tryz.prog 40 = false := by kernel_rfl
@[simp] theorem ty40_zero : tzero Tryz.prog 40 = some (.agg [.int .i64 0, .int .i64 0, .sl ⟨0, 0, 0⟩ 1 []]) := by kernel_rfl
@[simp] theorem ty48_agg : tagg Tryz.prog 48 = some false := by kernel_rfl
@[simp] theorem ty48_size : tsize Tryz.prog 48 = some 1 := by kernel_rfl
@[simp] theorem ty48_bytes : tbytes Tryz.prog 48 = some 8 := by kernel_rfl
@[simp] theorem ty48_some : tsome Tryz.prog 48 = true := by kernel_rfl
@[simp] theorem ty48_slice : tslice Tryz.prog 48 = none := by kernel_rfl
@[simp] theorem ty48_int : tint Tryz.prog 48 = some .u64 := by kernel_rfl
@[simp] theorem ty48_bool : tbool Tryz.prog 48 = false := by kernel_rfl
@[simp] theorem ty48_zero : tzero Tryz.prog 48 = some (.int .u64 0) := by kernel_rfl
@[simp] theorem ty49_agg : tagg Tryz.prog 49 = some false := by kernel_rfl
@[simp] theorem ty49_size : tsize Tryz.prog 49 = some 1 := by kernel_rfl
@[simp] theorem ty49_bytes : tbytes Tryz.prog 49 = some 8 := by kernel_rfl
@[simp] theorem ty49_some : tsome Tryz.prog 49 = true := by kernel_rfl
@[simp] theorem ty49_slice : tslice Tryz.prog 49 = none := by kernel_rfl
@[simp] theorem ty49_int : tint Tryz.prog 49 = some .u64 := by kernel_rfl
@[simp] theorem ty49_bool : tbool Tryz.prog 49 = false := by kernel_rfl
@[simp] theorem ty49_zero : tzero Tryz.prog 49 = some (.int .u64 0) := by kernel_rfl
@[simp] theorem ty56_agg : tagg Tryz.prog 56 = some false := by kernel_rfl
@[simp] theorem ty56_size : tsize Tryz.prog 56 = some 1 := by kernel_rfl
@[simp] theorem ty56_bytes : tbytes Tryz.prog 56 = some 4 := by kernel_rfl
@[simp] theorem ty56_some : tsome Tryz.prog 56 = true := by kernel_rfl
@[simp] theorem ty56_slice : tslice Tryz.prog 56 = none := by kernel_rfl
@[simp] theorem ty56_int : tint Tryz.prog 56 = some .u32 := by kernel_rfl
@[simp] theorem ty56_bool : tbool Tryz.prog 56 = false := by kernel_rfl
@[simp] theorem ty56_zero : tzero Tryz.prog 56 = some (.int .u32 0) := by kernel_rfl
@[simp] theorem ty72_agg : tagg Tryz.prog 72 = some true := by kernel_rfl
@[simp] theorem ty72_size : tsize Tryz.prog 72 = some 9 := by kernel_rfl
@[simp] theorem ty72_bytes : tbytes Tryz.prog 72 = some 120 := by kernel_rfl
@[simp] theorem ty72_some : tsome Tryz.prog 72 = true := by kernel_rfl
@[simp] theorem ty72_slice : tslice Tryz.prog 72 = none := by kernel_rfl
@[simp] theorem ty72_arr : tarr Tryz.prog 72 = some (3, 24) := by kernel_rfl
@[simp] theorem ty72_places : tplaces Tryz.prog 72 = none := by kernel_rfl
@[simp] theorem ty72_aplaces : aplaces Tryz.prog 72 = some [(0, 3), (3, 3), (6, 3)] := by kernel_rfl
@[simp] theorem ty72_bool : tbool Tryz.prog 72 = false := by kernel_rfl
@[simp] theorem ty72_zero : tzero Tryz.prog 72 = some (.agg [.int .i64 0, .int .i64 0, .sl ⟨0, 0, 0⟩ 1 [], .int .i64 0, .int .i64 0, .sl ⟨0, 0, 0⟩ 1 [], .int .i64 0, .int .i64 0, .sl ⟨0, 0, 0⟩ 1 []]) := by kernel_rfl
@[simp] theorem ty73_agg : tagg Tryz.prog 73 = some false := by kernel_rfl
@[simp] theorem ty73_size : tsize Tryz.prog 73 = some 1 := by kernel_rfl
@[simp] theorem ty73_bytes : tbytes Tryz.prog 73 = some 24 := by kernel_rfl
@[simp] theorem ty73_some : tsome Tryz.prog 73 = true := by kernel_rfl
@[simp] theorem ty73_slice : tslice Tryz.prog 73 = some 74 := by kernel_rfl
@[simp] theorem ty73_bool : tbool Tryz.prog 73 = false := by kernel_rfl
@[simp] theorem ty73_zero : tzero Tryz.prog 73 = some (.sl ⟨0, 0, 0⟩ 1 []) := by kernel_rfl
@[simp] theorem ty74_agg : tagg Tryz.prog 74 = some false := by kernel_rfl
@[simp] theorem ty74_size : tsize Tryz.prog 74 = some 1 := by kernel_rfl
@[simp] theorem ty74_bytes : tbytes Tryz.prog 74 = some 24 := by kernel_rfl
@[simp] theorem ty74_some : tsome Tryz.prog 74 = true := by kernel_rfl
@[simp] theorem ty74_slice : tslice Tryz.prog 74 = some 27 := by kernel_rfl
@[simp] theorem ty74_bool : tbool Tryz.prog 74 = false := by kernel_rfl
@[simp] theorem ty74_zero : tzero Tryz.prog 74 = some (.sl ⟨0, 0, 0⟩ 1 []) := by kernel_rfl
@[simp] theorem ty91_agg : tagg Tryz.prog 91 = some true := by kernel_rfl
@[simp] theorem ty91_size : tsize Tryz.prog 91 = some 3 := by kernel_rfl
@[simp] theorem ty91_bytes : tbytes Tryz.prog 91 = some 24 := by kernel_rfl
@[simp] theorem ty91_some : tsome Tryz.prog 91 = true := by kernel_rfl
@[simp] theorem ty91_fld0 : tfld Tryz.prog 91 0 = some (0, 1) := by kernel_rfl
@[simp] theorem ty91_fldAgg0 : tfldAgg Tryz.prog 91 0 = some false := by kernel_rfl
@[simp] theorem ty91_fld1 : tfld Tryz.prog 91 1 = some (1, 1) := by kernel_rfl
@[simp] theorem ty91_fldAgg1 : tfldAgg Tryz.prog 91 1 = some false := by kernel_rfl
@[simp] theorem ty91_fld2 : tfld Tryz.prog 91 2 = some (2, 1) := by kernel_rfl
@[simp] theorem ty91_fldAgg2 : tfldAgg Tryz.prog 91 2 = some false := by kernel_rfl
@[simp] theorem ty91_places : tplaces Tryz.prog 91 = some [(0, 1), (1, 1), (2, 1)] := by kernel_rfl
@[simp] theorem ty91_slice : tslice Tryz.prog 91 = none := by kernel_rfl
@[simp] theorem ty91_aplaces : aplaces Tryz.prog 91 = none := by kernel_rfl
@[simp] theorem ty91_bool : tbool Tryz.prog 91 = false := by kernel_rfl
@[simp] theorem ty91_zero : tzero Tryz.prog 91 = some (.agg [.bool false, .int .i64 0, .int .u64 0]) := by kernel_rfl
@[simp] theorem ty94_agg : tagg Tryz.prog 94 = some false := by kernel_rfl
@[simp] theorem ty94_size : tsize Tryz.prog 94 = some 1 := by kernel_rfl
@[simp] theorem ty94_bytes : tbytes Tryz.prog 94 = some 8 := by kernel_rfl
@[simp] theorem ty94_some : tsome Tryz.prog 94 = true := by kernel_rfl
@[simp] theorem ty94_slice : tslice Tryz.prog 94 = none := by kernel_rfl
@[simp] theorem ty94_int : tint Tryz.prog 94 = some .u64 := by kernel_rfl
@[simp] theorem ty94_bool : tbool Tryz.prog 94 = false := by kernel_rfl
@[simp] theorem ty94_zero : tzero Tryz.prog 94 = some (.int .u64 0) := by kernel_rfl
@[simp] theorem ty97_agg : tagg Tryz.prog 97 = some false := by kernel_rfl
@[simp] theorem ty97_size : tsize Tryz.prog 97 = some 1 := by kernel_rfl
@[simp] theorem ty97_bytes : tbytes Tryz.prog 97 = some 8 := by kernel_rfl
@[simp] theorem ty97_some : tsome Tryz.prog 97 = true := by kernel_rfl
@[simp] theorem ty97_slice : tslice Tryz.prog 97 = none := by kernel_rfl
@[simp] theorem ty97_bool : tbool Tryz.prog 97 = false := by kernel_rfl
@[simp] theorem ty97_map : mapT Tryz.prog 97 := ⟨117, 3, 3, .i64, by kernel_rfl, by kernel_rfl, by kernel_rfl, by kernel_rfl, by kernel_rfl, by kernel_rfl⟩
@[simp] theorem ty97_zero : tzero Tryz.prog 97 = some (.undef) := by kernel_rfl
@[simp] theorem ty99_agg : tagg Tryz.prog 99 = some true := by kernel_rfl
@[simp] theorem ty99_size : tsize Tryz.prog 99 = some 2 := by kernel_rfl
@[simp] theorem ty99_bytes : tbytes Tryz.prog 99 = some 32 := by kernel_rfl
@[simp] theorem ty99_some : tsome Tryz.prog 99 = true := by kernel_rfl
@[simp] theorem ty99_fld0 : tfld Tryz.prog 99 0 = some (0, 1) := by kernel_rfl
@[simp] theorem ty99_fldAgg0 : tfldAgg Tryz.prog 99 0 = some false := by kernel_rfl
@[simp] theorem ty99_fld1 : tfld Tryz.prog 99 1 = some (1, 1) := by kernel_rfl
@[simp] theorem ty99_fldAgg1 : tfldAgg Tryz.prog 99 1 = some false := by kernel_rfl
@[simp] theorem ty99_places : tplaces Tryz.prog 99 = some [(0, 1), (1, 1)] := by kernel_rfl
@[simp] theorem ty99_slice : tslice Tryz.prog 99 = none := by kernel_rfl
@[simp] theorem ty99_aplaces : aplaces Tryz.prog 99 = none := by kernel_rfl
@[simp] theorem ty99_bool : tbool Tryz.prog 99 = false := by kernel_rfl
@[simp] theorem ty99_zero : tzero Tryz.prog 99 = some (.agg [.sl ⟨0, 0, 0⟩ 1 [], .undef]) := by kernel_rfl
@[simp] theorem ty117_agg : tagg Tryz.prog 117 = some true := by kernel_rfl
@[simp] theorem ty117_size : tsize Tryz.prog 117 = some 2 := by kernel_rfl
@[simp] theorem ty117_bytes : tbytes Tryz.prog 117 = some 16 := by kernel_rfl
@[simp] theorem ty117_some : tsome Tryz.prog 117 = true := by kernel_rfl
@[simp] theorem ty117_slice : tslice Tryz.prog 117 = none := by kernel_rfl
@[simp] theorem ty117_arr : tarr Tryz.prog 117 = some (2, 3) := by kernel_rfl
@[simp] theorem ty117_places : tplaces Tryz.prog 117 = none := by kernel_rfl
@[simp] theorem ty117_aplaces : aplaces Tryz.prog 117 = some [(0, 1), (1, 1)] := by kernel_rfl
@[simp] theorem ty117_bool : tbool Tryz.prog 117 = false := by kernel_rfl
@[simp] theorem ty117_zero : tzero Tryz.prog 117 = some (.agg [.int .i64 0, .int .i64 0]) := by kernel_rfl
@[simp] theorem ty120_agg : tagg Tryz.prog 120 = some false := by kernel_rfl
@[simp] theorem ty120_size : tsize Tryz.prog 120 = some 1 := by kernel_rfl
@[simp] theorem ty120_bytes : tbytes Tryz.prog 120 = some 24 := by kernel_rfl
@[simp] theorem ty120_some : tsome Tryz.prog 120 = true := by kernel_rfl
@[simp] theorem ty120_slice : tslice Tryz.prog 120 = some 3 := by kernel_rfl
@[simp] theorem ty120_bool : tbool Tryz.prog 120 = false := by kernel_rfl
@[simp] theorem ty120_zero : tzero Tryz.prog 120 = some (.sl ⟨0, 0, 0⟩ 1 []) := by kernel_rfl
@[simp] theorem ty123_agg : tagg Tryz.prog 123 = some true := by kernel_rfl
@[simp] theorem ty123_size : tsize Tryz.prog 123 = some 128 := by kernel_rfl
@[simp] theorem ty123_bytes : tbytes Tryz.prog 123 = some 2048 := by kernel_rfl
@[simp] theorem ty123_some : tsome Tryz.prog 123 = true := by kernel_rfl
@[simp] theorem ty123_slice : tslice Tryz.prog 123 = none := by kernel_rfl
@[simp] theorem ty123_arr : tarr Tryz.prog 123 = some (64, 27) := by kernel_rfl
@[simp] theorem ty123_bool : tbool Tryz.prog 123 = false := by kernel_rfl
@[simp] theorem ty123_zero : tzero Tryz.prog 123 = some (.agg (List.replicate 64 [.bool false, .sl ⟨0, 0, 0⟩ 1 []]).flatten) := by kernel_rfl
@[simp] theorem ty124_agg : tagg Tryz.prog 124 = some true := by kernel_rfl
@[simp] theorem ty124_size : tsize Tryz.prog 124 = some 32 := by kernel_rfl
@[simp] theorem ty124_bytes : tbytes Tryz.prog 124 = some 32 := by kernel_rfl
@[simp] theorem ty124_some : tsome Tryz.prog 124 = true := by kernel_rfl
@[simp] theorem ty124_slice : tslice Tryz.prog 124 = none := by kernel_rfl
@[simp] theorem ty124_arr : tarr Tryz.prog 124 = some (32, 5) := by kernel_rfl
@[simp] theorem ty124_bool : tbool Tryz.prog 124 = false := by kernel_rfl
@[simp] theorem ty124_zero : tzero Tryz.prog 124 = some (.agg [.int .u8 0, .int .u8 0, .int .u8 0, .int .u8 0, .int .u8 0, .int .u8 0, .int .u8 0, .int .u8 0, .int .u8 0, .int .u8 0, .int .u8 0, .int .u8 0, .int .u8 0, .int .u8 0, .int .u8 0, .int .u8 0, .int .u8 0, .int .u8 0, .int .u8 0, .int .u8 0, .int .u8 0, .int .u8 0, .int .u8 0, .int .u8 0, .int .u8 0, .int .u8 0, .int .u8 0, .int .u8 0, .int .u8 0, .int .u8 0, .int .u8 0, .int .u8 0]) := by kernel_rfl
theorem mixed : Tryz.prog.follows .mixedOrders = true := by kernel_rfl
@[simp ↓] theorem alloc2 {s : St} {dr : Bool} {d : Option Tmp} {K : St → Prop} : PStepC Tryz.prog dr d (.alloc 2) K s ↔ okDst s d ∧ K ((s.pushBox (PV.cells (.int .i64 0))).put d (.box s.boxes.length 0)) := PS_alloc ty2_zero ⟨rfl, rfl⟩
@[simp ↓] theorem alloc3 {s : St} {dr : Bool} {d : Option Tmp} {K : St → Prop} : PStepC Tryz.prog dr d (.alloc 3) K s ↔ okDst s d ∧ K ((s.pushBox (PV.cells (.int .i64 0))).put d (.box s.boxes.length 0)) := PS_alloc ty3_zero ⟨rfl, rfl⟩
@[simp ↓] theorem alloc4 {s : St} {dr : Bool} {d : Option Tmp} {K : St → Prop} : PStepC Tryz.prog dr d (.alloc 4) K s ↔ okDst s d ∧ K ((s.pushBox (PV.cells (.bool false))).put d (.box s.boxes.length 0)) := PS_alloc ty4_zero ⟨rfl, rfl⟩
@[simp ↓] theorem alloc5 {s : St} {dr : Bool} {d : Option Tmp} {K : St → Prop} : PStepC Tryz.prog dr d (.alloc 5) K s ↔ okDst s d ∧ K ((s.pushBox (PV.cells (.int .u8 0))).put d (.box s.boxes.length 0)) := PS_alloc ty5_zero ⟨rfl, rfl⟩
@[simp ↓] theorem alloc22 {s : St} {dr : Bool} {d : Option Tmp} {K : St → Prop} : PStepC Tryz.prog dr d (.alloc 22) K s ↔ okDst s d ∧ K ((s.pushBox (PV.cells (.sl ⟨0, 0, 0⟩ 1 []))).put d (.box s.boxes.length 0)) := PS_alloc ty22_zero ⟨rfl, rfl⟩
@[simp ↓] theorem app22 {s : St} {dr : Bool} {d : Option Tmp} {K : St → Prop} (x y : Operand) : PStepC Tryz.prog dr d (.call { callee := .builtin .append, args := #[x, y], argTypes := #[22, 22] }) K s ↔ okDst s d ∧ AppK 1 8 (s.ev x) (s.ev y) s (fun s' v => K (s'.put d v)) := PS_appendK ty22_slice ty49_size ty49_bytes ty49_zero ⟨by decide, by decide, rfl, rfl⟩ x y
@[simp ↓] theorem mk22 {s : St} {dr : Bool} {d : Option Tmp} {K : St → Prop} (x y : Operand) : PStepC Tryz.prog dr d (.makeSlice 22 x y) K s ↔ okDst s d ∧ MakeK 1 8 (.int .u64 0) (s.ev x) (s.ev y) s (fun s' v => K (s'.put d v)) := PS_makeK ty22_slice ty49_size ty49_bytes ty49_zero ⟨by decide, by decide, rfl, rfl, rfl, rfl⟩ x y
@[simp ↓] theorem bsl22 {s : St} {dr : Bool} {d : Option Tmp} {K : St → Prop} (n : Nat) (l : List (Nat × Operand)) : PStepC Tryz.prog dr d (.buildSlice 22 n l.toArray) K s ↔ okDst s d ∧ n * 1 ≤ 16777216 ∧ l.map (·.1) = List.range n ∧ ((l.map fun x => s.ev x.2).all fun v => v.sized && v.closed && v.cells.all PV.isCell && v.cells.length == 1) = true ∧ K ((s.fresh (n * 1)).put d (.sl ⟨s.next, s.next, 0⟩ 1 (l.map fun x => s.ev x.2))) := PS_buildK ty22_slice ty49_size ty49_zero ⟨by decide, rfl, rfl⟩ n l
@[simp ↓] theorem alloc24 {s : St} {dr : Bool} {d : Option Tmp} {K : St → Prop} : PStepC Tryz.prog dr d (.alloc 24) K s ↔ okDst s d ∧ K ((s.pushBox (PV.cells (.agg [.int .i64 0, .int .i64 0, .sl ⟨0, 0, 0⟩ 1 []]))).put d (.box s.boxes.length 0)) := PS_alloc ty24_zero ⟨rfl, rfl⟩
@[simp ↓] theorem alloc25 {s : St} {dr : Bool} {d : Option Tmp} {K : St → Prop} : PStepC Tryz.prog dr d (.alloc 25) K s ↔ okDst s d ∧ K ((s.pushBox (PV.cells (.sl ⟨0, 0, 0⟩ 1 []))).put d (.box s.boxes.length 0)) := PS_alloc ty25_zero ⟨rfl, rfl⟩
@[simp ↓] theorem app25 {s : St} {dr : Bool} {d : Option Tmp} {K : St → Prop} (x y : Operand) : PStepC Tryz.prog dr d (.call { callee := .builtin .append, args := #[x, y], argTypes := #[25, 25] }) K s ↔ okDst s d ∧ AppK 1 4 (s.ev x) (s.ev y) s (fun s' v => K (s'.put d v)) := PS_appendK ty25_slice ty56_size ty56_bytes ty56_zero ⟨by decide, by decide, rfl, rfl⟩ x y
@[simp ↓] theorem mk25 {s : St} {dr : Bool} {d : Option Tmp} {K : St → Prop} (x y : Operand) : PStepC Tryz.prog dr d (.makeSlice 25 x y) K s ↔ okDst s d ∧ MakeK 1 4 (.int .u32 0) (s.ev x) (s.ev y) s (fun s' v => K (s'.put d v)) := PS_makeK ty25_slice ty56_size ty56_bytes ty56_zero ⟨by decide, by decide, rfl, rfl, rfl, rfl⟩ x y
@[simp ↓] theorem bsl25 {s : St} {dr : Bool} {d : Option Tmp} {K : St → Prop} (n : Nat) (l : List (Nat × Operand)) : PStepC Tryz.prog dr d (.buildSlice 25 n l.toArray) K s ↔ okDst s d ∧ n * 1 ≤ 16777216 ∧ l.map (·.1) = List.range n ∧ ((l.map fun x => s.ev x.2).all fun v => v.sized && v.closed && v.cells.all PV.isCell && v.cells.length == 1) = true ∧ K ((s.fresh (n * 1)).put d (.sl ⟨s.next, s.next, 0⟩ 1 (l.map fun x => s.ev x.2))) := PS_buildK ty25_slice ty56_size ty56_zero ⟨by decide, rfl, rfl⟩ n l
@[simp ↓] theorem alloc27 {s : St} {dr : Bool} {d : Option Tmp} {K : St → Prop} : PStepC Tryz.prog dr d (.alloc 27) K s ↔ okDst s d ∧ K ((s.pushBox (PV.cells (.agg [.bool false, .sl ⟨0, 0, 0⟩ 1 []]))).put d (.box s.boxes.length 0)) := PS_alloc ty27_zero ⟨rfl, rfl⟩
@[simp ↓] theorem alloc29 {s : St} {dr : Bool} {d : Option Tmp} {K : St → Prop} : PStepC Tryz.prog dr d (.alloc 29) K s ↔ okDst s d ∧ K ((s.pushBox (PV.cells (.agg [.bool false, .sl ⟨0, 0, 0⟩ 1 [], .int .i64 0]))).put d (.box s.boxes.length 0)) := PS_alloc ty29_zero ⟨rfl, rfl⟩
@[simp ↓] theorem alloc30 {s : St} {dr : Bool} {d : Option Tmp} {K : St → Prop} : PStepC Tryz.prog dr d (.alloc 30) K s ↔ okDst s d ∧ K ((s.pushBox (PV.cells (.int .i64 0))).put d (.box s.boxes.length 0)) := PS_alloc ty30_zero ⟨rfl, rfl⟩
@[simp ↓] theorem alloc38 {s : St} {dr : Bool} {d : Option Tmp} {K : St → Prop} : PStepC Tryz.prog dr d (.alloc 38) K s ↔ okDst s d ∧ K ((s.pushBox (PV.cells (.sl ⟨0, 0, 0⟩ 1 []))).put d (.box s.boxes.length 0)) := PS_alloc ty38_zero ⟨rfl, rfl⟩
@[simp ↓] theorem app38 {s : St} {dr : Bool} {d : Option Tmp} {K : St → Prop} (x y : Operand) : PStepC Tryz.prog dr d (.call { callee := .builtin .append, args := #[x, y], argTypes := #[38, 38] }) K s ↔ okDst s d ∧ AppK 3 40 (s.ev x) (s.ev y) s (fun s' v => K (s'.put d v)) := PS_appendK ty38_slice ty29_size ty29_bytes ty29_zero ⟨by decide, by decide, rfl, rfl⟩ x y
@[simp ↓] theorem mk38 {s : St} {dr : Bool} {d : Option Tmp} {K : St → Prop} (x y : Operand) : PStepC Tryz.prog dr d (.makeSlice 38 x y) K s ↔ okDst s d ∧ MakeK 3 40 (.agg [.bool false, .sl ⟨0, 0, 0⟩ 1 [], .int .i64 0]) (s.ev x) (s.ev y) s (fun s' v => K (s'.put d v)) := PS_makeK ty38_slice ty29_size ty29_bytes ty29_zero ⟨by decide, by decide, rfl, rfl, rfl, rfl⟩ x y
@[simp ↓] theorem bsl38 {s : St} {dr : Bool} {d : Option Tmp} {K : St → Prop} (n : Nat) (l : List (Nat × Operand)) : PStepC Tryz.prog dr d (.buildSlice 38 n l.toArray) K s ↔ okDst s d ∧ n * 3 ≤ 16777216 ∧ l.map (·.1) = List.range n ∧ ((l.map fun x => s.ev x.2).all fun v => v.sized && v.closed && v.cells.all PV.isCell && v.cells.length == 3) = true ∧ K ((s.fresh (n * 3)).put d (.sl ⟨s.next, s.next, 0⟩ 3 (l.map fun x => s.ev x.2))) := PS_buildK ty38_slice ty29_size ty29_zero ⟨by decide, rfl, rfl⟩ n l
@[simp ↓] theorem alloc40 {s : St} {dr : Bool} {d : Option Tmp} {K : St → Prop} : PStepC Tryz.prog dr d (.alloc 40) K s ↔ okDst s d ∧ K ((s.pushBox (PV.cells (.agg [.int .i64 0, .int .i64 0, .sl ⟨0, 0, 0⟩ 1 []]))).put d (.box s.boxes.length 0)) := PS_alloc ty40_zero ⟨rfl, rfl⟩
@[simp ↓] theorem alloc48 {s : St} {dr : Bool} {d : Option Tmp} {K : St → Prop} : PStepC Tryz.prog dr d (.alloc 48) K s ↔ okDst s d ∧ K ((s.pushBox (PV.cells (.int .u64 0))).put d (.box s.boxes.length 0)) := PS_alloc ty48_zero ⟨rfl, rfl⟩
@[simp ↓] theorem alloc49 {s : St} {dr : Bool} {d : Option Tmp} {K : St → Prop} : PStepC Tryz.prog dr d (.alloc 49) K s ↔ okDst s d ∧ K ((s.pushBox (PV.cells (.int .u64 0))).put d (.box s.boxes.length 0)) := PS_alloc ty49_zero ⟨rfl, rfl⟩
@[simp ↓] theorem alloc56 {s : St} {dr : Bool} {d : Option Tmp} {K : St → Prop} : PStepC Tryz.prog dr d (.alloc 56) K s ↔ okDst s d ∧ K ((s.pushBox (PV.cells (.int .u32 0))).put d (.box s.boxes.length 0)) := PS_alloc ty56_zero ⟨rfl, rfl⟩
@[simp ↓] theorem alloc72 {s : St} {dr : Bool} {d : Option Tmp} {K : St → Prop} : PStepC Tryz.prog dr d (.alloc 72) K s ↔ okDst s d ∧ K ((s.pushBox (PV.cells (.agg [.int .i64 0, .int .i64 0, .sl ⟨0, 0, 0⟩ 1 [], .int .i64 0, .int .i64 0, .sl ⟨0, 0, 0⟩ 1 [], .int .i64 0, .int .i64 0, .sl ⟨0, 0, 0⟩ 1 []]))).put d (.box s.boxes.length 0)) := PS_alloc ty72_zero ⟨rfl, rfl⟩
@[simp ↓] theorem alloc73 {s : St} {dr : Bool} {d : Option Tmp} {K : St → Prop} : PStepC Tryz.prog dr d (.alloc 73) K s ↔ okDst s d ∧ K ((s.pushBox (PV.cells (.sl ⟨0, 0, 0⟩ 1 []))).put d (.box s.boxes.length 0)) := PS_alloc ty73_zero ⟨rfl, rfl⟩
@[simp ↓] theorem app73 {s : St} {dr : Bool} {d : Option Tmp} {K : St → Prop} (x y : Operand) : PStepC Tryz.prog dr d (.call { callee := .builtin .append, args := #[x, y], argTypes := #[73, 73] }) K s ↔ okDst s d ∧ AppK 1 24 (s.ev x) (s.ev y) s (fun s' v => K (s'.put d v)) := PS_appendK ty73_slice ty74_size ty74_bytes ty74_zero ⟨by decide, by decide, rfl, rfl⟩ x y
@[simp ↓] theorem mk73 {s : St} {dr : Bool} {d : Option Tmp} {K : St → Prop} (x y : Operand) : PStepC Tryz.prog dr d (.makeSlice 73 x y) K s ↔ okDst s d ∧ MakeK 1 24 (.sl ⟨0, 0, 0⟩ 1 []) (s.ev x) (s.ev y) s (fun s' v => K (s'.put d v)) := PS_makeK ty73_slice ty74_size ty74_bytes ty74_zero ⟨by decide, by decide, rfl, rfl, rfl, rfl⟩ x y
@[simp ↓] theorem bsl73 {s : St} {dr : Bool} {d : Option Tmp} {K : St → Prop} (n : Nat) (l : List (Nat × Operand)) : PStepC Tryz.prog dr d (.buildSlice 73 n l.toArray) K s ↔ okDst s d ∧ n * 1 ≤ 16777216 ∧ l.map (·.1) = List.range n ∧ ((l.map fun x => s.ev x.2).all fun v => v.sized && v.closed && v.cells.all PV.isCell && v.cells.length == 1) = true ∧ K ((s.fresh (n * 1)).put d (.sl ⟨s.next, s.next, 0⟩ 1 (l.map fun x => s.ev x.2))) := PS_buildK ty73_slice ty74_size ty74_zero ⟨by decide, rfl, rfl⟩ n l
@[simp ↓] theorem alloc74 {s : St} {dr : Bool} {d : Option Tmp} {K : St → Prop} : PStepC Tryz.prog dr d (.alloc 74) K s ↔ okDst s d ∧ K ((s.pushBox (PV.cells (.sl ⟨0, 0, 0⟩ 1 []))).put d (.box s.boxes.length 0)) := PS_alloc ty74_zero ⟨rfl, rfl⟩
@[simp ↓] theorem app74 {s : St} {dr : Bool} {d : Option Tmp} {K : St → Prop} (x y : Operand) : PStepC Tryz.prog dr d (.call { callee := .builtin .append, args := #[x, y], argTypes := #[74, 74] }) K s ↔ okDst s d ∧ AppK 2 32 (s.ev x) (s.ev y) s (fun s' v => K (s'.put d v)) := PS_appendK ty74_slice ty27_size ty27_bytes ty27_zero ⟨by decide, by decide, rfl, rfl⟩ x y
@[simp ↓] theorem mk74 {s : St} {dr : Bool} {d : Option Tmp} {K : St → Prop} (x y : Operand) : PStepC Tryz.prog dr d (.makeSlice 74 x y) K s ↔ okDst s d ∧ MakeK 2 32 (.agg [.bool false, .sl ⟨0, 0, 0⟩ 1 []]) (s.ev x) (s.ev y) s (fun s' v => K (s'.put d v)) := PS_makeK ty74_slice ty27_size ty27_bytes ty27_zero ⟨by decide, by decide, rfl, rfl, rfl, rfl⟩ x y
@[simp ↓] theorem bsl74 {s : St} {dr : Bool} {d : Option Tmp} {K : St → Prop} (n : Nat) (l : List (Nat × Operand)) : PStepC Tryz.prog dr d (.buildSlice 74 n l.toArray) K s ↔ okDst s d ∧ n * 2 ≤ 16777216 ∧ l.map (·.1) = List.range n ∧ ((l.map fun x => s.ev x.2).all fun v => v.sized && v.closed && v.cells.all PV.isCell && v.cells.length == 2) = true ∧ K ((s.fresh (n * 2)).put d (.sl ⟨s.next, s.next, 0⟩ 2 (l.map fun x => s.ev x.2))) := PS_buildK ty74_slice ty27_size ty27_zero ⟨by decide, rfl, rfl⟩ n l
@[simp ↓] theorem alloc91 {s : St} {dr : Bool} {d : Option Tmp} {K : St → Prop} : PStepC Tryz.prog dr d (.alloc 91) K s ↔ okDst s d ∧ K ((s.pushBox (PV.cells (.agg [.bool false, .int .i64 0, .int .u64 0]))).put d (.box s.boxes.length 0)) := PS_alloc ty91_zero ⟨rfl, rfl⟩
@[simp ↓] theorem alloc94 {s : St} {dr : Bool} {d : Option Tmp} {K : St → Prop} : PStepC Tryz.prog dr d (.alloc 94) K s ↔ okDst s d ∧ K ((s.pushBox (PV.cells (.int .u64 0))).put d (.box s.boxes.length 0)) := PS_alloc ty94_zero ⟨rfl, rfl⟩
@[simp ↓] theorem alloc99 {s : St} {dr : Bool} {d : Option Tmp} {K : St → Prop} : PStepC Tryz.prog dr d (.alloc 99) K s ↔ okDst s d ∧ K ((s.pushBox (PV.cells (.agg [.sl ⟨0, 0, 0⟩ 1 [], .undef]))).put d (.box s.boxes.length 0)) := PS_alloc1 ty99_zero rfl (by kernel_rfl)
@[simp ↓] theorem alloc117 {s : St} {dr : Bool} {d : Option Tmp} {K : St → Prop} : PStepC Tryz.prog dr d (.alloc 117) K s ↔ okDst s d ∧ K ((s.pushBox (PV.cells (.agg [.int .i64 0, .int .i64 0]))).put d (.box s.boxes.length 0)) := PS_alloc ty117_zero ⟨rfl, rfl⟩
@[simp ↓] theorem alloc120 {s : St} {dr : Bool} {d : Option Tmp} {K : St → Prop} : PStepC Tryz.prog dr d (.alloc 120) K s ↔ okDst s d ∧ K ((s.pushBox (PV.cells (.sl ⟨0, 0, 0⟩ 1 []))).put d (.box s.boxes.length 0)) := PS_alloc ty120_zero ⟨rfl, rfl⟩
@[simp ↓] theorem app120 {s : St} {dr : Bool} {d : Option Tmp} {K : St → Prop} (x y : Operand) : PStepC Tryz.prog dr d (.call { callee := .builtin .append, args := #[x, y], argTypes := #[120, 120] }) K s ↔ okDst s d ∧ AppK 1 8 (s.ev x) (s.ev y) s (fun s' v => K (s'.put d v)) := PS_appendK ty120_slice ty3_size ty3_bytes ty3_zero ⟨by decide, by decide, rfl, rfl⟩ x y
@[simp ↓] theorem mk120 {s : St} {dr : Bool} {d : Option Tmp} {K : St → Prop} (x y : Operand) : PStepC Tryz.prog dr d (.makeSlice 120 x y) K s ↔ okDst s d ∧ MakeK 1 8 (.int .i64 0) (s.ev x) (s.ev y) s (fun s' v => K (s'.put d v)) := PS_makeK ty120_slice ty3_size ty3_bytes ty3_zero ⟨by decide, by decide, rfl, rfl, rfl, rfl⟩ x y
@[simp ↓] theorem bsl120 {s : St} {dr : Bool} {d : Option Tmp} {K : St → Prop} (n : Nat) (l : List (Nat × Operand)) : PStepC Tryz.prog dr d (.buildSlice 120 n l.toArray) K s ↔ okDst s d ∧ n * 1 ≤ 16777216 ∧ l.map (·.1) = List.range n ∧ ((l.map fun x => s.ev x.2).all fun v => v.sized && v.closed && v.cells.all PV.isCell && v.cells.length == 1) = true ∧ K ((s.fresh (n * 1)).put d (.sl ⟨s.next, s.next, 0⟩ 1 (l.map fun x => s.ev x.2))) := PS_buildK ty120_slice ty3_size ty3_zero ⟨by decide, rfl, rfl⟩ n l
@[simp ↓] theorem alloc123 {s : St} {dr : Bool} {d : Option Tmp} {K : St → Prop} : PStepC Tryz.prog dr d (.alloc 123) K s ↔ okDst s d ∧ K ((s.pushBox (PV.cells (.agg (List.replicate 64 [.bool false, .sl ⟨0, 0, 0⟩ 1 []]).flatten))).put d (.box s.boxes.length 0)) := PS_alloc ty123_zero ⟨rfl, rfl⟩
@[simp ↓] theorem alloc124 {s : St} {dr : Bool} {d : Option Tmp} {K : St → Prop} : PStepC Tryz.prog dr d (.alloc 124) K s ↔ okDst s d ∧ K ((s.pushBox (PV.cells (.agg [.int .u8 0, .int .u8 0, .int .u8 0, .int .u8 0, .int .u8 0, .int .u8 0, .int .u8 0, .int .u8 0, .int .u8 0, .int .u8 0, .int .u8 0, .int .u8 0, .int .u8 0, .int .u8 0, .int .u8 0, .int .u8 0, .int .u8 0, .int .u8 0, .int .u8 0, .int .u8 0, .int .u8 0, .int .u8 0, .int .u8 0, .int .u8 0, .int .u8 0, .int .u8 0, .int .u8 0, .int .u8 0, .int .u8 0, .int .u8 0, .int .u8 0, .int .u8 0]))).put d (.box s.boxes.length 0)) := PS_alloc ty124_zero ⟨rfl, rfl⟩
@[simp] theorem call3 : callable Tryz.prog 3 := ⟨Tryz.f3, Tryz.func3, rfl, by kernel_rfl⟩
@[simp ↓] theorem pcall3 : PCs 3 := PS_callK call3
@[simp] theorem call4 : callable Tryz.prog 4 := ⟨Tryz.f4, Tryz.func4, rfl, by kernel_rfl⟩
@[simp ↓] theorem pcall4 : PCs 4 := PS_callK call4
@[simp] theorem call5 : callable Tryz.prog 5 := ⟨Tryz.f5, Tryz.func5, rfl, by kernel_rfl⟩
@[simp ↓] theorem pcall5 : PCs 5 := PS_callK call5
@[simp] theorem call6 : callable Tryz.prog 6 := ⟨Tryz.f6, Tryz.func6, rfl, by kernel_rfl⟩
@[simp ↓] theorem pcall6 : PCs 6 := PS_callK call6
@[simp] theorem call7 : callable Tryz.prog 7 := ⟨Tryz.f7, Tryz.func7, rfl, by kernel_rfl⟩
@[simp ↓] theorem pcall7 : PCs 7 := PS_callK call7
@[simp] theorem call8 : callable Tryz.prog 8 := ⟨Tryz.f8, Tryz.func8, rfl, by kernel_rfl⟩
@[simp ↓] theorem pcall8 : PCs 8 := PS_callK call8
@[simp] theorem call9 : callable Tryz.prog 9 := ⟨Tryz.f9, Tryz.func9, rfl, by kernel_rfl⟩
@[simp ↓] theorem pcall9 : PCs 9 := PS_callK call9
@[simp] theorem call10 : callable Tryz.prog 10 := ⟨Tryz.f10, Tryz.func10, rfl, by kernel_rfl⟩
@[simp ↓] theorem pcall10 : PCs 10 := PS_callK call10
@[simp] theorem call11 : callable Tryz.prog 11 := ⟨Tryz.f11, Tryz.func11, rfl, by kernel_rfl⟩
@[simp ↓] theorem pcall11 : PCs 11 := PS_callK call11
@[simp] theorem call12 : callable Tryz.prog 12 := ⟨Tryz.f12, Tryz.func12, rfl, by kernel_rfl⟩
@[simp ↓] theorem pcall12 : PCs 12 := PS_callK call12
@[simp] theorem call13 : callable Tryz.prog 13 := ⟨Tryz.f13, Tryz.func13, rfl, by kernel_rfl⟩
@[simp ↓] theorem pcall13 : PCs 13 := PS_callK call13
@[simp] theorem call14 : callable Tryz.prog 14 := ⟨Tryz.f14, Tryz.func14, rfl, by kernel_rfl⟩
@[simp ↓] theorem pcall14 : PCs 14 := PS_callK call14
@[simp] theorem call15 : callable Tryz.prog 15 := ⟨Tryz.f15, Tryz.func15, rfl, by kernel_rfl⟩
@[simp ↓] theorem pcall15 : PCs 15 := PS_callK call15
@[simp] theorem call16 : callable Tryz.prog 16 := ⟨Tryz.f16, Tryz.func16, rfl, by kernel_rfl⟩
@[simp ↓] theorem pcall16 : PCs 16 := PS_callK call16
@[simp] theorem call17 : callable Tryz.prog 17 := ⟨Tryz.f17, Tryz.func17, rfl, by kernel_rfl⟩
@[simp ↓] theorem pcall17 : PCs 17 := PS_callK call17
@[simp] theorem call18 : callable Tryz.prog 18 := ⟨Tryz.f18, Tryz.func18, rfl, by kernel_rfl⟩
@[simp ↓] theorem pcall18 : PCs 18 := PS_callK call18
@[simp] theorem call19 : callable Tryz.prog 19 := ⟨Tryz.f19, Tryz.func19, rfl, by kernel_rfl⟩
@[simp ↓] theorem pcall19 : PCs 19 := PS_callK call19
@[simp] theorem call20 : callable Tryz.prog 20 := ⟨Tryz.f20, Tryz.func20, rfl, by kernel_rfl⟩
@[simp ↓] theorem pcall20 : PCs 20 := PS_callK call20
@[simp] theorem call21 : callable Tryz.prog 21 := ⟨Tryz.f21, Tryz.func21, rfl, by kernel_rfl⟩
@[simp ↓] theorem pcall21 : PCs 21 := PS_callK call21
@[simp] theorem call22 : callable Tryz.prog 22 := ⟨Tryz.f22, Tryz.func22, rfl, by kernel_rfl⟩
@[simp ↓] theorem pcall22 : PCs 22 := PS_callK call22
@[simp] theorem call23 : callable Tryz.prog 23 := ⟨Tryz.f23, Tryz.func23, rfl, by kernel_rfl⟩
@[simp ↓] theorem pcall23 : PCs 23 := PS_callK call23
@[simp] theorem call24 : callable Tryz.prog 24 := ⟨Tryz.f24, Tryz.func24, rfl, by kernel_rfl⟩
@[simp ↓] theorem pcall24 : PCs 24 := PS_callK call24
@[simp] theorem call25 : callable Tryz.prog 25 := ⟨Tryz.f25, Tryz.func25, rfl, by kernel_rfl⟩
@[simp ↓] theorem pcall25 : PCs 25 := PS_callK call25
@[simp] theorem call26 : callable Tryz.prog 26 := ⟨Tryz.f26, Tryz.func26, rfl, by kernel_rfl⟩
@[simp ↓] theorem pcall26 : PCs 26 := PS_callK call26
@[simp] theorem call27 : callable Tryz.prog 27 := ⟨Tryz.f27, Tryz.func27, rfl, by kernel_rfl⟩
@[simp ↓] theorem pcall27 : PCs 27 := PS_callK call27
@[simp] theorem call28 : callable Tryz.prog 28 := ⟨Tryz.f28, Tryz.func28, rfl, by kernel_rfl⟩
@[simp ↓] theorem pcall28 : PCs 28 := PS_callK call28
@[simp] theorem call29 : callable Tryz.prog 29 := ⟨Tryz.f29, Tryz.func29, rfl, by kernel_rfl⟩
@[simp ↓] theorem pcall29 : PCs 29 := PS_callK call29
@[simp] theorem call30 : callable Tryz.prog 30 := ⟨Tryz.f30, Tryz.func30, rfl, by kernel_rfl⟩
@[simp ↓] theorem pcall30 : PCs 30 := PS_callK call30
@[simp] theorem call31 : callable Tryz.prog 31 := ⟨Tryz.f31, Tryz.func31, rfl, by kernel_rfl⟩
@[simp ↓] theorem pcall31 : PCs 31 := PS_callK call31
@[simp] theorem call32 : callable Tryz.prog 32 := ⟨Tryz.f32, Tryz.func32, rfl, by kernel_rfl⟩
@[simp ↓] theorem pcall32 : PCs 32 := PS_callK call32
@[simp] theorem call33 : callable Tryz.prog 33 := ⟨Tryz.f33, Tryz.func33, rfl, by kernel_rfl⟩
@[simp ↓] theorem pcall33 : PCs 33 := PS_callK call33
@[simp] theorem call34 : callable Tryz.prog 34 := ⟨Tryz.f34, Tryz.func34, rfl, by kernel_rfl⟩
@[simp ↓] theorem pcall34 : PCs 34 := PS_callK call34
@[simp] theorem call35 : callable Tryz.prog 35 := ⟨Tryz.f35, Tryz.func35, rfl, by kernel_rfl⟩
@[simp ↓] theorem pcall35 : PCs 35 := PS_callK call35
@[simp] theorem call36 : callable Tryz.prog 36 := ⟨Tryz.f36, Tryz.func36, rfl, by kernel_rfl⟩
@[simp ↓] theorem pcall36 : PCs 36 := PS_callK call36
@[simp] theorem call37 : callable Tryz.prog 37 := ⟨Tryz.f37, Tryz.func37, rfl, by kernel_rfl⟩
@[simp ↓] theorem pcall37 : PCs 37 := PS_callK call37
@[simp] theorem call38 : callable Tryz.prog 38 := ⟨Tryz.f38, Tryz.func38, rfl, by kernel_rfl⟩
@[simp ↓] theorem pcall38 : PCs 38 := PS_callK call38
@[simp] theorem call39 : callable Tryz.prog 39 := ⟨Tryz.f39, Tryz.func39, rfl, by kernel_rfl⟩
@[simp ↓] theorem pcall39 : PCs 39 := PS_callK call39
@[simp] theorem call40 : callable Tryz.prog 40 := ⟨Tryz.f40, Tryz.func40, rfl, by kernel_rfl⟩
@[simp ↓] theorem pcall40 : PCs 40 := PS_callK call40
@[simp] theorem call41 : callable Tryz.prog 41 := ⟨Tryz.f41, Tryz.func41, rfl, by kernel_rfl⟩
@[simp ↓] theorem pcall41 : PCs 41 := PS_callK call41
@[simp] theorem call42 : callable Tryz.prog 42 := ⟨Tryz.f42, Tryz.func42, rfl, by kernel_rfl⟩
@[simp ↓] theorem pcall42 : PCs 42 := PS_callK call42
@[simp] theorem call43 : callable Tryz.prog 43 := ⟨Tryz.f43, Tryz.func43, rfl, by kernel_rfl⟩
@[simp ↓] theorem pcall43 : PCs 43 := PS_callK call43
@[simp] theorem call44 : callable Tryz.prog 44 := ⟨Tryz.f44, Tryz.func44, rfl, by kernel_rfl⟩
@[simp ↓] theorem pcall44 : PCs 44 := PS_callK call44
@[simp] theorem call45 : callable Tryz.prog 45 := ⟨Tryz.f45, Tryz.func45, rfl, by kernel_rfl⟩
@[simp ↓] theorem pcall45 : PCs 45 := PS_callK call45
@[simp] theorem call46 : callable Tryz.prog 46 := ⟨Tryz.f46, Tryz.func46, rfl, by kernel_rfl⟩
@[simp ↓] theorem pcall46 : PCs 46 := PS_callK call46
@[simp] theorem call47 : callable Tryz.prog 47 := ⟨Tryz.f47, Tryz.func47, rfl, by kernel_rfl⟩
@[simp ↓] theorem pcall47 : PCs 47 := PS_callK call47
@[simp] theorem call48 : callable Tryz.prog 48 := ⟨Tryz.f48, Tryz.func48, rfl, by kernel_rfl⟩
@[simp ↓] theorem pcall48 : PCs 48 := PS_callK call48
@[simp] theorem call49 : callable Tryz.prog 49 := ⟨Tryz.f49, Tryz.func49, rfl, by kernel_rfl⟩
@[simp ↓] theorem pcall49 : PCs 49 := PS_callK call49
@[simp] theorem call50 : callable Tryz.prog 50 := ⟨Tryz.f50, Tryz.func50, rfl, by kernel_rfl⟩
@[simp ↓] theorem pcall50 : PCs 50 := PS_callK call50
@[simp] theorem call51 : callable Tryz.prog 51 := ⟨Tryz.f51, Tryz.func51, rfl, by kernel_rfl⟩
@[simp ↓] theorem pcall51 : PCs 51 := PS_callK call51
@[simp] theorem call52 : callable Tryz.prog 52 := ⟨Tryz.f52, Tryz.func52, rfl, by kernel_rfl⟩
@[simp ↓] theorem pcall52 : PCs 52 := PS_callK call52
@[simp] theorem call53 : callable Tryz.prog 53 := ⟨Tryz.f53, Tryz.func53, rfl, by kernel_rfl⟩
@[simp ↓] theorem pcall53 : PCs 53 := PS_callK call53
@[simp] theorem call54 : callable Tryz.prog 54 := ⟨Tryz.f54, Tryz.func54, rfl, by kernel_rfl⟩
@[simp ↓] theorem pcall54 : PCs 54 := PS_callK call54
@[simp] theorem call55 : callable Tryz.prog 55 := ⟨Tryz.f55, Tryz.func55, rfl, by kernel_rfl⟩
@[simp ↓] theorem pcall55 : PCs 55 := PS_callK call55
@[simp] theorem call56 : callable Tryz.prog 56 := ⟨Tryz.f56, Tryz.func56, rfl, by kernel_rfl⟩
@[simp ↓] theorem pcall56 : PCs 56 := PS_callK call56
@[simp] theorem call57 : callable Tryz.prog 57 := ⟨Tryz.f57, Tryz.func57, rfl, by kernel_rfl⟩
@[simp ↓] theorem pcall57 : PCs 57 := PS_callK call57
@[simp] theorem call58 : callable Tryz.prog 58 := ⟨Tryz.f58, Tryz.func58, rfl, by kernel_rfl⟩
@[simp ↓] theorem pcall58 : PCs 58 := PS_callK call58
@[simp] theorem call59 : callable Tryz.prog 59 := ⟨Tryz.f59, Tryz.func59, rfl, by kernel_rfl⟩
@[simp ↓] theorem pcall59 : PCs 59 := PS_callK call59
@[simp] theorem call60 : callable Tryz.prog 60 := ⟨Tryz.f60, Tryz.func60, rfl, by kernel_rfl⟩
@[simp ↓] theorem pcall60 : PCs 60 := PS_callK call60
@[simp] theorem call61 : callable Tryz.prog 61 := ⟨Tryz.f61, Tryz.func61, rfl, by kernel_rfl⟩
@[simp ↓] theorem pcall61 : PCs 61 := PS_callK call61
@[simp] theorem call62 : callable Tryz.prog 62 := ⟨Tryz.f62, Tryz.func62, rfl, by kernel_rfl⟩
@[simp ↓] theorem pcall62 : PCs 62 := PS_callK call62
@[simp] theorem call63 : callable Tryz.prog 63 := ⟨Tryz.f63, Tryz.func63, rfl, by kernel_rfl⟩
@[simp ↓] theorem pcall63 : PCs 63 := PS_callK call63
@[simp] theorem call64 : callable Tryz.prog 64 := ⟨Tryz.f64, Tryz.func64, rfl, by kernel_rfl⟩
@[simp ↓] theorem pcall64 : PCs 64 := PS_callK call64
@[simp] theorem call65 : callable Tryz.prog 65 := ⟨Tryz.f65, Tryz.func65, rfl, by kernel_rfl⟩
@[simp ↓] theorem pcall65 : PCs 65 := PS_callK call65
@[simp] theorem call66 : callable Tryz.prog 66 := ⟨Tryz.f66, Tryz.func66, rfl, by kernel_rfl⟩
@[simp ↓] theorem pcall66 : PCs 66 := PS_callK call66
@[simp] theorem call67 : callable Tryz.prog 67 := ⟨Tryz.f67, Tryz.func67, rfl, by kernel_rfl⟩
@[simp ↓] theorem pcall67 : PCs 67 := PS_callK call67
@[simp] theorem call68 : callable Tryz.prog 68 := ⟨Tryz.f68, Tryz.func68, rfl, by kernel_rfl⟩
@[simp ↓] theorem pcall68 : PCs 68 := PS_callK call68
@[simp] theorem call69 : callable Tryz.prog 69 := ⟨Tryz.f69, Tryz.func69, rfl, by kernel_rfl⟩
@[simp ↓] theorem pcall69 : PCs 69 := PS_callK call69
@[simp] theorem call70 : callable Tryz.prog 70 := ⟨Tryz.f70, Tryz.func70, rfl, by kernel_rfl⟩
@[simp ↓] theorem pcall70 : PCs 70 := PS_callK call70
@[simp] theorem call71 : callable Tryz.prog 71 := ⟨Tryz.f71, Tryz.func71, rfl, by kernel_rfl⟩
@[simp ↓] theorem pcall71 : PCs 71 := PS_callK call71
@[simp] theorem call72 : callable Tryz.prog 72 := ⟨Tryz.f72, Tryz.func72, rfl, by kernel_rfl⟩
@[simp ↓] theorem pcall72 : PCs 72 := PS_callK call72
@[simp] theorem call73 : callable Tryz.prog 73 := ⟨Tryz.f73, Tryz.func73, rfl, by kernel_rfl⟩
@[simp ↓] theorem pcall73 : PCs 73 := PS_callK call73
@[simp] theorem call74 : callable Tryz.prog 74 := ⟨Tryz.f74, Tryz.func74, rfl, by kernel_rfl⟩
@[simp ↓] theorem pcall74 : PCs 74 := PS_callK call74
@[simp] theorem call75 : callable Tryz.prog 75 := ⟨Tryz.f75, Tryz.func75, rfl, by kernel_rfl⟩
@[simp ↓] theorem pcall75 : PCs 75 := PS_callK call75
@[simp] theorem call76 : callable Tryz.prog 76 := ⟨Tryz.f76, Tryz.func76, rfl, by kernel_rfl⟩
@[simp ↓] theorem pcall76 : PCs 76 := PS_callK call76
@[simp] theorem call77 : callable Tryz.prog 77 := ⟨Tryz.f77, Tryz.func77, rfl, by kernel_rfl⟩
@[simp ↓] theorem pcall77 : PCs 77 := PS_callK call77
@[simp] theorem call78 : callable Tryz.prog 78 := ⟨Tryz.f78, Tryz.func78, rfl, by kernel_rfl⟩
@[simp ↓] theorem pcall78 : PCs 78 := PS_callK call78
@[simp] theorem call79 : callable Tryz.prog 79 := ⟨Tryz.f79, Tryz.func79, rfl, by kernel_rfl⟩
@[simp ↓] theorem pcall79 : PCs 79 := PS_callK call79
@[simp] theorem call80 : callable Tryz.prog 80 := ⟨Tryz.f80, Tryz.func80, rfl, by kernel_rfl⟩
@[simp ↓] theorem pcall80 : PCs 80 := PS_callK call80
@[simp] theorem call81 : callable Tryz.prog 81 := ⟨Tryz.f81, Tryz.func81, rfl, by kernel_rfl⟩
@[simp ↓] theorem pcall81 : PCs 81 := PS_callK call81
@[simp] theorem call82 : callable Tryz.prog 82 := ⟨Tryz.f82, Tryz.func82, rfl, by kernel_rfl⟩
@[simp ↓] theorem pcall82 : PCs 82 := PS_callK call82
@[simp] theorem call83 : callable Tryz.prog 83 := ⟨Tryz.f83, Tryz.func83, rfl, by kernel_rfl⟩
@[simp ↓] theorem pcall83 : PCs 83 := PS_callK call83
@[simp] theorem call84 : callable Tryz.prog 84 := ⟨Tryz.f84, Tryz.func84, rfl, by kernel_rfl⟩
@[simp ↓] theorem pcall84 : PCs 84 := PS_callK call84
@[simp] theorem call85 : callable Tryz.prog 85 := ⟨Tryz.f85, Tryz.func85, rfl, by kernel_rfl⟩
@[simp ↓] theorem pcall85 : PCs 85 := PS_callK call85
@[simp] theorem call86 : callable Tryz.prog 86 := ⟨Tryz.f86, Tryz.func86, rfl, by kernel_rfl⟩
@[simp ↓] theorem pcall86 : PCs 86 := PS_callK call86
@[simp] theorem call87 : callable Tryz.prog 87 := ⟨Tryz.f87, Tryz.func87, rfl, by kernel_rfl⟩
@[simp ↓] theorem pcall87 : PCs 87 := PS_callK call87
@[simp] theorem call88 : callable Tryz.prog 88 := ⟨Tryz.f88, Tryz.func88, rfl, by kernel_rfl⟩
@[simp ↓] theorem pcall88 : PCs 88 := PS_callK call88
@[simp] theorem call89 : callable Tryz.prog 89 := ⟨Tryz.f89, Tryz.func89, rfl, by kernel_rfl⟩
@[simp ↓] theorem pcall89 : PCs 89 := PS_callK call89
@[simp] theorem call90 : callable Tryz.prog 90 := ⟨Tryz.f90, Tryz.func90, rfl, by kernel_rfl⟩
@[simp ↓] theorem pcall90 : PCs 90 := PS_callK call90
@[simp] theorem call91 : callable Tryz.prog 91 := ⟨Tryz.f91, Tryz.func91, rfl, by kernel_rfl⟩
@[simp ↓] theorem pcall91 : PCs 91 := PS_callK call91
@[simp] theorem call92 : callable Tryz.prog 92 := ⟨Tryz.f92, Tryz.func92, rfl, by kernel_rfl⟩
@[simp ↓] theorem pcall92 : PCs 92 := PS_callK call92
@[simp] theorem call93 : callable Tryz.prog 93 := ⟨Tryz.f93, Tryz.func93, rfl, by kernel_rfl⟩
@[simp ↓] theorem pcall93 : PCs 93 := PS_callK call93
@[simp] theorem call94 : callable Tryz.prog 94 := ⟨Tryz.f94, Tryz.func94, rfl, by kernel_rfl⟩
@[simp ↓] theorem pcall94 : PCs 94 := PS_callK call94
@[simp] theorem call95 : callable Tryz.prog 95 := ⟨Tryz.f95, Tryz.func95, rfl, by kernel_rfl⟩
@[simp ↓] theorem pcall95 : PCs 95 := PS_callK call95
@[simp] theorem call96 : callable Tryz.prog 96 := ⟨Tryz.f96, Tryz.func96, rfl, by kernel_rfl⟩
@[simp ↓] theorem pcall96 : PCs 96 := PS_callK call96
@[simp] theorem call97 : callable Tryz.prog 97 := ⟨Tryz.f97, Tryz.func97, rfl, by kernel_rfl⟩
@[simp ↓] theorem pcall97 : PCs 97 := PS_callK call97
@[simp] theorem call98 : callable Tryz.prog 98 := ⟨Tryz.f98, Tryz.func98, rfl, by kernel_rfl⟩
@[simp ↓] theorem pcall98 : PCs 98 := PS_callK call98
@[simp] theorem call99 : callable Tryz.prog 99 := ⟨Tryz.f99, Tryz.func99, rfl, by kernel_rfl⟩
@[simp ↓] theorem pcall99 : PCs 99 := PS_callK call99
@[simp] theorem call100 : callable Tryz.prog 100 := ⟨Tryz.f100, Tryz.func100, rfl, by kernel_rfl⟩
@[simp ↓] theorem pcall100 : PCs 100 := PS_callK call100
@[simp] theorem call101 : callable Tryz.prog 101 := ⟨Tryz.f101, Tryz.func101, rfl, by kernel_rfl⟩
@[simp ↓] theorem pcall101 : PCs 101 := PS_callK call101
@[simp] theorem call102 : callable Tryz.prog 102 := ⟨Tryz.f102, Tryz.func102, rfl, by kernel_rfl⟩
@[simp ↓] theorem pcall102 : PCs 102 := PS_callK call102
@[simp] theorem call103 : callable Tryz.prog 103 := ⟨Tryz.f103, Tryz.func103, rfl, by kernel_rfl⟩
@[simp ↓] theorem pcall103 : PCs 103 := PS_callK call103
@[simp] theorem call104 : callable Tryz.prog 104 := ⟨Tryz.f104, Tryz.func104, rfl, by kernel_rfl⟩
@[simp ↓] theorem pcall104 : PCs 104 := PS_callK call104
@[simp ↓] theorem pclo {s : St} {dr : Bool} {d : Option Tmp} {K : St → Prop} (f : Tmp) (l : List Operand) : PStepC Tryz.prog dr d (.call { callee := .value (.tmp f), args := l.toArray, argTypes := #[29, 29] }) K s ↔ okDst s d ∧ CloK Tryz.prog (s.ev (.tmp f)) (l.map s.ev) s d K := PS_clo f l _ rfl
@[simp ↓] theorem ptmp {s : St} {dr : Bool} {d : Option Tmp} {K : St → Prop} (f : Tmp) (l : List Operand) : PStepC Tryz.prog dr d (.call { callee := .value (.tmp f), args := l.toArray, argTypes := #[3, 3] }) K s ↔ okDst s d ∧ TmpK Tryz.prog dr (s.ev (.tmp f)) (l.map s.ev) s d K := PS_tmp f l _ (by decide)
end Go.Proofs.YtphndngifjgeoaaGreatDoor
