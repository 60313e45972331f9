/- Closed facts on the types and functions of the translation, as the by-value walk asks them; each by the kernel. -/
import Derived.Test.YtphndngifjgeoaaDoorProg
import Derived.Test.YtphndngifjgeoaaDoorBvO
namespace Go.Proofs.YtphndngifjgeoaaDoor
open Go.Proofs
/-- A call's step. -/
abbrev PCs (g : FuncId) : Prop := ∀ {s : St} {dr : Bool} {d : Option Tmp} {K : St → Prop} (l : List Operand) (ts : Array TypeId), PStepC Tryd.prog dr d (.call { callee := .value (.func g), args := l.toArray, argTypes := ts }) K s ↔ okDst s d ∧ CallK Tryd.prog dr g (l.map s.ev) s.next s d K
@[simp] theorem ty2_agg : tagg Tryd.prog 2 = some false := by kernel_rfl
@[simp] theorem ty2_size : tsize Tryd.prog 2 = some 1 := by kernel_rfl
@[simp] theorem ty2_bytes : tbytes Tryd.prog 2 = some 8 := by kernel_rfl
@[simp] theorem ty2_some : tsome Tryd.prog 2 = true := by kernel_rfl
@[simp] theorem ty2_slice : tslice Tryd.prog 2 = none := by kernel_rfl
@[simp] theorem ty2_int : tint Tryd.prog 2 = some .i64 := by kernel_rfl
@[simp] theorem ty2_bool : tbool Tryd.prog 2 = false := by kernel_rfl
@[simp] theorem ty2_zero : tzero Tryd.prog 2 = some (.int .i64 0) := by kernel_rfl
@[simp] theorem ty3_agg : tagg Tryd.prog 3 = some false := by kernel_rfl
@[simp] theorem ty3_size : tsize Tryd.prog 3 = some 1 := by kernel_rfl
@[simp] theorem ty3_bytes : tbytes Tryd.prog 3 = some 8 := by kernel_rfl
@[simp] theorem ty3_some : tsome Tryd.prog 3 = true := by kernel_rfl
@[simp] theorem ty3_slice : tslice Tryd.prog 3 = none := by kernel_rfl
@[simp] theorem ty3_int : tint Tryd.prog 3 = some .i64 := by kernel_rfl
@[simp] theorem ty3_bool : tbool Tryd.prog 3 = false := by kernel_rfl
@[simp] theorem ty3_zero : tzero Tryd.prog 3 = some (.int .i64 0) := by kernel_rfl
@[simp] theorem ty4_agg : tagg Tryd.prog 4 = some false := by kernel_rfl
@[simp] theorem ty4_size : tsize Tryd.prog 4 = some 1 := by kernel_rfl
@[simp] theorem ty4_bytes : tbytes Tryd.prog 4 = some 1 := by kernel_rfl
@[simp] theorem ty4_some : tsome Tryd.prog 4 = true := by kernel_rfl
@[simp] theorem ty4_slice : tslice Tryd.prog 4 = none := by kernel_rfl
@[simp] theorem ty4_bool : tbool Tryd.prog 4 = true := by kernel_rfl
@[simp] theorem ty4_zero : tzero Tryd.prog 4 = some (.bool false) := by kernel_rfl
@[simp] theorem ty5_agg : tagg Tryd.prog 5 = some false := by kernel_rfl
@[simp] theorem ty5_size : tsize Tryd.prog 5 = some 1 := by kernel_rfl
@[simp] theorem ty5_bytes : tbytes Tryd.prog 5 = some 1 := by kernel_rfl
@[simp] theorem ty5_some : tsome Tryd.prog 5 = true := by kernel_rfl
@[simp] theorem ty5_slice : tslice Tryd.prog 5 = none := by kernel_rfl
@[simp] theorem ty5_int : tint Tryd.prog 5 = some .u8 := by kernel_rfl
@[simp] theorem ty5_bool : tbool Tryd.prog 5 = false := by kernel_rfl
@[simp] theorem ty5_zero : tzero Tryd.prog 5 = some (.int .u8 0) := by kernel_rfl
@[simp] theorem ty9_agg : tagg Tryd.prog 9 = some false := by kernel_rfl
@[simp] theorem ty9_size : tsize Tryd.prog 9 = some 1 := by kernel_rfl
@[simp] theorem ty9_bytes : tbytes Tryd.prog 9 = some 16 := by kernel_rfl
@[simp] theorem ty9_some : tsome Tryd.prog 9 = true := by kernel_rfl
@[simp] theorem ty9_slice : tslice Tryd.prog 9 = none := by kernel_rfl
@[simp] theorem ty9_bool : tbool Tryd.prog 9 = false := by kernel_rfl
@[simp] theorem ty22_agg : tagg Tryd.prog 22 = some false := by kernel_rfl
@[simp] theorem ty22_size : tsize Tryd.prog 22 = some 1 := by kernel_rfl
@[simp] theorem ty22_bytes : tbytes Tryd.prog 22 = some 24 := by kernel_rfl
@[simp] theorem ty22_some : tsome Tryd.prog 22 = true := by kernel_rfl
@[simp] theorem ty22_slice : tslice Tryd.prog 22 = some 36 := by kernel_rfl
@[simp] theorem ty22_bool : tbool Tryd.prog 22 = false := by kernel_rfl
@[simp] theorem ty22_zero : tzero Tryd.prog 22 = some (.sl ⟨0, 0, 0⟩ 1 []) := by kernel_rfl
@[simp] theorem ty24_agg : tagg Tryd.prog 24 = some true := by kernel_rfl
@[simp] theorem ty24_size : tsize Tryd.prog 24 = some 3 := by kernel_rfl
@[simp] theorem ty24_bytes : tbytes Tryd.prog 24 = some 40 := by kernel_rfl
@[simp] theorem ty24_some : tsome Tryd.prog 24 = true := by kernel_rfl
@[simp] theorem ty24_fld0 : tfld Tryd.prog 24 0 = some (0, 1) := by kernel_rfl
@[simp] theorem ty24_fldAgg0 : tfldAgg Tryd.prog 24 0 = some false := by kernel_rfl
@[simp] theorem ty24_fld1 : tfld Tryd.prog 24 1 = some (1, 1) := by kernel_rfl
@[simp] theorem ty24_fldAgg1 : tfldAgg Tryd.prog 24 1 = some false := by kernel_rfl
@[simp] theorem ty24_fld2 : tfld Tryd.prog 24 2 = some (2, 1) := by kernel_rfl
@[simp] theorem ty24_fldAgg2 : tfldAgg Tryd.prog 24 2 = some false := by kernel_rfl
@[simp] theorem ty24_places : tplaces Tryd.prog 24 = some [(0, 1), (1, 1), (2, 1)] := by kernel_rfl
@[simp] theorem ty24_slice : tslice Tryd.prog 24 = none := by kernel_rfl
@[simp] theorem ty24_aplaces : aplaces Tryd.prog 24 = none := by kernel_rfl
@[simp] theorem ty24_bool : tbool Tryd.prog 24 = false := by kernel_rfl
@[simp] theorem ty24_zero : tzero Tryd.prog 24 = some (.agg [.int .i64 0, .int .i64 0, .sl ⟨0, 0, 0⟩ 1 []]) := by kernel_rfl
@[simp] theorem ty25_agg : tagg Tryd.prog 25 = some false := by kernel_rfl
@[simp] theorem ty25_size : tsize Tryd.prog 25 = some 1 := by kernel_rfl
@[simp] theorem ty25_bytes : tbytes Tryd.prog 25 = some 8 := by kernel_rfl
@[simp] theorem ty25_some : tsome Tryd.prog 25 = true := by kernel_rfl
@[simp] theorem ty25_slice : tslice Tryd.prog 25 = none := by kernel_rfl
@[simp] theorem ty25_int : tint Tryd.prog 25 = some .i64 := by kernel_rfl
@[simp] theorem ty25_bool : tbool Tryd.prog 25 = false := by kernel_rfl
@[simp] theorem ty25_zero : tzero Tryd.prog 25 = some (.int .i64 0) := by kernel_rfl
@[simp] theorem ty35_agg : tagg Tryd.prog 35 = some false := by kernel_rfl
@[simp] theorem ty35_size : tsize Tryd.prog 35 = some 1 := by kernel_rfl
@[simp] theorem ty35_bytes : tbytes Tryd.prog 35 = some 8 := by kernel_rfl
@[simp] theorem ty35_some : tsome Tryd.prog 35 = true := by kernel_rfl
@[simp] theorem ty35_slice : tslice Tryd.prog 35 = none := by kernel_rfl
@[simp] theorem ty35_int : tint Tryd.prog 35 = some .u64 := by kernel_rfl
@[simp] theorem ty35_bool : tbool Tryd.prog 35 = false := by kernel_rfl
@[simp] theorem ty35_zero : tzero Tryd.prog 35 = some (.int .u64 0) := by kernel_rfl
@[simp] theorem ty36_agg : tagg Tryd.prog 36 = some false := by kernel_rfl
@[simp] theorem ty36_size : tsize Tryd.prog 36 = some 1 := by kernel_rfl
@[simp] theorem ty36_bytes : tbytes Tryd.prog 36 = some 8 := by kernel_rfl
@[simp] theorem ty36_some : tsome Tryd.prog 36 = true := by kernel_rfl
@[simp] theorem ty36_slice : tslice Tryd.prog 36 = none := by kernel_rfl
@[simp] theorem ty36_int : tint Tryd.prog 36 = some .u64 := by kernel_rfl
@[simp] theorem ty36_bool : tbool Tryd.prog 36 = false := by kernel_rfl
@[simp] theorem ty36_zero : tzero Tryd.prog 36 = some (.int .u64 0) := by kernel_rfl
@[simp] theorem ty37_agg : tagg Tryd.prog 37 = some false := by kernel_rfl
@[simp] theorem ty37_size : tsize Tryd.prog 37 = some 1 := by kernel_rfl
@[simp] theorem ty37_bytes : tbytes Tryd.prog 37 = some 24 := by kernel_rfl
@[simp] theorem ty37_some : tsome Tryd.prog 37 = true := by kernel_rfl
@[simp] theorem ty37_slice : tslice Tryd.prog 37 = some 69 := by kernel_rfl
@[simp] theorem ty37_bool : tbool Tryd.prog 37 = false := by kernel_rfl
@[simp] theorem ty37_zero : tzero Tryd.prog 37 = some (.sl ⟨0, 0, 0⟩ 1 []) := by kernel_rfl
@[simp] theorem ty39_agg : tagg Tryd.prog 39 = some true := by kernel_rfl
@[simp] theorem ty39_size : tsize Tryd.prog 39 = some 2 := by kernel_rfl
@[simp] theorem ty39_bytes : tbytes Tryd.prog 39 = some 32 := by kernel_rfl
@[simp] theorem ty39_some : tsome Tryd.prog 39 = true := by kernel_rfl
@[simp] theorem ty39_fld0 : tfld Tryd.prog 39 0 = some (0, 1) := by kernel_rfl
@[simp] theorem ty39_fldAgg0 : tfldAgg Tryd.prog 39 0 = some false := by kernel_rfl
@[simp] theorem ty39_fld1 : tfld Tryd.prog 39 1 = some (1, 1) := by kernel_rfl
@[simp] theorem ty39_fldAgg1 : tfldAgg Tryd.prog 39 1 = some false := by kernel_rfl
@[simp] theorem ty39_places : tplaces Tryd.prog 39 = some [(0, 1), (1, 1)] := by kernel_rfl
@[simp] theorem ty39_slice : tslice Tryd.prog 39 = none := by kernel_rfl
@[simp] theorem ty39_aplaces : aplaces Tryd.prog 39 = none := by kernel_rfl
@[simp] theorem ty39_bool : tbool Tryd.prog 39 = false := by kernel_rfl
@[simp] theorem ty39_zero : tzero Tryd.prog 39 = some (.agg [.bool false, .sl ⟨0, 0, 0⟩ 1 []]) := by kernel_rfl
@[simp] theorem ty41_agg : tagg Tryd.prog 41 = some true := by kernel_rfl
@[simp] theorem ty41_size : tsize Tryd.prog 41 = some 3 := by kernel_rfl
@[simp] theorem ty41_bytes : tbytes Tryd.prog 41 = some 40 := by kernel_rfl
@[simp] theorem ty41_some : tsome Tryd.prog 41 = true := by kernel_rfl
@[simp] theorem ty41_fld0 : tfld Tryd.prog 41 0 = some (0, 2) := by kernel_rfl
@[simp] theorem ty41_fldAgg0 : tfldAgg Tryd.prog 41 0 = some true := by kernel_rfl
@[simp] theorem ty41_fld1 : tfld Tryd.prog 41 1 = some (2, 1) := by kernel_rfl
@[simp] theorem ty41_fldAgg1 : tfldAgg Tryd.prog 41 1 = some false := by kernel_rfl
@[simp] theorem ty41_places : tplaces Tryd.prog 41 = some [(0, 2), (2, 1)] := by kernel_rfl
@[simp] theorem ty41_slice : tslice Tryd.prog 41 = none := by kernel_rfl
@[simp] theorem ty41_aplaces : aplaces Tryd.prog 41 = none := by kernel_rfl
@[simp] theorem ty41_bool : tbool Tryd.prog 41 = false := by kernel_rfl
@[simp] theorem ty41_zero : tzero Tryd.prog 41 = some (.agg [.bool false, .sl ⟨0, 0, 0⟩ 1 [], .int .i64 0]) := by kernel_rfl
@[simp] theorem ty50_agg : tagg Tryd.prog 50 = some false := by kernel_rfl
@[simp] theorem ty50_size : tsize Tryd.prog 50 = some 1 := by kernel_rfl
@[simp] theorem ty50_bytes : tbytes Tryd.prog 50 = some 8 := by kernel_rfl
@[simp] theorem ty50_some : tsome Tryd.prog 50 = true := by kernel_rfl
@[simp] theorem ty50_slice : tslice Tryd.prog 50 = none := by kernel_rfl
@[simp] theorem ty50_int : tint Tryd.prog 50 = some .u64 := by kernel_rfl
@[simp] theorem ty50_bool : tbool Tryd.prog 50 = false := by kernel_rfl
@[simp] theorem ty50_zero : tzero Tryd.prog 50 = some (.int .u64 0) := by kernel_rfl
@[simp] theorem ty57_agg : tagg Tryd.prog 57 = some false := by kernel_rfl
@[simp] theorem ty57_size : tsize Tryd.prog 57 = some 1 := by kernel_rfl
@[simp] theorem ty57_bytes : tbytes Tryd.prog 57 = some 24 := by kernel_rfl
@[simp] theorem ty57_some : tsome Tryd.prog 57 = true := by kernel_rfl
@[simp] theorem ty57_slice : tslice Tryd.prog 57 = some 41 := by kernel_rfl
@[simp] theorem ty57_bool : tbool Tryd.prog 57 = false := by kernel_rfl
@[simp] theorem ty57_zero : tzero Tryd.prog 57 = some (.sl ⟨0, 0, 0⟩ 1 []) := by kernel_rfl
@[simp] theorem ty59_agg : tagg Tryd.prog 59 = some true := by kernel_rfl
@[simp] theorem ty59_size : tsize Tryd.prog 59 = some 3 := by kernel_rfl
@[simp] theorem ty59_bytes : tbytes Tryd.prog 59 = some 40 := by kernel_rfl
@[simp] theorem ty59_some : tsome Tryd.prog 59 = true := by kernel_rfl
@[simp] theorem ty59_fld0 : tfld Tryd.prog 59 0 = some (0, 1) := by kernel_rfl
@[simp] theorem ty59_fldAgg0 : tfldAgg Tryd.prog 59 0 = some false := by kernel_rfl
@[simp] theorem ty59_fld1 : tfld Tryd.prog 59 1 = some (1, 1) := by kernel_rfl
@[simp] theorem ty59_fldAgg1 : tfldAgg Tryd.prog 59 1 = some false := by kernel_rfl
@[simp] theorem ty59_fld2 : tfld Tryd.prog 59 2 = some (2, 1) := by kernel_rfl
@[simp] theorem ty59_fldAgg2 : tfldAgg Tryd.prog 59 2 = some false := by kernel_rfl
@[simp] theorem ty59_places : tplaces Tryd.prog 59 = some [(0, 1), (1, 1), (2, 1)] := by kernel_rfl
@[simp] theorem ty59_slice : tslice Tryd.prog 59 = none := by kernel_rfl
@[simp] theorem ty59_aplaces : aplaces Tryd.prog 59 = none := by kernel_rfl
@[simp] theorem ty59_bool : tbool Tryd.prog 59 = false := by kernel_rfl
@[simp] theorem ty59_zero : tzero Tryd.prog 59 = some (.agg [.int .i64 0, .int .i64 0, .sl ⟨0, 0, 0⟩ 1 []]) := by kernel_rfl
@[simp] theorem ty61_agg : tagg Tryd.prog 61 = some false := by kernel_rfl
@[simp] theorem ty61_size : tsize Tryd.prog 61 = some 1 := by kernel_rfl
@[simp] theorem ty61_bytes : tbytes Tryd.prog 61 = some 24 := by kernel_rfl
@[simp] theorem ty61_some : tsome Tryd.prog 61 = true := by kernel_rfl
@[simp] theorem ty61_slice : tslice Tryd.prog 61 = some 62 := by kernel_rfl
@[simp] theorem ty61_bool : tbool Tryd.prog 61 = false := by kernel_rfl
@[simp] theorem ty61_zero : tzero Tryd.prog 61 = some (.sl ⟨0, 0, 0⟩ 1 []) := by kernel_rfl
@[simp] theorem ty62_agg : tagg Tryd.prog 62 = some false := by kernel_rfl
@[simp] theorem ty62_size : tsize Tryd.prog 62 = some 1 := by kernel_rfl
@[simp] theorem ty62_bytes : tbytes Tryd.prog 62 = some 24 := by kernel_rfl
@[simp] theorem ty62_some : tsome Tryd.prog 62 = true := by kernel_rfl
@[simp] theorem ty62_slice : tslice Tryd.prog 62 = some 39 := by kernel_rfl
@[simp] theorem ty62_bool : tbool Tryd.prog 62 = false := by kernel_rfl
@[simp] theorem ty62_zero : tzero Tryd.prog 62 = some (.sl ⟨0, 0, 0⟩ 1 []) := by kernel_rfl
@[simp] theorem ty69_agg : tagg Tryd.prog 69 = some false := by kernel_rfl
@[simp] theorem ty69_size : tsize Tryd.prog 69 = some 1 := by kernel_rfl
@[simp] theorem ty69_bytes : tbytes Tryd.prog 69 = some 4 := by kernel_rfl
@[simp] theorem ty69_some : tsome Tryd.prog 69 = true := by kernel_rfl
@[simp] theorem ty69_slice : tslice Tryd.prog 69 = none := by kernel_rfl
@[simp] theorem ty69_int : tint Tryd.prog 69 = some .u32 := by kernel_rfl
@[simp] theorem ty69_bool : tbool Tryd.prog 69 = false := by kernel_rfl
@[simp] theorem ty69_zero : tzero Tryd.prog 69 = some (.int .u32 0) := by kernel_rfl
@[simp] theorem ty80_agg : tagg Tryd.prog 80 = some true := by kernel_rfl
@[simp] theorem ty80_size : tsize Tryd.prog 80 = some 9 := by kernel_rfl
@[simp] theorem ty80_bytes : tbytes Tryd.prog 80 = some 120 := by kernel_rfl
@[simp] theorem ty80_some : tsome Tryd.prog 80 = true := by kernel_rfl
@[simp] theorem ty80_slice : tslice Tryd.prog 80 = none := by kernel_rfl
@[simp] theorem ty80_arr : tarr Tryd.prog 80 = some (3, 24) := by kernel_rfl
@[simp] theorem ty80_places : tplaces Tryd.prog 80 = none := by kernel_rfl
@[simp] theorem ty80_aplaces : aplaces Tryd.prog 80 = some [(0, 3), (3, 3), (6, 3)] := by kernel_rfl
@[simp] theorem ty80_bool : tbool Tryd.prog 80 = false := by kernel_rfl
@[simp] theorem ty80_zero : tzero Tryd.prog 80 = some (.agg [.int .i64 0, .int .i64 0, .sl ⟨0, 0, 0⟩ 1 [], .int .i64 0, .int .i64 0, .sl ⟨0, 0, 0⟩ 1 [], .int .i64 0, .int .i64 0, .sl ⟨0, 0, 0⟩ 1 []]) := by kernel_rfl
@[simp] theorem ty90_agg : tagg Tryd.prog 90 = some false := by kernel_rfl
@[simp] theorem ty90_size : tsize Tryd.prog 90 = some 1 := by kernel_rfl
@[simp] theorem ty90_bytes : tbytes Tryd.prog 90 = some 8 := by kernel_rfl
@[simp] theorem ty90_some : tsome Tryd.prog 90 = true := by kernel_rfl
@[simp] theorem ty90_slice : tslice Tryd.prog 90 = none := by kernel_rfl
@[simp] theorem ty90_bool : tbool Tryd.prog 90 = false := by kernel_rfl
@[simp] theorem ty104_agg : tagg Tryd.prog 104 = some false := by kernel_rfl
@[simp] theorem ty104_size : tsize Tryd.prog 104 = some 1 := by kernel_rfl
@[simp] theorem ty104_bytes : tbytes Tryd.prog 104 = some 8 := by kernel_rfl
@[simp] theorem ty104_some : tsome Tryd.prog 104 = true := by kernel_rfl
@[simp] theorem ty104_slice : tslice Tryd.prog 104 = none := by kernel_rfl
@[simp] theorem ty104_bool : tbool Tryd.prog 104 = false := by kernel_rfl
@[simp] theorem ty104_map : mapT Tryd.prog 104 := ⟨131, 3, 3, .i64, by kernel_rfl, by kernel_rfl, by kernel_rfl, by kernel_rfl, by kernel_rfl, by kernel_rfl⟩
@[simp] theorem ty104_zero : tzero Tryd.prog 104 = some (.undef) := by kernel_rfl
@[simp] theorem ty106_agg : tagg Tryd.prog 106 = some true := by kernel_rfl
@[simp] theorem ty106_size : tsize Tryd.prog 106 = some 2 := by kernel_rfl
@[simp] theorem ty106_bytes : tbytes Tryd.prog 106 = some 32 := by kernel_rfl
@[simp] theorem ty106_some : tsome Tryd.prog 106 = true := by kernel_rfl
@[simp] theorem ty106_fld0 : tfld Tryd.prog 106 0 = some (0, 1) := by kernel_rfl
@[simp] theorem ty106_fldAgg0 : tfldAgg Tryd.prog 106 0 = some false := by kernel_rfl
@[simp] theorem ty106_fld1 : tfld Tryd.prog 106 1 = some (1, 1) := by kernel_rfl
@[simp] theorem ty106_fldAgg1 : tfldAgg Tryd.prog 106 1 = some false := by kernel_rfl
@[simp] theorem ty106_places : tplaces Tryd.prog 106 = some [(0, 1), (1, 1)] := by kernel_rfl
@[simp] theorem ty106_slice : tslice Tryd.prog 106 = none := by kernel_rfl
@[simp] theorem ty106_aplaces : aplaces Tryd.prog 106 = none := by kernel_rfl
@[simp] theorem ty106_bool : tbool Tryd.prog 106 = false := by kernel_rfl
@[simp] theorem ty106_zero : tzero Tryd.prog 106 = some (.agg [.sl ⟨0, 0, 0⟩ 1 [], .undef]) := by kernel_rfl
@[simp] theorem ty131_agg : tagg Tryd.prog 131 = some true := by kernel_rfl
@[simp] theorem ty131_size : tsize Tryd.prog 131 = some 2 := by kernel_rfl
@[simp] theorem ty131_bytes : tbytes Tryd.prog 131 = some 16 := by kernel_rfl
@[simp] theorem ty131_some : tsome Tryd.prog 131 = true := by kernel_rfl
@[simp] theorem ty131_slice : tslice Tryd.prog 131 = none := by kernel_rfl
@[simp] theorem ty131_arr : tarr Tryd.prog 131 = some (2, 3) := by kernel_rfl
@[simp] theorem ty131_places : tplaces Tryd.prog 131 = none := by kernel_rfl
@[simp] theorem ty131_aplaces : aplaces Tryd.prog 131 = some [(0, 1), (1, 1)] := by kernel_rfl
@[simp] theorem ty131_bool : tbool Tryd.prog 131 = false := by kernel_rfl
@[simp] theorem ty131_zero : tzero Tryd.prog 131 = some (.agg [.int .i64 0, .int .i64 0]) := by kernel_rfl
@[simp] theorem ty134_agg : tagg Tryd.prog 134 = some false := by kernel_rfl
@[simp] theorem ty134_size : tsize Tryd.prog 134 = some 1 := by kernel_rfl
@[simp] theorem ty134_bytes : tbytes Tryd.prog 134 = some 24 := by kernel_rfl
@[simp] theorem ty134_some : tsome Tryd.prog 134 = true := by kernel_rfl
@[simp] theorem ty134_slice : tslice Tryd.prog 134 = some 3 := by kernel_rfl
@[simp] theorem ty134_bool : tbool Tryd.prog 134 = false := by kernel_rfl
@[simp] theorem ty134_zero : tzero Tryd.prog 134 = some (.sl ⟨0, 0, 0⟩ 1 []) := by kernel_rfl
@[simp] theorem ty152_agg : tagg Tryd.prog 152 = some true := by kernel_rfl
@[simp] theorem ty152_size : tsize Tryd.prog 152 = some 3 := by kernel_rfl
@[simp] theorem ty152_bytes : tbytes Tryd.prog 152 = some 24 := by kernel_rfl
@[simp] theorem ty152_some : tsome Tryd.prog 152 = true := by kernel_rfl
@[simp] theorem ty152_fld0 : tfld Tryd.prog 152 0 = some (0, 1) := by kernel_rfl
@[simp] theorem ty152_fldAgg0 : tfldAgg Tryd.prog 152 0 = some false := by kernel_rfl
@[simp] theorem ty152_fld1 : tfld Tryd.prog 152 1 = some (1, 1) := by kernel_rfl
@[simp] theorem ty152_fldAgg1 : tfldAgg Tryd.prog 152 1 = some false := by kernel_rfl
@[simp] theorem ty152_fld2 : tfld Tryd.prog 152 2 = some (2, 1) := by kernel_rfl
@[simp] theorem ty152_fldAgg2 : tfldAgg Tryd.prog 152 2 = some false := by kernel_rfl
@[simp] theorem ty152_places : tplaces Tryd.prog 152 = some [(0, 1), (1, 1), (2, 1)] := by kernel_rfl
@[simp] theorem ty152_slice : tslice Tryd.prog 152 = none := by kernel_rfl
@[simp] theorem ty152_aplaces : aplaces Tryd.prog 152 = none := by kernel_rfl
@[simp] theorem ty152_bool : tbool Tryd.prog 152 = false := by kernel_rfl
@[simp] theorem ty152_zero : tzero Tryd.prog 152 = some (.agg [.bool false, .int .i64 0, .int .u64 0]) := by kernel_rfl
@[simp] theorem ty154_agg : tagg Tryd.prog 154 = some true := by kernel_rfl
@[simp] theorem ty154_size : tsize Tryd.prog 154 = some 128 := by kernel_rfl
@[simp] theorem ty154_bytes : tbytes Tryd.prog 154 = some 2048 := by kernel_rfl
@[simp] theorem ty154_some : tsome Tryd.prog 154 = true := by kernel_rfl
@[simp] theorem ty154_slice : tslice Tryd.prog 154 = none := by kernel_rfl
@[simp] theorem ty154_arr : tarr Tryd.prog 154 = some (64, 39) := by kernel_rfl
@[simp] theorem ty154_bool : tbool Tryd.prog 154 = false := by kernel_rfl
@[simp] theorem ty154_zero : tzero Tryd.prog 154 = some (.agg (List.replicate 64 [.bool false, .sl ⟨0, 0, 0⟩ 1 []]).flatten) := by kernel_rfl
@[simp] theorem ty158_agg : tagg Tryd.prog 158 = some true := by kernel_rfl
@[simp] theorem ty158_size : tsize Tryd.prog 158 = some 32 := by kernel_rfl
@[simp] theorem ty158_bytes : tbytes Tryd.prog 158 = some 32 := by kernel_rfl
@[simp] theorem ty158_some : tsome Tryd.prog 158 = true := by kernel_rfl
@[simp] theorem ty158_slice : tslice Tryd.prog 158 = none := by kernel_rfl
@[simp] theorem ty158_arr : tarr Tryd.prog 158 = some (32, 5) := by kernel_rfl
@[simp] theorem ty158_bool : tbool Tryd.prog 158 = false := by kernel_rfl
@[simp] theorem ty158_zero : tzero Tryd.prog 158 = some (.agg [.int .u8 0, .int .u8 0, .int .u8 0, .int .u8 0, .int .u8 0, .int .u8 0, .int .u8 0, .int .u8 0, .int .u8 0, .int .u8 0, .int .u8 0, .int .u8 0, .int .u8 0, .int .u8 0, .int .u8 0, .int .u8 0, .int .u8 0, .int .u8 0, .int .u8 0, .int .u8 0, .int .u8 0, .int .u8 0, .int .u8 0, .int .u8 0, .int .u8 0, .int .u8 0, .int .u8 0, .int .u8 0, .int .u8 0, .int .u8 0, .int .u8 0, .int .u8 0]) := by kernel_rfl
theorem mixed : Tryd.prog.follows .mixedOrders = true := by kernel_rfl
@[simp ↓] theorem alloc2 {s : St} {dr : Bool} {d : Option Tmp} {K : St → Prop} : PStepC Tryd.prog dr d (.alloc 2) K s ↔ okDst s d ∧ K ((s.pushBox (PV.cells (.int .i64 0))).put d (.box s.boxes.length 0)) := PS_alloc ty2_zero ⟨rfl, rfl⟩
@[simp ↓] theorem alloc3 {s : St} {dr : Bool} {d : Option Tmp} {K : St → Prop} : PStepC Tryd.prog dr d (.alloc 3) K s ↔ okDst s d ∧ K ((s.pushBox (PV.cells (.int .i64 0))).put d (.box s.boxes.length 0)) := PS_alloc ty3_zero ⟨rfl, rfl⟩
@[simp ↓] theorem alloc4 {s : St} {dr : Bool} {d : Option Tmp} {K : St → Prop} : PStepC Tryd.prog dr d (.alloc 4) K s ↔ okDst s d ∧ K ((s.pushBox (PV.cells (.bool false))).put d (.box s.boxes.length 0)) := PS_alloc ty4_zero ⟨rfl, rfl⟩
@[simp ↓] theorem alloc5 {s : St} {dr : Bool} {d : Option Tmp} {K : St → Prop} : PStepC Tryd.prog dr d (.alloc 5) K s ↔ okDst s d ∧ K ((s.pushBox (PV.cells (.int .u8 0))).put d (.box s.boxes.length 0)) := PS_alloc ty5_zero ⟨rfl, rfl⟩
@[simp ↓] theorem alloc22 {s : St} {dr : Bool} {d : Option Tmp} {K : St → Prop} : PStepC Tryd.prog dr d (.alloc 22) K s ↔ okDst s d ∧ K ((s.pushBox (PV.cells (.sl ⟨0, 0, 0⟩ 1 []))).put d (.box s.boxes.length 0)) := PS_alloc ty22_zero ⟨rfl, rfl⟩
@[simp ↓] theorem app22 {s : St} {dr : Bool} {d : Option Tmp} {K : St → Prop} (x y : Operand) : PStepC Tryd.prog dr d (.call { callee := .builtin .append, args := #[x, y], argTypes := #[22, 22] }) K s ↔ okDst s d ∧ AppK 1 8 (s.ev x) (s.ev y) s (fun s' v => K (s'.put d v)) := PS_appendK ty22_slice ty36_size ty36_bytes ty36_zero ⟨by decide, by decide, rfl, rfl⟩ x y
@[simp ↓] theorem mk22 {s : St} {dr : Bool} {d : Option Tmp} {K : St → Prop} (x y : Operand) : PStepC Tryd.prog dr d (.makeSlice 22 x y) K s ↔ okDst s d ∧ MakeK 1 8 (.int .u64 0) (s.ev x) (s.ev y) s (fun s' v => K (s'.put d v)) := PS_makeK ty22_slice ty36_size ty36_bytes ty36_zero ⟨by decide, by decide, rfl, rfl, rfl, rfl⟩ x y
@[simp ↓] theorem bsl22 {s : St} {dr : Bool} {d : Option Tmp} {K : St → Prop} (n : Nat) (l : List (Nat × Operand)) : PStepC Tryd.prog dr d (.buildSlice 22 n l.toArray) K s ↔ okDst s d ∧ n * 1 ≤ 16777216 ∧ l.map (·.1) = List.range n ∧ ((l.map fun x => s.ev x.2).all fun v => v.sized && v.closed && v.cells.all PV.isCell && v.cells.length == 1) = true ∧ K ((s.fresh (n * 1)).put d (.sl ⟨s.next, s.next, 0⟩ 1 (l.map fun x => s.ev x.2))) := PS_buildK ty22_slice ty36_size ty36_zero ⟨by decide, rfl, rfl⟩ n l
@[simp ↓] theorem alloc24 {s : St} {dr : Bool} {d : Option Tmp} {K : St → Prop} : PStepC Tryd.prog dr d (.alloc 24) K s ↔ okDst s d ∧ K ((s.pushBox (PV.cells (.agg [.int .i64 0, .int .i64 0, .sl ⟨0, 0, 0⟩ 1 []]))).put d (.box s.boxes.length 0)) := PS_alloc ty24_zero ⟨rfl, rfl⟩
@[simp ↓] theorem alloc25 {s : St} {dr : Bool} {d : Option Tmp} {K : St → Prop} : PStepC Tryd.prog dr d (.alloc 25) K s ↔ okDst s d ∧ K ((s.pushBox (PV.cells (.int .i64 0))).put d (.box s.boxes.length 0)) := PS_alloc ty25_zero ⟨rfl, rfl⟩
@[simp ↓] theorem alloc35 {s : St} {dr : Bool} {d : Option Tmp} {K : St → Prop} : PStepC Tryd.prog dr d (.alloc 35) K s ↔ okDst s d ∧ K ((s.pushBox (PV.cells (.int .u64 0))).put d (.box s.boxes.length 0)) := PS_alloc ty35_zero ⟨rfl, rfl⟩
@[simp ↓] theorem alloc36 {s : St} {dr : Bool} {d : Option Tmp} {K : St → Prop} : PStepC Tryd.prog dr d (.alloc 36) K s ↔ okDst s d ∧ K ((s.pushBox (PV.cells (.int .u64 0))).put d (.box s.boxes.length 0)) := PS_alloc ty36_zero ⟨rfl, rfl⟩
@[simp ↓] theorem alloc37 {s : St} {dr : Bool} {d : Option Tmp} {K : St → Prop} : PStepC Tryd.prog dr d (.alloc 37) K s ↔ okDst s d ∧ K ((s.pushBox (PV.cells (.sl ⟨0, 0, 0⟩ 1 []))).put d (.box s.boxes.length 0)) := PS_alloc ty37_zero ⟨rfl, rfl⟩
@[simp ↓] theorem app37 {s : St} {dr : Bool} {d : Option Tmp} {K : St → Prop} (x y : Operand) : PStepC Tryd.prog dr d (.call { callee := .builtin .append, args := #[x, y], argTypes := #[37, 37] }) K s ↔ okDst s d ∧ AppK 1 4 (s.ev x) (s.ev y) s (fun s' v => K (s'.put d v)) := PS_appendK ty37_slice ty69_size ty69_bytes ty69_zero ⟨by decide, by decide, rfl, rfl⟩ x y
@[simp ↓] theorem mk37 {s : St} {dr : Bool} {d : Option Tmp} {K : St → Prop} (x y : Operand) : PStepC Tryd.prog dr d (.makeSlice 37 x y) K s ↔ okDst s d ∧ MakeK 1 4 (.int .u32 0) (s.ev x) (s.ev y) s (fun s' v => K (s'.put d v)) := PS_makeK ty37_slice ty69_size ty69_bytes ty69_zero ⟨by decide, by decide, rfl, rfl, rfl, rfl⟩ x y
@[simp ↓] theorem bsl37 {s : St} {dr : Bool} {d : Option Tmp} {K : St → Prop} (n : Nat) (l : List (Nat × Operand)) : PStepC Tryd.prog dr d (.buildSlice 37 n l.toArray) K s ↔ okDst s d ∧ n * 1 ≤ 16777216 ∧ l.map (·.1) = List.range n ∧ ((l.map fun x => s.ev x.2).all fun v => v.sized && v.closed && v.cells.all PV.isCell && v.cells.length == 1) = true ∧ K ((s.fresh (n * 1)).put d (.sl ⟨s.next, s.next, 0⟩ 1 (l.map fun x => s.ev x.2))) := PS_buildK ty37_slice ty69_size ty69_zero ⟨by decide, rfl, rfl⟩ n l
@[simp ↓] theorem alloc39 {s : St} {dr : Bool} {d : Option Tmp} {K : St → Prop} : PStepC Tryd.prog dr d (.alloc 39) K s ↔ okDst s d ∧ K ((s.pushBox (PV.cells (.agg [.bool false, .sl ⟨0, 0, 0⟩ 1 []]))).put d (.box s.boxes.length 0)) := PS_alloc ty39_zero ⟨rfl, rfl⟩
@[simp ↓] theorem alloc41 {s : St} {dr : Bool} {d : Option Tmp} {K : St → Prop} : PStepC Tryd.prog dr d (.alloc 41) K s ↔ okDst s d ∧ K ((s.pushBox (PV.cells (.agg [.bool false, .sl ⟨0, 0, 0⟩ 1 [], .int .i64 0]))).put d (.box s.boxes.length 0)) := PS_alloc ty41_zero ⟨rfl, rfl⟩
@[simp ↓] theorem alloc50 {s : St} {dr : Bool} {d : Option Tmp} {K : St → Prop} : PStepC Tryd.prog dr d (.alloc 50) K s ↔ okDst s d ∧ K ((s.pushBox (PV.cells (.int .u64 0))).put d (.box s.boxes.length 0)) := PS_alloc ty50_zero ⟨rfl, rfl⟩
@[simp ↓] theorem alloc57 {s : St} {dr : Bool} {d : Option Tmp} {K : St → Prop} : PStepC Tryd.prog dr d (.alloc 57) K s ↔ okDst s d ∧ K ((s.pushBox (PV.cells (.sl ⟨0, 0, 0⟩ 1 []))).put d (.box s.boxes.length 0)) := PS_alloc ty57_zero ⟨rfl, rfl⟩
@[simp ↓] theorem app57 {s : St} {dr : Bool} {d : Option Tmp} {K : St → Prop} (x y : Operand) : PStepC Tryd.prog dr d (.call { callee := .builtin .append, args := #[x, y], argTypes := #[57, 57] }) K s ↔ okDst s d ∧ AppK 3 40 (s.ev x) (s.ev y) s (fun s' v => K (s'.put d v)) := PS_appendK ty57_slice ty41_size ty41_bytes ty41_zero ⟨by decide, by decide, rfl, rfl⟩ x y
@[simp ↓] theorem mk57 {s : St} {dr : Bool} {d : Option Tmp} {K : St → Prop} (x y : Operand) : PStepC Tryd.prog dr d (.makeSlice 57 x y) K s ↔ okDst s d ∧ MakeK 3 40 (.agg [.bool false, .sl ⟨0, 0, 0⟩ 1 [], .int .i64 0]) (s.ev x) (s.ev y) s (fun s' v => K (s'.put d v)) := PS_makeK ty57_slice ty41_size ty41_bytes ty41_zero ⟨by decide, by decide, rfl, rfl, rfl, rfl⟩ x y
@[simp ↓] theorem bsl57 {s : St} {dr : Bool} {d : Option Tmp} {K : St → Prop} (n : Nat) (l : List (Nat × Operand)) : PStepC Tryd.prog dr d (.buildSlice 57 n l.toArray) K s ↔ okDst s d ∧ n * 3 ≤ 16777216 ∧ l.map (·.1) = List.range n ∧ ((l.map fun x => s.ev x.2).all fun v => v.sized && v.closed && v.cells.all PV.isCell && v.cells.length == 3) = true ∧ K ((s.fresh (n * 3)).put d (.sl ⟨s.next, s.next, 0⟩ 3 (l.map fun x => s.ev x.2))) := PS_buildK ty57_slice ty41_size ty41_zero ⟨by decide, rfl, rfl⟩ n l
@[simp ↓] theorem alloc59 {s : St} {dr : Bool} {d : Option Tmp} {K : St → Prop} : PStepC Tryd.prog dr d (.alloc 59) K s ↔ okDst s d ∧ K ((s.pushBox (PV.cells (.agg [.int .i64 0, .int .i64 0, .sl ⟨0, 0, 0⟩ 1 []]))).put d (.box s.boxes.length 0)) := PS_alloc ty59_zero ⟨rfl, rfl⟩
@[simp ↓] theorem alloc61 {s : St} {dr : Bool} {d : Option Tmp} {K : St → Prop} : PStepC Tryd.prog dr d (.alloc 61) K s ↔ okDst s d ∧ K ((s.pushBox (PV.cells (.sl ⟨0, 0, 0⟩ 1 []))).put d (.box s.boxes.length 0)) := PS_alloc ty61_zero ⟨rfl, rfl⟩
@[simp ↓] theorem app61 {s : St} {dr : Bool} {d : Option Tmp} {K : St → Prop} (x y : Operand) : PStepC Tryd.prog dr d (.call { callee := .builtin .append, args := #[x, y], argTypes := #[61, 61] }) K s ↔ okDst s d ∧ AppK 1 24 (s.ev x) (s.ev y) s (fun s' v => K (s'.put d v)) := PS_appendK ty61_slice ty62_size ty62_bytes ty62_zero ⟨by decide, by decide, rfl, rfl⟩ x y
@[simp ↓] theorem mk61 {s : St} {dr : Bool} {d : Option Tmp} {K : St → Prop} (x y : Operand) : PStepC Tryd.prog dr d (.makeSlice 61 x y) K s ↔ okDst s d ∧ MakeK 1 24 (.sl ⟨0, 0, 0⟩ 1 []) (s.ev x) (s.ev y) s (fun s' v => K (s'.put d v)) := PS_makeK ty61_slice ty62_size ty62_bytes ty62_zero ⟨by decide, by decide, rfl, rfl, rfl, rfl⟩ x y
@[simp ↓] theorem bsl61 {s : St} {dr : Bool} {d : Option Tmp} {K : St → Prop} (n : Nat) (l : List (Nat × Operand)) : PStepC Tryd.prog dr d (.buildSlice 61 n l.toArray) K s ↔ okDst s d ∧ n * 1 ≤ 16777216 ∧ l.map (·.1) = List.range n ∧ ((l.map fun x => s.ev x.2).all fun v => v.sized && v.closed && v.cells.all PV.isCell && v.cells.length == 1) = true ∧ K ((s.fresh (n * 1)).put d (.sl ⟨s.next, s.next, 0⟩ 1 (l.map fun x => s.ev x.2))) := PS_buildK ty61_slice ty62_size ty62_zero ⟨by decide, rfl, rfl⟩ n l
@[simp ↓] theorem alloc62 {s : St} {dr : Bool} {d : Option Tmp} {K : St → Prop} : PStepC Tryd.prog dr d (.alloc 62) K s ↔ okDst s d ∧ K ((s.pushBox (PV.cells (.sl ⟨0, 0, 0⟩ 1 []))).put d (.box s.boxes.length 0)) := PS_alloc ty62_zero ⟨rfl, rfl⟩
@[simp ↓] theorem app62 {s : St} {dr : Bool} {d : Option Tmp} {K : St → Prop} (x y : Operand) : PStepC Tryd.prog dr d (.call { callee := .builtin .append, args := #[x, y], argTypes := #[62, 62] }) K s ↔ okDst s d ∧ AppK 2 32 (s.ev x) (s.ev y) s (fun s' v => K (s'.put d v)) := PS_appendK ty62_slice ty39_size ty39_bytes ty39_zero ⟨by decide, by decide, rfl, rfl⟩ x y
@[simp ↓] theorem mk62 {s : St} {dr : Bool} {d : Option Tmp} {K : St → Prop} (x y : Operand) : PStepC Tryd.prog dr d (.makeSlice 62 x y) K s ↔ okDst s d ∧ MakeK 2 32 (.agg [.bool false, .sl ⟨0, 0, 0⟩ 1 []]) (s.ev x) (s.ev y) s (fun s' v => K (s'.put d v)) := PS_makeK ty62_slice ty39_size ty39_bytes ty39_zero ⟨by decide, by decide, rfl, rfl, rfl, rfl⟩ x y
@[simp ↓] theorem bsl62 {s : St} {dr : Bool} {d : Option Tmp} {K : St → Prop} (n : Nat) (l : List (Nat × Operand)) : PStepC Tryd.prog dr d (.buildSlice 62 n l.toArray) K s ↔ okDst s d ∧ n * 2 ≤ 16777216 ∧ l.map (·.1) = List.range n ∧ ((l.map fun x => s.ev x.2).all fun v => v.sized && v.closed && v.cells.all PV.isCell && v.cells.length == 2) = true ∧ K ((s.fresh (n * 2)).put d (.sl ⟨s.next, s.next, 0⟩ 2 (l.map fun x => s.ev x.2))) := PS_buildK ty62_slice ty39_size ty39_zero ⟨by decide, rfl, rfl⟩ n l
@[simp ↓] theorem alloc69 {s : St} {dr : Bool} {d : Option Tmp} {K : St → Prop} : PStepC Tryd.prog dr d (.alloc 69) K s ↔ okDst s d ∧ K ((s.pushBox (PV.cells (.int .u32 0))).put d (.box s.boxes.length 0)) := PS_alloc ty69_zero ⟨rfl, rfl⟩
@[simp ↓] theorem alloc80 {s : St} {dr : Bool} {d : Option Tmp} {K : St → Prop} : PStepC Tryd.prog dr d (.alloc 80) K s ↔ okDst s d ∧ K ((s.pushBox (PV.cells (.agg [.int .i64 0, .int .i64 0, .sl ⟨0, 0, 0⟩ 1 [], .int .i64 0, .int .i64 0, .sl ⟨0, 0, 0⟩ 1 [], .int .i64 0, .int .i64 0, .sl ⟨0, 0, 0⟩ 1 []]))).put d (.box s.boxes.length 0)) := PS_alloc ty80_zero ⟨rfl, rfl⟩
@[simp ↓] theorem alloc106 {s : St} {dr : Bool} {d : Option Tmp} {K : St → Prop} : PStepC Tryd.prog dr d (.alloc 106) K s ↔ okDst s d ∧ K ((s.pushBox (PV.cells (.agg [.sl ⟨0, 0, 0⟩ 1 [], .undef]))).put d (.box s.boxes.length 0)) := PS_alloc1 ty106_zero rfl (by kernel_rfl)
@[simp ↓] theorem alloc131 {s : St} {dr : Bool} {d : Option Tmp} {K : St → Prop} : PStepC Tryd.prog dr d (.alloc 131) K s ↔ okDst s d ∧ K ((s.pushBox (PV.cells (.agg [.int .i64 0, .int .i64 0]))).put d (.box s.boxes.length 0)) := PS_alloc ty131_zero ⟨rfl, rfl⟩
@[simp ↓] theorem alloc134 {s : St} {dr : Bool} {d : Option Tmp} {K : St → Prop} : PStepC Tryd.prog dr d (.alloc 134) K s ↔ okDst s d ∧ K ((s.pushBox (PV.cells (.sl ⟨0, 0, 0⟩ 1 []))).put d (.box s.boxes.length 0)) := PS_alloc ty134_zero ⟨rfl, rfl⟩
@[simp ↓] theorem app134 {s : St} {dr : Bool} {d : Option Tmp} {K : St → Prop} (x y : Operand) : PStepC Tryd.prog dr d (.call { callee := .builtin .append, args := #[x, y], argTypes := #[134, 134] }) K s ↔ okDst s d ∧ AppK 1 8 (s.ev x) (s.ev y) s (fun s' v => K (s'.put d v)) := PS_appendK ty134_slice ty3_size ty3_bytes ty3_zero ⟨by decide, by decide, rfl, rfl⟩ x y
@[simp ↓] theorem mk134 {s : St} {dr : Bool} {d : Option Tmp} {K : St → Prop} (x y : Operand) : PStepC Tryd.prog dr d (.makeSlice 134 x y) K s ↔ okDst s d ∧ MakeK 1 8 (.int .i64 0) (s.ev x) (s.ev y) s (fun s' v => K (s'.put d v)) := PS_makeK ty134_slice ty3_size ty3_bytes ty3_zero ⟨by decide, by decide, rfl, rfl, rfl, rfl⟩ x y
@[simp ↓] theorem bsl134 {s : St} {dr : Bool} {d : Option Tmp} {K : St → Prop} (n : Nat) (l : List (Nat × Operand)) : PStepC Tryd.prog dr d (.buildSlice 134 n l.toArray) K s ↔ okDst s d ∧ n * 1 ≤ 16777216 ∧ l.map (·.1) = List.range n ∧ ((l.map fun x => s.ev x.2).all fun v => v.sized && v.closed && v.cells.all PV.isCell && v.cells.length == 1) = true ∧ K ((s.fresh (n * 1)).put d (.sl ⟨s.next, s.next, 0⟩ 1 (l.map fun x => s.ev x.2))) := PS_buildK ty134_slice ty3_size ty3_zero ⟨by decide, rfl, rfl⟩ n l
@[simp ↓] theorem alloc152 {s : St} {dr : Bool} {d : Option Tmp} {K : St → Prop} : PStepC Tryd.prog dr d (.alloc 152) K s ↔ okDst s d ∧ K ((s.pushBox (PV.cells (.agg [.bool false, .int .i64 0, .int .u64 0]))).put d (.box s.boxes.length 0)) := PS_alloc ty152_zero ⟨rfl, rfl⟩
@[simp ↓] theorem alloc154 {s : St} {dr : Bool} {d : Option Tmp} {K : St → Prop} : PStepC Tryd.prog dr d (.alloc 154) K s ↔ okDst s d ∧ K ((s.pushBox (PV.cells (.agg (List.replicate 64 [.bool false, .sl ⟨0, 0, 0⟩ 1 []]).flatten))).put d (.box s.boxes.length 0)) := PS_alloc ty154_zero ⟨rfl, rfl⟩
@[simp ↓] theorem alloc158 {s : St} {dr : Bool} {d : Option Tmp} {K : St → Prop} : PStepC Tryd.prog dr d (.alloc 158) K s ↔ okDst s d ∧ K ((s.pushBox (PV.cells (.agg [.int .u8 0, .int .u8 0, .int .u8 0, .int .u8 0, .int .u8 0, .int .u8 0, .int .u8 0, .int .u8 0, .int .u8 0, .int .u8 0, .int .u8 0, .int .u8 0, .int .u8 0, .int .u8 0, .int .u8 0, .int .u8 0, .int .u8 0, .int .u8 0, .int .u8 0, .int .u8 0, .int .u8 0, .int .u8 0, .int .u8 0, .int .u8 0, .int .u8 0, .int .u8 0, .int .u8 0, .int .u8 0, .int .u8 0, .int .u8 0, .int .u8 0, .int .u8 0]))).put d (.box s.boxes.length 0)) := PS_alloc ty158_zero ⟨rfl, rfl⟩
@[simp] theorem call3 : callable Tryd.prog 3 := ⟨Tryd.f3, Tryd.func3, rfl, by kernel_rfl⟩
@[simp ↓] theorem pcall3 : PCs 3 := PS_callK call3
@[simp] theorem call4 : callable Tryd.prog 4 := ⟨Tryd.f4, Tryd.func4, rfl, by kernel_rfl⟩
@[simp ↓] theorem pcall4 : PCs 4 := PS_callK call4
@[simp] theorem call5 : callable Tryd.prog 5 := ⟨Tryd.f5, Tryd.func5, rfl, by kernel_rfl⟩
@[simp ↓] theorem pcall5 : PCs 5 := PS_callK call5
@[simp] theorem call6 : callable Tryd.prog 6 := ⟨Tryd.f6, Tryd.func6, rfl, by kernel_rfl⟩
@[simp ↓] theorem pcall6 : PCs 6 := PS_callK call6
@[simp] theorem call7 : callable Tryd.prog 7 := ⟨Tryd.f7, Tryd.func7, rfl, by kernel_rfl⟩
@[simp ↓] theorem pcall7 : PCs 7 := PS_callK call7
@[simp] theorem call8 : callable Tryd.prog 8 := ⟨Tryd.f8, Tryd.func8, rfl, by kernel_rfl⟩
@[simp ↓] theorem pcall8 : PCs 8 := PS_callK call8
@[simp] theorem call9 : callable Tryd.prog 9 := ⟨Tryd.f9, Tryd.func9, rfl, by kernel_rfl⟩
@[simp ↓] theorem pcall9 : PCs 9 := PS_callK call9
@[simp] theorem call10 : callable Tryd.prog 10 := ⟨Tryd.f10, Tryd.func10, rfl, by kernel_rfl⟩
@[simp ↓] theorem pcall10 : PCs 10 := PS_callK call10
@[simp] theorem call11 : callable Tryd.prog 11 := ⟨Tryd.f11, Tryd.func11, rfl, by kernel_rfl⟩
@[simp ↓] theorem pcall11 : PCs 11 := PS_callK call11
@[simp] theorem call12 : callable Tryd.prog 12 := ⟨Tryd.f12, Tryd.func12, rfl, by kernel_rfl⟩
@[simp ↓] theorem pcall12 : PCs 12 := PS_callK call12
@[simp] theorem call13 : callable Tryd.prog 13 := ⟨Tryd.f13, Tryd.func13, rfl, by kernel_rfl⟩
@[simp ↓] theorem pcall13 : PCs 13 := PS_callK call13
@[simp] theorem call14 : callable Tryd.prog 14 := ⟨Tryd.f14, Tryd.func14, rfl, by kernel_rfl⟩
@[simp ↓] theorem pcall14 : PCs 14 := PS_callK call14
@[simp] theorem call15 : callable Tryd.prog 15 := ⟨Tryd.f15, Tryd.func15, rfl, by kernel_rfl⟩
@[simp ↓] theorem pcall15 : PCs 15 := PS_callK call15
@[simp] theorem call16 : callable Tryd.prog 16 := ⟨Tryd.f16, Tryd.func16, rfl, by kernel_rfl⟩
@[simp ↓] theorem pcall16 : PCs 16 := PS_callK call16
@[simp] theorem call17 : callable Tryd.prog 17 := ⟨Tryd.f17, Tryd.func17, rfl, by kernel_rfl⟩
@[simp ↓] theorem pcall17 : PCs 17 := PS_callK call17
@[simp] theorem call18 : callable Tryd.prog 18 := ⟨Tryd.f18, Tryd.func18, rfl, by kernel_rfl⟩
@[simp ↓] theorem pcall18 : PCs 18 := PS_callK call18
@[simp] theorem call19 : callable Tryd.prog 19 := ⟨Tryd.f19, Tryd.func19, rfl, by kernel_rfl⟩
@[simp ↓] theorem pcall19 : PCs 19 := PS_callK call19
@[simp] theorem call20 : callable Tryd.prog 20 := ⟨Tryd.f20, Tryd.func20, rfl, by kernel_rfl⟩
@[simp ↓] theorem pcall20 : PCs 20 := PS_callK call20
@[simp] theorem call21 : callable Tryd.prog 21 := ⟨Tryd.f21, Tryd.func21, rfl, by kernel_rfl⟩
@[simp ↓] theorem pcall21 : PCs 21 := PS_callK call21
@[simp] theorem call22 : callable Tryd.prog 22 := ⟨Tryd.f22, Tryd.func22, rfl, by kernel_rfl⟩
@[simp ↓] theorem pcall22 : PCs 22 := PS_callK call22
@[simp] theorem call23 : callable Tryd.prog 23 := ⟨Tryd.f23, Tryd.func23, rfl, by kernel_rfl⟩
@[simp ↓] theorem pcall23 : PCs 23 := PS_callK call23
@[simp] theorem call24 : callable Tryd.prog 24 := ⟨Tryd.f24, Tryd.func24, rfl, by kernel_rfl⟩
@[simp ↓] theorem pcall24 : PCs 24 := PS_callK call24
@[simp] theorem call25 : callable Tryd.prog 25 := ⟨Tryd.f25, Tryd.func25, rfl, by kernel_rfl⟩
@[simp ↓] theorem pcall25 : PCs 25 := PS_callK call25
@[simp] theorem call26 : callable Tryd.prog 26 := ⟨Tryd.f26, Tryd.func26, rfl, by kernel_rfl⟩
@[simp ↓] theorem pcall26 : PCs 26 := PS_callK call26
@[simp] theorem call27 : callable Tryd.prog 27 := ⟨Tryd.f27, Tryd.func27, rfl, by kernel_rfl⟩
@[simp ↓] theorem pcall27 : PCs 27 := PS_callK call27
@[simp] theorem call28 : callable Tryd.prog 28 := ⟨Tryd.f28, Tryd.func28, rfl, by kernel_rfl⟩
@[simp ↓] theorem pcall28 : PCs 28 := PS_callK call28
@[simp] theorem call29 : callable Tryd.prog 29 := ⟨Tryd.f29, Tryd.func29, rfl, by kernel_rfl⟩
@[simp ↓] theorem pcall29 : PCs 29 := PS_callK call29
@[simp] theorem call30 : callable Tryd.prog 30 := ⟨Tryd.f30, Tryd.func30, rfl, by kernel_rfl⟩
@[simp ↓] theorem pcall30 : PCs 30 := PS_callK call30
@[simp] theorem call31 : callable Tryd.prog 31 := ⟨Tryd.f31, Tryd.func31, rfl, by kernel_rfl⟩
@[simp ↓] theorem pcall31 : PCs 31 := PS_callK call31
@[simp] theorem call32 : callable Tryd.prog 32 := ⟨Tryd.f32, Tryd.func32, rfl, by kernel_rfl⟩
@[simp ↓] theorem pcall32 : PCs 32 := PS_callK call32
@[simp] theorem call33 : callable Tryd.prog 33 := ⟨Tryd.f33, Tryd.func33, rfl, by kernel_rfl⟩
@[simp ↓] theorem pcall33 : PCs 33 := PS_callK call33
@[simp] theorem call34 : callable Tryd.prog 34 := ⟨Tryd.f34, Tryd.func34, rfl, by kernel_rfl⟩
@[simp ↓] theorem pcall34 : PCs 34 := PS_callK call34
@[simp] theorem call35 : callable Tryd.prog 35 := ⟨Tryd.f35, Tryd.func35, rfl, by kernel_rfl⟩
@[simp ↓] theorem pcall35 : PCs 35 := PS_callK call35
@[simp] theorem call36 : callable Tryd.prog 36 := ⟨Tryd.f36, Tryd.func36, rfl, by kernel_rfl⟩
@[simp ↓] theorem pcall36 : PCs 36 := PS_callK call36
@[simp] theorem call37 : callable Tryd.prog 37 := ⟨Tryd.f37, Tryd.func37, rfl, by kernel_rfl⟩
@[simp ↓] theorem pcall37 : PCs 37 := PS_callK call37
@[simp] theorem call38 : callable Tryd.prog 38 := ⟨Tryd.f38, Tryd.func38, rfl, by kernel_rfl⟩
@[simp ↓] theorem pcall38 : PCs 38 := PS_callK call38
@[simp] theorem call39 : callable Tryd.prog 39 := ⟨Tryd.f39, Tryd.func39, rfl, by kernel_rfl⟩
@[simp ↓] theorem pcall39 : PCs 39 := PS_callK call39
@[simp] theorem call40 : callable Tryd.prog 40 := ⟨Tryd.f40, Tryd.func40, rfl, by kernel_rfl⟩
@[simp ↓] theorem pcall40 : PCs 40 := PS_callK call40
@[simp] theorem call41 : callable Tryd.prog 41 := ⟨Tryd.f41, Tryd.func41, rfl, by kernel_rfl⟩
@[simp ↓] theorem pcall41 : PCs 41 := PS_callK call41
@[simp] theorem call42 : callable Tryd.prog 42 := ⟨Tryd.f42, Tryd.func42, rfl, by kernel_rfl⟩
@[simp ↓] theorem pcall42 : PCs 42 := PS_callK call42
@[simp] theorem call43 : callable Tryd.prog 43 := ⟨Tryd.f43, Tryd.func43, rfl, by kernel_rfl⟩
@[simp ↓] theorem pcall43 : PCs 43 := PS_callK call43
@[simp] theorem call44 : callable Tryd.prog 44 := ⟨Tryd.f44, Tryd.func44, rfl, by kernel_rfl⟩
@[simp ↓] theorem pcall44 : PCs 44 := PS_callK call44
@[simp] theorem call45 : callable Tryd.prog 45 := ⟨Tryd.f45, Tryd.func45, rfl, by kernel_rfl⟩
@[simp ↓] theorem pcall45 : PCs 45 := PS_callK call45
@[simp] theorem call46 : callable Tryd.prog 46 := ⟨Tryd.f46, Tryd.func46, rfl, by kernel_rfl⟩
@[simp ↓] theorem pcall46 : PCs 46 := PS_callK call46
@[simp] theorem call47 : callable Tryd.prog 47 := ⟨Tryd.f47, Tryd.func47, rfl, by kernel_rfl⟩
@[simp ↓] theorem pcall47 : PCs 47 := PS_callK call47
@[simp] theorem call48 : callable Tryd.prog 48 := ⟨Tryd.f48, Tryd.func48, rfl, by kernel_rfl⟩
@[simp ↓] theorem pcall48 : PCs 48 := PS_callK call48
@[simp] theorem call49 : callable Tryd.prog 49 := ⟨Tryd.f49, Tryd.func49, rfl, by kernel_rfl⟩
@[simp ↓] theorem pcall49 : PCs 49 := PS_callK call49
@[simp] theorem call50 : callable Tryd.prog 50 := ⟨Tryd.f50, Tryd.func50, rfl, by kernel_rfl⟩
@[simp ↓] theorem pcall50 : PCs 50 := PS_callK call50
@[simp] theorem call51 : callable Tryd.prog 51 := ⟨Tryd.f51, Tryd.func51, rfl, by kernel_rfl⟩
@[simp ↓] theorem pcall51 : PCs 51 := PS_callK call51
@[simp] theorem call52 : callable Tryd.prog 52 := ⟨Tryd.f52, Tryd.func52, rfl, by kernel_rfl⟩
@[simp ↓] theorem pcall52 : PCs 52 := PS_callK call52
@[simp] theorem call53 : callable Tryd.prog 53 := ⟨Tryd.f53, Tryd.func53, rfl, by kernel_rfl⟩
@[simp ↓] theorem pcall53 : PCs 53 := PS_callK call53
@[simp] theorem call54 : callable Tryd.prog 54 := ⟨Tryd.f54, Tryd.func54, rfl, by kernel_rfl⟩
@[simp ↓] theorem pcall54 : PCs 54 := PS_callK call54
@[simp] theorem call55 : callable Tryd.prog 55 := ⟨Tryd.f55, Tryd.func55, rfl, by kernel_rfl⟩
@[simp ↓] theorem pcall55 : PCs 55 := PS_callK call55
@[simp] theorem call56 : callable Tryd.prog 56 := ⟨Tryd.f56, Tryd.func56, rfl, by kernel_rfl⟩
@[simp ↓] theorem pcall56 : PCs 56 := PS_callK call56
@[simp] theorem call57 : callable Tryd.prog 57 := ⟨Tryd.f57, Tryd.func57, rfl, by kernel_rfl⟩
@[simp ↓] theorem pcall57 : PCs 57 := PS_callK call57
@[simp] theorem call58 : callable Tryd.prog 58 := ⟨Tryd.f58, Tryd.func58, rfl, by kernel_rfl⟩
@[simp ↓] theorem pcall58 : PCs 58 := PS_callK call58
@[simp] theorem call59 : callable Tryd.prog 59 := ⟨Tryd.f59, Tryd.func59, rfl, by kernel_rfl⟩
@[simp ↓] theorem pcall59 : PCs 59 := PS_callK call59
@[simp] theorem call60 : callable Tryd.prog 60 := ⟨Tryd.f60, Tryd.func60, rfl, by kernel_rfl⟩
@[simp ↓] theorem pcall60 : PCs 60 := PS_callK call60
@[simp] theorem call61 : callable Tryd.prog 61 := ⟨Tryd.f61, Tryd.func61, rfl, by kernel_rfl⟩
@[simp ↓] theorem pcall61 : PCs 61 := PS_callK call61
@[simp] theorem call62 : callable Tryd.prog 62 := ⟨Tryd.f62, Tryd.func62, rfl, by kernel_rfl⟩
@[simp ↓] theorem pcall62 : PCs 62 := PS_callK call62
@[simp] theorem call63 : callable Tryd.prog 63 := ⟨Tryd.f63, Tryd.func63, rfl, by kernel_rfl⟩
@[simp ↓] theorem pcall63 : PCs 63 := PS_callK call63
@[simp] theorem call64 : callable Tryd.prog 64 := ⟨Tryd.f64, Tryd.func64, rfl, by kernel_rfl⟩
@[simp ↓] theorem pcall64 : PCs 64 := PS_callK call64
@[simp] theorem call65 : callable Tryd.prog 65 := ⟨Tryd.f65, Tryd.func65, rfl, by kernel_rfl⟩
@[simp ↓] theorem pcall65 : PCs 65 := PS_callK call65
@[simp] theorem call66 : callable Tryd.prog 66 := ⟨Tryd.f66, Tryd.func66, rfl, by kernel_rfl⟩
@[simp ↓] theorem pcall66 : PCs 66 := PS_callK call66
@[simp] theorem call67 : callable Tryd.prog 67 := ⟨Tryd.f67, Tryd.func67, rfl, by kernel_rfl⟩
@[simp ↓] theorem pcall67 : PCs 67 := PS_callK call67
@[simp] theorem call68 : callable Tryd.prog 68 := ⟨Tryd.f68, Tryd.func68, rfl, by kernel_rfl⟩
@[simp ↓] theorem pcall68 : PCs 68 := PS_callK call68
@[simp] theorem call69 : callable Tryd.prog 69 := ⟨Tryd.f69, Tryd.func69, rfl, by kernel_rfl⟩
@[simp ↓] theorem pcall69 : PCs 69 := PS_callK call69
@[simp] theorem call70 : callable Tryd.prog 70 := ⟨Tryd.f70, Tryd.func70, rfl, by kernel_rfl⟩
@[simp ↓] theorem pcall70 : PCs 70 := PS_callK call70
@[simp] theorem call71 : callable Tryd.prog 71 := ⟨Tryd.f71, Tryd.func71, rfl, by kernel_rfl⟩
@[simp ↓] theorem pcall71 : PCs 71 := PS_callK call71
@[simp] theorem call72 : callable Tryd.prog 72 := ⟨Tryd.f72, Tryd.func72, rfl, by kernel_rfl⟩
@[simp ↓] theorem pcall72 : PCs 72 := PS_callK call72
@[simp] theorem call73 : callable Tryd.prog 73 := ⟨Tryd.f73, Tryd.func73, rfl, by kernel_rfl⟩
@[simp ↓] theorem pcall73 : PCs 73 := PS_callK call73
@[simp] theorem call74 : callable Tryd.prog 74 := ⟨Tryd.f74, Tryd.func74, rfl, by kernel_rfl⟩
@[simp ↓] theorem pcall74 : PCs 74 := PS_callK call74
@[simp] theorem call75 : callable Tryd.prog 75 := ⟨Tryd.f75, Tryd.func75, rfl, by kernel_rfl⟩
@[simp ↓] theorem pcall75 : PCs 75 := PS_callK call75
@[simp] theorem call76 : callable Tryd.prog 76 := ⟨Tryd.f76, Tryd.func76, rfl, by kernel_rfl⟩
@[simp ↓] theorem pcall76 : PCs 76 := PS_callK call76
@[simp] theorem call77 : callable Tryd.prog 77 := ⟨Tryd.f77, Tryd.func77, rfl, by kernel_rfl⟩
@[simp ↓] theorem pcall77 : PCs 77 := PS_callK call77
@[simp] theorem call78 : callable Tryd.prog 78 := ⟨Tryd.f78, Tryd.func78, rfl, by kernel_rfl⟩
@[simp ↓] theorem pcall78 : PCs 78 := PS_callK call78
@[simp] theorem call79 : callable Tryd.prog 79 := ⟨Tryd.f79, Tryd.func79, rfl, by kernel_rfl⟩
@[simp ↓] theorem pcall79 : PCs 79 := PS_callK call79
@[simp] theorem call80 : callable Tryd.prog 80 := ⟨Tryd.f80, Tryd.func80, rfl, by kernel_rfl⟩
@[simp ↓] theorem pcall80 : PCs 80 := PS_callK call80
@[simp] theorem call81 : callable Tryd.prog 81 := ⟨Tryd.f81, Tryd.func81, rfl, by kernel_rfl⟩
@[simp ↓] theorem pcall81 : PCs 81 := PS_callK call81
@[simp] theorem call82 : callable Tryd.prog 82 := ⟨Tryd.f82, Tryd.func82, rfl, by kernel_rfl⟩
@[simp ↓] theorem pcall82 : PCs 82 := PS_callK call82
@[simp] theorem call83 : callable Tryd.prog 83 := ⟨Tryd.f83, Tryd.func83, rfl, by kernel_rfl⟩
@[simp ↓] theorem pcall83 : PCs 83 := PS_callK call83
@[simp] theorem call84 : callable Tryd.prog 84 := ⟨Tryd.f84, Tryd.func84, rfl, by kernel_rfl⟩
@[simp ↓] theorem pcall84 : PCs 84 := PS_callK call84
@[simp] theorem call85 : callable Tryd.prog 85 := ⟨Tryd.f85, Tryd.func85, rfl, by kernel_rfl⟩
@[simp ↓] theorem pcall85 : PCs 85 := PS_callK call85
@[simp] theorem call86 : callable Tryd.prog 86 := ⟨Tryd.f86, Tryd.func86, rfl, by kernel_rfl⟩
@[simp ↓] theorem pcall86 : PCs 86 := PS_callK call86
@[simp] theorem call87 : callable Tryd.prog 87 := ⟨Tryd.f87, Tryd.func87, rfl, by kernel_rfl⟩
@[simp ↓] theorem pcall87 : PCs 87 := PS_callK call87
@[simp] theorem call88 : callable Tryd.prog 88 := ⟨Tryd.f88, Tryd.func88, rfl, by kernel_rfl⟩
@[simp ↓] theorem pcall88 : PCs 88 := PS_callK call88
@[simp] theorem call89 : callable Tryd.prog 89 := ⟨Tryd.f89, Tryd.func89, rfl, by kernel_rfl⟩
@[simp ↓] theorem pcall89 : PCs 89 := PS_callK call89
@[simp] theorem call90 : callable Tryd.prog 90 := ⟨Tryd.f90, Tryd.func90, rfl, by kernel_rfl⟩
@[simp ↓] theorem pcall90 : PCs 90 := PS_callK call90
@[simp] theorem call91 : callable Tryd.prog 91 := ⟨Tryd.f91, Tryd.func91, rfl, by kernel_rfl⟩
@[simp ↓] theorem pcall91 : PCs 91 := PS_callK call91
@[simp] theorem call92 : callable Tryd.prog 92 := ⟨Tryd.f92, Tryd.func92, rfl, by kernel_rfl⟩
@[simp ↓] theorem pcall92 : PCs 92 := PS_callK call92
@[simp] theorem call93 : callable Tryd.prog 93 := ⟨Tryd.f93, Tryd.func93, rfl, by kernel_rfl⟩
@[simp ↓] theorem pcall93 : PCs 93 := PS_callK call93
@[simp] theorem call94 : callable Tryd.prog 94 := ⟨Tryd.f94, Tryd.func94, rfl, by kernel_rfl⟩
@[simp ↓] theorem pcall94 : PCs 94 := PS_callK call94
@[simp] theorem call95 : callable Tryd.prog 95 := ⟨Tryd.f95, Tryd.func95, rfl, by kernel_rfl⟩
@[simp ↓] theorem pcall95 : PCs 95 := PS_callK call95
@[simp] theorem call96 : callable Tryd.prog 96 := ⟨Tryd.f96, Tryd.func96, rfl, by kernel_rfl⟩
@[simp ↓] theorem pcall96 : PCs 96 := PS_callK call96
@[simp] theorem call98 : callable Tryd.prog 98 := ⟨Tryd.f98, Tryd.func98, rfl, by kernel_rfl⟩
@[simp ↓] theorem pcall98 : PCs 98 := PS_callK call98
@[simp] theorem call99 : callable Tryd.prog 99 := ⟨Tryd.f99, Tryd.func99, rfl, by kernel_rfl⟩
@[simp ↓] theorem pcall99 : PCs 99 := PS_callK call99
@[simp] theorem call101 : callable Tryd.prog 101 := ⟨Tryd.f101, Tryd.func101, rfl, by kernel_rfl⟩
@[simp ↓] theorem pcall101 : PCs 101 := PS_callK call101
@[simp] theorem call102 : callable Tryd.prog 102 := ⟨Tryd.f102, Tryd.func102, rfl, by kernel_rfl⟩
@[simp ↓] theorem pcall102 : PCs 102 := PS_callK call102
@[simp] theorem call103 : callable Tryd.prog 103 := ⟨Tryd.f103, Tryd.func103, rfl, by kernel_rfl⟩
@[simp ↓] theorem pcall103 : PCs 103 := PS_callK call103
@[simp] theorem call104 : callable Tryd.prog 104 := ⟨Tryd.f104, Tryd.func104, rfl, by kernel_rfl⟩
@[simp ↓] theorem pcall104 : PCs 104 := PS_callK call104
@[simp] theorem call105 : callable Tryd.prog 105 := ⟨Tryd.f105, Tryd.func105, rfl, by kernel_rfl⟩
@[simp ↓] theorem pcall105 : PCs 105 := PS_callK call105
@[simp] theorem call106 : callable Tryd.prog 106 := ⟨Tryd.f106, Tryd.func106, rfl, by kernel_rfl⟩
@[simp ↓] theorem pcall106 : PCs 106 := PS_callK call106
@[simp] theorem call107 : callable Tryd.prog 107 := ⟨Tryd.f107, Tryd.func107, rfl, by kernel_rfl⟩
@[simp ↓] theorem pcall107 : PCs 107 := PS_callK call107
@[simp] theorem call108 : callable Tryd.prog 108 := ⟨Tryd.f108, Tryd.func108, rfl, by kernel_rfl⟩
@[simp ↓] theorem pcall108 : PCs 108 := PS_callK call108
@[simp] theorem call109 : callable Tryd.prog 109 := ⟨Tryd.f109, Tryd.func109, rfl, by kernel_rfl⟩
@[simp ↓] theorem pcall109 : PCs 109 := PS_callK call109
@[simp] theorem call110 : callable Tryd.prog 110 := ⟨Tryd.f110, Tryd.func110, rfl, by kernel_rfl⟩
@[simp ↓] theorem pcall110 : PCs 110 := PS_callK call110
@[simp] theorem call111 : callable Tryd.prog 111 := ⟨Tryd.f111, Tryd.func111, rfl, by kernel_rfl⟩
@[simp ↓] theorem pcall111 : PCs 111 := PS_callK call111
@[simp] theorem call112 : callable Tryd.prog 112 := ⟨Tryd.f112, Tryd.func112, rfl, by kernel_rfl⟩
@[simp ↓] theorem pcall112 : PCs 112 := PS_callK call112
@[simp] theorem call113 : callable Tryd.prog 113 := ⟨Tryd.f113, Tryd.func113, rfl, by kernel_rfl⟩
@[simp ↓] theorem pcall113 : PCs 113 := PS_callK call113
@[simp] theorem call114 : callable Tryd.prog 114 := ⟨Tryd.f114, Tryd.func114, rfl, by kernel_rfl⟩
@[simp ↓] theorem pcall114 : PCs 114 := PS_callK call114
@[simp] theorem call115 : callable Tryd.prog 115 := ⟨Tryd.f115, Tryd.func115, rfl, by kernel_rfl⟩
@[simp ↓] theorem pcall115 : PCs 115 := PS_callK call115
@[simp] theorem call116 : callable Tryd.prog 116 := ⟨Tryd.f116, Tryd.func116, rfl, by kernel_rfl⟩
@[simp ↓] theorem pcall116 : PCs 116 := PS_callK call116
@[simp] theorem call117 : callable Tryd.prog 117 := ⟨Tryd.f117, Tryd.func117, rfl, by kernel_rfl⟩
@[simp ↓] theorem pcall117 : PCs 117 := PS_callK call117
@[simp] theorem call118 : callable Tryd.prog 118 := ⟨Tryd.f118, Tryd.func118, rfl, by kernel_rfl⟩
@[simp ↓] theorem pcall118 : PCs 118 := PS_callK call118
@[simp] theorem call119 : callable Tryd.prog 119 := ⟨Tryd.f119, Tryd.func119, rfl, by kernel_rfl⟩
@[simp ↓] theorem pcall119 : PCs 119 := PS_callK call119
@[simp] theorem call120 : callable Tryd.prog 120 := ⟨Tryd.f120, Tryd.func120, rfl, by kernel_rfl⟩
@[simp ↓] theorem pcall120 : PCs 120 := PS_callK call120
@[simp] theorem call121 : callable Tryd.prog 121 := ⟨Tryd.f121, Tryd.func121, rfl, by kernel_rfl⟩
@[simp ↓] theorem pcall121 : PCs 121 := PS_callK call121
@[simp] theorem call122 : callable Tryd.prog 122 := ⟨Tryd.f122, Tryd.func122, rfl, by kernel_rfl⟩
@[simp ↓] theorem pcall122 : PCs 122 := PS_callK call122
@[simp] theorem call123 : callable Tryd.prog 123 := ⟨Tryd.f123, Tryd.func123, rfl, by kernel_rfl⟩
@[simp ↓] theorem pcall123 : PCs 123 := PS_callK call123
@[simp] theorem call124 : callable Tryd.prog 124 := ⟨Tryd.f124, Tryd.func124, rfl, by kernel_rfl⟩
@[simp ↓] theorem pcall124 : PCs 124 := PS_callK call124
@[simp] theorem call125 : callable Tryd.prog 125 := ⟨Tryd.f125, Tryd.func125, rfl, by kernel_rfl⟩
@[simp ↓] theorem pcall125 : PCs 125 := PS_callK call125
@[simp] theorem call126 : callable Tryd.prog 126 := ⟨Tryd.f126, Tryd.func126, rfl, by kernel_rfl⟩
@[simp ↓] theorem pcall126 : PCs 126 := PS_callK call126
@[simp] theorem call127 : callable Tryd.prog 127 := ⟨Tryd.f127, Tryd.func127, rfl, by kernel_rfl⟩
@[simp ↓] theorem pcall127 : PCs 127 := PS_callK call127
@[simp] theorem call128 : callable Tryd.prog 128 := ⟨Tryd.f128, Tryd.func128, rfl, by kernel_rfl⟩
@[simp ↓] theorem pcall128 : PCs 128 := PS_callK call128
@[simp] theorem call129 : callable Tryd.prog 129 := ⟨Tryd.f129, Tryd.func129, rfl, by kernel_rfl⟩
@[simp ↓] theorem pcall129 : PCs 129 := PS_callK call129
@[simp] theorem call130 : callable Tryd.prog 130 := ⟨Tryd.f130, Tryd.func130, rfl, by kernel_rfl⟩
@[simp ↓] theorem pcall130 : PCs 130 := PS_callK call130
@[simp] theorem call131 : callable Tryd.prog 131 := ⟨Tryd.f131, Tryd.func131, rfl, by kernel_rfl⟩
@[simp ↓] theorem pcall131 : PCs 131 := PS_callK call131
@[simp] theorem call132 : callable Tryd.prog 132 := ⟨Tryd.f132, Tryd.func132, rfl, by kernel_rfl⟩
@[simp ↓] theorem pcall132 : PCs 132 := PS_callK call132
@[simp] theorem call133 : callable Tryd.prog 133 := ⟨Tryd.f133, Tryd.func133, rfl, by kernel_rfl⟩
@[simp ↓] theorem pcall133 : PCs 133 := PS_callK call133
@[simp] theorem call134 : callable Tryd.prog 134 := ⟨Tryd.f134, Tryd.func134, rfl, by kernel_rfl⟩
@[simp ↓] theorem pcall134 : PCs 134 := PS_callK call134
@[simp] theorem call135 : callable Tryd.prog 135 := ⟨Tryd.f135, Tryd.func135, rfl, by kernel_rfl⟩
@[simp ↓] theorem pcall135 : PCs 135 := PS_callK call135
@[simp] theorem call136 : callable Tryd.prog 136 := ⟨Tryd.f136, Tryd.func136, rfl, by kernel_rfl⟩
@[simp ↓] theorem pcall136 : PCs 136 := PS_callK call136
@[simp] theorem call137 : callable Tryd.prog 137 := ⟨Tryd.f137, Tryd.func137, rfl, by kernel_rfl⟩
@[simp ↓] theorem pcall137 : PCs 137 := PS_callK call137
@[simp] theorem call138 : callable Tryd.prog 138 := ⟨Tryd.f138, Tryd.func138, rfl, by kernel_rfl⟩
@[simp ↓] theorem pcall138 : PCs 138 := PS_callK call138
@[simp] theorem call139 : callable Tryd.prog 139 := ⟨Tryd.f139, Tryd.func139, rfl, by kernel_rfl⟩
@[simp ↓] theorem pcall139 : PCs 139 := PS_callK call139
@[simp] theorem call140 : callable Tryd.prog 140 := ⟨Tryd.f140, Tryd.func140, rfl, by kernel_rfl⟩
@[simp ↓] theorem pcall140 : PCs 140 := PS_callK call140
@[simp] theorem call141 : callable Tryd.prog 141 := ⟨Tryd.f141, Tryd.func141, rfl, by kernel_rfl⟩
@[simp ↓] theorem pcall141 : PCs 141 := PS_callK call141
@[simp] theorem call142 : callable Tryd.prog 142 := ⟨Tryd.f142, Tryd.func142, rfl, by kernel_rfl⟩
@[simp ↓] theorem pcall142 : PCs 142 := PS_callK call142
@[simp] theorem call143 : callable Tryd.prog 143 := ⟨Tryd.f143, Tryd.func143, rfl, by kernel_rfl⟩
@[simp ↓] theorem pcall143 : PCs 143 := PS_callK call143
@[simp] theorem call144 : callable Tryd.prog 144 := ⟨Tryd.f144, Tryd.func144, rfl, by kernel_rfl⟩
@[simp ↓] theorem pcall144 : PCs 144 := PS_callK call144
@[simp] theorem call145 : callable Tryd.prog 145 := ⟨Tryd.f145, Tryd.func145, rfl, by kernel_rfl⟩
@[simp ↓] theorem pcall145 : PCs 145 := PS_callK call145
@[simp] theorem call146 : callable Tryd.prog 146 := ⟨Tryd.f146, Tryd.func146, rfl, by kernel_rfl⟩
@[simp ↓] theorem pcall146 : PCs 146 := PS_callK call146
@[simp] theorem call147 : callable Tryd.prog 147 := ⟨Tryd.f147, Tryd.func147, rfl, by kernel_rfl⟩
@[simp ↓] theorem pcall147 : PCs 147 := PS_callK call147
@[simp] theorem call148 : callable Tryd.prog 148 := ⟨Tryd.f148, Tryd.func148, rfl, by kernel_rfl⟩
@[simp ↓] theorem pcall148 : PCs 148 := PS_callK call148
@[simp] theorem call149 : callable Tryd.prog 149 := ⟨Tryd.f149, Tryd.func149, rfl, by kernel_rfl⟩
@[simp ↓] theorem pcall149 : PCs 149 := PS_callK call149
@[simp] theorem call150 : callable Tryd.prog 150 := ⟨Tryd.f150, Tryd.func150, rfl, by kernel_rfl⟩
@[simp ↓] theorem pcall150 : PCs 150 := PS_callK call150
@[simp] theorem call151 : callable Tryd.prog 151 := ⟨Tryd.f151, Tryd.func151, rfl, by kernel_rfl⟩
@[simp ↓] theorem pcall151 : PCs 151 := PS_callK call151
@[simp] theorem call152 : callable Tryd.prog 152 := ⟨Tryd.f152, Tryd.func152, rfl, by kernel_rfl⟩
@[simp ↓] theorem pcall152 : PCs 152 := PS_callK call152
@[simp] theorem call153 : callable Tryd.prog 153 := ⟨Tryd.f153, Tryd.func153, rfl, by kernel_rfl⟩
@[simp ↓] theorem pcall153 : PCs 153 := PS_callK call153
@[simp] theorem call154 : callable Tryd.prog 154 := ⟨Tryd.f154, Tryd.func154, rfl, by kernel_rfl⟩
@[simp ↓] theorem pcall154 : PCs 154 := PS_callK call154
@[simp ↓] theorem pclo {s : St} {dr : Bool} {d : Option Tmp} {K : St → Prop} (f : Tmp) (l : List Operand) : PStepC Tryd.prog dr d (.call { callee := .value (.tmp f), args := l.toArray, argTypes := #[41, 41] }) K s ↔ okDst s d ∧ CloK Tryd.prog (s.ev (.tmp f)) (l.map s.ev) s d K := PS_clo f l _ rfl
end Go.Proofs.YtphndngifjgeoaaDoor
