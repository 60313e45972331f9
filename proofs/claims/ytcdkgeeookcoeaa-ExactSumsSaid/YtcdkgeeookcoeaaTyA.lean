/- Closed facts on the types and functions of the translation, as the by-value walk asks them; each by the kernel. -/
import Derived.Test.YtcdkgeeookcoeaaProg
import Derived.Test.YtcdkgeeookcoeaaBvO
namespace Go.Proofs.Ytcdkgeeookcoeaa
open Go.Proofs
@[simp] theorem ty2_agg : tagg Try.prog 2 = some false := by kernel_rfl
@[simp] theorem ty2_size : tsize Try.prog 2 = some 1 := by kernel_rfl
@[simp] theorem ty2_bytes : tbytes Try.prog 2 = some 8 := by kernel_rfl
@[simp] theorem ty2_some : tsome Try.prog 2 = true := by kernel_rfl
@[simp] theorem ty2_slice : tslice Try.prog 2 = none := by kernel_rfl
@[simp] theorem ty2_int : tint Try.prog 2 = some .i64 := by kernel_rfl
@[simp] theorem ty2_bool : tbool Try.prog 2 = false := by kernel_rfl
@[simp] theorem ty2_zero : tzero Try.prog 2 = some (.int .i64 0) := by kernel_rfl
@[simp] theorem ty3_agg : tagg Try.prog 3 = some false := by kernel_rfl
@[simp] theorem ty3_size : tsize Try.prog 3 = some 1 := by kernel_rfl
@[simp] theorem ty3_bytes : tbytes Try.prog 3 = some 8 := by kernel_rfl
@[simp] theorem ty3_some : tsome Try.prog 3 = true := by kernel_rfl
@[simp] theorem ty3_slice : tslice Try.prog 3 = none := by kernel_rfl
@[simp] theorem ty3_int : tint Try.prog 3 = some .i64 := by kernel_rfl
@[simp] theorem ty3_bool : tbool Try.prog 3 = false := by kernel_rfl
@[simp] theorem ty3_zero : tzero Try.prog 3 = some (.int .i64 0) := by kernel_rfl
@[simp] theorem ty4_agg : tagg Try.prog 4 = some false := by kernel_rfl
@[simp] theorem ty4_size : tsize Try.prog 4 = some 1 := by kernel_rfl
@[simp] theorem ty4_bytes : tbytes Try.prog 4 = some 1 := by kernel_rfl
@[simp] theorem ty4_some : tsome Try.prog 4 = true := by kernel_rfl
@[simp] theorem ty4_slice : tslice Try.prog 4 = none := by kernel_rfl
@[simp] theorem ty4_bool : tbool Try.prog 4 = true := by kernel_rfl
@[simp] theorem ty4_zero : tzero Try.prog 4 = some (.bool false) := by kernel_rfl
@[simp] theorem ty5_agg : tagg Try.prog 5 = some false := by kernel_rfl
@[simp] theorem ty5_size : tsize Try.prog 5 = some 1 := by kernel_rfl
@[simp] theorem ty5_bytes : tbytes Try.prog 5 = some 1 := by kernel_rfl
@[simp] theorem ty5_some : tsome Try.prog 5 = true := by kernel_rfl
@[simp] theorem ty5_slice : tslice Try.prog 5 = none := by kernel_rfl
@[simp] theorem ty5_int : tint Try.prog 5 = some .u8 := by kernel_rfl
@[simp] theorem ty5_bool : tbool Try.prog 5 = false := by kernel_rfl
@[simp] theorem ty5_zero : tzero Try.prog 5 = some (.int .u8 0) := by kernel_rfl
@[simp] theorem ty9_agg : tagg Try.prog 9 = some false := by kernel_rfl
@[simp] theorem ty9_size : tsize Try.prog 9 = some 1 := by kernel_rfl
@[simp] theorem ty9_bytes : tbytes Try.prog 9 = some 16 := by kernel_rfl
@[simp] theorem ty9_some : tsome Try.prog 9 = true := by kernel_rfl
@[simp] theorem ty9_slice : tslice Try.prog 9 = none := by kernel_rfl
@[simp] theorem ty9_bool : tbool Try.prog 9 = false := by kernel_rfl
@[simp] theorem ty21_agg : tagg Try.prog 21 = some false := by kernel_rfl
@[simp] theorem ty21_size : tsize Try.prog 21 = some 1 := by kernel_rfl
@[simp] theorem ty21_bytes : tbytes Try.prog 21 = some 4 := by kernel_rfl
@[simp] theorem ty21_some : tsome Try.prog 21 = true := by kernel_rfl
@[simp] theorem ty21_slice : tslice Try.prog 21 = none := by kernel_rfl
@[simp] theorem ty21_int : tint Try.prog 21 = some .i32 := by kernel_rfl
@[simp] theorem ty21_bool : tbool Try.prog 21 = false := by kernel_rfl
@[simp] theorem ty21_zero : tzero Try.prog 21 = some (.int .i32 0) := by kernel_rfl
@[simp] theorem ty22_agg : tagg Try.prog 22 = some false := by kernel_rfl
@[simp] theorem ty22_size : tsize Try.prog 22 = some 1 := by kernel_rfl
@[simp] theorem ty22_bytes : tbytes Try.prog 22 = some 24 := by kernel_rfl
@[simp] theorem ty22_some : tsome Try.prog 22 = true := by kernel_rfl
@[simp] theorem ty22_slice : tslice Try.prog 22 = some 33 := by kernel_rfl
@[simp] theorem ty22_bool : tbool Try.prog 22 = false := by kernel_rfl
@[simp] theorem ty22_zero : tzero Try.prog 22 = some (.sl ⟨0, 0, 0⟩ 1 []) := by kernel_rfl
@[simp] theorem ty23_agg : tagg Try.prog 23 = some false := by kernel_rfl
@[simp] theorem ty23_size : tsize Try.prog 23 = some 1 := by kernel_rfl
@[simp] theorem ty23_bytes : tbytes Try.prog 23 = some 8 := by kernel_rfl
@[simp] theorem ty23_some : tsome Try.prog 23 = true := by kernel_rfl
@[simp] theorem ty23_slice : tslice Try.prog 23 = none := by kernel_rfl
@[simp] theorem ty23_int : tint Try.prog 23 = some .i64 := by kernel_rfl
@[simp] theorem ty23_bool : tbool Try.prog 23 = false := by kernel_rfl
@[simp] theorem ty23_zero : tzero Try.prog 23 = some (.int .i64 0) := by kernel_rfl
@[simp] theorem ty28_agg : tagg Try.prog 28 = some false := by kernel_rfl
@[simp] theorem ty28_size : tsize Try.prog 28 = some 1 := by kernel_rfl
@[simp] theorem ty28_bytes : tbytes Try.prog 28 = some 24 := by kernel_rfl
@[simp] theorem ty28_some : tsome Try.prog 28 = true := by kernel_rfl
@[simp] theorem ty28_slice : tslice Try.prog 28 = some 57 := by kernel_rfl
@[simp] theorem ty28_bool : tbool Try.prog 28 = false := by kernel_rfl
@[simp] theorem ty28_zero : tzero Try.prog 28 = some (.sl ⟨0, 0, 0⟩ 1 []) := by kernel_rfl
@[simp] theorem ty30_agg : tagg Try.prog 30 = some true := by kernel_rfl
@[simp] theorem ty30_size : tsize Try.prog 30 = some 2 := by kernel_rfl
@[simp] theorem ty30_bytes : tbytes Try.prog 30 = some 32 := by kernel_rfl
@[simp] theorem ty30_some : tsome Try.prog 30 = true := by kernel_rfl
@[simp] theorem ty30_fld0 : tfld Try.prog 30 0 = some (0, 1) := by kernel_rfl
@[simp] theorem ty30_fldAgg0 : tfldAgg Try.prog 30 0 = some false := by kernel_rfl
@[simp] theorem ty30_fld1 : tfld Try.prog 30 1 = some (1, 1) := by kernel_rfl
@[simp] theorem ty30_fldAgg1 : tfldAgg Try.prog 30 1 = some false := by kernel_rfl
@[simp] theorem ty30_places : tplaces Try.prog 30 = some [(0, 1), (1, 1)] := by kernel_rfl
@[simp] theorem ty30_slice : tslice Try.prog 30 = none := by kernel_rfl
@[simp] theorem ty30_aplaces : aplaces Try.prog 30 = none := by kernel_rfl
@[simp] theorem ty30_bool : tbool Try.prog 30 = false := by kernel_rfl
@[simp] theorem ty30_zero : tzero Try.prog 30 = some (.agg [.bool false, .sl ⟨0, 0, 0⟩ 1 []]) := by kernel_rfl
@[simp] theorem ty33_agg : tagg Try.prog 33 = some false := by kernel_rfl
@[simp] theorem ty33_size : tsize Try.prog 33 = some 1 := by kernel_rfl
@[simp] theorem ty33_bytes : tbytes Try.prog 33 = some 24 := by kernel_rfl
@[simp] theorem ty33_some : tsome Try.prog 33 = true := by kernel_rfl
@[simp] theorem ty33_slice : tslice Try.prog 33 = some 30 := by kernel_rfl
@[simp] theorem ty33_bool : tbool Try.prog 33 = false := by kernel_rfl
@[simp] theorem ty33_zero : tzero Try.prog 33 = some (.sl ⟨0, 0, 0⟩ 1 []) := by kernel_rfl
@[simp] theorem ty35_agg : tagg Try.prog 35 = some false := by kernel_rfl
@[simp] theorem ty35_size : tsize Try.prog 35 = some 1 := by kernel_rfl
@[simp] theorem ty35_bytes : tbytes Try.prog 35 = some 24 := by kernel_rfl
@[simp] theorem ty35_some : tsome Try.prog 35 = true := by kernel_rfl
@[simp] theorem ty35_slice : tslice Try.prog 35 = some 3 := by kernel_rfl
@[simp] theorem ty35_bool : tbool Try.prog 35 = false := by kernel_rfl
@[simp] theorem ty35_zero : tzero Try.prog 35 = some (.sl ⟨0, 0, 0⟩ 1 []) := by kernel_rfl
@[simp] theorem ty41_agg : tagg Try.prog 41 = some false := by kernel_rfl
@[simp] theorem ty41_size : tsize Try.prog 41 = some 1 := by kernel_rfl
@[simp] theorem ty41_bytes : tbytes Try.prog 41 = some 8 := by kernel_rfl
@[simp] theorem ty41_some : tsome Try.prog 41 = true := by kernel_rfl
@[simp] theorem ty41_slice : tslice Try.prog 41 = none := by kernel_rfl
@[simp] theorem ty41_int : tint Try.prog 41 = some .u64 := by kernel_rfl
@[simp] theorem ty41_bool : tbool Try.prog 41 = false := by kernel_rfl
@[simp] theorem ty41_zero : tzero Try.prog 41 = some (.int .u64 0) := by kernel_rfl
@[simp] theorem ty45_agg : tagg Try.prog 45 = some false := by kernel_rfl
@[simp] theorem ty45_size : tsize Try.prog 45 = some 1 := by kernel_rfl
@[simp] theorem ty45_bytes : tbytes Try.prog 45 = some 24 := by kernel_rfl
@[simp] theorem ty45_some : tsome Try.prog 45 = true := by kernel_rfl
@[simp] theorem ty45_slice : tslice Try.prog 45 = some 21 := by kernel_rfl
@[simp] theorem ty45_bool : tbool Try.prog 45 = false := by kernel_rfl
@[simp] theorem ty45_zero : tzero Try.prog 45 = some (.sl ⟨0, 0, 0⟩ 1 []) := by kernel_rfl
@[simp] theorem ty55_agg : tagg Try.prog 55 = some false := by kernel_rfl
@[simp] theorem ty55_size : tsize Try.prog 55 = some 1 := by kernel_rfl
@[simp] theorem ty55_bytes : tbytes Try.prog 55 = some 24 := by kernel_rfl
@[simp] theorem ty55_some : tsome Try.prog 55 = true := by kernel_rfl
@[simp] theorem ty55_slice : tslice Try.prog 55 = some 2 := by kernel_rfl
@[simp] theorem ty55_bool : tbool Try.prog 55 = false := by kernel_rfl
@[simp] theorem ty55_zero : tzero Try.prog 55 = some (.sl ⟨0, 0, 0⟩ 1 []) := by kernel_rfl
@[simp] theorem ty57_agg : tagg Try.prog 57 = some false := by kernel_rfl
@[simp] theorem ty57_size : tsize Try.prog 57 = some 1 := by kernel_rfl
@[simp] theorem ty57_bytes : tbytes Try.prog 57 = some 4 := by kernel_rfl
@[simp] theorem ty57_some : tsome Try.prog 57 = true := by kernel_rfl
@[simp] theorem ty57_slice : tslice Try.prog 57 = none := by kernel_rfl
@[simp] theorem ty57_int : tint Try.prog 57 = some .u32 := by kernel_rfl
@[simp] theorem ty57_bool : tbool Try.prog 57 = false := by kernel_rfl
@[simp] theorem ty57_zero : tzero Try.prog 57 = some (.int .u32 0) := by kernel_rfl
@[simp] theorem ty59_agg : tagg Try.prog 59 = some false := by kernel_rfl
@[simp] theorem ty59_size : tsize Try.prog 59 = some 1 := by kernel_rfl
@[simp] theorem ty59_bytes : tbytes Try.prog 59 = some 8 := by kernel_rfl
@[simp] theorem ty59_some : tsome Try.prog 59 = true := by kernel_rfl
@[simp] theorem ty59_slice : tslice Try.prog 59 = none := by kernel_rfl
@[simp] theorem ty59_bool : tbool Try.prog 59 = false := by kernel_rfl
@[simp] theorem ty59_map : mapT Try.prog 59 := ⟨78, 3, 3, .i64, by kernel_rfl, by kernel_rfl, by kernel_rfl, by kernel_rfl, by kernel_rfl, by kernel_rfl⟩
@[simp] theorem ty59_zero : tzero Try.prog 59 = some (.undef) := by kernel_rfl
@[simp] theorem ty61_agg : tagg Try.prog 61 = some true := by kernel_rfl
@[simp] theorem ty61_size : tsize Try.prog 61 = some 2 := by kernel_rfl
@[simp] theorem ty61_bytes : tbytes Try.prog 61 = some 32 := by kernel_rfl
@[simp] theorem ty61_some : tsome Try.prog 61 = true := by kernel_rfl
@[simp] theorem ty61_fld0 : tfld Try.prog 61 0 = some (0, 1) := by kernel_rfl
@[simp] theorem ty61_fldAgg0 : tfldAgg Try.prog 61 0 = some false := by kernel_rfl
@[simp] theorem ty61_fld1 : tfld Try.prog 61 1 = some (1, 1) := by kernel_rfl
@[simp] theorem ty61_fldAgg1 : tfldAgg Try.prog 61 1 = some false := by kernel_rfl
@[simp] theorem ty61_places : tplaces Try.prog 61 = some [(0, 1), (1, 1)] := by kernel_rfl
@[simp] theorem ty61_slice : tslice Try.prog 61 = none := by kernel_rfl
@[simp] theorem ty61_aplaces : aplaces Try.prog 61 = none := by kernel_rfl
@[simp] theorem ty61_bool : tbool Try.prog 61 = false := by kernel_rfl
@[simp] theorem ty61_zero : tzero Try.prog 61 = some (.agg [.sl ⟨0, 0, 0⟩ 1 [], .undef]) := by kernel_rfl
@[simp] theorem ty70_agg : tagg Try.prog 70 = some false := by kernel_rfl
@[simp] theorem ty70_size : tsize Try.prog 70 = some 1 := by kernel_rfl
@[simp] theorem ty70_bytes : tbytes Try.prog 70 = some 8 := by kernel_rfl
@[simp] theorem ty70_some : tsome Try.prog 70 = true := by kernel_rfl
@[simp] theorem ty70_slice : tslice Try.prog 70 = none := by kernel_rfl
@[simp] theorem ty70_int : tint Try.prog 70 = some .u64 := by kernel_rfl
@[simp] theorem ty70_bool : tbool Try.prog 70 = false := by kernel_rfl
@[simp] theorem ty70_zero : tzero Try.prog 70 = some (.int .u64 0) := by kernel_rfl
@[simp] theorem ty72_agg : tagg Try.prog 72 = some false := by kernel_rfl
@[simp] theorem ty72_size : tsize Try.prog 72 = some 1 := by kernel_rfl
@[simp] theorem ty72_bytes : tbytes Try.prog 72 = some 24 := by kernel_rfl
@[simp] theorem ty72_some : tsome Try.prog 72 = true := by kernel_rfl
@[simp] theorem ty72_slice : tslice Try.prog 72 = some 55 := by kernel_rfl
@[simp] theorem ty72_bool : tbool Try.prog 72 = false := by kernel_rfl
@[simp] theorem ty72_zero : tzero Try.prog 72 = some (.sl ⟨0, 0, 0⟩ 1 []) := by kernel_rfl
@[simp] theorem ty73_agg : tagg Try.prog 73 = some true := by kernel_rfl
@[simp] theorem ty73_size : tsize Try.prog 73 = some 128 := by kernel_rfl
@[simp] theorem ty73_bytes : tbytes Try.prog 73 = some 2048 := by kernel_rfl
@[simp] theorem ty73_some : tsome Try.prog 73 = true := by kernel_rfl
@[simp] theorem ty73_slice : tslice Try.prog 73 = none := by kernel_rfl
@[simp] theorem ty73_arr : tarr Try.prog 73 = some (64, 30) := by kernel_rfl
@[simp] theorem ty73_bool : tbool Try.prog 73 = false := by kernel_rfl
@[simp] theorem ty73_zero : tzero Try.prog 73 = some (.agg (List.replicate 64 [.bool false, .sl ⟨0, 0, 0⟩ 1 []]).flatten) := by kernel_rfl
@[simp] theorem ty78_agg : tagg Try.prog 78 = some true := by kernel_rfl
@[simp] theorem ty78_size : tsize Try.prog 78 = some 2 := by kernel_rfl
@[simp] theorem ty78_bytes : tbytes Try.prog 78 = some 16 := by kernel_rfl
@[simp] theorem ty78_some : tsome Try.prog 78 = true := by kernel_rfl
@[simp] theorem ty78_slice : tslice Try.prog 78 = none := by kernel_rfl
@[simp] theorem ty78_arr : tarr Try.prog 78 = some (2, 3) := by kernel_rfl
@[simp] theorem ty78_places : tplaces Try.prog 78 = none := by kernel_rfl
@[simp] theorem ty78_aplaces : aplaces Try.prog 78 = some [(0, 1), (1, 1)] := by kernel_rfl
@[simp] theorem ty78_bool : tbool Try.prog 78 = false := by kernel_rfl
@[simp] theorem ty78_zero : tzero Try.prog 78 = some (.agg [.int .i64 0, .int .i64 0]) := by kernel_rfl
theorem mixed : Try.prog.follows .mixedOrders = true := by kernel_rfl
@[simp ↓] theorem alloc2 {s : St} {dr : Bool} {d : Option Tmp} {K : St → Prop} : PStepC Try.prog dr d (.alloc 2) K s ↔ okDst s d ∧ K ((s.pushBox (PV.cells (.int .i64 0))).put d (.box s.boxes.length 0)) := PS_alloc ty2_zero ⟨rfl, rfl⟩
@[simp ↓] theorem alloc3 {s : St} {dr : Bool} {d : Option Tmp} {K : St → Prop} : PStepC Try.prog dr d (.alloc 3) K s ↔ okDst s d ∧ K ((s.pushBox (PV.cells (.int .i64 0))).put d (.box s.boxes.length 0)) := PS_alloc ty3_zero ⟨rfl, rfl⟩
@[simp ↓] theorem alloc4 {s : St} {dr : Bool} {d : Option Tmp} {K : St → Prop} : PStepC Try.prog dr d (.alloc 4) K s ↔ okDst s d ∧ K ((s.pushBox (PV.cells (.bool false))).put d (.box s.boxes.length 0)) := PS_alloc ty4_zero ⟨rfl, rfl⟩
@[simp ↓] theorem alloc5 {s : St} {dr : Bool} {d : Option Tmp} {K : St → Prop} : PStepC Try.prog dr d (.alloc 5) K s ↔ okDst s d ∧ K ((s.pushBox (PV.cells (.int .u8 0))).put d (.box s.boxes.length 0)) := PS_alloc ty5_zero ⟨rfl, rfl⟩
@[simp ↓] theorem alloc21 {s : St} {dr : Bool} {d : Option Tmp} {K : St → Prop} : PStepC Try.prog dr d (.alloc 21) K s ↔ okDst s d ∧ K ((s.pushBox (PV.cells (.int .i32 0))).put d (.box s.boxes.length 0)) := PS_alloc ty21_zero ⟨rfl, rfl⟩
@[simp ↓] theorem alloc22 {s : St} {dr : Bool} {d : Option Tmp} {K : St → Prop} : PStepC Try.prog dr d (.alloc 22) K s ↔ okDst s d ∧ K ((s.pushBox (PV.cells (.sl ⟨0, 0, 0⟩ 1 []))).put d (.box s.boxes.length 0)) := PS_alloc ty22_zero ⟨rfl, rfl⟩
@[simp ↓] theorem app22 {s : St} {dr : Bool} {d : Option Tmp} {K : St → Prop} (x y : Operand) : PStepC Try.prog dr d (.call { callee := .builtin .append, args := #[x, y], argTypes := #[22, 22] }) K s ↔ okDst s d ∧ AppK 1 24 (s.ev x) (s.ev y) s (fun s' v => K (s'.put d v)) := PS_appendK ty22_slice ty33_size ty33_bytes ty33_zero ⟨by decide, by decide, rfl, rfl⟩ x y
@[simp ↓] theorem mk22 {s : St} {dr : Bool} {d : Option Tmp} {K : St → Prop} (x y : Operand) : PStepC Try.prog dr d (.makeSlice 22 x y) K s ↔ okDst s d ∧ MakeK 1 24 (.sl ⟨0, 0, 0⟩ 1 []) (s.ev x) (s.ev y) s (fun s' v => K (s'.put d v)) := PS_makeK ty22_slice ty33_size ty33_bytes ty33_zero ⟨by decide, by decide, rfl, rfl, rfl, rfl⟩ x y
@[simp ↓] theorem bsl22 {s : St} {dr : Bool} {d : Option Tmp} {K : St → Prop} (n : Nat) (l : List (Nat × Operand)) : PStepC Try.prog dr d (.buildSlice 22 n l.toArray) K s ↔ okDst s d ∧ n * 1 ≤ 16777216 ∧ l.map (·.1) = List.range n ∧ ((l.map fun x => s.ev x.2).all fun v => v.sized && v.closed && v.cells.all PV.isCell && v.cells.length == 1) = true ∧ K ((s.fresh (n * 1)).put d (.sl ⟨s.next, s.next, 0⟩ 1 (l.map fun x => s.ev x.2))) := PS_buildK ty22_slice ty33_size ty33_zero ⟨by decide, rfl, rfl⟩ n l
@[simp ↓] theorem alloc23 {s : St} {dr : Bool} {d : Option Tmp} {K : St → Prop} : PStepC Try.prog dr d (.alloc 23) K s ↔ okDst s d ∧ K ((s.pushBox (PV.cells (.int .i64 0))).put d (.box s.boxes.length 0)) := PS_alloc ty23_zero ⟨rfl, rfl⟩
@[simp ↓] theorem alloc28 {s : St} {dr : Bool} {d : Option Tmp} {K : St → Prop} : PStepC Try.prog dr d (.alloc 28) K s ↔ okDst s d ∧ K ((s.pushBox (PV.cells (.sl ⟨0, 0, 0⟩ 1 []))).put d (.box s.boxes.length 0)) := PS_alloc ty28_zero ⟨rfl, rfl⟩
@[simp ↓] theorem app28 {s : St} {dr : Bool} {d : Option Tmp} {K : St → Prop} (x y : Operand) : PStepC Try.prog dr d (.call { callee := .builtin .append, args := #[x, y], argTypes := #[28, 28] }) K s ↔ okDst s d ∧ AppK 1 4 (s.ev x) (s.ev y) s (fun s' v => K (s'.put d v)) := PS_appendK ty28_slice ty57_size ty57_bytes ty57_zero ⟨by decide, by decide, rfl, rfl⟩ x y
@[simp ↓] theorem mk28 {s : St} {dr : Bool} {d : Option Tmp} {K : St → Prop} (x y : Operand) : PStepC Try.prog dr d (.makeSlice 28 x y) K s ↔ okDst s d ∧ MakeK 1 4 (.int .u32 0) (s.ev x) (s.ev y) s (fun s' v => K (s'.put d v)) := PS_makeK ty28_slice ty57_size ty57_bytes ty57_zero ⟨by decide, by decide, rfl, rfl, rfl, rfl⟩ x y
@[simp ↓] theorem bsl28 {s : St} {dr : Bool} {d : Option Tmp} {K : St → Prop} (n : Nat) (l : List (Nat × Operand)) : PStepC Try.prog dr d (.buildSlice 28 n l.toArray) K s ↔ okDst s d ∧ n * 1 ≤ 16777216 ∧ l.map (·.1) = List.range n ∧ ((l.map fun x => s.ev x.2).all fun v => v.sized && v.closed && v.cells.all PV.isCell && v.cells.length == 1) = true ∧ K ((s.fresh (n * 1)).put d (.sl ⟨s.next, s.next, 0⟩ 1 (l.map fun x => s.ev x.2))) := PS_buildK ty28_slice ty57_size ty57_zero ⟨by decide, rfl, rfl⟩ n l
@[simp ↓] theorem alloc30 {s : St} {dr : Bool} {d : Option Tmp} {K : St → Prop} : PStepC Try.prog dr d (.alloc 30) K s ↔ okDst s d ∧ K ((s.pushBox (PV.cells (.agg [.bool false, .sl ⟨0, 0, 0⟩ 1 []]))).put d (.box s.boxes.length 0)) := PS_alloc ty30_zero ⟨rfl, rfl⟩
@[simp ↓] theorem alloc33 {s : St} {dr : Bool} {d : Option Tmp} {K : St → Prop} : PStepC Try.prog dr d (.alloc 33) K s ↔ okDst s d ∧ K ((s.pushBox (PV.cells (.sl ⟨0, 0, 0⟩ 1 []))).put d (.box s.boxes.length 0)) := PS_alloc ty33_zero ⟨rfl, rfl⟩
@[simp ↓] theorem app33 {s : St} {dr : Bool} {d : Option Tmp} {K : St → Prop} (x y : Operand) : PStepC Try.prog dr d (.call { callee := .builtin .append, args := #[x, y], argTypes := #[33, 33] }) K s ↔ okDst s d ∧ AppK 2 32 (s.ev x) (s.ev y) s (fun s' v => K (s'.put d v)) := PS_appendK ty33_slice ty30_size ty30_bytes ty30_zero ⟨by decide, by decide, rfl, rfl⟩ x y
@[simp ↓] theorem mk33 {s : St} {dr : Bool} {d : Option Tmp} {K : St → Prop} (x y : Operand) : PStepC Try.prog dr d (.makeSlice 33 x y) K s ↔ okDst s d ∧ MakeK 2 32 (.agg [.bool false, .sl ⟨0, 0, 0⟩ 1 []]) (s.ev x) (s.ev y) s (fun s' v => K (s'.put d v)) := PS_makeK ty33_slice ty30_size ty30_bytes ty30_zero ⟨by decide, by decide, rfl, rfl, rfl, rfl⟩ x y
@[simp ↓] theorem bsl33 {s : St} {dr : Bool} {d : Option Tmp} {K : St → Prop} (n : Nat) (l : List (Nat × Operand)) : PStepC Try.prog dr d (.buildSlice 33 n l.toArray) K s ↔ okDst s d ∧ n * 2 ≤ 16777216 ∧ l.map (·.1) = List.range n ∧ ((l.map fun x => s.ev x.2).all fun v => v.sized && v.closed && v.cells.all PV.isCell && v.cells.length == 2) = true ∧ K ((s.fresh (n * 2)).put d (.sl ⟨s.next, s.next, 0⟩ 2 (l.map fun x => s.ev x.2))) := PS_buildK ty33_slice ty30_size ty30_zero ⟨by decide, rfl, rfl⟩ n l
@[simp ↓] theorem alloc35 {s : St} {dr : Bool} {d : Option Tmp} {K : St → Prop} : PStepC Try.prog dr d (.alloc 35) K s ↔ okDst s d ∧ K ((s.pushBox (PV.cells (.sl ⟨0, 0, 0⟩ 1 []))).put d (.box s.boxes.length 0)) := PS_alloc ty35_zero ⟨rfl, rfl⟩
@[simp ↓] theorem app35 {s : St} {dr : Bool} {d : Option Tmp} {K : St → Prop} (x y : Operand) : PStepC Try.prog dr d (.call { callee := .builtin .append, args := #[x, y], argTypes := #[35, 35] }) K s ↔ okDst s d ∧ AppK 1 8 (s.ev x) (s.ev y) s (fun s' v => K (s'.put d v)) := PS_appendK ty35_slice ty3_size ty3_bytes ty3_zero ⟨by decide, by decide, rfl, rfl⟩ x y
@[simp ↓] theorem mk35 {s : St} {dr : Bool} {d : Option Tmp} {K : St → Prop} (x y : Operand) : PStepC Try.prog dr d (.makeSlice 35 x y) K s ↔ okDst s d ∧ MakeK 1 8 (.int .i64 0) (s.ev x) (s.ev y) s (fun s' v => K (s'.put d v)) := PS_makeK ty35_slice ty3_size ty3_bytes ty3_zero ⟨by decide, by decide, rfl, rfl, rfl, rfl⟩ x y
@[simp ↓] theorem bsl35 {s : St} {dr : Bool} {d : Option Tmp} {K : St → Prop} (n : Nat) (l : List (Nat × Operand)) : PStepC Try.prog dr d (.buildSlice 35 n l.toArray) K s ↔ okDst s d ∧ n * 1 ≤ 16777216 ∧ l.map (·.1) = List.range n ∧ ((l.map fun x => s.ev x.2).all fun v => v.sized && v.closed && v.cells.all PV.isCell && v.cells.length == 1) = true ∧ K ((s.fresh (n * 1)).put d (.sl ⟨s.next, s.next, 0⟩ 1 (l.map fun x => s.ev x.2))) := PS_buildK ty35_slice ty3_size ty3_zero ⟨by decide, rfl, rfl⟩ n l
@[simp ↓] theorem alloc41 {s : St} {dr : Bool} {d : Option Tmp} {K : St → Prop} : PStepC Try.prog dr d (.alloc 41) K s ↔ okDst s d ∧ K ((s.pushBox (PV.cells (.int .u64 0))).put d (.box s.boxes.length 0)) := PS_alloc ty41_zero ⟨rfl, rfl⟩
@[simp ↓] theorem alloc45 {s : St} {dr : Bool} {d : Option Tmp} {K : St → Prop} : PStepC Try.prog dr d (.alloc 45) K s ↔ okDst s d ∧ K ((s.pushBox (PV.cells (.sl ⟨0, 0, 0⟩ 1 []))).put d (.box s.boxes.length 0)) := PS_alloc ty45_zero ⟨rfl, rfl⟩
@[simp ↓] theorem app45 {s : St} {dr : Bool} {d : Option Tmp} {K : St → Prop} (x y : Operand) : PStepC Try.prog dr d (.call { callee := .builtin .append, args := #[x, y], argTypes := #[45, 45] }) K s ↔ okDst s d ∧ AppK 1 4 (s.ev x) (s.ev y) s (fun s' v => K (s'.put d v)) := PS_appendK ty45_slice ty21_size ty21_bytes ty21_zero ⟨by decide, by decide, rfl, rfl⟩ x y
@[simp ↓] theorem mk45 {s : St} {dr : Bool} {d : Option Tmp} {K : St → Prop} (x y : Operand) : PStepC Try.prog dr d (.makeSlice 45 x y) K s ↔ okDst s d ∧ MakeK 1 4 (.int .i32 0) (s.ev x) (s.ev y) s (fun s' v => K (s'.put d v)) := PS_makeK ty45_slice ty21_size ty21_bytes ty21_zero ⟨by decide, by decide, rfl, rfl, rfl, rfl⟩ x y
@[simp ↓] theorem bsl45 {s : St} {dr : Bool} {d : Option Tmp} {K : St → Prop} (n : Nat) (l : List (Nat × Operand)) : PStepC Try.prog dr d (.buildSlice 45 n l.toArray) K s ↔ okDst s d ∧ n * 1 ≤ 16777216 ∧ l.map (·.1) = List.range n ∧ ((l.map fun x => s.ev x.2).all fun v => v.sized && v.closed && v.cells.all PV.isCell && v.cells.length == 1) = true ∧ K ((s.fresh (n * 1)).put d (.sl ⟨s.next, s.next, 0⟩ 1 (l.map fun x => s.ev x.2))) := PS_buildK ty45_slice ty21_size ty21_zero ⟨by decide, rfl, rfl⟩ n l
@[simp ↓] theorem alloc55 {s : St} {dr : Bool} {d : Option Tmp} {K : St → Prop} : PStepC Try.prog dr d (.alloc 55) K s ↔ okDst s d ∧ K ((s.pushBox (PV.cells (.sl ⟨0, 0, 0⟩ 1 []))).put d (.box s.boxes.length 0)) := PS_alloc ty55_zero ⟨rfl, rfl⟩
@[simp ↓] theorem app55 {s : St} {dr : Bool} {d : Option Tmp} {K : St → Prop} (x y : Operand) : PStepC Try.prog dr d (.call { callee := .builtin .append, args := #[x, y], argTypes := #[55, 55] }) K s ↔ okDst s d ∧ AppK 1 8 (s.ev x) (s.ev y) s (fun s' v => K (s'.put d v)) := PS_appendK ty55_slice ty2_size ty2_bytes ty2_zero ⟨by decide, by decide, rfl, rfl⟩ x y
@[simp ↓] theorem mk55 {s : St} {dr : Bool} {d : Option Tmp} {K : St → Prop} (x y : Operand) : PStepC Try.prog dr d (.makeSlice 55 x y) K s ↔ okDst s d ∧ MakeK 1 8 (.int .i64 0) (s.ev x) (s.ev y) s (fun s' v => K (s'.put d v)) := PS_makeK ty55_slice ty2_size ty2_bytes ty2_zero ⟨by decide, by decide, rfl, rfl, rfl, rfl⟩ x y
@[simp ↓] theorem bsl55 {s : St} {dr : Bool} {d : Option Tmp} {K : St → Prop} (n : Nat) (l : List (Nat × Operand)) : PStepC Try.prog dr d (.buildSlice 55 n l.toArray) K s ↔ okDst s d ∧ n * 1 ≤ 16777216 ∧ l.map (·.1) = List.range n ∧ ((l.map fun x => s.ev x.2).all fun v => v.sized && v.closed && v.cells.all PV.isCell && v.cells.length == 1) = true ∧ K ((s.fresh (n * 1)).put d (.sl ⟨s.next, s.next, 0⟩ 1 (l.map fun x => s.ev x.2))) := PS_buildK ty55_slice ty2_size ty2_zero ⟨by decide, rfl, rfl⟩ n l
@[simp ↓] theorem alloc57 {s : St} {dr : Bool} {d : Option Tmp} {K : St → Prop} : PStepC Try.prog dr d (.alloc 57) K s ↔ okDst s d ∧ K ((s.pushBox (PV.cells (.int .u32 0))).put d (.box s.boxes.length 0)) := PS_alloc ty57_zero ⟨rfl, rfl⟩
@[simp ↓] theorem alloc61 {s : St} {dr : Bool} {d : Option Tmp} {K : St → Prop} : PStepC Try.prog dr d (.alloc 61) K s ↔ okDst s d ∧ K ((s.pushBox (PV.cells (.agg [.sl ⟨0, 0, 0⟩ 1 [], .undef]))).put d (.box s.boxes.length 0)) := PS_alloc1 ty61_zero rfl (by kernel_rfl)
@[simp ↓] theorem alloc70 {s : St} {dr : Bool} {d : Option Tmp} {K : St → Prop} : PStepC Try.prog dr d (.alloc 70) K s ↔ okDst s d ∧ K ((s.pushBox (PV.cells (.int .u64 0))).put d (.box s.boxes.length 0)) := PS_alloc ty70_zero ⟨rfl, rfl⟩
@[simp ↓] theorem alloc72 {s : St} {dr : Bool} {d : Option Tmp} {K : St → Prop} : PStepC Try.prog dr d (.alloc 72) K s ↔ okDst s d ∧ K ((s.pushBox (PV.cells (.sl ⟨0, 0, 0⟩ 1 []))).put d (.box s.boxes.length 0)) := PS_alloc ty72_zero ⟨rfl, rfl⟩
@[simp ↓] theorem app72 {s : St} {dr : Bool} {d : Option Tmp} {K : St → Prop} (x y : Operand) : PStepC Try.prog dr d (.call { callee := .builtin .append, args := #[x, y], argTypes := #[72, 72] }) K s ↔ okDst s d ∧ AppK 1 24 (s.ev x) (s.ev y) s (fun s' v => K (s'.put d v)) := PS_appendK ty72_slice ty55_size ty55_bytes ty55_zero ⟨by decide, by decide, rfl, rfl⟩ x y
@[simp ↓] theorem mk72 {s : St} {dr : Bool} {d : Option Tmp} {K : St → Prop} (x y : Operand) : PStepC Try.prog dr d (.makeSlice 72 x y) K s ↔ okDst s d ∧ MakeK 1 24 (.sl ⟨0, 0, 0⟩ 1 []) (s.ev x) (s.ev y) s (fun s' v => K (s'.put d v)) := PS_makeK ty72_slice ty55_size ty55_bytes ty55_zero ⟨by decide, by decide, rfl, rfl, rfl, rfl⟩ x y
@[simp ↓] theorem bsl72 {s : St} {dr : Bool} {d : Option Tmp} {K : St → Prop} (n : Nat) (l : List (Nat × Operand)) : PStepC Try.prog dr d (.buildSlice 72 n l.toArray) K s ↔ okDst s d ∧ n * 1 ≤ 16777216 ∧ l.map (·.1) = List.range n ∧ ((l.map fun x => s.ev x.2).all fun v => v.sized && v.closed && v.cells.all PV.isCell && v.cells.length == 1) = true ∧ K ((s.fresh (n * 1)).put d (.sl ⟨s.next, s.next, 0⟩ 1 (l.map fun x => s.ev x.2))) := PS_buildK ty72_slice ty55_size ty55_zero ⟨by decide, rfl, rfl⟩ n l
@[simp ↓] theorem alloc73 {s : St} {dr : Bool} {d : Option Tmp} {K : St → Prop} : PStepC Try.prog dr d (.alloc 73) K s ↔ okDst s d ∧ K ((s.pushBox (PV.cells (.agg (List.replicate 64 [.bool false, .sl ⟨0, 0, 0⟩ 1 []]).flatten))).put d (.box s.boxes.length 0)) := PS_alloc ty73_zero ⟨rfl, rfl⟩
@[simp ↓] theorem alloc78 {s : St} {dr : Bool} {d : Option Tmp} {K : St → Prop} : PStepC Try.prog dr d (.alloc 78) K s ↔ okDst s d ∧ K ((s.pushBox (PV.cells (.agg [.int .i64 0, .int .i64 0]))).put d (.box s.boxes.length 0)) := PS_alloc ty78_zero ⟨rfl, rfl⟩
@[simp ↓] theorem pcall3 {s : St} {dr : Bool} {d : Option Tmp} {K : St → Prop} (l : List Operand) (ts : Array TypeId) : PStepC Try.prog dr d (.call { callee := .value (.func 3), args := l.toArray, argTypes := ts }) K s ↔ okDst s d ∧ CallK Try.prog dr 3 (l.map s.ev) s.next s d K := PS_callK ⟨Try.f3, Try.func3, rfl, by kernel_rfl⟩ l ts
@[simp] theorem call3 : callable Try.prog 3 := ⟨Try.f3, Try.func3, rfl, by kernel_rfl⟩
@[simp ↓] theorem pcall4 {s : St} {dr : Bool} {d : Option Tmp} {K : St → Prop} (l : List Operand) (ts : Array TypeId) : PStepC Try.prog dr d (.call { callee := .value (.func 4), args := l.toArray, argTypes := ts }) K s ↔ okDst s d ∧ CallK Try.prog dr 4 (l.map s.ev) s.next s d K := PS_callK ⟨Try.f4, Try.func4, rfl, by kernel_rfl⟩ l ts
@[simp] theorem call4 : callable Try.prog 4 := ⟨Try.f4, Try.func4, rfl, by kernel_rfl⟩
@[simp ↓] theorem pcall5 {s : St} {dr : Bool} {d : Option Tmp} {K : St → Prop} (l : List Operand) (ts : Array TypeId) : PStepC Try.prog dr d (.call { callee := .value (.func 5), args := l.toArray, argTypes := ts }) K s ↔ okDst s d ∧ CallK Try.prog dr 5 (l.map s.ev) s.next s d K := PS_callK ⟨Try.f5, Try.func5, rfl, by kernel_rfl⟩ l ts
@[simp] theorem call5 : callable Try.prog 5 := ⟨Try.f5, Try.func5, rfl, by kernel_rfl⟩
@[simp ↓] theorem pcall6 {s : St} {dr : Bool} {d : Option Tmp} {K : St → Prop} (l : List Operand) (ts : Array TypeId) : PStepC Try.prog dr d (.call { callee := .value (.func 6), args := l.toArray, argTypes := ts }) K s ↔ okDst s d ∧ CallK Try.prog dr 6 (l.map s.ev) s.next s d K := PS_callK ⟨Try.f6, Try.func6, rfl, by kernel_rfl⟩ l ts
@[simp] theorem call6 : callable Try.prog 6 := ⟨Try.f6, Try.func6, rfl, by kernel_rfl⟩
@[simp ↓] theorem pcall7 {s : St} {dr : Bool} {d : Option Tmp} {K : St → Prop} (l : List Operand) (ts : Array TypeId) : PStepC Try.prog dr d (.call { callee := .value (.func 7), args := l.toArray, argTypes := ts }) K s ↔ okDst s d ∧ CallK Try.prog dr 7 (l.map s.ev) s.next s d K := PS_callK ⟨Try.f7, Try.func7, rfl, by kernel_rfl⟩ l ts
@[simp] theorem call7 : callable Try.prog 7 := ⟨Try.f7, Try.func7, rfl, by kernel_rfl⟩
@[simp ↓] theorem pcall8 {s : St} {dr : Bool} {d : Option Tmp} {K : St → Prop} (l : List Operand) (ts : Array TypeId) : PStepC Try.prog dr d (.call { callee := .value (.func 8), args := l.toArray, argTypes := ts }) K s ↔ okDst s d ∧ CallK Try.prog dr 8 (l.map s.ev) s.next s d K := PS_callK ⟨Try.f8, Try.func8, rfl, by kernel_rfl⟩ l ts
@[simp] theorem call8 : callable Try.prog 8 := ⟨Try.f8, Try.func8, rfl, by kernel_rfl⟩
@[simp ↓] theorem pcall9 {s : St} {dr : Bool} {d : Option Tmp} {K : St → Prop} (l : List Operand) (ts : Array TypeId) : PStepC Try.prog dr d (.call { callee := .value (.func 9), args := l.toArray, argTypes := ts }) K s ↔ okDst s d ∧ CallK Try.prog dr 9 (l.map s.ev) s.next s d K := PS_callK ⟨Try.f9, Try.func9, rfl, by kernel_rfl⟩ l ts
@[simp] theorem call9 : callable Try.prog 9 := ⟨Try.f9, Try.func9, rfl, by kernel_rfl⟩
@[simp ↓] theorem pcall10 {s : St} {dr : Bool} {d : Option Tmp} {K : St → Prop} (l : List Operand) (ts : Array TypeId) : PStepC Try.prog dr d (.call { callee := .value (.func 10), args := l.toArray, argTypes := ts }) K s ↔ okDst s d ∧ CallK Try.prog dr 10 (l.map s.ev) s.next s d K := PS_callK ⟨Try.f10, Try.func10, rfl, by kernel_rfl⟩ l ts
@[simp] theorem call10 : callable Try.prog 10 := ⟨Try.f10, Try.func10, rfl, by kernel_rfl⟩
@[simp ↓] theorem pcall11 {s : St} {dr : Bool} {d : Option Tmp} {K : St → Prop} (l : List Operand) (ts : Array TypeId) : PStepC Try.prog dr d (.call { callee := .value (.func 11), args := l.toArray, argTypes := ts }) K s ↔ okDst s d ∧ CallK Try.prog dr 11 (l.map s.ev) s.next s d K := PS_callK ⟨Try.f11, Try.func11, rfl, by kernel_rfl⟩ l ts
@[simp] theorem call11 : callable Try.prog 11 := ⟨Try.f11, Try.func11, rfl, by kernel_rfl⟩
@[simp ↓] theorem pcall12 {s : St} {dr : Bool} {d : Option Tmp} {K : St → Prop} (l : List Operand) (ts : Array TypeId) : PStepC Try.prog dr d (.call { callee := .value (.func 12), args := l.toArray, argTypes := ts }) K s ↔ okDst s d ∧ CallK Try.prog dr 12 (l.map s.ev) s.next s d K := PS_callK ⟨Try.f12, Try.func12, rfl, by kernel_rfl⟩ l ts
@[simp] theorem call12 : callable Try.prog 12 := ⟨Try.f12, Try.func12, rfl, by kernel_rfl⟩
@[simp ↓] theorem pcall13 {s : St} {dr : Bool} {d : Option Tmp} {K : St → Prop} (l : List Operand) (ts : Array TypeId) : PStepC Try.prog dr d (.call { callee := .value (.func 13), args := l.toArray, argTypes := ts }) K s ↔ okDst s d ∧ CallK Try.prog dr 13 (l.map s.ev) s.next s d K := PS_callK ⟨Try.f13, Try.func13, rfl, by kernel_rfl⟩ l ts
@[simp] theorem call13 : callable Try.prog 13 := ⟨Try.f13, Try.func13, rfl, by kernel_rfl⟩
@[simp ↓] theorem pcall14 {s : St} {dr : Bool} {d : Option Tmp} {K : St → Prop} (l : List Operand) (ts : Array TypeId) : PStepC Try.prog dr d (.call { callee := .value (.func 14), args := l.toArray, argTypes := ts }) K s ↔ okDst s d ∧ CallK Try.prog dr 14 (l.map s.ev) s.next s d K := PS_callK ⟨Try.f14, Try.func14, rfl, by kernel_rfl⟩ l ts
@[simp] theorem call14 : callable Try.prog 14 := ⟨Try.f14, Try.func14, rfl, by kernel_rfl⟩
@[simp ↓] theorem pcall15 {s : St} {dr : Bool} {d : Option Tmp} {K : St → Prop} (l : List Operand) (ts : Array TypeId) : PStepC Try.prog dr d (.call { callee := .value (.func 15), args := l.toArray, argTypes := ts }) K s ↔ okDst s d ∧ CallK Try.prog dr 15 (l.map s.ev) s.next s d K := PS_callK ⟨Try.f15, Try.func15, rfl, by kernel_rfl⟩ l ts
@[simp] theorem call15 : callable Try.prog 15 := ⟨Try.f15, Try.func15, rfl, by kernel_rfl⟩
@[simp ↓] theorem pcall16 {s : St} {dr : Bool} {d : Option Tmp} {K : St → Prop} (l : List Operand) (ts : Array TypeId) : PStepC Try.prog dr d (.call { callee := .value (.func 16), args := l.toArray, argTypes := ts }) K s ↔ okDst s d ∧ CallK Try.prog dr 16 (l.map s.ev) s.next s d K := PS_callK ⟨Try.f16, Try.func16, rfl, by kernel_rfl⟩ l ts
@[simp] theorem call16 : callable Try.prog 16 := ⟨Try.f16, Try.func16, rfl, by kernel_rfl⟩
@[simp ↓] theorem pcall17 {s : St} {dr : Bool} {d : Option Tmp} {K : St → Prop} (l : List Operand) (ts : Array TypeId) : PStepC Try.prog dr d (.call { callee := .value (.func 17), args := l.toArray, argTypes := ts }) K s ↔ okDst s d ∧ CallK Try.prog dr 17 (l.map s.ev) s.next s d K := PS_callK ⟨Try.f17, Try.func17, rfl, by kernel_rfl⟩ l ts
@[simp] theorem call17 : callable Try.prog 17 := ⟨Try.f17, Try.func17, rfl, by kernel_rfl⟩
@[simp ↓] theorem pcall18 {s : St} {dr : Bool} {d : Option Tmp} {K : St → Prop} (l : List Operand) (ts : Array TypeId) : PStepC Try.prog dr d (.call { callee := .value (.func 18), args := l.toArray, argTypes := ts }) K s ↔ okDst s d ∧ CallK Try.prog dr 18 (l.map s.ev) s.next s d K := PS_callK ⟨Try.f18, Try.func18, rfl, by kernel_rfl⟩ l ts
@[simp] theorem call18 : callable Try.prog 18 := ⟨Try.f18, Try.func18, rfl, by kernel_rfl⟩
@[simp ↓] theorem pcall19 {s : St} {dr : Bool} {d : Option Tmp} {K : St → Prop} (l : List Operand) (ts : Array TypeId) : PStepC Try.prog dr d (.call { callee := .value (.func 19), args := l.toArray, argTypes := ts }) K s ↔ okDst s d ∧ CallK Try.prog dr 19 (l.map s.ev) s.next s d K := PS_callK ⟨Try.f19, Try.func19, rfl, by kernel_rfl⟩ l ts
@[simp] theorem call19 : callable Try.prog 19 := ⟨Try.f19, Try.func19, rfl, by kernel_rfl⟩
@[simp ↓] theorem pcall20 {s : St} {dr : Bool} {d : Option Tmp} {K : St → Prop} (l : List Operand) (ts : Array TypeId) : PStepC Try.prog dr d (.call { callee := .value (.func 20), args := l.toArray, argTypes := ts }) K s ↔ okDst s d ∧ CallK Try.prog dr 20 (l.map s.ev) s.next s d K := PS_callK ⟨Try.f20, Try.func20, rfl, by kernel_rfl⟩ l ts
@[simp] theorem call20 : callable Try.prog 20 := ⟨Try.f20, Try.func20, rfl, by kernel_rfl⟩
@[simp ↓] theorem pcall21 {s : St} {dr : Bool} {d : Option Tmp} {K : St → Prop} (l : List Operand) (ts : Array TypeId) : PStepC Try.prog dr d (.call { callee := .value (.func 21), args := l.toArray, argTypes := ts }) K s ↔ okDst s d ∧ CallK Try.prog dr 21 (l.map s.ev) s.next s d K := PS_callK ⟨Try.f21, Try.func21, rfl, by kernel_rfl⟩ l ts
@[simp] theorem call21 : callable Try.prog 21 := ⟨Try.f21, Try.func21, rfl, by kernel_rfl⟩
@[simp ↓] theorem pcall22 {s : St} {dr : Bool} {d : Option Tmp} {K : St → Prop} (l : List Operand) (ts : Array TypeId) : PStepC Try.prog dr d (.call { callee := .value (.func 22), args := l.toArray, argTypes := ts }) K s ↔ okDst s d ∧ CallK Try.prog dr 22 (l.map s.ev) s.next s d K := PS_callK ⟨Try.f22, Try.func22, rfl, by kernel_rfl⟩ l ts
@[simp] theorem call22 : callable Try.prog 22 := ⟨Try.f22, Try.func22, rfl, by kernel_rfl⟩
@[simp ↓] theorem pcall23 {s : St} {dr : Bool} {d : Option Tmp} {K : St → Prop} (l : List Operand) (ts : Array TypeId) : PStepC Try.prog dr d (.call { callee := .value (.func 23), args := l.toArray, argTypes := ts }) K s ↔ okDst s d ∧ CallK Try.prog dr 23 (l.map s.ev) s.next s d K := PS_callK ⟨Try.f23, Try.func23, rfl, by kernel_rfl⟩ l ts
@[simp] theorem call23 : callable Try.prog 23 := ⟨Try.f23, Try.func23, rfl, by kernel_rfl⟩
@[simp ↓] theorem pcall24 {s : St} {dr : Bool} {d : Option Tmp} {K : St → Prop} (l : List Operand) (ts : Array TypeId) : PStepC Try.prog dr d (.call { callee := .value (.func 24), args := l.toArray, argTypes := ts }) K s ↔ okDst s d ∧ CallK Try.prog dr 24 (l.map s.ev) s.next s d K := PS_callK ⟨Try.f24, Try.func24, rfl, by kernel_rfl⟩ l ts
@[simp] theorem call24 : callable Try.prog 24 := ⟨Try.f24, Try.func24, rfl, by kernel_rfl⟩
@[simp ↓] theorem pcall25 {s : St} {dr : Bool} {d : Option Tmp} {K : St → Prop} (l : List Operand) (ts : Array TypeId) : PStepC Try.prog dr d (.call { callee := .value (.func 25), args := l.toArray, argTypes := ts }) K s ↔ okDst s d ∧ CallK Try.prog dr 25 (l.map s.ev) s.next s d K := PS_callK ⟨Try.f25, Try.func25, rfl, by kernel_rfl⟩ l ts
@[simp] theorem call25 : callable Try.prog 25 := ⟨Try.f25, Try.func25, rfl, by kernel_rfl⟩
@[simp ↓] theorem pcall26 {s : St} {dr : Bool} {d : Option Tmp} {K : St → Prop} (l : List Operand) (ts : Array TypeId) : PStepC Try.prog dr d (.call { callee := .value (.func 26), args := l.toArray, argTypes := ts }) K s ↔ okDst s d ∧ CallK Try.prog dr 26 (l.map s.ev) s.next s d K := PS_callK ⟨Try.f26, Try.func26, rfl, by kernel_rfl⟩ l ts
@[simp] theorem call26 : callable Try.prog 26 := ⟨Try.f26, Try.func26, rfl, by kernel_rfl⟩
@[simp ↓] theorem pcall27 {s : St} {dr : Bool} {d : Option Tmp} {K : St → Prop} (l : List Operand) (ts : Array TypeId) : PStepC Try.prog dr d (.call { callee := .value (.func 27), args := l.toArray, argTypes := ts }) K s ↔ okDst s d ∧ CallK Try.prog dr 27 (l.map s.ev) s.next s d K := PS_callK ⟨Try.f27, Try.func27, rfl, by kernel_rfl⟩ l ts
@[simp] theorem call27 : callable Try.prog 27 := ⟨Try.f27, Try.func27, rfl, by kernel_rfl⟩
@[simp ↓] theorem pcall28 {s : St} {dr : Bool} {d : Option Tmp} {K : St → Prop} (l : List Operand) (ts : Array TypeId) : PStepC Try.prog dr d (.call { callee := .value (.func 28), args := l.toArray, argTypes := ts }) K s ↔ okDst s d ∧ CallK Try.prog dr 28 (l.map s.ev) s.next s d K := PS_callK ⟨Try.f28, Try.func28, rfl, by kernel_rfl⟩ l ts
@[simp] theorem call28 : callable Try.prog 28 := ⟨Try.f28, Try.func28, rfl, by kernel_rfl⟩
@[simp ↓] theorem pcall29 {s : St} {dr : Bool} {d : Option Tmp} {K : St → Prop} (l : List Operand) (ts : Array TypeId) : PStepC Try.prog dr d (.call { callee := .value (.func 29), args := l.toArray, argTypes := ts }) K s ↔ okDst s d ∧ CallK Try.prog dr 29 (l.map s.ev) s.next s d K := PS_callK ⟨Try.f29, Try.func29, rfl, by kernel_rfl⟩ l ts
@[simp] theorem call29 : callable Try.prog 29 := ⟨Try.f29, Try.func29, rfl, by kernel_rfl⟩
@[simp ↓] theorem pcall30 {s : St} {dr : Bool} {d : Option Tmp} {K : St → Prop} (l : List Operand) (ts : Array TypeId) : PStepC Try.prog dr d (.call { callee := .value (.func 30), args := l.toArray, argTypes := ts }) K s ↔ okDst s d ∧ CallK Try.prog dr 30 (l.map s.ev) s.next s d K := PS_callK ⟨Try.f30, Try.func30, rfl, by kernel_rfl⟩ l ts
@[simp] theorem call30 : callable Try.prog 30 := ⟨Try.f30, Try.func30, rfl, by kernel_rfl⟩
@[simp ↓] theorem pcall31 {s : St} {dr : Bool} {d : Option Tmp} {K : St → Prop} (l : List Operand) (ts : Array TypeId) : PStepC Try.prog dr d (.call { callee := .value (.func 31), args := l.toArray, argTypes := ts }) K s ↔ okDst s d ∧ CallK Try.prog dr 31 (l.map s.ev) s.next s d K := PS_callK ⟨Try.f31, Try.func31, rfl, by kernel_rfl⟩ l ts
@[simp] theorem call31 : callable Try.prog 31 := ⟨Try.f31, Try.func31, rfl, by kernel_rfl⟩
@[simp ↓] theorem pcall32 {s : St} {dr : Bool} {d : Option Tmp} {K : St → Prop} (l : List Operand) (ts : Array TypeId) : PStepC Try.prog dr d (.call { callee := .value (.func 32), args := l.toArray, argTypes := ts }) K s ↔ okDst s d ∧ CallK Try.prog dr 32 (l.map s.ev) s.next s d K := PS_callK ⟨Try.f32, Try.func32, rfl, by kernel_rfl⟩ l ts
@[simp] theorem call32 : callable Try.prog 32 := ⟨Try.f32, Try.func32, rfl, by kernel_rfl⟩
@[simp ↓] theorem pcall33 {s : St} {dr : Bool} {d : Option Tmp} {K : St → Prop} (l : List Operand) (ts : Array TypeId) : PStepC Try.prog dr d (.call { callee := .value (.func 33), args := l.toArray, argTypes := ts }) K s ↔ okDst s d ∧ CallK Try.prog dr 33 (l.map s.ev) s.next s d K := PS_callK ⟨Try.f33, Try.func33, rfl, by kernel_rfl⟩ l ts
@[simp] theorem call33 : callable Try.prog 33 := ⟨Try.f33, Try.func33, rfl, by kernel_rfl⟩
@[simp ↓] theorem pcall34 {s : St} {dr : Bool} {d : Option Tmp} {K : St → Prop} (l : List Operand) (ts : Array TypeId) : PStepC Try.prog dr d (.call { callee := .value (.func 34), args := l.toArray, argTypes := ts }) K s ↔ okDst s d ∧ CallK Try.prog dr 34 (l.map s.ev) s.next s d K := PS_callK ⟨Try.f34, Try.func34, rfl, by kernel_rfl⟩ l ts
@[simp] theorem call34 : callable Try.prog 34 := ⟨Try.f34, Try.func34, rfl, by kernel_rfl⟩
@[simp ↓] theorem pcall35 {s : St} {dr : Bool} {d : Option Tmp} {K : St → Prop} (l : List Operand) (ts : Array TypeId) : PStepC Try.prog dr d (.call { callee := .value (.func 35), args := l.toArray, argTypes := ts }) K s ↔ okDst s d ∧ CallK Try.prog dr 35 (l.map s.ev) s.next s d K := PS_callK ⟨Try.f35, Try.func35, rfl, by kernel_rfl⟩ l ts
@[simp] theorem call35 : callable Try.prog 35 := ⟨Try.f35, Try.func35, rfl, by kernel_rfl⟩
@[simp ↓] theorem pcall36 {s : St} {dr : Bool} {d : Option Tmp} {K : St → Prop} (l : List Operand) (ts : Array TypeId) : PStepC Try.prog dr d (.call { callee := .value (.func 36), args := l.toArray, argTypes := ts }) K s ↔ okDst s d ∧ CallK Try.prog dr 36 (l.map s.ev) s.next s d K := PS_callK ⟨Try.f36, Try.func36, rfl, by kernel_rfl⟩ l ts
@[simp] theorem call36 : callable Try.prog 36 := ⟨Try.f36, Try.func36, rfl, by kernel_rfl⟩
@[simp ↓] theorem pcall37 {s : St} {dr : Bool} {d : Option Tmp} {K : St → Prop} (l : List Operand) (ts : Array TypeId) : PStepC Try.prog dr d (.call { callee := .value (.func 37), args := l.toArray, argTypes := ts }) K s ↔ okDst s d ∧ CallK Try.prog dr 37 (l.map s.ev) s.next s d K := PS_callK ⟨Try.f37, Try.func37, rfl, by kernel_rfl⟩ l ts
@[simp] theorem call37 : callable Try.prog 37 := ⟨Try.f37, Try.func37, rfl, by kernel_rfl⟩
@[simp ↓] theorem pcall38 {s : St} {dr : Bool} {d : Option Tmp} {K : St → Prop} (l : List Operand) (ts : Array TypeId) : PStepC Try.prog dr d (.call { callee := .value (.func 38), args := l.toArray, argTypes := ts }) K s ↔ okDst s d ∧ CallK Try.prog dr 38 (l.map s.ev) s.next s d K := PS_callK ⟨Try.f38, Try.func38, rfl, by kernel_rfl⟩ l ts
@[simp] theorem call38 : callable Try.prog 38 := ⟨Try.f38, Try.func38, rfl, by kernel_rfl⟩
@[simp ↓] theorem pcall39 {s : St} {dr : Bool} {d : Option Tmp} {K : St → Prop} (l : List Operand) (ts : Array TypeId) : PStepC Try.prog dr d (.call { callee := .value (.func 39), args := l.toArray, argTypes := ts }) K s ↔ okDst s d ∧ CallK Try.prog dr 39 (l.map s.ev) s.next s d K := PS_callK ⟨Try.f39, Try.func39, rfl, by kernel_rfl⟩ l ts
@[simp] theorem call39 : callable Try.prog 39 := ⟨Try.f39, Try.func39, rfl, by kernel_rfl⟩
@[simp ↓] theorem pcall40 {s : St} {dr : Bool} {d : Option Tmp} {K : St → Prop} (l : List Operand) (ts : Array TypeId) : PStepC Try.prog dr d (.call { callee := .value (.func 40), args := l.toArray, argTypes := ts }) K s ↔ okDst s d ∧ CallK Try.prog dr 40 (l.map s.ev) s.next s d K := PS_callK ⟨Try.f40, Try.func40, rfl, by kernel_rfl⟩ l ts
@[simp] theorem call40 : callable Try.prog 40 := ⟨Try.f40, Try.func40, rfl, by kernel_rfl⟩
@[simp ↓] theorem pcall41 {s : St} {dr : Bool} {d : Option Tmp} {K : St → Prop} (l : List Operand) (ts : Array TypeId) : PStepC Try.prog dr d (.call { callee := .value (.func 41), args := l.toArray, argTypes := ts }) K s ↔ okDst s d ∧ CallK Try.prog dr 41 (l.map s.ev) s.next s d K := PS_callK ⟨Try.f41, Try.func41, rfl, by kernel_rfl⟩ l ts
@[simp] theorem call41 : callable Try.prog 41 := ⟨Try.f41, Try.func41, rfl, by kernel_rfl⟩
@[simp ↓] theorem pcall42 {s : St} {dr : Bool} {d : Option Tmp} {K : St → Prop} (l : List Operand) (ts : Array TypeId) : PStepC Try.prog dr d (.call { callee := .value (.func 42), args := l.toArray, argTypes := ts }) K s ↔ okDst s d ∧ CallK Try.prog dr 42 (l.map s.ev) s.next s d K := PS_callK ⟨Try.f42, Try.func42, rfl, by kernel_rfl⟩ l ts
@[simp] theorem call42 : callable Try.prog 42 := ⟨Try.f42, Try.func42, rfl, by kernel_rfl⟩
@[simp ↓] theorem pcall43 {s : St} {dr : Bool} {d : Option Tmp} {K : St → Prop} (l : List Operand) (ts : Array TypeId) : PStepC Try.prog dr d (.call { callee := .value (.func 43), args := l.toArray, argTypes := ts }) K s ↔ okDst s d ∧ CallK Try.prog dr 43 (l.map s.ev) s.next s d K := PS_callK ⟨Try.f43, Try.func43, rfl, by kernel_rfl⟩ l ts
@[simp] theorem call43 : callable Try.prog 43 := ⟨Try.f43, Try.func43, rfl, by kernel_rfl⟩
@[simp ↓] theorem pcall44 {s : St} {dr : Bool} {d : Option Tmp} {K : St → Prop} (l : List Operand) (ts : Array TypeId) : PStepC Try.prog dr d (.call { callee := .value (.func 44), args := l.toArray, argTypes := ts }) K s ↔ okDst s d ∧ CallK Try.prog dr 44 (l.map s.ev) s.next s d K := PS_callK ⟨Try.f44, Try.func44, rfl, by kernel_rfl⟩ l ts
@[simp] theorem call44 : callable Try.prog 44 := ⟨Try.f44, Try.func44, rfl, by kernel_rfl⟩
@[simp ↓] theorem pcall45 {s : St} {dr : Bool} {d : Option Tmp} {K : St → Prop} (l : List Operand) (ts : Array TypeId) : PStepC Try.prog dr d (.call { callee := .value (.func 45), args := l.toArray, argTypes := ts }) K s ↔ okDst s d ∧ CallK Try.prog dr 45 (l.map s.ev) s.next s d K := PS_callK ⟨Try.f45, Try.func45, rfl, by kernel_rfl⟩ l ts
@[simp] theorem call45 : callable Try.prog 45 := ⟨Try.f45, Try.func45, rfl, by kernel_rfl⟩
@[simp ↓] theorem pcall46 {s : St} {dr : Bool} {d : Option Tmp} {K : St → Prop} (l : List Operand) (ts : Array TypeId) : PStepC Try.prog dr d (.call { callee := .value (.func 46), args := l.toArray, argTypes := ts }) K s ↔ okDst s d ∧ CallK Try.prog dr 46 (l.map s.ev) s.next s d K := PS_callK ⟨Try.f46, Try.func46, rfl, by kernel_rfl⟩ l ts
@[simp] theorem call46 : callable Try.prog 46 := ⟨Try.f46, Try.func46, rfl, by kernel_rfl⟩
@[simp ↓] theorem pcall47 {s : St} {dr : Bool} {d : Option Tmp} {K : St → Prop} (l : List Operand) (ts : Array TypeId) : PStepC Try.prog dr d (.call { callee := .value (.func 47), args := l.toArray, argTypes := ts }) K s ↔ okDst s d ∧ CallK Try.prog dr 47 (l.map s.ev) s.next s d K := PS_callK ⟨Try.f47, Try.func47, rfl, by kernel_rfl⟩ l ts
@[simp] theorem call47 : callable Try.prog 47 := ⟨Try.f47, Try.func47, rfl, by kernel_rfl⟩
@[simp ↓] theorem pcall48 {s : St} {dr : Bool} {d : Option Tmp} {K : St → Prop} (l : List Operand) (ts : Array TypeId) : PStepC Try.prog dr d (.call { callee := .value (.func 48), args := l.toArray, argTypes := ts }) K s ↔ okDst s d ∧ CallK Try.prog dr 48 (l.map s.ev) s.next s d K := PS_callK ⟨Try.f48, Try.func48, rfl, by kernel_rfl⟩ l ts
@[simp] theorem call48 : callable Try.prog 48 := ⟨Try.f48, Try.func48, rfl, by kernel_rfl⟩
@[simp ↓] theorem pcall49 {s : St} {dr : Bool} {d : Option Tmp} {K : St → Prop} (l : List Operand) (ts : Array TypeId) : PStepC Try.prog dr d (.call { callee := .value (.func 49), args := l.toArray, argTypes := ts }) K s ↔ okDst s d ∧ CallK Try.prog dr 49 (l.map s.ev) s.next s d K := PS_callK ⟨Try.f49, Try.func49, rfl, by kernel_rfl⟩ l ts
@[simp] theorem call49 : callable Try.prog 49 := ⟨Try.f49, Try.func49, rfl, by kernel_rfl⟩
@[simp ↓] theorem pcall50 {s : St} {dr : Bool} {d : Option Tmp} {K : St → Prop} (l : List Operand) (ts : Array TypeId) : PStepC Try.prog dr d (.call { callee := .value (.func 50), args := l.toArray, argTypes := ts }) K s ↔ okDst s d ∧ CallK Try.prog dr 50 (l.map s.ev) s.next s d K := PS_callK ⟨Try.f50, Try.func50, rfl, by kernel_rfl⟩ l ts
@[simp] theorem call50 : callable Try.prog 50 := ⟨Try.f50, Try.func50, rfl, by kernel_rfl⟩
@[simp ↓] theorem pcall51 {s : St} {dr : Bool} {d : Option Tmp} {K : St → Prop} (l : List Operand) (ts : Array TypeId) : PStepC Try.prog dr d (.call { callee := .value (.func 51), args := l.toArray, argTypes := ts }) K s ↔ okDst s d ∧ CallK Try.prog dr 51 (l.map s.ev) s.next s d K := PS_callK ⟨Try.f51, Try.func51, rfl, by kernel_rfl⟩ l ts
@[simp] theorem call51 : callable Try.prog 51 := ⟨Try.f51, Try.func51, rfl, by kernel_rfl⟩
@[simp ↓] theorem pcall52 {s : St} {dr : Bool} {d : Option Tmp} {K : St → Prop} (l : List Operand) (ts : Array TypeId) : PStepC Try.prog dr d (.call { callee := .value (.func 52), args := l.toArray, argTypes := ts }) K s ↔ okDst s d ∧ CallK Try.prog dr 52 (l.map s.ev) s.next s d K := PS_callK ⟨Try.f52, Try.func52, rfl, by kernel_rfl⟩ l ts
@[simp] theorem call52 : callable Try.prog 52 := ⟨Try.f52, Try.func52, rfl, by kernel_rfl⟩
@[simp ↓] theorem pcall53 {s : St} {dr : Bool} {d : Option Tmp} {K : St → Prop} (l : List Operand) (ts : Array TypeId) : PStepC Try.prog dr d (.call { callee := .value (.func 53), args := l.toArray, argTypes := ts }) K s ↔ okDst s d ∧ CallK Try.prog dr 53 (l.map s.ev) s.next s d K := PS_callK ⟨Try.f53, Try.func53, rfl, by kernel_rfl⟩ l ts
@[simp] theorem call53 : callable Try.prog 53 := ⟨Try.f53, Try.func53, rfl, by kernel_rfl⟩
@[simp ↓] theorem pcall54 {s : St} {dr : Bool} {d : Option Tmp} {K : St → Prop} (l : List Operand) (ts : Array TypeId) : PStepC Try.prog dr d (.call { callee := .value (.func 54), args := l.toArray, argTypes := ts }) K s ↔ okDst s d ∧ CallK Try.prog dr 54 (l.map s.ev) s.next s d K := PS_callK ⟨Try.f54, Try.func54, rfl, by kernel_rfl⟩ l ts
@[simp] theorem call54 : callable Try.prog 54 := ⟨Try.f54, Try.func54, rfl, by kernel_rfl⟩
@[simp ↓] theorem pcall55 {s : St} {dr : Bool} {d : Option Tmp} {K : St → Prop} (l : List Operand) (ts : Array TypeId) : PStepC Try.prog dr d (.call { callee := .value (.func 55), args := l.toArray, argTypes := ts }) K s ↔ okDst s d ∧ CallK Try.prog dr 55 (l.map s.ev) s.next s d K := PS_callK ⟨Try.f55, Try.func55, rfl, by kernel_rfl⟩ l ts
@[simp] theorem call55 : callable Try.prog 55 := ⟨Try.f55, Try.func55, rfl, by kernel_rfl⟩
@[simp ↓] theorem pcall56 {s : St} {dr : Bool} {d : Option Tmp} {K : St → Prop} (l : List Operand) (ts : Array TypeId) : PStepC Try.prog dr d (.call { callee := .value (.func 56), args := l.toArray, argTypes := ts }) K s ↔ okDst s d ∧ CallK Try.prog dr 56 (l.map s.ev) s.next s d K := PS_callK ⟨Try.f56, Try.func56, rfl, by kernel_rfl⟩ l ts
@[simp] theorem call56 : callable Try.prog 56 := ⟨Try.f56, Try.func56, rfl, by kernel_rfl⟩
@[simp ↓] theorem pcall57 {s : St} {dr : Bool} {d : Option Tmp} {K : St → Prop} (l : List Operand) (ts : Array TypeId) : PStepC Try.prog dr d (.call { callee := .value (.func 57), args := l.toArray, argTypes := ts }) K s ↔ okDst s d ∧ CallK Try.prog dr 57 (l.map s.ev) s.next s d K := PS_callK ⟨Try.f57, Try.func57, rfl, by kernel_rfl⟩ l ts
@[simp] theorem call57 : callable Try.prog 57 := ⟨Try.f57, Try.func57, rfl, by kernel_rfl⟩
@[simp ↓] theorem pcall58 {s : St} {dr : Bool} {d : Option Tmp} {K : St → Prop} (l : List Operand) (ts : Array TypeId) : PStepC Try.prog dr d (.call { callee := .value (.func 58), args := l.toArray, argTypes := ts }) K s ↔ okDst s d ∧ CallK Try.prog dr 58 (l.map s.ev) s.next s d K := PS_callK ⟨Try.f58, Try.func58, rfl, by kernel_rfl⟩ l ts
@[simp] theorem call58 : callable Try.prog 58 := ⟨Try.f58, Try.func58, rfl, by kernel_rfl⟩
@[simp ↓] theorem pcall59 {s : St} {dr : Bool} {d : Option Tmp} {K : St → Prop} (l : List Operand) (ts : Array TypeId) : PStepC Try.prog dr d (.call { callee := .value (.func 59), args := l.toArray, argTypes := ts }) K s ↔ okDst s d ∧ CallK Try.prog dr 59 (l.map s.ev) s.next s d K := PS_callK ⟨Try.f59, Try.func59, rfl, by kernel_rfl⟩ l ts
@[simp] theorem call59 : callable Try.prog 59 := ⟨Try.f59, Try.func59, rfl, by kernel_rfl⟩
@[simp ↓] theorem pcall60 {s : St} {dr : Bool} {d : Option Tmp} {K : St → Prop} (l : List Operand) (ts : Array TypeId) : PStepC Try.prog dr d (.call { callee := .value (.func 60), args := l.toArray, argTypes := ts }) K s ↔ okDst s d ∧ CallK Try.prog dr 60 (l.map s.ev) s.next s d K := PS_callK ⟨Try.f60, Try.func60, rfl, by kernel_rfl⟩ l ts
@[simp] theorem call60 : callable Try.prog 60 := ⟨Try.f60, Try.func60, rfl, by kernel_rfl⟩
@[simp ↓] theorem pcall61 {s : St} {dr : Bool} {d : Option Tmp} {K : St → Prop} (l : List Operand) (ts : Array TypeId) : PStepC Try.prog dr d (.call { callee := .value (.func 61), args := l.toArray, argTypes := ts }) K s ↔ okDst s d ∧ CallK Try.prog dr 61 (l.map s.ev) s.next s d K := PS_callK ⟨Try.f61, Try.func61, rfl, by kernel_rfl⟩ l ts
@[simp] theorem call61 : callable Try.prog 61 := ⟨Try.f61, Try.func61, rfl, by kernel_rfl⟩
@[simp ↓] theorem pcall62 {s : St} {dr : Bool} {d : Option Tmp} {K : St → Prop} (l : List Operand) (ts : Array TypeId) : PStepC Try.prog dr d (.call { callee := .value (.func 62), args := l.toArray, argTypes := ts }) K s ↔ okDst s d ∧ CallK Try.prog dr 62 (l.map s.ev) s.next s d K := PS_callK ⟨Try.f62, Try.func62, rfl, by kernel_rfl⟩ l ts
@[simp] theorem call62 : callable Try.prog 62 := ⟨Try.f62, Try.func62, rfl, by kernel_rfl⟩
@[simp ↓] theorem pcall63 {s : St} {dr : Bool} {d : Option Tmp} {K : St → Prop} (l : List Operand) (ts : Array TypeId) : PStepC Try.prog dr d (.call { callee := .value (.func 63), args := l.toArray, argTypes := ts }) K s ↔ okDst s d ∧ CallK Try.prog dr 63 (l.map s.ev) s.next s d K := PS_callK ⟨Try.f63, Try.func63, rfl, by kernel_rfl⟩ l ts
@[simp] theorem call63 : callable Try.prog 63 := ⟨Try.f63, Try.func63, rfl, by kernel_rfl⟩
end Go.Proofs.Ytcdkgeeookcoeaa
