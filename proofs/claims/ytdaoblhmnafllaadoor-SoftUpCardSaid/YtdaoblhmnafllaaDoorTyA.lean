/- Closed facts on the types and functions of the translation, as the by-value walk asks them; each by the kernel. -/
import Derived.Test.YtdaoblhmnafllaaDoorProg
import Derived.Test.YtdaoblhmnafllaaDoorBvO
namespace Go.Proofs.YtdaoblhmnafllaaDoor
open Go.Proofs
@[simp] theorem ty2_agg : tagg Tryd.prog 2 = some false := by kernel_rfl
@[simp] theorem ty2_size : tsize Tryd.prog 2 = some 1 := by kernel_rfl
@[simp] theorem ty2_bytes : tbytes Tryd.prog 2 = some 8 := by kernel_rfl
@[simp] theorem ty2_some : tsome Tryd.prog 2 = true := by kernel_rfl
@[simp] theorem ty2_slice : tslice Tryd.prog 2 = none := by kernel_rfl
@[simp] theorem ty2_int : tint Tryd.prog 2 = some .i64 := by kernel_rfl
@[simp] theorem ty2_bool : tbool Tryd.prog 2 = false := by kernel_rfl
@[simp] theorem ty2_zero : tzero Tryd.prog 2 = some (.int .i64 0) := by kernel_rfl
@[simp] theorem ty3_agg : tagg Tryd.prog 3 = some false := by kernel_rfl
@[simp] theorem ty3_size : tsize Tryd.prog 3 = some 1 := by kernel_rfl
@[simp] theorem ty3_bytes : tbytes Tryd.prog 3 = some 8 := by kernel_rfl
@[simp] theorem ty3_some : tsome Tryd.prog 3 = true := by kernel_rfl
@[simp] theorem ty3_slice : tslice Tryd.prog 3 = none := by kernel_rfl
@[simp] theorem ty3_int : tint Tryd.prog 3 = some .i64 := by kernel_rfl
@[simp] theorem ty3_bool : tbool Tryd.prog 3 = false := by kernel_rfl
@[simp] theorem ty3_zero : tzero Tryd.prog 3 = some (.int .i64 0) := by kernel_rfl
@[simp] theorem ty4_agg : tagg Tryd.prog 4 = some false := by kernel_rfl
@[simp] theorem ty4_size : tsize Tryd.prog 4 = some 1 := by kernel_rfl
@[simp] theorem ty4_bytes : tbytes Tryd.prog 4 = some 1 := by kernel_rfl
@[simp] theorem ty4_some : tsome Tryd.prog 4 = true := by kernel_rfl
@[simp] theorem ty4_slice : tslice Tryd.prog 4 = none := by kernel_rfl
@[simp] theorem ty4_bool : tbool Tryd.prog 4 = true := by kernel_rfl
@[simp] theorem ty4_zero : tzero Tryd.prog 4 = some (.bool false) := by kernel_rfl
@[simp] theorem ty5_agg : tagg Tryd.prog 5 = some false := by kernel_rfl
@[simp] theorem ty5_size : tsize Tryd.prog 5 = some 1 := by kernel_rfl
@[simp] theorem ty5_bytes : tbytes Tryd.prog 5 = some 1 := by kernel_rfl
@[simp] theorem ty5_some : tsome Tryd.prog 5 = true := by kernel_rfl
@[simp] theorem ty5_slice : tslice Tryd.prog 5 = none := by kernel_rfl
@[simp] theorem ty5_int : tint Tryd.prog 5 = some .u8 := by kernel_rfl
@[simp] theorem ty5_bool : tbool Tryd.prog 5 = false := by kernel_rfl
@[simp] theorem ty5_zero : tzero Tryd.prog 5 = some (.int .u8 0) := by kernel_rfl
@[simp] theorem ty9_agg : tagg Tryd.prog 9 = some false := by kernel_rfl
@[simp] theorem ty9_size : tsize Tryd.prog 9 = some 1 := by kernel_rfl
@[simp] theorem ty9_bytes : tbytes Tryd.prog 9 = some 16 := by kernel_rfl
@[simp] theorem ty9_some : tsome Tryd.prog 9 = true := by kernel_rfl
@[simp] theorem ty9_slice : tslice Tryd.prog 9 = none := by kernel_rfl
@[simp] theorem ty9_bool : tbool Tryd.prog 9 = false := by kernel_rfl
@[simp] theorem ty22_agg : tagg Tryd.prog 22 = some false := by kernel_rfl
@[simp] theorem ty22_size : tsize Tryd.prog 22 = some 1 := by kernel_rfl
@[simp] theorem ty22_bytes : tbytes Tryd.prog 22 = some 8 := by kernel_rfl
@[simp] theorem ty22_some : tsome Tryd.prog 22 = true := by kernel_rfl
@[simp] theorem ty22_slice : tslice Tryd.prog 22 = none := by kernel_rfl
@[simp] theorem ty22_int : tint Tryd.prog 22 = some .u64 := by kernel_rfl
@[simp] theorem ty22_bool : tbool Tryd.prog 22 = false := by kernel_rfl
@[simp] theorem ty22_zero : tzero Tryd.prog 22 = some (.int .u64 0) := by kernel_rfl
@[simp] theorem ty23_agg : tagg Tryd.prog 23 = some false := by kernel_rfl
@[simp] theorem ty23_size : tsize Tryd.prog 23 = some 1 := by kernel_rfl
@[simp] theorem ty23_bytes : tbytes Tryd.prog 23 = some 8 := by kernel_rfl
@[simp] theorem ty23_some : tsome Tryd.prog 23 = true := by kernel_rfl
@[simp] theorem ty23_slice : tslice Tryd.prog 23 = none := by kernel_rfl
@[simp] theorem ty23_int : tint Tryd.prog 23 = some .u64 := by kernel_rfl
@[simp] theorem ty23_bool : tbool Tryd.prog 23 = false := by kernel_rfl
@[simp] theorem ty23_zero : tzero Tryd.prog 23 = some (.int .u64 0) := by kernel_rfl
@[simp] theorem ty28_agg : tagg Tryd.prog 28 = some false := by kernel_rfl
@[simp] theorem ty28_size : tsize Tryd.prog 28 = some 1 := by kernel_rfl
@[simp] theorem ty28_bytes : tbytes Tryd.prog 28 = some 24 := by kernel_rfl
@[simp] theorem ty28_some : tsome Tryd.prog 28 = true := by kernel_rfl
@[simp] theorem ty28_slice : tslice Tryd.prog 28 = some 82 := by kernel_rfl
@[simp] theorem ty28_bool : tbool Tryd.prog 28 = false := by kernel_rfl
@[simp] theorem ty28_zero : tzero Tryd.prog 28 = some (.sl ⟨0, 0, 0⟩ 1 []) := by kernel_rfl
@[simp] theorem ty30_agg : tagg Tryd.prog 30 = some true := by kernel_rfl
@[simp] theorem ty30_size : tsize Tryd.prog 30 = some 2 := by kernel_rfl
@[simp] theorem ty30_bytes : tbytes Tryd.prog 30 = some 32 := by kernel_rfl
@[simp] theorem ty30_some : tsome Tryd.prog 30 = true := by kernel_rfl
@[simp] theorem ty30_fld0 : tfld Tryd.prog 30 0 = some (0, 1) := by kernel_rfl
@[simp] theorem ty30_fldAgg0 : tfldAgg Tryd.prog 30 0 = some false := by kernel_rfl
@[simp] theorem ty30_fld1 : tfld Tryd.prog 30 1 = some (1, 1) := by kernel_rfl
@[simp] theorem ty30_fldAgg1 : tfldAgg Tryd.prog 30 1 = some false := by kernel_rfl
@[simp] theorem ty30_places : tplaces Tryd.prog 30 = some [(0, 1), (1, 1)] := by kernel_rfl
@[simp] theorem ty30_slice : tslice Tryd.prog 30 = none := by kernel_rfl
@[simp] theorem ty30_aplaces : aplaces Tryd.prog 30 = none := by kernel_rfl
@[simp] theorem ty30_bool : tbool Tryd.prog 30 = false := by kernel_rfl
@[simp] theorem ty30_zero : tzero Tryd.prog 30 = some (.agg [.bool false, .sl ⟨0, 0, 0⟩ 1 []]) := by kernel_rfl
@[simp] theorem ty32_agg : tagg Tryd.prog 32 = some true := by kernel_rfl
@[simp] theorem ty32_size : tsize Tryd.prog 32 = some 3 := by kernel_rfl
@[simp] theorem ty32_bytes : tbytes Tryd.prog 32 = some 40 := by kernel_rfl
@[simp] theorem ty32_some : tsome Tryd.prog 32 = true := by kernel_rfl
@[simp] theorem ty32_fld0 : tfld Tryd.prog 32 0 = some (0, 2) := by kernel_rfl
@[simp] theorem ty32_fldAgg0 : tfldAgg Tryd.prog 32 0 = some true := by kernel_rfl
@[simp] theorem ty32_fld1 : tfld Tryd.prog 32 1 = some (2, 1) := by kernel_rfl
@[simp] theorem ty32_fldAgg1 : tfldAgg Tryd.prog 32 1 = some false := by kernel_rfl
@[simp] theorem ty32_places : tplaces Tryd.prog 32 = some [(0, 2), (2, 1)] := by kernel_rfl
@[simp] theorem ty32_slice : tslice Tryd.prog 32 = none := by kernel_rfl
@[simp] theorem ty32_aplaces : aplaces Tryd.prog 32 = none := by kernel_rfl
@[simp] theorem ty32_bool : tbool Tryd.prog 32 = false := by kernel_rfl
@[simp] theorem ty32_zero : tzero Tryd.prog 32 = some (.agg [.bool false, .sl ⟨0, 0, 0⟩ 1 [], .int .i64 0]) := by kernel_rfl
@[simp] theorem ty33_agg : tagg Tryd.prog 33 = some false := by kernel_rfl
@[simp] theorem ty33_size : tsize Tryd.prog 33 = some 1 := by kernel_rfl
@[simp] theorem ty33_bytes : tbytes Tryd.prog 33 = some 8 := by kernel_rfl
@[simp] theorem ty33_some : tsome Tryd.prog 33 = true := by kernel_rfl
@[simp] theorem ty33_slice : tslice Tryd.prog 33 = none := by kernel_rfl
@[simp] theorem ty33_int : tint Tryd.prog 33 = some .i64 := by kernel_rfl
@[simp] theorem ty33_bool : tbool Tryd.prog 33 = false := by kernel_rfl
@[simp] theorem ty33_zero : tzero Tryd.prog 33 = some (.int .i64 0) := by kernel_rfl
@[simp] theorem ty39_agg : tagg Tryd.prog 39 = some false := by kernel_rfl
@[simp] theorem ty39_size : tsize Tryd.prog 39 = some 1 := by kernel_rfl
@[simp] theorem ty39_bytes : tbytes Tryd.prog 39 = some 1 := by kernel_rfl
@[simp] theorem ty39_some : tsome Tryd.prog 39 = true := by kernel_rfl
@[simp] theorem ty39_slice : tslice Tryd.prog 39 = none := by kernel_rfl
@[simp] theorem ty39_int : tint Tryd.prog 39 = some .u8 := by kernel_rfl
@[simp] theorem ty39_bool : tbool Tryd.prog 39 = false := by kernel_rfl
@[simp] theorem ty39_zero : tzero Tryd.prog 39 = some (.int .u8 0) := by kernel_rfl
@[simp] theorem ty45_agg : tagg Tryd.prog 45 = some false := by kernel_rfl
@[simp] theorem ty45_size : tsize Tryd.prog 45 = some 1 := by kernel_rfl
@[simp] theorem ty45_bytes : tbytes Tryd.prog 45 = some 8 := by kernel_rfl
@[simp] theorem ty45_some : tsome Tryd.prog 45 = true := by kernel_rfl
@[simp] theorem ty45_slice : tslice Tryd.prog 45 = none := by kernel_rfl
@[simp] theorem ty45_bool : tbool Tryd.prog 45 = false := by kernel_rfl
@[simp] theorem ty53_agg : tagg Tryd.prog 53 = some true := by kernel_rfl
@[simp] theorem ty53_size : tsize Tryd.prog 53 = some 3 := by kernel_rfl
@[simp] theorem ty53_bytes : tbytes Tryd.prog 53 = some 24 := by kernel_rfl
@[simp] theorem ty53_some : tsome Tryd.prog 53 = true := by kernel_rfl
@[simp] theorem ty53_fld0 : tfld Tryd.prog 53 0 = some (0, 1) := by kernel_rfl
@[simp] theorem ty53_fldAgg0 : tfldAgg Tryd.prog 53 0 = some false := by kernel_rfl
@[simp] theorem ty53_fld1 : tfld Tryd.prog 53 1 = some (1, 1) := by kernel_rfl
@[simp] theorem ty53_fldAgg1 : tfldAgg Tryd.prog 53 1 = some false := by kernel_rfl
@[simp] theorem ty53_fld2 : tfld Tryd.prog 53 2 = some (2, 1) := by kernel_rfl
@[simp] theorem ty53_fldAgg2 : tfldAgg Tryd.prog 53 2 = some false := by kernel_rfl
@[simp] theorem ty53_places : tplaces Tryd.prog 53 = some [(0, 1), (1, 1), (2, 1)] := by kernel_rfl
@[simp] theorem ty53_slice : tslice Tryd.prog 53 = none := by kernel_rfl
@[simp] theorem ty53_aplaces : aplaces Tryd.prog 53 = none := by kernel_rfl
@[simp] theorem ty53_bool : tbool Tryd.prog 53 = false := by kernel_rfl
@[simp] theorem ty53_zero : tzero Tryd.prog 53 = some (.agg [.bool false, .int .i64 0, .int .u64 0]) := by kernel_rfl
@[simp] theorem ty82_agg : tagg Tryd.prog 82 = some false := by kernel_rfl
@[simp] theorem ty82_size : tsize Tryd.prog 82 = some 1 := by kernel_rfl
@[simp] theorem ty82_bytes : tbytes Tryd.prog 82 = some 4 := by kernel_rfl
@[simp] theorem ty82_some : tsome Tryd.prog 82 = true := by kernel_rfl
@[simp] theorem ty82_slice : tslice Tryd.prog 82 = none := by kernel_rfl
@[simp] theorem ty82_int : tint Tryd.prog 82 = some .u32 := by kernel_rfl
@[simp] theorem ty82_bool : tbool Tryd.prog 82 = false := by kernel_rfl
@[simp] theorem ty82_zero : tzero Tryd.prog 82 = some (.int .u32 0) := by kernel_rfl
@[simp] theorem ty97_agg : tagg Tryd.prog 97 = some true := by kernel_rfl
@[simp] theorem ty97_size : tsize Tryd.prog 97 = some 32 := by kernel_rfl
@[simp] theorem ty97_bytes : tbytes Tryd.prog 97 = some 32 := by kernel_rfl
@[simp] theorem ty97_some : tsome Tryd.prog 97 = true := by kernel_rfl
@[simp] theorem ty97_slice : tslice Tryd.prog 97 = none := by kernel_rfl
@[simp] theorem ty97_arr : tarr Tryd.prog 97 = some (32, 5) := by kernel_rfl
@[simp] theorem ty97_bool : tbool Tryd.prog 97 = false := by kernel_rfl
@[simp] theorem ty97_zero : tzero Tryd.prog 97 = some (.agg [.int .u8 0, .int .u8 0, .int .u8 0, .int .u8 0, .int .u8 0, .int .u8 0, .int .u8 0, .int .u8 0, .int .u8 0, .int .u8 0, .int .u8 0, .int .u8 0, .int .u8 0, .int .u8 0, .int .u8 0, .int .u8 0, .int .u8 0, .int .u8 0, .int .u8 0, .int .u8 0, .int .u8 0, .int .u8 0, .int .u8 0, .int .u8 0, .int .u8 0, .int .u8 0, .int .u8 0, .int .u8 0, .int .u8 0, .int .u8 0, .int .u8 0, .int .u8 0]) := by kernel_rfl
theorem mixed : Tryd.prog.follows .mixedOrders = true := by kernel_rfl
@[simp ↓] theorem alloc2 {s : St} {dr : Bool} {d : Option Tmp} {K : St → Prop} : PStepC Tryd.prog dr d (.alloc 2) K s ↔ okDst s d ∧ K ((s.pushBox (PV.cells (.int .i64 0))).put d (.box s.boxes.length 0)) := PS_alloc ty2_zero ⟨rfl, rfl⟩
@[simp ↓] theorem alloc3 {s : St} {dr : Bool} {d : Option Tmp} {K : St → Prop} : PStepC Tryd.prog dr d (.alloc 3) K s ↔ okDst s d ∧ K ((s.pushBox (PV.cells (.int .i64 0))).put d (.box s.boxes.length 0)) := PS_alloc ty3_zero ⟨rfl, rfl⟩
@[simp ↓] theorem alloc4 {s : St} {dr : Bool} {d : Option Tmp} {K : St → Prop} : PStepC Tryd.prog dr d (.alloc 4) K s ↔ okDst s d ∧ K ((s.pushBox (PV.cells (.bool false))).put d (.box s.boxes.length 0)) := PS_alloc ty4_zero ⟨rfl, rfl⟩
@[simp ↓] theorem alloc5 {s : St} {dr : Bool} {d : Option Tmp} {K : St → Prop} : PStepC Tryd.prog dr d (.alloc 5) K s ↔ okDst s d ∧ K ((s.pushBox (PV.cells (.int .u8 0))).put d (.box s.boxes.length 0)) := PS_alloc ty5_zero ⟨rfl, rfl⟩
@[simp ↓] theorem alloc22 {s : St} {dr : Bool} {d : Option Tmp} {K : St → Prop} : PStepC Tryd.prog dr d (.alloc 22) K s ↔ okDst s d ∧ K ((s.pushBox (PV.cells (.int .u64 0))).put d (.box s.boxes.length 0)) := PS_alloc ty22_zero ⟨rfl, rfl⟩
@[simp ↓] theorem alloc23 {s : St} {dr : Bool} {d : Option Tmp} {K : St → Prop} : PStepC Tryd.prog dr d (.alloc 23) K s ↔ okDst s d ∧ K ((s.pushBox (PV.cells (.int .u64 0))).put d (.box s.boxes.length 0)) := PS_alloc ty23_zero ⟨rfl, rfl⟩
@[simp ↓] theorem alloc28 {s : St} {dr : Bool} {d : Option Tmp} {K : St → Prop} : PStepC Tryd.prog dr d (.alloc 28) K s ↔ okDst s d ∧ K ((s.pushBox (PV.cells (.sl ⟨0, 0, 0⟩ 1 []))).put d (.box s.boxes.length 0)) := PS_alloc ty28_zero ⟨rfl, rfl⟩
@[simp ↓] theorem app28 {s : St} {dr : Bool} {d : Option Tmp} {K : St → Prop} (x y : Operand) : PStepC Tryd.prog dr d (.call { callee := .builtin .append, args := #[x, y], argTypes := #[28, 28] }) K s ↔ okDst s d ∧ AppK 1 4 (s.ev x) (s.ev y) s (fun s' v => K (s'.put d v)) := PS_appendK ty28_slice ty82_size ty82_bytes ty82_zero ⟨by decide, by decide, rfl, rfl⟩ x y
@[simp ↓] theorem mk28 {s : St} {dr : Bool} {d : Option Tmp} {K : St → Prop} (x y : Operand) : PStepC Tryd.prog dr d (.makeSlice 28 x y) K s ↔ okDst s d ∧ MakeK 1 4 (.int .u32 0) (s.ev x) (s.ev y) s (fun s' v => K (s'.put d v)) := PS_makeK ty28_slice ty82_size ty82_bytes ty82_zero ⟨by decide, by decide, rfl, rfl, rfl, rfl⟩ x y
@[simp ↓] theorem bsl28 {s : St} {dr : Bool} {d : Option Tmp} {K : St → Prop} (n : Nat) (l : List (Nat × Operand)) : PStepC Tryd.prog dr d (.buildSlice 28 n l.toArray) K s ↔ okDst s d ∧ n * 1 ≤ 16777216 ∧ l.map (·.1) = List.range n ∧ ((l.map fun x => s.ev x.2).all fun v => v.sized && v.closed && v.cells.all PV.isCell && v.cells.length == 1) = true ∧ K ((s.fresh (n * 1)).put d (.sl ⟨s.next, s.next, 0⟩ 1 (l.map fun x => s.ev x.2))) := PS_buildK ty28_slice ty82_size ty82_zero ⟨by decide, rfl, rfl⟩ n l
@[simp ↓] theorem alloc30 {s : St} {dr : Bool} {d : Option Tmp} {K : St → Prop} : PStepC Tryd.prog dr d (.alloc 30) K s ↔ okDst s d ∧ K ((s.pushBox (PV.cells (.agg [.bool false, .sl ⟨0, 0, 0⟩ 1 []]))).put d (.box s.boxes.length 0)) := PS_alloc ty30_zero ⟨rfl, rfl⟩
@[simp ↓] theorem alloc32 {s : St} {dr : Bool} {d : Option Tmp} {K : St → Prop} : PStepC Tryd.prog dr d (.alloc 32) K s ↔ okDst s d ∧ K ((s.pushBox (PV.cells (.agg [.bool false, .sl ⟨0, 0, 0⟩ 1 [], .int .i64 0]))).put d (.box s.boxes.length 0)) := PS_alloc ty32_zero ⟨rfl, rfl⟩
@[simp ↓] theorem alloc33 {s : St} {dr : Bool} {d : Option Tmp} {K : St → Prop} : PStepC Tryd.prog dr d (.alloc 33) K s ↔ okDst s d ∧ K ((s.pushBox (PV.cells (.int .i64 0))).put d (.box s.boxes.length 0)) := PS_alloc ty33_zero ⟨rfl, rfl⟩
@[simp ↓] theorem alloc39 {s : St} {dr : Bool} {d : Option Tmp} {K : St → Prop} : PStepC Tryd.prog dr d (.alloc 39) K s ↔ okDst s d ∧ K ((s.pushBox (PV.cells (.int .u8 0))).put d (.box s.boxes.length 0)) := PS_alloc ty39_zero ⟨rfl, rfl⟩
@[simp ↓] theorem alloc53 {s : St} {dr : Bool} {d : Option Tmp} {K : St → Prop} : PStepC Tryd.prog dr d (.alloc 53) K s ↔ okDst s d ∧ K ((s.pushBox (PV.cells (.agg [.bool false, .int .i64 0, .int .u64 0]))).put d (.box s.boxes.length 0)) := PS_alloc ty53_zero ⟨rfl, rfl⟩
@[simp ↓] theorem alloc82 {s : St} {dr : Bool} {d : Option Tmp} {K : St → Prop} : PStepC Tryd.prog dr d (.alloc 82) K s ↔ okDst s d ∧ K ((s.pushBox (PV.cells (.int .u32 0))).put d (.box s.boxes.length 0)) := PS_alloc ty82_zero ⟨rfl, rfl⟩
@[simp ↓] theorem alloc97 {s : St} {dr : Bool} {d : Option Tmp} {K : St → Prop} : PStepC Tryd.prog dr d (.alloc 97) K s ↔ okDst s d ∧ K ((s.pushBox (PV.cells (.agg [.int .u8 0, .int .u8 0, .int .u8 0, .int .u8 0, .int .u8 0, .int .u8 0, .int .u8 0, .int .u8 0, .int .u8 0, .int .u8 0, .int .u8 0, .int .u8 0, .int .u8 0, .int .u8 0, .int .u8 0, .int .u8 0, .int .u8 0, .int .u8 0, .int .u8 0, .int .u8 0, .int .u8 0, .int .u8 0, .int .u8 0, .int .u8 0, .int .u8 0, .int .u8 0, .int .u8 0, .int .u8 0, .int .u8 0, .int .u8 0, .int .u8 0, .int .u8 0]))).put d (.box s.boxes.length 0)) := PS_alloc ty97_zero ⟨rfl, rfl⟩
@[simp ↓] theorem pcall3 {s : St} {dr : Bool} {d : Option Tmp} {K : St → Prop} (l : List Operand) (ts : Array TypeId) : PStepC Tryd.prog dr d (.call { callee := .value (.func 3), args := l.toArray, argTypes := ts }) K s ↔ okDst s d ∧ CallK Tryd.prog dr 3 (l.map s.ev) s.next s d K := PS_callK ⟨Tryd.f3, Tryd.func3, rfl, by kernel_rfl⟩ l ts
@[simp] theorem call3 : callable Tryd.prog 3 := ⟨Tryd.f3, Tryd.func3, rfl, by kernel_rfl⟩
@[simp ↓] theorem pcall4 {s : St} {dr : Bool} {d : Option Tmp} {K : St → Prop} (l : List Operand) (ts : Array TypeId) : PStepC Tryd.prog dr d (.call { callee := .value (.func 4), args := l.toArray, argTypes := ts }) K s ↔ okDst s d ∧ CallK Tryd.prog dr 4 (l.map s.ev) s.next s d K := PS_callK ⟨Tryd.f4, Tryd.func4, rfl, by kernel_rfl⟩ l ts
@[simp] theorem call4 : callable Tryd.prog 4 := ⟨Tryd.f4, Tryd.func4, rfl, by kernel_rfl⟩
@[simp ↓] theorem pcall5 {s : St} {dr : Bool} {d : Option Tmp} {K : St → Prop} (l : List Operand) (ts : Array TypeId) : PStepC Tryd.prog dr d (.call { callee := .value (.func 5), args := l.toArray, argTypes := ts }) K s ↔ okDst s d ∧ CallK Tryd.prog dr 5 (l.map s.ev) s.next s d K := PS_callK ⟨Tryd.f5, Tryd.func5, rfl, by kernel_rfl⟩ l ts
@[simp] theorem call5 : callable Tryd.prog 5 := ⟨Tryd.f5, Tryd.func5, rfl, by kernel_rfl⟩
@[simp ↓] theorem pcall6 {s : St} {dr : Bool} {d : Option Tmp} {K : St → Prop} (l : List Operand) (ts : Array TypeId) : PStepC Tryd.prog dr d (.call { callee := .value (.func 6), args := l.toArray, argTypes := ts }) K s ↔ okDst s d ∧ CallK Tryd.prog dr 6 (l.map s.ev) s.next s d K := PS_callK ⟨Tryd.f6, Tryd.func6, rfl, by kernel_rfl⟩ l ts
@[simp] theorem call6 : callable Tryd.prog 6 := ⟨Tryd.f6, Tryd.func6, rfl, by kernel_rfl⟩
@[simp ↓] theorem pcall7 {s : St} {dr : Bool} {d : Option Tmp} {K : St → Prop} (l : List Operand) (ts : Array TypeId) : PStepC Tryd.prog dr d (.call { callee := .value (.func 7), args := l.toArray, argTypes := ts }) K s ↔ okDst s d ∧ CallK Tryd.prog dr 7 (l.map s.ev) s.next s d K := PS_callK ⟨Tryd.f7, Tryd.func7, rfl, by kernel_rfl⟩ l ts
@[simp] theorem call7 : callable Tryd.prog 7 := ⟨Tryd.f7, Tryd.func7, rfl, by kernel_rfl⟩
@[simp ↓] theorem pcall8 {s : St} {dr : Bool} {d : Option Tmp} {K : St → Prop} (l : List Operand) (ts : Array TypeId) : PStepC Tryd.prog dr d (.call { callee := .value (.func 8), args := l.toArray, argTypes := ts }) K s ↔ okDst s d ∧ CallK Tryd.prog dr 8 (l.map s.ev) s.next s d K := PS_callK ⟨Tryd.f8, Tryd.func8, rfl, by kernel_rfl⟩ l ts
@[simp] theorem call8 : callable Tryd.prog 8 := ⟨Tryd.f8, Tryd.func8, rfl, by kernel_rfl⟩
@[simp ↓] theorem pcall9 {s : St} {dr : Bool} {d : Option Tmp} {K : St → Prop} (l : List Operand) (ts : Array TypeId) : PStepC Tryd.prog dr d (.call { callee := .value (.func 9), args := l.toArray, argTypes := ts }) K s ↔ okDst s d ∧ CallK Tryd.prog dr 9 (l.map s.ev) s.next s d K := PS_callK ⟨Tryd.f9, Tryd.func9, rfl, by kernel_rfl⟩ l ts
@[simp] theorem call9 : callable Tryd.prog 9 := ⟨Tryd.f9, Tryd.func9, rfl, by kernel_rfl⟩
@[simp ↓] theorem pcall10 {s : St} {dr : Bool} {d : Option Tmp} {K : St → Prop} (l : List Operand) (ts : Array TypeId) : PStepC Tryd.prog dr d (.call { callee := .value (.func 10), args := l.toArray, argTypes := ts }) K s ↔ okDst s d ∧ CallK Tryd.prog dr 10 (l.map s.ev) s.next s d K := PS_callK ⟨Tryd.f10, Tryd.func10, rfl, by kernel_rfl⟩ l ts
@[simp] theorem call10 : callable Tryd.prog 10 := ⟨Tryd.f10, Tryd.func10, rfl, by kernel_rfl⟩
@[simp ↓] theorem pcall11 {s : St} {dr : Bool} {d : Option Tmp} {K : St → Prop} (l : List Operand) (ts : Array TypeId) : PStepC Tryd.prog dr d (.call { callee := .value (.func 11), args := l.toArray, argTypes := ts }) K s ↔ okDst s d ∧ CallK Tryd.prog dr 11 (l.map s.ev) s.next s d K := PS_callK ⟨Tryd.f11, Tryd.func11, rfl, by kernel_rfl⟩ l ts
@[simp] theorem call11 : callable Tryd.prog 11 := ⟨Tryd.f11, Tryd.func11, rfl, by kernel_rfl⟩
@[simp ↓] theorem pcall12 {s : St} {dr : Bool} {d : Option Tmp} {K : St → Prop} (l : List Operand) (ts : Array TypeId) : PStepC Tryd.prog dr d (.call { callee := .value (.func 12), args := l.toArray, argTypes := ts }) K s ↔ okDst s d ∧ CallK Tryd.prog dr 12 (l.map s.ev) s.next s d K := PS_callK ⟨Tryd.f12, Tryd.func12, rfl, by kernel_rfl⟩ l ts
@[simp] theorem call12 : callable Tryd.prog 12 := ⟨Tryd.f12, Tryd.func12, rfl, by kernel_rfl⟩
@[simp ↓] theorem pcall13 {s : St} {dr : Bool} {d : Option Tmp} {K : St → Prop} (l : List Operand) (ts : Array TypeId) : PStepC Tryd.prog dr d (.call { callee := .value (.func 13), args := l.toArray, argTypes := ts }) K s ↔ okDst s d ∧ CallK Tryd.prog dr 13 (l.map s.ev) s.next s d K := PS_callK ⟨Tryd.f13, Tryd.func13, rfl, by kernel_rfl⟩ l ts
@[simp] theorem call13 : callable Tryd.prog 13 := ⟨Tryd.f13, Tryd.func13, rfl, by kernel_rfl⟩
@[simp ↓] theorem pcall14 {s : St} {dr : Bool} {d : Option Tmp} {K : St → Prop} (l : List Operand) (ts : Array TypeId) : PStepC Tryd.prog dr d (.call { callee := .value (.func 14), args := l.toArray, argTypes := ts }) K s ↔ okDst s d ∧ CallK Tryd.prog dr 14 (l.map s.ev) s.next s d K := PS_callK ⟨Tryd.f14, Tryd.func14, rfl, by kernel_rfl⟩ l ts
@[simp] theorem call14 : callable Tryd.prog 14 := ⟨Tryd.f14, Tryd.func14, rfl, by kernel_rfl⟩
@[simp ↓] theorem pcall15 {s : St} {dr : Bool} {d : Option Tmp} {K : St → Prop} (l : List Operand) (ts : Array TypeId) : PStepC Tryd.prog dr d (.call { callee := .value (.func 15), args := l.toArray, argTypes := ts }) K s ↔ okDst s d ∧ CallK Tryd.prog dr 15 (l.map s.ev) s.next s d K := PS_callK ⟨Tryd.f15, Tryd.func15, rfl, by kernel_rfl⟩ l ts
@[simp] theorem call15 : callable Tryd.prog 15 := ⟨Tryd.f15, Tryd.func15, rfl, by kernel_rfl⟩
@[simp ↓] theorem pcall16 {s : St} {dr : Bool} {d : Option Tmp} {K : St → Prop} (l : List Operand) (ts : Array TypeId) : PStepC Tryd.prog dr d (.call { callee := .value (.func 16), args := l.toArray, argTypes := ts }) K s ↔ okDst s d ∧ CallK Tryd.prog dr 16 (l.map s.ev) s.next s d K := PS_callK ⟨Tryd.f16, Tryd.func16, rfl, by kernel_rfl⟩ l ts
@[simp] theorem call16 : callable Tryd.prog 16 := ⟨Tryd.f16, Tryd.func16, rfl, by kernel_rfl⟩
@[simp ↓] theorem pcall17 {s : St} {dr : Bool} {d : Option Tmp} {K : St → Prop} (l : List Operand) (ts : Array TypeId) : PStepC Tryd.prog dr d (.call { callee := .value (.func 17), args := l.toArray, argTypes := ts }) K s ↔ okDst s d ∧ CallK Tryd.prog dr 17 (l.map s.ev) s.next s d K := PS_callK ⟨Tryd.f17, Tryd.func17, rfl, by kernel_rfl⟩ l ts
@[simp] theorem call17 : callable Tryd.prog 17 := ⟨Tryd.f17, Tryd.func17, rfl, by kernel_rfl⟩
@[simp ↓] theorem pcall18 {s : St} {dr : Bool} {d : Option Tmp} {K : St → Prop} (l : List Operand) (ts : Array TypeId) : PStepC Tryd.prog dr d (.call { callee := .value (.func 18), args := l.toArray, argTypes := ts }) K s ↔ okDst s d ∧ CallK Tryd.prog dr 18 (l.map s.ev) s.next s d K := PS_callK ⟨Tryd.f18, Tryd.func18, rfl, by kernel_rfl⟩ l ts
@[simp] theorem call18 : callable Tryd.prog 18 := ⟨Tryd.f18, Tryd.func18, rfl, by kernel_rfl⟩
@[simp ↓] theorem pcall19 {s : St} {dr : Bool} {d : Option Tmp} {K : St → Prop} (l : List Operand) (ts : Array TypeId) : PStepC Tryd.prog dr d (.call { callee := .value (.func 19), args := l.toArray, argTypes := ts }) K s ↔ okDst s d ∧ CallK Tryd.prog dr 19 (l.map s.ev) s.next s d K := PS_callK ⟨Tryd.f19, Tryd.func19, rfl, by kernel_rfl⟩ l ts
@[simp] theorem call19 : callable Tryd.prog 19 := ⟨Tryd.f19, Tryd.func19, rfl, by kernel_rfl⟩
@[simp ↓] theorem pcall20 {s : St} {dr : Bool} {d : Option Tmp} {K : St → Prop} (l : List Operand) (ts : Array TypeId) : PStepC Tryd.prog dr d (.call { callee := .value (.func 20), args := l.toArray, argTypes := ts }) K s ↔ okDst s d ∧ CallK Tryd.prog dr 20 (l.map s.ev) s.next s d K := PS_callK ⟨Tryd.f20, Tryd.func20, rfl, by kernel_rfl⟩ l ts
@[simp] theorem call20 : callable Tryd.prog 20 := ⟨Tryd.f20, Tryd.func20, rfl, by kernel_rfl⟩
@[simp ↓] theorem pcall21 {s : St} {dr : Bool} {d : Option Tmp} {K : St → Prop} (l : List Operand) (ts : Array TypeId) : PStepC Tryd.prog dr d (.call { callee := .value (.func 21), args := l.toArray, argTypes := ts }) K s ↔ okDst s d ∧ CallK Tryd.prog dr 21 (l.map s.ev) s.next s d K := PS_callK ⟨Tryd.f21, Tryd.func21, rfl, by kernel_rfl⟩ l ts
@[simp] theorem call21 : callable Tryd.prog 21 := ⟨Tryd.f21, Tryd.func21, rfl, by kernel_rfl⟩
@[simp ↓] theorem pcall22 {s : St} {dr : Bool} {d : Option Tmp} {K : St → Prop} (l : List Operand) (ts : Array TypeId) : PStepC Tryd.prog dr d (.call { callee := .value (.func 22), args := l.toArray, argTypes := ts }) K s ↔ okDst s d ∧ CallK Tryd.prog dr 22 (l.map s.ev) s.next s d K := PS_callK ⟨Tryd.f22, Tryd.func22, rfl, by kernel_rfl⟩ l ts
@[simp] theorem call22 : callable Tryd.prog 22 := ⟨Tryd.f22, Tryd.func22, rfl, by kernel_rfl⟩
@[simp ↓] theorem pcall23 {s : St} {dr : Bool} {d : Option Tmp} {K : St → Prop} (l : List Operand) (ts : Array TypeId) : PStepC Tryd.prog dr d (.call { callee := .value (.func 23), args := l.toArray, argTypes := ts }) K s ↔ okDst s d ∧ CallK Tryd.prog dr 23 (l.map s.ev) s.next s d K := PS_callK ⟨Tryd.f23, Tryd.func23, rfl, by kernel_rfl⟩ l ts
@[simp] theorem call23 : callable Tryd.prog 23 := ⟨Tryd.f23, Tryd.func23, rfl, by kernel_rfl⟩
@[simp ↓] theorem pcall24 {s : St} {dr : Bool} {d : Option Tmp} {K : St → Prop} (l : List Operand) (ts : Array TypeId) : PStepC Tryd.prog dr d (.call { callee := .value (.func 24), args := l.toArray, argTypes := ts }) K s ↔ okDst s d ∧ CallK Tryd.prog dr 24 (l.map s.ev) s.next s d K := PS_callK ⟨Tryd.f24, Tryd.func24, rfl, by kernel_rfl⟩ l ts
@[simp] theorem call24 : callable Tryd.prog 24 := ⟨Tryd.f24, Tryd.func24, rfl, by kernel_rfl⟩
@[simp ↓] theorem pcall25 {s : St} {dr : Bool} {d : Option Tmp} {K : St → Prop} (l : List Operand) (ts : Array TypeId) : PStepC Tryd.prog dr d (.call { callee := .value (.func 25), args := l.toArray, argTypes := ts }) K s ↔ okDst s d ∧ CallK Tryd.prog dr 25 (l.map s.ev) s.next s d K := PS_callK ⟨Tryd.f25, Tryd.func25, rfl, by kernel_rfl⟩ l ts
@[simp] theorem call25 : callable Tryd.prog 25 := ⟨Tryd.f25, Tryd.func25, rfl, by kernel_rfl⟩
@[simp ↓] theorem pcall27 {s : St} {dr : Bool} {d : Option Tmp} {K : St → Prop} (l : List Operand) (ts : Array TypeId) : PStepC Tryd.prog dr d (.call { callee := .value (.func 27), args := l.toArray, argTypes := ts }) K s ↔ okDst s d ∧ CallK Tryd.prog dr 27 (l.map s.ev) s.next s d K := PS_callK ⟨Tryd.f27, Tryd.func27, rfl, by kernel_rfl⟩ l ts
@[simp] theorem call27 : callable Tryd.prog 27 := ⟨Tryd.f27, Tryd.func27, rfl, by kernel_rfl⟩
@[simp ↓] theorem pcall28 {s : St} {dr : Bool} {d : Option Tmp} {K : St → Prop} (l : List Operand) (ts : Array TypeId) : PStepC Tryd.prog dr d (.call { callee := .value (.func 28), args := l.toArray, argTypes := ts }) K s ↔ okDst s d ∧ CallK Tryd.prog dr 28 (l.map s.ev) s.next s d K := PS_callK ⟨Tryd.f28, Tryd.func28, rfl, by kernel_rfl⟩ l ts
@[simp] theorem call28 : callable Tryd.prog 28 := ⟨Tryd.f28, Tryd.func28, rfl, by kernel_rfl⟩
@[simp ↓] theorem pcall29 {s : St} {dr : Bool} {d : Option Tmp} {K : St → Prop} (l : List Operand) (ts : Array TypeId) : PStepC Tryd.prog dr d (.call { callee := .value (.func 29), args := l.toArray, argTypes := ts }) K s ↔ okDst s d ∧ CallK Tryd.prog dr 29 (l.map s.ev) s.next s d K := PS_callK ⟨Tryd.f29, Tryd.func29, rfl, by kernel_rfl⟩ l ts
@[simp] theorem call29 : callable Tryd.prog 29 := ⟨Tryd.f29, Tryd.func29, rfl, by kernel_rfl⟩
@[simp ↓] theorem pcall31 {s : St} {dr : Bool} {d : Option Tmp} {K : St → Prop} (l : List Operand) (ts : Array TypeId) : PStepC Tryd.prog dr d (.call { callee := .value (.func 31), args := l.toArray, argTypes := ts }) K s ↔ okDst s d ∧ CallK Tryd.prog dr 31 (l.map s.ev) s.next s d K := PS_callK ⟨Tryd.f31, Tryd.func31, rfl, by kernel_rfl⟩ l ts
@[simp] theorem call31 : callable Tryd.prog 31 := ⟨Tryd.f31, Tryd.func31, rfl, by kernel_rfl⟩
@[simp ↓] theorem pcall32 {s : St} {dr : Bool} {d : Option Tmp} {K : St → Prop} (l : List Operand) (ts : Array TypeId) : PStepC Tryd.prog dr d (.call { callee := .value (.func 32), args := l.toArray, argTypes := ts }) K s ↔ okDst s d ∧ CallK Tryd.prog dr 32 (l.map s.ev) s.next s d K := PS_callK ⟨Tryd.f32, Tryd.func32, rfl, by kernel_rfl⟩ l ts
@[simp] theorem call32 : callable Tryd.prog 32 := ⟨Tryd.f32, Tryd.func32, rfl, by kernel_rfl⟩
@[simp ↓] theorem pcall33 {s : St} {dr : Bool} {d : Option Tmp} {K : St → Prop} (l : List Operand) (ts : Array TypeId) : PStepC Tryd.prog dr d (.call { callee := .value (.func 33), args := l.toArray, argTypes := ts }) K s ↔ okDst s d ∧ CallK Tryd.prog dr 33 (l.map s.ev) s.next s d K := PS_callK ⟨Tryd.f33, Tryd.func33, rfl, by kernel_rfl⟩ l ts
@[simp] theorem call33 : callable Tryd.prog 33 := ⟨Tryd.f33, Tryd.func33, rfl, by kernel_rfl⟩
@[simp ↓] theorem pcall34 {s : St} {dr : Bool} {d : Option Tmp} {K : St → Prop} (l : List Operand) (ts : Array TypeId) : PStepC Tryd.prog dr d (.call { callee := .value (.func 34), args := l.toArray, argTypes := ts }) K s ↔ okDst s d ∧ CallK Tryd.prog dr 34 (l.map s.ev) s.next s d K := PS_callK ⟨Tryd.f34, Tryd.func34, rfl, by kernel_rfl⟩ l ts
@[simp] theorem call34 : callable Tryd.prog 34 := ⟨Tryd.f34, Tryd.func34, rfl, by kernel_rfl⟩
@[simp ↓] theorem pcall35 {s : St} {dr : Bool} {d : Option Tmp} {K : St → Prop} (l : List Operand) (ts : Array TypeId) : PStepC Tryd.prog dr d (.call { callee := .value (.func 35), args := l.toArray, argTypes := ts }) K s ↔ okDst s d ∧ CallK Tryd.prog dr 35 (l.map s.ev) s.next s d K := PS_callK ⟨Tryd.f35, Tryd.func35, rfl, by kernel_rfl⟩ l ts
@[simp] theorem call35 : callable Tryd.prog 35 := ⟨Tryd.f35, Tryd.func35, rfl, by kernel_rfl⟩
@[simp ↓] theorem pcall36 {s : St} {dr : Bool} {d : Option Tmp} {K : St → Prop} (l : List Operand) (ts : Array TypeId) : PStepC Tryd.prog dr d (.call { callee := .value (.func 36), args := l.toArray, argTypes := ts }) K s ↔ okDst s d ∧ CallK Tryd.prog dr 36 (l.map s.ev) s.next s d K := PS_callK ⟨Tryd.f36, Tryd.func36, rfl, by kernel_rfl⟩ l ts
@[simp] theorem call36 : callable Tryd.prog 36 := ⟨Tryd.f36, Tryd.func36, rfl, by kernel_rfl⟩
@[simp ↓] theorem pcall37 {s : St} {dr : Bool} {d : Option Tmp} {K : St → Prop} (l : List Operand) (ts : Array TypeId) : PStepC Tryd.prog dr d (.call { callee := .value (.func 37), args := l.toArray, argTypes := ts }) K s ↔ okDst s d ∧ CallK Tryd.prog dr 37 (l.map s.ev) s.next s d K := PS_callK ⟨Tryd.f37, Tryd.func37, rfl, by kernel_rfl⟩ l ts
@[simp] theorem call37 : callable Tryd.prog 37 := ⟨Tryd.f37, Tryd.func37, rfl, by kernel_rfl⟩
@[simp ↓] theorem pcall38 {s : St} {dr : Bool} {d : Option Tmp} {K : St → Prop} (l : List Operand) (ts : Array TypeId) : PStepC Tryd.prog dr d (.call { callee := .value (.func 38), args := l.toArray, argTypes := ts }) K s ↔ okDst s d ∧ CallK Tryd.prog dr 38 (l.map s.ev) s.next s d K := PS_callK ⟨Tryd.f38, Tryd.func38, rfl, by kernel_rfl⟩ l ts
@[simp] theorem call38 : callable Tryd.prog 38 := ⟨Tryd.f38, Tryd.func38, rfl, by kernel_rfl⟩
@[simp ↓] theorem pcall39 {s : St} {dr : Bool} {d : Option Tmp} {K : St → Prop} (l : List Operand) (ts : Array TypeId) : PStepC Tryd.prog dr d (.call { callee := .value (.func 39), args := l.toArray, argTypes := ts }) K s ↔ okDst s d ∧ CallK Tryd.prog dr 39 (l.map s.ev) s.next s d K := PS_callK ⟨Tryd.f39, Tryd.func39, rfl, by kernel_rfl⟩ l ts
@[simp] theorem call39 : callable Tryd.prog 39 := ⟨Tryd.f39, Tryd.func39, rfl, by kernel_rfl⟩
@[simp ↓] theorem pcall40 {s : St} {dr : Bool} {d : Option Tmp} {K : St → Prop} (l : List Operand) (ts : Array TypeId) : PStepC Tryd.prog dr d (.call { callee := .value (.func 40), args := l.toArray, argTypes := ts }) K s ↔ okDst s d ∧ CallK Tryd.prog dr 40 (l.map s.ev) s.next s d K := PS_callK ⟨Tryd.f40, Tryd.func40, rfl, by kernel_rfl⟩ l ts
@[simp] theorem call40 : callable Tryd.prog 40 := ⟨Tryd.f40, Tryd.func40, rfl, by kernel_rfl⟩
@[simp ↓] theorem pcall41 {s : St} {dr : Bool} {d : Option Tmp} {K : St → Prop} (l : List Operand) (ts : Array TypeId) : PStepC Tryd.prog dr d (.call { callee := .value (.func 41), args := l.toArray, argTypes := ts }) K s ↔ okDst s d ∧ CallK Tryd.prog dr 41 (l.map s.ev) s.next s d K := PS_callK ⟨Tryd.f41, Tryd.func41, rfl, by kernel_rfl⟩ l ts
@[simp] theorem call41 : callable Tryd.prog 41 := ⟨Tryd.f41, Tryd.func41, rfl, by kernel_rfl⟩
@[simp ↓] theorem pcall42 {s : St} {dr : Bool} {d : Option Tmp} {K : St → Prop} (l : List Operand) (ts : Array TypeId) : PStepC Tryd.prog dr d (.call { callee := .value (.func 42), args := l.toArray, argTypes := ts }) K s ↔ okDst s d ∧ CallK Tryd.prog dr 42 (l.map s.ev) s.next s d K := PS_callK ⟨Tryd.f42, Tryd.func42, rfl, by kernel_rfl⟩ l ts
@[simp] theorem call42 : callable Tryd.prog 42 := ⟨Tryd.f42, Tryd.func42, rfl, by kernel_rfl⟩
@[simp ↓] theorem pcall43 {s : St} {dr : Bool} {d : Option Tmp} {K : St → Prop} (l : List Operand) (ts : Array TypeId) : PStepC Tryd.prog dr d (.call { callee := .value (.func 43), args := l.toArray, argTypes := ts }) K s ↔ okDst s d ∧ CallK Tryd.prog dr 43 (l.map s.ev) s.next s d K := PS_callK ⟨Tryd.f43, Tryd.func43, rfl, by kernel_rfl⟩ l ts
@[simp] theorem call43 : callable Tryd.prog 43 := ⟨Tryd.f43, Tryd.func43, rfl, by kernel_rfl⟩
@[simp ↓] theorem pcall44 {s : St} {dr : Bool} {d : Option Tmp} {K : St → Prop} (l : List Operand) (ts : Array TypeId) : PStepC Tryd.prog dr d (.call { callee := .value (.func 44), args := l.toArray, argTypes := ts }) K s ↔ okDst s d ∧ CallK Tryd.prog dr 44 (l.map s.ev) s.next s d K := PS_callK ⟨Tryd.f44, Tryd.func44, rfl, by kernel_rfl⟩ l ts
@[simp] theorem call44 : callable Tryd.prog 44 := ⟨Tryd.f44, Tryd.func44, rfl, by kernel_rfl⟩
@[simp ↓] theorem pcall45 {s : St} {dr : Bool} {d : Option Tmp} {K : St → Prop} (l : List Operand) (ts : Array TypeId) : PStepC Tryd.prog dr d (.call { callee := .value (.func 45), args := l.toArray, argTypes := ts }) K s ↔ okDst s d ∧ CallK Tryd.prog dr 45 (l.map s.ev) s.next s d K := PS_callK ⟨Tryd.f45, Tryd.func45, rfl, by kernel_rfl⟩ l ts
@[simp] theorem call45 : callable Tryd.prog 45 := ⟨Tryd.f45, Tryd.func45, rfl, by kernel_rfl⟩
@[simp ↓] theorem pcall46 {s : St} {dr : Bool} {d : Option Tmp} {K : St → Prop} (l : List Operand) (ts : Array TypeId) : PStepC Tryd.prog dr d (.call { callee := .value (.func 46), args := l.toArray, argTypes := ts }) K s ↔ okDst s d ∧ CallK Tryd.prog dr 46 (l.map s.ev) s.next s d K := PS_callK ⟨Tryd.f46, Tryd.func46, rfl, by kernel_rfl⟩ l ts
@[simp] theorem call46 : callable Tryd.prog 46 := ⟨Tryd.f46, Tryd.func46, rfl, by kernel_rfl⟩
@[simp ↓] theorem pcall47 {s : St} {dr : Bool} {d : Option Tmp} {K : St → Prop} (l : List Operand) (ts : Array TypeId) : PStepC Tryd.prog dr d (.call { callee := .value (.func 47), args := l.toArray, argTypes := ts }) K s ↔ okDst s d ∧ CallK Tryd.prog dr 47 (l.map s.ev) s.next s d K := PS_callK ⟨Tryd.f47, Tryd.func47, rfl, by kernel_rfl⟩ l ts
@[simp] theorem call47 : callable Tryd.prog 47 := ⟨Tryd.f47, Tryd.func47, rfl, by kernel_rfl⟩
@[simp ↓] theorem pcall48 {s : St} {dr : Bool} {d : Option Tmp} {K : St → Prop} (l : List Operand) (ts : Array TypeId) : PStepC Tryd.prog dr d (.call { callee := .value (.func 48), args := l.toArray, argTypes := ts }) K s ↔ okDst s d ∧ CallK Tryd.prog dr 48 (l.map s.ev) s.next s d K := PS_callK ⟨Tryd.f48, Tryd.func48, rfl, by kernel_rfl⟩ l ts
@[simp] theorem call48 : callable Tryd.prog 48 := ⟨Tryd.f48, Tryd.func48, rfl, by kernel_rfl⟩
@[simp ↓] theorem pcall49 {s : St} {dr : Bool} {d : Option Tmp} {K : St → Prop} (l : List Operand) (ts : Array TypeId) : PStepC Tryd.prog dr d (.call { callee := .value (.func 49), args := l.toArray, argTypes := ts }) K s ↔ okDst s d ∧ CallK Tryd.prog dr 49 (l.map s.ev) s.next s d K := PS_callK ⟨Tryd.f49, Tryd.func49, rfl, by kernel_rfl⟩ l ts
@[simp] theorem call49 : callable Tryd.prog 49 := ⟨Tryd.f49, Tryd.func49, rfl, by kernel_rfl⟩
@[simp ↓] theorem pcall50 {s : St} {dr : Bool} {d : Option Tmp} {K : St → Prop} (l : List Operand) (ts : Array TypeId) : PStepC Tryd.prog dr d (.call { callee := .value (.func 50), args := l.toArray, argTypes := ts }) K s ↔ okDst s d ∧ CallK Tryd.prog dr 50 (l.map s.ev) s.next s d K := PS_callK ⟨Tryd.f50, Tryd.func50, rfl, by kernel_rfl⟩ l ts
@[simp] theorem call50 : callable Tryd.prog 50 := ⟨Tryd.f50, Tryd.func50, rfl, by kernel_rfl⟩
@[simp ↓] theorem pcall51 {s : St} {dr : Bool} {d : Option Tmp} {K : St → Prop} (l : List Operand) (ts : Array TypeId) : PStepC Tryd.prog dr d (.call { callee := .value (.func 51), args := l.toArray, argTypes := ts }) K s ↔ okDst s d ∧ CallK Tryd.prog dr 51 (l.map s.ev) s.next s d K := PS_callK ⟨Tryd.f51, Tryd.func51, rfl, by kernel_rfl⟩ l ts
@[simp] theorem call51 : callable Tryd.prog 51 := ⟨Tryd.f51, Tryd.func51, rfl, by kernel_rfl⟩
@[simp ↓] theorem pcall52 {s : St} {dr : Bool} {d : Option Tmp} {K : St → Prop} (l : List Operand) (ts : Array TypeId) : PStepC Tryd.prog dr d (.call { callee := .value (.func 52), args := l.toArray, argTypes := ts }) K s ↔ okDst s d ∧ CallK Tryd.prog dr 52 (l.map s.ev) s.next s d K := PS_callK ⟨Tryd.f52, Tryd.func52, rfl, by kernel_rfl⟩ l ts
@[simp] theorem call52 : callable Tryd.prog 52 := ⟨Tryd.f52, Tryd.func52, rfl, by kernel_rfl⟩
@[simp ↓] theorem pcall53 {s : St} {dr : Bool} {d : Option Tmp} {K : St → Prop} (l : List Operand) (ts : Array TypeId) : PStepC Tryd.prog dr d (.call { callee := .value (.func 53), args := l.toArray, argTypes := ts }) K s ↔ okDst s d ∧ CallK Tryd.prog dr 53 (l.map s.ev) s.next s d K := PS_callK ⟨Tryd.f53, Tryd.func53, rfl, by kernel_rfl⟩ l ts
@[simp] theorem call53 : callable Tryd.prog 53 := ⟨Tryd.f53, Tryd.func53, rfl, by kernel_rfl⟩
@[simp ↓] theorem pcall54 {s : St} {dr : Bool} {d : Option Tmp} {K : St → Prop} (l : List Operand) (ts : Array TypeId) : PStepC Tryd.prog dr d (.call { callee := .value (.func 54), args := l.toArray, argTypes := ts }) K s ↔ okDst s d ∧ CallK Tryd.prog dr 54 (l.map s.ev) s.next s d K := PS_callK ⟨Tryd.f54, Tryd.func54, rfl, by kernel_rfl⟩ l ts
@[simp] theorem call54 : callable Tryd.prog 54 := ⟨Tryd.f54, Tryd.func54, rfl, by kernel_rfl⟩
@[simp ↓] theorem pcall55 {s : St} {dr : Bool} {d : Option Tmp} {K : St → Prop} (l : List Operand) (ts : Array TypeId) : PStepC Tryd.prog dr d (.call { callee := .value (.func 55), args := l.toArray, argTypes := ts }) K s ↔ okDst s d ∧ CallK Tryd.prog dr 55 (l.map s.ev) s.next s d K := PS_callK ⟨Tryd.f55, Tryd.func55, rfl, by kernel_rfl⟩ l ts
@[simp] theorem call55 : callable Tryd.prog 55 := ⟨Tryd.f55, Tryd.func55, rfl, by kernel_rfl⟩
@[simp ↓] theorem pcall56 {s : St} {dr : Bool} {d : Option Tmp} {K : St → Prop} (l : List Operand) (ts : Array TypeId) : PStepC Tryd.prog dr d (.call { callee := .value (.func 56), args := l.toArray, argTypes := ts }) K s ↔ okDst s d ∧ CallK Tryd.prog dr 56 (l.map s.ev) s.next s d K := PS_callK ⟨Tryd.f56, Tryd.func56, rfl, by kernel_rfl⟩ l ts
@[simp] theorem call56 : callable Tryd.prog 56 := ⟨Tryd.f56, Tryd.func56, rfl, by kernel_rfl⟩
@[simp ↓] theorem pcall57 {s : St} {dr : Bool} {d : Option Tmp} {K : St → Prop} (l : List Operand) (ts : Array TypeId) : PStepC Tryd.prog dr d (.call { callee := .value (.func 57), args := l.toArray, argTypes := ts }) K s ↔ okDst s d ∧ CallK Tryd.prog dr 57 (l.map s.ev) s.next s d K := PS_callK ⟨Tryd.f57, Tryd.func57, rfl, by kernel_rfl⟩ l ts
@[simp] theorem call57 : callable Tryd.prog 57 := ⟨Tryd.f57, Tryd.func57, rfl, by kernel_rfl⟩
@[simp ↓] theorem pcall58 {s : St} {dr : Bool} {d : Option Tmp} {K : St → Prop} (l : List Operand) (ts : Array TypeId) : PStepC Tryd.prog dr d (.call { callee := .value (.func 58), args := l.toArray, argTypes := ts }) K s ↔ okDst s d ∧ CallK Tryd.prog dr 58 (l.map s.ev) s.next s d K := PS_callK ⟨Tryd.f58, Tryd.func58, rfl, by kernel_rfl⟩ l ts
@[simp] theorem call58 : callable Tryd.prog 58 := ⟨Tryd.f58, Tryd.func58, rfl, by kernel_rfl⟩
@[simp ↓] theorem pcall59 {s : St} {dr : Bool} {d : Option Tmp} {K : St → Prop} (l : List Operand) (ts : Array TypeId) : PStepC Tryd.prog dr d (.call { callee := .value (.func 59), args := l.toArray, argTypes := ts }) K s ↔ okDst s d ∧ CallK Tryd.prog dr 59 (l.map s.ev) s.next s d K := PS_callK ⟨Tryd.f59, Tryd.func59, rfl, by kernel_rfl⟩ l ts
@[simp] theorem call59 : callable Tryd.prog 59 := ⟨Tryd.f59, Tryd.func59, rfl, by kernel_rfl⟩
@[simp ↓] theorem pcall60 {s : St} {dr : Bool} {d : Option Tmp} {K : St → Prop} (l : List Operand) (ts : Array TypeId) : PStepC Tryd.prog dr d (.call { callee := .value (.func 60), args := l.toArray, argTypes := ts }) K s ↔ okDst s d ∧ CallK Tryd.prog dr 60 (l.map s.ev) s.next s d K := PS_callK ⟨Tryd.f60, Tryd.func60, rfl, by kernel_rfl⟩ l ts
@[simp] theorem call60 : callable Tryd.prog 60 := ⟨Tryd.f60, Tryd.func60, rfl, by kernel_rfl⟩
@[simp ↓] theorem pcall61 {s : St} {dr : Bool} {d : Option Tmp} {K : St → Prop} (l : List Operand) (ts : Array TypeId) : PStepC Tryd.prog dr d (.call { callee := .value (.func 61), args := l.toArray, argTypes := ts }) K s ↔ okDst s d ∧ CallK Tryd.prog dr 61 (l.map s.ev) s.next s d K := PS_callK ⟨Tryd.f61, Tryd.func61, rfl, by kernel_rfl⟩ l ts
@[simp] theorem call61 : callable Tryd.prog 61 := ⟨Tryd.f61, Tryd.func61, rfl, by kernel_rfl⟩
@[simp ↓] theorem pcall62 {s : St} {dr : Bool} {d : Option Tmp} {K : St → Prop} (l : List Operand) (ts : Array TypeId) : PStepC Tryd.prog dr d (.call { callee := .value (.func 62), args := l.toArray, argTypes := ts }) K s ↔ okDst s d ∧ CallK Tryd.prog dr 62 (l.map s.ev) s.next s d K := PS_callK ⟨Tryd.f62, Tryd.func62, rfl, by kernel_rfl⟩ l ts
@[simp] theorem call62 : callable Tryd.prog 62 := ⟨Tryd.f62, Tryd.func62, rfl, by kernel_rfl⟩
@[simp ↓] theorem pcall63 {s : St} {dr : Bool} {d : Option Tmp} {K : St → Prop} (l : List Operand) (ts : Array TypeId) : PStepC Tryd.prog dr d (.call { callee := .value (.func 63), args := l.toArray, argTypes := ts }) K s ↔ okDst s d ∧ CallK Tryd.prog dr 63 (l.map s.ev) s.next s d K := PS_callK ⟨Tryd.f63, Tryd.func63, rfl, by kernel_rfl⟩ l ts
@[simp] theorem call63 : callable Tryd.prog 63 := ⟨Tryd.f63, Tryd.func63, rfl, by kernel_rfl⟩
@[simp ↓] theorem pcall64 {s : St} {dr : Bool} {d : Option Tmp} {K : St → Prop} (l : List Operand) (ts : Array TypeId) : PStepC Tryd.prog dr d (.call { callee := .value (.func 64), args := l.toArray, argTypes := ts }) K s ↔ okDst s d ∧ CallK Tryd.prog dr 64 (l.map s.ev) s.next s d K := PS_callK ⟨Tryd.f64, Tryd.func64, rfl, by kernel_rfl⟩ l ts
@[simp] theorem call64 : callable Tryd.prog 64 := ⟨Tryd.f64, Tryd.func64, rfl, by kernel_rfl⟩
@[simp ↓] theorem pcall65 {s : St} {dr : Bool} {d : Option Tmp} {K : St → Prop} (l : List Operand) (ts : Array TypeId) : PStepC Tryd.prog dr d (.call { callee := .value (.func 65), args := l.toArray, argTypes := ts }) K s ↔ okDst s d ∧ CallK Tryd.prog dr 65 (l.map s.ev) s.next s d K := PS_callK ⟨Tryd.f65, Tryd.func65, rfl, by kernel_rfl⟩ l ts
@[simp] theorem call65 : callable Tryd.prog 65 := ⟨Tryd.f65, Tryd.func65, rfl, by kernel_rfl⟩
@[simp ↓] theorem pcall66 {s : St} {dr : Bool} {d : Option Tmp} {K : St → Prop} (l : List Operand) (ts : Array TypeId) : PStepC Tryd.prog dr d (.call { callee := .value (.func 66), args := l.toArray, argTypes := ts }) K s ↔ okDst s d ∧ CallK Tryd.prog dr 66 (l.map s.ev) s.next s d K := PS_callK ⟨Tryd.f66, Tryd.func66, rfl, by kernel_rfl⟩ l ts
@[simp] theorem call66 : callable Tryd.prog 66 := ⟨Tryd.f66, Tryd.func66, rfl, by kernel_rfl⟩
@[simp ↓] theorem pcall67 {s : St} {dr : Bool} {d : Option Tmp} {K : St → Prop} (l : List Operand) (ts : Array TypeId) : PStepC Tryd.prog dr d (.call { callee := .value (.func 67), args := l.toArray, argTypes := ts }) K s ↔ okDst s d ∧ CallK Tryd.prog dr 67 (l.map s.ev) s.next s d K := PS_callK ⟨Tryd.f67, Tryd.func67, rfl, by kernel_rfl⟩ l ts
@[simp] theorem call67 : callable Tryd.prog 67 := ⟨Tryd.f67, Tryd.func67, rfl, by kernel_rfl⟩
@[simp ↓] theorem pcall68 {s : St} {dr : Bool} {d : Option Tmp} {K : St → Prop} (l : List Operand) (ts : Array TypeId) : PStepC Tryd.prog dr d (.call { callee := .value (.func 68), args := l.toArray, argTypes := ts }) K s ↔ okDst s d ∧ CallK Tryd.prog dr 68 (l.map s.ev) s.next s d K := PS_callK ⟨Tryd.f68, Tryd.func68, rfl, by kernel_rfl⟩ l ts
@[simp] theorem call68 : callable Tryd.prog 68 := ⟨Tryd.f68, Tryd.func68, rfl, by kernel_rfl⟩
@[simp ↓] theorem pcall69 {s : St} {dr : Bool} {d : Option Tmp} {K : St → Prop} (l : List Operand) (ts : Array TypeId) : PStepC Tryd.prog dr d (.call { callee := .value (.func 69), args := l.toArray, argTypes := ts }) K s ↔ okDst s d ∧ CallK Tryd.prog dr 69 (l.map s.ev) s.next s d K := PS_callK ⟨Tryd.f69, Tryd.func69, rfl, by kernel_rfl⟩ l ts
@[simp] theorem call69 : callable Tryd.prog 69 := ⟨Tryd.f69, Tryd.func69, rfl, by kernel_rfl⟩
@[simp ↓] theorem pcall70 {s : St} {dr : Bool} {d : Option Tmp} {K : St → Prop} (l : List Operand) (ts : Array TypeId) : PStepC Tryd.prog dr d (.call { callee := .value (.func 70), args := l.toArray, argTypes := ts }) K s ↔ okDst s d ∧ CallK Tryd.prog dr 70 (l.map s.ev) s.next s d K := PS_callK ⟨Tryd.f70, Tryd.func70, rfl, by kernel_rfl⟩ l ts
@[simp] theorem call70 : callable Tryd.prog 70 := ⟨Tryd.f70, Tryd.func70, rfl, by kernel_rfl⟩
@[simp ↓] theorem pcall71 {s : St} {dr : Bool} {d : Option Tmp} {K : St → Prop} (l : List Operand) (ts : Array TypeId) : PStepC Tryd.prog dr d (.call { callee := .value (.func 71), args := l.toArray, argTypes := ts }) K s ↔ okDst s d ∧ CallK Tryd.prog dr 71 (l.map s.ev) s.next s d K := PS_callK ⟨Tryd.f71, Tryd.func71, rfl, by kernel_rfl⟩ l ts
@[simp] theorem call71 : callable Tryd.prog 71 := ⟨Tryd.f71, Tryd.func71, rfl, by kernel_rfl⟩
@[simp ↓] theorem pcall72 {s : St} {dr : Bool} {d : Option Tmp} {K : St → Prop} (l : List Operand) (ts : Array TypeId) : PStepC Tryd.prog dr d (.call { callee := .value (.func 72), args := l.toArray, argTypes := ts }) K s ↔ okDst s d ∧ CallK Tryd.prog dr 72 (l.map s.ev) s.next s d K := PS_callK ⟨Tryd.f72, Tryd.func72, rfl, by kernel_rfl⟩ l ts
@[simp] theorem call72 : callable Tryd.prog 72 := ⟨Tryd.f72, Tryd.func72, rfl, by kernel_rfl⟩
@[simp ↓] theorem pcall73 {s : St} {dr : Bool} {d : Option Tmp} {K : St → Prop} (l : List Operand) (ts : Array TypeId) : PStepC Tryd.prog dr d (.call { callee := .value (.func 73), args := l.toArray, argTypes := ts }) K s ↔ okDst s d ∧ CallK Tryd.prog dr 73 (l.map s.ev) s.next s d K := PS_callK ⟨Tryd.f73, Tryd.func73, rfl, by kernel_rfl⟩ l ts
@[simp] theorem call73 : callable Tryd.prog 73 := ⟨Tryd.f73, Tryd.func73, rfl, by kernel_rfl⟩
@[simp ↓] theorem pcall74 {s : St} {dr : Bool} {d : Option Tmp} {K : St → Prop} (l : List Operand) (ts : Array TypeId) : PStepC Tryd.prog dr d (.call { callee := .value (.func 74), args := l.toArray, argTypes := ts }) K s ↔ okDst s d ∧ CallK Tryd.prog dr 74 (l.map s.ev) s.next s d K := PS_callK ⟨Tryd.f74, Tryd.func74, rfl, by kernel_rfl⟩ l ts
@[simp] theorem call74 : callable Tryd.prog 74 := ⟨Tryd.f74, Tryd.func74, rfl, by kernel_rfl⟩
@[simp ↓] theorem pcall75 {s : St} {dr : Bool} {d : Option Tmp} {K : St → Prop} (l : List Operand) (ts : Array TypeId) : PStepC Tryd.prog dr d (.call { callee := .value (.func 75), args := l.toArray, argTypes := ts }) K s ↔ okDst s d ∧ CallK Tryd.prog dr 75 (l.map s.ev) s.next s d K := PS_callK ⟨Tryd.f75, Tryd.func75, rfl, by kernel_rfl⟩ l ts
@[simp] theorem call75 : callable Tryd.prog 75 := ⟨Tryd.f75, Tryd.func75, rfl, by kernel_rfl⟩
@[simp ↓] theorem pcall76 {s : St} {dr : Bool} {d : Option Tmp} {K : St → Prop} (l : List Operand) (ts : Array TypeId) : PStepC Tryd.prog dr d (.call { callee := .value (.func 76), args := l.toArray, argTypes := ts }) K s ↔ okDst s d ∧ CallK Tryd.prog dr 76 (l.map s.ev) s.next s d K := PS_callK ⟨Tryd.f76, Tryd.func76, rfl, by kernel_rfl⟩ l ts
@[simp] theorem call76 : callable Tryd.prog 76 := ⟨Tryd.f76, Tryd.func76, rfl, by kernel_rfl⟩
@[simp ↓] theorem pcall77 {s : St} {dr : Bool} {d : Option Tmp} {K : St → Prop} (l : List Operand) (ts : Array TypeId) : PStepC Tryd.prog dr d (.call { callee := .value (.func 77), args := l.toArray, argTypes := ts }) K s ↔ okDst s d ∧ CallK Tryd.prog dr 77 (l.map s.ev) s.next s d K := PS_callK ⟨Tryd.f77, Tryd.func77, rfl, by kernel_rfl⟩ l ts
@[simp] theorem call77 : callable Tryd.prog 77 := ⟨Tryd.f77, Tryd.func77, rfl, by kernel_rfl⟩
@[simp ↓] theorem pcall78 {s : St} {dr : Bool} {d : Option Tmp} {K : St → Prop} (l : List Operand) (ts : Array TypeId) : PStepC Tryd.prog dr d (.call { callee := .value (.func 78), args := l.toArray, argTypes := ts }) K s ↔ okDst s d ∧ CallK Tryd.prog dr 78 (l.map s.ev) s.next s d K := PS_callK ⟨Tryd.f78, Tryd.func78, rfl, by kernel_rfl⟩ l ts
@[simp] theorem call78 : callable Tryd.prog 78 := ⟨Tryd.f78, Tryd.func78, rfl, by kernel_rfl⟩
@[simp ↓] theorem pcall79 {s : St} {dr : Bool} {d : Option Tmp} {K : St → Prop} (l : List Operand) (ts : Array TypeId) : PStepC Tryd.prog dr d (.call { callee := .value (.func 79), args := l.toArray, argTypes := ts }) K s ↔ okDst s d ∧ CallK Tryd.prog dr 79 (l.map s.ev) s.next s d K := PS_callK ⟨Tryd.f79, Tryd.func79, rfl, by kernel_rfl⟩ l ts
@[simp] theorem call79 : callable Tryd.prog 79 := ⟨Tryd.f79, Tryd.func79, rfl, by kernel_rfl⟩
@[simp ↓] theorem pcall80 {s : St} {dr : Bool} {d : Option Tmp} {K : St → Prop} (l : List Operand) (ts : Array TypeId) : PStepC Tryd.prog dr d (.call { callee := .value (.func 80), args := l.toArray, argTypes := ts }) K s ↔ okDst s d ∧ CallK Tryd.prog dr 80 (l.map s.ev) s.next s d K := PS_callK ⟨Tryd.f80, Tryd.func80, rfl, by kernel_rfl⟩ l ts
@[simp] theorem call80 : callable Tryd.prog 80 := ⟨Tryd.f80, Tryd.func80, rfl, by kernel_rfl⟩
@[simp ↓] theorem pcall81 {s : St} {dr : Bool} {d : Option Tmp} {K : St → Prop} (l : List Operand) (ts : Array TypeId) : PStepC Tryd.prog dr d (.call { callee := .value (.func 81), args := l.toArray, argTypes := ts }) K s ↔ okDst s d ∧ CallK Tryd.prog dr 81 (l.map s.ev) s.next s d K := PS_callK ⟨Tryd.f81, Tryd.func81, rfl, by kernel_rfl⟩ l ts
@[simp] theorem call81 : callable Tryd.prog 81 := ⟨Tryd.f81, Tryd.func81, rfl, by kernel_rfl⟩
@[simp ↓] theorem pcall82 {s : St} {dr : Bool} {d : Option Tmp} {K : St → Prop} (l : List Operand) (ts : Array TypeId) : PStepC Tryd.prog dr d (.call { callee := .value (.func 82), args := l.toArray, argTypes := ts }) K s ↔ okDst s d ∧ CallK Tryd.prog dr 82 (l.map s.ev) s.next s d K := PS_callK ⟨Tryd.f82, Tryd.func82, rfl, by kernel_rfl⟩ l ts
@[simp] theorem call82 : callable Tryd.prog 82 := ⟨Tryd.f82, Tryd.func82, rfl, by kernel_rfl⟩
@[simp ↓] theorem pcall83 {s : St} {dr : Bool} {d : Option Tmp} {K : St → Prop} (l : List Operand) (ts : Array TypeId) : PStepC Tryd.prog dr d (.call { callee := .value (.func 83), args := l.toArray, argTypes := ts }) K s ↔ okDst s d ∧ CallK Tryd.prog dr 83 (l.map s.ev) s.next s d K := PS_callK ⟨Tryd.f83, Tryd.func83, rfl, by kernel_rfl⟩ l ts
@[simp] theorem call83 : callable Tryd.prog 83 := ⟨Tryd.f83, Tryd.func83, rfl, by kernel_rfl⟩
@[simp ↓] theorem pcall84 {s : St} {dr : Bool} {d : Option Tmp} {K : St → Prop} (l : List Operand) (ts : Array TypeId) : PStepC Tryd.prog dr d (.call { callee := .value (.func 84), args := l.toArray, argTypes := ts }) K s ↔ okDst s d ∧ CallK Tryd.prog dr 84 (l.map s.ev) s.next s d K := PS_callK ⟨Tryd.f84, Tryd.func84, rfl, by kernel_rfl⟩ l ts
@[simp] theorem call84 : callable Tryd.prog 84 := ⟨Tryd.f84, Tryd.func84, rfl, by kernel_rfl⟩
end Go.Proofs.YtdaoblhmnafllaaDoor
