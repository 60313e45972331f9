/- The by-value logic, part O: loops that count down; for every program. -/
import Derived.Test.YtphndngifjgeoaaGreatDoorBvN
set_option linter.unusedVariables false
set_option linter.unusedSimpArgs false
namespace Go.Proofs.YtphndngifjgeoaaGreatDoor

section
variable {P : Program} {s : St}
/-- A loop that has a number of rounds left. -/
theorem GO_loopN {c : CC} {Q : PExit → St → Prop} (I : Nat → St → Prop) (k : Nat) (h0 : I k s) (hround : ∀ k s, I k s → GO P c (PExit.then (fun s' => ∃ k', k' < k ∧ I k' s') Q) s) : GO P (.loop c) Q s := by
  suffices h : ∀ k s, I k s → ∃ n, PIter (GO P c) Q n s from h k s h0
  have mono : ∀ (n m : Nat) (s : St), n ≤ m → PIter (GO P c) Q n s → PIter (GO P c) Q m s := by
    intro n
    induction n with
    | zero => intro m s _ h; exact h.elim
    | succ n ih =>
      intro m s hm h
      cases m with
      | zero => omega
      | succ m =>
        refine GO.mono c (fun e s' he => ?_) h
        cases e <;> first | exact ih m s' (by omega) he | exact he
  have key : ∀ k s, I k s → PIter (GO P c) Q (k + 1) s := by
    intro k
    induction k using Nat.strongRecOn with
    | _ k ih =>
      intro s hs
      refine GO.mono c (fun e s' he => ?_) (hround k s hs)
      cases e with
      | normal => obtain ⟨k', hk, hi⟩ := he; exact mono _ _ s' (by omega) (ih k' hk s' hi)
      | exit id => exact he
      | ret => exact he
  exact fun k s h => ⟨k + 1, key k s h⟩
end

def PV.closed1 : PV → Bool
  | .bool _ | .int _ _ | .float _ _ | .sl _ _ _ | .elt _ _ _ _ _ | .map _ => true
  | _ => false
@[simp] theorem closed1_map (I : MInv) : (PV.map I).closed1 = true := rfl
@[simp] theorem closed_map (I : MInv) : (PV.map I).closed = true := rfl
@[simp] theorem isCell_map (I : MInv) : (PV.map I).isCell = true := rfl
@[simp] theorem sized_map (I : MInv) : (PV.map I).sized = true := rfl
@[simp] theorem cells_map (I : MInv) : (PV.map I).cells = [.map I] := rfl
@[simp] theorem closed1_bool (b : Bool) : (PV.bool b).closed1 = true := rfl
@[simp] theorem closed1_int (k : IntKind) (n : Int) : (PV.int k n).closed1 = true := rfl
@[simp] theorem closed1_float (k : FloatKind) (n : Nat) : (PV.float k n).closed1 = true := rfl
@[simp] theorem closed1_sl (i : Sid) (z : Nat) (es : List PV) : (PV.sl i z es).closed1 = true := rfl
@[simp] theorem closed_agg (cs : List PV) : (PV.agg cs).closed = cs.all PV.closed1 := by
  unfold PV.closed; congr 1

/-! ### calls -/
/-- A call's step: what is called, with what, and how it goes on. -/
def CallK (P : Program) (dr : Bool) (g : FuncId) (args : List PV) (n : Nat) (s : St) (d : Option Tmp) (K : St → Prop) : Prop :=
  args.all PV.closed = true ∧ PCall P g args n (fun v n' D => (dr = true → D = []) ∧ (∀ f, f ∈ D → f < s.next ∧ f ≠ 0) ∧ K ((s.after n' D).put d v))
theorem PS_callK {P : Program} {s : St} {dr : Bool} {d : Option Tmp} {K : St → Prop} {g : FuncId} (hc : callable P g) (l : List Operand) (ts : Array TypeId) :
    PStepC P dr d (.call { callee := .value (.func g), args := l.toArray, argTypes := ts }) K s ↔ okDst s d ∧ CallK P dr g (l.map s.ev) s.next s d K := by
  rw [PS_call hc]; simp only [CallK, List.all_map]; rfl
theorem CallK.of {P : Program} {dr : Bool} {g : FuncId} {args : List PV} {n : Nat} {s : St} {d : Option Tmp} {K : St → Prop} (hc : args.all PV.closed = true)
    (h : PCall P g args n (fun v n' D => (dr = true → D = []) ∧ (∀ f, f ∈ D → f < s.next ∧ f ≠ 0) ∧ K ((s.after n' D).put d v))) : CallK P dr g args n s d K := ⟨hc, h⟩

/-! ### new slices -/
/-- append's step, the sizes known. -/
def AppK (m by_ : Nat) (x y : PV) (s : St) (K : St → PV → Prop) : Prop :=
  match x, y with
  | .sl i z es, .sl _ z2 es2 => (es.length + es2.length) * by_ ≤ 140737488355328 ∧ (z2 = m ∨ es2 = []) ∧
      (if i.g = 0 then es = [] ∧ es2 ≠ [] ∧ K (s.fresh (es2.length * m)) (.sl ⟨s.next, s.next, 0⟩ m es2)
       else z = m ∧ tipOf s.tips i.g i.f = some (i.off + es.length * m) ∧ K (s.regrown i.g i.f ((es.length + es2.length) * m)) (.sl ⟨i.f, s.next, 0⟩ m (es ++ es2)))
  | _, _ => False
@[congr] theorem AppK_congr {m by_ : Nat} {x y : PV} {x' y' : Unit → PV} {s : St} {K : St → PV → Prop} (h : ∀ u, x = x' u) (h2 : ∀ u, y = y' u) : AppK m by_ x y s K = AppK m by_ (x' ()) (y' ()) s K := by rw [← h, ← h2]
theorem AppK_old {m by_ : Nat} {i i2 : Sid} {es es2 : List PV} {s : St} {K : St → PV → Prop} (hg : ¬ i.g = 0) (hl : (es.length + es2.length) * by_ ≤ 140737488355328) (ht : tipOf s.tips i.g i.f = some (i.off + es.length * m)) :
    AppK m by_ (.sl i m es) (.sl i2 m es2) s K ↔ K (s.regrown i.g i.f ((es.length + es2.length) * m)) (.sl ⟨i.f, s.next, 0⟩ m (es ++ es2)) := by
  simp [AppK, hg, hl, ht]
theorem PS_appendK {P : Program} {s : St} {dr : Bool} {d : Option Tmp} {K : St → Prop} {t e : TypeId} {m by_ : Nat} {z : PV} (ht : tslice P t = some e) (hm : tsize P e = some m) (hb : tbytes P e = some by_) (hz : tzero P e = some z)
    (hd : 0 < m ∧ 0 < by_ ∧ z.sized = true ∧ z.cells.length = m) (x y : Operand) :
    PStepC P dr d (.call { callee := .builtin .append, args := #[x, y], argTypes := #[t, t] }) K s ↔ okDst s d ∧ AppK m by_ (s.ev x) (s.ev y) s (fun s' v => K (s'.put d v)) := by
  rw [PS_append]
  refine and_congr Iff.rfl ?_
  unfold appendP AppK
  cases s.ev x <;> cases s.ev y <;> simp_all
/-- make's step, the sizes known. -/
def MakeK (m by_ : Nat) (z x y : PV) (s : St) (K : St → PV → Prop) : Prop :=
  match x, y with
  | .int _ len, .int _ cap => 0 ≤ len ∧ len ≤ cap ∧ by_ * cap ≤ 281474976710656 ∧ K (s.fresh (len.toNat * m)) (.sl ⟨s.next, s.next, 0⟩ m (List.replicate len.toNat z))
  | _, _ => False
@[congr] theorem MakeK_congr {m by_ : Nat} {z x y : PV} {x' y' : Unit → PV} {s : St} {K : St → PV → Prop} (h : ∀ u, x = x' u) (h2 : ∀ u, y = y' u) : MakeK m by_ z x y s K = MakeK m by_ z (x' ()) (y' ()) s K := by rw [← h, ← h2]
@[simp ↓] theorem MakeK_int {m by_ : Nat} {z : PV} {k k' : IntKind} {len cap : Int} {s : St} {K : St → PV → Prop} : MakeK m by_ z (.int k len) (.int k' cap) s K ↔ 0 ≤ len ∧ len ≤ cap ∧ by_ * cap ≤ 281474976710656 ∧ K (s.fresh (len.toNat * m)) (.sl ⟨s.next, s.next, 0⟩ m (List.replicate len.toNat z)) := Iff.rfl
theorem PS_makeK {P : Program} {s : St} {dr : Bool} {d : Option Tmp} {K : St → Prop} {t e : TypeId} {m by_ : Nat} {z : PV} (ht : tslice P t = some e) (hm : tsize P e = some m) (hb : tbytes P e = some by_) (hz : tzero P e = some z)
    (hd : 0 < m ∧ 0 < by_ ∧ z.sized = true ∧ z.closed = true ∧ z.cells.all PV.isCell = true ∧ z.cells.length = m) (x y : Operand) :
    PStepC P dr d (.makeSlice t x y) K s ↔ okDst s d ∧ MakeK m by_ z (s.ev x) (s.ev y) s (fun s' v => K (s'.put d v)) := by
  simp only [PStepC, PStep, okDst]
  refine and_congr Iff.rfl ?_
  obtain ⟨h1, h2, h3, h4, h5, h6⟩ := hd
  unfold MakeK
  constructor
  · rintro ⟨e', m', b', z', k, k', len, cap, a1, a2, a3, a4, a5, a6, a7, a8, a9, a10, a11, a12, a13, a14, a15, kk⟩
    rw [ht] at a1; cases a1
    rw [hm] at a2; cases a2
    rw [hb] at a3; cases a3
    rw [hz] at a4; cases a4
    rw [a5, a6]
    exact ⟨a7, a8, a10, kk⟩
  · intro h
    split at h
    · rename_i k len k' cap hx hy
      obtain ⟨b1, b2, b3, b4⟩ := h
      refine ⟨e, m, by_, z, k, k', len, cap, ht, hm, hb, hz, hx, hy, b1, b2, ?_, b3, h3, h4, h5, h6, h1, b4⟩
      have : (1 : Int) * cap ≤ by_ * cap := Int.mul_le_mul_of_nonneg_right (by omega) (by omega)
      omega
    · exact h.elim
theorem PS_buildK {P : Program} {s : St} {dr : Bool} {d : Option Tmp} {K : St → Prop} {t e : TypeId} {m : Nat} {z : PV} (ht : tslice P t = some e) (hm : tsize P e = some m) (hz : tzero P e = some z) (hd : 0 < m ∧ z.sized = true ∧ z.cells.length = m) (n : Nat) (l : List (Nat × Operand)) :
    PStepC P dr d (.buildSlice t n l.toArray) K s ↔ okDst s d ∧ n * m ≤ 16777216 ∧ l.map (·.1) = List.range n ∧ ((l.map fun x => s.ev x.2).all fun v => v.sized && v.closed && v.cells.all PV.isCell && v.cells.length == m) = true ∧ K ((s.fresh (n * m)).put d (.sl ⟨s.next, s.next, 0⟩ m (l.map fun x => s.ev x.2))) := by
  simp only [PStepC, PStep, okDst]
  refine and_congr Iff.rfl ?_
  obtain ⟨h1, h2, h3⟩ := hd
  constructor
  · rintro ⟨e', m', a1, a2, a3, a4, a5, a6, a7, kk⟩
    rw [ht] at a1; cases a1
    rw [hm] at a2; cases a2
    exact ⟨a3, a4, by rw [List.all_map]; exact a5, kk⟩
  · rintro ⟨a3, a4, a5, kk⟩
    exact ⟨e, m, ht, hm, a3, a4, by rw [List.all_map] at a5; exact a5, .inr ⟨z, hz, h2, h3⟩, h1, kk⟩
@[simp] theorem range_two : List.range 2 = [0, 1] := rfl
@[simp] theorem range_lit3 : List.range 3 = [0, 1, 2] := rfl
@[simp] theorem range_lit4 : List.range 4 = [0, 1, 2, 3] := rfl
@[simp] theorem range_lit5 : List.range 5 = [0, 1, 2, 3, 4] := rfl
@[simp] theorem range_lit6 : List.range 6 = [0, 1, 2, 3, 4, 5] := rfl
@[simp] theorem range_lit7 : List.range 7 = [0, 1, 2, 3, 4, 5, 6] := rfl
@[simp] theorem range_lit8 : List.range 8 = [0, 1, 2, 3, 4, 5, 6, 7] := rfl
@[simp] theorem range_lit9 : List.range 9 = [0, 1, 2, 3, 4, 5, 6, 7, 8] := rfl
@[simp] theorem tipOf_tail (g f T g' f' : Nat) (l : List (Nat × Nat × Nat)) (h : ¬ g' = g) : tipOf ((g', f', T) :: l) g f = tipOf l g f := by
  have : (g' == g) = false := by simpa using h
  simp [tipOf, this]
@[simp] theorem tipOf_head (g f T : Nat) (l : List (Nat × Nat × Nat)) : tipOf ((g, f, T) :: l) g f = some T := by simp [tipOf]

@[simp] theorem u32s_snoc (l : List Nat) (x : Nat) : u32s l ++ [PV.int .u32 (x : Int)] = u32s (l ++ [x]) := by simp [u32s]
@[simp] theorem u32s_app (l m : List Nat) : u32s l ++ u32s m = u32s (l ++ m) := by simp [u32s]
@[simp ↓] theorem AppK_u32 {f g off : Nat} {i2 : Sid} {l : List Nat} {x : Nat} {s : St} {K : St → PV → Prop} (hg : ¬ g = 0) :
    AppK 1 4 (.sl ⟨f, g, off⟩ 1 (u32s l)) (.sl i2 1 [.int .u32 (x : Int)]) s K ↔ (l.length + 1) * 4 ≤ 140737488355328 ∧ tipOf s.tips g f = some (off + l.length) ∧ K (s.regrown g f (l.length + 1)) (.sl ⟨f, s.next, 0⟩ 1 (u32s (l ++ [x]))) := by
  simp [AppK, hg]
@[simp ↓] theorem AppK_u32s {f g off : Nat} {i2 : Sid} {l m : List Nat} {s : St} {K : St → PV → Prop} (hg : ¬ g = 0) :
    AppK 1 4 (.sl ⟨f, g, off⟩ 1 (u32s l)) (.sl i2 1 (u32s m)) s K ↔ (l.length + m.length) * 4 ≤ 140737488355328 ∧ tipOf s.tips g f = some (off + l.length) ∧ K (s.regrown g f (l.length + m.length)) (.sl ⟨f, s.next, 0⟩ 1 (u32s (l ++ m))) := by
  simp [AppK, hg]
@[simp ↓] theorem AppK_u32n {f g off : Nat} {i2 : Sid} {m : List Nat} {s : St} {K : St → PV → Prop} (hg : ¬ g = 0) :
    AppK 1 4 (.sl ⟨f, g, off⟩ 1 []) (.sl i2 1 (u32s m)) s K ↔ m.length * 4 ≤ 140737488355328 ∧ tipOf s.tips g f = some off ∧ K (s.regrown g f m.length) (.sl ⟨f, s.next, 0⟩ 1 (u32s m)) := by
  simp [AppK, hg]

/-! ### stores -/
def StoreK (P : Program) (t : TypeId) (x y : PV) (s : St) (K : St → Prop) : Prop := storeP P s t x y K
@[congr] theorem StoreK_congr {P : Program} {t : TypeId} {x y : PV} {x' y' : Unit → PV} {s : St} {K : St → Prop} (h : ∀ u, x = x' u) (h2 : ∀ u, y = y' u) : StoreK P t x y s K = StoreK P t (x' ()) (y' ()) s K := by rw [← h, ← h2]
@[simp ↓] theorem PS_store {P : Program} {s : St} {dr : Bool} {d : Option Tmp} {K : St → Prop} (t : TypeId) (x y : Operand) : PStepC P dr d (.store t x y) K s ↔ okDst s d ∧ StoreK P t (s.ev x) (s.ev y) s (fun s' => K (s'.put d (.tup []))) := Iff.rfl
@[simp ↓] theorem StoreK_box {P : Program} {t : TypeId} {k off : Nat} {y : PV} {s : St} {K : St → Prop} : StoreK P t (.box k off) y s K ↔ y.sized = true ∧ y.cells.all PV.isCell = true ∧ tsize P t = some y.cells.length ∧ rz (s.boxes[k]?) (fun cs => off + y.cells.length ≤ cs.length ∧ K (s.setBox k (putCells cs off y.cells))) := Iff.rfl
@[simp ↓] theorem StoreK_elt {P : Program} {t : TypeId} {i : Sid} {z j c : Nat} {es : List PV} {y : PV} {s : St} {K : St → Prop} : StoreK P t (.elt i z es j c) y s K ↔ y.sized = true ∧ y.cells.all PV.isCell = true ∧ tsize P t = some y.cells.length ∧ i.f ≠ 0 ∧ y.closed = true ∧ c + y.cells.length ≤ z ∧ 0 < y.cells.length ∧ j < es.length ∧ K (s.upd i z j c (PV.poisonL [i.f] y.cells)) := Iff.rfl
attribute [simp] putCells
section upd
variable (s : St) (i i' : Sid) (z j c : Nat) (vs : List PV)
@[simp] theorem upd_nt : (s.upd i z j c vs).nt = s.nt := nrfl rfl
@[simp] theorem upd_slots (t : Nat) : (s.upd i z j c vs).slots t = (s.slots t).upd i z j c vs := nrfl rfl
@[simp] theorem upd_boxes : (s.upd i z j c vs).boxes = s.boxes.map (PV.updL i z j c vs) := nrfl rfl
@[simp] theorem upd_next : (s.upd i z j c vs).next = s.next := nrfl rfl
@[simp] theorem upd_tips : (s.upd i z j c vs).tips = s.tips := nrfl rfl
@[simp] theorem upd_n0 : (s.upd i z j c vs).n0 = s.n0 := nrfl rfl
@[simp] theorem upd_D : (s.upd i z j c vs).D = if i.f < s.n0 then s.D.insert i.f else s.D := nrfl rfl
@[simp] theorem pvupd_int (k : IntKind) (x : Int) : PV.upd i z j c vs (.int k x) = .int k x := by simp [PV.upd, PV.poison]
@[simp] theorem pvupd_bool (b : Bool) : PV.upd i z j c vs (.bool b) = .bool b := by simp [PV.upd, PV.poison]
@[simp] theorem pvupd_box (k o : Nat) : PV.upd i z j c vs (.box k o) = .box k o := by simp [PV.upd, PV.poison]
@[simp] theorem pvupd_agg (cs : List PV) : PV.upd i z j c vs (.agg cs) = .agg (PV.updL i z j c vs cs) := by simp [PV.upd]
@[simp] theorem pvupd_tup (cs : List PV) : PV.upd i z j c vs (.tup cs) = .tup (PV.updL i z j c vs cs) := by simp [PV.upd]
@[simp] theorem pvupdL_nil : PV.updL i z j c vs [] = [] := by simp [PV.updL]
@[simp] theorem pvupdL_cons (p : PV) (ps : List PV) : PV.updL i z j c vs (p :: ps) = PV.upd i z j c vs p :: PV.updL i z j c vs ps := by simp [PV.updL]
@[simp] theorem poisonL_u32s (F : List Nat) (l : List Nat) : PV.poisonL F (u32s l) = u32s l := by
  induction l with
  | nil => simp [u32s, PV.poisonL]
  | cons x t ih => simp only [u32s, List.map_cons, PV.poisonL, PV.poison] at ih ⊢; rw [ih]
@[simp] theorem poisonL_int (F : List Nat) (k : IntKind) (x : Int) : PV.poisonL F [.int k x] = [.int k x] := by simp [PV.poisonL, PV.poison]
@[simp] theorem pvupd_same (l : List Nat) (x : Nat) : PV.upd i 1 j 0 [.int .u32 (x : Int)] (.sl i 1 (u32s l)) = .sl i 1 (u32s (l.set j x)) := by
  simp only [PV.upd, and_self, if_true, poisonL_u32s, PV.sl.injEq, true_and]
  induction l generalizing j with
  | nil => simp [u32s]
  | cons y t ih =>
    cases j with
    | zero => simp [u32s, PV.withCells]
    | succ j => have := ih j; simp only [u32s] at this; simp [u32s, this]
@[simp] theorem pvupd_other (z' : Nat) (l : List Nat) (h : ¬ i'.f = i.f) : PV.upd i z j c vs (.sl i' z' (u32s l)) = .sl i' z' (u32s l) := by
  have : ¬ (i' = i ∧ z' = z) := fun e => h (by rw [e.1])
  simp [PV.upd, this, PV.poison, h]
@[simp] theorem pvupd_nil (z' : Nat) (h : ¬ i'.f = i.f) : PV.upd i z j c vs (.sl i' z' []) = .sl i' z' [] := pvupd_other i i' z j c vs z' [] h
/-- A store to a nil slice's family cannot be, and a nil slice stays. -/
@[simp] theorem poison_int (F : List Nat) (k : IntKind) (x : Int) : (PV.int k x).poison F = .int k x := by simp [PV.poison]
@[simp] theorem poison_bool (F : List Nat) (b : Bool) : (PV.bool b).poison F = .bool b := by simp [PV.poison]
@[simp] theorem poison_box (F : List Nat) (k o : Nat) : (PV.box k o).poison F = .box k o := by simp [PV.poison]
@[simp] theorem poison_agg_s (F : List Nat) (cs : List PV) : (PV.agg cs).poison F = .agg (PV.poisonL F cs) := by simp [PV.poison]
@[simp] theorem poison_tup (F : List Nat) (cs : List PV) : (PV.tup cs).poison F = .tup (PV.poisonL F cs) := by simp [PV.poison]
@[simp] theorem poisonL_nil' (F : List Nat) : PV.poisonL F [] = [] := by simp [PV.poisonL]
@[simp] theorem poisonL_cons' (F : List Nat) (p : PV) (ps : List PV) : PV.poisonL F (p :: ps) = p.poison F :: PV.poisonL F ps := by simp [PV.poisonL]
@[simp] theorem poison_sl (F : List Nat) (z' : Nat) (l : List Nat) (h : ¬ i.f ∈ F) : (PV.sl i z' (u32s l)).poison F = .sl i z' (u32s l) := by simp [PV.poison, h]
@[simp] theorem after_nt_s (n : Nat) (D : List Nat) : (s.after n D).nt = s.nt := by cases D <;> rfl
@[simp] theorem after_next_s (n : Nat) (D : List Nat) : (s.after n D).next = n := by cases D <;> rfl
@[simp] theorem after_tips_s (n : Nat) (D : List Nat) : (s.after n D).tips = s.tips := by cases D <;> rfl
@[simp] theorem after_n0_s (n : Nat) (D : List Nat) : (s.after n D).n0 = s.n0 := by cases D <;> rfl
@[simp] theorem after_cons_slots (n f : Nat) (D : List Nat) (t : Nat) : (s.after n (f :: D)).slots t = (s.slots t).poison (f :: D) := nrfl rfl
@[simp] theorem after_cons_boxes (n f : Nat) (D : List Nat) : (s.after n (f :: D)).boxes = s.boxes.map (PV.poisonL (f :: D)) := nrfl rfl
@[simp] theorem after_cons_D (n f : Nat) (D : List Nat) : (s.after n (f :: D)).D = s.D ++ f :: D := nrfl rfl
end upd

/-! ### numbers -/
@[simp] theorem cast_beq (a b : Nat) : ((a : Int) == (b : Int)) = decide (a = b) := by
  rw [Bool.eq_iff_iff]; simp; omega
@[simp] theorem cast_bne (a b : Nat) : ((a : Int) != (b : Int)) = !decide (a = b) := by
  rw [Bool.eq_iff_iff]; simp; omega
@[simp] theorem lit_lt_cast (n m : Nat) : (no_index (OfNat.ofNat n) : Int) < (m : Int) ↔ (no_index (OfNat.ofNat n) : Nat) < m := Int.ofNat_lt
@[simp] theorem cast_lt_lit (n m : Nat) : (m : Int) < (no_index (OfNat.ofNat n) : Int) ↔ m < (no_index (OfNat.ofNat n) : Nat) := Int.ofNat_lt
@[simp] theorem lit_le_cast (n m : Nat) : (no_index (OfNat.ofNat n) : Int) ≤ (m : Int) ↔ (no_index (OfNat.ofNat n) : Nat) ≤ m := Int.ofNat_le
@[simp] theorem cast_le_lit (n m : Nat) : (m : Int) ≤ (no_index (OfNat.ofNat n) : Int) ↔ m ≤ (no_index (OfNat.ofNat n) : Nat) := Int.ofNat_le
@[simp] theorem cast_beq_lit (n m : Nat) : ((m : Int) == (no_index (OfNat.ofNat n) : Int)) = decide (m = (no_index (OfNat.ofNat n) : Nat)) := cast_beq _ _
@[simp] theorem cast_bne_lit (n m : Nat) : ((m : Int) != (no_index (OfNat.ofNat n) : Int)) = !decide (m = (no_index (OfNat.ofNat n) : Nat)) := cast_bne _ _
@[simp] theorem wrap_i64_nat (k : Nat) (h : k < 9223372036854775808) : IntKind.i64.wrap (k : Int) = k := by
  simp [IntKind.wrap, IntKind.bits, IntKind.signed]; omega
@[simp] theorem wrap_i64_succ (k : Nat) (h : k + 1 < 9223372036854775808) : IntKind.i64.wrap ((k : Int) + 1) = ((k + 1 : Nat) : Int) := wrap_i64_nat (k + 1) h
@[simp] theorem wrap_i64_pred (k : Nat) (h : 0 < k) (h' : k < 9223372036854775808) : IntKind.i64.wrap ((k : Int) - 1) = ((k - 1 : Nat) : Int) := by
  rw [← wrap_i64_nat (k - 1) (by omega)]; congr 1; omega
theorem wrap_i64_id (x : Int) (h : -9223372036854775808 ≤ x) (h' : x < 9223372036854775808) : IntKind.i64.wrap x = x := by
  simp [IntKind.wrap, IntKind.bits, IntKind.signed]; omega
@[simp] theorem wrap_u32_nat (k : Nat) (h : k < 4294967296) : IntKind.u32.wrap (k : Int) = k := by
  simp [IntKind.wrap, IntKind.bits, IntKind.signed]; omega
theorem wrap_u32_mod (k : Nat) : IntKind.u32.wrap (k : Int) = ((k % 4294967296 : Nat) : Int) := by
  simp [IntKind.wrap, IntKind.bits, IntKind.signed]
@[simp] theorem wrap_u64_nat (k : Nat) (h : k < 18446744073709551616) : IntKind.u64.wrap (k : Int) = k := by
  simp [IntKind.wrap, IntKind.bits, IntKind.signed]; omega
theorem wrap_u64_mod (k : Nat) : IntKind.u64.wrap (k : Int) = ((k % 18446744073709551616 : Nat) : Int) := by
  simp [IntKind.wrap, IntKind.bits, IntKind.signed]

@[simp] theorem get_zero {α : Type} (a : α) (l : List α) : (a :: l)[0]? = some a := nrfl rfl
@[simp] theorem get_succ {α : Type} (a : α) (l : List α) (n : Nat) : (a :: l)[n + 1]? = l[n]? := nrfl rfl
@[simp] theorem get_in (l : List Nat) (i : Nat) (h : i < l.length) : l[i]? = some (l.getD i 0) := by simp [List.getD, h]
@[simp] theorem i64_idx (n : Nat) : Int.toNat (n : Int) = n := by simp

@[simp low] theorem wrap_i64_at (x : Int) (h : -9223372036854775808 ≤ x ∧ x < 9223372036854775808) : IntKind.i64.wrap x = x := wrap_i64_id x h.1 h.2
@[simp low] theorem wrap_u32_at (x : Int) (h : 0 ≤ x ∧ x < 4294967296) : IntKind.u32.wrap x = x := by
  simp [IntKind.wrap, IntKind.bits, IntKind.signed]; omega
@[simp low] theorem wrap_u64_at (x : Int) (h : 0 ≤ x ∧ x < 18446744073709551616) : IntKind.u64.wrap x = x := by
  simp [IntKind.wrap, IntKind.bits, IntKind.signed]; omega
theorem wrap_u32_eq (x : Int) : IntKind.u32.wrap x = x % 4294967296 := by
  simp [IntKind.wrap, IntKind.bits, IntKind.signed]
theorem wrap_u64_eq (x : Int) : IntKind.u64.wrap x = x % 18446744073709551616 := by
  simp [IntKind.wrap, IntKind.bits, IntKind.signed]
@[simp] theorem fdiv_lit (x : Int) (n : Nat) : Int.fdiv x (no_index (OfNat.ofNat n) : Int) = x / (no_index (OfNat.ofNat n) : Int) := Int.fdiv_eq_ediv_of_nonneg _ (Int.natCast_nonneg _)
@[simp] theorem bits_u32 : IntKind.u32.bits = 32 := rfl
@[simp] theorem bits_u64 : IntKind.u64.bits = 64 := rfl
@[simp] theorem bits_i64 : IntKind.i64.bits = 64 := rfl

@[simp] theorem sliceP_zero (z : Nat) (i : Sid) (es : List PV) (hi : Nat) (h : hi ≤ es.length) : sliceP z i es 0 (hi : Int) = some (.sl i z (es.take hi)) := by
  simp [sliceP, h]
@[simp] theorem sliceP_nat (z : Nat) (i : Sid) (es : List PV) (lo hi : Nat) (h : lo ≤ hi ∧ hi ≤ es.length) : sliceP z i es (lo : Int) (hi : Int) = some (.sl ⟨i.f, i.g, i.off + lo * z⟩ z ((es.drop lo).take (hi - lo))) := by
  simp [sliceP, h.1, h.2]
@[simp] theorem sliceP_zero_u32 (i : Sid) (l : List Nat) (hi : Nat) (h : hi ≤ l.length) : sliceP 1 i (u32s l) 0 (hi : Int) = some (.sl i 1 (u32s (l.take hi))) := by
  rw [sliceP_zero _ _ _ _ (by simpa using h), u32s_take]
@[simp] theorem sliceP_nat_u32 (i : Sid) (l : List Nat) (lo hi : Nat) (h : lo ≤ hi ∧ hi ≤ l.length) : sliceP 1 i (u32s l) (lo : Int) (hi : Int) = some (.sl ⟨i.f, i.g, i.off + lo⟩ 1 (u32s ((l.drop lo).take (hi - lo)))) := by
  rw [sliceP_nat _ _ _ _ _ (by simpa using h), u32s_drop, u32s_take, Nat.mul_one]
attribute [simp] u32s_take u32s_drop

/-- What a walk knows of a frame. -/
def At (s : St) (nt : Nat) (bs : List (List PV)) (nx : Nat) (l : List (Nat × PV)) : Prop :=
  s.nt = nt ∧ s.boxes = bs ∧ s.next = nx ∧ s.D = [] ∧ ∀ p, p ∈ l → s.slots p.1 = p.2
end Go.Proofs.YtphndngifjgeoaaGreatDoor
