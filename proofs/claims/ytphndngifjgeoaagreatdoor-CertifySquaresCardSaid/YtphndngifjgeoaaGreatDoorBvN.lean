/- The by-value logic, part N: the rules by which a pure walk goes; for every program. -/
import Derived.Test.YtphndngifjgeoaaGreatDoorBvM
set_option linter.unusedVariables false
set_option linter.unusedSimpArgs false
namespace Go.Proofs.YtphndngifjgeoaaGreatDoor

/-- A proof that the simplifier does not take for a mere unfolding. -/
theorem nrfl {α : Type} {a b : α} (h : a = b) : a = b := h

/-! ### a state's parts behind its turns -/
section proj
variable (s : St) (d : Option Tmp) (v : PV) (cs : List PV) (k T g f n : Nat)
@[simp] theorem put_nt' : (s.put d v).nt = s.nt := nrfl (put_nt ..)
@[simp] theorem put_boxes' : (s.put d v).boxes = s.boxes := nrfl (put_boxes ..)
@[simp] theorem put_next' : (s.put d v).next = s.next := nrfl (put_next ..)
@[simp] theorem put_tips' : (s.put d v).tips = s.tips := nrfl (put_tips ..)
@[simp] theorem put_D' : (s.put d v).D = s.D := nrfl (put_D ..)
@[simp] theorem put_n0' : (s.put d v).n0 = s.n0 := nrfl (put_n0 ..)
@[simp] theorem put_slot' (e t : Tmp) : (s.put (some e) v).slots t = if t = e then v else s.slots t := nrfl rfl
@[simp] theorem pushBox_slots : (s.pushBox cs).slots = s.slots := nrfl rfl
@[simp] theorem pushBox_nt : (s.pushBox cs).nt = s.nt := nrfl rfl
@[simp] theorem pushBox_boxes : (s.pushBox cs).boxes = s.boxes ++ [cs] := nrfl rfl
@[simp] theorem pushBox_next : (s.pushBox cs).next = s.next := nrfl rfl
@[simp] theorem pushBox_tips : (s.pushBox cs).tips = s.tips := nrfl rfl
@[simp] theorem pushBox_D : (s.pushBox cs).D = s.D := nrfl rfl
@[simp] theorem pushBox_n0 : (s.pushBox cs).n0 = s.n0 := nrfl rfl
@[simp] theorem setBox_slots : (s.setBox k cs).slots = s.slots := nrfl rfl
@[simp] theorem setBox_nt : (s.setBox k cs).nt = s.nt := nrfl rfl
@[simp] theorem setBox_boxes : (s.setBox k cs).boxes = s.boxes.set k cs := nrfl rfl
@[simp] theorem setBox_next : (s.setBox k cs).next = s.next := nrfl rfl
@[simp] theorem setBox_tips : (s.setBox k cs).tips = s.tips := nrfl rfl
@[simp] theorem setBox_D : (s.setBox k cs).D = s.D := nrfl rfl
@[simp] theorem setBox_n0 : (s.setBox k cs).n0 = s.n0 := nrfl rfl
@[simp] theorem fresh_slots : (s.fresh T).slots = s.slots := nrfl rfl
@[simp] theorem fresh_nt : (s.fresh T).nt = s.nt := nrfl rfl
@[simp] theorem fresh_boxes : (s.fresh T).boxes = s.boxes := nrfl rfl
@[simp] theorem fresh_next : (s.fresh T).next = s.next + 1 := nrfl rfl
@[simp] theorem fresh_tips : (s.fresh T).tips = (s.next, s.next, T) :: s.tips := nrfl rfl
@[simp] theorem fresh_D : (s.fresh T).D = s.D := nrfl rfl
@[simp] theorem fresh_n0 : (s.fresh T).n0 = s.n0 := nrfl rfl
@[simp] theorem regrown_slots : (s.regrown g f T).slots = s.slots := nrfl rfl
@[simp] theorem regrown_nt : (s.regrown g f T).nt = s.nt := nrfl rfl
@[simp] theorem regrown_boxes : (s.regrown g f T).boxes = s.boxes := nrfl rfl
@[simp] theorem regrown_next : (s.regrown g f T).next = s.next + 1 := nrfl rfl
@[simp] theorem regrown_tips : (s.regrown g f T).tips = (s.next, f, T) :: s.tips.filter fun x => x.1 != g := nrfl rfl
@[simp] theorem regrown_D : (s.regrown g f T).D = s.D := nrfl rfl
@[simp] theorem regrown_n0 : (s.regrown g f T).n0 = s.n0 := nrfl rfl
@[simp] theorem after_nil_slots : (s.after n []).slots = s.slots := nrfl rfl
@[simp] theorem after_nil_nt : (s.after n []).nt = s.nt := nrfl rfl
@[simp] theorem after_nil_boxes : (s.after n []).boxes = s.boxes := nrfl rfl
@[simp] theorem after_nil_next : (s.after n []).next = n := nrfl rfl
@[simp] theorem after_nil_tips : (s.after n []).tips = s.tips := nrfl rfl
@[simp] theorem after_nil_D : (s.after n []).D = s.D := nrfl rfl
@[simp] theorem after_nil_n0 : (s.after n []).n0 = s.n0 := nrfl rfl
@[simp] theorem enter_nt (nt : Nat) (args : List PV) : (St.enter nt args n).nt = args.length + (nt - args.length) := nrfl rfl
@[simp] theorem enter_slots (nt : Nat) (args : List PV) (t : Nat) : (St.enter nt args n).slots t = args.getD t (.tup []) := nrfl rfl
@[simp] theorem enter_boxes (nt : Nat) (args : List PV) : (St.enter nt args n).boxes = [] := nrfl rfl
@[simp] theorem enter_next (nt : Nat) (args : List PV) : (St.enter nt args n).next = n := nrfl rfl
@[simp] theorem enter_tips (nt : Nat) (args : List PV) : (St.enter nt args n).tips = [] := nrfl rfl
@[simp] theorem enter_D (nt : Nat) (args : List PV) : (St.enter nt args n).D = [] := nrfl rfl
@[simp] theorem enter_n0 (nt : Nat) (args : List PV) : (St.enter nt args n).n0 = n := nrfl rfl
@[simp] theorem enterB_nt (nt : Nat) (args : List PV) (bx : List (List PV)) : (St.enterB nt args bx n).nt = args.length + (nt - args.length) := nrfl rfl
@[simp] theorem enterB_slots (nt : Nat) (args : List PV) (bx : List (List PV)) (t : Nat) : (St.enterB nt args bx n).slots t = args.getD t (.tup []) := nrfl rfl
@[simp] theorem enterB_boxes (nt : Nat) (args : List PV) (bx : List (List PV)) : (St.enterB nt args bx n).boxes = bx := nrfl rfl
@[simp] theorem enterB_next (nt : Nat) (args : List PV) (bx : List (List PV)) : (St.enterB nt args bx n).next = n := nrfl rfl
@[simp] theorem enterB_tips (nt : Nat) (args : List PV) (bx : List (List PV)) : (St.enterB nt args bx n).tips = [] := nrfl rfl
@[simp] theorem enterB_D (nt : Nat) (args : List PV) (bx : List (List PV)) : (St.enterB nt args bx n).D = [] := nrfl rfl
@[simp] theorem enterB_n0 (nt : Nat) (args : List PV) (bx : List (List PV)) : (St.enterB nt args bx n).n0 = n := nrfl rfl
@[simp] theorem afterB_nt (bx : List (List PV)) : (s.afterB bx n).nt = s.nt := nrfl rfl
@[simp] theorem afterB_slots (bx : List (List PV)) (t : Nat) : (s.afterB bx n).slots t = s.slots t := nrfl rfl
@[simp] theorem afterB_boxes (bx : List (List PV)) : (s.afterB bx n).boxes = bx := nrfl rfl
@[simp] theorem afterB_next (bx : List (List PV)) : (s.afterB bx n).next = n := nrfl rfl
@[simp] theorem afterB_tips (bx : List (List PV)) : (s.afterB bx n).tips = s.tips := nrfl rfl
@[simp] theorem afterB_D (bx : List (List PV)) : (s.afterB bx n).D = s.D := nrfl rfl
@[simp] theorem afterB_n0 (bx : List (List PV)) : (s.afterB bx n).n0 = s.n0 := nrfl rfl
@[simp] theorem put_none : s.put none v = s := nrfl rfl
@[simp] theorem ev_tmp (t : Tmp) : s.ev (.tmp t) = s.slots t := nrfl rfl
@[simp] theorem ev_global (g : Nat) : s.ev (.global g) = .gp g 0 := nrfl rfl
@[simp] theorem ev_func (f : FuncId) : s.ev (.func f) = .fn f [] := nrfl rfl
@[simp] theorem ev_int (k : IntKind) (n : Int) : s.ev (.const (.int k n)) = .int k n := nrfl rfl
@[simp] theorem ev_bool (b : Bool) : s.ev (.const (.bool b)) = .bool b := nrfl rfl
@[simp] theorem ev_float (k : FloatKind) (n : Nat) : s.ev (.const (.float k n)) = .float k n := nrfl rfl
@[simp] theorem ev_nil : s.ev (.const (.slice none 0 0)) = .sl ⟨0, 0, 0⟩ 1 [] := nrfl rfl
end proj

/-! ### code without what the walk needs not -/
/-- An operation: the slot that it writes, what it does, and the slot and the outcome that it waits for. -/
structure Cop where
  d : Option Tmp
  op : Op
  g : Option (Tmp × Bool)

inductive CC where
  | skip
  | reg (dr : Bool) (l : List Cop)
  | regS (l : List (List Tmp × Cop))
  | seq (x y : CC)
  | cond (c : Operand) (x y : CC)
  | block (id : Nat) (x : CC)
  | loop (x : CC)
  | exit (id : Nat)
  | ret

/-- One operation's step. -/
def PStepC (P : Program) (dr : Bool) (d : Option Tmp) (op : Op) (K : St → Prop) (s : St) : Prop := PStep P dr ⟨d, op, 0, "", #[], none⟩ K s

theorem pstep_bare {P : Program} {dr : Bool} {o : Oper} {K : St → Prop} {s : St} : PStep P dr o K s = PStepC P dr o.dst o.op K s := rfl

/-- A place that may be written. -/
def okDst (s : St) (d : Option Tmp) : Prop := ∀ x, d = some x → x < s.nt

/-- A value, if there is one. -/
def oz (o : Option PV) (k : PV → Prop) : Prop := ∃ v, o = some v ∧ k v
@[simp ↓] theorem oz_some (v : PV) (k : PV → Prop) : oz (some v) k = k v := by simp [oz]
@[simp ↓] theorem oz_none (k : PV → Prop) : oz none k = False := by simp [oz]
@[congr] theorem oz_congr {o : Option PV} {o' : Unit → Option PV} {k : PV → Prop} (h : ∀ u, o = o' u) : oz o k = oz (o' ()) k := by rw [← h]
/-- By a known bool. -/
def pg (v : PV) (w : Bool) (A B : Prop) : Prop :=
  match v with
  | .bool b => if (b == w) = true then A else B
  | .tup [] => B
  | _ => False
@[congr] theorem pg_congr {v : PV} {v' : Unit → PV} {w : Bool} {A B : Prop} (h : ∀ u, v = v' u) : pg v w A B = pg (v' ()) w A B := by rw [← h]
@[simp ↓] theorem pg_tt (A B : Prop) : pg (.bool true) true A B = A := nrfl rfl
@[simp ↓] theorem pg_tf (A B : Prop) : pg (.bool true) false A B = B := nrfl rfl
@[simp ↓] theorem pg_ft (A B : Prop) : pg (.bool false) true A B = B := nrfl rfl
@[simp ↓] theorem pg_ff (A B : Prop) : pg (.bool false) false A B = A := nrfl rfl
@[simp ↓] theorem pg_skip (w : Bool) (A B : Prop) : pg (.tup []) w A B = B := nrfl rfl
/-- By a test's outcome. -/
def pc (v : PV) (A B : Prop) : Prop := ∃ t, v = .bool t ∧ (t = true → A) ∧ (t = false → B)
@[congr] theorem pc_congr {v : PV} {v' : Unit → PV} {A B : Prop} (h : ∀ u, v = v' u) : pc v A B = pc (v' ()) A B := by rw [← h]
@[simp ↓] theorem pc_true (A B : Prop) : pc (.bool true) A B = A := by simp [pc]
@[simp ↓] theorem pc_false (A B : Prop) : pc (.bool false) A B = B := by simp [pc]

/-- One operation, waited for or not. -/
def gC (g : Option (Tmp × Bool)) (s : St) (A B : Prop) : Prop :=
  match g with
  | none => A
  | some (t, w) => t < s.nt ∧ pg (s.slots t) w A B
theorem gC_congr {g g' : Option (Tmp × Bool)} {s : St} {A B : Prop} (h : g = g') : gC g s A B = gC g' s A B := by rw [h]
@[simp ↓] theorem gC_none (s : St) (A B : Prop) : gC none s A B = A := nrfl rfl
@[simp ↓] theorem gC_some (t : Tmp) (w : Bool) (s : St) (A B : Prop) : gC (some (t, w)) s A B = (t < s.nt ∧ pg (s.slots t) w A B) := nrfl rfl

def PSeqC (P : Program) (dr : Bool) : List Cop → (St → Prop) → St → Prop
  | [], K, s => K s
  | c :: cs, K, s => gC c.g s (PStepC P dr c.d c.op (PSeqC P dr cs K) s) (okDst s c.d ∧ PSeqC P dr cs K (s.put c.d (.tup [])))

/-- The same of a statement whose order is open: with each operation the boxes that later stores may go to before it. -/
def PSeqT (P : Program) : List (List Tmp × Cop) → (St → Prop) → St → Prop
  | [], K, s => K s
  | c :: cs, K, s => sepL (adOf c.2.op s) s c.1 ∧ gC c.2.g s (PStepC P true c.2.d c.2.op (PSeqT P cs K) s) (okDst s c.2.d ∧ PSeqT P cs K (s.put c.2.d (.tup [])))

/-- The walk's goal: code, what must hold at each exit, a state. -/
def GO (P : Program) : CC → (PExit → St → Prop) → St → Prop
  | .skip, Q, s => Q .normal s
  | .reg dr l, Q, s => PSeqC P dr l (Q .normal) s
  | .regS l, Q, s => PSeqT P l (Q .normal) s
  | .seq x y, Q, s => GO P x (PExit.then (GO P y Q) Q) s
  | .cond c x y, Q, s => pc (s.ev c) (GO P x Q s) (GO P y Q s)
  | .block id c, Q, s => GO P c (PExit.inBlock id Q) s
  | .loop c, Q, s => PLoop (GO P c) Q s
  | .exit id, Q, s => Q (.exit id) s
  | .ret, Q, s => Q .ret s

def compOps (ops : Array Oper) : List Oper → Option (List Cop)
  | [] => some []
  | o :: os => match compOps ops os with
    | none => none
    | some cs => match o.guard with
      | none => some (⟨o.dst, o.op, none⟩ :: cs)
      | some (j, w) => match (ops[j]?).bind (·.dst) with
        | some t => some (⟨o.dst, o.op, some (t, w)⟩ :: cs)
        | none => none

def compT (ops : Array Oper) : Nat → List Oper → Option (List (List Tmp × Cop))
  | _, [] => some []
  | k, o :: os => match compT ops (k + 1) os with
    | none => none
    | some cs => match o.guard with
      | none => some ((sepsOf ops k, ⟨o.dst, o.op, none⟩) :: cs)
      | some (j, w) => match (ops[j]?).bind (·.dst) with
        | some t => some ((sepsOf ops k, ⟨o.dst, o.op, some (t, w)⟩) :: cs)
        | none => none
def noSeps (ops : Array Oper) : Bool := (List.range ops.size).all fun i => (sepsOf ops i).isEmpty

def comp : Code → Option CC
  | .skip => some .skip
  | .region _ ops dr => if dr && !noSeps ops then (compT ops 0 ops.toList).map .regS else (compOps ops ops.toList).map (.reg dr)
  | .seq x y => match comp x, comp y with | some a, some b => some (.seq a b) | _, _ => none
  | .cond c x y => match comp x, comp y with | some a, some b => some (.cond c a b) | _, _ => none
  | .block id c => (comp c).map (.block id)
  | .loop c => (comp c).map .loop
  | .exit id => some (.exit id)
  | .ret => some .ret
  | _ => none

section rules
variable {P : Program} {dr : Bool} {ops : Array Oper} {K : St → Prop} {s : St}

theorem compOps_sound {ops : Array Oper} : ∀ (l : List Oper) (k : Nat) {cs : List Cop}, ops.toList.drop k = l → compOps ops l = some cs → ∀ (K : St → Prop) (s : St), PSeqC P dr cs K s → PSeq P dr ops (List.range' k l.length) K s
  | [], k, cs, _, hc, K, s, h => by simp [compOps] at hc; subst hc; exact h
  | o :: os, k, cs, hl, hc, K, s, h => by
    have hk : ops[k]? = some o := by
      have : (ops.toList.drop k)[0]? = some o := by rw [hl]; rfl
      simpa using this
    have hd : ops.toList.drop (k + 1) = os := by
      have : (ops.toList.drop k).tail = os := by rw [hl]; rfl
      simpa [List.tail_drop] using this
    simp only [List.length_cons, List.range'_succ, PSeq, PI, hk]
    simp only [compOps] at hc
    split at hc
    · cases hc
    · rename_i cs' hcs'
      have ih := fun K s => compOps_sound os (k + 1) hd hcs' K s
      split at hc
      · rename_i hg
        simp at hc; subst hc
        simp only [PSeqC, gC_none] at h
        simp only [guardP, hg]
        exact pstep_mono (fun s' hs => ih K s' hs) h
      · rename_i j w hg
        split at hc
        · rename_i t ht
          simp at hc; subst hc
          simp only [PSeqC, gC_some] at h
          obtain ⟨hlt, h⟩ := h
          simp only [guardP, hg, ht, hlt, if_true]
          unfold pg at h
          split at h
          · rename_i b hb
            simp only [hb]
            split at h
            · rename_i hbw
              simp only [hbw]
              exact pstep_mono (fun s' hs => ih K s' hs) h
            · rename_i hbw
              simp only [Bool.not_eq_true] at hbw
              simp only [hbw]
              exact ⟨h.1, ih K _ h.2⟩
          · rename_i hb
            simp only [hb]
            exact ⟨h.1, ih K _ h.2⟩
          · exact h.elim
        · cases hc

theorem compT_sound {ops : Array Oper} : ∀ (l : List Oper) (k : Nat) {cs : List (List Tmp × Cop)}, ops.toList.drop k = l → compT ops k l = some cs → ∀ (K : St → Prop) (s : St), PSeqT P cs K s → PSeqS P ops (List.range' k l.length) K s
  | [], k, cs, _, hc, K, s, h => by simp [compT] at hc; subst hc; exact h
  | o :: os, k, cs, hl, hc, K, s, h => by
    have hk : ops[k]? = some o := by
      have : (ops.toList.drop k)[0]? = some o := by rw [hl]; rfl
      simpa using this
    have hd : ops.toList.drop (k + 1) = os := by
      have : (ops.toList.drop k).tail = os := by rw [hl]; rfl
      simpa [List.tail_drop] using this
    simp only [List.length_cons, List.range'_succ, PSeqS, PIS, sepC, PI, hk]
    simp only [compT] at hc
    split at hc
    · cases hc
    · rename_i cs' hcs'
      have ih := fun K s => compT_sound os (k + 1) hd hcs' K s
      split at hc
      · rename_i hg
        simp at hc; subst hc
        simp only [PSeqT, gC_none] at h
        refine ⟨h.1, ?_⟩
        simp only [guardP, hg]
        exact pstep_mono (fun s' hs => ih K s' hs) h.2
      · rename_i j w hg
        split at hc
        · rename_i t ht
          simp at hc; subst hc
          simp only [PSeqT, gC_some] at h
          obtain ⟨hsep, hlt, h⟩ := h
          refine ⟨hsep, ?_⟩
          simp only [guardP, hg, ht, hlt, if_true]
          unfold pg at h
          split at h
          · rename_i b hb
            simp only [hb]
            split at h
            · rename_i hbw
              simp only [hbw]
              exact pstep_mono (fun s' hs => ih K s' hs) h
            · rename_i hbw
              simp only [Bool.not_eq_true] at hbw
              simp only [hbw]
              exact ⟨h.1, ih K _ h.2⟩
          · rename_i hb
            simp only [hb]
            exact ⟨h.1, ih K _ h.2⟩
          · exact h.elim
        · cases hc
theorem noSeps_spec {ops : Array Oper} (h : noSeps ops = true) (i : Nat) (hi : i < ops.size) : sepsOf ops i = [] := by
  have := List.all_eq_true.1 h i (List.mem_range.2 hi)
  simpa using this
theorem pseqS_of_pseq {ops : Array Oper} (hn : noSeps ops = true) : ∀ (l : List Nat), (∀ i, i ∈ l → i < ops.size) → ∀ (s : St) (K : St → Prop), PSeq P true ops l K s → PSeqS P ops l K s
  | [], _, s, K, h => h
  | i :: l, hl, s, K, h => by
    refine ⟨?_, pi_mono (fun s' hs => pseqS_of_pseq hn l (fun j hj => hl j (by simp [hj])) s' K hs) h⟩
    unfold sepC
    split
    · rw [noSeps_spec hn i (hl i (by simp))]; trivial
    · trivial

/-- What holds of the bare code holds of the code. -/
theorem comp_sound : ∀ (c : Code) {cc : CC}, comp c = some cc → ∀ (Q : PExit → St → Prop) (s : St), GO P cc Q s → PW P c Q s := by
  intro c
  induction c with
  | skip => intro cc h Q s hg; simp [comp] at h; subst h; exact hg
  | region id ops dr =>
    intro cc h Q s hg
    simp only [comp] at h
    unfold PW
    split at h
    · rename_i hc
      rw [Bool.and_eq_true] at hc
      obtain ⟨cs, h2, rfl⟩ := Option.map_eq_some_iff.1 h
      rw [List.range_eq_range']
      have := compT_sound (P := P) ops.toList 0 (by simp) h2 (Q .normal) s hg
      unfold PSeqD
      rw [if_pos hc.1]
      simpa using this
    · rename_i hc
      obtain ⟨cs, h2, rfl⟩ := Option.map_eq_some_iff.1 h
      have := compOps_sound (P := P) (dr := dr) ops.toList 0 (by simp) h2 (Q .normal) s hg
      unfold PSeqD
      cases dr with
      | false =>
        simp only [Bool.false_eq_true, if_false]
        rw [List.range_eq_range']
        simpa using this
      | true =>
        simp only [if_true]
        have hn : noSeps ops = true := by simpa using hc
        refine pseqS_of_pseq hn _ (fun i hi => by simpa using hi) s _ ?_
        rw [List.range_eq_range']
        simpa using this
  | seq x y ihx ihy =>
    intro cc h Q s hg
    simp only [comp] at h
    split at h
    · rename_i a b ha hb
      cases h
      unfold PW
      refine PW.mono x (fun e s' he => ?_) (ihx ha _ s hg)
      cases e <;> first | exact ihy hb Q s' he | exact he
    · cases h
  | cond c x y ihx ihy =>
    intro cc h Q s hg
    simp only [comp] at h
    split at h
    · rename_i a b ha hb
      cases h
      obtain ⟨t, h1, h2, h3⟩ := hg
      exact ⟨t, h1, fun e => ihx ha Q s (h2 e), fun e => ihy hb Q s (h3 e)⟩
    · cases h
  | block id c ih =>
    intro cc h Q s hg
    simp only [comp, Option.map_eq_some_iff] at h
    obtain ⟨a, h, rfl⟩ := h
    exact ih h _ s hg
  | loop c ih =>
    intro cc h Q s hg
    simp only [comp, Option.map_eq_some_iff] at h
    obtain ⟨a, h, rfl⟩ := h
    obtain ⟨n, hn⟩ := hg
    refine ⟨n, ?_⟩
    have key : ∀ (n : Nat) (s : St), PIter (GO P a) Q n s → PIter (PW P c) Q n s := by
      intro n
      induction n with
      | zero => intro s h; exact h
      | succ n ihn =>
        intro s h'
        refine PW.mono c (fun e s' he => ?_) (ih h _ s h')
        cases e <;> first | exact ihn s' he | exact he
    exact key n s hn
  | exit id => intro cc h Q s hg; simp [comp] at h; subst h; exact hg
  | ret => intro cc h Q s hg; simp [comp] at h; subst h; exact hg
  | _ => intro cc h; simp [comp] at h

theorem GO.mono : ∀ (c : CC) {Q Q' : PExit → St → Prop} {s : St}, (∀ e s', Q e s' → Q' e s') → GO P c Q s → GO P c Q' s := by
  intro c
  induction c with
  | skip => intro Q Q' s hq h; exact hq _ _ h
  | reg dr l =>
    intro Q Q' s hq h
    have key : ∀ (l : List Cop) {K K' : St → Prop} {s : St}, (∀ s', K s' → K' s') → PSeqC P dr l K s → PSeqC P dr l K' s := by
      intro l
      induction l with
      | nil => intro K K' s hk h; exact hk _ h
      | cons c l ih =>
        intro K K' s hk h
        simp only [PSeqC] at h ⊢
        cases hg : c.g with
        | none => simp only [hg, gC_none] at h ⊢; exact pstep_mono (fun s' hs => ih hk hs) h
        | some x =>
          obtain ⟨t, w⟩ := x
          simp only [hg, gC_some] at h ⊢
          refine ⟨h.1, ?_⟩
          have h2 := h.2
          unfold pg at h2 ⊢
          split at h2
          · rename_i b hb
            try simp only [hb]
            split at h2
            · rename_i hbw; rw [if_pos hbw]; exact pstep_mono (fun s' hs => ih hk hs) h2
            · rename_i hbw; rw [if_neg hbw]; exact ⟨h2.1, ih hk h2.2⟩
          · rename_i hb; try simp only [hb]
            exact ⟨h2.1, ih hk h2.2⟩
          · exact h2.elim
    exact key l (fun s' hs => hq _ _ hs) h
  | regS l =>
    intro Q Q' s hq h
    have key : ∀ (l : List (List Tmp × Cop)) {K K' : St → Prop} {s : St}, (∀ s', K s' → K' s') → PSeqT P l K s → PSeqT P l K' s := by
      intro l
      induction l with
      | nil => intro K K' s hk h; exact hk _ h
      | cons c l ih =>
        intro K K' s hk h
        simp only [PSeqT] at h ⊢
        refine ⟨h.1, ?_⟩
        have h := h.2
        cases hg : c.2.g with
        | none => simp only [hg, gC_none] at h ⊢; exact pstep_mono (fun s' hs => ih hk hs) h
        | some x =>
          obtain ⟨t, w⟩ := x
          simp only [hg, gC_some] at h ⊢
          refine ⟨h.1, ?_⟩
          have h2 := h.2
          unfold pg at h2 ⊢
          split at h2
          · rename_i b hb
            try simp only [hb]
            split at h2
            · rename_i hbw; rw [if_pos hbw]; exact pstep_mono (fun s' hs => ih hk hs) h2
            · rename_i hbw; rw [if_neg hbw]; exact ⟨h2.1, ih hk h2.2⟩
          · rename_i hb; try simp only [hb]
            exact ⟨h2.1, ih hk h2.2⟩
          · exact h2.elim
    exact key l (fun s' hs => hq _ _ hs) h
  | seq x y ihx ihy =>
    intro Q Q' s hq h
    refine ihx (fun e s' he => ?_) h
    cases e with
    | normal => exact ihy hq he
    | exit id => exact hq _ _ he
    | ret => exact hq _ _ he
  | cond c x y ihx ihy =>
    intro Q Q' s hq h
    obtain ⟨t, h1, h2, h3⟩ := h
    exact ⟨t, h1, fun ht => ihx hq (h2 ht), fun ht => ihy hq (h3 ht)⟩
  | block id c ih =>
    intro Q Q' s hq h
    refine ih (fun e s' he => ?_) h
    cases e with
    | exit k => simp only [PExit.inBlock] at he ⊢; split at he <;> rename_i hk <;> simp only [hk, if_true, if_false] <;> exact hq _ _ he
    | _ => exact hq _ _ he
  | loop c ih =>
    intro Q Q' s hq h
    obtain ⟨n, hn⟩ := h
    refine ⟨n, ?_⟩
    have key : ∀ (n : Nat) (s : St), PIter (GO P c) Q n s → PIter (GO P c) Q' n s := by
      intro n
      induction n with
      | zero => intro s h; exact h
      | succ n ihn =>
        intro s h
        refine ih (fun e s' he => ?_) h
        cases e with
        | normal => exact ihn _ he
        | exit id => exact hq _ _ he
        | ret => exact hq _ _ he
    exact key n s hn
  | exit id => intro Q Q' s hq h; exact hq _ _ h
  | ret => intro Q Q' s hq h; exact hq _ _ h

theorem GO_congr {c : CC} {Q : PExit → St → Prop} {s s' : St} (h : s = s') : GO P c Q s = GO P c Q s' := by rw [h]
theorem PSeqC_congr {dr : Bool} {l : List Cop} {K : St → Prop} {s s' : St} (h : s = s') : PSeqC P dr l K s = PSeqC P dr l K s' := by rw [h]
theorem PStepC_congr {dr : Bool} {d : Option Tmp} {op : Op} {K : St → Prop} {s s' : St} (h : s = s') : PStepC P dr d op K s = PStepC P dr d op K s' := by rw [h]
theorem PCall_congr {g : FuncId} {args args' : List PV} {n n' : Nat} {Q : PV → Nat → List Nat → Prop} (h : args = args') (hn : n = n') : PCall P g args n Q = PCall P g args' n' Q := by rw [h, hn]

theorem then_then {A B : St → Prop} {Q : PExit → St → Prop} : PExit.then A (PExit.then B Q) = PExit.then A Q := by
  funext e s; cases e <;> rfl

@[simp ↓] theorem GO_assoc {x y z : CC} {Q : PExit → St → Prop} : GO P (.seq (.seq x y) z) Q s = GO P (.seq x (.seq y z)) Q s := by
  simp only [GO, then_then]
@[simp ↓] theorem GO_reg {l : List Cop} {dr : Bool} {Q : PExit → St → Prop} : GO P (.reg dr l) Q s = PSeqC P dr l (Q .normal) s := nrfl rfl
@[simp ↓] theorem GO_regS {l : List (List Tmp × Cop)} {Q : PExit → St → Prop} : GO P (.regS l) Q s = PSeqT P l (Q .normal) s := nrfl rfl
@[simp ↓] theorem GO_seq_regS {l : List (List Tmp × Cop)} {y : CC} {Q : PExit → St → Prop} : GO P (.seq (.regS l) y) Q s = PSeqT P l (GO P y Q) s := nrfl rfl
@[simp ↓] theorem GO_seq_reg {l : List Cop} {dr : Bool} {y : CC} {Q : PExit → St → Prop} : GO P (.seq (.reg dr l) y) Q s = PSeqC P dr l (GO P y Q) s := nrfl rfl
@[simp ↓] theorem GO_cond {c : Operand} {x z : CC} {Q : PExit → St → Prop} : GO P (.cond c x z) Q s = pc (s.ev c) (GO P x Q s) (GO P z Q s) := nrfl rfl
@[simp ↓] theorem GO_seq_cond {c : Operand} {x z y : CC} {Q : PExit → St → Prop} : GO P (.seq (.cond c x z) y) Q s = pc (s.ev c) (GO P (.seq x y) Q s) (GO P (.seq z y) Q s) := nrfl rfl
@[simp ↓] theorem GO_skip {Q : PExit → St → Prop} : GO P .skip Q s = Q .normal s := nrfl rfl
@[simp ↓] theorem GO_seq_skip {y : CC} {Q : PExit → St → Prop} : GO P (.seq .skip y) Q s = GO P y Q s := nrfl rfl
@[simp ↓] theorem GO_ret {Q : PExit → St → Prop} : GO P .ret Q s = Q .ret s := nrfl rfl
@[simp ↓] theorem GO_seq_ret {y : CC} {Q : PExit → St → Prop} : GO P (.seq .ret y) Q s = Q .ret s := nrfl rfl
@[simp ↓] theorem GO_exit {id : Nat} {Q : PExit → St → Prop} : GO P (.exit id) Q s = Q (.exit id) s := nrfl rfl
@[simp ↓] theorem GO_seq_exit {id : Nat} {y : CC} {Q : PExit → St → Prop} : GO P (.seq (.exit id) y) Q s = Q (.exit id) s := nrfl rfl
@[simp ↓] theorem GO_block {id : Nat} {x : CC} {Q : PExit → St → Prop} : GO P (.block id x) Q s = GO P x (PExit.inBlock id Q) s := nrfl rfl
@[simp ↓] theorem GO_seq_block {id : Nat} {x y : CC} {Q : PExit → St → Prop} : GO P (.seq (.block id x) y) Q s = GO P x (PExit.inBlock id (PExit.then (GO P y Q) Q)) s := nrfl rfl
theorem GO_loop {c : CC} {Q : PExit → St → Prop} (I : St → Prop) (m : St → Nat) (h0 : I s) (hround : ∀ s, I s → GO P c (PExit.then (fun s' => I s' ∧ m s' < m s) Q) s) : GO P (.loop c) Q s :=
  PLoop.rule (B := GO P c) (fun {Q Q' s} hq h => GO.mono c hq h) I m h0 hround
theorem GO_seq_loop {c y : CC} {Q : PExit → St → Prop} (I : St → Prop) (m : St → Nat) (h0 : I s) (hround : ∀ s, I s → GO P c (PExit.then (fun s' => I s' ∧ m s' < m s) (PExit.then (GO P y Q) Q)) s) : GO P (.seq (.loop c) y) Q s := GO_loop (Q := PExit.then (GO P y Q) Q) I m h0 hround

@[simp ↓] theorem then_normal {next : St → Prop} {Q : PExit → St → Prop} : PExit.then next Q .normal s = next s := nrfl rfl
@[simp ↓] theorem then_exit {next : St → Prop} {Q : PExit → St → Prop} {id : Nat} : PExit.then next Q (.exit id) s = Q (.exit id) s := nrfl rfl
@[simp ↓] theorem then_ret {next : St → Prop} {Q : PExit → St → Prop} : PExit.then next Q .ret s = Q .ret s := nrfl rfl
@[simp ↓] theorem inBlock_normal {id : Nat} {Q : PExit → St → Prop} : PExit.inBlock id Q .normal s = Q .normal s := nrfl rfl
@[simp ↓] theorem inBlock_exit {id k : Nat} {Q : PExit → St → Prop} : PExit.inBlock id Q (.exit k) s = if k = id then Q .normal s else Q (.exit k) s := nrfl rfl
@[simp ↓] theorem inBlock_ret {id : Nat} {Q : PExit → St → Prop} : PExit.inBlock id Q .ret s = Q .ret s := nrfl rfl

@[simp ↓] theorem PSeqT_nil : PSeqT P [] K s = K s := nrfl rfl
@[simp ↓] theorem PSeqT_cons (b : List Tmp) (d : Option Tmp) (op : Op) (g : Option (Tmp × Bool)) (cs : List (List Tmp × Cop)) : PSeqT P ((b, ⟨d, op, g⟩) :: cs) K s = (sepL (adOf op s) s b ∧ gC g s (PStepC P true d op (PSeqT P cs K) s) (okDst s d ∧ PSeqT P cs K (s.put d (.tup [])))) := nrfl rfl
@[simp] theorem sepL_nil (x : Option PV) : sepL x s [] = True := nrfl rfl
@[simp] theorem sepL_cons (x : Option PV) (b : Tmp) (bs : List Tmp) : sepL x s (b :: bs) = (sepP x (s.slots b) ∧ sepL x s bs) := nrfl rfl
@[simp] theorem sepP_none (k o : Nat) : sepP none (.box k o) := ⟨k, o, rfl, fun _ _ e => by cases e⟩
@[simp] theorem sepP_box (k o k' o' : Nat) : sepP (some (.box k' o')) (.box k o) = (k' ≠ k) := by
  unfold sepP
  apply propext
  constructor
  · rintro ⟨a, b, h1, h2⟩; cases h1; exact h2 _ _ rfl
  · intro h; exact ⟨k, o, rfl, fun a b e => by cases e; exact h⟩
@[simp] theorem adOf_load (t : TypeId) (x : Operand) : adOf (.load t x) s = some (s.ev x) := nrfl rfl
@[simp] theorem adOf_move (x : Operand) : adOf (.move x) s = none := nrfl rfl
@[simp] theorem adOf_assign (x : Operand) : adOf (.assign x) s = none := nrfl rfl
@[simp] theorem adOf_fieldAddr (t : TypeId) (x : Operand) (i : Nat) : adOf (.fieldAddr t x i) s = none := nrfl rfl
@[simp] theorem adOf_extract (x : Operand) (i : Nat) : adOf (.extract x i) s = none := nrfl rfl
@[simp] theorem adOf_build (t : TypeId) (l : Array (Nat × Operand)) : adOf (.build t l) s = none := nrfl rfl
@[simp] theorem adOf_binOp (o : BinOp) (t u : TypeId) (x y : Operand) : adOf (.binOp o t x y u) s = none := nrfl rfl
@[simp] theorem adOf_unOp (o : UnOp) (t : TypeId) (x : Operand) : adOf (.unOp o t x) s = none := nrfl rfl
@[simp] theorem adOf_pick (x y z : Operand) : adOf (.pick x y z) s = none := nrfl rfl
@[simp] theorem adOf_store (t : TypeId) (x y : Operand) : adOf (.store t x y) s = none := nrfl rfl
@[simp] theorem adOf_call (c : Call) : adOf (.call c) s = none := nrfl rfl
@[simp ↓] theorem PSeqC_nil : PSeqC P dr [] K s = K s := nrfl rfl
@[simp ↓] theorem PSeqC_cons (d : Option Tmp) (op : Op) (g : Option (Tmp × Bool)) (cs : List Cop) : PSeqC P dr (⟨d, op, g⟩ :: cs) K s = gC g s (PStepC P dr d op (PSeqC P dr cs K) s) (okDst s d ∧ PSeqC P dr cs K (s.put d (.tup []))) := nrfl rfl

@[simp] theorem okDst_some (t : Tmp) : okDst s (some t) ↔ t < s.nt := by simp [okDst]
@[simp] theorem okDst_none : okDst s none := by simp [okDst]

/-- The results, if they can be read. -/
def rz (o : Option (List PV)) (k : List PV → Prop) : Prop := ∃ v, o = some v ∧ k v
@[simp ↓] theorem rz_some (v : List PV) (k : List PV → Prop) : rz (some v) k = k v := by simp [rz]
@[simp ↓] theorem rz_none (k : List PV → Prop) : rz none k = False := by simp [rz]
@[congr] theorem rz_congr {o : Option (List PV)} {o' : Unit → Option (List PV)} {k : List PV → Prop} (h : ∀ u, o = o' u) : rz o k = rz (o' ()) k := by rw [← h]

/-- What holds at a function's end. -/
def fin (P : Program) (res : List ResultVar) (n : Nat) (Q : PV → Nat → List Nat → Prop) (e : PExit) (s : St) : Prop :=
  (match e with | .exit _ => False | _ => True) ∧ rz (resP P s res) fun vs => (resV vs).closedR = true ∧ n ≤ s.next ∧ Q (resV vs) s.next s.D
@[simp ↓] theorem fin_ret {res : List ResultVar} {n : Nat} {Q : PV → Nat → List Nat → Prop} : fin P res n Q .ret s = rz (resP P s res) fun vs => (resV vs).closedR = true ∧ n ≤ s.next ∧ Q (resV vs) s.next s.D := by simp [fin]
@[simp ↓] theorem fin_normal {res : List ResultVar} {n : Nat} {Q : PV → Nat → List Nat → Prop} : fin P res n Q .normal s = rz (resP P s res) fun vs => (resV vs).closedR = true ∧ n ≤ s.next ∧ Q (resV vs) s.next s.D := by simp [fin]

/-- A function's contract out of its bare code. -/
theorem PCall.of_code (hm : P.follows .mixedOrders = true) {f : FuncId} {fn : Func} {c : Code} {cc : CC} (hf : P.funcs[f]? = some fn) (hb : fn.body = some c) (hok : codeOk c = true) (hcc : comp c = some cc) (nt : Nat) (hnt : fn.ntmps = nt) (res : List ResultVar) (hres : fn.results.toList = res)
    {args : List PV} {n : Nat} (hn : 0 < n) {Q : PV → Nat → List Nat → Prop} (h : GO P cc (fin P res n Q) (St.enter nt args n)) : PCall P f args n Q := by
  subst hnt; subst hres
  exact PCall.of_body hm hf hb hok hn (comp_sound c hcc _ _ h)

/-- What holds at a closure's end. -/
def finC (P : Program) (res : List ResultVar) (n : Nat) (Q : PV → List (List PV) → Nat → Prop) (e : PExit) (s : St) : Prop :=
  (match e with | .exit _ => False | _ => True) ∧ rz (resP P s res) fun vs => n ≤ s.next ∧ s.D = [] ∧ Q (resV vs) s.boxes s.next
@[simp ↓] theorem finC_ret {res : List ResultVar} {n : Nat} {Q : PV → List (List PV) → Nat → Prop} : finC P res n Q .ret s = rz (resP P s res) fun vs => n ≤ s.next ∧ s.D = [] ∧ Q (resV vs) s.boxes s.next := by simp [finC]
@[simp ↓] theorem finC_normal {res : List ResultVar} {n : Nat} {Q : PV → List (List PV) → Nat → Prop} : finC P res n Q .normal s = rz (resP P s res) fun vs => n ≤ s.next ∧ s.D = [] ∧ Q (resV vs) s.boxes s.next := by simp [finC]
/-- A closure's contract out of its bare code. -/
theorem PCallB.of_code (hm : P.follows .mixedOrders = true) {f : FuncId} {fn : Func} {c : Code} {cc : CC} (hf : P.funcs[f]? = some fn) (hb : fn.body = some c) (hok : codeOk c = true) (hcc : comp c = some cc) (nt : Nat) (hnt : fn.ntmps = nt) (res : List ResultVar) (hres : fn.results.toList = res)
    {args : List PV} {bx : List (List PV)} {n : Nat} (hn : 0 < n) {Q : PV → List (List PV) → Nat → Prop} (h : GO P cc (finC P res n Q) (St.enterB nt args bx n)) : PCallB P f args bx n Q := by
  subst hnt; subst hres
  exact PCallB.of_body hm hf hb hok hn (comp_sound c hcc _ _ h)

variable {d : Option Tmp}
@[simp ↓] theorem PS_move (x : Operand) : PStepC P dr d (.move x) K s ↔ okDst s d ∧ K (s.put d (s.ev x)) :=
  ⟨fun ⟨h, v, e, k⟩ => ⟨h, by cases e; exact k⟩, fun ⟨h, k⟩ => ⟨h, _, rfl, k⟩⟩
@[simp ↓] theorem PS_assign (x : Operand) : PStepC P dr d (.assign x) K s ↔ okDst s d ∧ K (s.put d (s.ev x)) :=
  ⟨fun ⟨h, v, e, k⟩ => ⟨h, by cases e; exact k⟩, fun ⟨h, k⟩ => ⟨h, _, rfl, k⟩⟩
@[simp] theorem pickV_true (x y : PV) : pickV (.bool true) x y = some x := nrfl rfl
@[simp] theorem pickV_false (x y : PV) : pickV (.bool false) x y = some y := nrfl rfl
@[simp ↓] theorem PS_pick (c x y : Operand) : PStepC P dr d (.pick c x y) K s ↔ okDst s d ∧ oz (pickV (s.ev c) (s.ev x) (s.ev y)) (fun v => K (s.put d v)) := Iff.rfl
@[simp ↓] theorem PS_load (t : TypeId) (x : Operand) : PStepC P dr d (.load t x) K s ↔ okDst s d ∧ oz (loadV P s.boxes t (s.ev x)) (fun v => K (s.put d v)) := Iff.rfl
@[simp ↓] theorem PS_fieldAddr (t : TypeId) (x : Operand) (f : Nat) : PStepC P dr d (.fieldAddr t x f) K s ↔ okDst s d ∧ oz (fieldAddrV P t f (s.ev x)) (fun v => K (s.put d v)) := Iff.rfl
@[simp ↓] theorem PS_indexAddr (t : TypeId) (x y : Operand) : PStepC P dr d (.indexAddr t x y) K s ↔ okDst s d ∧ oz (indexAddrV P t (s.ev x) (s.ev y)) (fun v => K (s.put d v)) := Iff.rfl
@[simp ↓] theorem PS_index (t : TypeId) (x : Tmp) (y : Operand) : PStepC P dr d (.index t (.tmp x) y) K s ↔ okDst s d ∧ oz (indexV P t (s.ev (.tmp x)) (s.ev y)) (fun v => K (s.put d v)) := Iff.rfl
@[simp ↓] theorem PS_indexStr (t : TypeId) (b : ByteArray) (y : Operand) : PStepC P dr d (.index t (.const (.string b)) y) K s ↔ okDst s d ∧ oz (strAt P t b (s.ev y)) (fun v => K (s.put d v)) := Iff.rfl
@[simp ↓] theorem PS_field (t : TypeId) (x : Operand) (f : Nat) : PStepC P dr d (.field t x f) K s ↔ okDst s d ∧ oz (fieldV P t f (s.ev x)) (fun v => K (s.put d v)) := Iff.rfl
@[simp ↓] theorem PS_binOp (op : BinOp) (t u : TypeId) (x y : Operand) : PStepC P dr d (.binOp op t x y u) K s ↔ okDst s d ∧ oz (binPV P op t (s.ev x) (s.ev y)) (fun v => K (s.put d v)) := Iff.rfl
@[simp ↓] theorem PS_unOp (op : UnOp) (t : TypeId) (x : Operand) : PStepC P dr d (.unOp op t x) K s ↔ okDst s d ∧ oz (unPV op (s.ev x)) (fun v => K (s.put d v)) := Iff.rfl
@[simp ↓] theorem PS_convert (t u : TypeId) (x : Operand) : PStepC P dr d (.convert t u x) K s ↔ okDst s d ∧ oz (convV P t u (s.ev x)) (fun v => K (s.put d v)) := Iff.rfl
@[simp ↓] theorem PS_extract (t : Operand) (ix : Nat) : PStepC P dr d (.extract t ix) K s ↔ okDst s d ∧ oz (extractV ix (s.ev t)) (fun v => K (s.put d v)) := Iff.rfl
@[simp ↓] theorem PS_build (t : TypeId) (l : List (Nat × Operand)) : PStepC P dr d (.build t l.toArray) K s ↔ okDst s d ∧ oz (buildV P t (l.map fun x => (x.1, s.ev x.2))) (fun v => K (s.put d v)) := Iff.rfl
@[simp ↓] theorem PS_slice (t : TypeId) (x : Operand) (lo hi : Option Operand) : PStepC P dr d (.slice t x lo hi none) K s ↔ okDst s d ∧ oz (sliceV P t (lo.map s.ev) (hi.map s.ev) (s.ev x)) (fun v => K (s.put d v)) := Iff.rfl
@[simp ↓] theorem PS_len (x : Operand) (t : TypeId) : PStepC P dr d (.call { callee := .builtin .len, args := #[x], argTypes := #[t] }) K s ↔ okDst s d ∧ oz (lenV P t (s.ev x)) (fun v => K (s.put d v)) := Iff.rfl
@[simp ↓] theorem PS_max (x y : Operand) (ts : Array TypeId) : PStepC P dr d (.call { callee := .builtin .max, args := #[x, y], argTypes := ts }) K s ↔ okDst s d ∧ oz (maxV (s.ev x) (s.ev y)) (fun v => K (s.put d v)) := Iff.rfl
@[simp ↓] theorem PS_min (x y : Operand) (ts : Array TypeId) : PStepC P dr d (.call { callee := .builtin .min, args := #[x, y], argTypes := ts }) K s ↔ okDst s d ∧ oz (minV (s.ev x) (s.ev y)) (fun v => K (s.put d v)) := Iff.rfl

theorem PS_alloc1 {t : TypeId} {z : PV} (hz : tzero P t = some z) (h : z.sized = true) (h2 : aOk P t z = true) : PStepC P dr d (.alloc t) K s ↔ okDst s d ∧ K ((s.pushBox z.cells).put d (.box s.boxes.length 0)) :=
  ⟨fun ⟨hd, z', e, _, _, k⟩ => ⟨hd, by rw [hz] at e; cases e; exact k⟩, fun ⟨hd, k⟩ => ⟨hd, z, hz, h, h2, k⟩⟩
theorem PS_alloc {t : TypeId} {z : PV} (hz : tzero P t = some z) (h : z.sized = true ∧ z.cells.all PV.isCell = true) : PStepC P dr d (.alloc t) K s ↔ okDst s d ∧ K ((s.pushBox z.cells).put d (.box s.boxes.length 0)) :=
  PS_alloc1 hz h.1 (by unfold aOk; rw [h.2]; rfl)
@[simp ↓] theorem PS_box (t : TypeId) (x : Operand) : PStepC P dr d (.box t x) K s ↔ okDst s d ∧ (s.ev x).sized = true ∧ (s.ev x).cells.all PV.isCell = true ∧ K ((s.pushBox (s.ev x).cells).put d (.box s.boxes.length 0)) := Iff.rfl
theorem PS_append (x y : Operand) (t : TypeId) : PStepC P dr d (.call { callee := .builtin .append, args := #[x, y], argTypes := #[t, t] }) K s ↔ okDst s d ∧ appendP P s t (s.ev x) (s.ev y) (fun s' v => K (s'.put d v)) :=
  ⟨fun ⟨hd, x', y', t', e1, e2, k⟩ => ⟨hd, by cases e1; cases e2; exact k⟩, fun ⟨hd, k⟩ => ⟨hd, x, y, t, rfl, rfl, k⟩⟩

/-- A function with a body. -/
def callable (P : Program) (g : FuncId) : Prop := ∃ fn, P.funcs[g]? = some fn ∧ fn.body.isSome = true ∧ (fn.name == "runtime.NumGoroutine") = false
theorem noExt {g : FuncId} (hc : callable P g) (l : List PV) (v : PV) : ¬ extV P g l v := by
  obtain ⟨fn, h1, h2, h3⟩ := hc
  rintro (⟨⟨fn', k1, k2, k3, k4⟩, _⟩ | ⟨⟨fn', k1, k2, k3, k4⟩, _⟩) <;>
  · rw [h1] at k1; cases k1
    simp at k3; rw [k3] at h2; simp at h2
theorem PS_call {g : FuncId} (hc : callable P g) (l : List Operand) (ts : Array TypeId) : PStepC P dr d (.call { callee := .value (.func g), args := l.toArray, argTypes := ts }) K s ↔
    okDst s d ∧ (l.all fun x => (s.ev x).closed) = true ∧ PCall P g (l.map s.ev) s.next (fun v n D => (dr = true → D = []) ∧ (∀ f, f ∈ D → f < s.next ∧ f ≠ 0) ∧ K ((s.after n D).put d v)) := by
  simp only [PStep, okDst, St.ev]
  refine and_congr Iff.rfl ?_
  show (if heavy (.func g) ts = true then _ else _) ↔ _
  rw [if_neg (show ¬ heavy (.func g) ts = true by simp [heavy])]
  obtain ⟨fn, h1, h2, h3⟩ := hc
  constructor
  · rintro (⟨g', v, e, k1, k2⟩ | ⟨g', fn', e, k1, k2, k3, k4, k5⟩)
    · cases e
      exact absurd k1 (noExt ⟨fn, h1, h2, h3⟩ _ _)
    · cases e
      exact ⟨k4, k5⟩
  · rintro ⟨k4, k5⟩
    exact .inr ⟨g, fn, rfl, h1, h2, h3, k4, k5⟩
/-- A float of its bits; a float's bits. -/
def fromV : PV → Option PV
  | .int .u64 n => some (.float .f64 n.toNat)
  | _ => none
def bitsV : PV → Option PV
  | .float .f64 b => some (.int .u64 b)
  | _ => none
@[simp] theorem fromV_int (n : Int) : fromV (.int .u64 n) = some (.float .f64 n.toNat) := nrfl rfl
@[simp] theorem bitsV_float (b : Nat) : bitsV (.float .f64 b) = some (.int .u64 b) := nrfl rfl
theorem fromV_some {x v : PV} : fromV x = some v ↔ ∃ n : Int, x = .int .u64 n ∧ v = .float .f64 n.toNat := by
  constructor
  · intro h
    unfold fromV at h
    split at h
    · cases h; exact ⟨_, rfl, rfl⟩
    · cases h
  · rintro ⟨n, rfl, rfl⟩; rfl
theorem bitsV_some {x v : PV} : bitsV x = some v ↔ ∃ b : Nat, x = .float .f64 b ∧ v = .int .u64 b := by
  constructor
  · intro h
    unfold bitsV at h
    split at h
    · cases h; exact ⟨_, rfl, rfl⟩
    · cases h
  · rintro ⟨n, rfl, rfl⟩; rfl
theorem oz_ex {o : Option PV} {K : PV → Prop} : oz o K ↔ ∃ v, o = some v ∧ K v :=
  Iff.rfl
theorem isExt_fn {g : FuncId} {e e' : Array Value → Sem Value} (h : isExt P g e) (h' : isExt P g e') : e = e' := by
  obtain ⟨fn, h1, h2, h3, h4, h5⟩ := h
  obtain ⟨fn', k1, k2, k3, k4, k5⟩ := h'
  rw [h1] at k1; cases k1
  rw [h5] at k5; cases k5; rfl
theorem from_ne_bits : Extern.MathFloatBits.float64frombits ≠ Extern.MathFloatBits.float64bits := by
  intro h
  have h2 : (Extern.MathFloatBits.float64frombits #[.float .f64 0]).run (default : Program) (default : World) = .ok (.int .u64 0) default := by rw [h]; rfl
  exact absurd h2 (by intro h3; cases h3)
/-- A function for which the model stands in, called. -/
theorem PS_frombits {g : FuncId} (he : isExt P g Extern.MathFloatBits.float64frombits) (x : Operand) (ts : Array TypeId) : PStepC P dr d (.call { callee := .value (.func g), args := #[x], argTypes := ts }) K s ↔
    okDst s d ∧ oz (fromV (s.ev x)) (fun v => K (s.put d v)) := by
  rw [oz_ex]
  simp only [PStep, okDst, St.ev]
  refine and_congr Iff.rfl ?_
  show (if heavy (.func g) ts = true then _ else _) ↔ _
  rw [if_neg (show ¬ heavy (.func g) ts = true by simp [heavy])]
  constructor
  · rintro (⟨g', v, e, k1, k2⟩ | ⟨g', fn', e, k1, k2, k3, k4, k5⟩)
    · cases e
      rcases k1 with ⟨ke, b, kl, rfl⟩ | ⟨ke, m, kl, rfl⟩
      · exact absurd (isExt_fn he ke) from_ne_bits
      · have h : s.ev x = .int .u64 m := by simpa using kl
        exact ⟨_, fromV_some.2 ⟨m, h, rfl⟩, k2⟩
    · cases e
      obtain ⟨fn, h1, h2, h3, h4⟩ := he
      rw [h1] at k1; cases k1
      simp at h3; rw [h3] at k2; simp at k2
  · rintro ⟨v, hv, k⟩
    obtain ⟨n, hn, rfl⟩ := fromV_some.1 hv
    exact .inl ⟨g, _, rfl, .inr ⟨he, n, congrArg (fun v => [v]) (show s.ev x = _ from hn), rfl⟩, k⟩
theorem PS_bits {g : FuncId} (he : isExt P g Extern.MathFloatBits.float64bits) (x : Operand) (ts : Array TypeId) : PStepC P dr d (.call { callee := .value (.func g), args := #[x], argTypes := ts }) K s ↔
    okDst s d ∧ oz (bitsV (s.ev x)) (fun v => K (s.put d v)) := by
  rw [oz_ex]
  simp only [PStep, okDst, St.ev]
  refine and_congr Iff.rfl ?_
  show (if heavy (.func g) ts = true then _ else _) ↔ _
  rw [if_neg (show ¬ heavy (.func g) ts = true by simp [heavy])]
  constructor
  · rintro (⟨g', v, e, k1, k2⟩ | ⟨g', fn', e, k1, k2, k3, k4, k5⟩)
    · cases e
      rcases k1 with ⟨ke, b, kl, rfl⟩ | ⟨ke, m, kl, rfl⟩
      · have h : s.ev x = .float .f64 b := by simpa using kl
        exact ⟨_, bitsV_some.2 ⟨b, h, rfl⟩, k2⟩
      · exact absurd (isExt_fn ke he) from_ne_bits
    · cases e
      obtain ⟨fn, h1, h2, h3, h4⟩ := he
      rw [h1] at k1; cases k1
      simp at h3; rw [h3] at k2; simp at k2
  · rintro ⟨v, hv, k⟩
    obtain ⟨n, hn, rfl⟩ := bitsV_some.1 hv
    exact .inl ⟨g, _, rfl, .inl ⟨he, n, congrArg (fun v => [v]) (show s.ev x = _ from hn), rfl⟩, k⟩

/-- A closure's call, that may turn boxes: what is called, with what, and how it goes on. -/
def CloK (P : Program) (fv : PV) (args : List PV) (s : St) (d : Option Tmp) (K : St → Prop) : Prop :=
  ∃ g fn caps, fv = .fn g caps ∧ P.funcs[g]? = some fn ∧ fn.body.isSome = true ∧ (fn.name == "runtime.NumGoroutine") = false ∧
    PCallB P g (args ++ caps) s.boxes s.next fun v bx n => K ((s.afterB bx n).put d v)
theorem PS_clo (f : Tmp) (l : List Operand) (ts : Array TypeId) (hts : some ts = heavyTs) : PStepC P dr d (.call { callee := .value (.tmp f), args := l.toArray, argTypes := ts }) K s ↔
    okDst s d ∧ CloK P (s.ev (.tmp f)) (l.map s.ev) s d K := by
  refine and_congr Iff.rfl ?_
  show (if heavy (.tmp f) ts = true then _ else _) ↔ _
  rw [if_pos (show heavy (.tmp f) ts = true by simp [heavy, hts])]
  rfl
theorem CloK.of {g : FuncId} (hc : callable P g) {caps args : List PV} (h : PCallB P g (args ++ caps) s.boxes s.next fun v bx n => K ((s.afterB bx n).put d v)) : CloK P (.fn g caps) args s d K :=
  let ⟨fn, h1, h2, h3⟩ := hc; ⟨g, fn, caps, rfl, h1, h2, h3, h⟩
/-- A call of a function that lies in a slot and has captured nothing. -/
def TmpK (P : Program) (dr : Bool) (fv : PV) (args : List PV) (s : St) (d : Option Tmp) (K : St → Prop) : Prop :=
  (∃ g v, fv = .fn g [] ∧ extV P g args v ∧ K (s.put d v)) ∨
  ∃ g fn, fv = .fn g [] ∧ P.funcs[g]? = some fn ∧ fn.body.isSome = true ∧ (fn.name == "runtime.NumGoroutine") = false ∧ args.all PV.closed = true ∧
    PCall P g args s.next (fun v n D => (dr = true → D = []) ∧ (∀ f, f ∈ D → f < s.next ∧ f ≠ 0) ∧ K ((s.after n D).put d v))
theorem PS_tmp (f : Tmp) (l : List Operand) (ts : Array TypeId) (hts : some ts ≠ heavyTs) : PStepC P dr d (.call { callee := .value (.tmp f), args := l.toArray, argTypes := ts }) K s ↔
    okDst s d ∧ TmpK P dr (s.ev (.tmp f)) (l.map s.ev) s d K := by
  refine and_congr Iff.rfl ?_
  show (if heavy (.tmp f) ts = true then _ else _) ↔ _
  rw [if_neg (show ¬ heavy (.tmp f) ts = true by simp [heavy, hts])]
  simp only [TmpK, List.all_map]
  rfl
theorem TmpK.of {g : FuncId} (hc : callable P g) {args : List PV} (ha : args.all PV.closed = true) (h : PCall P g args s.next (fun v n D => (dr = true → D = []) ∧ (∀ f, f ∈ D → f < s.next ∧ f ≠ 0) ∧ K ((s.after n D).put d v))) : TmpK P dr (.fn g []) args s d K :=
  let ⟨fn, h1, h2, h3⟩ := hc; .inr ⟨g, fn, rfl, h1, h2, h3, ha, h⟩

/-- A call whose outcome is known. -/
theorem PS_call_of {g : FuncId} (hc : callable P g) (l : List Operand) (ts : Array TypeId) {Q : PV → Nat → List Nat → Prop} (hd : okDst s d) (hcl : (l.all fun x => (s.ev x).closed) = true) (hp : PCall P g (l.map s.ev) s.next Q)
    (hq : ∀ v n D, s.next ≤ n → Q v n D → (dr = true → D = []) ∧ (∀ f, f ∈ D → f < s.next ∧ f ≠ 0) ∧ K ((s.after n D).put d v)) : PStepC P dr d (.call { callee := .value (.func g), args := l.toArray, argTypes := ts }) K s :=
  (PS_call hc l ts).2 ⟨hd, hcl, hp.mono hq⟩
end rules

section values
variable (P : Program) (t : TypeId)
@[simp] theorem fieldAddrV_box (f k o : Nat) : fieldAddrV P t f (.box k o) = (match tfld P t f with | some (off, z) => if z = 0 then none else some (.box k (o + off)) | none => none) := nrfl rfl
@[simp] theorem fieldAddrV_elt (f : Nat) (i : Sid) (z' : Nat) (es : List PV) (j c : Nat) : fieldAddrV P t f (.elt i z' es j c) = (match tfld P t f with | some (off, z) => if z = 0 then none else some (.elt i z' es j (c + off)) | none => none) := nrfl rfl
@[simp] theorem loadV_box (bs : List (List PV)) (k off : Nat) : loadV P bs t (.box k off) = (match bs[k]? with | some cs => loadP P t cs off | none => none) := nrfl rfl
@[simp] theorem loadV_elt (bs : List (List PV)) (i : Sid) (z : Nat) (es : List PV) (j c : Nat) : loadV P bs t (.elt i z es j c) = (match es[j]? with | some e => loadP P t e.cells c | none => none) := nrfl rfl
@[simp] theorem lenV_sl (i : Sid) (z : Nat) (es : List PV) : lenV P t (.sl i z es) = if (tslice P t).isSome then some (.int .i64 es.length) else none := nrfl rfl
@[simp] theorem indexAddrV_sl (i : Sid) (z : Nat) (es : List PV) (k : IntKind) (n : Int) : indexAddrV P t (.sl i z es) (.int k n) = (match tslice P t with | some e => if 0 ≤ n ∧ n < es.length then (if tsize P e = some z then some (.elt i z es n.toNat 0) else none) else none | none => none) := nrfl rfl
@[simp] theorem loadV_gp (bs : List (List PV)) (b off : Nat) : loadV P bs t (.gp b off) = (match tabOf b with | some cs => loadP P t cs off | none => none) := nrfl rfl
@[simp] theorem indexAddrV_gp (b off : Nat) (k : IntKind) (n : Int) : indexAddrV P t (.gp b off) (.int k n) = (match tarr P t with | some (len, e) => (match tsize P e with | some z => if 0 ≤ n ∧ n < len then some (.gp b (off + n.toNat * z)) else none | none => none) | none => none) := nrfl rfl
@[simp] theorem indexAddrV_box (b off : Nat) (k : IntKind) (n : Int) : indexAddrV P t (.box b off) (.int k n) = (match tarr P t with | some (len, e) => (match tsize P e with | some z => if 0 ≤ n ∧ n < len then some (.box b (off + n.toNat * z)) else none | none => none) | none => none) := nrfl rfl
@[simp] theorem binPV_shl (k k' : IntKind) (a b : Int) : binPV P .shl t (.int k a) (.int k' b) = if b < 0 then none else some (.int k (k.wrap (a * 2 ^ (min b.toNat k.bits)))) := nrfl rfl
@[simp] theorem binPV_shr (k k' : IntKind) (a b : Int) : binPV P .shr t (.int k a) (.int k' b) = if b < 0 then none else some (.int k (a.fdiv (2 ^ (min b.toNat k.bits)))) := nrfl rfl
@[simp] theorem binPV_add (k : IntKind) (a b : Int) : binPV P .add t (.int k a) (.int k b) = some (.int k (k.wrap (a + b))) := by simp [binPV, binInt]
@[simp] theorem binPV_sub (k : IntKind) (a b : Int) : binPV P .sub t (.int k a) (.int k b) = some (.int k (k.wrap (a - b))) := by simp [binPV, binInt]
@[simp] theorem binPV_mul (k : IntKind) (a b : Int) : binPV P .mul t (.int k a) (.int k b) = some (.int k (k.wrap (a * b))) := by simp [binPV, binInt]
@[simp] theorem binPV_quo (k : IntKind) (a b : Int) : binPV P .quo t (.int k a) (.int k b) = if b = 0 then none else some (.int k (k.wrap (a.tdiv b))) := by simp [binPV, binInt]
@[simp] theorem binPV_rem (k : IntKind) (a b : Int) : binPV P .rem t (.int k a) (.int k b) = if b = 0 then none else some (.int k (a.tmod b)) := by simp [binPV, binInt]
@[simp] theorem binPV_and (k : IntKind) (a b : Int) : binPV P .and t (.int k a) (.int k b) = some (.int k (k.wrap (BitVec.ofInt k.bits a &&& BitVec.ofInt k.bits b).toNat)) := by simp [binPV, binInt]
@[simp] theorem binPV_or (k : IntKind) (a b : Int) : binPV P .or t (.int k a) (.int k b) = some (.int k (k.wrap (BitVec.ofInt k.bits a ||| BitVec.ofInt k.bits b).toNat)) := by simp [binPV, binInt]
@[simp] theorem binPV_xor (k : IntKind) (a b : Int) : binPV P .xor t (.int k a) (.int k b) = some (.int k (k.wrap (BitVec.ofInt k.bits a ^^^ BitVec.ofInt k.bits b).toNat)) := by simp [binPV, binInt]
@[simp] theorem binPV_andNot (k : IntKind) (a b : Int) : binPV P .andNot t (.int k a) (.int k b) = some (.int k (k.wrap (BitVec.ofInt k.bits a &&& ~~~(BitVec.ofInt k.bits b)).toNat)) := by simp [binPV, binInt]
@[simp] theorem binPV_eql (k : IntKind) (a b : Int) : binPV P .eql t (.int k a) (.int k b) = some (.bool (a == b)) := by simp [binPV, binInt]
@[simp] theorem binPV_neq (k : IntKind) (a b : Int) : binPV P .neq t (.int k a) (.int k b) = some (.bool (a != b)) := by simp [binPV, binInt]
@[simp] theorem binPV_lss (k : IntKind) (a b : Int) : binPV P .lss t (.int k a) (.int k b) = some (.bool (decide (a < b))) := by simp [binPV, binInt]
@[simp] theorem binPV_leq (k : IntKind) (a b : Int) : binPV P .leq t (.int k a) (.int k b) = some (.bool (decide (a ≤ b))) := by simp [binPV, binInt]
@[simp] theorem binPV_gtr (k : IntKind) (a b : Int) : binPV P .gtr t (.int k a) (.int k b) = some (.bool (decide (b < a))) := by simp [binPV, binInt]
@[simp] theorem binPV_geq (k : IntKind) (a b : Int) : binPV P .geq t (.int k a) (.int k b) = some (.bool (decide (b ≤ a))) := by simp [binPV, binInt]
@[simp] theorem binPV_eqlf (k : FloatKind) (a b : Nat) : binPV P .eql t (.float k a) (.float k b) = some (.bool (k.format.order a b == some .eq)) := by simp [binPV, binFloat]
@[simp] theorem binPV_neqf (k : FloatKind) (a b : Nat) : binPV P .neq t (.float k a) (.float k b) = some (.bool (k.format.order a b != some .eq)) := by simp [binPV, binFloat]
@[simp] theorem binPV_lssf (k : FloatKind) (a b : Nat) : binPV P .lss t (.float k a) (.float k b) = some (.bool (k.format.order a b == some .lt)) := by simp [binPV, binFloat]
@[simp] theorem binPV_leqf (k : FloatKind) (a b : Nat) : binPV P .leq t (.float k a) (.float k b) = some (.bool (k.format.order a b == some .lt || k.format.order a b == some .eq)) := by simp [binPV, binFloat]
@[simp] theorem binPV_gtrf (k : FloatKind) (a b : Nat) : binPV P .gtr t (.float k a) (.float k b) = some (.bool (k.format.order a b == some .gt)) := by simp [binPV, binFloat]
@[simp] theorem binPV_geqf (k : FloatKind) (a b : Nat) : binPV P .geq t (.float k a) (.float k b) = some (.bool (k.format.order a b == some .gt || k.format.order a b == some .eq)) := by simp [binPV, binFloat]
@[simp] theorem binPV_mulf (k : FloatKind) (a b : Nat) : binPV P .mul t (.float k a) (.float k b) = (k.format.mul a b).map (.float k) := by simp [binPV, binFloat]
@[simp] theorem binPV_eqlb (a b : Bool) : binPV P .eql t (.bool a) (.bool b) = if tbool P t then some (.bool (a == b)) else none := by simp [binPV]
@[simp] theorem binPV_neqb (a b : Bool) : binPV P .neq t (.bool a) (.bool b) = if tbool P t then some (.bool (!(a == b))) else none := by simp [binPV]
@[simp] theorem unPV_neg (k : IntKind) (n : Int) : unPV .neg (.int k n) = some (.int k (k.wrap (0 - n))) := nrfl rfl
@[simp] theorem unPV_xor (k : IntKind) (n : Int) : unPV .xor (.int k n) = some (.int k (k.wrap (BitVec.ofInt k.bits (if k.signed then -1 else k.max) ^^^ BitVec.ofInt k.bits n).toNat)) := nrfl rfl
@[simp] theorem unPV_not (b : Bool) : unPV .not (.bool b) = some (.bool (!b)) := nrfl rfl
@[simp] theorem convV_int (u : TypeId) (k : IntKind) (n : Int) : convV P t u (.int k n) = if tsome P t then (tint P u).map fun k => .int k (k.wrap n) else none := nrfl rfl
@[simp] theorem extractV_tup (ix : Nat) (vs : List PV) : extractV ix (.tup vs) = vs[ix]? := nrfl rfl
@[simp] theorem sliceV_sl (lo hi : Option PV) (i : Sid) (z : Nat) (es : List PV) : sliceV P t lo hi (.sl i z es) = (match tslice P t with
    | some e => (match tsize P e with
      | some zz => if zz = z ∨ es = [] then (match intOr 0 lo, intOr es.length hi with
        | some l, some h => sliceP z i es l h
        | _, _ => none) else none
      | none => none)
    | none => none) := nrfl rfl
@[simp] theorem intOr_none (d : Int) : intOr d none = some d := nrfl rfl
@[simp] theorem intOr_some (d : Int) (k : IntKind) (n : Int) : intOr d (some (.int k n)) = some n := nrfl rfl
theorem maxV_int (k k' : IntKind) (a b : Int) : maxV (.int k a) (.int k' b) = some (.int k (if b > a then b else a)) := nrfl rfl
theorem minV_int (k k' : IntKind) (a b : Int) : minV (.int k a) (.int k' b) = some (.int k (if b < a then b else a)) := nrfl rfl
@[simp] theorem maxV_nat (k k' : IntKind) (a b : Nat) : maxV (.int k (a : Int)) (.int k' (b : Int)) = some (.int k ((max a b : Nat) : Int)) := by
  rw [maxV_int]; congr 2; split <;> omega
@[simp] theorem minV_nat (k k' : IntKind) (a b : Nat) : minV (.int k (a : Int)) (.int k' (b : Int)) = some (.int k ((min a b : Nat) : Int)) := by
  rw [minV_int]; congr 2; split <;> omega
attribute [simp] loadP fillP buildV resP resV PV.closedR
end values

/-! ### lists of numbers -/
def u32s (l : List Nat) : List PV := l.map fun (x : Nat) => .int .u32 (x : Int)
@[simp] theorem u32s_length (l : List Nat) : (u32s l).length = l.length := by simp [u32s]
@[simp] theorem u32s_get (l : List Nat) (i : Nat) : (u32s l)[i]? = (l[i]?).map fun (x : Nat) => PV.int .u32 (x : Int) := by simp [u32s]
@[simp] theorem u32s_nil : u32s [] = [] := nrfl rfl
theorem u32s_append (l m : List Nat) : u32s (l ++ m) = u32s l ++ u32s m := by simp [u32s]
theorem u32s_take (l : List Nat) (n : Nat) : (u32s l).take n = u32s (l.take n) := by simp [u32s, List.map_take]
theorem u32s_drop (l : List Nat) (n : Nat) : (u32s l).drop n = u32s (l.drop n) := by simp [u32s, List.map_drop]
@[simp] theorem u32s_eq_nil (l : List Nat) : u32s l = [] ↔ l = [] := by simp [u32s]
@[simp] theorem cells_int (k : IntKind) (n : Int) : (PV.int k n).cells = [.int k n] := nrfl rfl
@[simp] theorem cells_bool (b : Bool) : (PV.bool b).cells = [.bool b] := nrfl rfl
@[simp] theorem cells_sl (i : Sid) (z : Nat) (es : List PV) : (PV.sl i z es).cells = [.sl i z es] := nrfl rfl
@[simp] theorem cells_agg (cs : List PV) : (PV.agg cs).cells = cs := nrfl rfl
@[simp] theorem sized_agg (cs : List PV) : (PV.agg cs).sized = true := nrfl rfl
@[simp] theorem sized_int (k : IntKind) (n : Int) : (PV.int k n).sized = true := nrfl rfl
@[simp] theorem sized_bool (b : Bool) : (PV.bool b).sized = true := nrfl rfl
@[simp] theorem sized_sl (i : Sid) (z : Nat) (es : List PV) : (PV.sl i z es).sized = true := nrfl rfl
@[simp] theorem isCell_int (k : IntKind) (n : Int) : (PV.int k n).isCell = true := nrfl rfl
@[simp] theorem isCell_bool (b : Bool) : (PV.bool b).isCell = true := nrfl rfl
@[simp] theorem isCell_sl (i : Sid) (z : Nat) (es : List PV) : (PV.sl i z es).isCell = true := nrfl rfl
@[simp] theorem closed_int (k : IntKind) (n : Int) : (PV.int k n).closed = true := nrfl rfl
@[simp] theorem closed_bool (b : Bool) : (PV.bool b).closed = true := nrfl rfl
@[simp] theorem closed_sl (i : Sid) (z : Nat) (es : List PV) : (PV.sl i z es).closed = true := nrfl rfl

/-- A whole number as the program has it. -/
abbrev W (neg : Bool) (i : Sid) (l : List Nat) : PV := .agg [.bool neg, .sl i 1 (u32s l)]

end Go.Proofs.YtphndngifjgeoaaGreatDoor
