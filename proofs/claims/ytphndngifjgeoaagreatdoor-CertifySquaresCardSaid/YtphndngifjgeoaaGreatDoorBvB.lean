/- The by-value logic, part B: a frame's pure state, the operations that touch no memory but to read it, and that the model's operations come to the same; for every program. -/
import Derived.Test.YtphndngifjgeoaaGreatDoorBvA
import Derived.Laws.AppendOwn
import Derived.Laws.CopyRow
set_option linter.unusedVariables false
set_option linter.unusedSimpArgs false
namespace Go.Proofs.YtphndngifjgeoaaGreatDoor

structure St where
  slots : Nat → PV
  nt : Nat
  boxes : List (List PV)
  next : Nat
  tips : List (Nat × Nat × Nat)
  D : List Nat
  n0 : Nat

def St.put (s : St) (d : Option Tmp) (v : PV) : St :=
  match d with
  | none => s
  | some d => { s with slots := fun t => if t = d then v else s.slots t }

/-- An entry keeps to what the map's entries keep to. -/
def MOk (I : MInv) (e : MapEntry) : Prop := ∃ p q n, e.key = .agg #[.int .i64 p, .int .i64 q] ∧ e.val = .int .i64 n ∧ I p q n

/-- Blocks and families fit together. -/
structure Base (L : Lay) (w : World) : Prop where
  pos : 0 < L.nx
  fam : ∀ b f, L.fam b = some f → f < L.nx ∧ b < w.heap.size
  own : ∀ b f, L.fam b = some f → f ≠ 0 → ∃ C el, w.heap[b]? = some (.cells C el (0, 0))
  tab : ∀ b C, (b, C) ∈ tabs → (∃ el fz, w.heap[b]? = some (.cells C.toArray el fz)) ∧ L.fam b = some 0
  mp : ∀ b I, L.mp b = some I → L.fam b = none ∧ ∃ es c, w.heap[b]? = some (.map es c) ∧ ∀ e, e ∈ es.toList → MOk I e

theorem Base.mlt {L : Lay} {w : World} (h : Base L w) {b : Nat} {I : MInv} (hb : L.mp b = some I) : b < w.heap.size := by
  obtain ⟨_, es, c, h1, _⟩ := h.mp b I hb
  exact (Array.getElem?_eq_some_iff.1 h1).1
/-- What is no map is under no map's keeping. -/
theorem Base.nomap {L : Lay} {w : World} (h : Base L w) {b : Nat} {C : Array Value} {el : TypeId} {fz : Nat × Nat} (hb : w.heap[b]? = some (.cells C el fz)) : L.mp b = none := by
  cases hm : L.mp b with
  | none => rfl
  | some I => obtain ⟨_, es, c, h1, _⟩ := h.mp b I hm; rw [hb] at h1; cases h1
theorem Base.nofam {L : Lay} {w : World} (h : Base L w) {b f : Nat} (hb : L.fam b = some f) : L.mp b = none := by
  cases hm : L.mp b with
  | none => rfl
  | some I => have := (h.mp b I hm).1; rw [hb] at this; cases this

/-- The frame's memory is as the pure state says. -/
structure Sim (bm : List Nat) (L : Lay) (s : St) (a : Act) (w : World) : Prop where
  slots : ∀ t, VRel bm L w (s.slots t) (a.tmps.getD t undef)
  nt : a.tmps.size = s.nt
  defers : a.defers = []
  nx : L.nx = s.next
  base : Base L w
  bml : bm.length = s.boxes.length
  bmn : bm.Nodup
  boxes : ∀ (k b : Nat) (cs : List PV), bm[k]? = some b → s.boxes[k]? = some cs → L.fam b = none ∧ ∃ C el, w.heap[b]? = some (.cells C el (0, 0)) ∧ LRel bm L w cs C.toList ∧ ∀ v ∈ C.toList, v.oneCell' = true
  tipsN : ∀ x y, x ∈ s.tips → y ∈ s.tips → (L.pl x.1).1 = (L.pl y.1).1 → x = y
  tips : ∀ g f T, (g, f, T) ∈ s.tips → g < L.nx ∧ f < L.nx ∧ ∃ b base, L.pl g = (b, base) ∧ L.fam b = some f ∧ s.n0 ≤ f ∧ L.lim b = base + T
  n0 : 0 < s.n0 ∧ s.n0 ≤ s.next

/-! ### what the types' table says -/
def tagg (P : Program) (t : TypeId) : Option Bool :=
  match P.underlying t with
  | some (.struct _) => some true
  | some (.array _ _) => some true
  | some _ => some false
  | none => none
def tsize (P : Program) (t : TypeId) : Option Nat := (P.info? t).map (·.size)
def tbytes (P : Program) (t : TypeId) : Option Nat := (P.info? t).map (·.bytes)
def tfld (P : Program) (t : TypeId) (i : Nat) : Option (Nat × Nat) :=
  match P.underlying t with
  | some (.struct fs) =>
    match fs[i]? with
    | some f => (tsize P f.type).map fun z => (f.offset, z)
    | none => none
  | _ => none
def tfldAgg (P : Program) (t : TypeId) (i : Nat) : Option Bool :=
  match P.underlying t with
  | some (.struct fs) =>
    match fs[i]? with
    | some f => tagg P f.type
    | none => none
  | _ => none
def tslice (P : Program) (t : TypeId) : Option TypeId := match P.underlying t with | some (.slice e) => some e | _ => none
def tarr (P : Program) (t : TypeId) : Option (Nat × TypeId) := match P.underlying t with | some (.array n e) => some (n, e) | _ => none
def tint (P : Program) (t : TypeId) : Option IntKind := match P.underlying t with | some (.int k) => some k | _ => none
def tbool (P : Program) (t : TypeId) : Bool := match P.underlying t with | some .bool => true | _ => false
def tsome (P : Program) (t : TypeId) : Bool := (P.underlying t).isSome

def ofConst1 : Value → PV
  | .bool b => .bool b
  | .int k n => .int k n
  | .float k n => .float k n
  | .slice none 0 0 => .sl ⟨0, 0, 0⟩ 1 []
  | _ => .undef
def ofConst : Value → PV
  | .agg C => .agg (C.toList.map ofConst1)
  | v => ofConst1 v
def tzero (P : Program) (t : TypeId) : Option PV := ((P.info? t).bind (·.zero)).map ofConst

theorem ofConst1_rel (bm : List Nat) (L : Lay) (w : World) (v : Value) : VRel bm L w (ofConst1 v) v := by
  unfold ofConst1
  split
  · simp [VRel]
  · simp [VRel]
  · simp [VRel]
  · unfold VRel; exact ⟨none, 0, rfl, .inl ⟨rfl, rfl⟩⟩
  · simp [VRel]

theorem ofConst1_list (bm : List Nat) (L : Lay) (w : World) : ∀ l : List Value, LRel bm L w (l.map ofConst1) l
  | [] => by simp [LRel]
  | v :: l => by
    simp only [List.map_cons]; unfold LRel
    exact ⟨v, l, rfl, ofConst1_rel bm L w v, ofConst1_list bm L w l⟩

theorem ofConst_rel (bm : List Nat) (L : Lay) (w : World) (v : Value) : VRel bm L w (ofConst v) v := by
  by_cases h : ∃ C, v = .agg C
  · obtain ⟨C, rfl⟩ := h
    simp only [ofConst]; unfold VRel
    exact ⟨_, rfl, ofConst1_list bm L w _⟩
  · have : ofConst v = ofConst1 v := by cases v <;> first | rfl | exact absurd ⟨_, rfl⟩ h
    rw [this]
    exact ofConst1_rel bm L w v

def St.ev (s : St) : Operand → PV
  | .tmp t => s.slots t
  | .const v => ofConst v
  | .global g => .gp g 0
  | .func f => .fn f []

section
variable {P : Program} {bm : List Nat} {L : Lay} {s : St} {a : Act} {w : World}

theorem Sim.ev (h : Sim bm L s a w) (x : Operand) : VRel bm L w (s.ev x) (a.eval x) := by
  cases x with
  | tmp t => exact h.slots t
  | const v => exact ofConst_rel bm L w v
  | global g => simp only [St.ev]; unfold VRel; rfl
  | func f => simp [St.ev, Act.eval, VRel, LRel]

/-! ### relations taken apart -/
theorem VRel.bool {b : Bool} {v : Value} (h : VRel bm L w (.bool b) v) : v = .bool b := by simpa [VRel] using h
theorem VRel.int {k : IntKind} {n : Int} {v : Value} (h : VRel bm L w (.int k n) v) : v = .int k n := by simpa [VRel] using h
theorem VRel.float {k : FloatKind} {n : Nat} {v : Value} (h : VRel bm L w (.float k n) v) : v = .float k n := by simpa [VRel] using h

theorem LRel.length : ∀ {cs : List PV} {vs : List Value}, LRel bm L w cs vs → cs.length = vs.length
  | [], vs, h => by simp [LRel] at h; simp [h]
  | c :: cs, vs, h => by
    unfold LRel at h
    obtain ⟨v, vs', rfl, _, h2⟩ := h
    simp [LRel.length h2]

theorem LRel.get : ∀ {cs : List PV} {vs : List Value}, LRel bm L w cs vs → ∀ (j : Nat) (c : PV), cs[j]? = some c → ∃ v, vs[j]? = some v ∧ VRel bm L w c v
  | [], vs, h, j, c, hc => by simp at hc
  | c' :: cs, vs, h, j, c, hc => by
    unfold LRel at h
    obtain ⟨v, vs', rfl, h1, h2⟩ := h
    cases j with
    | zero => simp at hc; subst hc; exact ⟨v, by simp, h1⟩
    | succ j => simp at hc; obtain ⟨u, hu, hr⟩ := LRel.get h2 j c hc; exact ⟨u, by simpa using hu, hr⟩

theorem LRel.of_get : ∀ {cs : List PV} {vs : List Value}, cs.length = vs.length → (∀ (j : Nat) (c : PV) (v : Value), cs[j]? = some c → vs[j]? = some v → VRel bm L w c v) → LRel bm L w cs vs
  | [], vs, h, _ => by
    have : vs = [] := List.eq_nil_of_length_eq_zero (by simpa using h.symm)
    simp [LRel, this]
  | c :: cs, [], h, _ => by simp at h
  | c :: cs, v :: vs, h, hg => by
    unfold LRel
    exact ⟨v, vs, rfl, hg 0 c v rfl rfl, LRel.of_get (by simpa using h) fun j c v hc hv => hg (j + 1) c v (by simpa using hc) (by simpa using hv)⟩

theorem LRel.append {cs ds : List PV} {vs us : List Value} (h : LRel bm L w cs vs) (k : LRel bm L w ds us) : LRel bm L w (cs ++ ds) (vs ++ us) := by
  have hl := h.length
  refine LRel.of_get (by simp [hl, k.length]) fun j c v hc hv => ?_
  rw [List.getElem?_append] at hc hv
  rw [hl] at hc
  split at hc
  · rename_i hj
    rw [if_pos hj] at hv
    obtain ⟨u, hu, hr⟩ := h.get j c hc
    rw [hv] at hu; cases hu; exact hr
  · rename_i hj
    rw [if_neg hj] at hv
    obtain ⟨u, hu, hr⟩ := k.get _ c hc
    rw [hv] at hu; cases hu; exact hr

theorem LRel.take {cs : List PV} {vs : List Value} (h : LRel bm L w cs vs) (n : Nat) : LRel bm L w (cs.take n) (vs.take n) := by
  refine LRel.of_get (by simp [h.length]) fun j c v hc hv => ?_
  rw [List.getElem?_take] at hc hv
  split at hc
  · rename_i hj
    rw [if_pos hj] at hv
    obtain ⟨u, hu, hr⟩ := h.get j c hc
    rw [hv] at hu; cases hu; exact hr
  · cases hc

theorem LRel.drop {cs : List PV} {vs : List Value} (h : LRel bm L w cs vs) (n : Nat) : LRel bm L w (cs.drop n) (vs.drop n) := by
  refine LRel.of_get (by simp [h.length]) fun j c v hc hv => ?_
  rw [List.getElem?_drop] at hc hv
  obtain ⟨u, hu, hr⟩ := h.get _ c hc
  rw [hv] at hu; cases hu; exact hr

/-- A known value's cells. -/
def PV.sized : PV → Bool
  | .undef | .tup _ => false
  | _ => true

theorem PV.sized_of_isCell {p : PV} (h : p.isCell = true) : p.sized = true := by cases p <;> simp_all [PV.isCell, PV.sized]

theorem VRel.oneCell {p : PV} {v : Value} (h : VRel bm L w p v) (hp : p.isCell = true) : v.oneCell' = true := by
  cases p <;> simp [PV.isCell] at hp <;> unfold VRel at h
  all_goals first
    | (subst h; rfl)
    | (obtain ⟨_, _, rfl, _⟩ := h; rfl)
    | (obtain ⟨_, _, rfl⟩ := h; rfl)
    | (obtain ⟨_, _, _, rfl, _⟩ := h; rfl)
    | (obtain ⟨_, rfl, _⟩ := h; rfl)

theorem oneCell_cells {v : Value} (h : v.oneCell' = true) : v.cells = #[v] := by
  cases v <;> first | rfl | simp [Value.oneCell'] at h

theorem VRel.cells {p : PV} {v : Value} (h : VRel bm L w p v) (hp : p.sized = true) : LRel bm L w p.cells v.cells.toList := by
  by_cases hc : p.isCell = true
  · have h1 := h.oneCell hc
    have : p.cells = [p] := by cases p <;> first | rfl | simp [PV.isCell] at hc
    rw [this, oneCell_cells h1]
    simp [LRel, h]
  · cases p <;> simp_all [PV.isCell, PV.sized]
    unfold VRel at h
    obtain ⟨C, rfl, h⟩ := h
    exact h

/-! ### reading cells -/
theorem KRel.get1 : ∀ {cs : List PV} {b o : Nat}, KRel L w b cs o → ∀ (j : Nat) (c : PV), cs[j]? = some c → ∃ v, w.cell? ⟨b, o + j, none⟩ = some v ∧ v.oneCell' = true ∧ VRel [] L w c v
  | [], b, o, h, j, c, hc => by simp at hc
  | c' :: cs, b, o, h, j, c, hc => by
    unfold KRel at h
    obtain ⟨h1, h2⟩ := h
    cases j with
    | zero => simp at hc; subst hc; exact h1
    | succ j =>
      simp at hc
      have := KRel.get1 h2 j c hc
      rwa [show o + 1 + j = o + (j + 1) from by omega] at this

theorem KRel.get {cs : List PV} {b o : Nat} (h : KRel L w b cs o) (j : Nat) (c : PV) (hc : cs[j]? = some c) : ∃ v, w.cell? ⟨b, o + j, none⟩ = some v ∧ VRel [] L w c v :=
  let ⟨v, h1, _, h2⟩ := h.get1 j c hc; ⟨v, h1, h2⟩

/-- An element's cells lie at its place. -/
theorem ERel.get : ∀ {es : List PV} {z b o : Nat}, ERel L w z b es o → ∀ (j : Nat) (e : PV), es[j]? = some e → e.cells.length = z ∧ KRel L w b e.cells (o + j * z)
  | [], z, b, o, h, j, e, hc => by simp at hc
  | e' :: es, z, b, o, h, j, e, hc => by
    have key : e'.cells.length = z ∧ KRel L w b e'.cells o ∧ ERel L w z b es (o + z) := by
      by_cases ha : ∃ cs, e' = .agg cs
      · obtain ⟨cs, rfl⟩ := ha
        rw [ERel_agg] at h
        exact h
      · have ha' : ∀ cs, e' ≠ .agg cs := fun cs hc => ha ⟨cs, hc⟩
        rw [ERel_cell _ _ _ _ _ ha'] at h
        have : e'.cells = [e'] := by cases e' <;> first | rfl | exact absurd rfl (ha' _)
        rw [this]
        obtain ⟨h1, h2, h3⟩ := h
        refine ⟨by simp [h1], ?_, h3⟩
        unfold KRel
        exact ⟨h2, by simp [KRel]⟩
    cases j with
    | zero => simp at hc; subst hc; simpa using ⟨key.1, key.2.1⟩
    | succ j =>
      simp at hc
      have := ERel.get key.2.2 j e hc
      rwa [show o + z + j * z = o + (j + 1) * z from by rw [Nat.add_mul]; omega] at this

theorem ERel.length {es : List PV} {z b o : Nat} (h : ERel L w z b es o) : ∀ e ∈ es, e.cells.length = z := by
  intro e he
  obtain ⟨j, hj⟩ := List.mem_iff_getElem?.1 he
  exact (h.get j e hj).1

theorem KRel.of_get : ∀ {cs : List PV} {b o : Nat}, (∀ (j : Nat) (c : PV), cs[j]? = some c → ∃ v, w.cell? ⟨b, o + j, none⟩ = some v ∧ v.oneCell' = true ∧ VRel [] L w c v) → KRel L w b cs o
  | [], b, o, _ => by simp [KRel]
  | c :: cs, b, o, h => by
    unfold KRel
    exact ⟨by simpa using h 0 c rfl, KRel.of_get fun j c' hc => by
      have := h (j + 1) c' (by simpa using hc)
      rwa [show o + (j + 1) = o + 1 + j from by omega] at this⟩

theorem ERel.of_get : ∀ {es : List PV} {z b o : Nat}, (∀ (j : Nat) (e : PV), es[j]? = some e → e.cells.length = z ∧ KRel L w b e.cells (o + j * z)) → ERel L w z b es o
  | [], z, b, o, _ => by simp [ERel]
  | e :: es, z, b, o, h => by
    have h0 := h 0 e rfl
    have ht : ERel L w z b es (o + z) := ERel.of_get fun j e' he => by
      have := h (j + 1) e' (by simpa using he)
      rwa [show o + (j + 1) * z = o + z + j * z from by rw [Nat.add_mul]; omega] at this
    simp only [Nat.zero_mul, Nat.add_zero] at h0
    by_cases ha : ∃ cs, e = .agg cs
    · obtain ⟨cs, rfl⟩ := ha
      rw [ERel_agg]
      exact ⟨h0.1, h0.2, ht⟩
    · have ha' : ∀ cs, e ≠ .agg cs := fun cs hc => ha ⟨cs, hc⟩
      rw [ERel_cell _ _ _ _ _ ha']
      have hcs : e.cells = [e] := by cases e <;> first | rfl | exact absurd rfl (ha' _)
      rw [hcs] at h0
      have h1 := h0.2
      unfold KRel at h1
      exact ⟨by simpa using h0.1.symm, h1.1, ht⟩

mutual
/-- What bears no pointer to a box hangs on no boxes. -/
theorem VRel.shut (L : Lay) (w : World) (bm' : List Nat) : ∀ (p : PV) (v : Value), VRel [] L w p v → VRel bm' L w p v
  | .undef, v, h => by simp [VRel]
  | .bool b, v, h => by simpa [VRel] using h
  | .int k n, v, h => by simpa [VRel] using h
  | .float k n, v, h => by simpa [VRel] using h
  | .sl i z es, v, h => by unfold VRel at h ⊢; exact h
  | .elt i z es j c, v, h => by unfold VRel at h ⊢; exact h
  | .agg cs, v, h => by unfold VRel at h ⊢; obtain ⟨C, e, h⟩ := h; exact ⟨C, e, LRel.shut L w bm' cs _ h⟩
  | .tup cs, v, h => by unfold VRel at h ⊢; obtain ⟨C, e, h⟩ := h; exact ⟨C, e, LRel.shut L w bm' cs _ h⟩
  | .box k o, v, h => by unfold VRel at h; obtain ⟨b, hb, _⟩ := h; simp at hb
  | .gp b o, v, h => by simpa [VRel] using h
  | .map I, v, h => by simpa [VRel] using h
  | .fn f cs, v, h => by unfold VRel at h ⊢; obtain ⟨C, e, h⟩ := h; exact ⟨C, e, LRel.shut L w bm' cs _ h⟩
theorem LRel.shut (L : Lay) (w : World) (bm' : List Nat) : ∀ (l : List PV) (vs : List Value), LRel [] L w l vs → LRel bm' L w l vs
  | [], vs, h => by simpa [LRel] using h
  | c :: cs, vs, h => by
    unfold LRel at h ⊢
    obtain ⟨v, vs', e, h1, h2⟩ := h
    exact ⟨v, vs', e, VRel.shut L w bm' c v h1, LRel.shut L w bm' cs vs' h2⟩
end

theorem closed1 {bm : List Nat} : ∀ {p : PV}, (match p with | .bool _ | .int _ _ | .float _ _ | .sl _ _ _ | .elt _ _ _ _ _ | .map _ => true | _ => false : Bool) = true → ∀ {v : Value}, VRel bm L w p v → VRel [] L w p v
  | .bool b, _, v, h => by simpa [VRel] using h
  | .int k n, _, v, h => by simpa [VRel] using h
  | .float k n, _, v, h => by simpa [VRel] using h
  | .sl i z es, _, v, h => by unfold VRel at h ⊢; exact h
  | .elt i z es j c, _, v, h => by unfold VRel at h ⊢; exact h
  | .map I, _, v, h => by unfold VRel at h ⊢; exact h

theorem VRel.open {p : PV} (hp : p.closed = true) {v : Value} (h : VRel bm L w p v) : VRel [] L w p v := by
  cases p <;> simp [PV.closed] at hp
  case bool => simpa [VRel] using h
  case int => simpa [VRel] using h
  case float => simpa [VRel] using h
  case sl => unfold VRel at h ⊢; exact h
  case elt => unfold VRel at h ⊢; exact h
  case map => unfold VRel at h ⊢; exact h
  case agg cs =>
    unfold VRel at h ⊢
    obtain ⟨C, e, h⟩ := h
    refine ⟨C, e, LRel.of_get h.length fun j c v hc hv => ?_⟩
    obtain ⟨u, hu, hr⟩ := h.get j c hc
    rw [hv] at hu; cases hu
    exact closed1 (hp c (List.mem_of_getElem? hc)) hr
  case fn f cs =>
    cases cs with
    | nil => unfold VRel at h ⊢; obtain ⟨C, e, h⟩ := h; exact ⟨C, e, by simpa [LRel] using h⟩
    | cons c cs => simp at hp
end
end Go.Proofs.YtphndngifjgeoaaGreatDoor
