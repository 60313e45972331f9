/- The by-value logic, part C: the light operations, and that the model's come to the same; for every program. -/
import Derived.Test.YtphndngifjgeoaaGreatDoorBvB
import Derived.Laws.StructEq
import Derived.Laws.FloatArith
set_option linter.unusedVariables false
set_option linter.unusedSimpArgs false
namespace Go.Proofs.YtphndngifjgeoaaGreatDoor

def loadP (P : Program) (t : TypeId) (cs : List PV) (off : Nat) : Option PV :=
  match tagg P t with
  | some true => match tsize P t with
    | some n => if off + n ≤ cs.length then some (.agg ((cs.drop off).take n)) else none
    | none => none
  | some false => cs[off]?
  | none => none

def binInt (op : BinOp) (k : IntKind) (a b : Int) : Option PV :=
  match op with
  | .add => some (.int k (k.wrap (a + b)))
  | .sub => some (.int k (k.wrap (a - b)))
  | .mul => some (.int k (k.wrap (a * b)))
  | .quo => if b = 0 then none else some (.int k (k.wrap (a.tdiv b)))
  | .rem => if b = 0 then none else some (.int k (a.tmod b))
  | .and => some (.int k (k.wrap (BitVec.ofInt k.bits a &&& BitVec.ofInt k.bits b).toNat))
  | .or => some (.int k (k.wrap (BitVec.ofInt k.bits a ||| BitVec.ofInt k.bits b).toNat))
  | .xor => some (.int k (k.wrap (BitVec.ofInt k.bits a ^^^ BitVec.ofInt k.bits b).toNat))
  | .andNot => some (.int k (k.wrap (BitVec.ofInt k.bits a &&& ~~~(BitVec.ofInt k.bits b)).toNat))
  | .eql => some (.bool (a == b))
  | .neq => some (.bool (a != b))
  | .lss => some (.bool (decide (a < b)))
  | .leq => some (.bool (decide (a ≤ b)))
  | .gtr => some (.bool (decide (a > b)))
  | .geq => some (.bool (decide (a ≥ b)))
  | _ => none

/-- Two floats compared. -/
def binFloat (op : BinOp) (k : FloatKind) (a b : Nat) : Option PV :=
  match op with
  | .eql => some (.bool (k.format.order a b == some .eq))
  | .neq => some (.bool (k.format.order a b != some .eq))
  | .lss => some (.bool (k.format.order a b == some .lt))
  | .leq => some (.bool (k.format.order a b == some .lt || k.format.order a b == some .eq))
  | .gtr => some (.bool (k.format.order a b == some .gt))
  | .geq => some (.bool (k.format.order a b == some .gt || k.format.order a b == some .eq))
  | .mul => (k.format.mul a b).map (.float k)
  | _ => none

def shiftInt (op : BinOp) (k : IntKind) (a b : Int) : Option PV :=
  if b < 0 then none else
  match op with
  | .shl => some (.int k (k.wrap (a * 2 ^ (min b.toNat k.bits))))
  | .shr => some (.int k (a.fdiv (2 ^ (min b.toNat k.bits))))
  | _ => none

/-- Two structs of single numbers, field by field. -/
def eqFieldsV (P : Program) (xs ys : List PV) : List Field → Option Bool
  | [] => some true
  | f :: fs => if f.name = "_" then eqFieldsV P xs ys fs else
    match P.underlying f.type, tagg P f.type, xs[f.offset]?, ys[f.offset]? with
    | some .bool, some false, some (.bool a), some (.bool b) => if a == b then eqFieldsV P xs ys fs else some false
    | some (.int _), some false, some (.int k a), some (.int k' b) => if k = k' then (if a == b then eqFieldsV P xs ys fs else some false) else none
    | _, _, _, _ => none
def eqAggV (P : Program) (t : TypeId) (xs ys : List PV) : Option Bool :=
  match P.underlying t with
  | some (.struct fs) => if P.stoodInHeld t = false ∧ P.eqGuardType P.depth t = false then eqFieldsV P xs ys fs.toList else none
  | _ => none
def binPV (P : Program) (op : BinOp) (t : TypeId) (x y : PV) : Option PV :=
  match x, y with
  | .int k a, .int k' b =>
    if op == .shl || op == .shr then shiftInt op k a b
    else if k = k' then binInt op k a b else none
  | .float k a, .float k' b => if k = k' then binFloat op k a b else none
  | .bool a, .bool b =>
    if tbool P t then (match op with | .eql => some (.bool (a == b)) | .neq => some (.bool (!(a == b))) | _ => none) else none
  | .agg xs, .agg ys => match op with | .eql => (eqAggV P t xs ys).map .bool | .neq => (eqAggV P t xs ys).map fun b => .bool (!b) | _ => none
  | _, _ => none

def unPV (op : UnOp) (x : PV) : Option PV :=
  match op, x with
  | .neg, .int k n => some (.int k (k.wrap (0 - n)))
  | .xor, .int k n => some (.int k (k.wrap (BitVec.ofInt k.bits (if k.signed then -1 else k.max) ^^^ BitVec.ofInt k.bits n).toNat))
  | .not, .bool b => some (.bool (!b))
  | _, _ => none

/-- A struct's fields: where each lies, how many cells it has. -/
def tplaces (P : Program) (t : TypeId) : Option (List (Nat × Nat)) :=
  match P.underlying t with
  | some (.struct fs) => fs.toList.mapM fun f => (tsize P f.type).map fun z => (f.offset, z)
  | _ => none

def fillP (pl : List (Nat × Nat)) (cells : List PV) : List (Nat × PV) → Option (List PV)
  | [] => some cells
  | (i, v) :: rest =>
    match pl[i]? with
    | none => none
    | some (off, z) =>
      if v.sized = true ∧ v.cells.length = z ∧ off + z ≤ cells.length then fillP pl (cells.take off ++ v.cells ++ cells.drop (off + z)) rest else none

/-- A slice's piece: from lo up to hi. -/
def sliceP (z : Nat) (i : Sid) (es : List PV) (lo hi : Int) : Option PV :=
  if 0 ≤ lo ∧ lo ≤ hi ∧ hi ≤ es.length then some (.sl ⟨i.f, i.g, i.off + lo.toNat * z⟩ z ((es.drop lo.toNat).take (hi.toNat - lo.toNat))) else none

def intOr (d : Int) : Option PV → Option Int
  | none => some d
  | some (.int _ n) => some n
  | _ => none

def pickV (c x y : PV) : Option PV :=
  match c with
  | .bool t => some (if t then x else y)
  | _ => none
/-- What a table of the program reads as. -/
def tabOf (b : Nat) : Option (List PV) := (tabs.find? fun x => x.1 == b).map fun x => x.2.map ofConst1
def loadV (P : Program) (boxes : List (List PV)) (t : TypeId) (x : PV) : Option PV :=
  match x with
  | .box k off => match boxes[k]? with
    | some cs => loadP P t cs off
    | none => none
  | .elt _ _ es j c => match es[j]? with
    | some e => loadP P t e.cells c
    | none => none
  | .gp b off => match tabOf b with
    | some cs => loadP P t cs off
    | none => none
  | _ => none
def fieldAddrV (P : Program) (t : TypeId) (f : Nat) (x : PV) : Option PV :=
  match tfld P t f with
  | some (off, z) => if z = 0 then none else match x with
    | .box k o => some (.box k (o + off))
    | .elt i z' es j c => some (.elt i z' es j (c + off))
    | _ => none
  | none => none
def indexAddrV (P : Program) (t : TypeId) (x y : PV) : Option PV :=
  match x, y with
  | .sl i z es, .int _ n => match tslice P t with
    | some e => if 0 ≤ n ∧ n < es.length then (if tsize P e = some z then some (.elt i z es n.toNat 0) else none) else none
    | none => none
  | .box k off, .int _ n => match tarr P t with
    | some (len, e) => match tsize P e with
      | some z => if 0 ≤ n ∧ n < len then some (.box k (off + n.toNat * z)) else none
      | none => none
    | none => none
  | .gp b off, .int _ n => match tarr P t with
    | some (len, e) => match tsize P e with
      | some z => if 0 ≤ n ∧ n < len then some (.gp b (off + n.toNat * z)) else none
      | none => none
    | none => none
  | _, _ => none
def indexV (P : Program) (t : TypeId) (x y : PV) : Option PV :=
  match x, y with
  | .agg cs, .int _ n => match tarr P t with
    | some (len, e) => match tsize P e with
      | some z => if 0 ≤ n ∧ n < len then loadP P e cs (n.toNat * z) else none
      | none => none
    | none => none
  | _, _ => none
/-- A byte of a text that stands in the code. -/
def strAt (P : Program) (t : TypeId) (b : ByteArray) (y : PV) : Option PV :=
  match y, P.underlying t with
  | .int _ n, some .string => if 0 ≤ n then (b[n.toNat]?).map fun c => .int .u8 c.toNat else none
  | _, _ => none
def indexC (P : Program) (t : TypeId) (x : Operand) (v y : PV) : Option PV :=
  match x with
  | .const (.string b) => strAt P t b y
  | _ => indexV P t v y
def fieldV (P : Program) (t : TypeId) (f : Nat) (x : PV) : Option PV :=
  match x with
  | .agg cs => match tfld P t f, tfldAgg P t f with
    | some (off, z), some true => if off + z ≤ cs.length then some (.agg ((cs.drop off).take z)) else none
    | some (off, _), some false => cs[off]?
    | _, _ => none
  | _ => none
def convV (P : Program) (src dst : TypeId) (x : PV) : Option PV :=
  match x with
  | .int _ n => if tsome P src then (tint P dst).map fun k => .int k (k.wrap n) else none
  | _ => none
def extractV (ix : Nat) (x : PV) : Option PV :=
  match x with
  | .tup vs => vs[ix]?
  | _ => none
/-- An array's places. -/
def aplaces (P : Program) (t : TypeId) : Option (List (Nat × Nat)) :=
  match tarr P t with
  | some (n, e) => (tsize P e).map fun z => (List.range n).map fun i => (i * z, z)
  | none => none
def buildV (P : Program) (t : TypeId) (parts : List (Nat × PV)) : Option PV :=
  match tzero P t, tplaces P t, aplaces P t with
  | some (.agg zero), some pl, _ => (fillP pl zero parts).map .agg
  | some (.agg zero), none, some pl => if (parts.all fun x => decide (x.1 < pl.length)) = true then (fillP pl zero parts).map .agg else none
  | _, _, _ => none
def sliceV (P : Program) (t : TypeId) (lo hi : Option PV) (x : PV) : Option PV :=
  match x with
  | .sl i z es => match tslice P t with
    | some e => match tsize P e with
      | some zz => if zz = z ∨ es = [] then (match intOr 0 lo, intOr es.length hi with
        | some l, some h => sliceP z i es l h
        | _, _ => none) else none
      | none => none
    | none => none
  | _ => none
def lenV (P : Program) (t : TypeId) (x : PV) : Option PV :=
  match x with
  | .sl _ _ es => if (tslice P t).isSome then some (.int .i64 es.length) else none
  | _ => match tarr P t with
    | some (n, _) => some (.int .i64 n)
    | none => none
def maxV (x y : PV) : Option PV :=
  match x, y with
  | .int k a, .int _ b => some (.int k (if b > a then b else a))
  | _, _ => none
def max3V (x y z : PV) : Option PV :=
  match x, y, z with
  | .int k a, .int _ b, .int _ c => some (.int k (if c > (if b > a then b else a) then c else (if b > a then b else a)))
  | _, _, _ => none
def minV (x y : PV) : Option PV :=
  match x, y with
  | .int k a, .int _ b => some (.int k (if b < a then b else a))
  | _, _ => none
def min3V (x y z : PV) : Option PV :=
  match x, y, z with
  | .int k a, .int _ b, .int _ c => some (.int k (if c < (if b < a then b else a) then c else (if b < a then b else a)))
  | _, _, _ => none
def checkV (x : PV) : Option PV :=
  match x with
  | .box k o => some (.box k o)
  | .elt i z es j c => some (.elt i z es j c)
  | _ => none

def light (P : Program) (s : St) (o : Oper) : Option PV :=
  match o.op with
  | .move x => some (s.ev x)
  | .assign x => some (s.ev x)
  | .pick c a b => pickV (s.ev c) (s.ev a) (s.ev b)
  | .load t x => loadV P s.boxes t (s.ev x)
  | .fieldAddr t x f => fieldAddrV P t f (s.ev x)
  | .indexAddr t x ix => indexAddrV P t (s.ev x) (s.ev ix)
  | .index t x ix => indexC P t x (s.ev x) (s.ev ix)
  | .field t x f => fieldV P t f (s.ev x)
  | .binOp op t x y _ => binPV P op t (s.ev x) (s.ev y)
  | .unOp op _ x => unPV op (s.ev x)
  | .convert src dst x => convV P src dst (s.ev x)
  | .extract t ix => extractV ix (s.ev t)
  | .build t parts => buildV P t (parts.toList.map fun x => (x.1, s.ev x.2))
  | .slice t x lo hi none => sliceV P t (lo.map s.ev) (hi.map s.ev) (s.ev x)
  | .call { callee := .builtin .len, args := args, argTypes := ts } => match args.toList, ts.toList with
    | [x], [t] => lenV P t (s.ev x)
    | _, _ => none
  | .call { callee := .builtin .max, args := args, argTypes := _ } => match args.toList with
    | [x, y] => maxV (s.ev x) (s.ev y)
    | [x, y, z] => max3V (s.ev x) (s.ev y) (s.ev z)
    | _ => none
  | .call { callee := .builtin .min, args := args, argTypes := _ } => match args.toList with
    | [x, y] => minV (s.ev x) (s.ev y)
    | [x, y, z] => min3V (s.ev x) (s.ev y) (s.ev z)
    | _ => none
  | .makeFunc (.func f) first caps => if first.size = 0 then some (.fn f (caps.toList.map s.ev)) else none
  | .nilCheck x => checkV (s.ev x)
  | _ => none

section
variable {P : Program} {bm : List Nat} {L : Lay} {s : St} {a : Act} {w : World}

theorem tsize_spec {t : TypeId} {n : Nat} (h : tsize P t = some n) : ∃ i, P.info? t = some i ∧ i.size = n := by
  unfold tsize at h
  cases hi : P.info? t with
  | none => simp [hi] at h
  | some i => simp [hi] at h; exact ⟨i, rfl, h⟩

theorem run_sizeOf {t : TypeId} {n : Nat} (h : tsize P t = some n) (w : World) : (Go.sizeOf t).run P w = .ok n w := by
  obtain ⟨i, hi, rfl⟩ := tsize_spec h
  simp [Go.sizeOf, typeInfo, hi]

theorem run_isAgg {t : TypeId} {b : Bool} (h : tagg P t = some b) (w : World) : (isAgg t).run P w = .ok b w := by
  unfold tagg at h
  cases hd : P.underlying t with
  | none => simp [hd] at h
  | some d =>
    simp only [isAgg, Sem.run_bind, run_underlying hd, Result.andThen_ok]
    cases d <;> simp [hd] at h <;> subst h <;> rfl

theorem tslice_spec {t e : TypeId} (h : tslice P t = some e) : P.underlying t = some (.slice e) := by
  unfold tslice at h
  split at h
  · rename_i hd; simp at h; rw [hd, h]
  · cases h
theorem tarr_spec {t e : TypeId} {n : Nat} (h : tarr P t = some (n, e)) : P.underlying t = some (.array n e) := by
  unfold tarr at h
  split at h
  · rename_i hd; simp at h; rw [hd, h.1, h.2]
  · cases h
theorem tint_spec {t : TypeId} {k : IntKind} (h : tint P t = some k) : P.underlying t = some (.int k) := by
  unfold tint at h
  split at h
  · rename_i hd; simp at h; rw [hd, h]
  · cases h
theorem tbool_spec {t : TypeId} (h : tbool P t = true) : P.underlying t = some .bool := by
  unfold tbool at h
  split at h
  · assumption
  · cases h
theorem tfld_spec {t : TypeId} {i off z : Nat} (h : tfld P t i = some (off, z)) : ∃ fs f, P.underlying t = some (.struct fs) ∧ fs[i]? = some f ∧ f.offset = off ∧ tsize P f.type = some z := by
  unfold tfld at h
  split at h
  · rename_i fs hd
    split at h
    · rename_i f hf
      cases hz : tsize P f.type with
      | none => simp [hz] at h
      | some n => simp [hz] at h; exact ⟨fs, f, hd, hf, h.1, by rw [hz, h.2]⟩
    · cases h
  · cases h

theorem addr_add (b o n : Nat) : (⟨b, o, none⟩ : Addr).add n = ⟨b, o + n, none⟩ := by
  unfold Addr.add
  split
  · rename_i h; simp [h]
  · rfl

/-- A load of a variable whose cells are read. -/
theorem loadP_run {t : TypeId} {cs : List PV} {off : Nat} {v : PV} (h : loadP P t cs off = some v) {b o : Nat}
    (hc : ∀ (j : Nat) (c : PV), cs[j]? = some c → ∃ u, w.cell? ⟨b, o + j, none⟩ = some u ∧ VRel bm L w c u) :
    ∃ V, (loadVar t ⟨b, o + off, none⟩).run P w = .ok V w ∧ VRel bm L w v V := by
  unfold loadP at h
  split at h
  · rename_i ha
    split at h
    · rename_i n hn
      split at h
      · rename_i hle
        simp at h; subst h
        have hex : ∀ j, j < n → ∃ u, w.cell? ⟨b, o + (off + j), none⟩ = some u ∧ ∀ c, cs[off + j]? = some c → VRel bm L w c u := by
          intro j hj
          obtain ⟨c, hcj⟩ : ∃ c, cs[off + j]? = some c := ⟨cs[off + j]'(by omega), List.getElem?_eq_getElem (by omega)⟩
          obtain ⟨u, hu, hr⟩ := hc (off + j) c hcj
          exact ⟨u, hu, fun c' hc' => by rw [hcj] at hc'; cases hc'; exact hr⟩
        let vs : List Value := (List.range n).map fun j => (w.cell? ⟨b, o + (off + j), none⟩).getD undef
        have hlen : vs.length = n := by simp [vs]
        have hv : ∀ j v, vs[j]? = some v → w.cell? ((⟨b, o + off, none⟩ : Addr).add j) = some v := by
          intro j v hj
          have hjn : j < n := by
            have := (List.getElem?_eq_some_iff.1 hj).1
            omega
          obtain ⟨u, hu, _⟩ := hex j hjn
          simp only [vs, List.getElem?_map, List.getElem?_range hjn, Option.map_some, hu, Option.getD_some, Option.some.injEq] at hj
          rw [addr_add, Nat.add_assoc, hu, hj]
        refine ⟨.agg vs.toArray, ?_, ?_⟩
        · simp only [loadVar, Sem.run_bind, run_isAgg ha, Result.andThen_ok, if_true, run_sizeOf hn]
          rw [← hlen, run_loadCells_list w _ vs hv]
          rfl
        · unfold VRel
          refine ⟨_, rfl, LRel.of_get (by simp [hlen]; omega) fun j c v hcj hvj => ?_⟩
          rw [List.getElem?_take] at hcj
          split at hcj
          · rename_i hjn
            rw [List.getElem?_drop] at hcj
            obtain ⟨u, hu, hr⟩ := hex j hjn
            simp only [vs, List.getElem?_map, List.getElem?_range hjn, Option.map_some, hu, Option.getD_some, Option.some.injEq] at hvj
            subst hvj
            exact hr c hcj
          · cases hcj
      · cases h
    · cases h
  · rename_i ha
    obtain ⟨u, hu, hr⟩ := hc off v h
    refine ⟨u, ?_, hr⟩
    simp [loadVar, run_isAgg ha, hu]
  · cases h

theorem binInt_run {op : BinOp} {k : IntKind} {x y : Int} {v : PV} (hs : (op == .shl || op == .shr) = false) (h : binInt op k x y = some v) (t : TypeId) : ∃ V, (binOp op t (.int k x) (.int k y)).run P w = .ok V w ∧ VRel bm L w v V := by
  cases op <;> simp [binInt] at h hs
  all_goals first
    | (subst h; refine ⟨_, ?_, by unfold VRel; rfl⟩; simp [binOp, Op.intArith, Op.intBits, Op.intCmp]; done)
    | (obtain ⟨h0, h⟩ := h; subst h; refine ⟨_, ?_, by unfold VRel; rfl⟩; simp [binOp, Op.intDiv, h0]; done)

theorem shiftInt_run {op : BinOp} {k k' : IntKind} {x y : Int} {v : PV} (h : shiftInt op k x y = some v) (t : TypeId) : ∃ V, (binOp op t (.int k x) (.int k' y)).run P w = .ok V w ∧ VRel bm L w v V := by
  unfold shiftInt at h
  split at h
  · cases h
  · rename_i hb
    have hb' : ¬ y < 0 := hb
    cases op <;> simp at h
    all_goals (subst h; refine ⟨_, ?_, by unfold VRel; rfl⟩; simp [binOp, Op.shift, hb'])

theorem eqGuard_int (op : BinOp) (t : TypeId) (ox oy : Operand) (k k' : IntKind) (x y : Int) (w : World) : (eqGuard op t ox oy (.int k x) (.int k' y)).run P w = .ok () w := by
  cases op <;> rfl
theorem eqGuard_bool (op : BinOp) (t : TypeId) (ox oy : Operand) (x y : Bool) (w : World) : (eqGuard op t ox oy (.bool x) (.bool y)).run P w = .ok () w := by
  cases op <;> rfl

theorem eqGuard_float (op : BinOp) (t : TypeId) (ox oy : Operand) (k k' : FloatKind) (x y : Nat) (w : World) : (eqGuard op t ox oy (.float k x) (.float k' y)).run P w = .ok () w := by
  cases op <;> rfl
theorem binFloat_run {bm : List Nat} {L : Lay} {op : BinOp} {k : FloatKind} {a b : Nat} {v : PV} (h : binFloat op k a b = some v) (t : TypeId) (w : World) : ∃ V, (binOp op t (.float k a) (.float k b)).run P w = .ok V w ∧ VRel bm L w v V := by
  by_cases hm : op = .mul
  · subst hm
    simp only [binFloat, Option.map_eq_some_iff] at h
    obtain ⟨r, hr, rfl⟩ := h
    exact ⟨_, Go.run_float_arith w .mul t k a b r (by unfold Go.floatBits; exact hr), by unfold VRel; rfl⟩
  unfold binFloat at h
  cases op <;> first | exact absurd rfl hm | simp only [Option.some.injEq, reduceCtorEq] at h
  all_goals (subst h; refine ⟨_, ?_, by unfold VRel; rfl⟩; simp only [binOp, ne_eq, not_true_eq_false, if_false, Op.floatCmp, Sem.run_pure])

theorem run_equalIn_bool (d : Nat) {t : TypeId} (h : P.underlying t = some .bool) (b c : Bool) (w : World) : (Op.equalIn (d + 1) t (.bool b) (.bool c)).run P w = .ok (b == c) w := by
  simp [Op.equalIn, run_underlying h]

theorem run_part_cell {t : TypeId} (h : tagg P t = some false) {C : Array Value} {off : Nat} {v : Value} (hc : C[off]? = some v) (w : World) : (part t C off).run P w = .ok v w := by
  simp only [part, Sem.run_bind, run_isAgg h, Result.andThen_ok, Bool.false_eq_true, if_false, hc, Sem.run_pure]
theorem eqFields_run {xs ys : List PV} {C D : Array Value} (hx : LRel bm L w xs C.toList) (hy : LRel bm L w ys D.toList) (d : Nat) : ∀ (fs : List Field) {b : Bool}, eqFieldsV P xs ys fs = some b → (Op.eqFields (d + 1) C D fs).run P w = .ok b w
  | [], b, h => by simp [eqFieldsV] at h; subst h; simp [Op.eqFields]
  | f :: fs, b, h => by
    unfold eqFieldsV at h
    unfold Op.eqFields
    by_cases hn : f.name = "_"
    · rw [if_pos hn] at h
      rw [if_neg (by simpa using hn)]
      exact eqFields_run hx hy d fs h
    · rw [if_neg hn] at h
      rw [if_pos (by simpa using hn)]
      split at h
      · rename_i u p q hu hag hp hq
        obtain ⟨V, hV, hr⟩ := hx.get _ _ hp
        obtain ⟨U, hU, hs⟩ := hy.get _ _ hq
        obtain rfl := hr.bool
        obtain rfl := hs.bool
        have hV' : C[f.offset]? = some (.bool p) := by simpa using hV
        have hU' : D[f.offset]? = some (.bool q) := by simpa using hU
        simp only [Sem.run_bind, run_part_cell hag hV' w, run_part_cell hag hU' w, Result.andThen_ok, Go.run_equalIn_bool' w d f.type p q hu]
        split at h
        · rename_i he
          simp only [he, Bool.not_true, Bool.false_eq_true, if_false]
          exact eqFields_run hx hy d fs h
        · rename_i he
          simp at h; subst h
          simp only [Bool.not_eq_true] at he
          simp [he]
      · rename_i u k' k x k2 y hu hag hp hq
        obtain ⟨V, hV, hr⟩ := hx.get _ _ hp
        obtain ⟨U, hU, hs⟩ := hy.get _ _ hq
        obtain rfl := hr.int
        obtain rfl := hs.int
        split at h
        · rename_i hk
          subst hk
          have hV' : C[f.offset]? = some (.int k x) := by simpa using hV
          have hU' : D[f.offset]? = some (.int k y) := by simpa using hU
          simp only [Sem.run_bind, run_part_cell hag hV' w, run_part_cell hag hU' w, Result.andThen_ok, Go.run_equalIn_int w d f.type k _ x y hu]
          split at h
          · rename_i he
            simp only [he, Bool.not_true, Bool.false_eq_true, if_false]
            exact eqFields_run hx hy d fs h
          · rename_i he
            simp at h; subst h
            simp only [Bool.not_eq_true] at he
            simp [he]
        · cases h
      · cases h
theorem eqAgg_run {t : TypeId} {xs ys : List PV} {C D : Array Value} (hx : LRel bm L w xs C.toList) (hy : LRel bm L w ys D.toList) {b : Bool} (h : eqAggV P t xs ys = some b) (op : BinOp) (ox oy : Operand) :
    (eqGuard op t ox oy (.agg C) (.agg D)).run P w = .ok () w ∧ (Op.equalIn 10000 t (.agg C) (.agg D)).run P w = .ok b w := by
  unfold eqAggV at h
  split at h
  · rename_i fs hfs
    split at h
    · rename_i hc
      refine ⟨Go.run_eqGuard_agg w op t ox oy C D hc.2, ?_⟩
      have hf : P.fieldsOf t = fs := by unfold Program.fieldsOf; rw [hfs]
      rw [Go.run_equalIn_agg w 9999 t C D (by rw [hf]; exact hfs) hc.1, hf]
      exact eqFields_run hx hy 9998 fs.toList h
    · cases h
  · cases h

theorem binPV_run {op : BinOp} {t : TypeId} {x y v : PV} (h : binPV P op t x y = some v) {X Y : Value} (hx : VRel bm L w x X) (hy : VRel bm L w y Y) (ox oy : Operand) :
    ∃ V, (do eqGuard op t ox oy X Y; binOp op t X Y : Sem Value).run P w = .ok V w ∧ VRel bm L w v V := by
  cases x <;> cases y <;> simp only [binPV] at h <;> try (cases h; done)
  case bool.bool b c =>
    obtain rfl := hx.bool
    obtain rfl := hy.bool
    split at h
    · rename_i hb
      have hu := tbool_spec hb
      simp only [Sem.run_bind, eqGuard_bool, Result.andThen_ok]
      cases op <;> simp at h
      all_goals (subst h; refine ⟨_, ?_, by unfold VRel; rfl⟩; simp only [binOp, Op.equal, Op.maxDepth, Sem.run_bind, run_equalIn_bool (P := P) 9999 hu b c w, Result.andThen_ok, Sem.run_pure])
    · cases h
  case int.int k x k' y =>
    obtain rfl := hx.int
    obtain rfl := hy.int
    simp only [Sem.run_bind, eqGuard_int, Result.andThen_ok]
    split at h
    · exact shiftInt_run h t
    · rename_i hs
      split at h
      · rename_i hk; subst hk
        exact binInt_run (by simpa using hs) h t
      · cases h
  case float.float k x k' y =>
    unfold VRel at hx hy
    subst hx hy
    simp only [Sem.run_bind, eqGuard_float, Result.andThen_ok]
    split at h
    · rename_i hk; subst hk
      exact binFloat_run h t w
    · cases h
  case agg.agg xs ys =>
    unfold VRel at hx hy
    obtain ⟨C, rfl, hx⟩ := hx
    obtain ⟨D, rfl, hy⟩ := hy
    split at h
    · cases hb : eqAggV P t xs ys with
      | none => simp [hb] at h
      | some b =>
        simp [hb] at h; subst h
        obtain ⟨h1, h2⟩ := eqAgg_run hx hy hb .eql ox oy
        refine ⟨.bool b, ?_, by unfold VRel; rfl⟩
        simp only [Sem.run_bind, h1, Result.andThen_ok, Go.run_eql_struct, h2]
    · cases hb : eqAggV P t xs ys with
      | none => simp [hb] at h
      | some b =>
        simp [hb] at h; subst h
        obtain ⟨h1, h2⟩ := eqAgg_run hx hy hb .neq ox oy
        refine ⟨.bool (!b), ?_, by unfold VRel; rfl⟩
        simp only [Sem.run_bind, h1, Result.andThen_ok, Go.run_neq_struct, h2]
    · cases h

theorem unPV_run {op : UnOp} {x v : PV} (h : unPV op x = some v) {X : Value} (hx : VRel bm L w x X) : ∃ V, (Op.unary op X).run P w = .ok V w ∧ VRel bm L w v V := by
  cases op <;> cases x <;> simp [unPV] at h
  case neg.int k n => obtain rfl := hx.int; subst h; exact ⟨_, by simp [Op.unary, Op.intArith]; rfl, by unfold VRel; rfl⟩
  case xor.int k n => obtain rfl := hx.int; subst h; exact ⟨_, by simp [Op.unary, Op.intBits]; rfl, by unfold VRel; rfl⟩
  case not.bool b => obtain rfl := hx.bool; subst h; exact ⟨_, by simp [Op.unary]; rfl, by unfold VRel; rfl⟩


theorem fillP_run (pl : List (Nat × Nat)) :
    ∀ (ps : List (Nat × PV)) (us : List (Nat × Value)) (cells : List PV) (C : Array Value) (out : List PV), fillP pl cells ps = some out → LRel bm L w cells C.toList →
      ps.length = us.length → (∀ (j i : Nat) (p : PV), ps[j]? = some (i, p) → ∃ u, us[j]? = some (i, u) ∧ VRel bm L w p u) →
      ∃ D, Instr.fill (pl.toArray[·]?) C us = some D ∧ LRel bm L w out D.toList
  | [], us, cells, C, out, h, hc, hl, _ => by
    have : us = [] := List.eq_nil_of_length_eq_zero (by simpa using hl.symm)
    subst this
    simp [fillP] at h; subst h
    exact ⟨C, rfl, hc⟩
  | (i, p) :: ps, [], cells, C, out, h, hc, hl, hr => by simp at hl
  | (i, p) :: ps, (i', u) :: us, cells, C, out, h, hc, hl, hr => by
    obtain ⟨u', hu', hpu⟩ := hr 0 i p rfl
    simp at hu'
    obtain ⟨rfl, rfl⟩ := hu'
    unfold fillP at h
    split at h
    · cases h
    · rename_i off z hf
      split at h
      · rename_i hcond
        obtain ⟨hs, hz, hle⟩ := hcond
        have hcu := hpu.cells hs
        have hlu : u.cells.size = z := by have := hcu.length; simp at this; omega
        have hlC : cells.length = C.size := by simpa using hc.length
        have hfold : (u.cells.zipIdx.foldl (fun cs (x : Value × Nat) => cs.setIfInBounds (off + x.2) x.1) C).toList = C.toList.take off ++ u.cells.toList ++ C.toList.drop (off + z) := by
          have key : ∀ (l : List Value) (k : Nat) (D : Array Value), off + k + l.length ≤ D.size →
              ((l.zipIdx k).foldl (fun cs (x : Value × Nat) => cs.setIfInBounds (off + x.2) x.1) D).toList = D.toList.take (off + k) ++ l ++ D.toList.drop (off + k + l.length) := by
            intro l
            induction l with
            | nil => intro k D hD; simp
            | cons v l ih =>
              intro k D hD
              simp only [List.zipIdx_cons, List.foldl_cons]
              rw [ih (k + 1) _ (by simp at hD ⊢; omega)]
              have := list_seg_step D.toList (off + k) v l (by simp at hD ⊢; omega)
              simpa [Array.toList_setIfInBounds, Nat.add_assoc] using this
          have h0 := key u.cells.toList 0 C (by simp; omega)
          simp only [Nat.add_zero, Array.length_toList, hlu] at h0
          rw [← h0, ← Array.foldl_toList]
          congr 1
          simp
        have hnew : LRel bm L w (cells.take off ++ p.cells ++ cells.drop (off + z)) (u.cells.zipIdx.foldl (fun cs (x : Value × Nat) => cs.setIfInBounds (off + x.2) x.1) C).toList := by
          rw [hfold]
          exact ((hc.take off).append hcu).append (hc.drop (off + z))
        obtain ⟨D, hD, hout⟩ := fillP_run pl ps us _ _ out h hnew (by simpa using hl) (fun j i p hj => hr (j + 1) i p (by simpa using hj))
        refine ⟨D, ?_, hout⟩
        unfold Instr.fill
        simp only [List.getElem?_toArray, hf]
        rw [if_neg (by simp [hlu]; omega)]
        simpa only [List.getElem?_toArray] using hD
      · cases h

theorem fill_congr {f g : Nat → Option (Nat × Nat)} : ∀ (us : List (Nat × Value)) (C : Array Value), (∀ x, x ∈ us → f x.1 = g x.1) → Instr.fill f C us = Instr.fill g C us
  | [], C, _ => rfl
  | (i, v) :: us, C, h => by
    unfold Instr.fill
    have h0 := h (i, v) (by simp)
    simp only at h0
    rw [h0]
    split
    · rfl
    · split
      · rfl
      · exact fill_congr us _ fun x hx => h x (by simp [hx])
theorem aplaces_run {t : TypeId} {pl : List (Nat × Nat)} (h : aplaces P t = some pl) (w : World) :
    ∃ n e z, P.underlying t = some (.array n e) ∧ (Go.sizeOf e).run P w = .ok z w ∧ pl.length = n ∧ ∀ i, i < n → pl.toArray[i]? = some (i * z, z) := by
  unfold aplaces at h
  split at h
  · rename_i n e ha
    cases hz : tsize P e with
    | none => simp [hz] at h
    | some z =>
      simp [hz] at h
      subst h
      exact ⟨n, e, z, tarr_spec ha, run_sizeOf hz w, by simp, fun i hi => by simp [hi]⟩
  · cases h

theorem intOr_spec {d : Int} {x : Option Operand} {n : Int} (h : Sim bm L s a w) (he : intOr d (x.map s.ev) = some n) :
    (x = none ∧ n = d) ∨ ∃ y k, x = some y ∧ a.eval y = .int k n := by
  cases x with
  | none => simp [intOr] at he; exact .inl ⟨rfl, he.symm⟩
  | some y =>
    simp only [Option.map_some] at he
    cases hy : s.ev y <;> rw [hy] at he <;> simp [intOr] at he
    rename_i k m
    subst he
    have := h.ev y
    rw [hy] at this
    exact .inr ⟨y, k, rfl, this.int⟩

theorem tplaces_run {t : TypeId} {pl : List (Nat × Nat)} (h : tplaces P t = some pl) (w : World) :
    ∃ fs, P.underlying t = some (.struct fs) ∧ (fs.mapM fun f => do pure (f.offset, ← Go.sizeOf f.type) : Sem (Array (Nat × Nat))).run P w = .ok pl.toArray w := by
  unfold tplaces at h
  split at h
  · rename_i fs hd
    refine ⟨fs, hd, ?_⟩
    have key : ∀ (l : List Field) (pl : List (Nat × Nat)), (l.mapM fun f => (tsize P f.type).map fun z => (f.offset, z)) = some pl →
        (l.mapM fun f => do pure (f.offset, ← Go.sizeOf f.type) : Sem (List (Nat × Nat))).run P w = .ok pl w := by
      intro l
      induction l with
      | nil => intro pl h; simp at h; subst h; rfl
      | cons f l ih =>
        intro pl h
        rw [List.mapM_cons] at h
        cases hz : tsize P f.type with
        | none => simp [hz] at h
        | some z =>
          cases hr : (l.mapM fun f => (tsize P f.type).map fun z => (f.offset, z)) with
          | none => simp [hz, hr] at h
          | some pl' =>
            simp [hz, hr] at h
            subst h
            rw [List.mapM_cons]
            simp only [Sem.run_bind, run_sizeOf hz, Result.andThen_ok, Sem.run_pure, ih pl' hr]
    rw [Array.mapM_eq_mapM_toList, Sem.run_map, key _ _ h]
    rfl
  · cases h
end
end Go.Proofs.YtphndngifjgeoaaGreatDoor
