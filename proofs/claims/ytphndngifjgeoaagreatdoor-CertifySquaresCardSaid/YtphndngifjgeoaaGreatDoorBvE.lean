/- The by-value logic, part E: what a call and a step of a frame keep, the pure steps of all operations, and that steps that make new memory are the model's; for every program. -/
import Derived.Test.YtphndngifjgeoaaGreatDoorBvD
set_option linter.unusedVariables false
set_option linter.unusedSimpArgs false
namespace Go.Proofs.YtphndngifjgeoaaGreatDoor

/-- What was there lasts: families from n on are the frame's own and may grow and turn, those of D may turn; boxes of bm may turn; nothing else does. -/
structure Gua (bm bm' : List Nat) (n : Nat) (D : List Nat) (L : Lay) (w : World) (L' : Lay) (w' : World) : Prop where
  size : w.heap.size ≤ w'.heap.size
  os : w'.os = w.os
  tape : w'.tape = w.tape
  output : w'.output = w.output
  nx : L.nx ≤ L'.nx
  pl : ∀ g, g < L.nx → L'.pl g = L.pl g
  fam : ∀ b, b < w.heap.size → L'.fam b = L.fam b
  lim : ∀ b f, L.fam b = some f → f < n → L'.lim b = L.lim b
  old : ∀ b, b < w.heap.size → (∀ f, L.fam b = some f → f < n ∧ f ∉ D) → b ∉ bm → L.mp b = none → w'.heap[b]? = w.heap[b]?
  row : ∀ b f, L.fam b = some f → ∀ C el fz, w.heap[b]? = some (.cells C el fz) → ∃ C', w'.heap[b]? = some (.cells C' el fz) ∧ C'.size = C.size
  hbm : ∀ (k b : Nat), bm[k]? = some b → bm'[k]? = some b
  nbm : ∀ b, b ∈ bm' → b ∈ bm ∨ w.heap.size ≤ b
  mp : ∀ b, b < w.heap.size → L'.mp b = L.mp b

theorem Gua.refl (bm : List Nat) (n : Nat) (D : List Nat) (L : Lay) (w : World) : Gua bm bm n D L w L w :=
  ⟨Nat.le_refl _, rfl, rfl, rfl, Nat.le_refl _, fun _ _ => rfl, fun _ _ => rfl, fun _ _ _ _ => rfl, fun _ _ _ _ _ => rfl, fun _ _ _ C _ _ h => ⟨C, h, rfl⟩, fun _ _ h => h, fun _ h => .inl h, fun _ _ => rfl⟩

theorem Gua.mono {bm bm' : List Nat} {n : Nat} {D D' : List Nat} {L : Lay} {w : World} {L' : Lay} {w' : World} (h : Gua bm bm' n D L w L' w') (hD : ∀ f, f ∈ D → f ∈ D') : Gua bm bm' n D' L w L' w' :=
  ⟨h.size, h.os, h.tape, h.output, h.nx, h.pl, h.fam, h.lim, fun b hb hf hm hq => h.old b hb (fun f e => ⟨(hf f e).1, fun k => (hf f e).2 (hD f k)⟩) hm hq, h.row, h.hbm, h.nbm, h.mp⟩

theorem Gua.trans {bm bm₁ bm₂ : List Nat} {n : Nat} {D : List Nat} {L L₁ L₂ : Lay} {w w₁ w₂ : World} (hb : Base L w) (h : Gua bm bm₁ n D L w L₁ w₁) (k : Gua bm₁ bm₂ n D L₁ w₁ L₂ w₂) : Gua bm bm₂ n D L w L₂ w₂ := by
  refine ⟨Nat.le_trans h.size k.size, k.os.trans h.os, k.tape.trans h.tape, k.output.trans h.output, Nat.le_trans h.nx k.nx, ?_, ?_, ?_, ?_, ?_, fun a b e => k.hbm a b (h.hbm a b e), ?_, fun b hb' => (k.mp b (Nat.lt_of_lt_of_le hb' h.size)).trans (h.mp b hb')⟩
  · intro g hg
    have := h.nx
    rw [k.pl g (by omega), h.pl g hg]
  · intro b hb'
    have := h.size
    rw [k.fam b (by omega), h.fam b hb']
  · intro b f hf hn
    have hlt := (hb.fam b f hf).2
    rw [k.lim b f (by rw [h.fam b hlt]; exact hf) hn, h.lim b f hf hn]
  · intro b hlt hf hm hq
    have hs := h.size
    rw [k.old b (by omega) (fun f e => hf f (by rw [← h.fam b hlt]; exact e)) (fun hb1 => by rcases h.nbm b hb1 with e | e; exact hm e; omega) (by rw [h.mp b hlt]; exact hq), h.old b hlt hf hm hq]
  · intro b f hf C el fz hC
    have hlt := (hb.fam b f hf).2
    obtain ⟨C₁, h1, h2⟩ := h.row b f hf C el fz hC
    obtain ⟨C₂, h3, h4⟩ := k.row b f (by rw [h.fam b hlt]; exact hf) C₁ el fz h1
    exact ⟨C₂, h3, h4.trans h2⟩
  · intro b e
    have := h.size
    rcases k.nbm b e with e | e
    · exact h.nbm b e
    · exact .inr (by omega)

/-- A call on pure values comes, from memory on that fits, to the value v; the names then begin at n'; families of D have been written. -/
def Gives (P : Program) (f : FuncId) (args : List PV) (n : Nat) (v : PV) (n' : Nat) (D : List Nat) : Prop :=
  ∀ (L : Lay) (w : World) (A : List Value), L.nx = n → Base L w → LRel [] L w args A →
    Calls P f A.toArray w fun e w' => ∃ (L' : Lay) (V : Value), e = .returned V ∧ VRel [] L' w' v V ∧ L'.nx = n' ∧ Base L' w' ∧ Gua [] [] n D L w L' w'

/-- The call's outcome fulfils Q. -/
def PCall (P : Program) (f : FuncId) (args : List PV) (n : Nat) (Q : PV → Nat → List Nat → Prop) : Prop :=
  ∃ v n' D, Gives P f args n v n' D ∧ n ≤ n' ∧ Q v n' D

theorem PCall.mono {P : Program} {f : FuncId} {args : List PV} {n : Nat} {Q Q' : PV → Nat → List Nat → Prop} (h : PCall P f args n Q) (hq : ∀ v n' D, n ≤ n' → Q v n' D → Q' v n' D) : PCall P f args n Q' :=
  let ⟨v, n', D, g, hn, q⟩ := h; ⟨v, n', D, g, hn, hq v n' D hn q⟩

/-- The boxes lie as they are said to. -/
structure BoxR (bm : List Nat) (L : Lay) (w : World) (bx : List (List PV)) : Prop where
  len : bm.length = bx.length
  nodup : bm.Nodup
  all : ∀ (k b : Nat) (cs : List PV), bm[k]? = some b → bx[k]? = some cs → L.fam b = none ∧ ∃ C el, w.heap[b]? = some (.cells C el (0, 0)) ∧ LRel bm L w cs C.toList ∧ ∀ v ∈ C.toList, v.oneCell' = true
/-- A call of a closure, which may turn the boxes that it has captured, comes to the value v, the boxes bx', the names from n' on; it writes no family that was there. -/
def GivesB (P : Program) (f : FuncId) (args : List PV) (bx : List (List PV)) (n : Nat) (v : PV) (bx' : List (List PV)) (n' : Nat) : Prop :=
  ∀ (bm : List Nat) (L : Lay) (w : World) (A : List Value), L.nx = n → Base L w → BoxR bm L w bx → LRel bm L w args A →
    Calls P f A.toArray w fun e w' => ∃ (bm' : List Nat) (L' : Lay) (V : Value), e = .returned V ∧ VRel bm' L' w' v V ∧ L'.nx = n' ∧ Base L' w' ∧ BoxR bm' L' w' bx' ∧ Gua bm bm' n [] L w L' w'
def PCallB (P : Program) (f : FuncId) (args : List PV) (bx : List (List PV)) (n : Nat) (Q : PV → List (List PV) → Nat → Prop) : Prop :=
  ∃ v bx' n', GivesB P f args bx n v bx' n' ∧ n ≤ n' ∧ Q v bx' n'
theorem PCallB.mono {P : Program} {f : FuncId} {args : List PV} {bx : List (List PV)} {n : Nat} {Q Q' : PV → List (List PV) → Nat → Prop} (h : PCallB P f args bx n Q) (hq : ∀ v bx' n', n ≤ n' → Q v bx' n' → Q' v bx' n') : PCallB P f args bx n Q' :=
  let ⟨v, bx', n', g, hn, q⟩ := h; ⟨v, bx', n', g, hn, hq v bx' n' hn q⟩
def heavy (f : Operand) (ts : Array TypeId) : Bool := match f with | .tmp _ => decide (some ts = heavyTs) | _ => false

/-! ### the state's turns -/
/-- Behind a closure's call. -/
def St.afterB (s : St) (bx : List (List PV)) (n : Nat) : St := { s with boxes := bx, next := n }
def St.pushBox (s : St) (cs : List PV) : St := { s with boxes := s.boxes ++ [cs] }
def St.setBox (s : St) (k : Nat) (cs : List PV) : St := { s with boxes := s.boxes.set k cs }
/-- A new family, its one version of T cells. -/
def St.fresh (s : St) (T : Nat) : St := { s with next := s.next + 1, tips := (s.next, s.next, T) :: s.tips }
/-- Behind an append to version g: the new version, of T cells. -/
def St.regrown (s : St) (g f T : Nat) : St := { s with next := s.next + 1, tips := (s.next, f, T) :: s.tips.filter fun x => x.1 != g }
/-- Behind a call. -/
def St.after (s : St) (n : Nat) (D : List Nat) : St :=
  match D with
  | [] => { s with next := n }
  | D => { s with slots := fun t => (s.slots t).poison D, boxes := s.boxes.map (PV.poisonL D), next := n, D := s.D ++ D }

/-- The cells of a variable are written. -/
def putCells (cs : List PV) (off : Nat) (vs : List PV) : List PV := cs.take off ++ vs ++ cs.drop (off + vs.length)

/-- An element with cells written. -/
def PV.withCells (e : PV) (off : Nat) (vs : List PV) : PV :=
  match e with
  | .agg cs => .agg (putCells cs off vs)
  | _ => vs.headD .undef

mutual
/-- Behind a store of cells vs at cell c of element j of the slice i: what else may share that memory is forgotten. -/
def PV.upd (i : Sid) (z j c : Nat) (vs : List PV) : PV → PV
  | .sl i' z' es => if i' = i ∧ z' = z then .sl i' z' ((PV.poisonL [i.f] es).modify j fun e => e.withCells c vs) else (PV.sl i' z' es).poison [i.f]
  | .agg cs => .agg (PV.updL i z j c vs cs)
  | .tup cs => .tup (PV.updL i z j c vs cs)
  | p => p.poison [i.f]
def PV.updL (i : Sid) (z j c : Nat) (vs : List PV) : List PV → List PV
  | [] => []
  | p :: ps => PV.upd i z j c vs p :: PV.updL i z j c vs ps
end

def St.upd (s : St) (i : Sid) (z j c : Nat) (vs : List PV) : St :=
  { s with slots := fun t => (s.slots t).upd i z j c vs, boxes := s.boxes.map (PV.updL i z j c vs), D := if i.f < s.n0 then s.D.insert i.f else s.D }

def tipOf (tips : List (Nat × Nat × Nat)) (g f : Nat) : Option Nat := (tips.find? fun x => x.1 == g && x.2.1 == f).map (·.2.2)

/-- append: what may be appended to: nil, or what this frame has made and nothing lies behind. -/
def appendP (P : Program) (s : St) (t : TypeId) (x y : PV) (K : St → PV → Prop) : Prop :=
  match x, y, tslice P t with
  | .sl i z es, .sl _ z2 es2, some e =>
    (match tsize P e, tbytes P e with
     | some m, some by_ => 0 < m ∧ 0 < by_ ∧ (es.length + es2.length) * by_ ≤ 140737488355328 ∧ (z2 = m ∨ es2 = []) ∧ (∃ z, tzero P e = some z ∧ z.sized = true ∧ z.cells.length = m)
       ∧ (if i.g = 0 then es = [] ∧ es2 ≠ [] ∧ K (s.fresh (es2.length * m)) (.sl ⟨s.next, s.next, 0⟩ m es2)
          else z = m ∧ tipOf s.tips i.g i.f = some (i.off + es.length * m) ∧ K (s.regrown i.g i.f ((es.length + es2.length) * m)) (.sl ⟨i.f, s.next, 0⟩ m (es ++ es2)))
     | _, _ => False)
  | _, _, _ => False

def storeP (P : Program) (s : St) (t : TypeId) (x y : PV) (K : St → Prop) : Prop :=
  y.sized = true ∧ y.cells.all PV.isCell = true ∧ tsize P t = some y.cells.length ∧
  match x with
  | .box k off => ∃ cs, s.boxes[k]? = some cs ∧ off + y.cells.length ≤ cs.length ∧ K (s.setBox k (putCells cs off y.cells))
  | .elt i z es j c => i.f ≠ 0 ∧ y.closed = true ∧ c + y.cells.length ≤ z ∧ 0 < y.cells.length ∧ j < es.length ∧ K (s.upd i z j c (PV.poisonL [i.f] y.cells))
  | _ => False

/-- A map whose keys are arrays of numbers. -/
def mapT (P : Program) (t : TypeId) : Prop := ∃ kt et e k, P.underlying t = some (.map kt et) ∧ P.underlying kt = some (.array 2 e) ∧ tsize P e = some 1 ∧ tagg P e = some false ∧ P.underlying e = some (.int k) ∧ tzero P et = some (.int .i64 0)

/-- A type's zero is of single cells. -/
def aOk (P : Program) (t : TypeId) (z : PV) : Bool := z.cells.all PV.isCell || (match (P.info? t).bind (·.zero) with | some v => v.cells.toList.all (·.oneCell') | none => false)
/-- A function without a body for which the model stands in: it has this name, and no other row serves it. -/
def isExt (P : Program) (g : FuncId) (e : Array Value → Sem Value) : Prop :=
  ∃ fn, P.funcs[g]? = some fn ∧ (fn.name == "runtime.NumGoroutine") = false ∧ fn.body.isNone = true ∧ Extern.findNext fn = none ∧ Extern.find fn = some e
/-- A float by its bits, and its bits again. -/
def extV (P : Program) (g : FuncId) (l : List PV) (v : PV) : Prop :=
  (isExt P g Extern.MathFloatBits.float64bits ∧ ∃ b, l = [.float .f64 b] ∧ v = .int .u64 b) ∨
  (isExt P g Extern.MathFloatBits.float64frombits ∧ ∃ n : Int, l = [.int .u64 n] ∧ v = .float .f64 n.toNat)
def PStep (P : Program) (dr : Bool) (o : Oper) (K : St → Prop) (s : St) : Prop :=
  (∀ d, o.dst = some d → d < s.nt) ∧
  match o.op with
  | .alloc t => ∃ z, tzero P t = some z ∧ z.sized = true ∧ aOk P t z = true ∧ K ((s.pushBox z.cells).put o.dst (.box s.boxes.length 0))
  | .box _ x => (s.ev x).sized = true ∧ (s.ev x).cells.all PV.isCell = true ∧ K ((s.pushBox (s.ev x).cells).put o.dst (.box s.boxes.length 0))
  | .store t x y => storeP P s t (s.ev x) (s.ev y) fun s' => K (s'.put o.dst (.tup []))
  | .buildSlice t n parts => ∃ e m, tslice P t = some e ∧ tsize P e = some m ∧ n * m ≤ 16777216 ∧ (parts.toList.map (·.1)) = List.range n ∧
      (parts.toList.all fun x => (s.ev x.2).sized && (s.ev x.2).closed && (s.ev x.2).cells.all PV.isCell && (s.ev x.2).cells.length == m) = true ∧ (n = 0 ∨ ∃ z, tzero P e = some z ∧ z.sized = true ∧ z.cells.length = m) ∧ 0 < m ∧
      K ((s.fresh (n * m)).put o.dst (.sl ⟨s.next, s.next, 0⟩ m (parts.toList.map fun x => s.ev x.2)))
  | .makeSlice t x y => ∃ e m by_ z k k' len cap, tslice P t = some e ∧ tsize P e = some m ∧ tbytes P e = some by_ ∧ tzero P e = some z ∧ s.ev x = .int k len ∧ s.ev y = .int k' cap ∧
      0 ≤ len ∧ len ≤ cap ∧ cap ≤ 9223372036854775807 ∧ by_ * cap ≤ 281474976710656 ∧ z.sized = true ∧ z.closed = true ∧ z.cells.all PV.isCell = true ∧ z.cells.length = m ∧ 0 < m ∧
      K ((s.fresh (len.toNat * m)).put o.dst (.sl ⟨s.next, s.next, 0⟩ m (List.replicate len.toNat z)))
  | .makeMap t none => ∃ I : MInv, K (s.put o.dst (.map I))
  | .mapUpdate t m k x => ∃ (I : MInv) (p q n : Int), mapT P t ∧ s.ev m = .map I ∧ s.ev k = .agg [.int .i64 p, .int .i64 q] ∧ s.ev x = .int .i64 n ∧ I p q n ∧ K (s.put o.dst (.tup []))
  | .call { callee := .builtin .append, args := args, argTypes := ts } => ∃ x y t, args.toList = [x, y] ∧ ts.toList = [t, t] ∧
      appendP P s t (s.ev x) (s.ev y) fun s' v => K (s'.put o.dst v)
  | .call { callee := .value f, args := args, argTypes := ts } => if heavy f ts = true then
      ∃ g fn caps, s.ev f = .fn g caps ∧ P.funcs[g]? = some fn ∧ fn.body.isSome = true ∧ (fn.name == "runtime.NumGoroutine") = false ∧
        PCallB P g (args.toList.map s.ev ++ caps) s.boxes s.next fun v bx n => K ((s.afterB bx n).put o.dst v)
    else (∃ g v, s.ev f = .fn g [] ∧ extV P g (args.toList.map s.ev) v ∧ K (s.put o.dst v)) ∨
    (∃ g fn, s.ev f = .fn g [] ∧ P.funcs[g]? = some fn ∧ fn.body.isSome = true ∧ (fn.name == "runtime.NumGoroutine") = false ∧
      (args.toList.all fun x => (s.ev x).closed) = true ∧
      PCall P g (args.toList.map s.ev) s.next fun v n D => (dr = true → D = []) ∧ (∀ f, f ∈ D → f < s.next ∧ f ≠ 0) ∧ K ((s.after n D).put o.dst v))
  | _ => ∃ v, light P s o = some v ∧ K (s.put o.dst v)


section
variable {P : Program} {bm : List Nat} {L : Lay} {s : St} {a : Act} {w : World}

theorem put_getD {a : Act} {d : Tmp} {v : Value} (hd : d < a.tmps.size) (t : Nat) : (a.put (some d) v).tmps.getD t undef = if t = d then v else a.tmps.getD t undef := by
  simp only [Act.put]
  by_cases h : t = d
  · subst h; simp [Array.getD, hd]
  · simp [Array.getD_eq_getD_getElem?, Array.getElem?_setIfInBounds_ne (Ne.symm h), h]

theorem Sim.put (h : Sim bm L s a w) {d : Option Tmp} {v : PV} {V : Value} (hd : ∀ x, d = some x → x < s.nt) (hv : VRel bm L w v V) : Sim bm L (s.put d v) (a.put d V) w := by
  cases d with
  | none => exact h
  | some d =>
    refine ⟨fun t => ?_, ?_, h.defers, h.nx, h.base, h.bml, h.bmn, h.boxes, h.tipsN, h.tips, h.n0⟩
    · rw [put_getD (by rw [h.nt]; exact hd d rfl)]
      simp only [St.put]
      split
      · exact hv
      · exact h.slots t
    · simp [Act.put, St.put, h.nt]

/-- A new block of a family: its one version begins at cell 0, T cells are in use. -/
def Lay.row (L : Lay) (b f T : Nat) : Lay :=
  { fam := fun x => if x = b then some f else L.fam x, lim := fun x => if x = b then T else L.lim x, pl := fun g => if g = L.nx then (b, 0) else L.pl g, nx := L.nx + 1, mp := L.mp }

theorem heap_new {w w1 : World} {o : Obj} (hw : w1.heap = w.heap.push o) : w1.heap[w.heap.size]? = some o := by simp [hw]
theorem heap_old {w w1 : World} {o : Obj} (hw : w1.heap = w.heap.push o) {b : Nat} (hb : b < w.heap.size) : w1.heap[b]? = w.heap[b]? := by
  rw [hw, Array.getElem?_push, if_neg (by omega)]
theorem cell_of_heap {w w1 : World} {b off : Nat} (h : w1.heap[b]? = w.heap[b]?) : w1.cell? ⟨b, off, none⟩ = w.cell? ⟨b, off, none⟩ := by simp [World.cell?, h]

theorem Pres.newRow (hb : Base L w) (bm : List Nat) {w1 : World} {o : Obj} (hw : w1.heap = w.heap.push o) (f T : Nat) : Pres bm L w bm (L.row w.heap.size f T) w1 [] := by
  refine ⟨fun _ _ h => h, by simp [Lay.row], ?_, ?_, ?_, ?_, ?_, fun _ _ h => h⟩
  · intro g hg; simp only [Lay.row]; rw [if_neg (by omega)]
  · intro b f' hf; have := (hb.fam b f' hf).2; simp only [Lay.row]; rw [if_neg (by omega)]; exact hf
  · intro b f' hf; have := (hb.fam b f' hf).2; simp only [Lay.row]; rw [if_neg (by omega)]; exact Nat.le_refl _
  · intro b f' hf _ off _; have := (hb.fam b f' hf).2; exact cell_of_heap (heap_old hw this)
  · intro b f' hf C el fz hC; have := (hb.fam b f' hf).2; exact ⟨C, by rw [heap_old hw this]; exact hC, rfl⟩

theorem Gua.newRow (hb : Base L w) (bm : List Nat) (n : Nat) (D : List Nat) {w1 : World} {o : Obj} (hw : w1.heap = w.heap.push o) (ho : w1.os = w.os) (ht : w1.tape = w.tape) (hout : w1.output = w.output) (f T : Nat) :
    Gua bm bm n D L w (L.row w.heap.size f T) w1 := by
  refine ⟨by simp [hw], ho, ht, hout, by simp [Lay.row], ?_, ?_, ?_, fun b hlt _ _ _ => heap_old hw hlt, ?_, fun _ _ h => h, fun _ h => .inl h, fun _ _ => rfl⟩
  · intro g hg; simp only [Lay.row]; rw [if_neg (by omega)]
  · intro b hlt; simp only [Lay.row]; rw [if_neg (by omega)]
  · intro b f' hf _; have := (hb.fam b f' hf).2; simp only [Lay.row]; rw [if_neg (by omega)]
  · intro b f' hf C el fz hC; have := (hb.fam b f' hf).2; exact ⟨C, by rw [heap_old hw this]; exact hC, rfl⟩

theorem Base.row (hb : Base L w) {w1 : World} {C : Array Value} {el : TypeId} (hw : w1.heap = w.heap.push (.cells C el (0, 0))) {f : Nat} (hf : f < L.nx + 1) (T : Nat) : Base (L.row w.heap.size f T) w1 := by
  refine ⟨by simp [Lay.row], ?_, ?_, ?_, fun b I hI => by
    obtain ⟨h1, es, c, h2, h3⟩ := hb.mp b I hI
    have hlt := hb.mlt hI
    exact ⟨by simp only [Lay.row]; rw [if_neg (by omega)]; exact h1, es, c, by rw [heap_old hw hlt]; exact h2, h3⟩⟩
  rotate_left 2
  · intro b C' h
    obtain ⟨⟨el', fz', h1⟩, h2⟩ := hb.tab b C' h
    have hlt := (hb.fam b 0 h2).2
    exact ⟨⟨el', fz', by rw [heap_old hw hlt]; exact h1⟩, by simp only [Lay.row]; rw [if_neg (by omega)]; exact h2⟩
  · intro b f' h
    simp only [Lay.row] at h ⊢
    split at h
    · rename_i e; cases h; subst e; simp [hw]; exact hf
    · have := hb.fam b f' h; simp [hw]; omega
  · intro b f' h h0
    simp only [Lay.row] at h
    split at h
    · rename_i e; subst e; exact ⟨C, el, heap_new hw⟩
    · have := hb.fam b f' h
      obtain ⟨C', el', h'⟩ := hb.own b f' h h0
      exact ⟨C', el', by rw [heap_old hw this.2]; exact h'⟩

theorem VRel.pres0 {bm' : List Nat} {L' : Lay} {w' : World} (hp : Pres bm L w bm' L' w' []) {p : PV} {v : Value} (h : VRel bm L w p v) : VRel bm' L' w' p v := by
  have := VRel.pres p bm bm' hp v h
  rwa [PV.poison_nil] at this
theorem LRel.pres0 {bm' : List Nat} {L' : Lay} {w' : World} (hp : Pres bm L w bm' L' w' []) {p : List PV} {v : List Value} (h : LRel bm L w p v) : LRel bm' L' w' p v := by
  have := LRel.pres p bm bm' hp v h
  rwa [PV.poisonL_nil] at this

theorem Sim.block_lt (h : Sim bm L s a w) {k b : Nat} (hb : bm[k]? = some b) : b < w.heap.size := by
  have hk : k < s.boxes.length := by rw [← h.bml]; exact (List.getElem?_eq_some_iff.1 hb).1
  obtain ⟨_, C, el, hC, _⟩ := h.boxes k b _ hb (List.getElem?_eq_getElem hk)
  exact (Array.getElem?_eq_some_iff.1 hC).1

/-- A new block that a slice lies in. -/
theorem Sim.row (h : Sim bm L s a w) {w1 : World} {C : Array Value} {el : TypeId} (hw : w1.heap = w.heap.push (.cells C el (0, 0))) {f : Nat} (hf : s.n0 ≤ f ∧ f < s.next + 1) (T : Nat) (tips : List (Nat × Nat × Nat)) (htips : ∀ x, x ∈ tips → x = (s.next, f, T) ∨ x ∈ s.tips) :
    Sim bm (L.row w.heap.size f T) { s with next := s.next + 1, tips := tips } a w1 := by
  have hp := Pres.newRow h.base bm hw f T
  refine ⟨fun t => VRel.pres0 hp (h.slots t), h.nt, h.defers, by simp [Lay.row, h.nx], h.base.row hw (by rw [h.nx]; exact hf.2) T, h.bml, h.bmn, ?_, ?_, ?_, ?_⟩
  · intro k b cs hb hc
    have hlt := h.block_lt hb
    obtain ⟨h1, C', el', h2, h3, h4⟩ := h.boxes k b cs hb hc
    exact ⟨by simp only [Lay.row]; rw [if_neg (by omega)]; exact h1, C', el', by rw [heap_old hw hlt]; exact h2, LRel.pres0 hp h3, h4⟩
  · have key : ∀ g f' T', (g, f', T') ∈ s.tips → ((L.row w.heap.size f T).pl g).1 = (L.pl g).1 ∧ (L.pl g).1 < w.heap.size := by
      intro g f' T' hg
      obtain ⟨h1, _, b, base, h2, h3, h4, h5⟩ := h.tips g f' T' hg
      have hb := (h.base.fam b f' h3).2
      refine ⟨by simp only [Lay.row]; rw [if_neg (by omega)], by rw [h2]; exact hb⟩
    have hnew : ((L.row w.heap.size f T).pl s.next).1 = w.heap.size := by simp [Lay.row, h.nx]
    intro x y hx hy hxy
    rcases htips x hx with ex | hx' <;> rcases htips y hy with ey | hy'
    · rw [ex, ey]
    · obtain ⟨k1, k2⟩ := key y.1 y.2.1 y.2.2 hy'
      rw [ex] at hxy; rw [k1, hnew] at hxy; omega
    · obtain ⟨k1, k2⟩ := key x.1 x.2.1 x.2.2 hx'
      rw [ey] at hxy; rw [k1, hnew] at hxy; omega
    · rw [(key x.1 x.2.1 x.2.2 hx').1, (key y.1 y.2.1 y.2.2 hy').1] at hxy
      exact h.tipsN x y hx' hy' hxy
  · intro g f' T' hg
    rcases htips _ hg with e | hg
    · cases e
      refine ⟨by simp [Lay.row, h.nx], by simp [Lay.row, h.nx]; omega, w.heap.size, 0, by simp [Lay.row, h.nx], by simp [Lay.row], hf.1, by simp [Lay.row]⟩
    · obtain ⟨h1, h1', b, base, h2, h3, h4, h5⟩ := h.tips g f' T' hg
      have hb := (h.base.fam b f' h3).2
      refine ⟨by simp [Lay.row]; omega, by simp [Lay.row]; omega, b, base, by simp only [Lay.row]; rw [if_neg (by omega)]; exact h2, ?_, h4, ?_⟩ <;> simp only [Lay.row] <;> rw [if_neg (by omega)] <;> assumption
  · have := h.n0; exact ⟨this.1, by simp; omega⟩

/-- What lies in the new block reads as a slice. -/
theorem VRel.row (hb : Base L w) {w1 : World} {C : Array Value} {el : TypeId} (hw : w1.heap = w.heap.push (.cells C el (0, 0))) (f : Nat) (m cap : Nat) (es : List PV) (hcap : es.length ≤ cap) (hC : cap * m ≤ C.size)
    (hes : ∀ (j : Nat) (e : PV), es[j]? = some e → e.cells.length = m ∧ ∀ (t : Nat) (c : PV), e.cells[t]? = some c → ∃ v, C[j * m + t]? = some v ∧ v.oneCell' = true ∧ VRel [] L w c v) :
    VRel bm (L.row w.heap.size f (es.length * m)) w1 (.sl ⟨f, L.nx, 0⟩ m es) (.slice (some ⟨w.heap.size, 0, none⟩) es.length cap) := by
  have hp := Pres.newRow hb [] hw f (es.length * m)
  unfold VRel
  refine ⟨_, cap, rfl, .inr ⟨w.heap.size, 0, rfl, ⟨by simp [Lay.row], hb.pos, by simp [Lay.row], ⟨0, by simp [Lay.row], rfl⟩, by simp [Lay.row], hcap, C, el, (0, 0), heap_new hw, by omega⟩, ?_⟩⟩
  refine ERel.of_get fun j e he => ?_
  obtain ⟨h1, h2⟩ := hes j e he
  refine ⟨h1, KRel.of_get fun t c hc => ?_⟩
  obtain ⟨v, hv, hv1, hr⟩ := h2 t c hc
  refine ⟨v, ?_, hv1, VRel.pres0 hp hr⟩
  simp only [World.cell?, heap_new hw, Option.isSome_none, Bool.false_eq_true, if_false]
  simpa using hv

/-- A new box. -/
theorem Pres.box (bm : List Nat) (hb : Base L w) {w1 : World} {o : Obj} (hw : w1.heap = w.heap.push o) : Pres bm L w (bm ++ [w.heap.size]) L w1 [] := by
  refine ⟨?_, Nat.le_refl _, fun _ _ => rfl, fun _ _ h => h, fun _ _ _ => Nat.le_refl _, ?_, ?_, fun _ _ h => h⟩
  · intro k b h
    rw [List.getElem?_append_left (List.getElem?_eq_some_iff.1 h).1]; exact h
  · intro b f' hf _ off _; exact cell_of_heap (heap_old hw (hb.fam b f' hf).2)
  · intro b f' hf C el fz hC; exact ⟨C, by rw [heap_old hw (hb.fam b f' hf).2]; exact hC, rfl⟩

theorem Gua.box (hb : Base L w) (bm : List Nat) (n : Nat) (D : List Nat) {w1 : World} {o : Obj} (hw : w1.heap = w.heap.push o) (ho : w1.os = w.os) (ht : w1.tape = w.tape) (hout : w1.output = w.output) :
    Gua bm (bm ++ [w.heap.size]) n D L w L w1 := by
  have hp := Pres.box bm hb hw
  refine ⟨by simp [hw], ho, ht, hout, Nat.le_refl _, fun _ _ => rfl, fun _ _ => rfl, fun _ _ _ _ => rfl, fun b hlt _ _ _ => heap_old hw hlt, hp.row, hp.hbm, ?_, fun _ _ => rfl⟩
  intro b hb'
  rcases List.mem_append.1 hb' with e | e
  · exact .inl e
  · simp at e; exact .inr (by omega)

theorem Sim.box (h : Sim bm L s a w) {w1 : World} {C : Array Value} {el : TypeId} (hw : w1.heap = w.heap.push (.cells C el (0, 0))) {cs : List PV} (hc : LRel bm L w cs C.toList) (h1 : ∀ v ∈ C.toList, v.oneCell' = true) :
    Sim (bm ++ [w.heap.size]) L (s.pushBox cs) a w1 := by
  have hp := Pres.box bm h.base hw
  refine ⟨fun t => VRel.pres0 hp (h.slots t), h.nt, h.defers, h.nx, ⟨h.base.pos, ?_, ?_, ?_, fun b I hI => by
    obtain ⟨h1, es, c, h2, h3⟩ := h.base.mp b I hI
    exact ⟨h1, es, c, by rw [heap_old hw (h.base.mlt hI)]; exact h2, h3⟩⟩, by simp [St.pushBox, h.bml], ?_, ?_, h.tipsN, h.tips, h.n0⟩
  rotate_left 2
  · intro b C' hC'
    obtain ⟨⟨el', fz', h1⟩, h2⟩ := h.base.tab b C' hC'
    exact ⟨⟨el', fz', by rw [heap_old hw (h.base.fam b 0 h2).2]; exact h1⟩, h2⟩
  rotate_left 2
  · intro b f hf; have := h.base.fam b f hf; simp [hw]; omega
  · intro b f hf h0
    obtain ⟨C', el', h'⟩ := h.base.own b f hf h0
    exact ⟨C', el', by rw [heap_old hw (h.base.fam b f hf).2]; exact h'⟩
  · rw [List.nodup_append]
    refine ⟨h.bmn, by simp, ?_⟩
    intro x hx y hy e
    simp at hy
    obtain ⟨k, hk⟩ := List.mem_iff_getElem?.1 hx
    have := h.block_lt hk
    omega
  · intro k b cs' hb hcs
    simp only [St.pushBox] at hcs
    by_cases hk : k < bm.length
    · rw [List.getElem?_append_left hk] at hb
      rw [List.getElem?_append_left (by rw [← h.bml]; exact hk)] at hcs
      have hlt := h.block_lt hb
      obtain ⟨h2, C', el', h3, h4, h5⟩ := h.boxes k b cs' hb hcs
      exact ⟨h2, C', el', by rw [heap_old hw hlt]; exact h3, LRel.pres0 hp h4, h5⟩
    · have hk' : k = bm.length := by
        have := (List.getElem?_eq_some_iff.1 hb).1
        simp at this; omega
      subst hk'
      rw [List.getElem?_append_right (Nat.le_refl _)] at hb
      rw [h.bml, List.getElem?_append_right (Nat.le_refl _)] at hcs
      simp at hb hcs
      subst hb hcs
      refine ⟨?_, C, el, heap_new hw, LRel.pres0 hp hc, h1⟩
      cases hf : L.fam w.heap.size with
      | none => rfl
      | some f => have := (h.base.fam _ f hf).2; omega
end
end Go.Proofs.YtphndngifjgeoaaGreatDoor
